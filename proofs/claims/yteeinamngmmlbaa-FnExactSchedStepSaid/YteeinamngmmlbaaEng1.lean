import Derived.Test.YteeinamngmmlbaaEng0
/-! What the evaluator says of one operation is what the machine does. -/
set_option linter.unusedVariables false
set_option linter.unusedSimpArgs false
namespace Go.Eng
open Go

structure Rest (w w' : World) : Prop where
  os : w'.os = w.os
  tape : w'.tape = w.tape
  output : w'.output = w.output
theorem Rest.refl (w : World) : Rest w w := ⟨rfl, rfl, rfl⟩
theorem Rest.trans {a b c : World} (h : Rest a b) (h' : Rest b c) : Rest a c := ⟨h'.os.trans h.os, h'.tape.trans h.tape, h'.output.trans h.output⟩

theorem cell?_eq (w : World) (b o : Nat) : w.cell? ⟨b, o, none⟩ = cell w.heap b o := by
  simp only [World.cell?, cell]; split <;> simp_all
theorem put_eq (w : World) (b o : Nat) (v : Value) : (w.setCell ⟨b, o, none⟩ v).heap = put w.heap b o v := by
  simp only [World.setCell, put]
  congr 1
theorem wr_spec {w : World} {b o : Nat} (h : wr w.heap b o) : (∃ v, w.cell? ⟨b, o, none⟩ = some v) ∧ w.frozen? ⟨b, o, none⟩ = false := by
  obtain ⟨c, e, f, hb, ho, hf⟩ := h
  refine ⟨⟨c[o], by simp [World.cell?, hb, ho]⟩, ?_⟩
  simp only [World.frozen?, hb]
  simp only [Bool.and_eq_false_iff, decide_eq_false_iff_not]
  by_cases h1 : f.1 ≤ o
  · right; exact fun h2 => hf ⟨h1, h2⟩
  · left; exact h1
theorem setCell_rest (w : World) (a : Addr) (v : Value) : Rest w (w.setCell a v) := ⟨rfl, rfl, rfl⟩

def Match (e : Env) (tmps : Array Value) : Prop := ∀ i v, get e i = some v → tmps[i]? = some v

theorem opt_spec {α : Type} {x : Option α} {K : α → Prop} (h : opt x K) : ∃ a, x = some a ∧ K a := by
  cases x with
  | none => exact h.elim
  | some a => exact ⟨a, rfl, h⟩
theorem req_spec {p : Prop} [Decidable p] {K : Prop} (h : req p K) : p ∧ K := by
  unfold req at h; split at h
  · exact ⟨‹_›, h⟩
  · exact h.elim
theorem ifB_spec {b : Bool} {p q : Prop} (h : ifB b p q) : (b = true ∧ p) ∨ (b = false ∧ q) := by
  cases b
  · exact .inr ⟨rfl, h⟩
  · exact .inl ⟨rfl, h⟩
theorem asI_spec {k : IntKind} {v : Value} {K : Int → Prop} (h : asI k v K) : ∃ n, v = .int k n ∧ K n := by
  unfold asI at h; split at h
  · split at h
    · subst_vars; exact ⟨_, rfl, h⟩
    · exact h.elim
  · exact h.elim
theorem asB_spec {v : Value} {K : Bool → Prop} (h : asB v K) : ∃ n, v = .bool n ∧ K n := by
  unfold asB at h; split at h
  · exact ⟨_, rfl, h⟩
  · exact h.elim
theorem asS_spec {v : Value} {K : ByteArray → Prop} (h : asS v K) : ∃ n, v = .string n ∧ K n := by
  unfold asS at h; split at h
  · exact ⟨_, rfl, h⟩
  · exact h.elim
theorem asP_spec {v : Value} {K : Option Addr → Prop} (h : asP v K) : ∃ n, v = .pointer n ∧ K n := by
  unfold asP at h; split at h
  · exact ⟨_, rfl, h⟩
  · exact h.elim
theorem asL_spec {v : Value} {K : Option Addr → Nat → Nat → Prop} (h : asL v K) : ∃ a l c, v = .slice a l c ∧ K a l c := by
  unfold asL at h; split at h
  · exact ⟨_, _, _, rfl, h⟩
  · exact h.elim
theorem asM_spec {v : Value} {K : Option Nat → Prop} (h : asM v K) : ∃ n, v = .map n ∧ K n := by
  unfold asM at h; split at h
  · exact ⟨_, rfl, h⟩
  · exact h.elim
theorem nz_spec {p : Option Addr} {K : Nat → Nat → Prop} (h : nz p K) : ∃ b o, p = some ⟨b, o, none⟩ ∧ K b o := by
  unfold nz at h; split at h
  · exact ⟨_, _, rfl, h⟩
  · exact h.elim
theorem deref_spec {v : Value} {K : Nat → Nat → Prop} (h : deref v K) : ∃ b o, v = .pointer (some ⟨b, o, none⟩) ∧ K b o := by
  obtain ⟨p, rfl, h⟩ := asP_spec h
  obtain ⟨b, o, rfl, h⟩ := nz_spec h
  exact ⟨b, o, rfl, h⟩

theorem rd_spec {e : Env} {a : Act} (hm : Match e a.tmps) {x : Operand} {K : Value → Prop} (h : rd e x K) : K (a.eval x) := by
  cases x with
  | tmp t =>
    obtain ⟨v, hv, h⟩ := opt_spec h
    have := hm t v hv
    simpa [Act.eval, this] using h
  | const v => exact h
  | global g => exact h
  | func f => exact h
theorem rdL_spec {e : Env} {a : Act} (hm : Match e a.tmps) : ∀ {xs : List Operand} {K : List Value → Prop}, rdL e xs K → K (xs.map a.eval)
  | [], _, h => h
  | _ :: xs, _, h => rdL_spec hm (xs := xs) (rd_spec hm h)
theorem rdParts_spec {e : Env} {a : Act} (hm : Match e a.tmps) : ∀ {xs : List (Nat × Operand)} {K : List (Nat × Value) → Prop}, rdParts e xs K → K (xs.map fun p => (p.1, a.eval p.2))
  | [], _, h => h
  | (_, _) :: xs, _, h => rdParts_spec hm (xs := xs) (rd_spec hm h)

/-! shapes: a value that is handed on by its parts is that value -/
mutual
theorem mapF_cur {R S : Type} (g : R → S) : ∀ (s : Sh) (K : Value → R), mapF s g (cur s K) = cur s fun v => g (K v)
  | .int _, K => rfl
  | .bool, K => rfl
  | .str, K => rfl
  | .ptr, K => rfl
  | .adr, K => rfl
  | .blk, K => rfl
  | .slice, K => rfl
  | .map, K => rfl
  | .any, K => rfl
  | .fn f l, K => mapFL_curL g l _
  | .agg l, K => mapFL_curL g l _
  | .tuple l, K => mapFL_curL g l _
theorem mapFL_curL {R S : Type} (g : R → S) : ∀ (l : List Sh) (K : List Value → R), mapFL l g (curL l K) = curL l fun v => g (K v)
  | [], K => rfl
  | s :: l, K => by
    simp only [mapFL, curL]
    rw [mapF_cur (R := FnL R l) (S := FnL S l) (fun k => mapFL l g k) s]
    congr 1; funext v; exact mapFL_curL g l _
end
theorem elF_int (k : IntKind) (v : Value) (K : Value → Prop) : elF False (.int k) v (cur (.int k) K) = (match v with | .int k' n => if k' = k then K (.int k n) else False | _ => False) := rfl
theorem elF_bool (v : Value) (K : Value → Prop) : elF False .bool v (cur .bool K) = (match v with | .bool n => K (.bool n) | _ => False) := rfl
theorem elF_str (v : Value) (K : Value → Prop) : elF False .str v (cur .str K) = (match v with | .string n => K (.string n) | _ => False) := rfl
theorem elF_ptr (v : Value) (K : Value → Prop) : elF False .ptr v (cur .ptr K) = (match v with | .pointer n => K (.pointer n) | _ => False) := rfl
theorem elF_adr (v : Value) (K : Value → Prop) : elF False .adr v (cur .adr K) = (match v with | .pointer (some ⟨b, o, none⟩) => K (.pointer (some ⟨b, o, none⟩)) | _ => False) := rfl
theorem elF_blk (v : Value) (K : Value → Prop) : elF False .blk v (cur .blk K) = (match v with | .pointer (some ⟨b, 0, none⟩) => K (.pointer (some ⟨b, 0, none⟩)) | _ => False) := rfl
theorem elF_slice (v : Value) (K : Value → Prop) : elF False .slice v (cur .slice K) = (match v with | .slice a l c => K (.slice a l c) | _ => False) := rfl
theorem elF_map (v : Value) (K : Value → Prop) : elF False .map v (cur .map K) = (match v with | .map n => K (.map n) | _ => False) := rfl
theorem elF_any (v : Value) (K : Value → Prop) : elF False .any v (cur .any K) = K v := rfl
theorem elF_fn (f : Nat) (l : List Sh) (v : Value) (K : Value → Prop) : elF False (.fn f l) v (cur (.fn f l) K) = (match v with | .func (.func g) ⟨[]⟩ c => if g = f then elFL False l c.toList (curL l fun vs => K (.func (.func f) #[] ⟨vs⟩)) else False | _ => False) := rfl
theorem elF_agg (l : List Sh) (v : Value) (K : Value → Prop) : elF False (.agg l) v (cur (.agg l) K) = (match v with | .agg c => elFL False l c.toList (curL l fun vs => K (.agg ⟨vs⟩)) | _ => False) := rfl
theorem elF_tuple (l : List Sh) (v : Value) (K : Value → Prop) : elF False (.tuple l) v (cur (.tuple l) K) = (match v with | .tuple c => elFL False l c.toList (curL l fun vs => K (.tuple ⟨vs⟩)) | _ => False) := rfl
theorem elFL_nil (K : List Value → Prop) : elFL False [] [] (curL [] K) = K [] := rfl
theorem elFL_nil_cons (v : Value) (vs : List Value) (K : List Value → Prop) : elFL False [] (v :: vs) (curL [] K) = False := rfl
theorem elFL_cons_nil (s : Sh) (l : List Sh) (K : List Value → Prop) : elFL False (s :: l) [] (curL (s :: l) K) = False := rfl
theorem elFL_cons (s : Sh) (l : List Sh) (v : Value) (vs : List Value) (K : List Value → Prop) : elFL False (s :: l) (v :: vs) (curL (s :: l) K) = elF False s v (cur s fun v => elFL False l vs (curL l fun vs => K (v :: vs))) := by
  have h : elFL False (s :: l) (v :: vs) (curL (s :: l) K) = elF False s v (mapF s (fun k => elFL False l vs k) (cur s fun v => curL l fun vs => K (v :: vs))) := rfl
  rw [h, mapF_cur]
theorem elF_both : (∀ (s : Sh) (v : Value) (K : Value → Prop), elF False s v (cur s K) → K v) ∧ (∀ (l : List Sh) (vs : List Value) (K : List Value → Prop), elFL False l vs (curL l K) → K vs) := by
  have nilc : ∀ (vs : List Value) (K : List Value → Prop), elFL False [] vs (curL [] K) → K vs := by
    intro vs K h
    cases vs with
    | nil => rw [elFL_nil] at h; exact h
    | cons v vs => rw [elFL_nil_cons] at h; exact h.elim
  have consc : ∀ (s : Sh) (l : List Sh), (∀ (v : Value) (K : Value → Prop), elF False s v (cur s K) → K v) → (∀ (vs : List Value) (K : List Value → Prop), elFL False l vs (curL l K) → K vs) →
      ∀ (vs : List Value) (K : List Value → Prop), elFL False (s :: l) vs (curL (s :: l) K) → K vs := by
    intro s l ihs ihl vs K h
    cases vs with
    | nil => rw [elFL_cons_nil] at h; exact h.elim
    | cons v vs => rw [elFL_cons] at h; exact ihl vs _ (ihs v _ h)
  have key : ∀ s : Sh, ∀ (v : Value) (K : Value → Prop), elF False s v (cur s K) → K v := by
    intro s
    refine Sh.rec (motive_1 := fun s => ∀ (v : Value) (K : Value → Prop), elF False s v (cur s K) → K v) (motive_2 := fun l => ∀ (vs : List Value) (K : List Value → Prop), elFL False l vs (curL l K) → K vs)
      ?_ ?_ ?_ ?_ ?_ ?_ ?_ ?_ ?_ ?_ ?_ ?_ nilc (fun s l ihs ihl => consc s l ihs ihl) s
    · intro k v K h
      rw [elF_int] at h; split at h
      · split at h
        · subst_vars; exact h
        · exact h.elim
      · exact h.elim
    · intro v K h; rw [elF_bool] at h; split at h <;> first | exact h | exact h.elim
    · intro v K h; rw [elF_str] at h; split at h <;> first | exact h | exact h.elim
    · intro v K h; rw [elF_ptr] at h; split at h <;> first | exact h | exact h.elim
    · intro v K h; rw [elF_adr] at h; split at h <;> first | exact h | exact h.elim
    · intro v K h; rw [elF_blk] at h; split at h <;> first | exact h | exact h.elim
    · intro v K h; rw [elF_slice] at h; split at h <;> first | exact h | exact h.elim
    · intro v K h; rw [elF_map] at h; split at h <;> first | exact h | exact h.elim
    · intro v K h; rw [elF_any] at h; exact h
    · intro f l ih v K h
      rw [elF_fn] at h; split at h
      · split at h
        · subst_vars; exact ih _ _ h
        · exact h.elim
      · exact h.elim
    · intro l ih v K h
      rw [elF_agg] at h; split at h
      · exact ih _ _ h
      · exact h.elim
    · intro l ih v K h
      rw [elF_tuple] at h; split at h
      · exact ih _ _ h
      · exact h.elim
  refine ⟨key, fun l => ?_⟩
  induction l with
  | nil => exact nilc
  | cons s l ih => exact consc s l (key s) ih
theorem elF_cur (s : Sh) (v : Value) (K : Value → Prop) (h : elF False s v (cur s K)) : K v := elF_both.1 s v K h
theorem elFL_curL (l : List Sh) (vs : List Value) (K : List Value → Prop) (h : elFL False l vs (curL l K)) : K vs := elF_both.2 l vs K h

/-! memory -/
theorem ldF_spec {h : H} {b o : Nat} {s : Sh} {K : Value → Prop} (hh : ldF h b o s (cur s K)) : ∃ v, cell h b o = some v ∧ K v := by
  obtain ⟨v, hv, hh⟩ := opt_spec hh
  exact ⟨v, hv, elF_cur s v K hh⟩
def rowIs (h : H) (b o : Nat) : Nat → List Value → Prop
  | _, [] => True
  | j, v :: vs => cell h b (o + j) = some v ∧ rowIs h b o (j + 1) vs
theorem ldRow_spec {h : H} {b o : Nat} : ∀ {l : List Sh} {j : Nat} {K : List Value → Prop}, ldRow h b o j l (curL l K) → ∃ vs, vs.length = l.length ∧ rowIs h b o j vs ∧ K vs
  | [], _, K, hh => ⟨[], rfl, trivial, hh⟩
  | s :: l, j, K, hh => by
    simp only [ldRow, curL] at hh
    rw [mapF_cur] at hh
    obtain ⟨v, hv, hh⟩ := ldF_spec hh
    obtain ⟨vs, hl, hr, hh⟩ := ldRow_spec hh
    exact ⟨v :: vs, by simp [hl], ⟨hv, hr⟩, hh⟩
theorem rowIs_get {h : H} {b o : Nat} : ∀ {vs : List Value} {j : Nat}, rowIs h b o j vs → ∀ i v, vs[i]? = some v → cell h b (o + j + i) = some v
  | [], _, _, i, v, hv => by simp at hv
  | x :: vs, j, hr, 0, v, hv => by simp at hv; subst hv; simpa using hr.1
  | x :: vs, j, hr, i + 1, v, hv => by
    have := rowIs_get hr.2 i v (by simpa using hv)
    rw [show o + j + (i + 1) = o + (j + 1) + i by omega]; exact this
theorem run_loadCellsFrom_row (P : Program) (w : World) (b o : Nat) : ∀ (vs : List Value) (j : Nat) (acc : Array Value), rowIs w.heap b o j vs →
    (loadCellsFrom ⟨b, o, none⟩ j vs.length acc).run P w = .ok (acc ++ vs.toArray) w
  | [], j, acc, _ => by simp [loadCellsFrom]
  | v :: vs, j, acc, hr => by
    have h1 : w.cell? (Addr.add ⟨b, o, none⟩ j) = some v := by rw [Addr.add_lit, cell?_eq]; exact hr.1
    simp only [loadCellsFrom, List.length_cons, Sem.run_bind, run_load, h1, Result.andThen_ok]
    rw [run_loadCellsFrom_row P w b o vs (j + 1) _ hr.2]
    simp
theorem run_loadCells_row (P : Program) (w : World) (b o : Nat) (vs : List Value) (hr : rowIs w.heap b o 0 vs) :
    (loadCells ⟨b, o, none⟩ vs.length).run P w = .ok vs.toArray w := by
  simp only [loadCells, run_loadCellsFrom_row P w b o vs 0 #[] hr]; simp

theorem run_store_put (P : Program) (w : World) (b o : Nat) (v : Value) (h1 : one v = true) (hw : wr w.heap b o) :
    (store ⟨b, o, none⟩ v).run P w = .ok () (w.setCell ⟨b, o, none⟩ v) := by
  obtain ⟨⟨u, hu⟩, hf⟩ := wr_spec hw
  rw [run_store P w _ v .plain (by cases v <;> simp_all [one, Value.oneCell']), hu]
  simp [hf]
theorem stRow_spec {P : Program} {b o : Nat} : ∀ {vs : List Value} {j : Nat} {w : World} {K : H → Prop}, stRow w.heap b o j vs K →
    ∃ w', (storeCells ⟨b, o, none⟩ vs j).run P w = .ok () w' ∧ Rest w w' ∧ K w'.heap
  | [], j, w, K, hh => ⟨w, by simp [storeCells], Rest.refl w, hh⟩
  | v :: vs, j, w, K, hh => by
    simp only [stRow] at hh
    rcases ifB_spec hh with ⟨h1, hh⟩ | ⟨_, hh⟩
    · obtain ⟨hw, hh⟩ := hh
      rw [← put_eq] at hh
      obtain ⟨w', hr, hrest, hK⟩ := stRow_spec (P := P) hh
      refine ⟨w', ?_, (setCell_rest w _ v).trans hrest, hK⟩
      simp only [storeCells, Sem.run_bind, Addr.add_lit, run_store_put P w b (o + j) v h1 hw, Result.andThen_ok, hr]
    · exact hh.elim

/-! what an operation comes to -/
def Res (P : Program) (w : World) (K : Value → H → Prop) : Result Next → Prop
  | .ok (.value v) w' => Rest w w' ∧ K v w'.heap
  | .ok .skip w' => Rest w w' ∧ K undef w'.heap
  | .ok (.enter f args) w' => Rest w w' ∧ callK P f args w'.heap K
  | _ => False
/-- a sem that hands back a value -/
def ResV (w : World) (K : Value → H → Prop) (r : Result Value) : Prop := ∃ v w', r = .ok v w' ∧ Rest w w' ∧ K v w'.heap
/-- .. and leaves the world as it is -/
def ResQ (w : World) (K : Value → H → Prop) (r : Result Value) : Prop := ∃ v w', r = .ok v w' ∧ w' = w ∧ K v w'.heap
theorem ResQ.toV {w : World} {K : Value → H → Prop} {r : Result Value} (h : ResQ w K r) : ResV w K r := by
  obtain ⟨v, w', hr, rfl, hk⟩ := h
  exact ⟨v, w', hr, Rest.refl w', hk⟩
theorem Res.of_value {P : Program} {w : World} {K : Value → H → Prop} {s : Sem Value} (h : ResV w K (s.run P w)) : Res P w K ((do pure (Next.value (← s)) : Sem Next).run P w) := by
  obtain ⟨v, w', hr, h1, h2⟩ := h
  simp only [Sem.run_bind, hr, Result.andThen_ok, Sem.run_pure]
  exact ⟨h1, h2⟩
theorem ResV.pure {P : Program} {w : World} {K : Value → H → Prop} {v : Value} (h : K v w.heap) : ResV w K ((Pure.pure v : Sem Value).run P w) := ⟨v, w, rfl, Rest.refl w, h⟩

theorem und {P : Program} {t : TypeId} {w : World} {d : TypeDesc} (h : P.underlying t = some d) : (underlying t).run P w = .ok d w := run_underlying h w
/-- a type's cells, by its shape -/
theorem ifB_eq (b : Bool) (p q : Prop) : ifB b p q = match b with | true => p | false => q := rfl
theorem isAgg_run (P : Program) (t : TypeId) (w : World) (d : TypeDesc) (h : P.underlying t = some d) : (isAgg t).run P w = .ok (aggD d) w := by
  simp only [isAgg, Sem.run_bind, und h, Result.andThen_ok]
  cases d <;> rfl
end Go.Eng
