import Derived.Test.YteeinamngmmlbaaEng5
/-! What the evaluator says of one operation is what the machine does: conversions, maps. -/
set_option linter.unusedVariables false
set_option linter.unusedSimpArgs false
namespace Go.Eng
open Go
theorem pushBytes : ∀ (ns : List Int) (s : ByteArray), ns.foldl (fun r n => r.push (UInt8.ofNat n.toNat)) s = ⟨⟨s.data.toList ++ ns.map fun n => UInt8.ofNat n.toNat⟩⟩
  | [], s => by simp
  | n :: ns, s => by rw [List.foldl_cons, pushBytes ns]; simp
theorem bytesStr_res {P : Program} {w : World} {base : Option Addr} {n c : Nat} {K : ByteArray → Prop} (h : bytesStrK w.heap base n c K) :
    ∃ s, (Conv.bytesToString (.slice base n c)).run P w = .ok (.string s) w ∧ K s := by
  obtain ⟨cs, hcs, h⟩ := elems_run (P := P) h
  obtain ⟨l, hl, h⟩ := opt_spec h
  obtain ⟨ns, rfl, rfl⟩ := bytesV_spec hl
  have hcs := hcs w rfl
  refine ⟨_, ?_, h⟩
  cases base with
  | none =>
    have : ns = [] := by
      simp [Builtin.firstCells] at hcs
      exact hcs
    subst this; rfl
  | some a =>
    have h1 : (loadCells a n).run P w = .ok (ns.map (Value.int .u8)).toArray w := by simpa [Builtin.firstCells] using hcs
    rw [run_bytesToString w a n c ns h1, pushBytes]
    rfl
theorem conv_res {P : Program} {w : World} {src dst : TypeId} {x : Value} {K : Value → H → Prop} (h : convK P src dst x w.heap K) :
    ResV w K ((convert src dst x).run P w) := by
  unfold convK at h
  split at h
  · rename_i k' k j n hs hd
    exact ⟨_, w, by simp [convert, und hs, und hd, Conv.intToInt], Rest.refl w, h⟩
  · rename_i s hs hd
    exact ⟨_, w, by simp [convert, und hs, und hd], Rest.refl w, h⟩
  · rename_i e s hs hd
    split at h
    · rename_i he
      obtain ⟨v, w', hr, h1, b, l, c, rfl, h2⟩ := strBytes_res (P := P) h
      exact ⟨_, w', by simp [convert, und hs, und hd, und he, hr], h1, h2⟩
    · exact h.elim
  · rename_i e b n c hs hd
    split at h
    · rename_i he
      obtain ⟨s, hr, h⟩ := bytesStr_res (P := P) (w := w) h
      exact ⟨_, w, by rw [run_convert_bytes_string w src dst e b n c hs he hd, hr], Rest.refl w, h⟩
    · exact h.elim
  · exact h.elim

/-! maps -/
theorem keyOk_run {P : Program} {w : World} {t : TypeId} {k : Value} (h : keyOk P t k = true) (b : Bool) (n : Nat) : (Instr.checkKey b (n + 1) t k).run P w = .ok () w := by
  unfold keyOk at h
  split at h
  · rename_i hu; simp [Instr.checkKey, und hu]
  · rename_i hu; simp [Instr.checkKey, und hu]
  · simp at h
theorem find_now {P : Program} {t : TypeId} {k : Value} (h : keyOk P t k = true) : ∃ d, P.underlying t = some d ∧ ∀ (es : List MapEntry) (i : Nat) (f : Option (Nat × Value)), findE k es i = some f → Instr.findNow d k es i = some f := by
  have key : ∀ d, (∀ v r, eqK k v = some r → Instr.sameNow d k v = some r) → ∀ (es : List MapEntry) (i : Nat) (f : Option (Nat × Value)), findE k es i = some f → Instr.findNow d k es i = some f := by
    intro d hd es
    induction es with
    | nil => intro i f hf; simpa only [findE, Instr.findNow] using hf
    | cons e es ih =>
      intro i f hf
      simp only [findE] at hf
      simp only [Instr.findNow]
      cases he : eqK k e.key with
      | none => rw [he] at hf; simp at hf
      | some r =>
        rw [hd _ _ he]
        rw [he] at hf
        cases r with
        | true => exact hf
        | false => exact ih _ _ hf
  unfold keyOk at h
  split at h
  · rename_i k' j n hu
    refine ⟨_, hu, key _ ?_⟩
    intro v r hv
    cases v <;> simp only [eqK] at hv <;> first | (simp at hv; done) | simpa only [Instr.sameNow] using hv
  · rename_i s hu
    refine ⟨_, hu, key _ ?_⟩
    intro v r hv
    cases v <;> simp only [eqK] at hv <;> first | (simp at hv; done) | simpa only [Instr.sameNow] using hv
  · simp at h
theorem findKey_run {P : Program} {w : World} {t : TypeId} {k : Value} {es : List MapEntry} {f : Option (Nat × Value)} (hk : keyOk P t k = true) (h : findE k es 0 = some f) : (Instr.findKey t k es).run P w = .ok f w := by
  obtain ⟨d, hu, hf⟩ := find_now hk
  simp only [Instr.findKey, Sem.run_bind, und hu, Result.andThen_ok, hf es 0 f h, Sem.run_pure]
theorem findE_same {k : Value} : ∀ {es : List MapEntry} {j i : Nat} {v : Value}, findE k es j = some (some (i, v)) → ∃ e, es[i - j]? = some e ∧ j ≤ i ∧ eqK k e.key = some true
  | [], j, i, v, h => by simp [findE] at h
  | e :: es, j, i, v, h => by
    simp only [findE] at h
    split at h
    · rename_i he
      simp only [Option.some.injEq, Prod.mk.injEq] at h
      obtain ⟨rfl, _⟩ := h
      exact ⟨e, by simp, Nat.le_refl _, he⟩
    · obtain ⟨e', h1, h2, h3⟩ := findE_same h
      refine ⟨e', ?_, by omega, h3⟩
      rw [show i - j = (i - (j + 1)) + 1 by omega]; simpa using h1
    · simp at h
theorem sameBits_key {k v : Value} (h : eqK k v = some true) : Instr.sameBits 10000 v k = true := by
  unfold eqK at h
  split at h
  · split at h
    · subst_vars; simp only [Option.some.injEq, beq_iff_eq] at h; subst h; simp [Instr.sameBits]
    · simp at h
  · simp only [Option.some.injEq, beq_toListBytes, beq_iff_eq] at h; simp [Instr.sameBits, beq_toListBytes, h]
  · simp at h
theorem getObj_run {P : Program} {w : World} {r : Nat} {es : Array MapEntry} {c : Nat} (h : w.heap[r]? = some (.map es c)) : (getObj r).run P w = .ok (.map es c) w := by
  simp [getObj, Sem.run, h]
theorem setObj_run {P : Program} {w : World} {r : Nat} {es : Array MapEntry} {c : Nat} (o : Obj) (h : w.heap[r]? = some (.map es c)) : (setObj r o).run P w = .ok () { w with heap := w.heap.setIfInBounds r o } := by
  simp [setObj, Sem.run, h]
theorem ldMap_spec {h : H} {r : Option Nat} {K : Array MapEntry → Nat → Prop} (hh : ldMap h r K) :
    ∃ es c, K es c ∧ (r = none ∧ es = #[] ∨ ∃ b, r = some b ∧ h[b]? = some (.map es c)) := by
  unfold ldMap at hh
  split at hh
  · exact ⟨_, _, hh, .inl ⟨rfl, rfl⟩⟩
  · split at hh
    · rename_i r es c hb
      exact ⟨_, _, hh, .inr ⟨_, rfl, hb⟩⟩
    · exact hh.elim
theorem look_res {P : Program} {w : World} {t kt et : TypeId} {r : Option Nat} {k : Value} {ok : Bool} {s : Sh} {K : Value → H → Prop} (ht : P.underlying t = some (.map kt et))
    (h : lookK P kt et w.heap r k s fun t => cur s fun v => K (match ok with | true => .tuple ⟨[v, .bool t]⟩ | false => v) w.heap) :
    ResV w K ((Instr.lookup t (.map r) k ok).run P w) := by
  rcases ifB_spec h with ⟨hk, h⟩ | ⟨_, h⟩
  · obtain ⟨es, c, h, hor⟩ := ldMap_spec h
    obtain ⟨i, z, hi, hz, h⟩ := zeroOf_spec h
    obtain ⟨f, hf, h⟩ := opt_spec h
    have h := elF_cur s _ _ h
    refine ⟨_, w, ?_, Rest.refl w, h⟩
    have hfk := findKey_run (w := w) hk hf
    cases r with
    | none =>
      have hes : es = #[] := by rcases hor with ⟨_, h⟩ | ⟨b, h, _⟩; exact h; cases h
      subst hes
      simp only [Instr.lookup, Sem.run_bind, und ht, Result.andThen_ok, Sem.run_pure, keyOk_run hk, hfk]
      cases f <;> cases ok <;> simp [zero_run hi hz]
    | some b =>
      have hb : w.heap[b]? = some (.map es c) := by rcases hor with ⟨h, _⟩ | ⟨b', h, h'⟩; cases h; cases h; exact h'
      simp only [Instr.lookup, Sem.run_bind, und ht, Result.andThen_ok, Sem.run_pure, getObj_run hb, keyOk_run hk, hfk]
      cases f <;> cases ok <;> simp [zero_run hi hz]
  · exact h.elim
theorem put_res {P : Program} {w : World} {t kt et : TypeId} {m k v : Value} {K : H → Prop} (ht : P.underlying t = some (.map kt et)) (h : putMapK P kt w.heap m k v K) :
    ∃ w', (Instr.mapUpdate t m k v).run P w = .ok () w' ∧ Rest w w' ∧ K w'.heap := by
  rcases ifB_spec h with ⟨hk, h1⟩ | ⟨_, h1⟩
  · clear h
    obtain ⟨r, rfl, h2⟩ := asM_spec h1
    clear h1
    obtain ⟨r, rfl, h⟩ := opt_spec h2
    clear h2
    split at h
    · rename_i es c hb
      obtain ⟨f, hf, h⟩ := opt_spec h
      refine ⟨{ w with heap := w.heap.setIfInBounds r (mapPut es c k v f) }, ?_, ⟨rfl, rfl, rfl⟩, h⟩
      have hfk := findKey_run (w := w) hk hf
      cases f with
      | none =>
        simp only [Instr.mapUpdate, Sem.run_bind, und ht, Result.andThen_ok, getObj_run hb, keyOk_run hk, hfk, setObj_run _ hb]
        rfl
      | some x =>
        obtain ⟨i, u⟩ := x
        obtain ⟨e, he, _, hs⟩ := findE_same hf
        have he' : es[i]? = some e := by simpa using he
        simp only [Instr.mapUpdate, Sem.run_bind, und ht, Result.andThen_ok, getObj_run hb, keyOk_run hk, hfk, he', Option.map_some, Option.getD_some, Instr.keyThatStays, sameBits_key hs, if_true, Sem.run_pure, setObj_run _ hb]
        rfl
    · exact h.elim
  · exact h1.elim
theorem del_res {P : Program} {w : World} {t u ty kt et : TypeId} {m k : Value} {K : H → Prop} (ht : P.underlying t = some (.map kt et)) (h : delMapK P kt w.heap m k K) :
    ResV w (fun v h => v = .tuple #[] ∧ K h) ((Builtin.delete_ #[t, u] ty #[m, k]).run P w) := by
  rcases ifB_spec h with ⟨hk, h1⟩ | ⟨_, h1⟩
  · clear h
    obtain ⟨r, rfl, h2⟩ := asM_spec h1
    clear h1
    obtain ⟨r, rfl, h⟩ := opt_spec h2
    clear h2
    split at h
    · rename_i es c hb
      obtain ⟨f, hf, h⟩ := opt_spec h
      refine ⟨.tuple #[], { w with heap := w.heap.setIfInBounds r (mapDel es c f) }, ?_, ⟨rfl, rfl, rfl⟩, rfl, h⟩
      have hfk := findKey_run (w := w) hk hf
      cases f with
      | none => simp only [Builtin.delete_, List.getElem?_toArray, List.getElem?_cons_zero, List.getElem?_cons_succ, Sem.run_bind, und ht, Result.andThen_ok, getObj_run hb, keyOk_run hk, hfk, setObj_run _ hb, Sem.run_pure]; rfl
      | some x =>
        obtain ⟨i, u⟩ := x
        simp only [Builtin.delete_, List.getElem?_toArray, List.getElem?_cons_zero, List.getElem?_cons_succ, Sem.run_bind, und ht, Result.andThen_ok, getObj_run hb, keyOk_run hk, hfk, setObj_run _ hb, Sem.run_pure]; rfl
    · exact h.elim
  · exact h1.elim
end Go.Eng
