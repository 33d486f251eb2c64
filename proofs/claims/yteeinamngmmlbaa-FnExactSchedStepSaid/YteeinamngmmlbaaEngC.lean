import Derived.Test.YteeinamngmmlbaaEngB
/-! Pieces by their variables; loops; functions. -/
set_option linter.unusedVariables false
set_option linter.unusedSimpArgs false
namespace Go.Eng
open Go

/-! what is said of every way to hand on the parts -/
mutual
def AllS {R : Type} : (s : Sh) → (Value → R → Prop) → Fn R s → Prop
  | .int k, Φ, K => ∀ n, Φ (.int k n) (K n)
  | .bool, Φ, K => ∀ n, Φ (.bool n) (K n)
  | .str, Φ, K => ∀ n, Φ (.string n) (K n)
  | .ptr, Φ, K => ∀ n, Φ (.pointer n) (K n)
  | .adr, Φ, K => ∀ b o, Φ (.pointer (some ⟨b, o, none⟩)) (K b o)
  | .blk, Φ, K => ∀ b, Φ (.pointer (some ⟨b, 0, none⟩)) (K b)
  | .slice, Φ, K => ∀ b l c, Φ (.slice b l c) (K b l c)
  | .map, Φ, K => ∀ n, Φ (.map n) (K n)
  | .any, Φ, K => ∀ v, Φ v (K v)
  | .fn f l, Φ, K => AllL l (fun vs r => Φ (.func (.func f) #[] ⟨vs⟩) r) K
  | .agg l, Φ, K => AllL l (fun vs r => Φ (.agg ⟨vs⟩) r) K
  | .tuple l, Φ, K => AllL l (fun vs r => Φ (.tuple ⟨vs⟩) r) K
def AllL {R : Type} : (l : List Sh) → (List Value → R → Prop) → FnL R l → Prop
  | [], Φ, K => Φ [] K
  | s :: l, Φ, K => AllS s (fun v (r : FnL R l) => AllL l (fun vs r => Φ (v :: vs) r) r) K
end
def AllV : (l : Vars) → (Env → (H → Prop) → Prop) → FnV (H → Prop) l → Prop
  | [], Φ, K => Φ [] K
  | (i, s) :: l, Φ, K => AllS (R := FnV (H → Prop) l) s (fun v r => AllV l (fun e r => Φ ((i, v) :: e) r) r) K

mutual
theorem mapF_mapF {R S T : Type} (f : S → T) (g : R → S) : ∀ (s : Sh) (K : Fn R s), mapF s f (mapF s g K) = mapF s (fun r => f (g r)) K
  | .int _, K => rfl
  | .bool, K => rfl
  | .str, K => rfl
  | .ptr, K => rfl
  | .adr, K => rfl
  | .blk, K => rfl
  | .slice, K => rfl
  | .map, K => rfl
  | .any, K => rfl
  | .fn _ l, K => mapFL_mapFL f g l K
  | .agg l, K => mapFL_mapFL f g l K
  | .tuple l, K => mapFL_mapFL f g l K
theorem mapFL_mapFL {R S T : Type} (f : S → T) (g : R → S) : ∀ (l : List Sh) (K : FnL R l), mapFL l f (mapFL l g K) = mapFL l (fun r => f (g r)) K
  | [], K => rfl
  | s :: l, K => by
    have h1 : mapFL (s :: l) f (mapFL (s :: l) g K) = mapF (R := FnL S l) (S := FnL T l) s (fun k => mapFL l f k) (mapF (R := FnL R l) (S := FnL S l) s (fun k => mapFL l g k) K) := rfl
    have h2 := mapF_mapF (R := FnL R l) (S := FnL S l) (T := FnL T l) (fun k => mapFL l f k) (fun k => mapFL l g k) s K
    have h3 : (fun k : FnL R l => mapFL l f (mapFL l g k)) = fun k => mapFL l (fun r => f (g r)) k := funext fun k => mapFL_mapFL f g l k
    exact h1.trans (h2.trans (congrArg (fun F => mapF (R := FnL R l) (S := FnL T l) s F K) h3))
end
/-- handing on is: for some parts -/
theorem elF_all : ∀ (s : Sh) {R : Type} (v : Value) (Φ : Value → R → Prop) (K : Fn R s) (g : R → Prop), AllS s Φ K → elF False s v (mapF s g K) → ∃ r, Φ v r ∧ g r := by
  have nilc : ∀ {R : Type} (vs : List Value) (Φ : List Value → R → Prop) (K : FnL R []) (g : R → Prop), AllL [] Φ K → elFL False [] vs (mapFL [] g K) → ∃ r, Φ vs r ∧ g r := by
    intro R vs Φ K g ha h
    cases vs with
    | nil => exact ⟨K, ha, h⟩
    | cons v vs => exact False.elim h
  have consc : ∀ (s : Sh) (l : List Sh), (∀ {R : Type} (v : Value) (Φ : Value → R → Prop) (K : Fn R s) (g : R → Prop), AllS s Φ K → elF False s v (mapF s g K) → ∃ r, Φ v r ∧ g r) →
      (∀ {R : Type} (vs : List Value) (Φ : List Value → R → Prop) (K : FnL R l) (g : R → Prop), AllL l Φ K → elFL False l vs (mapFL l g K) → ∃ r, Φ vs r ∧ g r) →
      ∀ {R : Type} (vs : List Value) (Φ : List Value → R → Prop) (K : FnL R (s :: l)) (g : R → Prop), AllL (s :: l) Φ K → elFL False (s :: l) vs (mapFL (s :: l) g K) → ∃ r, Φ vs r ∧ g r := by
    intro s l ihs ihl R vs Φ K g ha h
    cases vs with
    | nil => exact False.elim h
    | cons v vs =>
      have h1 : elF False s v (mapF s (fun k => elFL False l vs k) (mapF (R := FnL R l) (S := FnL Prop l) s (fun k => mapFL l g k) K)) := h
      have h3 := mapF_mapF (R := FnL R l) (S := FnL Prop l) (T := Prop) (fun k => elFL False l vs k) (fun k => mapFL l g k) s K
      have h1 : elF False s v (mapF (R := FnL R l) s (fun k => elFL False l vs (mapFL l g k)) K) := Eq.mp (congrArg (elF False s v) h3) h1
      obtain ⟨r, hr, h2⟩ := ihs (R := FnL R l) v (fun v r => AllL l (fun vs r => Φ (v :: vs) r) r) K (fun k => elFL False l vs (mapFL l g k)) ha h1
      exact ihl vs (fun vs r => Φ (v :: vs) r) r g hr h2
  intro s
  refine Sh.rec (motive_1 := fun s => ∀ {R : Type} (v : Value) (Φ : Value → R → Prop) (K : Fn R s) (g : R → Prop), AllS s Φ K → elF False s v (mapF s g K) → ∃ r, Φ v r ∧ g r)
    (motive_2 := fun l => ∀ {R : Type} (vs : List Value) (Φ : List Value → R → Prop) (K : FnL R l) (g : R → Prop), AllL l Φ K → elFL False l vs (mapFL l g K) → ∃ r, Φ vs r ∧ g r)
    ?_ ?_ ?_ ?_ ?_ ?_ ?_ ?_ ?_ ?_ ?_ ?_ nilc (fun s l ihs ihl => consc s l ihs ihl) s
  · intro k R v Φ K g ha h
    cases v with
    | int k' n =>
      have h : if k' = k then g (K n) else False := h
      split at h
      · subst_vars; exact ⟨_, ha _, h⟩
      · exact h.elim
    | _ => exact False.elim h
  · intro R v Φ K g ha h
    cases v with
    | bool n => exact ⟨_, ha n, h⟩
    | _ => exact False.elim h
  · intro R v Φ K g ha h
    cases v with
    | string n => exact ⟨_, ha n, h⟩
    | _ => exact False.elim h
  · intro R v Φ K g ha h
    cases v with
    | pointer n => exact ⟨_, ha n, h⟩
    | _ => exact False.elim h
  · intro R v Φ K g ha h
    cases v with
    | pointer n =>
      match n, h with
      | none, h => exact False.elim h
      | some ⟨b, o, none⟩, h => exact ⟨_, ha b o, h⟩
      | some ⟨b, o, some _⟩, h => exact False.elim h
    | _ => exact False.elim h
  · intro R v Φ K g ha h
    cases v with
    | pointer n =>
      match n, h with
      | none, h => exact False.elim h
      | some ⟨b, 0, none⟩, h => exact ⟨_, ha b, h⟩
      | some ⟨b, _ + 1, none⟩, h => exact False.elim h
      | some ⟨b, 0, some _⟩, h => exact False.elim h
      | some ⟨b, _ + 1, some _⟩, h => exact False.elim h
    | _ => exact False.elim h
  · intro R v Φ K g ha h
    cases v with
    | slice b l c => exact ⟨_, ha b l c, h⟩
    | _ => exact False.elim h
  · intro R v Φ K g ha h
    cases v with
    | map n => exact ⟨_, ha n, h⟩
    | _ => exact False.elim h
  · intro R v Φ K g ha h
    exact ⟨_, ha v, h⟩
  · intro f l ih R v Φ K g ha h
    cases v with
    | func fn a c =>
      match fn, a, h with
      | .func g', ⟨[]⟩, h =>
        have h : if g' = f then elFL False l c.toList (mapFL l g K) else False := h
        split at h
        · subst_vars
          exact ih _ (fun vs r => Φ (.func (.func _) #[] ⟨vs⟩) r) K g ha h
        · exact h.elim
      | .func g', ⟨_ :: _⟩, h => exact False.elim h
      | .method _, _, h => exact False.elim h
      | .methodOf _ _, _, h => exact False.elim h
      | .via _ _ _ _, _, h => exact False.elim h
      | .yield _, _, h => exact False.elim h
    | _ => exact False.elim h
  · intro l ih R v Φ K g ha h
    cases v with
    | agg c => exact ih _ (fun vs r => Φ (.agg ⟨vs⟩) r) K g ha h
    | _ => exact False.elim h
  · intro l ih R v Φ K g ha h
    cases v with
    | tuple c => exact ih _ (fun vs r => Φ (.tuple ⟨vs⟩) r) K g ha h
    | _ => exact False.elim h
theorem elV_all : ∀ (l : Vars) (e : Env) (Φ : Env → (H → Prop) → Prop) (K : FnV (H → Prop) l) (h : H), AllV l Φ K → elV e l K h → ∃ e' r, Φ e' r ∧ r h ∧ ∀ tmps, Match e tmps → Match e' tmps
  | [], e, Φ, K, h, ha, hh => ⟨[], K, ha, hh, fun _ _ i v hi => by simp [get] at hi⟩
  | (i, s) :: l, e, Φ, K, h, ha, hh => by
    have hh : opt (get e i) fun v => elF False s v (mapF (R := FnV (H → Prop) l) (S := Prop) s (fun k => elV e l k h) K) := hh
    obtain ⟨v, hv, hh⟩ := opt_spec hh
    obtain ⟨r, hr, hh⟩ := elF_all s v _ K _ ha hh
    obtain ⟨e', r', h1, h2, h3⟩ := elV_all l e _ r h hr hh
    exact ⟨(i, v) :: e', r', h1, h2, fun tmps hm => match_refine (h3 tmps hm) (hm i v hv)⟩
mutual
theorem allS_cur {R : Type} (K : Value → R) (Φ : Value → R → Prop) : ∀ (s : Sh), (∀ v, Φ v (K v)) → AllS s Φ (cur s K)
  | .int _, h => fun _ => h _
  | .bool, h => fun _ => h _
  | .str, h => fun _ => h _
  | .ptr, h => fun _ => h _
  | .adr, h => fun _ _ => h _
  | .blk, h => fun _ => h _
  | .slice, h => fun _ _ _ => h _
  | .map, h => fun _ => h _
  | .any, h => fun _ => h _
  | .fn f l, h => allL_cur _ _ l fun vs => h _
  | .agg l, h => allL_cur _ _ l fun vs => h _
  | .tuple l, h => allL_cur _ _ l fun vs => h _
theorem allL_cur {R : Type} (K : List Value → R) (Φ : List Value → R → Prop) : ∀ (l : List Sh), (∀ v, Φ v (K v)) → AllL l Φ (curL l K)
  | [], h => h []
  | s :: l, h => allS_cur (R := FnL R l) _ _ s fun v => allL_cur _ _ l fun vs => h _
end
theorem allV_cur : ∀ (l : Vars) (G : Env → H → Prop) (Φ : Env → (H → Prop) → Prop), (∀ e, Φ e (G e)) → AllV l Φ (curV l G)
  | [], G, Φ, h => h []
  | (i, s) :: l, G, Φ, h => allS_cur (R := FnV (H → Prop) l) _ _ s fun v => allV_cur l _ _ fun e => h _
theorem elV_cur {l : Vars} {e : Env} {G : Env → H → Prop} {h : H} (hh : elV e l (curV l G) h) : ∃ e', G e' h ∧ ∀ tmps, Match e tmps → Match e' tmps := by
  obtain ⟨e', r, h1, h2, h3⟩ := elV_all l e (fun e r => r = G e) (curV l G) h (allV_cur l G _ fun e => rfl) hh
  subst h1; exact ⟨e', h2, h3⟩

/-! pieces -/
theorem outs_spec {n : Option Vars} {xs : List (Nat × Vars)} {r : Option Vars} {K : Cont} : ∀ x e h, (outsOf n xs r K).K x e h → ∃ e', K x e' h ∧ ∀ tmps, Match e tmps → Match e' tmps := by
  intro x e h hk
  cases x with
  | normal =>
    obtain ⟨y, hy, hk⟩ := opt_spec hk
    obtain ⟨l, _, rfl⟩ := Option.map_eq_some_iff.1 hy
    exact elV_cur hk
  | exit i =>
    obtain ⟨y, hy, hk⟩ := opt_spec hk
    have key : ∀ (xs : List (Nat × Vars)), lookX i (xs.map fun (i, l) => (i, ⟨l, curV l fun e => K (.exit i) e⟩)) = some y → ∃ l, y = ⟨l, curV l fun e => K (.exit i) e⟩ := by
      intro xs
      induction xs with
      | nil => intro h; simp [lookX] at h
      | cons z xs ih =>
        intro h
        obtain ⟨j, l⟩ := z
        simp only [List.map_cons, lookX] at h
        split at h
        · rename_i hb
          have hb : j = i := Nat.eq_of_beq_eq_true hb
          subst hb
          simp only [Option.some.injEq] at h
          exact ⟨l, h.symm⟩
        · exact ih h
    obtain ⟨l, rfl⟩ := key xs hy
    exact elV_cur hk
  | ret =>
    obtain ⟨y, hy, hk⟩ := opt_spec hk
    obtain ⟨l, _, rfl⟩ := Option.map_eq_some_iff.1 hy
    exact elV_cur hk
theorem St.weaken {nt : Nat} {w0 : World} {e e' : Env} {h : H} {a : Act} {w : World} (hs : St nt w0 e h a w) (hm : ∀ tmps, Match e tmps → Match e' tmps) : St nt w0 e' h a w :=
  ⟨hm _ hs.ok, hs.size, hs.defers, hs.heap, hs.rest⟩
/-- A piece: its text, by its variables, is what the evaluator says of its code. -/
theorem piece {P : Program} {nt : Nat} {c : Code} {js : List (List Bool × PT)} (hm : P.follows .mixedOrders = true) (hj : RowsOk P nt c js) {l : Vars} {n : Option Vars} {xs : List (Nat × Vars)} {r : Option Vars}
    {f : Cont → FnV (H → Prop) l} (heq : ∀ K, AllV l (fun e k => ∀ h, k h → evC P nt js [] c e h (outsOf n xs r K).K) (f K)) : Valid P nt c (mkF l f) := by
  intro e h K hF w0 a w hs
  obtain ⟨e', k, h1, h2, h3⟩ := elV_all l e _ (f K) h (heq K) hF
  have := evC_valid hm hj c [] rfl e' h _ (h1 h h2) w0 a w (hs.weaken h3)
  exact wp_mono this (KQ_mono outs_spec)
theorem least (p : Nat → Prop) (h : ∃ n, p n) : ∃ m, p m ∧ ∀ k, p k → m ≤ k := by
  obtain ⟨n, hn⟩ := h
  induction n using Nat.strongRecOn with
  | _ n ih =>
    by_cases hl : ∃ k, k < n ∧ p k
    · obtain ⟨k, hk, hp⟩ := hl; exact ih k hk hp
    · refine ⟨n, hn, fun k hk => ?_⟩
      rcases Nat.lt_or_ge k n with h | h
      · exact absurd ⟨k, h, hk⟩ hl
      · exact h
/-- a loop's row -/
def mkL (l : Vars) (f : Cont → Nat → FnV (H → Prop) l) : PT := fun e h K => ∃ N, elV e l (f K N) h
def Outs.loop (o : Outs) (l : Vars) (k : FnV (H → Prop) l) : Outs := { o with normal := some ⟨l, k⟩ }
theorem loop_piece {P : Program} {nt : Nat} {c : Code} {js : List (List Bool × PT)} (hm : P.follows .mixedOrders = true) (hj : RowsOk P nt c js) {l : Vars} {xs : List (Nat × Vars)} {r : Option Vars}
    {f : Cont → Nat → FnV (H → Prop) l} (h0 : ∀ K, AllV l (fun e k => ∀ h, ¬ k h) (f K 0))
    (heq : ∀ K N, AllV l (fun e k => ∀ h, k h → evC P nt js [] c e h ((outsOf none xs r K).loop l (f K N)).K) (f K (N + 1))) : Valid P nt (.loop c) (mkL l f) := by
  intro e h K ⟨N, hF⟩ w0 a w hs
  let I : Act → World → Prop := fun a w => ∃ N e, St nt w0 e w.heap a w ∧ elV e l (f K N) w.heap
  have hex : ∀ a w, I a w → ∃ N, ∃ e, St nt w0 e w.heap a w ∧ elV e l (f K N) w.heap := fun a w h => h
  let μ : Act → World → Nat := fun a w => open Classical in if h : I a w then Classical.choose (least _ (hex a w h)) else 0
  have hμ : ∀ a w (hI : I a w), (∃ e, St nt w0 e w.heap a w ∧ elV e l (f K (μ a w)) w.heap) ∧ ∀ N, (∃ e, St nt w0 e w.heap a w ∧ elV e l (f K N) w.heap) → μ a w ≤ N := by
    intro a w hI
    have e1 : μ a w = Classical.choose (least _ (hex a w hI)) := by
      simp only [μ]; rw [dif_pos hI]
    rw [e1]
    exact Classical.choose_spec (least _ (hex a w hI))
  refine wp_loop I μ ⟨N, e, by rw [hs.heap]; exact hs, by rw [hs.heap]; exact hF⟩ ?_
  intro a w hI
  obtain ⟨⟨e, hs, hF⟩, _⟩ := hμ a w hI
  generalize μ a w = M at hF
  cases M with
  | zero =>
    obtain ⟨e', k, h1, h2, _⟩ := elV_all l e _ (f K 0) _ (h0 K) hF
    exact absurd h2 (h1 _)
  | succ M =>
    obtain ⟨e', k, h1, h2, h3⟩ := elV_all l e _ (f K (M + 1)) _ (heq K M) hF
    have := evC_valid hm hj c [] rfl e' w.heap _ (h1 _ h2) w0 a w (hs.weaken h3)
    refine wp_mono this fun x a' w' hk => ?_
    cases x with
    | normal =>
      obtain ⟨e2, hs2, hk⟩ := hk
      have hk : elV e2 l (f K M) w'.heap := hk
      have hI' : I a' w' := ⟨M, e2, hs2, hk⟩
      exact ⟨hI', Nat.lt_succ_of_le ((hμ a' w' hI').2 M ⟨e2, hs2, hk⟩)⟩
    | exit i =>
      obtain ⟨e2, hs2, hk⟩ := hk
      obtain ⟨e3, hk, hm3⟩ := outs_spec (n := none) (xs := xs) (r := r) (K := K) (.exit i) e2 w'.heap hk
      exact ⟨e3, hs2.weaken hm3, hk⟩
    | ret =>
      obtain ⟨e2, hs2, hk⟩ := hk
      obtain ⟨e3, hk, hm3⟩ := outs_spec (n := none) (xs := xs) (r := r) (K := K) .ret e2 w'.heap hk
      exact ⟨e3, hs2.weaken hm3, hk⟩
    | goto l => exact hk.elim
    | panic c => exact hk.elim
    | outgrown => exact hk.elim

theorem sub_app : ∀ (c : Code) (p q : List Bool), sub c (p ++ q) = sub (sub c p) q
  | c, p, [] => by rw [List.append_nil]; cases (sub c p) <;> rfl
  | c, p, d :: q => by
    rw [show p ++ d :: q = (p ++ [d]) ++ q by simp, sub_app c (p ++ [d]) q, sub_snoc, ← sub_app]; rfl
theorem rows_nil {P : Program} {nt : Nat} {c : Code} : RowsOk P nt c [] := fun x hx => by cases hx
theorem rows_cons {P : Program} {nt : Nat} {c : Code} {q q' : List Bool} {F : PT} {js : List (List Bool × PT)} (hv : Valid P nt (sub c q') F) (hq : (tgt q).reverse = q') (hj : RowsOk P nt c js) : RowsOk P nt c ((q, F) :: js) := by
  intro x hx
  rcases List.mem_cons.1 hx with rfl | hx
  · show Valid P nt (sub c (tgt q).reverse) F
    rw [hq]; exact hv
  · exact hj x hx
theorem valid_at {P : Program} {nt : Nat} {c : Code} {r p q : List Bool} {F : PT} (hv : Valid P nt (sub c r) F) (h : r = p ++ q) : Valid P nt (sub (sub c p) q) F := by
  rw [← sub_app, ← h]; exact hv
theorem loop_at {P : Program} {nt : Nat} (c0 : Code) (p : List Bool) {F : PT} (hv : Valid P nt (.loop (sub c0 (p ++ [false]))) F) (hl : ∃ c, sub c0 p = .loop c := by exact ⟨_, rfl⟩) : Valid P nt (sub c0 p) F := by
  obtain ⟨c, hc⟩ := hl
  rw [sub_snoc, hc] at hv
  rw [hc]; exact hv
/-! functions -/
theorem init_get : ∀ (vs : List Value) (i : Nat) (j : Nat) (v : Value), get (init i vs) j = some v → i ≤ j ∧ vs[j - i]? = some v
  | [], i, j, v, h => by simp [init, get] at h
  | x :: vs, i, j, v, h => by
    simp only [init, get] at h
    split at h
    · rename_i hb
      have hb : i = j := Nat.eq_of_beq_eq_true hb
      subst hb
      exact ⟨Nat.le_refl _, by simpa using h⟩
    · rename_i hb
      obtain ⟨h1, h2⟩ := init_get vs (i + 1) j v h
      refine ⟨by omega, ?_⟩
      rw [show j - i = (j - (i + 1)) + 1 by omega]; simpa using h2
def resOne (tmps : Array Value) (x : ResultVar) : Sem Value :=
  match x with
  | .tmp t => pure (tmps.getD t undef)
  | .cell a t => do loadVar t (← asAddr (tmps.getD a undef))
theorem results_run {P : Program} {w : World} {tmps : Array Value} {e : Env} (hm : Match e tmps) : ∀ (rs : List ResultVar) (K : List Value → Prop), resK e w.heap P rs K →
    ∃ vs, (rs.mapM (resOne tmps)).run P w = .ok vs w ∧ K vs
  | [], K, h => ⟨[], rfl, h⟩
  | .tmp t :: rs, K, h => by
    obtain ⟨v, hv, h⟩ := opt_spec h
    obtain ⟨vs, hr, hk⟩ := results_run hm rs _ h
    have := hm t v hv
    refine ⟨v :: vs, ?_, hk⟩
    have hg : tmps.getD t undef = v := by simp [this]
    simp only [List.mapM_cons, resOne, Sem.run_bind, Sem.run_pure, Result.andThen_ok, hr, hg]
  | .cell x t :: rs, K, h => by
    obtain ⟨p, hp, h⟩ := opt_spec h
    obtain ⟨b, o, rfl, h2⟩ := deref_spec h
    obtain ⟨v, hk, hrow, hrun⟩ := load_run h2
    obtain ⟨vs, hr, hk⟩ := results_run hm rs _ hk
    have := hm x _ hp
    have hl : (loadVar t ⟨b, o, none⟩).run P w = .ok v w := hrun w hrow
    refine ⟨v :: vs, ?_, hk⟩
    have hg : tmps.getD x undef = .pointer (some ⟨b, o, none⟩) := by simp [this]
    simp only [List.mapM_cons, resOne, Sem.run_bind, Sem.run_pure, Result.andThen_ok, hr, hg, asAddr, hl]
theorem func_calls {P : Program} {f : FuncId} {fn : Func} {c : Code} {F : PT} (hf : P.funcs[f]? = some fn) (hb : fn.body = some c) (hv : Valid P fn.ntmps c F) {args : List Value} (hlen : args.length ≤ fn.ntmps) {h : H} {K : Value → H → Prop}
    (hF : callF P fn.results.toList F args h K) : callK P f ⟨args⟩ h K := by
  intro w hw
  refine calls_of_wp hf hb ?_
  have hs : St fn.ntmps w (init 0 args) h { tmps := (⟨args⟩ : Array Value) ++ Array.replicate (fn.ntmps - (⟨args⟩ : Array Value).size) undef, defers := [] } w := by
    refine ⟨fun j v hj => ?_, ?_, rfl, hw, Rest.refl w⟩
    · obtain ⟨_, h1⟩ := init_get args 0 j v hj
      have hlt : j < args.length := by
        rcases Nat.lt_or_ge j args.length with h | h
        · exact h
        · rw [Nat.sub_zero, List.getElem?_eq_none h] at h1; cases h1
      rw [Array.getElem?_append_left (by simpa using hlt)]
      simpa using h1
    · simp; omega
  refine wp_mono (hv _ h _ hF w _ w hs) fun x a' w' hk => ?_
  have fin : ∀ e, St fn.ntmps w e w'.heap a' w' → resK e w'.heap P fn.results.toList (fun vs => K (resV vs) w'.heap) → a'.defers = [] ∧ ∃ v, (results fn a'.tmps).run P w' = .ok v w' ∧ ∃ v', Ending.returned v = .returned v' ∧ w'.os = w.os ∧ w'.tape = w.tape ∧ w'.output = w.output ∧ K v' w'.heap := by
    intro e hs' hr
    obtain ⟨vs, hr, hk⟩ := results_run hs'.ok _ _ hr
    refine ⟨hs'.defers, resV vs, ?_, resV vs, rfl, hs'.rest.os, hs'.rest.tape, hs'.rest.output, hk⟩
    have hres : results fn a'.tmps = (do let vs ← fn.results.mapM (resOne a'.tmps); pure (if h : vs.size = 1 then vs[0] else .tuple vs)) := rfl
    rw [hres, Array.mapM_eq_mapM_toList]
    simp only [Sem.run_bind, Sem.run_map, hr, Result.andThen_ok, Sem.run_pure]
    match vs with
    | [] => rfl
    | [v] => rfl
    | v :: v' :: vs => simp [resV]
  cases x with
  | normal => obtain ⟨e, hs', hr⟩ := hk; exact fin e hs' hr
  | ret => obtain ⟨e, hs', hr⟩ := hk; exact fin e hs' hr
  | exit i => obtain ⟨e, hs', hr⟩ := hk; exact hr.elim
  | goto l => exact hk.elim
  | panic c => exact hk.elim
  | outgrown => exact hk.elim
theorem callK_mono {P : Program} {f : FuncId} {args : Array Value} {h : H} {K K' : Value → H → Prop} (hc : callK P f args h K) (hk : ∀ v h, K v h → K' v h) : callK P f args h K' := by
  intro w hw
  refine (hc w hw).mono ?_
  rintro e w' ⟨v, h1, h2, h3, h4, h5⟩
  exact ⟨v, h1, h2, h3, h4, hk v _ h5⟩
end Go.Eng
