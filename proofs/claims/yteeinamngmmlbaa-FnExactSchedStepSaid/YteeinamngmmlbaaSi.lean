import Derived.Test.YteeinamngmmlbaaSh
set_option linter.unusedVariables false
/-! Who waits for whom; the greatest priority among them. -/
namespace Go.Proofs.Yteeinamngmmlbaa
open Go.Eng
variable {s s' : S} {id k on x y z : Int} {i j : Nat} {t u w : T} {l : L}
theorem nodup_len : ∀ (l L : List Int), l.Nodup → (∀ y ∈ l, y ∈ L) → l.length ≤ L.length := by
  intro l
  induction l with
  | nil => intro L _ _; simp
  | cons x l ih =>
    intro L nd sub
    rw [List.nodup_cons] at nd
    have mx := sub x (by simp)
    have := ih (L.erase x) nd.2 fun y hy => by
      refine (List.mem_erase_of_ne fun e => ?_).mpr (sub y (by simp [hy]))
      subst e; exact nd.1 hy
    rw [List.length_erase_of_mem mx] at this
    have : 0 < L.length := List.length_pos_of_mem mx
    simp only [List.length_cons]; omega
def Path (s : S) : Int → List Int → Int → Prop
  | x, [], on => 0 ≤ x ∧ x = on
  | x, y :: r, on => y = x ∧ 0 ≤ x ∧ Path s (nxt s x) r on
theorem Path.suf : ∀ (l : List Int) (x y : Int), Path s x l on → y ∈ l → ∃ l2, Path s y l2 on ∧ l2.Sublist l := by
  intro l
  induction l with
  | nil => intro x y _ h; cases h
  | cons a l ih =>
    intro x y p h
    rcases List.mem_cons.mp h with e | e
    · have := p.1; subst e; subst this; exact ⟨_, p, List.Sublist.refl _⟩
    · obtain ⟨l2, p2, q2⟩ := ih _ y p.2.2 e
      exact ⟨l2, p2, q2.cons _⟩
theorem Path.waits : ∀ (l : List Int) (x : Int), Path s x l on → Go.Proofs.Yteeinamngmmlbaa.waits s (l.length + 1) x on = true := by
  intro l
  induction l with
  | nil => intro x p; rw [Go.Proofs.Yteeinamngmmlbaa.waits, if_neg (by have := p.1; omega), if_pos p.2]
  | cons a l ih =>
    intro x p
    rw [Go.Proofs.Yteeinamngmmlbaa.waits, if_neg (by have := p.2.1; omega)]
    split
    · rfl
    · exact ih _ p.2.2
theorem nxt_get (h : 0 ≤ nxt s x) : ∃ t, getT s.ths x = some t := by
  unfold nxt at h
  split at h
  · omega
  · rename_i t e; exact ⟨t, e⟩
theorem Path.nn {l : List Int} (p : Path s x l on) : 0 ≤ x := by
  cases l with
  | nil => exact p.1
  | cons a l => exact p.2.1
theorem waits_path : ∀ (m : Nat) (x : Int), waits s m x on = true → ∃ l, Path s x l on ∧ l.Nodup ∧ ∀ y ∈ l, y ∈ s.ths.map (·.id) := by
  intro m
  induction m with
  | zero => intro x h; cases h
  | succ m ih =>
    intro x h
    rw [waits] at h
    split at h
    · cases h
    rename_i f
    split at h
    · rename_i e; exact ⟨[], ⟨by omega, e⟩, by simp, by simp⟩
    obtain ⟨l, p, nd, sub⟩ := ih _ h
    by_cases mx : x ∈ l
    · obtain ⟨l2, p2, q2⟩ := p.suf _ _ _ mx
      exact ⟨l2, p2, nd.sublist q2, fun y hy => sub y (q2.subset hy)⟩
    · obtain ⟨t, e⟩ := nxt_get p.nn
      have := getT_mem e
      refine ⟨x :: l, ⟨rfl, by omega, p⟩, List.nodup_cons.mpr ⟨mx, nd⟩, fun y hy => ?_⟩
      rcases List.mem_cons.mp hy with e2 | e2
      · subst e2; exact List.mem_map.mpr ⟨t, this.1, this.2⟩
      · exact sub y e2
theorem waits_mono1 : ∀ (m : Nat) (x : Int), waits s m x on = true → waits s (m + 1) x on = true := by
  intro m
  induction m with
  | zero => intro x h; cases h
  | succ m ih =>
    intro x h
    rw [waits] at h ⊢
    split at h
    · cases h
    rename_i f
    rw [if_neg f]
    split at h
    · rename_i e; rw [if_pos e]
    · rename_i e; rw [if_neg e]; exact ih _ h
theorem waits_mono {m q : Nat} (h : waits s m x on = true) (l : m ≤ q) : waits s q x on = true := by
  induction q with
  | zero => have : m = 0 := by omega
            subst this; exact h
  | succ q ih =>
    by_cases e : m = q + 1
    · subst e; exact h
    · exact waits_mono1 _ _ (ih (by omega))
theorem waits_any {m : Nat} (h : waits s m x on = true) : waits s (s.ths.length + 1) x on = true := by
  obtain ⟨l, p, nd, sub⟩ := waits_path m x h
  have := nodup_len l _ nd sub
  rw [List.length_map] at this
  exact waits_mono (p.waits _ _) (by omega)
/-- does t wait for that one -/
def reach (s : S) (t : T) (id : Int) : Bool := waits s (s.ths.length + 1) (nxt s t.id) id
theorem reach_of {m : Nat} (h : waits s m (nxt s t.id) id = true) : reach s t id = true := waits_any h
theorem reach_step (h : nxt s w.id = id) (i0 : 0 ≤ id) : reach s w id = true := by
  unfold reach; rw [h, waits, if_neg (by omega), if_pos rfl]
theorem waits_trans : ∀ (m q : Nat) (x : Int), waits s m x y = true → waits s q (nxt s y) z = true → waits s (m + q) x z = true := by
  intro m
  induction m with
  | zero => intro q x h; cases h
  | succ m ih =>
    intro q x h h2
    rw [waits] at h
    split at h
    · cases h
    rename_i f
    rw [show m + 1 + q = (m + q) + 1 by omega, waits, if_neg f]
    split at h
    · rename_i e; subst e
      split
      · rfl
      · exact waits_mono h2 (by omega)
    · split
      · rfl
      · exact ih _ _ h h2
theorem reach_trans (h : reach s u w.id = true) (h2 : reach s w id = true) : reach s u id = true := reach_of (waits_trans _ _ _ h h2)
/-- the last step -/
theorem waits_last : ∀ (m : Nat) (x : Int), x ≠ id → waits s m x id = true → ∃ w ∈ s.ths, nxt s w.id = id ∧ waits s m x w.id = true := by
  intro m
  induction m with
  | zero => intro x _ h; cases h
  | succ m ih =>
    intro x ne h
    rw [waits] at h
    split at h
    · cases h
    rename_i f
    by_cases e : nxt s x = id
    · have n0 : 0 ≤ nxt s x := by
        cases m with
        | zero => cases h
        | succ m => rw [waits] at h; split at h
                    · cases h
                    · omega
      obtain ⟨t, et⟩ := nxt_get n0
      have mt := getT_mem et
      exact ⟨t, mt.1, by rw [mt.2]; exact e, by rw [waits, if_neg f, if_pos mt.2.symm]⟩
    · obtain ⟨w, mw, e1, e2⟩ := ih _ e h
      refine ⟨w, mw, e1, ?_⟩
      rw [waits, if_neg f]
      split
      · rfl
      · exact e2
theorem reach_last (h : reach s u id = true) : nxt s u.id = id ∨ ∃ w ∈ s.ths, nxt s w.id = id ∧ reach s u w.id = true := by
  by_cases e : nxt s u.id = id
  · exact .inl e
  · obtain ⟨w, mw, e1, e2⟩ := waits_last _ _ e h
    exact .inr ⟨w, mw, e1, reach_of e2⟩
/-- p is the greatest of those that wait for t, and of t -/
structure IsP (s : S) (t : T) (p : Int) : Prop where
  le : ∀ u ∈ s.ths, u = t ∨ reach s u t.id = true → ownP s u ≤ p
  ex : ∃ u ∈ s.ths, (u = t ∨ reach s u t.id = true) ∧ ownP s u = p
theorem IsP.uni {p q : Int} (a : IsP s t p) (b : IsP s t q) : p = q := by
  obtain ⟨u, mu, cu, eu⟩ := a.ex
  obtain ⟨v, mv, cv, ev⟩ := b.ex
  have := b.le u mu cu
  have := a.le v mv cv
  omega
theorem fold_isP : ∀ (xs : List T) (p : Int), (∀ u ∈ xs, reach s u id = true → ownP s u ≤ xs.foldl (up s id) p) ∧ p ≤ xs.foldl (up s id) p ∧ (xs.foldl (up s id) p = p ∨ ∃ u ∈ xs, reach s u id = true ∧ ownP s u = xs.foldl (up s id) p) := by
  intro xs
  induction xs with
  | nil => intro p; exact ⟨by simp, Int.le_refl _, .inl rfl⟩
  | cons x xs ih =>
    intro p
    obtain ⟨h1, h2, h3⟩ := ih (up s id p x)
    rw [List.foldl_cons]
    have g : p ≤ up s id p x := up_ge
    have gx (r : reach s x id = true) : ownP s x ≤ up s id p x := by
      unfold up; unfold reach at r; rw [if_pos r]; split <;> omega
    have eq : up s id p x = p ∨ reach s x id = true ∧ up s id p x = ownP s x := by
      unfold up
      split
      · rename_i r
        split
        · exact .inr ⟨r, rfl⟩
        · exact .inl rfl
      · exact .inl rfl
    refine ⟨fun u hu r => ?_, by omega, ?_⟩
    · rcases List.mem_cons.mp hu with e | e
      · subst e; have := gx r; omega
      · exact h1 u e r
    · rcases h3 with e | ⟨u, mu, r, e⟩
      · rcases eq with e2 | ⟨r, e2⟩
        · exact .inl (by omega)
        · exact .inr ⟨x, by simp, r, by omega⟩
      · exact .inr ⟨u, by simp [mu], r, e⟩
theorem prioS_isP (mt : t ∈ s.ths) : IsP s t (prioS s t.id t) := by
  obtain ⟨h1, h2, h3⟩ := fold_isP (s := s) (id := t.id) s.ths (ownP s t)
  refine ⟨fun u mu c => ?_, ?_⟩
  · rcases c with e | r
    · subst e; exact h2
    · exact h1 u mu r
  · rcases h3 with e | ⟨u, mu, r, e⟩
    · exact ⟨t, mt, .inl rfl, e.symm⟩
    · exact ⟨u, mu, .inr r, e⟩
/-- the greatest so far: D has been looked at -/
structure Mx (s : S) (t : T) (D : T → Prop) (p : Int) : Prop where
  le : ∀ u ∈ s.ths, u = t ∨ (∃ w, D w ∧ (u = w ∨ reach s u w.id = true)) → ownP s u ≤ p
  ex : ∃ u ∈ s.ths, (u = t ∨ ∃ w, D w ∧ (u = w ∨ reach s u w.id = true)) ∧ ownP s u = p
theorem Mx.start (mt : t ∈ s.ths) : Mx s t (fun _ => False) (ownP s t) :=
  ⟨fun u _ c => by rcases c with e | ⟨w, f, _⟩; · subst e; exact Int.le_refl _
                   · exact f.elim, t, mt, .inl rfl, rfl⟩
theorem Mx.add {D : T → Prop} {p q : Int} (a : Mx s t D p) (b : IsP s w q) : Mx s t (fun z => D z ∨ z = w) (if q > p then q else p) := by
  refine ⟨fun u mu c => ?_, ?_⟩
  · have : ownP s u ≤ p ∨ ownP s u ≤ q := by
      rcases c with e | ⟨z, dz, c⟩
      · exact .inl (a.le u mu (.inl e))
      · rcases dz with dz | dz
        · exact .inl (a.le u mu (.inr ⟨z, dz, c⟩))
        · subst dz; exact .inr (b.le u mu c)
    split <;> omega
  · split
    · obtain ⟨u, mu, c, e⟩ := b.ex
      exact ⟨u, mu, .inr ⟨w, .inr rfl, c⟩, e⟩
    · obtain ⟨u, mu, c, e⟩ := a.ex
      refine ⟨u, mu, ?_, e⟩
      rcases c with c | ⟨z, dz, c⟩
      · exact .inl c
      · exact .inr ⟨z, .inl dz, c⟩
theorem Mx.congr {D E : T → Prop} {p : Int} (a : Mx s t D p) (e : ∀ w, D w ↔ E w) : Mx s t E p := by
  have : D = E := funext fun w => propext (e w)
  subst this; exact a
theorem Mx.done {D : T → Prop} {p : Int} (a : Mx s t D p) (i0 : 0 ≤ t.id) (d : ∀ w, D w ↔ w ∈ s.ths ∧ nxt s w.id = t.id) (uni : ∀ u v, u ∈ s.ths → v ∈ s.ths → u.id = v.id → u = v) : IsP s t p := by
  have key : ∀ u ∈ s.ths, reach s u t.id = true ↔ ∃ w, D w ∧ (u = w ∨ reach s u w.id = true) := fun u mu => by
    constructor
    · intro r
      rcases reach_last r with e | ⟨w, mw, e, r2⟩
      · exact ⟨u, (d u).mpr ⟨mu, e⟩, .inl rfl⟩
      · exact ⟨w, (d w).mpr ⟨mw, e⟩, .inr r2⟩
    · rintro ⟨w, dw, c⟩
      obtain ⟨mw, e⟩ := (d w).mp dw
      have rw := reach_step e i0
      rcases c with c | c
      · subst c; exact rw
      · exact reach_trans c rw
  refine ⟨fun u mu c => a.le u mu ?_, ?_⟩
  · rcases c with c | c
    · exact .inl c
    · exact .inr ((key u mu).mp c)
  · obtain ⟨u, mu, c, e⟩ := a.ex
    refine ⟨u, mu, ?_, e⟩
    rcases c with c | c
    · exact .inl c
    · exact .inr ((key u mu).mpr c)
/-- how many wait for that one -/
def cnt (s : S) (id : Int) : Nat := s.ths.countP fun u => reach s u id
theorem countP_lt {p q : T → Bool} : ∀ (xs : List T), (∀ x ∈ xs, p x = true → q x = true) → (∃ x ∈ xs, q x = true ∧ p x = false) → xs.countP p < xs.countP q := by
  intro xs
  induction xs with
  | nil => rintro _ ⟨x, h, _⟩; cases h
  | cons x xs ih =>
    rintro f ⟨y, hy, qy, py⟩
    have le : xs.countP p ≤ xs.countP q := List.countP_mono_left fun z hz => f z (by simp [hz])
    rw [List.countP_cons, List.countP_cons]
    rcases List.mem_cons.mp hy with e | e
    · subst e; rw [qy, py]; simp; omega
    · have := ih (fun z hz => f z (by simp [hz])) ⟨y, e, qy, py⟩
      have := f x (by simp)
      cases e1 : p x with
      | false => simp; split <;> omega
      | true => rw [this e1]; simp; omega
theorem cnt_lt (v : Wf s) (mw : w ∈ s.ths) (e : nxt s w.id = id) (i0 : 0 ≤ id) : cnt s w.id < cnt s id :=
  countP_lt _ (fun u _ r => reach_trans r (reach_step e i0)) ⟨w, mw, reach_step e i0, v.acyc w mw _⟩
end Go.Proofs.Yteeinamngmmlbaa
