import Derived.Test.YteeinamngmmlbaaSc
set_option linter.unusedVariables false
/-! Which states are met, and what is kept. -/
namespace Go.Proofs.Yteeinamngmmlbaa
open Go.Eng
variable {s s' : S} {id k on : Int} {i j : Nat} {t x y : T} {l : L} {xs : List T} {zs : List L}
structure SrtT (xs : List T) : Prop where
  inc : ∀ (j : Nat) (y z : T), xs[j]? = some y → xs[j + 1]? = some z → y.id < z.id
  lo : ∀ (j : Nat) (y : T), xs[j]? = some y → 0 ≤ y.id
  hi : ∀ (j : Nat) (y : T), xs[j]? = some y → y.id < 32
structure SrtL (xs : List L) : Prop where
  inc : ∀ (j : Nat) (y z : L), xs[j]? = some y → xs[j + 1]? = some z → y.id < z.id
  lo : ∀ (j : Nat) (y : L), xs[j]? = some y → 0 ≤ y.id
  hi : ∀ (j : Nat) (y : L), xs[j]? = some y → y.id < 16
theorem SrtT.gap {xs : List T} (s : SrtT xs) : ∀ (d j : Nat) (y z : T), xs[j]? = some y → xs[j + d]? = some z → y.id + d ≤ z.id := by
  intro d
  induction d with
  | zero => intro j y z hy hz; rw [Nat.add_zero, hy] at hz; injection hz with hz; subst hz; omega
  | succ d ih =>
    intro j y z hy hz
    obtain ⟨w, hw⟩ : ∃ w, xs[j + d]? = some w := ⟨_, List.getElem?_eq_getElem (by have := get_lt hz; omega)⟩
    have := ih j y w hy hw
    have := s.inc (j + d) w z hw hz; omega
theorem SrtT.len {xs : List T} (s : SrtT xs) : xs.length ≤ 32 := by
  rcases Nat.eq_zero_or_pos xs.length with e | e
  · omega
  · have h0 : xs[0]? = some xs[0] := List.getElem?_eq_getElem _
    have h1 : xs[xs.length - 1]? = some (xs[xs.length - 1]'(by omega)) := List.getElem?_eq_getElem _
    have := s.gap (xs.length - 1) 0 _ _ h0 (by rw [Nat.zero_add]; exact h1)
    have := s.lo 0 _ h0
    have := s.hi _ _ h1
    omega
theorem SrtT.uni {xs : List T} (s : SrtT xs) (i j : Nat) (x y : T) (hx : xs[i]? = some x) (hy : xs[j]? = some y) (e : x.id = y.id) : i = j := by
  rcases Nat.lt_trichotomy i j with l | l | l
  · have := s.gap (j - i) i x y hx (by rw [show i + (j - i) = j by omega]; exact hy); omega
  · exact l
  · have := s.gap (i - j) j y x hy (by rw [show j + (i - j) = i by omega]; exact hx); omega
theorem SrtT.get {xs : List T} {x : T} {i : Nat} (s : SrtT xs) (hx : xs[i]? = some x) : AtT xs x.id i x :=
  ⟨hx, rfl, fun k z hk hz e => by have := s.uni k i z x hz hx e; omega⟩
theorem SrtT.mem {xs : List T} {x : T} (s : SrtT xs) (hx : x ∈ xs) : getT xs x.id = some x := by
  obtain ⟨i, hi, e⟩ := List.getElem_of_mem hx
  exact (s.get (by rw [List.getElem?_eq_getElem hi, e])).get
theorem getT_mem {xs : List T} {x : T} {id : Int} (h : getT xs id = some x) : x ∈ xs ∧ x.id = id := by
  rcases atT_cases xs id with f | ⟨i, y, t⟩
  · rw [getT_none.mpr f] at h; cases h
  · rw [t.get] at h; injection h with h; subst h; exact ⟨List.mem_of_getElem? t.1, t.2.1⟩
theorem SrtT.erase {xs : List T} {i : Nat} (s : SrtT xs) : SrtT (xs.eraseIdx i) := by
  have up : ∀ (j k : Nat) (y z : T), j < k → xs[j]? = some y → xs[k]? = some z → y.id < z.id := fun j k y z l hy hz => by
    have := s.gap (k - j) j y z hy (by rw [show j + (k - j) = k by omega]; exact hz); omega
  refine ⟨fun j y z hy hz => ?_, fun j y hy => ?_, fun j y hy => ?_⟩
  · rw [List.getElem?_eraseIdx] at hy hz
    split at hy <;> split at hz
    · exact up _ _ _ _ (by omega) hy hz
    · exact up _ _ _ _ (by omega) hy hz
    · omega
    · exact up _ _ _ _ (by omega) hy hz
  · rw [List.getElem?_eraseIdx] at hy
    split at hy <;> exact s.lo _ _ hy
  · rw [List.getElem?_eraseIdx] at hy
    split at hy <;> exact s.hi _ _ hy
theorem SrtL.gap {xs : List L} (s : SrtL xs) : ∀ (d j : Nat) (y z : L), xs[j]? = some y → xs[j + d]? = some z → y.id + d ≤ z.id := by
  intro d
  induction d with
  | zero => intro j y z hy hz; rw [Nat.add_zero, hy] at hz; injection hz with hz; subst hz; omega
  | succ d ih =>
    intro j y z hy hz
    obtain ⟨w, hw⟩ : ∃ w, xs[j + d]? = some w := ⟨_, List.getElem?_eq_getElem (by have := get_lt hz; omega)⟩
    have := ih j y w hy hw
    have := s.inc (j + d) w z hw hz; omega
theorem SrtL.len {xs : List L} (s : SrtL xs) : xs.length ≤ 16 := by
  rcases Nat.eq_zero_or_pos xs.length with e | e
  · omega
  · have h0 : xs[0]? = some xs[0] := List.getElem?_eq_getElem _
    have h1 : xs[xs.length - 1]? = some (xs[xs.length - 1]'(by omega)) := List.getElem?_eq_getElem _
    have := s.gap (xs.length - 1) 0 _ _ h0 (by rw [Nat.zero_add]; exact h1)
    have := s.lo 0 _ h0
    have := s.hi _ _ h1
    omega
theorem SrtL.uni {xs : List L} (s : SrtL xs) (i j : Nat) (x y : L) (hx : xs[i]? = some x) (hy : xs[j]? = some y) (e : x.id = y.id) : i = j := by
  rcases Nat.lt_trichotomy i j with l | l | l
  · have := s.gap (j - i) i x y hx (by rw [show i + (j - i) = j by omega]; exact hy); omega
  · exact l
  · have := s.gap (i - j) j y x hy (by rw [show j + (i - j) = i by omega]; exact hx); omega
theorem SrtL.get {xs : List L} {x : L} {i : Nat} (s : SrtL xs) (hx : xs[i]? = some x) : AtL xs x.id i x :=
  ⟨hx, rfl, fun k z hk hz e => by have := s.uni k i z x hz hx e; omega⟩
theorem SrtL.mem {xs : List L} {x : L} (s : SrtL xs) (hx : x ∈ xs) : getL xs x.id = some x := by
  obtain ⟨i, hi, e⟩ := List.getElem_of_mem hx
  exact (s.get (by rw [List.getElem?_eq_getElem hi, e])).get
theorem getL_mem {xs : List L} {x : L} {id : Int} (h : getL xs id = some x) : x ∈ xs ∧ x.id = id := by
  rcases atL_cases xs id with f | ⟨i, y, t⟩
  · rw [getL_none.mpr f] at h; cases h
  · rw [t.get] at h; injection h with h; subst h; exact ⟨List.mem_of_getElem? t.1, t.2.1⟩
theorem SrtL.erase {xs : List L} {i : Nat} (s : SrtL xs) : SrtL (xs.eraseIdx i) := by
  have up : ∀ (j k : Nat) (y z : L), j < k → xs[j]? = some y → xs[k]? = some z → y.id < z.id := fun j k y z l hy hz => by
    have := s.gap (k - j) j y z hy (by rw [show j + (k - j) = k by omega]; exact hz); omega
  refine ⟨fun j y z hy hz => ?_, fun j y hy => ?_, fun j y hy => ?_⟩
  · rw [List.getElem?_eraseIdx] at hy hz
    split at hy <;> split at hz
    · exact up _ _ _ _ (by omega) hy hz
    · exact up _ _ _ _ (by omega) hy hz
    · omega
    · exact up _ _ _ _ (by omega) hy hz
  · rw [List.getElem?_eraseIdx] at hy
    split at hy <;> exact s.lo _ _ hy
  · rw [List.getElem?_eraseIdx] at hy
    split at hy <;> exact s.hi _ _ hy
structure Wg (s : S) : Prop where
  t : SrtT s.ths
  l : SrtL s.lks
  base : ∀ x ∈ s.ths, 0 ≤ x.base ∧ x.base ≤ 7
  time : ∀ x ∈ s.ths, 0 ≤ x.since ∧ x.since ≤ s.now
  now : 0 ≤ s.now ∧ s.now ≤ 1099511627777
  own : ∀ x ∈ s.lks, 0 ≤ x.owner
structure Wf (s : S) : Prop extends Wg s where
  acyc : ∀ x ∈ s.ths, ∀ m, waits s m (nxt s x.id) x.id = false
theorem own_rng (v : Wg s) (mx : x ∈ s.ths) : 0 ≤ ownP s x ∧ ownP s x ≤ 7 := by
  have b := v.base x mx
  have t := v.time x mx
  have n := v.now
  have d0 : 0 ≤ (s.now - x.since).tdiv 16 := Int.tdiv_nonneg (by omega) (by omega)
  have d1 : (s.now - x.since).tdiv 16 ≤ s.now - x.since := by
    rw [Int.tdiv_eq_ediv_of_nonneg (by omega)]; omega
  unfold ownP
  rw [wrap64 (n := s.now - x.since) (by omega) (by omega), wrap64 (n := (s.now - x.since).tdiv 16) (by omega) (by omega), wrap64 (by omega) (by omega)]
  dsimp only
  split <;> split <;> omega
theorem up_ge {p : Int} : p ≤ up s id p t := by unfold up; split <;> (try split) <;> omega
theorem foldl_ge : ∀ (xs : List T) (p : Int), p ≤ xs.foldl (up s id) p := by
  intro xs
  induction xs with
  | nil => intro p; exact Int.le_refl _
  | cons x xs ih => intro p; exact Int.le_trans up_ge (ih _)
theorem Wf.nn (v : Wf s) : Nn s :=
  ⟨fun i x hx => v.t.get hx, fun i x hx => Int.le_trans (own_rng v.toWg (List.mem_of_getElem? hx)).1 (foldl_ge _ _)⟩
/-- fewer edges -/
theorem waits_sub (e : ∀ x, nxt s' x = nxt s x ∨ nxt s' x < 0) : ∀ m x on, waits s' m x on = true → waits s m x on = true := by
  intro m
  induction m with
  | zero => intro x on h; cases h
  | succ m ih =>
    intro x on h
    rw [waits] at h ⊢
    split at h
    · cases h
    rename_i f
    rw [if_neg f]
    split at h
    · rename_i g; rw [if_pos g]
    rename_i g
    rw [if_neg g]
    rcases e x with t | t
    · rw [t] at h; exact ih _ _ h
    · cases m with
      | zero => cases h
      | succ m => rw [waits, if_pos t] at h; cases h
theorem acyc_sub (v : Wf s) (e : ∀ x, nxt s' x = nxt s x ∨ nxt s' x < 0) (mem : ∀ x ∈ s'.ths, ∃ y ∈ s.ths, y.id = x.id) : ∀ x ∈ s'.ths, ∀ m, waits s' m (nxt s' x.id) x.id = false := fun x mx m => by
  obtain ⟨y, my, ey⟩ := mem x mx
  cases h : waits s' m (nxt s' x.id) x.id with
  | false => rfl
  | true =>
    have := waits_sub e m _ _ h
    rcases e x.id with t | t
    · rw [t, ← ey, v.acyc y my m] at this; cases this
    · cases m with
      | zero => cases h
      | succ m => rw [waits, if_pos t] at h; cases h
/-- a thread is ready again -/
theorem getT_set (v : SrtT xs) (hx : xs[i]? = some x) (e : y.id = x.id) : getT (xs.set i y) id = if id = x.id then some y else getT xs id := by
  have v' : SrtT (xs.set i y) := by
    have back : ∀ (j : Nat) (z : T), (xs.set i y)[j]? = some z → ∃ w, xs[j]? = some w ∧ z.id = w.id := fun j z hz => by
      rw [List.getElem?_set] at hz
      by_cases q : i = j
      · subst q; rw [if_pos rfl, if_pos (get_lt hx)] at hz; injection hz with hz; subst hz; exact ⟨x, hx, e⟩
      · rw [if_neg q] at hz; exact ⟨z, hz, rfl⟩
    refine ⟨fun j z w hz hw => ?_, fun j z hz => ?_, fun j z hz => ?_⟩
    · obtain ⟨z', hz', e1⟩ := back j z hz; obtain ⟨w', hw', e2⟩ := back _ w hw; rw [e1, e2]; exact v.inc j z' w' hz' hw'
    · obtain ⟨z', hz', e1⟩ := back j z hz; rw [e1]; exact v.lo j z' hz'
    · obtain ⟨z', hz', e1⟩ := back j z hz; rw [e1]; exact v.hi j z' hz'
  split
  · rename_i q
    have := (v'.get (getSet hx)).get
    rw [e, ← q] at this; exact this
  · rename_i q
    rcases atT_cases xs id with f | ⟨j, w, u⟩
    · rw [getT_none.mpr f, getT_none]
      intro z mz
      obtain ⟨j, hj⟩ := List.mem_iff_getElem?.mp mz
      rw [List.getElem?_set] at hj
      by_cases q2 : i = j
      · subst q2; rw [if_pos rfl, if_pos (get_lt hx)] at hj; injection hj with hj; subst hj
        rw [e]; exact fun t => q t.symm
      · rw [if_neg q2] at hj; exact f z (List.mem_of_getElem? hj)
    · rw [u.get]
      have ne : i ≠ j := fun t => by subst t; have := u.1; rw [hx] at this; injection this with this; subst this; exact q u.2.1.symm
      have hw : (xs.set i y)[j]? = some w := by rw [List.getElem?_set, if_neg ne]; exact u.1
      have := (v'.get hw).get
      rw [u.2.1] at this; exact this
theorem nxt_stand {since : Int} (v : Wg s) (hx : s.ths[i]? = some x) (q : Int) : nxt (standF s i x since) q = if q = x.id then -1 else nxt s q := by
  have eg : getT (standF s i x since).ths q = if q = x.id then some (standT s x since) else getT s.ths q := getT_set v.t hx rfl
  unfold nxt
  rw [eg]
  by_cases t : q = x.id
  · rw [if_pos t, if_pos t]; dsimp only; rw [if_pos (by show (1 : Int) ≠ 2; omega)]
  · rw [if_neg t, if_neg t]; rfl
theorem Wg.stand {since : Int} (v : Wg s) (hx : s.ths[i]? = some x) (s0 : 0 ≤ since) (s1 : since ≤ s.now) : Wg (standF s i x since) := by
  have mem : ∀ y ∈ (standF s i x since).ths, y ∈ s.ths ∨ y = standT s x since := fun y my => by
    rcases List.mem_or_eq_of_mem_set my with t | t
    · exact .inl t
    · exact .inr t
  have mx := List.mem_of_getElem? hx
  have back : ∀ (j : Nat) (z : T), (standF s i x since).ths[j]? = some z → ∃ w, s.ths[j]? = some w ∧ z.id = w.id := fun j z hz => by
    change (s.ths.set i (standT s x since))[j]? = some z at hz
    rw [List.getElem?_set] at hz
    by_cases q : i = j
    · subst q; rw [if_pos rfl, if_pos (get_lt hx)] at hz; injection hz with hz; subst hz; exact ⟨x, hx, rfl⟩
    · rw [if_neg q] at hz; exact ⟨z, hz, rfl⟩
  refine ⟨⟨fun j z w hz hw => ?_, fun j z hz => ?_, fun j z hz => ?_⟩, v.l, fun y my => ?_, fun y my => ?_, v.now, v.own⟩
  · obtain ⟨z', hz', e1⟩ := back j z hz; obtain ⟨w', hw', e2⟩ := back _ w hw; rw [e1, e2]; exact v.t.inc j z' w' hz' hw'
  · obtain ⟨z', hz', e1⟩ := back j z hz; rw [e1]; exact v.t.lo j z' hz'
  · obtain ⟨z', hz', e1⟩ := back j z hz; rw [e1]; exact v.t.hi j z' hz'
  · rcases mem y my with t | t
    · exact v.base y t
    · subst t; exact v.base x mx
  · rcases mem y my with t | t
    · exact v.time y t
    · subst t; exact ⟨s0, s1⟩
theorem stand_mem {since : Int} (hx : s.ths[i]? = some x) : ∀ y ∈ (standF s i x since).ths, ∃ z ∈ s.ths, z.id = y.id := fun y my => by
  rcases List.mem_or_eq_of_mem_set my with t | t
  · exact ⟨y, t, rfl⟩
  · subst t; exact ⟨x, List.mem_of_getElem? hx, rfl⟩
theorem Wf.stand {since : Int} (v : Wf s) (hx : s.ths[i]? = some x) (s0 : 0 ≤ since) (s1 : since ≤ s.now) : Wf (standF s i x since) :=
  ⟨v.toWg.stand hx s0 s1, acyc_sub v (fun q => by
    rw [nxt_stand v.toWg hx]; split
    · right; omega
    · exact .inl rfl) (stand_mem hx)⟩
/-- the removal of a thread -/
theorem getT_erase (v : SrtT xs) (hx : xs[i]? = some x) : getT (xs.eraseIdx i) id = if id = x.id then none else getT xs id := by
  split
  · rename_i q
    rw [getT_none]
    intro y my e
    obtain ⟨j, ji, hj⟩ := List.mem_eraseIdx_iff_getElem?.mp my
    exact ji (v.uni j i y x hj hx (by rw [e, q]))
  · rename_i q
    rcases atT_cases xs id with f | ⟨j, w, u⟩
    · rw [getT_none.mpr f, getT_none]
      exact fun z mz => f z (List.mem_of_mem_eraseIdx mz)
    · rw [u.get]
      have ne : j ≠ i := fun t => by subst t; have := u.1; rw [hx] at this; injection this with this; subst this; exact q u.2.1.symm
      have := v.erase.mem (List.mem_eraseIdx_iff_getElem?.mpr ⟨j, ne, u.1⟩)
      rw [u.2.1] at this; exact this
theorem getL_erase {j : Nat} (v : SrtL zs) (hx : zs[j]? = some l) : getL (zs.eraseIdx j) id = if id = l.id then none else getL zs id := by
  split
  · rename_i q
    rw [getL_none]
    intro y my e
    obtain ⟨k, ji, hj⟩ := List.mem_eraseIdx_iff_getElem?.mp my
    exact ji (v.uni k j y l hj hx (by rw [e, q]))
  · rename_i q
    rcases atL_cases zs id with f | ⟨k, w, u⟩
    · rw [getL_none.mpr f, getL_none]
      exact fun z mz => f z (List.mem_of_mem_eraseIdx mz)
    · rw [u.get]
      have ne : k ≠ j := fun t => by subst t; have := u.1; rw [hx] at this; injection this with this; subst this; exact q u.2.1.symm
      have := v.erase.mem (List.mem_eraseIdx_iff_getElem?.mpr ⟨k, ne, u.1⟩)
      rw [u.2.1] at this; exact this
theorem Wf.erase (v : Wf s) (hx : s.ths[i]? = some x) : Wf { s with ths := s.ths.eraseIdx i } := by
  have nx : ∀ q, nxt { s with ths := s.ths.eraseIdx i } q = nxt s q ∨ nxt { s with ths := s.ths.eraseIdx i } q < 0 := fun q => by
    have eg : getT (S.mk s.now s.seq (s.ths.eraseIdx i) s.lks).ths q = if q = x.id then none else getT s.ths q := getT_erase v.t hx
    unfold nxt
    rw [eg]
    by_cases t : q = x.id
    · rw [if_pos t]; right; dsimp only; omega
    · rw [if_neg t]; left; rfl
  exact ⟨⟨v.t.erase, v.l, fun y my => v.base y (List.mem_of_mem_eraseIdx my), fun y my => v.time y (List.mem_of_mem_eraseIdx my), v.now, v.own⟩,
    acyc_sub v nx fun y my => ⟨y, List.mem_of_mem_eraseIdx my, rfl⟩⟩
theorem first1_some {ok : T → Bool} {b : T} {j : Nat} {q : Int} : ∀ (xs : List T) (i : Nat) (acc : Option (T × Nat × Int)), xs = s.ths.drop i → (∀ b j q, acc = some (b, j, q) → s.ths[j]? = some b ∧ ok b = true) →
    first1 s ok i acc xs = some (b, j, q) → s.ths[j]? = some b ∧ ok b = true := by
  intro xs
  induction xs with
  | nil => intro i acc _ ha h; exact ha b j q h
  | cons x xs ih =>
    intro i acc e ha h
    have hx : s.ths[i]? = some x := by
      have := congrArg (fun l => l[0]?) e
      simpa using this.symm
    have e' : xs = s.ths.drop (i + 1) := by
      have := congrArg List.tail e
      simpa using this
    refine ih (i + 1) _ e' (fun b j q t => ?_) h
    unfold step1 at t
    split at t
    · rename_i okx
      have new : (x, i, prioS s x.id x) = (b, j, q) → s.ths[j]? = some b ∧ ok b = true := fun t => by
        injection t with e1 t; injection t with e2 _; subst e1 e2; exact ⟨hx, okx⟩
      match acc, t with
      | none, t => exact new (by injection t)
      | some (b', j', q'), t =>
        rw [over] at t
        split at t
        · exact new (by injection t)
        split at t
        · exact new (by injection t)
        · exact ha b j q t
    · exact ha b j q t
theorem first1_none {ok : T → Bool} : ∀ (xs : List T) (i : Nat) (acc : Option (T × Nat × Int)), first1 s ok i acc xs = none → acc = none ∧ ∀ x ∈ xs, ok x = false := by
  intro xs
  induction xs with
  | nil => intro i acc h; exact ⟨h, by simp⟩
  | cons x xs ih =>
    intro i acc h
    obtain ⟨e, f⟩ := ih _ _ h
    unfold step1 at e
    split at e
    · rename_i okx
      match acc, e with
      | none, e => cases e
      | some (b', j', q'), e =>
        rw [over] at e
        split at e
        · cases e
        split at e <;> cases e
    · rename_i okx
      refine ⟨e, fun y hy => ?_⟩
      rcases List.mem_cons.mp hy with t | t
      · subst t; simpa using okx
      · exact f y t
theorem firstS_some {ok : T → Bool} {b : T} {j : Nat} {q : Int} (h : firstS s ok = some (b, j, q)) : s.ths[j]? = some b ∧ ok b = true :=
  first1_some s.ths 0 none rfl (fun _ _ _ t => nomatch t) h
theorem firstS_none {ok : T → Bool} (h : firstS s ok = none) : ∀ x ∈ s.ths, ok x = false := (first1_none s.ths 0 none h).2
/-- edges that go to one from which none goes -/
theorem acyc_to {bid : Int} (v : Wf s) (e : ∀ x, nxt s' x = nxt s x ∨ nxt s' x < 0 ∨ nxt s' x = bid) (eb : nxt s' bid < 0) (mem : ∀ x ∈ s'.ths, ∃ y ∈ s.ths, y.id = x.id) : ∀ x ∈ s'.ths, ∀ m, waits s' m (nxt s' x.id) x.id = false := fun x mx m => by
  have neg : ∀ m y on, y < 0 → waits s' m y on = false := fun m y on l => by
    cases m with
    | zero => rfl
    | succ m => rw [waits, if_pos l]
  have atb : ∀ m on, on ≠ bid → waits s' m bid on = false := fun m on ne => by
    cases m with
    | zero => rfl
    | succ m =>
      rw [waits]; split
      · rfl
      rw [if_neg (fun t => ne t.symm)]; exact neg _ _ _ eb
  have key : ∀ m y on, on ≠ bid → waits s' m y on = true → waits s m y on = true := by
    intro m
    induction m with
    | zero => intro y on _ h; cases h
    | succ m ih =>
      intro y on ne h
      rw [waits] at h ⊢
      split at h
      · cases h
      rename_i f
      rw [if_neg f]
      split at h
      · rename_i g; rw [if_pos g]
      rename_i g
      rw [if_neg g]
      rcases e y with t | t | t
      · rw [t] at h; exact ih _ _ ne h
      · rw [neg _ _ _ t] at h; cases h
      · rw [t, atb _ _ ne] at h; cases h
  obtain ⟨y, my, ey⟩ := mem x mx
  cases h : waits s' m (nxt s' x.id) x.id with
  | false => rfl
  | true =>
    by_cases q : x.id = bid
    · rw [q, neg _ _ _ eb] at h; cases h
    rcases e x.id with t | t | t
    · have := key m _ _ q h
      rw [t, ← ey, v.acyc y my m] at this; cases this
    · rw [neg _ _ _ t] at h; cases h
    · rw [t, atb _ _ q] at h; cases h
theorem getL_set {y : L} {j : Nat} (v : SrtL zs) (hx : zs[j]? = some l) (e : y.id = l.id) : getL (zs.set j y) id = if id = l.id then some y else getL zs id := by
  have v' : SrtL (zs.set j y) := by
    have back : ∀ (k : Nat) (z : L), (zs.set j y)[k]? = some z → ∃ w, zs[k]? = some w ∧ z.id = w.id := fun k z hz => by
      rw [List.getElem?_set] at hz
      by_cases q : j = k
      · subst q; rw [if_pos rfl, if_pos (get_lt hx)] at hz; injection hz with hz; subst hz; exact ⟨l, hx, e⟩
      · rw [if_neg q] at hz; exact ⟨z, hz, rfl⟩
    refine ⟨fun k z w hz hw => ?_, fun k z hz => ?_, fun k z hz => ?_⟩
    · obtain ⟨z', hz', e1⟩ := back k z hz; obtain ⟨w', hw', e2⟩ := back _ w hw; rw [e1, e2]; exact v.inc k z' w' hz' hw'
    · obtain ⟨z', hz', e1⟩ := back k z hz; rw [e1]; exact v.lo k z' hz'
    · obtain ⟨z', hz', e1⟩ := back k z hz; rw [e1]; exact v.hi k z' hz'
  split
  · rename_i q
    have := (v'.get (getSet hx)).get
    rw [e, ← q] at this; exact this
  · rename_i q
    rcases atL_cases zs id with f | ⟨k, w, u⟩
    · rw [getL_none.mpr f, getL_none]
      intro z mz
      obtain ⟨k, hj⟩ := List.mem_iff_getElem?.mp mz
      rw [List.getElem?_set] at hj
      by_cases q2 : j = k
      · subst q2; rw [if_pos rfl, if_pos (get_lt hx)] at hj; injection hj with hj; subst hj
        rw [e]; exact fun t => q t.symm
      · rw [if_neg q2] at hj; exact f z (List.mem_of_getElem? hj)
    · rw [u.get]
      have ne : j ≠ k := fun t => by subst t; have := u.1; rw [hx] at this; injection this with this; subst this; exact q u.2.1.symm
      have hw : (zs.set j y)[k]? = some w := by rw [List.getElem?_set, if_neg ne]; exact u.1
      have := (v'.get hw).get
      rw [u.2.1] at this; exact this
theorem Wf.hand {lock : Int} {j : Nat} (v : Wf s) (hl : AtL s.lks lock j l) : Wf (handF s lock) := by
  rw [handF_at hl]
  cases ef : firstS s (handOk lock) with
  | none =>
    have no := firstS_none ef
    have nx : ∀ q, nxt { s with lks := s.lks.eraseIdx j } q = nxt s q := fun q => by
      unfold nxt
      rcases atT_cases s.ths q with f | ⟨i, x, u⟩
      · dsimp only; rw [getT_none.mpr f]
      · dsimp only
        rw [u.get]
        dsimp only
        by_cases st : x.state ≠ 2
        · rw [if_pos st, if_pos st]
        · rw [if_neg st, if_neg st, getL_erase v.l hl.1, if_neg]
          intro t
          have := no x (List.mem_of_getElem? u.1)
          simp only [handOk, Bool.and_eq_false_iff, beq_eq_false_iff_ne] at this
          rcases this with t2 | t2
          · exact st t2
          · exact t2 (by rw [t, hl.2.1])
    exact ⟨⟨v.t, v.l.erase, v.base, v.time, v.now, fun z mz => v.own z (List.mem_of_mem_eraseIdx mz)⟩, acyc_sub v (fun q => .inl (nx q)) fun y my => ⟨y, my, rfl⟩⟩
  | some w =>
    obtain ⟨b, i, q⟩ := w
    obtain ⟨hb, okb⟩ := firstS_some ef
    have okb : b.state = 2 ∧ b.wait = lock := by simpa [handOk] using okb
    have mb := List.mem_of_getElem? hb
    have b0 := v.t.lo i b hb
    have lb : ∀ (k : Nat) (z : L), (s.lks.set j { l with owner := b.id })[k]? = some z → ∃ w, s.lks[k]? = some w ∧ z.id = w.id := fun k z hz => by
      rw [List.getElem?_set] at hz
      by_cases q : j = k
      · subst q; rw [if_pos rfl, if_pos (get_lt hl.1)] at hz; injection hz with hz; subst hz; exact ⟨l, hl.1, rfl⟩
      · rw [if_neg q] at hz; exact ⟨z, hz, rfl⟩
    have g1 : Wg { s with lks := s.lks.set j { l with owner := b.id } } := by
      refine ⟨v.t, ⟨fun k z w hz hw => ?_, fun k z hz => ?_, fun k z hz => ?_⟩, v.base, v.time, v.now, fun z mz => ?_⟩
      · obtain ⟨z', hz', e1⟩ := lb k z hz; obtain ⟨w', hw', e2⟩ := lb _ w hw; rw [e1, e2]; exact v.l.inc k z' w' hz' hw'
      · obtain ⟨z', hz', e1⟩ := lb k z hz; rw [e1]; exact v.l.lo k z' hz'
      · obtain ⟨z', hz', e1⟩ := lb k z hz; rw [e1]; exact v.l.hi k z' hz'
      · rcases List.mem_or_eq_of_mem_set mz with t | t
        · exact v.own z t
        · subst t; exact b0
    have nx : ∀ q, nxt (standF { s with lks := s.lks.set j { l with owner := b.id } } i b s.now) q = if q = b.id then -1 else nxt { s with lks := s.lks.set j { l with owner := b.id } } q := fun q => nxt_stand g1 hb q
    have n1 : ∀ q, nxt { s with lks := s.lks.set j { l with owner := b.id } } q = nxt s q ∨ nxt { s with lks := s.lks.set j { l with owner := b.id } } q = b.id := fun q => by
      unfold nxt
      dsimp only
      rcases atT_cases s.ths q with f | ⟨k, x, u⟩
      · rw [getT_none.mpr f]; exact .inl rfl
      · rw [u.get]
        dsimp only
        by_cases st : x.state ≠ 2
        · rw [if_pos st, if_pos st]; exact .inl rfl
        · rw [if_neg st, if_neg st, getL_set (y := { l with owner := b.id }) v.l hl.1 rfl]
          by_cases w : x.wait = l.id
          · rw [if_pos w]; exact .inr rfl
          · rw [if_neg w]; exact .inl rfl
    refine ⟨g1.stand hb (by have := v.now; show 0 ≤ s.now; omega) (Int.le_refl _), acyc_to (bid := b.id) v (fun q => ?_) (by rw [nx, if_pos rfl]; omega) fun y my => ?_⟩
    · rw [nx]; split
      · right; left; omega
      · rcases n1 q with t | t
        · exact .inl t
        · exact .inr (.inr t)
    · obtain ⟨z, mz, e⟩ := stand_mem (s := { s with lks := s.lks.set j { l with owner := b.id } }) hb y my
      exact ⟨z, mz, e⟩
end Go.Proofs.Yteeinamngmmlbaa
