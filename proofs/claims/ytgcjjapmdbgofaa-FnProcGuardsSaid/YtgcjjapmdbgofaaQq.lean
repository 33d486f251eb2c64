import Derived.Test.YtgcjjapmdbgofaaQp
set_option linter.unusedVariables false
namespace Go.Proofs.Ytgcjjapmdbgofaa
open Go.Eng
variable {xs : List P} {x : P} {s k : Int} {i j n : Nat}

/-! the way up -/
theorem climb_mono : ∀ (m : Nat) (x : P), climb xs m x → climb xs (m + 1) x := by
  intro m
  induction m with
  | zero => intro x h; exact .inl h
  | succ m ih =>
    intro x h
    rcases h with h | ⟨y, hy, h⟩
    · exact .inl h
    · exact .inr ⟨y, hy, ih y h⟩
theorem climb_le {m m' : Nat} (l : m ≤ m') {x : P} (h : climb xs m x) : climb xs m' x := by
  induction l with
  | refl => exact h
  | step _ ih => exact climb_mono _ _ ih
theorem getP_mem {id : Int} {y : P} (h : getP xs id = some y) : y ∈ xs ∧ y.id = id := by
  have := List.find?_some h
  exact ⟨List.mem_of_find?_eq_some h, by simpa using this⟩
theorem climb_stable {m : Nat} (st : ∀ x ∈ xs, climb xs (m + 1) x → climb xs m x) : ∀ (d : Nat) (x : P), x ∈ xs → climb xs (m + d) x → climb xs m x := by
  intro d
  induction d with
  | zero => intro x _ h; exact h
  | succ d ih =>
    intro x hx h
    rcases h with h | ⟨y, hy, h⟩
    · exact climb_le (Nat.zero_le _) h
    · exact st x hx (.inr ⟨y, hy, ih y (getP_mem hy).1 h⟩)
open Classical in
noncomputable def reach (xs : List P) (m : Nat) : Nat := xs.countP fun x => decide (climb xs m x)
open Classical in
theorem count_lt {α : Type} {p q : α → Bool} : ∀ (l : List α), (∀ x ∈ l, p x = true → q x = true) → (∃ x ∈ l, q x = true ∧ p x = false) → l.countP p < l.countP q := by
  intro l
  induction l with
  | nil => rintro _ ⟨x, h, _⟩; cases h
  | cons y l ih =>
    intro le ⟨x, hx, h1, h2⟩
    rw [List.countP_cons, List.countP_cons]
    have mono : l.countP p ≤ l.countP q := List.countP_mono_left fun z hz => le z (by simp [hz])
    rcases List.mem_cons.mp hx with e | e
    · subst e; rw [h1, h2]; simp; omega
    · have := ih (fun z hz => le z (by simp [hz])) ⟨x, e, h1, h2⟩
      have := le y (by simp)
      cases e1 : p y <;> cases e2 : q y <;> simp [e1, e2] at this ⊢ <;> omega
theorem reach_or (root : ∃ x ∈ xs, x.id = 1) : ∀ m, (∃ j, j ≤ m ∧ ∀ x ∈ xs, climb xs (j + 1) x → climb xs j x) ∨ m + 1 ≤ reach xs m := by
  intro m
  induction m with
  | zero =>
    right
    obtain ⟨x, hx, e⟩ := root
    have : 0 < reach xs 0 := List.countP_pos_iff.mpr ⟨x, hx, by simp only [decide_eq_true_eq]; exact e⟩
    omega
  | succ m ih =>
    rcases ih with ⟨j, jm, h⟩ | h
    · exact .inl ⟨j, by omega, h⟩
    · by_cases st : ∀ x ∈ xs, climb xs (m + 1) x → climb xs m x
      · exact .inl ⟨m, by omega, st⟩
      · right
        have ⟨x, hx, h1⟩ : ∃ x ∈ xs, ¬ (climb xs (m + 1) x → climb xs m x) := by
          apply Classical.byContradiction
          intro t
          exact st fun x hx => Classical.byContradiction fun u => t ⟨x, hx, u⟩
        have h2 : climb xs (m + 1) x ∧ ¬ climb xs m x := by
          constructor
          · exact Classical.byContradiction fun u => h1 fun v => absurd v u
          · exact fun u => h1 fun _ => u
        have : reach xs m < reach xs (m + 1) := count_lt xs (fun y _ hy => by simp only [decide_eq_true_eq] at hy ⊢; exact climb_mono _ _ hy) ⟨x, hx, by simpa using h2.1, by simpa using h2.2⟩
        omega
theorem climb_len (root : ∃ x ∈ xs, x.id = 1) {m : Nat} {x : P} (hx : x ∈ xs) (h : climb xs m x) : climb xs (xs.length + 1) x := by
  rcases reach_or root xs.length with ⟨j, jl, st⟩ | h'
  · refine climb_le (m := j) (by omega) ?_
    by_cases l : m ≤ j
    · exact climb_le l h
    · exact climb_stable st (m - j) x hx (by rw [show j + (m - j) = m by omega]; exact h)
  · have : reach xs xs.length ≤ xs.length := List.countP_le_length
    omega
theorem climbS_iff (root : ∃ x ∈ xs, x.id = 1) : ∀ (m : Nat) (x : P), getP xs x.id = some x → (∀ y ∈ xs, getP xs y.id = some y) → (x.id ≠ 1 → ∃ y, getP xs x.parent = some y) → (∀ y ∈ xs, y.id ≠ 1 → ∃ z, getP xs y.parent = some z) → (climbS xs m x.id ↔ climb xs m x) := by
  intro m
  induction m with
  | zero => intro x _ _ _ _; exact Iff.rfl
  | succ m ih =>
    intro x gx all px par
    constructor
    · rintro (h | ⟨y, hy, h⟩)
      · exact .inl h
      · rw [gx] at hy; injection hy with hy; subst hy
        by_cases x1 : x.id = 1
        · exact .inl x1
        · obtain ⟨z, hz⟩ := px x1
          have mz := getP_mem hz
          refine .inr ⟨z, hz, ?_⟩
          rw [← mz.2] at h
          exact (ih z (all z mz.1) all (par z mz.1) par).mp h
    · rintro (h | ⟨z, hz, h⟩)
      · exact .inl h
      · have mz := getP_mem hz
        refine .inr ⟨x, gx, ?_⟩
        rw [← mz.2]
        exact (ih z (all z mz.1) all (par z mz.1) par).mpr h
/-! numbers -/
theorem srt_of (l32 : xs.length ≤ 32) (inc : ∀ (i : Nat) (x : P), xs[i]? = some x → lastOf xs i < x.id ∧ x.id ≤ 32) (root : ∀ x, xs[0]? = some x → x.id = 1) : Srt xs :=
  ⟨root, fun j y z hy hz => by have := (inc (j + 1) z hz).1; simp only [lastOf, hy] at this; exact this, fun j y hy => (inc j y hy).2⟩
theorem Srt.uni (s : Srt xs) (i j : Nat) (x y : P) (hx : xs[i]? = some x) (hy : xs[j]? = some y) (e : x.id = y.id) : i = j := by
  rcases Nat.lt_trichotomy i j with l | l | l
  · have := s.gap (j - i) i x y hx (by rw [show i + (j - i) = j by omega]; exact hy); omega
  · exact l
  · have := s.gap (i - j) j y x hy (by rw [show j + (i - j) = i by omega]; exact hx); omega
theorem Srt.get (s : Srt xs) (hx : xs[i]? = some x) : At1 xs x.id i x :=
  ⟨hx, rfl, fun k z hk hz e => by have := s.uni k i z x hz hx e; omega⟩
theorem Srt.mem (s : Srt xs) (hx : x ∈ xs) : getP xs x.id = some x := by
  obtain ⟨i, hi, e⟩ := List.getElem_of_mem hx
  exact (s.get (by rw [List.getElem?_eq_getElem hi, e])).get
def InL (xs : List P) : Prop := ∀ x ∈ xs, InP x
theorem ok_iff (r : InL xs) : OkP xs ↔ OkS xs := by
  have inP : ∀ (i : Nat) (x : P), xs[i]? = some x → InP x := fun i x hx => r x (List.mem_of_getElem? hx)
  constructor
  · intro ok
    have h0 : ∃ x, xs[0]? = some x := ⟨_, List.getElem?_eq_getElem (by have := ok.l1; omega)⟩
    obtain ⟨x0, hx0⟩ := h0
    have root : ∀ x, xs[0]? = some x → x.id = 1 := fun x hx => ((ok.one 0 x hx).root rfl).1
    have s : Srt xs := srt_of ok.l32 (fun i x hx => ⟨(ok.one i x hx).id, (ok.one i x hx).id32⟩) root
    have rx : ∃ x ∈ xs, x.id = 1 := ⟨x0, List.mem_of_getElem? hx0, root x0 hx0⟩
    have par : ∀ y ∈ xs, y.id ≠ 1 → ∃ z, getP xs y.parent = some z := fun y hy y1 => by
      obtain ⟨i, hi, e⟩ := List.getElem_of_mem hy
      have hy' : xs[i]? = some y := by rw [List.getElem?_eq_getElem hi, e]
      have i0 : i ≠ 0 := fun t => by subst t; exact y1 (root y hy')
      obtain ⟨z, hz, _⟩ := (ok.one i y hy').par i0
      exact ⟨z, hz⟩
    refine ⟨ok.l1, ok.l32, fun x hx => ?_, fun i x hx => ⟨(one_iff (inP i x hx)).mp (ok.one i x hx).toOne, fun i0 => ?_⟩, fun i x hx => ?_⟩
    · have := (ok.one 0 x hx).root rfl; exact ⟨this.1, this.2.2, this.2.1⟩
    · obtain ⟨z, hz, _, h3⟩ := (ok.one i x hx).par i0
      rw [lives, hz]; simpa using h3
    · have mx := List.mem_of_getElem? hx
      exact (climbS_iff rx _ x (s.mem mx) (fun y hy => s.mem hy) (par x mx) par).mpr (climb_len rx mx (ok.top i x hx))
  · intro ok
    obtain ⟨x0, hx0⟩ : ∃ x, xs[0]? = some x := ⟨_, List.getElem?_eq_getElem (by have := ok.l1; omega)⟩
    have root : ∀ x, xs[0]? = some x → x.id = 1 := fun x hx => (ok.root x hx).1
    have s : Srt xs := srt_of ok.l32 (fun i x hx => ⟨(ok.one i x hx).id, (ok.one i x hx).id32⟩) root
    have rx : ∃ x ∈ xs, x.id = 1 := ⟨x0, List.mem_of_getElem? hx0, root x0 hx0⟩
    have liv : ∀ (i : Nat) (x : P), xs[i]? = some x → i ≠ 0 → ∃ z, getP xs x.parent = some z ∧ z.state ≠ 3 := fun i x hx i0 => by
      have := (ok.one i x hx).par i0
      rw [lives] at this
      cases g : getP xs x.parent with
      | none => rw [g] at this; cases this
      | some z => rw [g] at this; exact ⟨z, rfl, by simpa using this⟩
    have par : ∀ y ∈ xs, y.id ≠ 1 → ∃ z, getP xs y.parent = some z := fun y hy y1 => by
      obtain ⟨i, hi, e⟩ := List.getElem_of_mem hy
      have hy' : xs[i]? = some y := by rw [List.getElem?_eq_getElem hi, e]
      have i0 : i ≠ 0 := fun t => by subst t; exact y1 (root y hy')
      obtain ⟨z, hz, _⟩ := liv i y hy' i0
      exact ⟨z, hz⟩
    have top : ∀ (i : Nat) (x : P), xs[i]? = some x → climb xs (xs.length + 1) x := fun i x hx => by
      have mx := List.mem_of_getElem? hx
      exact (climbS_iff rx _ x (s.mem mx) (fun y hy => s.mem hy) (par x mx) par).mp (ok.top i x hx)
    refine ⟨ok.l1, ok.l32, fun i x hx => ⟨(one_iff (inP i x hx)).mpr (ok.one i x hx).toOneS, fun i0 => ?_, fun i0 => ?_⟩, fun i x hx => climb_le (by have := ok.l32; omega) (top i x hx)⟩
    · subst i0; have := ok.root x hx; exact ⟨this.1, this.2.2, this.2.1⟩
    · obtain ⟨z, hz, h3⟩ := liv i x hx i0
      refine ⟨z, hz, fun e => ?_, h3⟩
      -- its own parent: it never gets to the root
      have mx := List.mem_of_getElem? hx
      have never : ∀ m, ¬ climb xs m x := by
        have x1 : x.id ≠ 1 := fun t => i0 (s.uni i 0 x x0 hx hx0 (by rw [t, root x0 hx0]))
        intro m
        induction m with
        | zero => exact x1
        | succ m ih =>
          rintro (t | ⟨w, hw, t⟩)
          · exact x1 t
          · rw [e, s.mem mx] at hw; injection hw with hw; subst hw; exact ih t
      exact never _ (top i x hx)
/-! what a step asks -/
theorem Same.end {ys : List P} (l1 : 1 ≤ ys.length) (same : ∀ (j : Nat) (y : P), xs[j]? = some y → ∃ z, ys[j]? = some z ∧ z.id = y.id ∧ z.parent = y.parent) (back : ∀ (j : Nat) (z : P), ys[j]? = some z → ∃ y, xs[j]? = some y ∧ z.id = y.id)
    (s : Srt xs) (hx : xs[i]? = some x) {u : Nat} {y : P} (hy : xs[u]? = some y) (ey : y.id = x.parent) (ne : x.parent ≠ x.id) : EndOk ys x.id := by
  -- ids stand where they stood
  have uni : ∀ (a b : Nat) (v w : P), ys[a]? = some v → ys[b]? = some w → v.id = w.id → a = b := fun a b v w hv hw e => by
    obtain ⟨v', hv', e1⟩ := back a v hv
    obtain ⟨w', hw', e2⟩ := back b w hw
    exact s.uni a b v' w' hv' hw' (by rw [← e1, ← e2, e])
  -- behind the orphans and the signal
  have mid : ∀ (j : Nat) (z : P), ys[j]? = some z → ∃ w, (endMid ys x.id)[j]? = some w ∧ w.id = z.id ∧ (z.parent ≠ x.id → w.parent = z.parent) := fun j z hz => by
    have h1 : (ys.map (orphan x.id))[j]? = some (orphan x.id z) := by rw [List.getElem?_map, hz]; rfl
    have p1 : z.parent ≠ x.id → (orphan x.id z).parent = z.parent := fun n => by rw [orphan, if_neg n]
    unfold endMid
    split
    · unfold sendAt
      split
      · rename_i r hr
        by_cases j0 : j = 0
        · subst j0
          rw [hr] at h1; injection h1 with h1
          refine ⟨_, getSet hr, ?_, fun n => ?_⟩
          · rw [(sendZ_id r 14).1, h1, orphan_id]
          · rw [(sendZ_id r 14).2, h1, p1 n]
        · exact ⟨_, by rw [List.getElem?_set, if_neg (by omega)]; exact h1, orphan_id _ _, p1⟩
      · exact ⟨_, h1, orphan_id _ _, p1⟩
    · exact ⟨_, h1, orphan_id _ _, p1⟩
  have backm : ∀ (j : Nat) (w : P), (endMid ys x.id)[j]? = some w → ∃ z, ys[j]? = some z ∧ w.id = z.id := fun j w hw => by
    have lj : j < ys.length := by have := get_lt hw; rw [endMid_len] at this; exact this
    obtain ⟨w', hw', e, _⟩ := mid j _ (List.getElem?_eq_getElem lj)
    rw [hw] at hw'; injection hw' with hw'; subst hw'
    exact ⟨_, List.getElem?_eq_getElem lj, e⟩
  have at1 : ∀ (j : Nat) (w : P), (endMid ys x.id)[j]? = some w → At1 (endMid ys x.id) w.id j w := fun j w hw => ⟨hw, rfl, fun k v hk hv e => by
    obtain ⟨v', hv', e1⟩ := backm k v hv
    obtain ⟨w', hw', e2⟩ := backm j w hw
    have := uni k j v' w' hv' hw' (by rw [← e1, ← e2, e]); omega⟩
  obtain ⟨z, hz, ez, pz⟩ := same i x hx
  obtain ⟨w, hw, ew, pw⟩ := mid i z hz
  obtain ⟨z', hz', ez', _⟩ := same u y hy
  obtain ⟨w', hw', ew', _⟩ := mid u z' hz'
  refine ⟨l1, i, w, u, w', ?_, ?_⟩
  · have := at1 i w hw; rw [ew, ez] at this; exact this
  · have := at1 u w' hw'
    rw [ew', ez', ey] at this
    rw [pw (by rw [pz]; exact ne), pz]; exact this
theorem free_ex (s : Srt xs) (l32 : xs.length ≤ 32) : ∃ d, d ≤ xs.length ∧ freeId xs 33 1 = (d : Int) + 1 := by
  have key : ∀ (t d : Nat), d + t = xs.length → (∀ (j : Nat) (y : P), j < d → xs[j]? = some y → y.id = (j : Int) + 1) → ∃ d, d ≤ xs.length ∧ freeId xs 33 1 = (d : Int) + 1 := by
    intro t
    induction t with
    | zero =>
      intro d e eq
      exact ⟨d, by omega, free_at s l32 d (by omega) eq fun y hy => by have := get_lt hy; omega⟩
    | succ t ih =>
      intro d e eq
      obtain ⟨y, hy⟩ : ∃ y, xs[d]? = some y := ⟨_, List.getElem?_eq_getElem (by omega)⟩
      by_cases ey : y.id = (d : Int) + 1
      · refine ih (d + 1) (by omega) fun j z hj hz => ?_
        by_cases q : j = d
        · subst q; rw [hy] at hz; injection hz with hz; subst hz; exact ey
        · exact eq j z (by omega) hz
      · exact ⟨d, by omega, free_at s l32 d (by omega) eq fun z hz => by rw [hy] at hz; injection hz with hz; subst hz; exact ey⟩
  exact key xs.length 0 (by omega) (by intros; omega)
theorem good (ok : OkP xs) (r : InL xs) : Good xs := by
  have okS := (ok_iff r).mp ok
  have root : ∀ x, xs[0]? = some x → x.id = 1 := fun x hx => ((ok.one 0 x hx).root rfl).1
  have s : Srt xs := srt_of ok.l32 (fun i x hx => ⟨(ok.one i x hx).id, (ok.one i x hx).id32⟩) root
  obtain ⟨d, dl, ef⟩ := free_ex s ok.l32
  obtain ⟨x0, hx0⟩ : ∃ x, xs[0]? = some x := ⟨_, List.getElem?_eq_getElem (by have := ok.l1; omega)⟩
  have up : ∀ (i : Nat) (x : P), xs[i]? = some x → x.id ≠ 1 → ∃ (u : Nat) (y : P), xs[u]? = some y ∧ y.id = x.parent ∧ x.parent ≠ x.id := fun i x hx x1 => by
    have i0 : i ≠ 0 := fun t => by subst t; exact x1 (root x hx)
    obtain ⟨y, hy, ne, _⟩ := (ok.one i x hx).par i0
    have my := getP_mem hy
    obtain ⟨u, hu, e⟩ := List.getElem_of_mem my.1
    exact ⟨u, y, by rw [List.getElem?_eq_getElem hu, e], my.2, ne⟩
  refine ⟨ok.l32, ⟨by omega, fun _ => by omega, fun i x hx _ x1 => ?_, fun i x hx _ _ x1 => ?_⟩, ⟨fun i x hx => ?_, s.uni⟩, s, fun i x hx => ?_⟩
  · obtain ⟨u, y, hy, ey, ne⟩ := up i x hx x1
    exact Same.end ok.l1 (fun j y hy => ⟨y, hy, rfl, rfl⟩) (fun j z hz => ⟨z, hz, rfl⟩) s hx hy ey ne
  · obtain ⟨u, y, hy, ey, ne⟩ := up i x hx x1
    refine Same.end (xs := xs) (by simpa using ok.l1) (fun j y hy => ?_) (fun j z hz => ?_) s hx hy ey ne
    · by_cases q : i = j
      · subst q; rw [hx] at hy; injection hy with hy; subst hy
        exact ⟨_, getSet hx, rfl, rfl⟩
      · exact ⟨y, by rw [List.getElem?_set, if_neg q]; exact hy, rfl, rfl⟩
    · by_cases q : i = j
      · subst q
        rw [getSet hx] at hz; injection hz with hz; subst hz
        exact ⟨x, hx, rfl⟩
      · rw [List.getElem?_set, if_neg q] at hz; exact ⟨z, hz, rfl⟩
  · have o := okS.one i x hx
    exact ⟨Set16 o.sp, Set16 o.sm.1, Set16 o.si.1, Set16 o.sc.1⟩
  · have o := okS.one i x hx
    exact sig_ok ⟨Set16 o.sp, Set16 o.sm.1, Set16 o.si.1, Set16 o.sc.1⟩ o.sp.2.2 o.sm.2.1
end Go.Proofs.Ytgcjjapmdbgofaa
