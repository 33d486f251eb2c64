import Derived.Test.YteeinamngmmlbaaSg
set_option linter.unusedVariables false
/-! The reference's test of a state. -/
namespace Go.Proofs.Yteeinamngmmlbaa
open Go.Eng
variable {h h0 h' : H} {now seq now' seq' : Int} {a b a' b' : Option Addr} {n c m d n' c' m' d' p : Nat} {s s' s'' : S} {K : Value → H → Prop} {id k on since kind q : Int} {i j : Nat} {t x : T} {l : L} {xs : List T} {zs : List L}
structure ThO (s : S) (t : T) : Prop where
  i0 : 0 ≤ t.id
  i1 : t.id < 32
  b0 : 0 ≤ t.base
  b1 : t.base ≤ 7
  l0 : 1 ≤ t.line
  l1 : t.line ≤ s.seq
  e0 : 1 ≤ t.left
  e1 : t.left ≤ 4
  s0 : 0 ≤ t.since
  s1 : t.since ≤ s.now
  st : t.state = 1 ∧ t.wait = -1 ∧ t.till = 0 ∨ t.state = 2 ∧ (getL s.lks t.wait).isSome ∧ t.till = 0 ∨ t.state = 3 ∧ t.wait = -1 ∧ 0 < t.till
def prevT (xs : List T) (i : Nat) (id : Int) : Prop := ∀ (j : Nat) (y : T), i = j + 1 → xs[j]? = some y → y.id < id
def prevL (xs : List L) (i : Nat) (id : Int) : Prop := ∀ (j : Nat) (y : L), i = j + 1 → xs[j]? = some y → y.id < id
structure LkO (s : S) (i : Nat) (l : L) : Prop where
  i0 : 0 ≤ l.id
  i1 : l.id < 16
  pr : prevL s.lks i l.id
  ow : (getT s.ths l.owner).isSome
structure OkS (s : S) : Prop where
  n0 : 0 ≤ s.now
  n1 : s.now ≤ 1099511627776
  q0 : 0 ≤ s.seq
  q1 : s.seq ≤ 1099511627776
  tl : s.ths.length ≤ 32
  ll : s.lks.length ≤ 16
  lk : ∀ (i : Nat) (l : L), s.lks[i]? = some l → LkO s i l
  th : ∀ (i : Nat) (t : T), s.ths[i]? = some t → prevT s.ths i t.id ∧ ThO s t
  ln : ∀ (i k : Nat) (t y : T), s.ths[i]? = some t → s.ths[k]? = some y → k < i → y.line ≠ t.line
  cy : ∀ (i : Nat) (t : T), s.ths[i]? = some t → waits s (s.ths.length + 1) (nxt s t.id) t.id = false
theorem count_spec (z : K (.bool (decide (0 ≤ k ∧ k ≤ 1099511627776))) h) : callD Try.prog 28 ⟨[.int .i64 k]⟩ h K := by
  refine spec_l10Count_M_call ?_
  rw [spec_l10Count_M]
  refine ifB_dec (fun f => ?_) fun f => ?_
  · rw [show (decide (0 ≤ k ∧ k ≤ 1099511627776)) = decide (k ≤ 1099511627776) by congr 1; apply propext; omega] at z; exact z
  · rw [decide_eq_false (by omega)] at z; exact z
theorem tho_spec (r : Ss h now seq a n c b m d s) (z : ∀ w, (w = true ↔ ThO s t) → K (.bool w) h) : callD Try.prog 30 ⟨[val now seq a n c b m d, .agg ⟨encT t⟩]⟩ h K := by
  have en := r.en
  have es := r.es
  subst en es
  have no (f : ¬ ThO s t) : K (.bool false) h := z false (by simp [f])
  refine spec_l11ThreadOk_M_call ?_
  rw [spec_l11ThreadOk_M]
  refine ifB_dec (fun f => no fun o => by have := o.i0; omega) fun f0 => ifB_dec (fun f => no fun o => by have := o.i1; omega) fun f1 => ?_
  refine ifB_dec (fun f => no fun o => by have := o.b0; omega) fun f2 => ifB_dec (fun f => no fun o => by have := o.b1; omega) fun f3 => ?_
  refine ifB_dec (fun f => no fun o => by have := o.l0; omega) fun f4 => ifB_dec (fun f => no fun o => by have := o.l1; omega) fun f5 => ?_
  refine ifB_dec (fun f => no fun o => by have := o.e0; omega) fun f6 => ifB_dec (fun f => no fun o => by have := o.e1; omega) fun f7 => ?_
  refine ifB_dec (fun f => no fun o => by have := o.s0; omega) fun f8 => ifB_dec (fun f => no fun o => by have := o.s1; omega) fun f9 => ?_
  have fin (w : Bool) (e : w = true ↔ (t.state = 1 ∧ t.wait = -1 ∧ t.till = 0 ∨ t.state = 2 ∧ (getL s.lks t.wait).isSome ∧ t.till = 0 ∨ t.state = 3 ∧ t.wait = -1 ∧ 0 < t.till)) : K (.bool w) h :=
    z w ⟨fun u => ⟨by omega, by omega, by omega, by omega, by omega, by omega, by omega, by omega, by omega, by omega, e.mp u⟩, fun o => e.mpr o.st⟩
  refine ifB_eqI (fun g => ?_) fun g1 => ifB_eqI (fun g => ?_) fun g2 => ifB_eqI (fun g => ?_) fun g3 => ?_
  · exact ifB_eqI (fun w => fin _ (by simp [g, w])) fun w => fin _ (by simp [g, w])
  · refine lock_spec r.l (asI_of ?_)
    rcases atL_cases s.lks t.wait with f | ⟨j, l, u⟩
    · rw [posL_none f]
      exact ifD_f (by omega) (fin _ (by simp [g, getL_none.mpr f]))
    · rw [u.pos]
      exact ifD_t (by omega) (fin _ (by simp [g, u.get]))
  · exact ifB_eqI (fun w => fin _ (by simp [g, w])) fun w => fin _ (by simp [g, w])
  · exact fin _ (by simp [g1, g2, g3])
theorem okL_loop {kx : Int → Int → Option Addr → Nat → Nat → Option Addr → Nat → Nat → H → Prop} {kr : Bool → H → Prop} (r : Ss h now seq a n c b m d s)
    (kx' : (∀ (i : Nat) (l : L), s.lks[i]? = some l → LkO s i l) → kx now seq a n c b m d h) (kf : ¬ OkS s → kr false h) :
    ∀ t i : Nat, i + t = m → (∀ (k : Nat) (l : L), k < i → s.lks[k]? = some l → LkO s k l) → spec_SchedOk_M_l0 kx kr (t + 1) i now seq a n c b m d h := by
  have hl := r.l.le
  intro t
  induction t with
  | zero =>
    intro i e hi
    rw [spec_SchedOk_M_l0]
    exact ifD_f (by omega) (kx' fun k l hk => hi k l (by have := get_lt hk; omega) hk)
  | succ t ih =>
    intro i e hi
    obtain ⟨l, hx⟩ : ∃ l, s.lks[i]? = some l := ⟨_, List.getElem?_eq_getElem (by omega)⟩
    have no (f : ¬ LkO s i l) : kr false h := kf fun ok => f (ok.lk i l hx)
    have nx (o : LkO s i l) : spec_SchedOk_M_l0 kx kr (t + 1) (IntKind.i64.wrap ((i : Int) + 1)) now seq a n c b m d h := by
      rw [wrap_suc (by omega)]
      refine ih (i + 1) (by omega) fun k y hk hy => ?_
      by_cases g : k = i
      · subst g; rw [hx] at hy; injection hy with hy; subst hy; exact o
      · exact hi k y (by omega) hy
    have last (f0 : 0 ≤ l.id) (f1 : l.id < 16) (pr : prevL s.lks i l.id) : callD Try.prog 29 ⟨[val now seq a n c b m d, .int .i64 l.owner]⟩ h fun v h => asI .i64 v fun q =>
        ifB (decide (q < 0)) (kr false h) (spec_SchedOk_M_l0 kx kr (t + 1) (IntKind.i64.wrap ((i : Int) + 1)) now seq a n c b m d h) := by
      refine thread_spec r.t (asI_of ?_)
      rcases atT_cases s.ths l.owner with f | ⟨j, y, u⟩
      · rw [posT_none f]
        exact ifD_t (by omega) (no fun o => by have := o.ow; rw [getT_none.mpr f] at this; cases this)
      · rw [u.pos]
        exact ifD_f (by omega) (nx ⟨f0, f1, pr, by rw [u.get]; rfl⟩)
    rw [spec_SchedOk_M_l0]
    refine ifD_t (by omega) (SlL.gRow r.l hx ?_)
    refine ifB_dec (fun f => no fun o => by have := o.i0; omega) fun f0 => ifB_dec (fun f => no fun o => by have := o.i1; omega) fun f1 => ?_
    refine ifB_dec (fun g => ?_) fun g => ?_
    · obtain ⟨y, hy⟩ : ∃ y, s.lks[i - 1]? = some y := ⟨_, List.getElem?_eq_getElem (by omega)⟩
      have ew : IntKind.i64.wrap ((i : Int) - 1) = ((i - 1 : Nat) : Int) := by rw [wrap64 (by omega) (by omega)]; omega
      rw [ew]
      refine r.l.gI0 hy ?_
      refine ifB_dec (fun f => no fun o => by have := o.pr (i - 1) y (by omega) hy; omega) fun f2 => ?_
      refine last (by omega) (by omega) fun k z ek hz => ?_
      have : k = i - 1 := by omega
      subst this; rw [hy] at hz; injection hz with hz; subst hz; omega
    · exact last (by omega) (by omega) fun k z ek hz => by omega
theorem line_loop {kx : Int → Int → Int → Option Addr → Nat → Nat → Option Addr → Nat → Nat → H → Prop} {kr : Bool → H → Prop} (r : Ss h now seq a n c b m d s) (hi : i ≤ n)
    (kx' : (∀ (k : Nat) (y : T), k < i → s.ths[k]? = some y → y.line ≠ q) → kx i now seq a n c b m d h) (kf : ¬ (∀ (k : Nat) (y : T), k < i → s.ths[k]? = some y → y.line ≠ q) → kr false h) :
    ∀ t k : Nat, k + t = i → (∀ (k' : Nat) (y : T), k' < k → s.ths[k']? = some y → y.line ≠ q) → spec_SchedOk_M_l3 kx kr (t + 1) i k now seq a n c b m d q h := by
  have hl := r.t.le
  intro t
  induction t with
  | zero =>
    intro k e hk
    rw [spec_SchedOk_M_l3]
    have : k = i := by omega
    subst this
    exact ifD_f (by omega) (kx' hk)
  | succ t ih =>
    intro k e hk
    obtain ⟨x, hx⟩ : ∃ x, s.ths[k]? = some x := ⟨_, List.getElem?_eq_getElem (by omega)⟩
    rw [spec_SchedOk_M_l3, wrap_suc (by omega)]
    refine ifD_t (by omega) (r.t.gI hx (ifB_eqI (fun f => kf fun o => o k x (by omega) hx f) fun f => ih (k + 1) (by omega) fun k' y hk' hy => ?_))
    by_cases g : k' = k
    · subst g; rw [hx] at hy; injection hy with hy; subst hy; exact f
    · exact hk k' y (by omega) hy
structure One (s : S) (i : Nat) (t : T) : Prop where
  pr : prevT s.ths i t.id
  o : ThO s t
  cy : waits s (s.ths.length + 1) (nxt s t.id) t.id = false
  ln : ∀ (k : Nat) (y : T), k < i → s.ths[k]? = some y → y.line ≠ t.line
theorem okT_loop {kx : H → Prop} {kr : Bool → H → Prop} (r : Ss h now seq a n c b m d s)
    (kx' : (∀ (i : Nat) (t : T), s.ths[i]? = some t → One s i t) → kx h) (kf : ¬ OkS s → kr false h) :
    ∀ t i : Nat, i + t = n → (∀ (k : Nat) (t : T), k < i → s.ths[k]? = some t → One s k t) → spec_SchedOk_M_l1 kx kr (t + 1) i now seq a n c b m d h := by
  have hl := r.t.le
  intro t
  induction t with
  | zero =>
    intro i e hi
    rw [spec_SchedOk_M_l1]
    exact ifD_f (by omega) (kx' fun k l hk => hi k l (by have := get_lt hk; omega) hk)
  | succ t ih =>
    intro i e hi
    obtain ⟨x, hx⟩ : ∃ x, s.ths[i]? = some x := ⟨_, List.getElem?_eq_getElem (by omega)⟩
    have no (f : ¬ One s i x) : kr false h := kf fun ok => f ⟨(ok.th i x hx).1, (ok.th i x hx).2, ok.cy i x hx, fun k y hk hy => ok.ln i k x y hx hy hk⟩
    have last (pr : prevT s.ths i x.id) : callD Try.prog 30 ⟨[val now seq a n c b m d, .agg ⟨encT x⟩]⟩ h fun v h => asB v fun t1 => ifB (!t1) (kr false h)
        (callD Try.prog 31 ⟨[val now seq a n c b m d, .int .i64 x.id, .int .i64 x.id]⟩ h fun v h => asB v fun t2 => ifB t2 (kr false h)
          (spec_SchedOk_M_j2 (fun n1 n2 n3 a1 l1 c1 a2 l2 c2 h => spec_SchedOk_M_l1 kx kr (t + 1) (IntKind.i64.wrap (n1 + 1)) n2 n3 a1 l1 c1 a2 l2 c2 h) kr i now seq a n c b m d x.line h)) := by
      refine tho_spec r fun w ew => asB_of (ifB_nb (fun f => no fun o => by rw [ew.mpr o.o] at f; cases f) fun f1 => ?_)
      refine waits_spec r (asB_of (ifB_b (fun f => no fun o => by rw [o.cy] at f; cases f) fun f2 => ?_))
      rw [spec_SchedOk_M_j2]
      refine ⟨i + 1, line_loop r (by omega) (fun ln => ?_) (fun f => no fun o => f o.ln) i 0 (by omega) (by intros; omega)⟩
      rw [wrap_suc (by omega)]
      refine ih (i + 1) (by omega) fun k y hk hy => ?_
      by_cases g : k = i
      · subst g; rw [hx] at hy; injection hy with hy; subst hy; exact ⟨pr, ew.mp f1, f2, ln⟩
      · exact hi k y (by omega) hy
    rw [spec_SchedOk_M_l1]
    refine ifD_t (by omega) (SlT.gRow r.t hx ?_)
    refine ifB_dec (fun g => ?_) fun g => ?_
    · obtain ⟨y, hy⟩ : ∃ y, s.ths[i - 1]? = some y := ⟨_, List.getElem?_eq_getElem (by omega)⟩
      have ew : IntKind.i64.wrap ((i : Int) - 1) = ((i - 1 : Nat) : Int) := by rw [wrap64 (by omega) (by omega)]; omega
      rw [ew]
      refine r.t.gI0 hy ?_
      refine ifB_dec (fun f => no fun o => by have := o.pr (i - 1) y (by omega) hy; omega) fun f2 => ?_
      refine last fun k z ek hz => ?_
      have : k = i - 1 := by omega
      subst this; rw [hy] at hz; injection hz with hz; subst hz; omega
    · exact last fun k z ek hz => by omega
theorem okS_spec (r : Ss h now seq a n c b m d s) (z : ∀ w, (w = true ↔ OkS s) → K (.bool w) h) : callD Try.prog 15 ⟨[val now seq a n c b m d]⟩ h K := by
  have hl := r.t.le
  have hl2 := r.l.le
  have en := r.en
  have es := r.es
  have no (f : ¬ OkS s) : K (.bool false) h := z false (by simp [f])
  refine spec_SchedOk_M_call ?_
  rw [spec_SchedOk_M]
  refine count_spec (asB_of (ifB_nb (fun f => no fun ok => by rw [decide_eq_false_iff_not] at f; exact f (by rw [en]; exact ⟨ok.n0, ok.n1⟩)) fun f0 => ?_))
  refine count_spec (asB_of (ifB_nb (fun f => no fun ok => by rw [decide_eq_false_iff_not] at f; exact f (by rw [es]; exact ⟨ok.q0, ok.q1⟩)) fun f1 => ?_))
  rw [decide_eq_true_eq] at f0 f1
  refine ifB_dec (fun f => no fun ok => by have := ok.tl; omega) fun f2 => ifB_dec (fun f => no fun ok => by have := ok.ll; omega) fun f3 => ?_
  refine ⟨m + 1, okL_loop r (fun lk => ?_) no m 0 (by omega) (by intros; omega)⟩
  refine ⟨n + 1, okT_loop r (fun th => ?_) no n 0 (by omega) (by intros; omega)⟩
  refine z true (by simp; exact ⟨by omega, by omega, by omega, by omega, by omega, by omega, lk, fun i t ht => ⟨(th i t ht).pr, (th i t ht).o⟩, fun i k t y ht hy hk => (th i t ht).ln k y hk hy, fun i t ht => (th i t ht).cy⟩)
end Go.Proofs.Yteeinamngmmlbaa
