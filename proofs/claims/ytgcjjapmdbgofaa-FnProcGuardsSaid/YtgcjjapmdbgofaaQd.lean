import Derived.Test.YtgcjjapmdbgofaaQc
set_option linter.unusedVariables false
namespace Go.Proofs.Ytgcjjapmdbgofaa
open Go.Eng
variable {h h' : H} {b o c n i j p : Nat} {a : Option Addr} {xs : List P} {x : P} {K : Value → H → Prop} {s k : Int}

/-- what the reference asks of one process -/
structure OneS (last : Int) (x : P) : Prop where
  id : last < x.id
  id32 : x.id ≤ 32
  g1 : 1 ≤ x.group
  g32 : x.group ≤ 32
  u0 : 0 ≤ x.user
  u255 : x.user ≤ 255
  s1 : 1 ≤ x.state
  s3 : x.state ≤ 3
  t0 : 0 ≤ x.status
  t255 : x.status ≤ 255
  tz : x.state ≠ 3 → x.status = 0
  sp : SetI x.pending
  sm : SoftI x.mask
  si : SoftI x.ignored
  sc : SoftI x.caught
  dis : ∀ k : Nat, 1 ≤ k → k ≤ 15 → hasI x.ignored k = true → hasI x.caught k = true → False
  zz : x.state = 3 → IntKind.i64.wrap (IntKind.i64.wrap (IntKind.i64.wrap (x.pending + x.mask) + x.ignored) + x.caught) = 0
theorem dis_loop {kx : Int → Int → Int → Int → Int → H → Prop} {kr : Bool → H → Prop} {st pe ma ig ca : Int}
    (k1 : (∀ k : Nat, 1 ≤ k → k ≤ 15 → hasI ig k = true → hasI ca k = true → False) → kx st pe ma ig ca h)
    (k2 : ¬ (∀ k : Nat, 1 ≤ k → k ≤ 15 → hasI ig k = true → hasI ca k = true → False) → kr false h) :
    ∀ m i : Nat, 1 ≤ i → i + m = 16 → (∀ k : Nat, 1 ≤ k → k < i → hasI ig k = true → hasI ca k = true → False) → spec_l16One_M_l2 kx kr (m + 1) i st pe ma ig ca h := by
  intro m
  induction m with
  | zero =>
    intro i i1 e no
    rw [spec_l16One_M_l2]
    exact ifD_f (by omega) (k1 fun k a b => no k a (by omega))
  | succ m ih =>
    intro i i1 e no
    rw [spec_l16One_M_l2]
    have next (f : hasI ig i = true → hasI ca i = true → False) : spec_l16One_M_l2 kx kr (m + 1) (IntKind.i64.wrap ((i : Int) + 1)) st pe ma ig ca h := by
      rw [wrap_suc (by omega)]
      refine ih (i + 1) (by omega) (by omega) fun k a l => ?_
      by_cases g : k = i
      · subst g; exact f
      · exact no k a (by omega)
    refine ifD_t (by omega) (has_spec (by omega) (by omega) (ifB_b (fun e1 => ?_) fun e1 => next (by simp [e1])))
    refine has_spec (by omega) (by omega) (ifB_b (fun e2 => k2 fun f => f i (by omega) (by omega) e1 e2) fun e2 => next (by simp [e2]))
theorem one_spec (hs : SlP h a n c xs) (hx : xs[i]? = some x) (h0 : 0 ≤ lastOf xs i) (k : ∀ r, (r = true ↔ OneS (lastOf xs i) x) → K (.bool r) h) :
    callD Try.prog 23 ⟨[.agg ⟨[.slice a n c]⟩, .int .i64 i]⟩ h K := by
  have hl := hs.le
  have hi := get_lt hx
  refine spec_l16One_M_call ?_
  rw [spec_l16One_M]
  refine SlP.gRow hs hx ?_
  have no (f : ¬ OneS (lastOf xs i) x) : K (.bool false) h := k false (by simp [f])
  refine ifB_dec (fun f => no fun t => by have := t.id; omega) fun f0 => ?_
  refine ifB_dec (fun f => no fun t => by have := t.id32; omega) fun f1 => ?_
  have tail (id : lastOf xs i < x.id) (g1 : 1 ≤ x.group) (g32 : x.group ≤ 32) (u0 : 0 ≤ x.user) (u255 : x.user ≤ 255) :
      spec_l16One_M_j0 (fun r h => K (.bool r) h) x.state x.status x.pending x.mask x.ignored x.caught h := by
    rw [spec_l16One_M_j0]
    refine ifB_dec (fun f => no fun t => by have := t.s1; omega) fun f6 => ?_
    refine ifB_dec (fun f => no fun t => by have := t.s3; omega) fun f7 => ?_
    refine ifB_dec (fun f => no fun t => by have := t.t0; omega) fun f8 => ?_
    refine ifB_dec (fun f => no fun t => by have := t.t255; omega) fun f9 => ?_
    have j1 (ft : x.state ≠ 3 → x.status = 0) : spec_l16One_M_j1 (fun r h => K (.bool r) h) x.state x.pending x.mask x.ignored x.caught h := by
      rw [spec_l16One_M_j1]
      refine set_spec (ifB_nb (fun s1 => no fun t => by have := t.sp; simp [this] at s1) fun s1 => ?_)
      refine soft_spec (ifB_nb (fun s1 => no fun t => by have := t.sm; simp [this] at s1) fun s2 => ?_)
      refine soft_spec (ifB_nb (fun s1 => no fun t => by have := t.si; simp [this] at s1) fun s3 => ?_)
      refine soft_spec (ifB_nb (fun s1 => no fun t => by have := t.sc; simp [this] at s1) fun s4 => ?_)
      simp only [decide_eq_true_eq] at s1 s2 s3 s4
      refine ⟨16, dis_loop (fun d => ?_) (fun d => no fun t => d t.dis) 15 1 (by omega) (by omega) (by intros; omega)⟩
      have on (z : x.state = 3 → IntKind.i64.wrap (IntKind.i64.wrap (IntKind.i64.wrap (x.pending + x.mask) + x.ignored) + x.caught) = 0) : OneS (lastOf xs i) x :=
        ⟨id, by omega, g1, g32, u0, u255, by omega, by omega, by omega, by omega, ft, s1, s2, s3, s4, d, z⟩
      refine ifB_neI (fun f => k true (by simp; exact on (fun g => absurd g f))) fun f => ?_
      by_cases z : IntKind.i64.wrap (IntKind.i64.wrap (IntKind.i64.wrap (x.pending + x.mask) + x.ignored) + x.caught) = 0
      · exact k _ (by simp [z]; exact on (fun _ => z))
      · exact k _ (by simp [z]; exact fun t => z (t.zz f))
    refine ifB_neI (fun z => ?_) fun z => j1 fun g => absurd z g
    exact ifB_neI (fun f => no fun t => f (t.tz z)) fun g => j1 fun _ => g
  refine ifB_dec (fun z => ?_) fun z => ?_
  · obtain ⟨y, hy⟩ : ∃ y, xs[i - 1]? = some y := ⟨_, List.getElem?_eq_getElem (by omega)⟩
    have el : lastOf xs i = y.id := by
      obtain ⟨m, rfl⟩ : ∃ m, i = m + 1 := ⟨i - 1, by omega⟩
      simp only [Nat.add_sub_cancel] at hy
      simp only [lastOf, hy]
    have ew : IntKind.i64.wrap ((i : Int) - 1) = ((i - 1 : Nat) : Int) := by rw [wrap64 (by omega) (by omega)]; omega
    rw [ew]
    refine hs.gI0 hy ?_
    refine ifB_dec (fun f => no fun t => by have := t.id; omega) fun fl => ?_
    refine ifB_dec (fun f => no fun t => by have := t.g1; omega) fun f2 => ?_
    refine ifB_dec (fun f => no fun t => by have := t.g32; omega) fun f3 => ?_
    refine ifB_dec (fun f => no fun t => by have := t.u0; omega) fun f4 => ?_
    refine ifB_dec (fun f => no fun t => by have := t.u255; omega) fun f5 => ?_
    exact tail (by omega) (by omega) (by omega) (by omega) (by omega)
  · have i0 : i = 0 := by omega
    subst i0
    refine ifB_dec (fun f => no fun t => by have := t.g1; omega) fun f2 => ?_
    refine ifB_dec (fun f => no fun t => by have := t.g32; omega) fun f3 => ?_
    refine ifB_dec (fun f => no fun t => by have := t.u0; omega) fun f4 => ?_
    refine ifB_dec (fun f => no fun t => by have := t.u255; omega) fun f5 => ?_
    exact tail (by show (0 : Int) < _; omega) (by omega) (by omega) (by omega) (by omega)
structure AtS (xs : List P) (i : Nat) (x : P) : Prop extends OneS (lastOf xs i) x where
  par : i ≠ 0 → lives xs x.parent = true
def climbS (xs : List P) : Nat → Int → Prop
  | 0, at' => at' = 1
  | m + 1, at' => at' = 1 ∨ ∃ y, getP xs at' = some y ∧ climbS xs m y.parent
structure OkS (xs : List P) : Prop where
  l1 : 1 ≤ xs.length
  l32 : xs.length ≤ 32
  root : ∀ (x : P), xs[0]? = some x → x.id = 1 ∧ x.parent = 0 ∧ x.state ≠ 3
  one : ∀ (i : Nat) (x : P), xs[i]? = some x → AtS xs i x
  top : ∀ (i : Nat) (x : P), xs[i]? = some x → climbS xs (xs.length + 1) x.id
theorem last_nn (hi : ∀ (k : Nat) (x : P), k < i → xs[k]? = some x → AtS xs k x) (hl : i ≤ xs.length) : 0 ≤ lastOf xs i := by
  induction i with
  | zero => exact Int.le_refl _
  | succ i ih =>
    have hx : xs[i]? = some (xs[i]'(by omega)) := List.getElem?_eq_getElem _
    have l := (hi i _ (by omega) hx).id
    have := ih (fun k x hk => hi k x (by omega)) (by omega)
    simp only [lastOf, hx]; omega
theorem okS_loop {kx : Option Addr → Nat → Nat → H → Prop} {kr : Bool → H → Prop} (hs : SlP h a n c xs)
    (kx' : (∀ (i : Nat) (x : P), xs[i]? = some x → AtS xs i x) → kx a n c h) (kf : ¬ OkS xs → kr false h) :
    ∀ m i : Nat, i + m = n → (∀ (k : Nat) x, k < i → xs[k]? = some x → AtS xs k x) → spec_ProcsOk_M_l0 kx kr (m + 1) i a n c h := by
  have hl := hs.le
  intro m
  induction m with
  | zero =>
    intro i e hi
    rw [spec_ProcsOk_M_l0]
    exact ifD_f (by omega) (kx' fun k x hx => hi k x (by have := get_lt hx; omega) hx)
  | succ m ih =>
    intro i e hi
    obtain ⟨x, hx⟩ : ∃ x, xs[i]? = some x := ⟨_, List.getElem?_eq_getElem (by omega)⟩
    rw [spec_ProcsOk_M_l0]
    have more (t : AtS xs i x) : spec_ProcsOk_M_l0 kx kr (m + 1) (IntKind.i64.wrap ((i : Int) + 1)) a n c h := by
      rw [wrap_suc (by omega)]
      refine ih (i + 1) (by omega) (fun k y hk hy => ?_)
      by_cases g : k = i
      · subst g; rw [hx] at hy; injection hy with hy; subst hy; exact t
      · exact hi k y (by omega) hy
    refine ifD_t (by omega) (one_spec hs hx (last_nn hi (by omega)) fun r er => ifB_nb (fun e => kf fun ok => ?_) fun e => ?_)
    · have := er.mpr (ok.one i x hx).toOneS; rw [e] at this; cases this
    have on := er.mp e
    refine ifB_dec (fun z => ?_) fun z => more ⟨on, fun g => absurd (by omega) g⟩
    refine hs.gI hx (lives_spec hs (ifB_nb (fun g => kf fun ok => ?_) fun g => more ⟨on, fun _ => g⟩))
    have := (ok.one i x hx).par (by omega); rw [g] at this; cases this
theorem climbS_loop {kx : Int → Int → Option Addr → Nat → Nat → H → Prop} {ix : Int} (hs : SlP h a n c xs)
    (all : ∀ (i : Nat) (x : P), xs[i]? = some x → i ≠ 0 → ∃ y, getP xs x.parent = some y) (root : ∀ (x : P), xs[0]? = some x → x.id = 1)
    : ∀ r t at', t + r = n + 1 → (∃ y, getP xs at' = some y) → (∀ at2, (at2 = 1 ↔ climbS xs r at') → kx ix at2 a n c h) →
    spec_ProcsOk_M_l2 kx (r + 1) ix at' (t : Nat) a n c h := by
  have hl := hs.le
  intro r
  induction r with
  | zero =>
    intro t at' e ex k0
    rw [spec_ProcsOk_M_l2]
    exact ifD_f (by omega) (k0 at' Iff.rfl)
  | succ r ih =>
    intro t at' e ex k0
    rw [spec_ProcsOk_M_l2]
    refine ifD_t (by omega) (ifB_neI (fun f => find_spec hs (asI_of ?_)) fun f => k0 at' ⟨fun _ => .inl f, fun _ => f⟩)
    obtain ⟨y, gy⟩ := ex
    rcases at_cases xs at' with g | ⟨i, y', ty⟩
    · rw [getP_none.mpr g] at gy; cases gy
    · have g := ty.get
      rw [g] at gy; injection gy with gy; subst gy
      rw [ty.pos]
      refine hs.gI ty.1 ?_
      rw [wrap_suc (by omega)]
      have i0 : i ≠ 0 := fun z => by subst z; exact f (by rw [← ty.2.1]; exact root _ ty.1)
      refine ih (t + 1) y'.parent (by omega) (all i y' ty.1 i0) fun at2 e2 => ?_
      refine k0 at2 (e2.trans ⟨fun u => .inr ⟨y', g, u⟩, fun u => ?_⟩)
      rcases u with u | ⟨z, hz, u⟩
      · exact absurd u f
      · rw [g] at hz; injection hz with hz; subst hz; exact u
theorem At1.of (hx : xs[i]? = some x) : ∃ y, getP xs x.id = some y := by
  rcases at_cases xs x.id with f | ⟨_, y, t⟩
  · exact absurd rfl (f x (List.mem_of_getElem? hx))
  · exact ⟨y, t.get⟩
theorem topS_loop {kx : H → Prop} {kr : Bool → H → Prop} (hs : SlP h a n c xs)
    (one : ∀ (i : Nat) (x : P), xs[i]? = some x → AtS xs i x) (root : ∀ (x : P), xs[0]? = some x → x.id = 1)
    (kx' : (∀ (i : Nat) (x : P), xs[i]? = some x → climbS xs (xs.length + 1) x.id) → kx h) (kf : ¬ OkS xs → kr false h) :
    ∀ m i : Nat, i + m = n → (∀ (k : Nat) (x : P), k < i → xs[k]? = some x → climbS xs (xs.length + 1) x.id) → spec_ProcsOk_M_l1 kx kr (m + 1) i a n c h := by
  have hl := hs.le
  have all : ∀ (i : Nat) (x : P), xs[i]? = some x → i ≠ 0 → ∃ y, getP xs x.parent = some y := by
    intro i x hx i0
    have := (one i x hx).par i0
    rw [lives] at this
    cases g : getP xs x.parent with
    | none => rw [g] at this; cases this
    | some y => exact ⟨y, rfl⟩
  intro m
  induction m with
  | zero =>
    intro i e hi
    rw [spec_ProcsOk_M_l1]
    exact ifD_f (by omega) (kx' fun k x hx => hi k x (by have := get_lt hx; omega) hx)
  | succ m ih =>
    intro i e hi
    obtain ⟨x, hx⟩ : ∃ x, xs[i]? = some x := ⟨_, List.getElem?_eq_getElem (by omega)⟩
    rw [spec_ProcsOk_M_l1]
    refine ifD_t (by omega) (hs.gI0 hx ⟨n + 1 + 1, climbS_loop hs all root (n + 1) 0 x.id (by omega) (At1.of hx) fun at2 e2 => ?_⟩)
    refine ifB_neI (fun f => kf (fun ok => f (e2.mpr (by have := ok.top i x hx; rw [← hl.1] at this; exact this)))) fun f => ?_
    rw [wrap_suc (by omega)]
    refine ih (i + 1) (by omega) (fun k y hk hy => ?_)
    by_cases g : k = i
    · subst g; rw [hx] at hy; injection hy with hy; subst hy; rw [← hl.1]; exact e2.mp f
    · exact hi k y (by omega) hy
theorem okS_spec (hs : SlP h a n c xs) (k : ∀ r, (r = true ↔ OkS xs) → K (.bool r) h) : callD Try.prog 9 ⟨[.agg ⟨[.slice a n c]⟩]⟩ h K := by
  have hl := hs.le
  have kf (f : ¬ OkS xs) : K (.bool false) h := k false (by simp [f])
  refine spec_ProcsOk_M_call ?_
  rw [spec_ProcsOk_M]
  refine ifB_eqI (fun f => kf fun ok => by have := ok.l1; omega) fun f0 => ?_
  refine ifB_dec (fun f => kf fun ok => by have := ok.l32; omega) fun f1 => ?_
  obtain ⟨x, hx⟩ : ∃ x, xs[0]? = some x := ⟨_, List.getElem?_eq_getElem (by omega)⟩
  refine hs.gI0 hx (ifB_neI (fun f => kf fun ok => f (ok.root x hx).1) fun g0 => ?_)
  refine hs.gI hx (ifB_neI (fun f => kf fun ok => f (ok.root x hx).2.1) fun g1 => ?_)
  refine hs.gI hx (ifB_eqI (fun f => kf fun ok => (ok.root x hx).2.2 f) fun g2 => ?_)
  have root : ∀ (y : P), xs[0]? = some y → y.id = 1 ∧ y.parent = 0 ∧ y.state ≠ 3 := by
    intro y hy; rw [hx] at hy; injection hy with hy; subst hy; exact ⟨g0, g1, g2⟩
  refine ⟨n + 1, okS_loop hs (fun one => ?_) kf n 0 (by omega) (by intros; omega)⟩
  refine ⟨n + 1, topS_loop hs one (fun y hy => (root y hy).1) (fun top => ?_) kf n 0 (by omega) (by intros; omega)⟩
  exact k true (by simp; exact ⟨by omega, by omega, root, one, top⟩)
end Go.Proofs.Ytgcjjapmdbgofaa
