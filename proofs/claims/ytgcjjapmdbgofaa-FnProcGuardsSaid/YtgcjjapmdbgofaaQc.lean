import Derived.Test.YtgcjjapmdbgofaaQb
set_option linter.unusedVariables false
namespace Go.Proofs.Ytgcjjapmdbgofaa
open Go.Eng
variable {h h' : H} {b o c n i j p : Nat} {a : Option Addr} {xs : List P} {x : P}

/-- what the program asks of one process, its fields alone -/
structure One (last : Int) (x : P) : Prop where
  id : last < x.id
  id32 : x.id ≤ 32
  g1 : 1 ≤ x.group
  g32 : x.group ≤ 32
  u0 : 0 ≤ x.user
  u255 : x.user ≤ 255
  s1 : 1 ≤ x.state
  s3 : x.state ≤ 3
  t0 : 0 ≤ x.status
  t255 : x.status ≤ 255
  tz : x.state ≠ 3 → x.status = 0
  pend : bAndNot .i64 x.pending 65534 = 0
  soft : bAndNot .i64 (bOr .i64 (bOr .i64 x.mask x.ignored) x.caught) 60926 = 0
  dis : bAnd .i64 x.ignored x.caught = 0
  zz : x.state = 3 → bOr .i64 (bOr .i64 (bOr .i64 x.pending x.mask) x.ignored) x.caught = 0
def lastOf (xs : List P) (i : Nat) : Int := match i with | 0 => 0 | i + 1 => match xs[i]? with | some x => x.id | none => 0
structure At (xs : List P) (i : Nat) (x : P) : Prop extends One (lastOf xs i) x where
  root : i = 0 → x.id = 1 ∧ x.state ≠ 3 ∧ x.parent = 0
  par : i ≠ 0 → ∃ y, getP xs x.parent = some y ∧ x.parent ≠ x.id ∧ y.state ≠ 3
def climb (xs : List P) : Nat → P → Prop
  | 0, x => x.id = 1
  | m + 1, x => x.id = 1 ∨ ∃ y, getP xs x.parent = some y ∧ climb xs m y
structure OkP (xs : List P) : Prop where
  l1 : 1 ≤ xs.length
  l32 : xs.length ≤ 32
  one : ∀ (i : Nat) (x : P), xs[i]? = some x → At xs i x
  top : ∀ (i : Nat) (x : P), xs[i]? = some x → climb xs 33 x

theorem ok_loop {kx : Nat → H → Prop} {kr : Bool → H → Prop} (hs : SlP h a n c xs) (hp : blk h p [.slice a n c])
    (kx' : (∀ (i : Nat) (x : P), xs[i]? = some x → At xs i x) → kx p h) (kf : ¬ OkP xs → kr false h) :
    ∀ m i : Nat, i + m = n → (∀ k x, k < i → xs[k]? = some x → At xs k x) → impl_ProcsOk_M_l0 kx kr (m + 1) p (lastOf xs i) a n n i h := by
  have hl := hs.le
  intro m
  induction m with
  | zero =>
    intro i e hi
    rw [impl_ProcsOk_M_l0]
    exact ifD_f (by omega) (kx' fun k x hx => hi k x (by have := get_lt hx; omega) hx)
  | succ m ih =>
    intro i e hi
    obtain ⟨x, hx⟩ : ∃ x, xs[i]? = some x := ⟨_, List.getElem?_eq_getElem (by omega)⟩
    have no (f : ¬ At xs i x) : kr false h := kf fun ok => f (ok.one i x hx)
    rw [impl_ProcsOk_M_l0]
    refine ifD_t (by omega) (SlP.gRow hs hx ?_)
    refine ifB_dec (fun f => no fun t => by have := t.id; omega) fun f0 => ?_
    refine ifB_dec (fun f => no fun t => by have := t.id32; omega) fun f1 => ?_
    refine ifB_dec (fun f => no fun t => by have := t.g1; omega) fun f2 => ?_
    refine ifB_dec (fun f => no fun t => by have := t.g32; omega) fun f3 => ?_
    refine ifB_dec (fun f => no fun t => by have := t.u0; omega) fun f4 => ?_
    refine ifB_dec (fun f => no fun t => by have := t.u255; omega) fun f5 => ?_
    refine ifB_dec (fun f => no fun t => by have := t.s1; omega) fun f6 => ?_
    refine ifB_dec (fun f => no fun t => by have := t.s3; omega) fun f7 => ?_
    refine ifB_dec (fun f => no fun t => by have := t.t0; omega) fun f8 => ?_
    refine ifB_dec (fun f => no fun t => by have := t.t255; omega) fun f9 => ?_
    have j1 (ft : x.state ≠ 3 → x.status = 0) : impl_ProcsOk_M_j1 (fun b n1 a l n2 n3 h => impl_ProcsOk_M_l0 kx kr (m + 1) b n1 a l n2 (IntKind.i64.wrap (n3 + 1)) h)
        (fun b n1 a l n2 n3 h => impl_ProcsOk_M_l0 kx kr (m + 1) b n1 a l n2 (IntKind.i64.wrap (n3 + 1)) h) kr p i a n n i x.id x.parent x.state x.pending x.mask x.ignored x.caught h := by
      rw [impl_ProcsOk_M_j1]
      refine ifB_neI (fun f => no fun t => f t.pend) fun g0 => ?_
      refine ifB_neI (fun f => no fun t => f t.soft) fun g1 => ?_
      refine ifB_neI (fun f => no fun t => f t.dis) fun g2 => ?_
      have j2 (fz : x.state = 3 → bOr .i64 (bOr .i64 (bOr .i64 x.pending x.mask) x.ignored) x.caught = 0) : impl_ProcsOk_M_j2 (fun b n1 a l n2 n3 h => impl_ProcsOk_M_l0 kx kr (m + 1) b n1 a l n2 (IntKind.i64.wrap (n3 + 1)) h)
          (fun b n1 a l n2 n3 h => impl_ProcsOk_M_l0 kx kr (m + 1) b n1 a l n2 (IntKind.i64.wrap (n3 + 1)) h) kr p x.id i a n n i x.id x.parent x.state h := by
        have on : One (lastOf xs i) x := ⟨by omega, by omega, by omega, by omega, by omega, by omega, by omega, by omega, by omega, by omega, ft, g0, g1, g2, fz⟩
        have more (t : At xs i x) : impl_ProcsOk_M_l0 kx kr (m + 1) p x.id a n n (IntKind.i64.wrap (i + 1)) h := by
          have := ih (i + 1) (by omega) (fun k y hk hy => by
            by_cases g : k = i
            · subst g; rw [hx] at hy; injection hy with hy; subst hy; exact t
            · exact hi k y (by omega) hy)
          rw [wrap_suc (by omega)]
          simpa only [lastOf, hx] using this
        rw [impl_ProcsOk_M_j2]
        refine ifB_eqI (fun z => ?_) fun z => ?_
        · refine ifB_neI (fun f => no fun t => f (t.root (by omega)).1) fun z0 => ?_
          refine ifB_eqI (fun f => no fun t => (t.root (by omega)).2.1 f) fun z1 => ?_
          refine ifB_neI (fun f => no fun t => f (t.root (by omega)).2.2) fun z2 => ?_
          exact more ⟨on, fun _ => ⟨z0, z1, z2⟩, fun g => absurd (by omega) g⟩
        · refine at_spec hp hs (fun f => ?_) fun i' b' o' y ty ea' => ?_
          · refine asP_of (no fun t => ?_)
            obtain ⟨y, hy, _⟩ := t.par (by omega)
            rw [getP_none.mpr f] at hy; cases hy
          · have gy := ty.get
            subst ea'
            refine asP_of (ifP_some (nz_of (hs.rw.I0 ty.1 (ifB_eqI (fun f => no fun t => ?_) fun z0 => nz_of (hs.rw.I ty.1 (ifB_eqI (fun f => no fun t => ?_) fun z1 => ?_))))))
            · obtain ⟨y', hy', ne, _⟩ := t.par (by omega)
              exact ne (by rw [← f, ty.2.1])
            · obtain ⟨y', hy', ne, ns⟩ := t.par (by omega)
              rw [gy] at hy'; injection hy' with hy'; subst hy'; exact ns f
            · exact more ⟨on, fun g => absurd g (by omega), fun _ => ⟨y, gy, fun g => z0 (by rw [ty.2.1, g]), z1⟩⟩
      refine ifB_eqI (fun z => ?_) fun z => ?_
      · refine ifB_neI (fun f => no fun t => f (t.zz z)) fun g3 => j2 fun _ => g3
      · exact j2 fun g => absurd g z
    refine ifB_neI (fun z => ?_) fun z => ?_
    · refine ifB_neI (fun f => no fun t => f (t.tz z)) fun g => j1 fun _ => g
    · exact j1 fun g => absurd z g
theorem climb_loop {kx : Nat → Option Addr → Nat → Int → Int → H → Prop} {kr : Bool → H → Prop} {n1 n2 : Int} {a' : Option Addr} {l' : Nat}
    (hp : blk h p [.slice a n c]) (hs : SlP h a n c xs) :
    ∀ r t b o x, t + r = 33 → cell h b o = some (.int .i64 x.id) → cell h b (o + 1) = some (.int .i64 x.parent) →
    (climb xs r x → kx p a' l' n1 n2 h) → (¬ climb xs r x → kr false h) →
    impl_ProcsOk_M_l4 kx kr (r + 1) p (some ⟨b, o, none⟩) (t : Nat) a' l' n1 n2 h := by
  intro r
  induction r with
  | zero =>
    intro t b o x e c0 c1 k0 k1
    rw [impl_ProcsOk_M_l4, nz_some, ldI_eq c0]
    refine ifB_neI (fun f => ?_) k0
    rw [nz_some, ldI_eq c1]
    refine at_spec hp hs (fun g => asP_of (k1 f)) fun i' b' o' y ty ea' => ?_
    exact asP_of (ifD_t (by omega) (k1 f))
  | succ r ih =>
    intro t b o x e c0 c1 k0 k1
    rw [impl_ProcsOk_M_l4, nz_some, ldI_eq c0]
    refine ifB_neI (fun f => ?_) fun f => k0 (.inl f)
    rw [nz_some, ldI_eq c1]
    refine at_spec hp hs (fun g => asP_of (k1 fun t => ?_)) fun i' b' o' y ty ea' => asP_of ?_
    · rcases t with t | ⟨y, hy, _⟩
      · exact f t
      · rw [getP_none.mpr g] at hy; cases hy
    · have gy := ty.get
      have ry := hs.2; rw [ea'] at ry
      refine ifD_f (by omega) ?_
      rw [wrap_suc (by omega)]
      refine ih (t + 1) b' (o' + i' * 10) y (by omega) (Rw.cell (j := 0) ry ty.1 rfl) (Rw.cell ry ty.1 rfl) (fun u => k0 (.inr ⟨y, gy, u⟩)) fun u => k1 fun w => ?_
      rcases w with w | ⟨z, hz, w⟩
      · exact f w
      · rw [gy] at hz; injection hz with hz; subst hz; exact u w
theorem top_loop {kx : H → Prop} {kr : Bool → H → Prop} {h0 : H} (ha : SlP h0 a n c xs)
    (kx' : ∀ h, (∀ (i : Nat) (x : P), xs[i]? = some x → climb xs 33 x) → Keep [] h0 h → kx h)
    (kf : ∀ h, ¬ OkP xs → Keep [] h0 h → kr false h) :
    ∀ (m i : Nat) h, i + m = n → Keep [] h0 h → blk h p [.slice a n c] → (∀ (k : Nat) x, k < i → xs[k]? = some x → climb xs 33 x) →
    impl_ProcsOk_M_l3 kx kr (m + 1) p a n n i h := by
  have hl := ha.le
  intro m
  induction m with
  | zero =>
    intro i h e kp hp hi
    rw [impl_ProcsOk_M_l3]
    exact ifD_f (by omega) (kx' h (fun k x hx => hi k x (by have := get_lt hx; omega) hx) kp)
  | succ m ih =>
    intro i h e kp hp hi
    have hs := ha.keep0 kp
    obtain ⟨x, hx⟩ : ∃ x, xs[i]? = some x := ⟨_, List.getElem?_eq_getElem (by omega)⟩
    rw [impl_ProcsOk_M_l3]
    refine ifD_t (by omega) (SlP.gRow hs hx (newD_of fun q h1 _ hq k1 => stRow_of (encP x) _ h1 0 hq (encP_one x) (by simp [encP]) fun h2 cs' e2 hq2 l2 i2 _ k2 => ?_))
    have hq2 : blk h2 q (encP x) := by
      have : cs' = encP x := List.ext_getElem? fun d => by
        by_cases hd : d < (encP x).length
        · have := i2 d hd; simpa using this
        · rw [List.getElem?_eq_none (by simp [encP] at hd l2 ⊢; omega), List.getElem?_eq_none (by omega)]
      rw [← this]; exact hq2
    have k12 : Keep [] h h2 := k1.trans k2 (by intro d dl t; simp at t; omega)
    have kp1 : Keep [] h0 h2 := kp.trans k12 (by simp)
    have hp1 := k12.blk hp (by simp)
    refine ⟨34, climb_loop hp1 (ha.keep0 kp1) 33 0 q 0 x rfl (hq2.cell 0) (hq2.cell 1) (fun u => ?_) fun u => kf h2 (fun ok => u (ok.top i x hx)) kp1⟩
    rw [wrap_suc (by omega)]
    refine ih (i + 1) h2 (by omega) kp1 hp1 (fun k y hk hy => ?_)
    by_cases g : k = i
    · subst g; rw [hx] at hy; injection hy with hy; subst hy; exact u
    · exact hi k y (by omega) hy
theorem ok_spec {K : Value → H → Prop} (ha : SlP h a n c xs) (k : ∀ r h', (r = true ↔ OkP xs) → Keep [] h h' → K (.bool r) h') :
    callD Try.prog 6 ⟨[.agg ⟨[.slice a n c]⟩]⟩ h K := by
  have hl := ha.le
  have kf (h') (f : ¬ OkP xs) (kp : Keep [] h h') : K (.bool false) h' := k false h' (by simp [f]) kp
  refine impl_ProcsOk_M_call ?_
  rw [impl_ProcsOk_M]
  refine newD_of fun p h1 ep hp k1 => ?_
  rw [ldL_eq (hp.cell 0)]
  refine ifB_dec (fun f => kf h1 (fun ok => by have := ok.l1; omega) k1) fun f0 => ?_
  rw [ldL_eq (hp.cell 0)]
  refine ifB_dec (fun f => kf h1 (fun ok => by have := ok.l32; omega) k1) fun f1 => ?_
  rw [ldL_eq (hp.cell 0)]
  refine ⟨n + 1, ok_loop (ha.keep0 k1) hp (fun one => ?_) (fun f => kf h1 f k1) n 0 (by omega) (by intros; omega)⟩
  rw [ldL_eq (hp.cell 0)]
  refine ⟨n + 1, top_loop ha (fun h3 top kp3 => ?_) kf n 0 h1 (by omega) k1 hp (by intros; omega)⟩
  exact k true h3 (by simp; exact ⟨by omega, by omega, one, top⟩) kp3
end Go.Proofs.Ytgcjjapmdbgofaa
