import Derived.Test.YteeinamngmmlbaaSe
set_option linter.unusedVariables false
namespace Go.Proofs.Yteeinamngmmlbaa
open Go.Eng
variable {h h0 h' : H} {now seq now' seq' : Int} {a b a' b' : Option Addr} {n c m d n' c' m' d' p : Nat} {s s' s'' : S} {K : Value → H → Prop} {id k on since : Int} {i j : Nat} {t x : T} {l : L} {xs : List T} {zs : List L}
/-! tick -/
def wake1 (i : Nat) (s : S) : S := match s.ths[i]? with
  | none => s
  | some x => if x.state = 3 ∧ x.till ≤ s.now then standF s i x s.now else s
def wakeL : Nat → Nat → S → S
  | 0, _, s => s
  | m + 1, i, s => wakeL m (i + 1) (wake1 i s)
theorem wake1_len : (wake1 i s).ths.length = s.ths.length := by
  unfold wake1; split
  · rfl
  · split
    · simp [standF]
    · rfl
theorem wake1_now : (wake1 i s).now = s.now := by
  unfold wake1; split
  · rfl
  · split <;> rfl
theorem Wf.wake1 (v : Wf s) : Wf (Go.Proofs.Yteeinamngmmlbaa.wake1 i s) := by
  unfold Go.Proofs.Yteeinamngmmlbaa.wake1; split
  · exact v
  · rename_i x hx
    split
    · exact v.stand hx v.now.1 (Int.le_refl _)
    · exact v
theorem wakeL_wf : ∀ (q i : Nat) (s : S), Wf s → Wf (wakeL q i s) := by
  intro q
  induction q with
  | zero => intro i s v; exact v
  | succ q ih => intro i s v; exact ih _ _ v.wake1
theorem wakeL_now : ∀ (q i : Nat) (s : S), (wakeL q i s).now = s.now := by
  intro q
  induction q with
  | zero => intro i s; rfl
  | succ q ih => intro i s; rw [wakeL, ih, wake1_now]
theorem tick_loop {kx : Int → Int → Option Addr → Nat → Nat → Option Addr → Nat → Nat → H → Prop} {w : S} (kx' : ∀ h' now seq a' n c b' m d, OutS h0 a b w h' now seq a' n c b' m d → kx now seq a' n c b' m d h') :
    ∀ (q i : Nat) h s now seq a' n c b' m d, i + q = n → Wf s → OutS h0 a b s h now seq a' n c b' m d → wakeL q i s = w → spec_l11Tick_M_l0 kx (q + 1) i now seq a' n c b' m d h := by
  intro q
  induction q with
  | zero =>
    intro i h s now seq a' n c b' m d e v o ew
    rw [spec_l11Tick_M_l0]
    rw [wakeL] at ew; subst ew
    exact ifD_f (by omega) (kx' _ _ _ _ _ _ _ _ _ o)
  | succ q ih =>
    intro i h s now seq a' n c b' m d e v o ew
    have hl := o.r.t.le
    have l32 := v.t.len
    obtain ⟨x, hx⟩ : ∃ x, s.ths[i]? = some x := ⟨_, List.getElem?_eq_getElem (by omega)⟩
    have e1 : wake1 i s = if x.state = 3 ∧ x.till ≤ s.now then standF s i x s.now else s := by unfold wake1; rw [hx]
    rw [wakeL, e1] at ew
    have en := o.r.en
    subst en
    rw [spec_l11Tick_M_l0, wrap_suc (by omega)]
    have no (f : ¬ (x.state = 3 ∧ x.till ≤ s.now)) : spec_l11Tick_M_l0 kx (q + 1) ((i + 1 : Nat) : Int) s.now seq a' n c b' m d h := by
      rw [if_neg f] at ew
      exact ih (i + 1) h s _ _ _ _ _ _ _ _ (by omega) v o ew
    refine ifD_t (by omega) (o.r.t.gI hx (ifB_eqI (fun f => ?_) fun f => no fun t => f t.1))
    refine o.r.t.gI hx (ifB_dec (fun g => ?_) fun g => no fun t => g t.2)
    rw [if_pos ⟨f, g⟩] at ew
    refine stand_spec o.r hx rfl fun h1 o1 => o_el_AI2L2E ?_
    exact ih (i + 1) h1 _ _ _ _ _ _ _ _ _ (by omega) (v.stand hx v.now.1 (Int.le_refl _)) (o.trans o1) ew
def tick2 (s : S) : S × Int × Int := match firstS s (fun t => t.state == 1) with
  | none => ({ s with now := IntKind.i64.wrap (s.now + 1) }, 0, -1)
  | some (t, i, _) =>
    let s2 : S := { s with ths := s.ths.set i { t with left := IntKind.i64.wrap (t.left - 1), since := IntKind.i64.wrap (s.now + 1) } }
    let s3 := if IntKind.i64.wrap (t.left - 1) = 0 then standF s2 i { t with left := IntKind.i64.wrap (t.left - 1), since := IntKind.i64.wrap (s.now + 1) } (IntKind.i64.wrap (s.now + 1)) else s2
    ({ s3 with now := IntKind.i64.wrap (s.now + 1) }, 0, t.id)
def tickF (s : S) : S × Int × Int := tick2 (wakeL s.ths.length 0 s)
theorem OutS.atN (q : Int) (o : OutS h a b s h' now' seq' a' n' c' b' m' d') : OutS h a b { s with now := q } h' q seq' a' n' c' b' m' d' :=
  ⟨o.kp, o.wa, o.wb, rfl, o.r.es, o.r.t, o.r.l, o.r.ap⟩
theorem tick_spec (r : Ss h now seq a n c b m d s) (v : Wf s)
    (z : ∀ h' now' seq' a' n' c' b' m' d', OutS h a b (tickF s).1 h' now' seq' a' n' c' b' m' d' → K (res now' seq' a' n' c' b' m' d' (tickF s).2.1 (tickF s).2.2) h') :
    callD Try.prog 33 ⟨[val now seq a n c b m d]⟩ h K := by
  have hl := r.t.le
  refine spec_l11Tick_M_call ?_
  rw [spec_l11Tick_M]
  refine ⟨n + 1, tick_loop (w := wakeL s.ths.length 0 s) (fun h1 now1 seq1 a1 n1 c1 b1 m1 d1 o1 => ?_) n 0 h s _ _ _ _ _ _ _ _ (by omega) v (.refl r) (by rw [← hl.1])⟩
  have v1 := wakeL_wf s.ths.length 0 s v
  have nw := wakeL_now s.ths.length 0 s
  rw [tickF] at z
  generalize wakeL s.ths.length 0 s = u at v1 o1 z nw
  have r1 := o1.r
  have en := r1.en
  subst en
  have fin (w : S × Int × Int) (e : tick2 u = w) (h' now' seq' a' n' c' b' m' d') (o : OutS h a b w.1 h' now' seq' a' n' c' b' m' d') : K (res now' seq' a' n' c' b' m' d' w.2.1 w.2.2) h' := by subst e; exact z _ _ _ _ _ _ _ _ _ o
  refine pick_spec r1 v1.nn (asI_of ?_)
  cases ef : firstS u (fun t => t.state == 1) with
  | none =>
    refine ifD_f (by dsimp only; omega) ?_
    rw [spec_l11Tick_M_j1]
    exact fin _ (by rw [tick2, ef]) _ _ _ _ _ _ _ _ _ (o1.atN _)
  | some w =>
    obtain ⟨t, i, q⟩ := w
    dsimp only
    obtain ⟨hx, _⟩ := firstS_some ef
    have t0 := v1.t.lo i t hx
    refine ifD_t (by omega) (thread_spec r1.t (asI_of ?_))
    rw [(v1.t.get hx).pos]
    refine r1.t.gI hx (r1.t.gSt hx { t with left := IntKind.i64.wrap (t.left - 1) } encT_len (fun h2 k2 _ s2 => ?_) rfl (by decide) rfl)
    refine s2.gSt (getSet hx) { t with left := IntKind.i64.wrap (t.left - 1), since := IntKind.i64.wrap (u.now + 1) } encT_len (fun h3 k3 _ s3 => ?_) rfl (by decide) rfl
    rw [List.set_set] at s3
    refine s3.gI (getSet hx) ?_
    have o2 := OutS.setT r1 (k2.tr k3) s3
    have e0 : tick2 u = ({ (if IntKind.i64.wrap (t.left - 1) = 0 then standF { u with ths := u.ths.set i { t with left := IntKind.i64.wrap (t.left - 1), since := IntKind.i64.wrap (u.now + 1) } } i { t with left := IntKind.i64.wrap (t.left - 1), since := IntKind.i64.wrap (u.now + 1) } (IntKind.i64.wrap (u.now + 1)) else { u with ths := u.ths.set i { t with left := IntKind.i64.wrap (t.left - 1), since := IntKind.i64.wrap (u.now + 1) } }) with now := IntKind.i64.wrap (u.now + 1) }, 0, t.id) := by
      rw [tick2, ef]
    refine ifB_eqI (fun g => ?_) fun g => ?_
    · rw [if_pos g] at e0
      refine stand_spec o2.r (getSet hx) rfl fun h4 o4 => o_el_AI2L2E ?_
      rw [spec_l11Tick_M_j1]
      exact fin _ e0 _ _ _ _ _ _ _ _ _ ((o1.trans (o2.trans o4)).atN _)
    · rw [if_neg g] at e0
      rw [spec_l11Tick_M_j1]
      exact fin _ e0 _ _ _ _ _ _ _ _ _ ((o1.trans o2).atN _)
/-! a lock is taken -/
def takeF (s : S) (i : Nat) (x : T) (n : Int) : S × Int × Int :=
  match getL s.lks n with
  | none => ({ s with lks := s.lks.filter (fun l => decide (l.id < n)) ++ [⟨n, x.id⟩] ++ s.lks.filter (fun l => decide (l.id > n)) }, 0, 0)
  | some l => if l.owner = x.id then (s, 4, 0) else if waits s (s.ths.length + 1) (nxt s l.owner) x.id then (s, 17, 0)
    else ({ s with ths := s.ths.set i { x with state := 2, wait := n } }, 0, 1)
theorem take_loop0 {kx : Int → Int → Option Addr → Nat → Nat → Int → Int → Option Addr → Nat → Nat → Option Addr → Nat → H → Prop} {q w : Int} (hs : SlL h0 b m d zs) (hm : m ≤ 1048576)
    (z : ∀ h' a' c', Keep [] h0 h' → (∀ x ∈ own a', h0.size ≤ x) → SlL h' a' (zs.filter (fun l => decide (l.id < q))).length c' (zs.filter (fun l => decide (l.id < q))) → kx q w a' (zs.filter (fun l => decide (l.id < q))).length c' now seq a n c b m h') :
    ∀ (t i : Nat) h a' l' c', i + t = m → Keep [] h0 h → (∀ x ∈ own a', h0.size ≤ x) → SlL h a' l' c' ((zs.take i).filter (fun l => decide (l.id < q))) → spec_l11TakeLock_M_l0 kx (t + 1) q w a' l' c' i now seq a n c b m h := by
  have hl := hs.le
  intro t
  induction t with
  | zero =>
    intro i h a' l' c' e kp f s'
    rw [spec_l11TakeLock_M_l0]
    rw [List.take_of_length_le (by omega)] at s'
    have e := s'.le.1; subst e
    exact ifD_f (by omega) (z h a' c' kp f s')
  | succ t ih =>
    intro i h a' l' c' e kp f s'
    obtain ⟨x, hx⟩ : ∃ x, zs[i]? = some x := ⟨_, List.getElem?_eq_getElem (by omega)⟩
    have h1 := hs.keep0 kp
    rw [spec_l11TakeLock_M_l0, wrap_suc (by omega)]
    have e1 : (zs.take (i + 1)).filter (fun l => decide (l.id < q)) = (zs.take i).filter (fun l => decide (l.id < q)) ++ if x.id < q then [x] else [] := by
      rw [List.take_add_one, hx, Option.toList_some, List.filter_append]; simp only [List.filter_cons, List.filter_nil, decide_eq_true_eq]
    have ll : ((zs.take i).filter (fun l => decide (l.id < q))).length ≤ m := by
      have := List.length_filter_le (fun l : L => decide (l.id < q)) (zs.take i); simp at this; omega
    have := s'.le
    refine ifD_t (by omega) (h1.gI0 hx (ifB_dec (fun g => ?_) fun g => ih (i + 1) h a' l' c' (by omega) kp f (by rw [e1, if_neg g, List.append_nil]; exact s')))
    refine SlL.gRow h1 hx (newL_of [x] encL_len fun q2 h2 hq2 k2 s2 => append_inf inf57 (by decide) encL_len encL_one (s'.keep0 k2) s2 (by omega) (by omega) fun a3 c3 h3 k3 w3 s3 => ?_)
    have z0 := kp.le
    have z2 := k2.le
    refine ih (i + 1) h3 a3 _ c3 (by omega) ((kp.tr k2).trans k3 ?_) (fun x hx => ?_) (by rw [e1, if_pos g]; exact s3)
    · intro x l t; simp only [List.not_mem_nil, false_or] at t; have := f x t; omega
    · rcases w3 x hx with t | t
      · exact f x t
      · omega
theorem take_loop1 {kx : Option Addr → Nat → Nat → Int → Int → Option Addr → Nat → Nat → H → Prop} {q : Int} {pre : List L} (hs : SlL h0 b m d zs) (hm : m ≤ 1048576) (hp : pre.length ≤ 2097152)
    (z : ∀ h' a' c', Keep [] h0 h' → (∀ x ∈ own a', h0.size ≤ x) → SlL h' a' (pre ++ zs.filter (fun l => decide (l.id > q))).length c' (pre ++ zs.filter (fun l => decide (l.id > q))) → kx a' (pre ++ zs.filter (fun l => decide (l.id > q))).length c' now seq a n c h') :
    ∀ (t i : Nat) h a' l' c', i + t = m → Keep [] h0 h → (∀ x ∈ own a', h0.size ≤ x) → SlL h a' l' c' (pre ++ (zs.take i).filter (fun l => decide (l.id > q))) → spec_l11TakeLock_M_l1 kx (t + 1) q a' l' c' i now seq a n c b m h := by
  have hl := hs.le
  intro t
  induction t with
  | zero =>
    intro i h a' l' c' e kp f s'
    rw [spec_l11TakeLock_M_l1]
    rw [List.take_of_length_le (by omega)] at s'
    have e := s'.le.1; subst e
    exact ifD_f (by omega) (z h a' c' kp f s')
  | succ t ih =>
    intro i h a' l' c' e kp f s'
    obtain ⟨x, hx⟩ : ∃ x, zs[i]? = some x := ⟨_, List.getElem?_eq_getElem (by omega)⟩
    have h1 := hs.keep0 kp
    rw [spec_l11TakeLock_M_l1, wrap_suc (by omega)]
    have e1 : pre ++ (zs.take (i + 1)).filter (fun l => decide (l.id > q)) = (pre ++ (zs.take i).filter (fun l => decide (l.id > q))) ++ if x.id > q then [x] else [] := by
      rw [List.take_add_one, hx, Option.toList_some, List.filter_append, ← List.append_assoc]; simp only [List.filter_cons, List.filter_nil, decide_eq_true_eq]
    have ll : (pre ++ (zs.take i).filter (fun l => decide (l.id > q))).length ≤ 2097152 + m := by
      have := List.length_filter_le (fun l : L => decide (l.id > q)) (zs.take i); simp at this ⊢; omega
    have := s'.le
    refine ifD_t (by omega) (h1.gI0 hx (ifB_dec (fun g => ?_) fun g => ih (i + 1) h a' l' c' (by omega) kp f (by rw [e1, if_neg g, List.append_nil]; exact s')))
    refine SlL.gRow h1 hx (newL_of [x] encL_len fun q2 h2 hq2 k2 s2 => append_inf inf57 (by decide) encL_len encL_one (s'.keep0 k2) s2 (by omega) (by omega) fun a3 c3 h3 k3 w3 s3 => ?_)
    have z0 := kp.le
    have z2 := k2.le
    refine ih (i + 1) h3 a3 _ c3 (by omega) ((kp.tr k2).trans k3 ?_) (fun x hx => ?_) (by rw [e1, if_pos g]; exact s3)
    · intro x l t; simp only [List.not_mem_nil, false_or] at t; have := f x t; omega
    · rcases w3 x hx with t | t
      · exact f x t
      · omega
theorem take_spec {q : Int} (r : Ss h now seq a n c b m d s) (v : Wf s) (hx : s.ths[i]? = some x) (hk : k = (i : Int))
    (z : ∀ h' now' seq' a' n' c' b' m' d', OutS h a b (takeF s i x q).1 h' now' seq' a' n' c' b' m' d' → K (res now' seq' a' n' c' b' m' d' (takeF s i x q).2.1 (takeF s i x q).2.2) h') :
    callD Try.prog 52 ⟨[val now seq a n c b m d, .int .i64 k, .int .i64 q]⟩ h K := by
  have hl := r.l.le
  have l16 := v.l.len
  have fin (w : S × Int × Int) (e : takeF s i x q = w) (h' now' seq' a' n' c' b' m' d') (o : OutS h a b w.1 h' now' seq' a' n' c' b' m' d') : K (res now' seq' a' n' c' b' m' d' w.2.1 w.2.2) h' := by subst e; exact z _ _ _ _ _ _ _ _ _ o
  refine spec_l11TakeLock_M_call ?_
  subst hk
  rw [spec_l11TakeLock_M]
  refine lock_spec r.l (asI_of (r.t.gI0 hx ?_))
  rcases atL_cases s.lks q with f | ⟨j, l, u⟩
  · rw [posL_none f]
    have e0 : takeF s i x q = ({ s with lks := s.lks.filter (fun l => decide (l.id < q)) ++ [⟨q, x.id⟩] ++ s.lks.filter (fun l => decide (l.id > q)) }, 0, 0) := by rw [takeF, getL_none.mpr f]
    refine ifD_t (by omega) (newE_of (enc := encL) (s := 2) fun q1 h1 hq1 k1 s1 => ⟨m + 1, ?_⟩)
    refine take_loop0 r.l (by omega) (fun h2 a2 c2 k2 f2 s2 => ?_) m 0 h1 _ 0 0 (by omega) k1 (by simp [own]; omega) s1
    have lf := List.length_filter_le (fun l : L => decide (l.id < q)) s.lks
    refine newL_of [(⟨q, x.id⟩ : L)] encL_len fun q3 h3 hq3 k3 s3 => append_inf inf57 (by decide) encL_len encL_one (s2.keep0 k3) s3 (by omega) (by omega) fun a4 c4 h4 k4 w4 s4 => ⟨m + 1, ?_⟩
    have z2 := k2.le
    have z3 := k3.le
    refine take_loop1 (pre := s.lks.filter (fun l => decide (l.id < q)) ++ [⟨q, x.id⟩]) r.l (by omega) (by simp; omega) (fun h5 a5 c5 k5 f5 s5 => ?_) m 0 h4 a4 _ c4 (by omega) ((k2.tr k3).trans k4 ?_) (fun y hy => ?_) (by simpa using s4)
    · exact fin _ e0 _ _ _ _ _ _ _ _ _ (OutS.newL r k5 f5 s5)
    · intro y l t; simp only [List.not_mem_nil, false_or] at t; have := f2 y t; omega
    · rcases w4 y hy with t | t
      · exact f2 y t
      · omega
  · rw [u.pos]
    have e0 : takeF s i x q = if l.owner = x.id then (s, 4, 0) else if waits s (s.ths.length + 1) (nxt s l.owner) x.id then (s, 17, 0)
      else ({ s with ths := s.ths.set i { x with state := 2, wait := q } }, 0, 1) := by rw [takeF, u.get]
    refine ifD_f (by omega) (r.l.gI u.1 (ifB_eqI (fun g => fin _ (by rw [e0, if_pos g]) _ _ _ _ _ _ _ _ _ (.refl r)) fun g => ?_))
    rw [if_neg g] at e0
    refine r.l.gI u.1 (waits_spec r (asB_of (ifB_b (fun w => fin _ (by rw [e0, if_pos w]) _ _ _ _ _ _ _ _ _ (.refl r)) fun w => ?_)))
    rw [if_neg (by simp [w])] at e0
    refine r.t.gSt hx { x with state := 2 } encT_len (fun h1 k1 _ s1 => ?_) rfl (by decide) rfl
    refine s1.gSt (getSet hx) { x with state := 2, wait := q } encT_len (fun h2 k2 _ s2 => ?_) rfl (by decide) rfl
    rw [List.set_set] at s2
    exact fin _ e0 _ _ _ _ _ _ _ _ _ (OutS.setT r (k1.tr k2) s2)
end Go.Proofs.Yteeinamngmmlbaa
