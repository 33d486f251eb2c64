import Derived.Test.YteeinamngmmlbaaSn
set_option linter.unusedVariables false
namespace Go.Proofs.Yteeinamngmmlbaa
open Go.Eng
variable {h h0 h1 h2 h' : H} {a b a' b' : Option Addr} {n c m d n' c' m' d' p o : Nat} {s s0 s' : S} {K : Value → H → Prop} {id k on q lock kind : Int} {i j : Nat} {t x w : T} {l : L} {xs : List T} {zs ys : List L}
theorem setAt_rw {b0 o0 : Nat} {y : T} (r : Mp h p (some ⟨b0, o0, none⟩) n c b m d s) (rw' : Rw h' b0 o0 c 8 encT (s.ths.set i y)) (k : Keep [b0] h h') : MO h p (some ⟨b0, o0, none⟩) b { s with ths := s.ths.set i y } h' (some ⟨b0, o0, none⟩) n c b m d :=
  MO.setT r k ⟨by simpa using r.t.1, rw'⟩
theorem full_free (v : SrtT xs) (e : freeT xs 33 0 = 32) : xs.length = 32 := by
  obtain ⟨fr, fl, ef, _, _⟩ := free_at v
  have := v.len; omega
theorem free_full (v : SrtT xs) (e : xs.length = 32) : freeT xs 33 0 = 32 := by
  obtain ⟨fr, fl, ef, eq, st⟩ := free_at v
  rw [ef]
  by_cases f : fr < 32
  · have hy : xs[fr]? = some (xs[fr]'(by omega)) := List.getElem?_eq_getElem _
    have hz : xs[31]? = some (xs[31]'(by omega)) := List.getElem?_eq_getElem _
    have h0 : xs[0]? = some (xs[0]'(by omega)) := List.getElem?_eq_getElem _
    have g1 := v.gap (31 - fr) fr _ _ hy (by rw [show fr + (31 - fr) = 31 by omega]; exact hz)
    have g0 := v.gap fr 0 _ _ h0 (by rw [Nat.zero_add]; exact hy)
    have := v.lo 0 _ h0
    have := v.hi 31 _ hz
    have := st _ hy
    omega
  · omega
theorem stepI (v : Wf s) (r : Mp h p a n c b m d s)
    (z : ∀ h' a' n' c' b' m' d' s1, MO h p a b s1 h' a' n' c' b' m' d' → ((stepS s kind id q).2.1 = 0 → s1 = (stepS s kind id q).1) → K (.agg ⟨[.int .i64 (stepS s kind id q).2.1, .int .i64 (stepS s kind id q).2.2]⟩) h') :
    callD Try.prog 21 ⟨[ptr p, .agg ⟨[.int .i64 kind, .int .i64 id, .int .i64 q]⟩]⟩ h K := by
  have hs := r.t
  have hl := hs.le
  have hl2 := r.l.le
  have l32 := v.t.len
  have l16 := v.l.len
  refine impl_Sched_step_M_call ?_
  generalize eK : (fun n1 n2 h => K (.agg ⟨[.int .i64 n1, .int .i64 n2]⟩) h) = kr
  have z : ∀ h' a' n' c' b' m' d' s1, MO h p a b s1 h' a' n' c' b' m' d' → ((stepS s kind id q).2.1 = 0 → s1 = (stepS s kind id q).1) → kr (stepS s kind id q).2.1 (stepS s kind id q).2.2 h' := fun h' a' n' c' b' m' d' s1 o e => by rw [← eK]; exact z _ _ _ _ _ _ _ s1 o e
  have err (e0 : Int) (ne : e0 ≠ 0) (e : stepS s kind id q = (s, e0, 0)) : kr e0 0 h := by
    have := z h a n c b m d s (.refl r) (by rw [e]; intro _; rfl)
    rw [e] at this; exact this
  have errC (e0 : Int) (ne : e0 ≠ 0) (e : stepS s kind id q = (s, e0, 0)) : callD Try.prog 42 ⟨[.int .i64 e0]⟩ h fun v h => elF False (.agg [.int .i64, .int .i64]) v fun x y => kr x y h := code_ret (err e0 ne e)
  have fin (w : S × Int × Int) (e : stepS s kind id q = w) (h' a' n' c' b' m' d') (o : MO h p a b w.1 h' a' n' c' b' m' d') : kr w.2.1 w.2.2 h' := by
    subst e; exact z _ _ _ _ _ _ _ _ o fun _ => rfl
  rw [impl_Sched_step_M]
  refine ifB_dec (fun f => errC 1 (by omega) (by rw [stepS, if_neg (by omega), if_neg (by omega), if_pos (.inl f)])) fun f0 => ?_
  refine ifB_dec (fun f => errC 1 (by omega) (by rw [stepS, if_neg (by omega), if_neg (by omega), if_pos (.inr f)])) fun f1 => ?_
  refine ifB_eqI (fun g1 => ?_) fun g1 => ?_
  · have e0 : stepS s kind id q = spawnF s q := by rw [stepS, if_pos g1]
    refine ifB_dec (fun f => errC 1 (by omega) (by rw [e0, spawnF, if_pos (.inl f)])) fun q0 => ?_
    refine ifB_dec (fun f => errC 1 (by omega) (by rw [e0, spawnF, if_pos (.inr f)])) fun q1 => ?_
    rw [nz_some, ldL_eq (r.hp.cell (0 + 2))]
    refine ifB_eqI (fun f => errC 18 (by omega) (by rw [e0, spawnF, if_neg (by omega), if_pos (free_full v.t (by omega))])) fun f => ?_
    obtain ⟨fr, fl, ef, eq, st⟩ := free_at v.t
    have ne : freeT s.ths 33 0 ≠ 32 := fun e => by have := full_free v.t e; omega
    have e1 : spawnF s q = (standF { s with ths := insT s.ths fr (newT fr q) } fr (newT fr q) s.now, 0, (fr : Int)) := by
      rw [spawnF, if_neg (by omega), if_neg ne, ef, Int.toNat_natCast]
    refine ⟨fr + 1, place_loopI r (by omega) (by omega) eq st ?_ fr 0 (by omega)⟩
    rw [nz_some, ldL_eq (r.hp.cell (0 + 2)), req_eq (by omega), req_eq hs.plain]
    simp only [Int.toNat_natCast]
    refine append_inf inf60 (by decide) encT_len encT_one Sl.nil (hs.part (l := 0) (m := fr) (by omega) (by omega)) (by omega) (by omega) fun a2 c2 h2 k2 w2 s2 => ?_
    have z2 := k2.le
    have k2' : Keep [] h h2 := k2.mono (by simp [own])
    have f2 : ∀ x ∈ own a2, h.size ≤ x := fun x hx => by
      rcases w2 x hx with t | t
      · simp [own] at t
      · exact t
    have r2 := r.keep0 k2'
    rw [nz_some, ldL_eq (r2.hp.cell (0 + 2)), req_eq (by omega), req_eq hs.plain]
    refine newL_of [newT fr q] encT_len fun q3 h3 hq3 k3 s3 => ⟨(r2.keep0 k3).hp.cell (0 + 2), ?_⟩
    have z3 := k3.le
    refine append_inf inf60 (by decide) encT_len encT_one (s2.keep0 k3) s3 (by omega) (by omega) fun a4 c4 h4 k4 w4 s4 => ?_
    have z4 := k4.le
    have k04 : Keep [] h h4 := (k2'.tr k3).trans k4 (by intro x l t; simp only [List.not_mem_nil, false_or] at t; have := f2 x t; omega)
    have f4 : ∀ x ∈ own a4, h.size ≤ x := fun x hx => by
      rcases w4 x hx with t | t
      · exact f2 x t
      · omega
    have r4 := r.keep0 k04
    refine ⟨r4.hp.cell (0 + 2), ?_⟩
    refine append_inf inf60 (by decide) encT_len encT_one s4 (r4.t.part (l := fr) (m := n) (by omega) (by omega)) (by omega) (by omega) fun a5 c5 h5 k5 w5 s5 => ?_
    have k05 : Keep [] h h5 := k04.trans k5 (by intro x l t; simp only [List.not_mem_nil, false_or] at t; have := f4 x t; omega)
    have f5 : ∀ x ∈ own a5, h.size ≤ x := fun x hx => by
      rcases w5 x hx with t | t
      · exact f4 x t
      · omega
    have ex : [] ++ List.take (fr - 0) (List.drop 0 s.ths) ++ [newT fr q] ++ List.take (n - fr) (List.drop fr s.ths) = insT s.ths fr (newT fr q) := by
      rw [insT, List.nil_append, List.drop_zero, Nat.sub_zero, List.take_of_length_le (l := List.drop fr s.ths) (by simp; omega)]
    rw [ex] at s5
    refine nz_of (st_of (r.keep0 k05).hp (by simp) fun h6 e6 x6 k6 => ?_)
    have o6 := MO.newT r k05 f5 s5 k6 x6
    have hx : (insT s.ths fr (newT fr q))[fr]? = some (newT fr q) := by rw [insT_get (by omega), if_neg (by omega), if_pos rfl]
    rw [nz_some, ldL_eq (o6.r.hp.cell (0 + 2))]
    obtain ⟨b9, o9, ea, _⟩ := o6.r.t.ex (get_lt hx)
    subst ea
    refine o6.r.t.req hx rfl (nz_of ?_)
    refine standI o6.r hx fun h7 o7 => o_el_TE ?_
    exact fin _ (e0.trans e1) _ _ _ _ _ _ _ (o6.trans o7)
  refine ifB_eqI (fun g3 => ?_) fun g3 => ?_
  · have e0 : stepS s kind id q = tick2 (wakeL s.ths.length 0 s) := by rw [stepS, if_neg g1, if_pos g3, tickF]
    rw [nz_some, ldL_eq (r.hp.cell (0 + 2))]
    refine ⟨n + 1, wake_loopI (w := wakeL s.ths.length 0 s) (fun h1 o1 => ?_) n 0 h s (by omega) v (.refl r) (by rw [← hl.1])⟩
    have v1 := wakeL_wf s.ths.length 0 s v
    generalize wakeL s.ths.length 0 s = u at v1 o1 e0
    have r1 := o1.r
    have j2 (pn : Int) (st2 : S) (h2 : H) (a2 n2 c2 b2 m2 d2) (o2 : MO h p a b st2 h2 a2 n2 c2 b2 m2 d2) (e : stepS s kind id q = ({ st2 with now := IntKind.i64.wrap (st2.now + 1) }, 0, pn)) : impl_Sched_step_M_j2 kr (some ⟨p, 0, none⟩) pn h2 := by
      rw [impl_Sched_step_M_j2, nz_some, ldI_eq (o2.r.hp.cell 0)]
      refine nz_of (st_of o2.r.hp (by simp) fun h3 e3 x3 k3 => ?_)
      exact fin _ e _ _ _ _ _ _ _ (o2.trans (MO.hd (now := IntKind.i64.wrap (st2.now + 1)) (seq := st2.seq) o2.r k3 x3))
    refine pickI v1 r1 (fun ef => asP_of ?_) fun t i pr b0 o0 ef hx ea => asP_of ?_
    · exact j2 (-1) u h1 _ _ _ _ _ _ o1 (by rw [e0, tick2, ef])
    · subst ea
      have e1 : tick2 u = ({ (if IntKind.i64.wrap (t.left - 1) = 0 then standF { u with ths := u.ths.set i { t with left := IntKind.i64.wrap (t.left - 1), since := IntKind.i64.wrap (u.now + 1) } } i { t with left := IntKind.i64.wrap (t.left - 1), since := IntKind.i64.wrap (u.now + 1) } (IntKind.i64.wrap (u.now + 1)) else { u with ths := u.ths.set i { t with left := IntKind.i64.wrap (t.left - 1), since := IntKind.i64.wrap (u.now + 1) } }) with now := IntKind.i64.wrap (u.now + 1) }, 0, t.id) := by
        rw [tick2, ef]
      show ifB (!false) _ _
      rw [Bool.not_false, ifB_t]
      refine nz_of (r1.t.rw.I0 hx (nz_of (r1.t.rw.I hx (nz_of ?_))))
      refine st_rw r1.t.rw (y := t) (y' := { t with left := IntKind.i64.wrap (t.left - 1) }) encT_len hx (by decide) rfl fun h2 e2 r2 k2 => nz_of ?_
      have o2 := setAt_rw r1 r2 k2
      refine Rw.I r2 (getSet hx) (ifB_eqI (fun g => ?_) fun g => ?_)
      · rw [if_pos g] at e1
        refine standI o2.r (getSet hx) fun h3 o3 => o_el_TE ?_
        rw [nz_some, ldI_eq (o3.r.hp.cell 0)]
        have hx3 : (standF { u with ths := u.ths.set i { t with left := IntKind.i64.wrap (t.left - 1) } } i { t with left := IntKind.i64.wrap (t.left - 1) } u.now).ths[i]? = some (standT u { t with left := IntKind.i64.wrap (t.left - 1) } u.now) := getSet (getSet hx)
        refine nz_of (st_rw o3.r.t.rw (y := standT u { t with left := IntKind.i64.wrap (t.left - 1) } u.now) (y' := standT u { t with left := IntKind.i64.wrap (t.left - 1) } (IntKind.i64.wrap (u.now + 1))) encT_len hx3 (by decide) rfl fun h4 e4 r4 k4 => ?_)
        have o4 := setAt_rw o3.r r4 k4
        refine j2 t.id _ h4 _ _ _ _ _ _ (o1.trans (o2.trans (o3.trans o4))) ?_
        rw [e0, e1]
        simp only [standF, List.set_set]
        rfl
      · rw [if_neg g] at e1
        rw [nz_some, ldI_eq (o2.r.hp.cell 0)]
        refine nz_of (st_rw o2.r.t.rw (y := { t with left := IntKind.i64.wrap (t.left - 1) }) (y' := { t with left := IntKind.i64.wrap (t.left - 1), since := IntKind.i64.wrap (u.now + 1) }) encT_len (getSet hx) (by decide) rfl fun h4 e4 r4 k4 => ?_)
        have o4 := setAt_rw o2.r r4 k4
        refine j2 t.id _ h4 _ _ _ _ _ _ (o1.trans (o2.trans o4)) ?_
        rw [e0, e1]
        simp only [List.set_set]
  refine threadI r (fun f => asP_of ?_) fun i b0 o0 x u ea => asP_of ?_
  · exact errC 3 (by omega) (by rw [stepS, if_neg g1, if_neg g3, if_neg (by omega), getT_none.mpr f])
  subst ea
  have hx := u.1
  have e0 : stepS s kind id q = stepAt s i x kind id q := by rw [stepS, if_neg g1, if_neg g3, if_neg (by omega), u.get, u.pos]; rfl
  refine ifP_some (ifB_eqI (fun g2 => ?_) fun g2 => ?_)
  · have e1 : stepS s kind id q = (exitF s i x, 0, 0) := by rw [e0, stepAt, if_pos g2]
    rw [exitF_eq v hx] at e1
    rw [nz_some, ldL_eq (r.hp.cell (0 + 2))]
    refine ⟨n + 1, but_loopI (h0 := h) hs (by omega) (fun h1 a1 l1 c1 k1 f1 s1 => ?_) n 0 h none 0 0 (by omega) Keep.refl (by simp [own]) Sl.nil⟩
    have e2 : (s.ths.filter fun y => y.id != id) = s.ths.eraseIdx i := by
      rw [← u.2.1]
      exact filter_erase (key := T.id) s.ths i x hx fun k y hy e => v.t.uni k i y x hy hx e
    rw [e2] at s1
    refine nz_of (st_of (k1.blk r.hp (by simp)) (by simp) fun h2 e2 x2 k2 => ?_)
    have o2 := MO.newT r k1 f1 s1 k2 x2
    rw [nz_some, ldL_eq (o2.r.hp.cell (0 + 3))]
    refine copyL (h0 := h2) o2.r.l (by omega) Sl.nil (by simp [own]) Keep.refl fun h3 a3 c3 k3 f3 w3 u3 s3 => ?_
    have z2 := o2.kp.le
    have o3 : MO h p (some ⟨b0, o0, none⟩) b { s with ths := s.ths.eraseIdx i } h3 a1 l1 c1 b m d := by
      have r3 := o2.r.keep0 k3
      exact ⟨o2.kp.trans k3 (by intro y l t; simpa using t), o2.wa, o2.wb, r3⟩
    have q1 := u.2.1
    subst q1
    have hc := s3.le
    generalize es9 : exitI x.id s.lks { s with ths := s.ths.eraseIdx i } = s9 at e1
    refine ⟨m + 1, exit_loopI (h0 := h) (p := p) (b := b) (s9 := s9) (all := s.lks) (srtL_pw v.l) hl2.1 (fun h' a' n' c' b' m' d' o9 => code_ret ?_) (fun y hy => by have := f3 y hy; omega) m 0 h3 a1 _ c1 b m d { s with ths := s.ths.eraseIdx i } (by omega) (v.erase hx) o3 s3 (fun y hy => ⟨fun t => ?_, fun t => ?_, fun t => ?_⟩) (fun y my => ?_) ?_⟩
    · exact fin _ e1 _ _ _ _ _ _ _ o9
    · have := f3 y hy; have := o2.r.t.lt t; omega
    · have := f3 y hy; have := o2.r.l.lt t; omega
    · have := f3 y hy; have := o2.r.hp.lt; omega
    · exact v.l.mem (by simpa using my)
    · simpa using es9
  have iq := u.2.1
  refine ifB_eqI (fun g4 => ?_) fun g4 => ?_
  · have e1 : stepS s kind id q = lockF s i x kind id q := by rw [e0, stepAt, if_neg g2, if_pos (.inl g4)]
    refine ifB_dec (fun f => errC 1 (by omega) (by rw [e1, lockF, if_pos (.inl f)])) fun q0 => ?_
    refine ifB_dec (fun f => errC 1 (by omega) (by rw [e1, lockF, if_pos (.inr f)])) fun q1 => ?_
    refine nz_of (hs.rw.I hx (ifB_neI (fun f => errC 21 (by omega) (by rw [e1, lockF, if_neg (by omega), if_pos f])) fun st => ?_))
    have e2 : stepS s kind id q = takeF s i x q := by rw [e1, lockF, if_neg (by omega), if_neg (by omega), if_pos g4]
    refine lockI r (fun f => asP_of ?_) fun j b2 o2 l g eb => asP_of ?_
    · have e3 : takeF s i x q = ({ s with lks := s.lks.filter (fun l => decide (l.id < q)) ++ [⟨q, x.id⟩] ++ s.lks.filter (fun l => decide (l.id > q)) }, 0, 0) := by rw [takeF, getL_none.mpr f]
      obtain ⟨fr, fl, eq, st2, ex⟩ := ins_filter (q := q) (y := ⟨q, x.id⟩) s.lks (srtL_pw v.l) f
      rw [← ex] at e3
      show ifB true _ _
      rw [ifB_t]
      refine ⟨fr + 1, pos_loopI r (by omega) (by omega) eq st2 ?_ fr 0 (by omega)⟩
      rw [nz_some, ldL_eq (r.hp.cell (0 + 3)), req_eq (by omega), req_eq r.l.plain]
      simp only [Int.toNat_natCast]
      refine append_inf inf57 (by decide) encL_len encL_one Sl.nil (r.l.part (l := 0) (m := fr) (by omega) (by omega)) (by omega) (by omega) fun a2 c2 h2 k2 w2 s2 => ?_
      have z2 := k2.le
      have k2' : Keep [] h h2 := k2.mono (by simp [own])
      have f2 : ∀ x ∈ own a2, h.size ≤ x := fun x hx => by
        rcases w2 x hx with t | t
        · simp [own] at t
        · exact t
      have r2 := r.keep0 k2'
      rw [nz_some, ldL_eq (r2.hp.cell (0 + 3)), req_eq (by omega), req_eq r.l.plain]
      refine newL_of [(⟨q, id⟩ : L)] encL_len fun q3 h3 hq3 k3 s3 => ⟨(r2.keep0 k3).hp.cell (0 + 3), ?_⟩
      have z3 := k3.le
      refine append_inf inf57 (by decide) encL_len encL_one (s2.keep0 k3) s3 (by omega) (by omega) fun a4 c4 h4 k4 w4 s4 => ?_
      have z4 := k4.le
      have k04 : Keep [] h h4 := (k2'.tr k3).trans k4 (by intro x l t; simp only [List.not_mem_nil, false_or] at t; have := f2 x t; omega)
      have f4 : ∀ x ∈ own a4, h.size ≤ x := fun x hx => by
        rcases w4 x hx with t | t
        · exact f2 x t
        · omega
      have r4 := r.keep0 k04
      refine ⟨r4.hp.cell (0 + 3), ?_⟩
      refine append_inf inf57 (by decide) encL_len encL_one s4 (r4.l.part (l := fr) (m := m) (by omega) (by omega)) (by omega) (by omega) fun a5 c5 h5 k5 w5 s5 => ?_
      have k05 : Keep [] h h5 := k04.trans k5 (by intro x l t; simp only [List.not_mem_nil, false_or] at t; have := f4 x t; omega)
      have f5 : ∀ x ∈ own a5, h.size ≤ x := fun x hx => by
        rcases w5 x hx with t | t
        · exact f4 x t
        · omega
      have ex2 : [] ++ List.take (fr - 0) (List.drop 0 s.lks) ++ [(⟨q, id⟩ : L)] ++ List.take (m - fr) (List.drop fr s.lks) = s.lks.take fr ++ [⟨q, x.id⟩] ++ s.lks.drop fr := by
        rw [List.nil_append, List.drop_zero, Nat.sub_zero, List.take_of_length_le (l := List.drop fr s.lks) (by simp; omega), iq]
      rw [ex2] at s5
      refine nz_of (st_of (r.keep0 k05).hp (by simp) fun h6 e6 x6 k6 => ?_)
      exact code_ret (fin _ (e2.trans e3) _ _ _ _ _ _ _ (MO.newL r k05 f5 s5 k6 x6))
    · subst eb
      have e3 : takeF s i x q = if l.owner = id then (s, 4, 0) else if waits s (s.ths.length + 1) (nxt s l.owner) id then (s, 17, 0)
        else ({ s with ths := s.ths.set i { x with state := 2, wait := q } }, 0, 1) := by rw [takeF, g.get, ← iq]
      refine ifP_some (nz_of (r.l.rw.I g.1 (ifB_eqI (fun f => errC 4 (by omega) (by rw [e2, e3, if_pos f])) fun w => nz_of (r.l.rw.I g.1 ?_))))
      rw [if_neg w] at e3
      refine waitsI r v.own l32 (asB_of (ifB_b (fun f => errC 17 (by omega) (by rw [e2, e3, if_pos f])) fun f => nz_of ?_))
      rw [if_neg (by simp [f])] at e3
      refine st_rw hs.rw (y := x) (y' := { x with state := 2 }) encT_len hx (by decide) rfl fun h1 e4 r1 k1 => nz_of ?_
      refine st_rw r1 (y := { x with state := 2 }) (y' := { x with state := 2, wait := q }) encT_len (getSet hx) (by decide) rfl fun h2 e5 r2 k2 => ?_
      rw [List.set_set] at r2
      exact fin _ (e2.trans e3) _ _ _ _ _ _ _ (setAt_rw r r2 (k1.tr k2))
  refine ifB_eqI (fun g5 => ?_) fun g5 => ?_
  · have e1 : stepS s kind id q = lockF s i x kind id q := by rw [e0, stepAt, if_neg g2, if_pos (.inr g5)]
    refine ifB_dec (fun f => errC 1 (by omega) (by rw [e1, lockF, if_pos (.inl f)])) fun q0 => ?_
    refine ifB_dec (fun f => errC 1 (by omega) (by rw [e1, lockF, if_pos (.inr f)])) fun q1 => ?_
    refine nz_of (hs.rw.I hx (ifB_neI (fun f => errC 21 (by omega) (by rw [e1, lockF, if_neg (by omega), if_pos f])) fun st => ?_))
    refine lockI r (fun f => asP_of ?_) fun j b2 o2 l g eb => asP_of ?_
    · exact errC 2 (by omega) (by rw [e1, lockF, if_neg (by omega), if_neg (by omega), if_neg g4, getL_none.mpr f])
    · subst eb
      have e2 : lockF s i x kind id q = if l.owner ≠ id then (s, 2, 0) else (handF s q, 0, 0) := by rw [lockF, if_neg (by omega), if_neg (by omega), if_neg g4, g.get]
      refine ifP_some (nz_of (r.l.rw.I g.1 (ifB_neI (fun f => errC 2 (by omega) (by rw [e1, e2, if_pos f])) fun f => ?_)))
      rw [if_neg (by omega)] at e2
      exact handI v r g fun h1 a1 n1 c1 b1 m1 d1 o1 => o_el_TE (code_ret (fin _ (e1.trans e2) _ _ _ _ _ _ _ o1))
  have g45 : ¬ (kind = 4 ∨ kind = 5) := by omega
  refine ifB_eqI (fun g6 => ?_) fun g6 => ?_
  · have e1 : stepS s kind id q = if q < 1 ∨ q > 1000 then (s, 1, 0) else if x.state ≠ 1 then (s, 21, 0) else ({ s with ths := s.ths.set i { x with state := 3, till := IntKind.i64.wrap (s.now + q) } }, 0, 0) := by rw [e0, stepAt, if_neg g2, if_neg g45, if_pos g6]
    refine ifB_dec (fun f => errC 1 (by omega) (by rw [e1, if_pos (.inl f)])) fun q0 => ?_
    refine ifB_dec (fun f => errC 1 (by omega) (by rw [e1, if_pos (.inr f)])) fun q1 => ?_
    rw [if_neg (by omega)] at e1
    refine nz_of (hs.rw.I hx (ifB_neI (fun f => errC 21 (by omega) (by rw [e1, if_pos f])) fun st => nz_of ?_))
    rw [if_neg (by omega)] at e1
    rw [ldI_eq (r.hp.cell 0)]
    refine nz_of (st_rw hs.rw (y := x) (y' := { x with state := 3 }) encT_len hx (by decide) rfl fun h1 e4 r1 k1 => nz_of ?_)
    refine st_rw r1 (y := { x with state := 3 }) (y' := { x with state := 3, till := IntKind.i64.wrap (s.now + q) }) encT_len (getSet hx) (by decide) rfl fun h2 e5 r2 k2 => ?_
    rw [List.set_set] at r2
    exact code_ret (fin _ e1 _ _ _ _ _ _ _ (setAt_rw r r2 (k1.tr k2)))
  refine ifB_eqI (fun g7 => ?_) fun g7 => ?_
  · have e1 : stepS s kind id q = if x.state ≠ 3 then (s, 21, 0) else (standF s i x s.now, 0, 0) := by rw [e0, stepAt, if_neg g2, if_neg g45, if_neg g6, if_pos g7]
    refine nz_of (hs.rw.I hx (ifB_neI (fun f => errC 21 (by omega) (by rw [e1, if_pos f])) fun st => ?_))
    rw [if_neg (by omega)] at e1
    exact standI r hx fun h1 o1 => o_el_TE (code_ret (fin _ e1 _ _ _ _ _ _ _ o1))
  have e1 : stepS s kind id q = if q < 0 ∨ q > 7 then (s, 1, 0) else ({ s with ths := s.ths.set i { x with base := q } }, 0, 0) := by rw [e0, stepAt, if_neg g2, if_neg g45, if_neg g6, if_neg g7]
  refine ifE_t (by omega) ?_
  refine ifB_dec (fun f => errC 1 (by omega) (by rw [e1, if_pos (.inl f)])) fun q0 => ?_
  refine ifB_dec (fun f => errC 1 (by omega) (by rw [e1, if_pos (.inr f)])) fun q1 => ?_
  rw [if_neg (by omega)] at e1
  refine nz_of (st_rw hs.rw (y := x) (y' := { x with base := q }) encT_len hx (by decide) rfl fun h1 e4 r1 k1 => ?_)
  exact code_ret (fin _ e1 _ _ _ _ _ _ _ (setAt_rw r r1 k1))
end Go.Proofs.Yteeinamngmmlbaa
