import Derived.Test.YtgcjjapmdbgofaaQn
set_option linter.unusedVariables false
namespace Go.Proofs.Ytgcjjapmdbgofaa
open Go.Eng
variable {h h0 h' : H} {b o c n i j p q r : Nat} {a : Option Addr} {xs : List P} {x me : P} {K : Value → H → Prop} {s k to sig id kind g : Int}

theorem stepI_spec (m : Mp h p a n c xs) (gd : Good xs) (tlo : -9223372036854775808 ≤ to) (thi : to ≤ 9223372036854775807)
    (k : ∀ h' a' n' c', MO p h a (stepP xs kind id to g).1 h' a' n' c' → K (.agg ⟨[.int .i64 (stepP xs kind id to g).2.1, .int .i64 (stepP xs kind id to g).2.2.1, .int .i64 (stepP xs kind id to g).2.2.2]⟩) h') :
    callD Try.prog 26 ⟨[.pointer (some ⟨p, 0, none⟩), .agg ⟨[.int .i64 kind, .int .i64 id, .int .i64 to, .int .i64 g]⟩]⟩ h K := by
  have l32 := gd.l32
  have hl := m.hs.le
  refine impl_Procs_step_M_call ?_
  generalize ekr : (fun n300001 n300002 n300003 h => K (.agg ⟨[.int .i64 n300001, .int .i64 n300002, .int .i64 n300003]⟩) h) = kr
  rw [impl_Procs_step_M]
  refine newD_of fun q h1 leq hq k1 => ?_
  have lp := m.hp.lt
  have alt : ∀ d ∈ own a, d < h.size := fun d hd => m.hs.lt hd
  have m1 : Mp h1 p a n c xs := ⟨k1.blk m.hp (by simp), m.hs.keep0 k1, m.np⟩
  have O1 : MO p h a xs h1 a n c := ⟨k1.mono (by simp), fun b t => .inl t, m1⟩
  have fin0 (v : List P × Int × Int × Int) (e : stepP xs kind id to g = v) (h' : H) (a' n' c') (o : MO p h1 a v.1 h' a' n' c') : kr v.2.1 v.2.2.1 v.2.2.2 h' := by
    subst e; rw [← ekr]; exact k h' a' n' c' (O1.trans o)
  rw [ldI_eq (hq.cell 0)]
  refine ifB_dec (fun f => code_ret (fin0 (xs, 1, 0, 0) (by rw [stepP, if_pos (.inl f)]) h1 a n c (.refl m1))) fun f0 => ?_
  rw [ldI_eq (hq.cell 0)]
  refine ifB_dec (fun f => code_ret (fin0 (xs, 1, 0, 0) (by rw [stepP, if_pos (.inr f)]) h1 a n c (.refl m1))) fun f1 => ?_
  rw [ldI_eq (hq.cell 1)]
  have z1 := k1.le
  refine at_spec m1.hp m1.hs (fun f => ?_) fun ix b o me t ea => ?_
  · refine asP_of (newD_of fun r h2 ler hr k2 => st_of hr (by simp) fun h3 e3 hr3 k3 => ?_)
    have hr3 : blk h3 r [.pointer none] := hr3
    rw [ldP_eq (hr3.cell 0), Option.isNone_none, ifB_t]
    have z2 := k2.le
    have k13 : Keep [] h1 h3 := k2.trans k3 (by intro d dl t; simp at t; omega)
    exact code_ret (fin0 (xs, 3, 0, 0) (by rw [stepP, if_neg (by omega), getP_none.mpr f]) h3 a n c ⟨k13.mono (by simp), fun b t => .inl t, ⟨k13.blk m1.hp (by simp), m1.hs.keep0 k13, m1.np⟩⟩)
  subst ea
  refine asP_of (newD_of fun r h2 ler hr k2 => st_of hr (by simp) fun h3 e3 hr3 k3 => ?_)
  have hr3 : blk h3 r [.pointer (some ⟨b, o + ix * 10, none⟩)] := hr3
  have z2 := k2.le
  have k13 : Keep [] h1 h3 := k2.trans k3 (by intro d dl t; simp at t; omega)
  have m3 : Mp h3 p (some ⟨b, o, none⟩) n c xs := ⟨k13.blk m1.hp (by simp), m1.hs.keep0 k13, m1.np⟩
  have hq3 := k13.blk hq (by simp)
  have lq := hq.lt
  have S : Sp h3 p q r (some ⟨b, o, none⟩) n c xs kind id to g (some ⟨b, o + ix * 10, none⟩) :=
    ⟨m3, hq3, hr3, fun t => by have := alt q t; omega, fun t => by have := alt r t; omega, by omega, by omega⟩
  have O3 : MO p h1 (some ⟨b, o, none⟩) xs h3 (some ⟨b, o, none⟩) n c := ⟨k13.mono (by simp), fun b t => .inl t, m3⟩
  have fin1 (v : List P × Int × Int × Int) (e : stepP xs kind id to g = v) (h' : H) (a' n' c') (o : MO p h3 (some ⟨b, o, none⟩) v.1 h' a' n' c') : kr v.2.1 v.2.2.1 v.2.2.2 h' :=
    fin0 v e h' a' n' c' (O3.trans o)
  have e0 : stepP xs kind id to g = if me.state = 3 then (xs, 21, 0, 0) else stepAt xs ix me kind id to g := by rw [stepP, if_neg (by omega), t.get, t.pos]; rfl
  have hs := m3.hs
  rw [ldP_eq (hr3.cell 0)]
  refine ifP_some ?_
  rw [ldP_eq (hr3.cell 0)]
  refine nz_of (hs.rw.I t.1 (ifB_eqI (fun f => code_ret ?_) fun f2 => ?_))
  · exact fin1 (xs, 21, 0, 0) (by rw [e0, if_pos f]) h3 _ n c (.refl m3)
  rw [if_neg f2] at e0
  have nx (v : List P × Int × Int × Int) (e : stepAt xs ix me kind id to g = v) (h' : H) (a' n' c') (o : MO p h3 (some ⟨b, o, none⟩) v.1 h' a' n' c') : kr v.2.1 v.2.2.1 v.2.2.2 h' := fin1 v (e0.trans e) h' a' n' c' o
  have rg := gd.nice.rng ix me t.1
  rw [ldI_eq (hq3.cell 0)]
  refine ifB_eqI (fun g1 => ?_) fun g1 => ?_
  · have e1 : stepAt xs ix me kind id to g = forkS xs me := by rw [stepAt, if_pos g1]
    have fin (v) (e : forkS xs me = v) (h' a' n' c') (o : MO p h3 (some ⟨b, o, none⟩) v.1 h' a' n' c') : kr v.2.1 v.2.2.1 v.2.2.2 h' := nx v (e1.trans e) h' a' n' c' o
    rw [nz_some, ldL_eq (m3.hp.cell 0)]
    refine ifB_eqI (fun nl => code_ret ?_) fun nl => ⟨n + 1, ?_⟩
    · have := free_full gd.srt (by omega)
      exact fin (xs, 18, 0, 0) (by rw [forkS, this, if_pos (by omega)]) h3 _ n c (.refl m3)
    refine forkI S gd t.1 fin nl n 0 _ (by omega) (by intros; omega) fun d dn eq stop => ?_
    exact forkI_tail S gd t.1 fin nl dn (free_at gd.srt l32 d (by omega) eq stop)
  refine ifB_eqI (fun g2 => ?_) fun g2 => ?_
  · have e1 : stepAt xs ix me kind id to g = exitS xs id g := by rw [stepAt, if_neg g1, if_pos g2]
    have bad (f : g < 0 ∨ g > 255) : kr 1 0 0 h3 := nx (xs, 1, 0, 0) (by rw [e1, exitS, if_pos f]) h3 _ n c (.refl m3)
    rw [ldI_eq (hq3.cell 3)]
    refine ifB_dec (fun q0 => ?_) fun q0 => ?_
    · rw [impl_Procs_step_M_j1]; exact code_ret (bad (.inl q0))
    rw [ldI_eq (hq3.cell 3), impl_Procs_step_M_j1]
    refine ifB_dec (fun q1 => code_ret (bad (.inr q1))) fun q1 => ?_
    rw [ldI_eq (hq3.cell 1)]
    refine ifB_eqI (fun q2 => code_ret (nx (xs, 2, 0, 0) (by rw [e1, exitS, if_neg (by omega), if_pos q2]) h3 _ n c (.refl m3))) fun q2 => ?_
    rw [ldI_eq (hq3.cell 1), ldI_eq (hq3.cell 3)]
    refine endI_spec m3 (by omega) (by have := gd.st.ex ix me t.1 f2; rw [t.2.1] at this; exact this q2) gd.nice gd.srt.root fun h4 a4 n4 c4 o4 => o_el_TE ?_
    exact nx (endF xs id g, 0, 0, 0) (by rw [e1, exitS, if_neg (by omega), if_neg q2]) h4 a4 n4 c4 o4
  refine ifB_eqI (fun g3 => ?_) fun g3 => ?_
  · have e1 : stepAt xs ix me kind id to g = waitS xs me to := by rw [stepAt, if_neg g1, if_neg g2, if_pos g3]
    rw [nz_some, ldL_eq (m3.hp.cell 0)]
    have L := waitI_loop (me := me) (kx := fun t102 h => ifB (!t102)
        (callD Try.prog 44 ⟨[.int .i64 11]⟩ h fun v107 h => elF False (.agg [.int .i64, .int .i64, .int .i64]) v107 fun n108 n109 n110 => kr n108 n109 n110 h)
        (callD Try.prog 44 ⟨[.int .i64 9]⟩ h fun v111 h => elF False (.agg [.int .i64, .int .i64, .int .i64]) v111 fun n112 n113 n114 => kr n112 n113 n114 h))
      (kr := kr) S (by omega) gd.nice t.1 t.2.1 (fun no => ?_) (fun k' y h' a' n' c' hy e no o' => ?_) n 0 (by omega) (by intros; omega)
    · exact ⟨n + 1, L⟩
    · have e : waitS xs me to = (xs, if xs.any (waitM me to) then 9 else 11, 0, 0) := by rw [waitS, List.findIdx?_eq_none_iff.mpr no]
      refine ifB_nb (fun g => code_ret ?_) fun g => code_ret ?_
      · exact nx (xs, 11, 0, 0) (by rw [e1, e, g]; rfl) h3 _ n c (.refl m3)
      · exact nx (xs, 9, 0, 0) (by rw [e1, e, g]; rfl) h3 _ n c (.refl m3)
    · have e : waitS xs me to = (xs.eraseIdx k', 0, y.id, y.status) := by
        have hi := List.getElem?_eq_some_iff.mp hy
        have : xs.findIdx? (fun x => waitM me to x && x.state == 3) = some k' := by
          rw [List.findIdx?_eq_some_iff_getElem]
          refine ⟨hi.1, by rw [hi.2]; exact e, fun j hj => ?_⟩
          have := no j (xs[j]'(by have := hi.1; omega)) hj (List.getElem?_eq_getElem _)
          rw [this]; simp
        rw [waitS, this]; simp [hy]
      exact nx _ (by rw [e1, e]) h' a' n' c' o'
  refine ifB_eqI (fun g4 => ?_) fun g4 => ?_
  · have e1 : stepAt xs ix me kind id to g = killS xs me to g := by rw [stepAt, if_neg g1, if_neg g2, if_neg g3, if_pos g4]
    have bad (f : g < 0 ∨ g > 15) : kr 1 0 0 h3 := nx (xs, 1, 0, 0) (by rw [e1, killS, if_pos f]) h3 _ n c (.refl m3)
    rw [ldI_eq (hq3.cell 3)]
    refine ifB_dec (fun q0 => code_ret (bad (.inl q0))) fun q0 => ?_
    rw [ldI_eq (hq3.cell 3)]
    refine ifB_dec (fun q1 => code_ret (bad (.inr q1))) fun q1 => ?_
    rw [nz_some, ldL_eq (m3.hp.cell 0)]
    exact killI S gd t.1 t.2.1 (fun v e => nx v (e1.trans e)) (by omega) (by omega)
  refine ifB_eqI (fun g5 => ?_) fun g5 => ?_
  · have e1 : stepAt xs ix me kind id to g = maskS xs ix me to := by rw [stepAt, if_neg g1, if_neg g2, if_neg g3, if_neg g4, if_pos g5]
    rw [ldI_eq (hq3.cell 2)]
    refine ifB_neI (fun q0 => code_ret ?_) fun q0 => ?_
    · exact nx (xs, 1, 0, 0) (by rw [e1, maskS, if_neg (fun t => q0 ((set_mask tlo thi).mpr t))]) h3 _ n c (.refl m3)
    have si := (set_mask tlo thi).mp q0
    rw [ldP_eq (hr3.cell 0)]
    refine nz_of (hs.rw.I t.1 ?_)
    rw [ldP_eq (hr3.cell 0), ldI_eq (hq3.cell 2), hard_mask ⟨si.1, si.2.1⟩]
    exact nz_of (hs.St t.1 { me with mask := lessI (lessI to 9) 12 } encP_len (fun h4 k4 _ s4 => nx (_, 0, me.mask, 0) (by rw [e1, maskS, if_pos si]) h4 _ n c (.set m3 k4 s4)) rfl (by decide) rfl)
  refine ifB_eqI (fun g6 => ?_) fun g6 => ?_
  · have e1 : stepAt xs ix me kind id to g = actS xs ix me to g := by rw [stepAt, if_neg g1, if_neg g2, if_neg g3, if_neg g4, if_neg g5, if_pos g6]
    have bad (f : actBad to g) : kr 1 0 0 h3 := nx (xs, 1, 0, 0) (by rw [e1, actS, if_pos f]) h3 _ n c (.refl m3)
    rw [ldI_eq (hq3.cell 2)]
    refine ifB_dec (fun f => code_ret (bad (by simp [actBad]; omega))) fun f0 => ?_
    rw [ldI_eq (hq3.cell 2)]
    refine ifB_dec (fun f => code_ret (bad (by simp [actBad]; omega))) fun f1 => ?_
    rw [ldI_eq (hq3.cell 3)]
    refine ifB_dec (fun f => code_ret (bad (by simp [actBad]; omega))) fun f2 => ?_
    rw [ldI_eq (hq3.cell 3)]
    refine ifB_dec (fun f => code_ret (bad (by simp [actBad]; omega))) fun f3 => ?_
    rw [ldI_eq (hq3.cell 2)]
    refine ifB_eqI (fun f => code_ret (bad (by simp [actBad]; omega))) fun f4 => ?_
    rw [ldI_eq (hq3.cell 2)]
    refine ifB_eqI (fun f => code_ret (bad (by simp [actBad]; omega))) fun f5 => ?_
    have nb : ¬ actBad to g := by simp [actBad]; omega
    rw [ldI_eq (hq3.cell 2), req_eq (by omega), ldP_eq (hr3.cell 0)]
    refine nz_of (hs.rw.I t.1 ?_)
    rw [bit_less rg.ig (by omega) (by omega)]
    refine hs.St t.1 { me with ignored := lessI me.ignored to } encP_len (fun h4 k4 _ s4 => ?_) rfl (by decide) rfl
    have O4 := MO.set m3 k4 s4
    have S4 := S.step O4
    have t4 := getSet (y := { me with ignored := lessI me.ignored to }) t.1
    rw [ldP_eq (S4.hr.cell 0)]
    refine nz_of (s4.rw.I t4 ?_)
    rw [bit_less rg.ca (by omega) (by omega)]
    refine s4.St t4 { me with ignored := lessI me.ignored to, caught := lessI me.caught to } encP_len (fun h5 k5 _ s5 => ?_) rfl (by decide) rfl
    rw [List.set_set] at s5
    have O5 := O4.trans (.set O4.mp k5 s5)
    have S5 := S.step O5
    have t5 := getSet (y := { me with ignored := lessI me.ignored to, caught := lessI me.caught to }) t.1
    have fin (y : P) (e : actX me to g = y) (h' : H) (o : MO p h3 (some ⟨b, o, none⟩) (xs.set ix y) h' (some ⟨b, o, none⟩) n c) : kr 0 0 0 h' :=
      nx (xs.set ix y, 0, 0, 0) (by rw [e1, actS, if_neg nb, e]) h' _ n c o
    rw [ldI_eq (S5.hq.cell 3)]
    refine ifB_eqI (fun q0 => ?_) fun q0 => ?_
    · rw [ldP_eq (S5.hr.cell 0)]
      refine nz_of (s5.rw.I t5 ?_)
      rw [bit_with (rg.ig.less (by omega) (by omega)) (by omega) (by omega)]
      refine s5.St t5 { me with ignored := withI (lessI me.ignored to) to, caught := lessI me.caught to } encP_len (fun h6 k6 _ s6 => ?_) rfl (by decide) rfl
      rw [List.set_set] at s6
      have O6 := O5.trans (.set O5.mp k6 s6)
      have S6 := S.step O6
      have t6 := getSet (y := { me with ignored := withI (lessI me.ignored to) to, caught := lessI me.caught to }) t.1
      rw [ldP_eq (S6.hr.cell 0)]
      refine nz_of (s6.rw.I t6 ?_)
      rw [bit_less rg.pe (by omega) (by omega)]
      refine s6.St t6 { me with ignored := withI (lessI me.ignored to) to, caught := lessI me.caught to, pending := lessI me.pending to } encP_len (fun h7 k7 _ s7 => ?_) rfl (by decide) rfl
      rw [List.set_set] at s7
      exact fin _ (by simp [actX, q0]) h7 (O6.trans (.set O6.mp k7 s7))
    · refine ifB_eqI (fun q1 => ?_) fun q1 => ?_
      · rw [ldP_eq (S5.hr.cell 0)]
        refine nz_of (s5.rw.I t5 ?_)
        rw [bit_with (rg.ca.less (by omega) (by omega)) (by omega) (by omega)]
        refine s5.St t5 { me with ignored := lessI me.ignored to, caught := withI (lessI me.caught to) to } encP_len (fun h6 k6 _ s6 => ?_) rfl (by decide) rfl
        rw [List.set_set] at s6
        exact fin _ (by simp [actX, q1]) h6 (O5.trans (.set O5.mp k6 s6))
      · exact fin _ (by simp [actX, q0, q1]) h5 O5
  refine ifB_eqI (fun g7 => ?_) fun g7 => ?_
  · have e1 : stepAt xs ix me kind id to g = takeS xs ix me := by rw [stepAt, if_neg g1, if_neg g2, if_neg g3, if_neg g4, if_neg g5, if_neg g6, if_pos g7]
    rw [ldP_eq (hr3.cell 0)]
    refine nz_of (hs.rw.I t.1 ?_)
    rw [ldP_eq (hr3.cell 0)]
    refine nz_of (hs.rw.I t.1 ?_)
    rw [ldP_eq (hr3.cell 0)]
    refine nz_of (hs.rw.I t.1 (ifB_eqI (fun q0 => ?_) fun q0 => ?_))
    · exact takeI S gd t.1 t.2.1 f2 (fun v e => nx v (e1.trans e)) (by rw [setOf, if_pos q0])
    · exact takeI S gd t.1 t.2.1 f2 (fun v e => nx v (e1.trans e)) (by rw [setOf, if_neg q0])
  refine ifB_eqI (fun g8 => ?_) fun g8 => ?_
  · have e1 : stepAt xs ix me kind id to g = grpS xs id to g := by rw [stepAt, if_neg g1, if_neg g2, if_neg g3, if_neg g4, if_neg g5, if_neg g6, if_neg g7, if_pos g8]
    exact grpI S (fun v e => nx v (e1.trans e)) _ fun _ _ _ _ _ _ _ => rfl
  have g9 : kind = 9 := by omega
  have e1 : stepAt xs ix me kind id to g = userS xs ix me g := by rw [stepAt, if_neg g1, if_neg g2, if_neg g3, if_neg g4, if_neg g5, if_neg g6, if_neg g7, if_neg g8]
  refine ifE_t g9 ?_
  have bad (f : g < 0 ∨ g > 255) : kr 1 0 0 h3 := nx (xs, 1, 0, 0) (by rw [e1, userS, if_pos f]) h3 _ n c (.refl m3)
  rw [ldI_eq (hq3.cell 3)]
  refine ifB_dec (fun q0 => ?_) fun q0 => ?_
  · rw [impl_Procs_step_M_j13]; exact code_ret (bad (.inl q0))
  rw [ldI_eq (hq3.cell 3), impl_Procs_step_M_j13]
  refine ifB_dec (fun q1 => code_ret (bad (.inr q1))) fun q1 => ?_
  have fin (q2 : ¬ (me.user ≠ 0 ∧ me.user ≠ g)) : ldP h3 r 0 fun p313 => ldI .i64 h3 q 3 fun n314 => nz p313 fun b315 o316 => st h3 b315 (o316 + 3) (.int .i64 n314) fun h => kr 0 0 0 h := by
    rw [ldP_eq (hr3.cell 0), ldI_eq (hq3.cell 3)]
    exact nz_of (hs.St t.1 { me with user := g } encP_len (fun h4 k4 _ s4 => nx (_, 0, 0, 0) (by rw [e1, userS, if_neg (by omega), if_neg q2]) h4 _ n c (.set m3 k4 s4)) rfl (by decide) rfl)
  rw [ldP_eq (hr3.cell 0)]
  refine nz_of (hs.rw.I t.1 (ifB_neI (fun q2 => ?_) fun q2 => ?_))
  case refine_2 => exact fin (by simp [q2])
  rw [ldP_eq (hr3.cell 0)]
  refine nz_of (hs.rw.I t.1 ?_)
  rw [ldI_eq (hq3.cell 3)]
  refine ifB_neI (fun q3 => code_ret ?_) fun q3 => fin (by simp [q3])
  exact nx (xs, 2, 0, 0) (by rw [e1, userS, if_neg (by omega), if_pos ⟨q2, q3⟩]) h3 _ n c (.refl m3)
end Go.Proofs.Ytgcjjapmdbgofaa
