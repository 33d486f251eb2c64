import Derived.Test.YtgcjjapmdbgofaaQm
set_option linter.unusedVariables false
namespace Go.Proofs.Ytgcjjapmdbgofaa
open Go.Eng
variable {h h0 h' : H} {b o c n i j p q r : Nat} {a : Option Addr} {xs : List P} {x me : P} {K : Value → H → Prop} {s k to sig id kind g : Int}
variable {pt : Option Addr} {kr : Int → Int → Int → H → Prop} {ix : Nat}

theorem MO.st {ys : List P} {h1 : H} {aa : Option Addr} (m : Mp h p aa n c xs) (k : Keep (own aa) h h1) (s : SlP h1 aa n c ys) : MO p h aa ys h1 aa n c := .set m k s
theorem sigs_loop {kx : Option Addr → Nat → Nat → Int → Int → H → Prop} {z1 : Int} {w : Nat} {ss : Int} (r16 : R16 ss) (w1 : 1 ≤ w) (w15 : w ≤ 15) (hw : hasI ss w = true) (no : ∀ j : Nat, 1 ≤ j → j < w → hasI ss j = false)
    (k : kx (some ⟨p, 0, none⟩) q r w z1 h) : ∀ (m i : Nat), i + m = w → 1 ≤ i → impl_Procs_step_M_l7 kx (m + 1) (some ⟨p, 0, none⟩) q r ss i z1 h := by
  intro m
  induction m with
  | zero =>
    intro i e i1
    have : i = w := by omega
    subst this
    rw [impl_Procs_step_M_l7, req_eq (by omega), bit_has r16 (by omega) (by omega), hw]
    exact ifE_f (by simp) k
  | succ m ih =>
    intro i e i1
    rw [impl_Procs_step_M_l7, req_eq (by omega), bit_has r16 (by omega) (by omega), no i i1 (by omega), wrap_suc (by omega)]
    exact ifE_t (by simp) (ih (i + 1) (by omega) (by omega))
theorem takeI (S : Sp h p q r (some ⟨b, o, none⟩) n c xs kind id to g (some ⟨b, o + ix * 10, none⟩)) (gd : Good xs) (hm : xs[ix]? = some me) (em : me.id = id) (st3 : me.state ≠ 3)
    (fin : ∀ v, takeS xs ix me = v → ∀ h' a' n' c', MO p h (some ⟨b, o, none⟩) v.1 h' a' n' c' → kr v.2.1 v.2.2.1 v.2.2.2 h') {ss : Int} (es : ss = setOf me) :
    impl_Procs_step_M_j6 (fun a b c h => kr a b c h) kr (some ⟨p, 0, none⟩) q r ss 0 h := by
  have so := gd.sig ix me hm
  have rg := gd.nice.rng ix me hm
  have hs := S.m.hs
  have l32 := gd.l32
  have hl := hs.le
  subst es
  rw [impl_Procs_step_M_j6]
  refine ifB_eqI (fun f => code_ret ?_) fun f => ?_
  · exact fin (xs, 9, 0, 0) (by rw [takeS, if_pos (so.z.mp f)]) h _ n c (.refl S.m)
  have tz : takeSig me ≠ 0 := fun t => f (so.z.mpr t)
  have rng := takeSig_rng me
  -- the signal is known
  have j8 : impl_Procs_step_M_j8 (fun a b c h => kr a b c h) (some ⟨p, 0, none⟩) q r (takeSig me) 0 h := by
    rw [impl_Procs_step_M_j8, ldP_eq (S.hr.cell 0)]
    refine nz_of (hs.rw.I hm ?_)
    rw [req_eq (by omega), bit_less rg.pe (by omega) (by omega)]
    refine hs.St hm { me with pending := lessI me.pending (takeSig me) } encP_len (fun h1 k1 _ s1 => ?_) rfl (by decide) rfl
    have O1 := MO.set S.m k1 s1
    have S1 := S.step O1
    have hm1 := getSet (y := { me with pending := lessI me.pending (takeSig me) }) hm
    rw [ldP_eq (S1.hr.cell 0)]
    refine nz_of (s1.rw.I hm1 ?_)
    rw [req_eq (by omega), bit_has rg.ca (by omega) (by omega)]
    refine ifB_eqI (fun g0 => ?_) fun g0 => ?_
    · have g0 : hasI me.caught (takeSig me) = true := by cases e : hasI me.caught (takeSig me) <;> simp [e] at g0 ⊢
      rw [ldP_eq (S1.hr.cell 0)]
      refine nz_of (s1.rw.I hm1 ?_)
      rw [req_eq (by omega), bit_with rg.ma (by omega) (by omega)]
      refine s1.St hm1 { me with pending := lessI me.pending (takeSig me), mask := withI me.mask (takeSig me) } encP_len (fun h2 k2 _ s2 => ?_) rfl (by decide) rfl
      have O2 := O1.trans (.set O1.mp k2 s2)
      rw [List.set_set] at O2
      exact fin _ (by rw [takeS, if_neg tz, if_pos g0]) h2 _ n c O2
    have g0 : hasI me.caught (takeSig me) = false := by cases e : hasI me.caught (takeSig me) <;> simp [e] at g0 ⊢
    have e0 : takeS xs ix me = if takeSig me = 12 then (xs.set ix { me with pending := lessI me.pending (takeSig me), state := 2 }, 0, takeSig me, 1)
        else if takeSig me = 14 ∨ takeSig me = 13 ∨ me.id = 1 then (xs.set ix { me with pending := lessI me.pending (takeSig me) }, 0, takeSig me, 1)
        else (endF (xs.set ix { me with pending := lessI me.pending (takeSig me) }) me.id (128 + takeSig me), 0, takeSig me, 1) := by rw [takeS, if_neg tz, if_neg (by simp [g0])]
    have j9 (t : Bool) (ht : t = true ↔ (takeSig me = 14 ∨ takeSig me = 13)) : impl_Procs_step_M_j9 (fun a b c h => kr a b c h) (some ⟨p, 0, none⟩) q r (takeSig me) t 0 (takeSig me) 1 h1 := by
      rw [impl_Procs_step_M_j9]
      refine ifB_b (fun e => ?_) fun e => ?_
      · exact fin _ (by rw [e0, if_neg (by have := ht.mp e; omega), if_pos (by have := ht.mp e; omega)]) h1 _ n c O1
      have nt : ¬ (takeSig me = 14 ∨ takeSig me = 13) := fun t => by rw [ht.mpr t] at e; cases e
      refine ifB_eqI (fun g1 => ?_) fun g1 => ?_
      · rw [ldP_eq (S1.hr.cell 0)]
        refine nz_of (s1.St hm1 { me with pending := lessI me.pending (takeSig me), state := 2 } encP_len (fun h2 k2 _ s2 => ?_) rfl (by decide) rfl)
        have O2 := O1.trans (.set O1.mp k2 s2)
        rw [List.set_set] at O2
        exact fin _ (by rw [e0, if_pos g1]) h2 _ n c O2
      rw [if_neg g1] at e0
      rw [ldI_eq (S1.hq.cell 1)]
      refine ifB_neI (fun g2 => ?_) fun g2 => ?_
      · rw [ldI_eq (S1.hq.cell 1)]
        have ew : IntKind.i64.wrap (128 + takeSig me) = 128 + takeSig me := wrap64 (by omega) (by omega)
        rw [ew, ← em]
        have nc : Nice (xs.set ix { me with pending := lessI me.pending (takeSig me) }) := gd.nice.set hm rfl ⟨rg.pe.less (by omega) (by omega), rg.ma, rg.ig, rg.ca⟩
        refine endI_spec S1.m (by omega) (gd.st.tk ix me hm st3 tz (by omega)) nc (fun y hy => ?_) fun h2 a2 n2 c2 o2 => o_el_TE ?_
        · rw [List.getElem?_set] at hy
          split at hy
          · rename_i e; subst e
            rw [if_pos (get_lt hm)] at hy; injection hy with hy; subst hy
            exact gd.srt.root me hm
          · exact gd.srt.root y hy
        · exact fin _ (by rw [e0, if_neg (by omega)]) h2 a2 n2 c2 (O1.trans o2)
      · exact fin _ (by rw [e0, if_pos (by omega)]) h1 _ n c O1
    refine ifB_eqI (fun g1 => j9 true ?_) fun g1 => j9 _ ?_
    · simp [g1]
    · simp [g1]
  have r16 := so.r
  rw [bit_has r16 (by omega) (by omega)]
  refine ifB_eqI (fun g1 => ?_) fun g1 => ?_
  · have g1 : hasI (setOf me) 9 = false := by cases e : hasI (setOf me) 9 <;> simp [e] at g1 ⊢
    obtain ⟨w, ew, w1, w2, w3, w4⟩ := so.least f g1
    rw [ew] at j8
    exact ⟨w - 1 + 1, sigs_loop r16 w1 w2 w3 w4 j8 (w - 1) 1 (by omega) (by omega)⟩
  · have g1 : hasI (setOf me) 9 = true := by cases e : hasI (setOf me) 9 <;> simp [e] at g1 ⊢
    rw [so.nine g1] at j8
    exact j8
theorem grpI_loop {kx : Nat → Option Addr → Bool → Int → Int → Int → H → Prop} {pa : Option Addr} {z1 z2 z3 : Int} (hq : blk h q [.int .i64 kind, .int .i64 id, .int .i64 to, .int .i64 g]) (hs : SlP h a n c xs) (k : kx q pa (grpT xs to g xs.length) z1 z2 z3 h) :
    ∀ m i : Nat, i + m = n → impl_Procs_step_M_l12 kx (m + 1) q pa (grpT xs to g i) a n n i z1 z2 z3 h := by
  have hl := hs.le
  intro m
  induction m with
  | zero =>
    intro i e
    rw [impl_Procs_step_M_l12]
    have : i = xs.length := by omega
    subst this
    exact ifD_f (by omega) k
  | succ m ih =>
    intro i e
    obtain ⟨x, hx⟩ : ∃ x, xs[i]? = some x := ⟨_, List.getElem?_eq_getElem (by omega)⟩
    rw [impl_Procs_step_M_l12]
    have es : grpT xs to g (i + 1) = (grpT xs to g i || (x.id != to && x.group == g)) := by
      rw [grpT, grpT, List.take_add_one, hx, Option.toList_some, List.any_append, List.any_cons, List.any_nil, Bool.or_false, Bool.or_assoc]
    have hi1 := ih (i + 1) (by omega)
    rw [es] at hi1
    rw [wrap_suc (by omega)]
    refine ifD_t (by omega) (SlP.gRow hs hx (ifB_b (fun f => by rw [f] at hi1; exact hi1) fun f => ?_))
    rw [f, Bool.false_or] at hi1
    rw [ldI_eq (hq.cell 2)]
    refine ifB_neI (fun f2 => ?_) fun f2 => ?_
    · rw [ldI_eq (hq.cell 3)]
      rw [show (x.id != to) = true by simp [f2], Bool.true_and] at hi1; exact hi1
    · rw [show (x.id != to) = false by simp [f2], Bool.false_and] at hi1; exact hi1
theorem grpI (S : Sp h p q r (some ⟨b, o, none⟩) n c xs kind id to g (some ⟨b, o + ix * 10, none⟩))
    (fin : ∀ v, grpS xs id to g = v → ∀ h' a' n' c', MO p h (some ⟨b, o, none⟩) v.1 h' a' n' c' → kr v.2.1 v.2.2.1 v.2.2.2 h')
    (F : Option Addr → Nat → Option Addr → Int → Int → Int → H → Prop) (hF : ∀ q1 q2 q3 z1 z2 z3 h, F q1 q2 q3 z1 z2 z3 h = impl_Procs_step_M_j11 (fun a b c h => kr a b c h) kr q1 q2 q3 z1 z2 z3 h) :
    ldI .i64 h q 2 fun n248 => callD Try.prog 19 ⟨[.pointer (some ⟨p, 0, none⟩), .int .i64 n248]⟩ h fun v249 h => asP v249 fun p250 => ifB p250.isNone
    (impl_Procs_step_M_j10 F kr (some ⟨p, 0, none⟩) q p250 true 0 0 0 h)
    (nz p250 fun b262 o263 => ldI .i64 h b262 (o263 + 4) fun n264 => ifB ((n264 : Int) == 3)
    (impl_Procs_step_M_j10 F kr (some ⟨p, 0, none⟩) q p250 true 0 0 0 h)
    (nz p250 fun b276 o277 => ldI .i64 h b276 o277 fun n278 => ldI .i64 h q 1 fun n279 => ifB ((n278 : Int) != n279)
    (nz p250 fun b280 o281 => ldI .i64 h b280 (o281 + 1) fun n282 => ldI .i64 h q 1 fun n283 => impl_Procs_step_M_j10 F kr (some ⟨p, 0, none⟩) q p250 ((n282 : Int) != n283) 0 0 0 h)
    (impl_Procs_step_M_j10 F kr (some ⟨p, 0, none⟩) q p250 false 0 0 0 h))) := by
  have hs := S.m.hs
  have hl := hs.le
  rw [ldI_eq (S.hq.cell 2)]
  have bad (q1 : Option Addr) (e : grpS xs id to g = (xs, 3, 0, 0)) : impl_Procs_step_M_j10 F kr (some ⟨p, 0, none⟩) q q1 true 0 0 0 h := by
    rw [impl_Procs_step_M_j10]
    exact code_ret (fin _ e h _ n c (.refl S.m))
  refine at_spec S.m.hp hs (fun f => asP_of (bad none ?_)) fun u b' o' y t ea => ?_
  · rw [grpS, getP_none.mpr f]
  injection ea with ea; injection ea with e1 e2 _; subst e1 e2
  have e0 : grpS xs id to g = if (to ≠ id ∧ y.parent ≠ id) ∨ y.state = 3 then (xs, 3, 0, 0)
    else if g < 1 ∨ g > 32 then (xs, 1, 0, 0)
    else if grpT xs to g xs.length then (xs.set u { y with group := g }, 0, 0, 0) else (xs, 2, 0, 0) := by rw [grpS, t.get, t.pos]; rfl
  have ok (f : ¬ ((to ≠ id ∧ y.parent ≠ id) ∨ y.state = 3)) : impl_Procs_step_M_j10 F kr (some ⟨p, 0, none⟩) q (some ⟨b, o + u * 10, none⟩) false 0 0 0 h := by
    rw [impl_Procs_step_M_j10, ifB_f, ldI_eq (S.hq.cell 3)]
    rw [if_neg f] at e0
    refine ifB_dec (fun g0 => code_ret (fin (xs, 1, 0, 0) (by rw [e0, if_pos (.inl g0)]) h _ n c (.refl S.m))) fun g0 => ?_
    rw [ldI_eq (S.hq.cell 3)]
    refine ifB_dec (fun g1 => code_ret (fin (xs, 1, 0, 0) (by rw [e0, if_pos (.inr g1)]) h _ n c (.refl S.m))) fun g1 => ?_
    rw [if_neg (by omega)] at e0
    rw [hF, impl_Procs_step_M_j11, ldI_eq (S.hq.cell 3), ldI_eq (S.hq.cell 2), nz_some, ldL_eq (S.m.hp.cell 0)]
    have eg : (g == to) = grpT xs to g 0 := by simp [grpT]
    rw [eg]
    refine ⟨n + 1, grpI_loop S.hq hs ?_ n 0 (by omega)⟩
    refine ifB_nb (fun g2 => code_ret (fin (xs, 2, 0, 0) (by rw [e0, g2]; rfl) h _ n c (.refl S.m))) fun g2 => ?_
    rw [ldI_eq (S.hq.cell 3)]
    exact nz_of (hs.St t.1 { y with group := g } encP_len (fun h1 k1 _ s1 => fin _ (by rw [e0, if_pos g2]) h1 _ n c (.set S.m k1 s1)) rfl (by decide) rfl)
  refine asP_of (ifP_some (nz_of (hs.rw.I t.1 (ifB_eqI (fun f => bad _ ?_) fun f => nz_of (hs.rw.I0 t.1 ?_)))))
  · rw [e0, if_pos (.inr f)]
  rw [ldI_eq (S.hq.cell 1)]
  refine ifB_neI (fun f1 => nz_of (hs.rw.I t.1 ?_)) fun f1 => ok ?_
  · rw [ldI_eq (S.hq.cell 1)]
    cases f2 : (y.parent != id) with
    | true =>
      have ft : to ≠ id := by rw [← t.2.1]; exact f1
      exact bad _ (by rw [e0, if_pos (.inl ⟨ft, by simpa using f2⟩)])
    | false => exact ok (by simp at f2; simp [f2, f])
  · have : y.id = id := f1
    rw [t.2.1] at this
    simp [this, f]
end Go.Proofs.Ytgcjjapmdbgofaa
