import Derived.Test.YtgcjjapmdbgofaaQi
set_option linter.unusedVariables false
namespace Go.Proofs.Ytgcjjapmdbgofaa
open Go.Eng
variable {h h0 h' : H} {b o c n i j p : Nat} {a : Option Addr} {xs : List P} {x me : P} {K : Value → H → Prop} {s k to sig id kind : Int}

theorem gone_loop {kx : Option Addr → Option Addr → Nat → Nat → H → Prop} {q : Option Addr} {h1 : H} (hs : SlP h1 a n c xs) (hn : n ≤ 1048576)
    (k : ∀ h a' n' c', Keep [] h1 h → (∀ b ∈ own a', h1.size ≤ b) → SlP h a' n' c' (xs.filter fun y => y.id != id) → kx q a' n' c' h) :
    ∀ (m i : Nat) h a' n' c', i + m = n → Keep [] h1 h → (∀ b ∈ own a', h1.size ≤ b) → SlP h a' n' c' ((xs.take i).filter fun y => y.id != id) →
    impl_Procs_gone_M_l0 kx (m + 1) q id a' n' c' a n n i h := by
  have hl := hs.le
  intro m
  induction m with
  | zero =>
    intro i h a' n' c' e kp w s'
    rw [impl_Procs_gone_M_l0]
    rw [List.take_of_length_le (by omega)] at s'
    exact ifD_f (by omega) (k h a' n' c' kp w s')
  | succ m ih =>
    intro i h a' n' c' e kp w s'
    obtain ⟨x, hx⟩ : ∃ x, xs[i]? = some x := ⟨_, List.getElem?_eq_getElem (by omega)⟩
    rw [impl_Procs_gone_M_l0]
    have et : (xs.take (i + 1)).filter (fun y => y.id != id) = (xs.take i).filter (fun y => y.id != id) ++ if x.id != id then [x] else [] := by
      rw [List.take_add_one, hx, Option.toList_some, List.filter_append]
      cases g : (x.id != id) <;> simp [List.filter, g]
    have hn' : n' ≤ i := by
      have := s'.le.1
      have := List.length_filter_le (fun y : P => y.id != id) (xs.take i)
      have : (xs.take i).length ≤ i := by simp; omega
      omega
    refine ifD_t (by omega) (SlP.gRow (hs.keep0 kp) hx (ifB_neI (fun f => ?_) fun f => ?_))
    · rw [show (x.id != id) = true by simp [f]] at et
      refine oneP (x := x) rfl fun u h3 le3 k3 s3 => appendP (s'.keep0 k3) s3 (by omega) fun a4 c4 h4 k4 w4 s4 => ?_
      rw [wrap_suc (by omega)]
      have := kp.le; have := k3.le
      refine ih (i + 1) h4 a4 (n' + 1) c4 (by omega) ((kp.trans k3 (U := []) (by simp)).trans k4 (by intro d dl t; simp only [List.not_mem_nil, false_or] at t; have := w d t; omega)) (fun d hd => ?_) (by rw [et]; exact s4)
      rcases w4 d hd with t | t
      · exact w d t
      · omega
    · rw [show (x.id != id) = false by simp [f]] at et
      rw [wrap_suc (by omega)]
      exact ih (i + 1) h a' n' c' (by omega) kp w (by rw [et]; simpa using s')
theorem Nice.filter (ok : Nice xs) (hx : xs[i]? = some x) : (xs.filter fun y => y.id != x.id) = xs.eraseIdx i := by
  have hi := get_lt hx
  have e : xs = xs.take i ++ x :: xs.drop (i + 1) := by
    have := List.take_append_drop i xs
    rw [List.drop_eq_getElem_cons hi, (List.getElem?_eq_some_iff.mp hx).2] at this
    exact this.symm
  have f1 : (xs.take i).filter (fun y => y.id != x.id) = xs.take i := by
    rw [List.filter_eq_self]
    intro y hy
    obtain ⟨j, hj, rfl⟩ := List.getElem_of_mem hy
    simp at hj
    have : xs[j]? = some (xs.take i)[j] := by rw [List.getElem_take, List.getElem?_eq_getElem]
    simp only [bne_iff_ne, ne_eq]
    intro t
    have := ok.uni j i _ _ this hx t
    omega
  have f2 : (xs.drop (i + 1)).filter (fun y => y.id != x.id) = xs.drop (i + 1) := by
    rw [List.filter_eq_self]
    intro y hy
    obtain ⟨j, hj, rfl⟩ := List.getElem_of_mem hy
    simp at hj
    have : xs[i + 1 + j]? = some (xs.drop (i + 1))[j] := by rw [List.getElem_drop, List.getElem?_eq_getElem]
    simp only [bne_iff_ne, ne_eq]
    intro t
    have := ok.uni (i + 1 + j) i _ _ this hx t
    omega
  rw [List.eraseIdx_eq_take_drop_succ]
  conv => lhs; rw [e]
  rw [List.filter_append, f1, List.filter_cons, f2]
  simp
theorem gone_spec (m : Mp h p a n c xs) (hn : n ≤ 1048576) (ok : Nice xs) (hx : xs[i]? = some x) (ei : x.id = id)
    (k : ∀ h' a' n' c', MO p h a (xs.eraseIdx i) h' a' n' c' → K (.tuple ⟨[]⟩) h') :
    callD Try.prog 47 ⟨[.pointer (some ⟨p, 0, none⟩), .int .i64 id]⟩ h K := by
  refine impl_Procs_gone_M_call ?_
  rw [impl_Procs_gone_M, nz_some, ldL_eq (m.hp.cell 0)]
  refine ⟨n + 1, gone_loop m.hs hn (fun h1 a1 n1 c1 k1 w1 s1 => ?_) n 0 h none 0 0 (by omega) Keep.refl (by simp [own]) slP_nil⟩
  rw [← ei, ok.filter hx] at s1
  refine nz_of (st_of (k1.blk m.hp (by simp)) (by simp) fun h2 e2 hp2 k2 => k h2 a1 n1 c1 ⟨?_, fun b t => .inr (w1 b t), ⟨hp2, ?_, ?_⟩⟩)
  · exact k1.trans k2 (by intro d dl t; simp at t ⊢; exact .inl t)
  · have := m.hp.lt
    exact s1.keep k2 (by intro b hb; have := w1 b hb; simp; omega)
  · intro t; have := w1 p t; have := m.hp.lt; omega
theorem endI_loop {kx : Option Addr → Int → Int → Bool → H → Prop} {id st : Int} (hl : n = xs.length) (hb : n ≤ 140737488355328)
    (k : ∀ h, MO p h0 a (xs.map (orphan id)) h a n c → kx (some ⟨p, 0, none⟩) id st (deadF xs id xs.length) h) :
    ∀ (m i : Nat) h, i + m = n → MO p h0 a (mix (orphan id) xs i) h a n c → impl_Procs_end_M_l0 kx (m + 1) (some ⟨p, 0, none⟩) id st (deadF xs id i) n i h := by
  intro m
  induction m with
  | zero =>
    intro i h e out
    rw [impl_Procs_end_M_l0]
    have : i = xs.length := by omega
    subst this
    rw [mix_all] at out
    exact ifD_f (by omega) (k h out)
  | succ m ih =>
    intro i h e out
    obtain ⟨x, hx⟩ : ∃ x, xs[i]? = some x := ⟨_, List.getElem?_eq_getElem (by omega)⟩
    have hx' : (mix (orphan id) xs i)[i]? = some x := by rw [mix_get, if_neg (by omega), hx]
    rw [impl_Procs_end_M_l0]
    have ed := dead_succ (id := id) hx
    refine ifD_t (by omega) ?_
    rw [nz_some, ldL_eq (out.mp.hp.cell 0)]
    refine out.mp.hs.req hx' rfl (out.mp.hs.nz (get_lt hx') fun b o r ea => r.I hx' (ifB_eqI (fun f => ?_) fun f => ?_))
    · have s0 := out.mp.hs
      have st1 := s0.St hx' { x with parent := 1 } (j := 1) (q := (i : Int).toNat) (v := .int .i64 1) (K := fun h => ifB (deadF xs id i)
        (impl_Procs_end_M_l0 kx (m + 1) (some ⟨p, 0, none⟩) id st true n (IntKind.i64.wrap ((i : Int) + 1)) h)
        (ldI .i64 h b (o + (i : Int).toNat * 10 + 4) fun n19 => impl_Procs_end_M_l0 kx (m + 1) (some ⟨p, 0, none⟩) id st (n19 == 3) n (IntKind.i64.wrap ((i : Int) + 1)) h)) encP_len (fun h1 k1 _ s1 => ?_) rfl (by decide) rfl
      · rw [ea] at st1; exact st1
      have eo : orphan id x = { x with parent := 1 } := by rw [orphan, if_pos f]
      rw [← eo, ← mix_succ hx] at s1
      have out1 := out.trans (.set out.mp k1 s1)
      have hx1 : (mix (orphan id) xs (i + 1))[i]? = some { x with parent := 1 } := by rw [mix_get, if_pos (by omega), hx, ← eo]; rfl
      have hi1 := ih (i + 1) h1 (by omega) out1
      rw [show (x.parent == id) = true by simp [f], Bool.true_and] at ed
      rw [wrap_suc (by omega)]
      cases g : deadF xs id i with
      | true => rw [g, Bool.true_or] at ed; rw [ed] at hi1; exact hi1
      | false =>
        rw [g, Bool.false_or] at ed; rw [ed] at hi1
        rw [ea] at s1
        exact s1.rw.I hx1 hi1
    · have eo : orphan id x = x := by rw [orphan, if_neg f]
      have em : mix (orphan id) xs (i + 1) = mix (orphan id) xs i := by rw [mix_succ hx, eo, set_same hx']
      rw [show (x.parent == id) = false by simp [f], Bool.false_and, Bool.or_false] at ed
      have := ih (i + 1) h (by omega) (by rw [em]; exact out)
      rw [ed] at this
      rw [wrap_suc (by omega)]; exact this
theorem orphan_id (id : Int) (x : P) : (orphan id x).id = x.id := by unfold orphan; split <;> rfl
theorem Nice.orphan (ok : Nice xs) : Nice (xs.map (orphan id)) := ok.map _ (orphan_id id) fun x r => by
  unfold Proofs.Ytgcjjapmdbgofaa.orphan; split
  · exact ⟨r.pe, r.ma, r.ig, r.ca⟩
  · exact r
theorem Nice.mid (ok : Nice xs) : Nice (endMid xs id) := by
  unfold endMid; split
  · unfold sendAt; split
    · rename_i y hy
      exact ok.orphan.set hy (sendZ_id y 14).1 (Rng.sendZ (ok.orphan.rng _ y hy) (by omega) (by omega))
    · exact ok.orphan
  · exact ok.orphan
theorem endI_spec {id st : Int} (m : Mp h p a n c xs) (hn : n ≤ 1048576) (ok : EndOk xs id) (nice : Nice xs) (root : ∀ x, xs[0]? = some x → x.id = 1)
    (k : ∀ h' a' n' c', MO p h a (endF xs id st) h' a' n' c' → K (.tuple ⟨[]⟩) h') :
    callD Try.prog 46 ⟨[.pointer (some ⟨p, 0, none⟩), .int .i64 id, .int .i64 st]⟩ h K := by
  have hl := m.hs.le
  obtain ⟨l1, i, x, u, y, ti, tu⟩ := ok
  have eF : endF xs id st = if hasI y.ignored 14 then (endMid xs id).eraseIdx i else sendAt ((endMid xs id).set i (zombie x st)) u 14 := by
    simp only [endF, ti.pos, tu.pos, Int.toNat_natCast, ti.1, tu.1]
  have nm : Nice (endMid xs id) := nice.mid
  refine impl_Procs_end_M_call ?_
  rw [impl_Procs_end_M, nz_some, ldL_eq (m.hp.cell 0)]
  have j1 (h3 : H) (out : MO p h a (endMid xs id) h3 a n c) : impl_Procs_end_M_j1 (fun h => K (.tuple ⟨[]⟩) h) (fun h => K (.tuple ⟨[]⟩) h) (some ⟨p, 0, none⟩) id st h3 := by
    rw [impl_Procs_end_M_j1]
    refine at_spec out.mp.hp out.mp.hs (fun f => absurd ti.2.1 (f x (List.mem_of_getElem? ti.1))) fun i' b o x' t' ea => ?_
    have ei : i' = i := by have := ti.pos; have := t'.pos; omega
    subst ei
    have ex : x' = x := by have := t'.1; rw [ti.1] at this; injection this with this; exact this.symm
    subst ex
    subst ea
    have s3 := out.mp.hs
    refine asP_of (nz_of (s3.rw.I ti.1 ?_))
    refine at_spec out.mp.hp out.mp.hs (fun f => absurd tu.2.1 (f y (List.mem_of_getElem? tu.1))) fun u' b' o' y' t' ea => ?_
    have ei : u' = u := by have := tu.pos; have := t'.pos; omega
    subst ei
    have ex : y' = y := by have := t'.1; rw [tu.1] at this; injection this with this; exact this.symm
    subst ex
    injection ea with ea; injection ea with e1 e2 _; subst e1 e2
    refine asP_of (nz_of (s3.rw.I tu.1 ?_))
    rw [bit_has (nm.rng _ _ tu.1).ig (by omega) (by omega)]
    refine ifB_eqI (fun g => ?_) fun g => ?_
    · have g : hasI y'.ignored 14 = true := by cases e : hasI y'.ignored 14 <;> simp [e] at g ⊢
      rw [g, if_pos rfl] at eF
      exact gone_spec out.mp hn nm ti.1 ti.2.1 fun h4 a4 n4 c4 o4 => o_el_TE (k h4 a4 n4 c4 (by rw [eF]; exact out.trans o4))
    · have g : hasI y'.ignored 14 = false := by cases e : hasI y'.ignored 14 <;> simp [e] at g ⊢
      rw [g] at eF
      have eF : endF xs id st = sendAt ((endMid xs id).set i' (zombie x' st)) u' 14 := eF
      refine s3.St ti.1 { x' with state := 3 } encP_len (fun h4 k4 _ s4 => ?_) rfl (by decide) rfl
      refine s4.St (getSet ti.1) { x' with state := 3, status := st } encP_len (fun h5 k5 _ s5 => ?_) rfl (by decide) rfl
      rw [List.set_set] at s5
      refine s5.St (getSet ti.1) { x' with state := 3, status := st, pending := 0 } encP_len (fun h6 k6 _ s6 => ?_) rfl (by decide) rfl
      rw [List.set_set] at s6
      refine s6.St (getSet ti.1) { x' with state := 3, status := st, pending := 0, mask := 0 } encP_len (fun h7 k7 _ s7 => ?_) rfl (by decide) rfl
      rw [List.set_set] at s7
      refine s7.St (getSet ti.1) { x' with state := 3, status := st, pending := 0, mask := 0, ignored := 0 } encP_len (fun h8 k8 _ s8 => ?_) rfl (by decide) rfl
      rw [List.set_set] at s8
      refine s8.St (getSet ti.1) (zombie x' st) encP_len (fun h9 k9 _ s9 => ?_) rfl (by decide) rfl
      rw [List.set_set] at s9
      have kk : Keep (own (some ⟨b, o, none⟩)) h3 h9 := by
        refine k4.trans (k5.trans (k6.trans (k7.trans (k8.trans k9 (U := own (some ⟨b, o, none⟩)) ?_) (U := own (some ⟨b, o, none⟩)) ?_) (U := own (some ⟨b, o, none⟩)) ?_) (U := own (some ⟨b, o, none⟩)) ?_) ?_ <;> (intro d _ t; simpa using t)
      have out9 := out.trans (.set out.mp kk s9)
      have nz9 : Nice ((endMid xs id).set i' (zombie x' st)) := nm.set ti.1 rfl ⟨⟨by show (0 : Int) ≤ 0; omega, by show (0 : Int) < 65536; omega⟩, ⟨by show (0 : Int) ≤ 0; omega, by show (0 : Int) < 65536; omega⟩, ⟨by show (0 : Int) ≤ 0; omega, by show (0 : Int) < 65536; omega⟩, ⟨by show (0 : Int) ≤ 0; omega, by show (0 : Int) < 65536; omega⟩⟩
      obtain ⟨w, hw⟩ : ∃ w, ((endMid xs id).set i' (zombie x' st))[u']? = some w := ⟨_, List.getElem?_eq_getElem (by simpa using get_lt tu.1)⟩
      have ew : w.id = y'.id := by
        rw [List.getElem?_set] at hw
        split at hw
        · rename_i q; subst q
          rw [if_pos (get_lt ti.1)] at hw; injection hw with hw; subst hw
          have := ti.1; rw [tu.1] at this; injection this with this; rw [this]; rfl
        · rw [tu.1] at hw; injection hw with hw; rw [hw]
      refine nz_of (s9.rw.I0 hw ?_)
      have tw := nz9.at1 hw
      refine sendI_spec (by omega) (by omega) out9.mp tw (nz9.rng _ _ hw) fun h10 o10 => o_el_TE (k h10 (some ⟨b, o, none⟩) n c ?_)
      rw [eF, sendAt, hw]
      exact out9.trans o10
  refine ⟨n + 1, endI_loop hl.1 hl.2.2 (fun h3 out => ifB_b (fun g => ?_) fun g => j1 h3 (by rw [endMid, g]; exact out)) n 0 h (by omega) (by rw [mix_zero]; exact .refl m)⟩
  obtain ⟨y', hy'⟩ : ∃ y', (xs.map (orphan id))[0]? = some y' := ⟨_, List.getElem?_eq_getElem (by simp; omega)⟩
  have r1 : y'.id = 1 := by
    rw [List.getElem?_map] at hy'
    obtain ⟨z, hz, rfl⟩ := Option.map_eq_some_iff.mp hy'
    rw [orphan_id]; exact root z hz
  have nO : Nice (xs.map (orphan id)) := nice.orphan
  have t0 := nO.at1 hy'
  rw [r1] at t0
  refine sendI_spec (by omega) (by omega) out.mp t0 (nO.rng _ _ hy') fun h8 o8 => o_el_TE (j1 h8 ?_)
  rw [endMid, g, if_pos rfl, sendAt, hy']
  exact out.trans o8
end Go.Proofs.Ytgcjjapmdbgofaa
