import Derived.Test.YtgcjjapmdbgofaaQj
set_option linter.unusedVariables false
namespace Go.Proofs.Ytgcjjapmdbgofaa
open Go.Eng
variable {h h0 h' : H} {b o c n i j p q r : Nat} {a : Option Addr} {xs : List P} {x me : P} {K : Value → H → Prop} {s k to sig id kind g : Int}

theorem code_spec {v : Int} (z : K (.agg ⟨[.int .i64 v, .int .i64 0, .int .i64 0]⟩) h) : callD Try.prog 44 ⟨[.int .i64 v]⟩ h K := by
  refine impl_Procs_step_c1_M_call ?_
  rw [impl_Procs_step_c1_M]; exact z
/-- whom an operation means -/
def meansI (me : P) (to : Int) (y : P) : Bool :=
  if to > 0 then y.id == to else if to = 0 then y.group == me.group else if to = -1 then true else y.group == IntKind.i64.wrap (0 - to)
theorem means_spec {y : P} (hq : blk h q [.int .i64 kind, .int .i64 id, .int .i64 to, .int .i64 g]) (hr : blk h r [.pointer (some ⟨b, o + i * 10, none⟩)]) (rw' : Rw h b o c 10 encP xs) (hx : xs[i]? = some me)
    (z : K (.bool (meansI me to y)) h) : callD Try.prog 45 ⟨[.agg ⟨encP y⟩, .pointer (some ⟨q, 0, none⟩), .pointer (some ⟨r, 0, none⟩)]⟩ h K := by
  refine impl_Procs_step_c2_M_call ?_
  rw [impl_Procs_step_c2_M]
  have e2 : cell h q (0 + 2) = some (.int .i64 to) := hq.cell 2
  rw [ldI_eq e2]
  refine ifB_dec (fun f => ?_) fun f => ?_
  · rw [ldI_eq e2]
    have : meansI me to y = (y.id == to) := by rw [meansI, if_pos f]
    rw [← this]; exact z
  rw [ldI_eq e2]
  refine ifB_eqI (fun f1 => ?_) fun f1 => ?_
  · rw [ldP_eq (hr.cell 0)]
    refine nz_of (rw'.I hx ?_)
    have : meansI me to y = (y.group == me.group) := by rw [meansI, if_neg f, if_pos f1]
    rw [← this]; exact z
  rw [ldI_eq e2]
  refine ifB_eqI (fun f2 => ?_) fun f2 => ?_
  · have : meansI me to y = true := by rw [meansI, if_neg f, if_neg f1, if_pos f2]
    rw [← this]; exact z
  rw [ldI_eq e2]
  have : meansI me to y = (y.group == IntKind.i64.wrap (0 - to)) := by rw [meansI, if_neg f, if_neg f1, if_neg f2]
  rw [← this]; exact z
theorem means_wait (me y : P) (to : Int) : waitM me to y = (y.parent == me.id && meansI me to y) := by
  unfold waitM meansI
  cases e : (y.parent == me.id) <;> simp only [Bool.false_and, Bool.true_and]
  by_cases f : to > 0
  · rw [if_pos f]
    have h1 : ¬ to = 0 := by omega
    have h2 : ¬ to < -1 := by omega
    have e0 : (to == 0) = false := by simp [h1]
    simp [f, h2, e0, bne]
  · rw [if_neg f]
    by_cases f1 : to = 0
    · subst f1; simp [bne]
    · rw [if_neg f1]
      by_cases f2 : to = -1
      · subst f2; simp [bne]
      · rw [if_neg f2]
        have h2 : to < -1 := by omega
        have e0 : (to == 0) = false := by simp [f1]
        simp [f, h2, e0, bne]
theorem means_kill (me y : P) (to : Int) : killM me to y = (meansI me to y && !(to == -1 && (y.id == 1 || y.id == me.id))) := by
  unfold killM meansI
  by_cases f : to > 0
  · have h1 : ¬ to = 0 := by omega
    have h2 : ¬ to = -1 := by omega
    have h3 : ¬ to < -1 := by omega
    rw [if_pos f, if_neg h1, if_neg h2, if_neg h3]; simp [h2]
  · rw [if_neg f]
    by_cases f1 : to = 0
    · subst f1; simp
    · rw [if_neg f1, if_neg f1]
      by_cases f2 : to = -1
      · subst f2; simp [bne]
      · have h3 : to < -1 := by omega
        rw [if_neg f2, if_neg f2, if_pos h3]; simp [f2]
/-- what stands in memory while a step runs -/
structure Sp (h : H) (p q r : Nat) (a : Option Addr) (n c : Nat) (xs : List P) (kind id to g : Int) (pt : Option Addr) : Prop where
  m : Mp h p a n c xs
  hq : blk h q [.int .i64 kind, .int .i64 id, .int .i64 to, .int .i64 g]
  hr : blk h r [.pointer pt]
  qa : q ∉ own a
  ra : r ∉ own a
  qp : q ≠ p
  rp : r ≠ p
theorem Sp.step {ys : List P} {pt a' : Option Addr} {n' c' : Nat} (s : Sp h p q r a n c xs kind id to g pt) (o : MO p h a ys h' a' n' c') : Sp h' p q r a' n' c' ys kind id to g pt := by
  have lq := s.hq.lt; have lr := s.hr.lt
  refine ⟨o.mp, o.kp.blk s.hq (by simp [s.qp, s.qa]), o.kp.blk s.hr (by simp [s.rp, s.ra]), fun t => ?_, fun t => ?_, s.qp, s.rp⟩
  · rcases o.was q t with t | t
    · exact s.qa t
    · omega
  · rcases o.was r t with t | t
    · exact s.ra t
    · omega
/-! lists of whole numbers -/
def encI (z : Int) : List Value := [.int .i64 z]
abbrev SlI (h : H) (a : Option Addr) (n c : Nat) (xs : List Int) := Sl h a n c 1 encI xs
theorem inf2 : (Try.prog.info? 2).map (fun i => (i.size, i.bytes, i.zero.map fun z => (cellsOf z).length)) = some (1, 8, some 1) := by kernel_rfl
theorem appendI {n' c' : Nat} {a' : Option Addr} {xs ys : List Int} {K : Option Addr → Nat → Nat → H → Prop}
    (x : SlI h a n c xs) (y : SlI h a' n' c' ys) (hl : n + n' ≤ 16777216)
    (k : ∀ a'' c'' h', Keep (own a) h h' → (∀ b ∈ own a'', b ∈ own a ∨ h.size ≤ b) → SlI h' a'' (n + n') c'' (xs ++ ys) → K a'' (n + n') c'' h') : appendD Try.prog 2 h a n c (.slice a' n' c') K := by
  have e := inf2
  cases hi : Try.prog.info? 2 with
  | none => rw [hi] at e; cases e
  | some i =>
    rw [hi] at e
    cases hz : i.zero with
    | none => simp [hz] at e
    | some z =>
      simp [hz] at e
      exact appendD_of hi hz e.1 (by omega) e.2.2 (fun _ => rfl) (by intro y v hv; simp [encI] at hv; subst hv; rfl) x y (by rw [e.2.1]; omega) (by omega) k
theorem slI_nil : SlI h none 0 0 [] := ⟨⟨rfl, by omega⟩, rfl, rfl⟩
theorem oneI {z : Int} {K : Nat → H → Prop} (k : ∀ b h', h.size ≤ b → Keep [] h h' → SlI h' (some ⟨b, 0, none⟩) 1 1 [z] → K b h') : newD h [.int .i64 z] 2 K :=
  newD_of fun b h1 le hb k1 => k b h1 le k1 ⟨⟨rfl, by omega⟩, [.int .i64 z], hb, by simp, by simp, fun i y hy j v hv => by
    cases i with
    | zero => simp at hy; subst hy; simpa [encI] using hv
    | succ i => simp at hy⟩
/-! wait -/
theorem waitI_loop {kx : Bool → H → Prop} {kr : Int → Int → Int → H → Prop} {ix : Nat} (S : Sp h p q r (some ⟨b, o, none⟩) n c xs kind id to g (some ⟨b, o + ix * 10, none⟩)) (hn : n ≤ 1048576) (nice : Nice xs) (hm : xs[ix]? = some me) (em : me.id = id)
    (k1 : (∀ x ∈ xs, (waitM me to x && x.state == 3) = false) → kx (xs.any (waitM me to)) h)
    (k2 : ∀ k x h' a' n' c', xs[k]? = some x → (waitM me to x && x.state == 3) = true → (∀ j y, j < k → xs[j]? = some y → (waitM me to y && y.state == 3) = false) → MO p h (some ⟨b, o, none⟩) (xs.eraseIdx k) h' a' n' c' → kr 0 x.id x.status h') :
    ∀ m i : Nat, i + m = n → (∀ (j : Nat) y, j < i → xs[j]? = some y → (waitM me to y && y.state == 3) = false) →
    impl_Procs_step_M_l2 kx kr (m + 1) (some ⟨p, 0, none⟩) q q r ((xs.take i).any (waitM me to)) (some ⟨b, o, none⟩) n n i h := by
  have hs := S.m.hs
  have hl := hs.le
  intro m
  induction m with
  | zero =>
    intro i e no
    rw [impl_Procs_step_M_l2, List.take_of_length_le (by omega)]
    refine ifD_f (by omega) (k1 fun x hx => ?_)
    obtain ⟨j, hj, e⟩ := List.getElem_of_mem hx
    exact no j x (by omega) (by rw [List.getElem?_eq_getElem hj, e])
  | succ m ih =>
    intro i e no
    obtain ⟨x, hx⟩ : ∃ x, xs[i]? = some x := ⟨_, List.getElem?_eq_getElem (by omega)⟩
    rw [impl_Procs_step_M_l2]
    have next (t : Bool) (f : (waitM me to x && x.state == 3) = false) (et : t = ((xs.take i).any (waitM me to) || waitM me to x)) :
        impl_Procs_step_M_l2 kx kr (m + 1) (some ⟨p, 0, none⟩) q q r t (some ⟨b, o, none⟩) n n (IntKind.i64.wrap ((i : Int) + 1)) h := by
      rw [wrap_suc (by omega)]
      have := ih (i + 1) (by omega) (fun j y hj hy => by
        by_cases g : j = i
        · subst g; rw [hx] at hy; injection hy with hy; subst hy; exact f
        · exact no j y (by omega) hy)
      rw [List.take_add_one, hx, Option.toList_some, List.any_append, List.any_cons, List.any_nil, Bool.or_false] at this
      rw [et]; exact this
    refine ifD_t (by omega) (SlP.gRow hs hx ?_)
    rw [ldI_eq (S.hq.cell 1)]
    refine ifB_neI (fun f => ?_) fun f => ?_
    · have : waitM me to x = false := by rw [means_wait, em]; simp [f]
      exact next _ (by rw [this]; rfl) (by rw [this, Bool.or_false])
    refine means_spec (y := x) S.hq S.hr hs.rw hm (ifB_nb (fun f1 => ?_) fun f1 => ?_)
    · have : waitM me to x = false := by rw [means_wait, f1, Bool.and_false]
      exact next _ (by rw [this]; rfl) (by rw [this, Bool.or_false])
    have w : waitM me to x = true := by rw [means_wait, f1, em]; simp [f]
    refine ifB_eqI (fun f2 => ?_) fun f2 => next true (by simp [f2]) (by rw [w, Bool.or_true])
    exact gone_spec S.m hn nice hx rfl fun h' a' n' c' o' => o_el_TE (k2 i x h' a' n' c' hx (by simp [w, f2]) no o')
/-! kill -/
theorem killI_loop {kx : Option Addr → Nat → Bool → Option Addr → Nat → Int → Int → H → Prop} {ix : Nat} {z1 z2 : Int} (S : Sp h0 p q r (some ⟨b, o, none⟩) n c xs kind id to g (some ⟨b, o + ix * 10, none⟩)) (hn : n ≤ 1048576) (hm : xs[ix]? = some me) (em : me.id = id)
    (k : ∀ h a' n' c', Keep [] h0 h → (∀ b ∈ own a', h0.size ≤ b) → SlI h a' n' c' ((xs.filter fun x => killM me to x && killA me x).map (·.id)) → kx (some ⟨p, 0, none⟩) q (xs.any (killM me to)) a' n' z1 z2 h) :
    ∀ (m i : Nat) h a' n' c', i + m = n → Keep [] h0 h → (∀ b ∈ own a', h0.size ≤ b) → SlI h a' n' c' (((xs.take i).filter fun x => killM me to x && killA me x).map (·.id)) →
    impl_Procs_step_M_l3 kx (m + 1) (some ⟨p, 0, none⟩) q r q r ((xs.take i).any (killM me to)) a' n' c' (some ⟨b, o, none⟩) n n i z1 z2 h := by
  have hl := S.m.hs.le
  intro m
  induction m with
  | zero =>
    intro i h a' n' c' e kp w s'
    rw [impl_Procs_step_M_l3, List.take_of_length_le (by omega)]
    rw [List.take_of_length_le (by omega)] at s'
    exact ifD_f (by omega) (k h a' n' c' kp w s')
  | succ m ih =>
    intro i h a' n' c' e kp w s'
    obtain ⟨x, hx⟩ : ∃ x, xs[i]? = some x := ⟨_, List.getElem?_eq_getElem (by omega)⟩
    have hs := S.m.hs.keep0 kp
    have hq := kp.blk S.hq (by simp)
    have hr := kp.blk S.hr (by simp)
    have hn' : n' ≤ i := by
      have h1 := s'.le.1
      have h2 := List.length_filter_le (fun x : P => killM me to x && killA me x) (xs.take i)
      simp only [List.length_map] at h1
      have : (xs.take i).length ≤ i := by simp; omega
      omega
    rw [impl_Procs_step_M_l3]
    generalize eL : (fun p3 b4 b5 b6 b7 t8 a9 l9 c9 a10 l10 n11 (n12 : Int) n13 n14 h => impl_Procs_step_M_l3 kx (m + 1) p3 b4 b5 b6 b7 t8 a9 l9 c9 a10 l10 n11 (IntKind.i64.wrap (n12 + 1)) n13 n14 h) = L
    have et : (xs.take (i + 1)).filter (fun x => killM me to x && killA me x) = (xs.take i).filter (fun x => killM me to x && killA me x) ++ if killM me to x && killA me x then [x] else [] := by
      rw [List.take_add_one, hx, Option.toList_some, List.filter_append]
      cases g : (killM me to x && killA me x) <;> simp [List.filter, g]
    have ea : (xs.take (i + 1)).any (killM me to) = ((xs.take i).any (killM me to) || killM me to x) := by
      rw [List.take_add_one, hx, Option.toList_some, List.any_append, List.any_cons, List.any_nil, Bool.or_false]
    have skip (t : Bool) (f : (killM me to x && killA me x) = false) (e : t = ((xs.take i).any (killM me to) || killM me to x)) :
        impl_Procs_step_M_l3 kx (m + 1) (some ⟨p, 0, none⟩) q r q r t a' n' c' (some ⟨b, o, none⟩) n n (IntKind.i64.wrap ((i : Int) + 1)) z1 z2 h := by
      have := ih (i + 1) h a' n' c' (by omega) kp w (by rw [et, f]; simpa using s')
      rw [ea] at this
      rw [wrap_suc (by omega), e]; exact this
    have j4 (km : killM me to x = true) : impl_Procs_step_M_j4 L (some ⟨p, 0, none⟩) q r q r a' n' c' (some ⟨b, o, none⟩) n n i z1 z2 x.id x.user h := by
      rw [impl_Procs_step_M_j4, ldP_eq (hr.cell 0)]
      have add (ka : killA me x = true) : newD h [.int .i64 x.id] 2 fun b3 h => appendD Try.prog 2 h a' n' c' (.slice (some ⟨b3, 0, none⟩) 1 1) fun a4 l4 c4 h => L (some ⟨p, 0, none⟩) q r q r true a4 l4 c4 (some ⟨b, o, none⟩) n n i z1 z2 h := by
        refine oneI fun u h3 le3 k3 s3 => appendI (s'.keep0 k3) s3 (by omega) fun a4 c4 h4 k4 w4 s4 => ?_
        have := kp.le; have := k3.le
        rw [← eL]
        show impl_Procs_step_M_l3 kx (m + 1) (some ⟨p, 0, none⟩) q r q r true a4 (n' + 1) c4 (some ⟨b, o, none⟩) n n (IntKind.i64.wrap ((i : Int) + 1)) z1 z2 h4
        rw [wrap_suc (by omega)]
        have := ih (i + 1) h4 a4 (n' + 1) c4 (by omega) ((kp.trans k3 (U := []) (by simp)).trans k4 (by intro d dl t; simp only [List.not_mem_nil, false_or] at t; have := w d t; omega)) (fun d hd => ?_) (by rw [et, km, ka, List.map_append]; exact s4)
        · rw [ea, km, Bool.or_true] at this; exact this
        · rcases w4 d hd with t | t
          · exact w d t
          · omega
      refine nz_of (hs.rw.I hm (ifB_eqI (fun f => ?_) fun f => ?_))
      · exact add (by simp [killA, f])
      rw [ldP_eq (hr.cell 0)]
      refine nz_of (hs.rw.I hm (ifB_eqI (fun f1 => ?_) fun f1 => ?_))
      · exact add (by simp [killA, f1])
      rw [← eL]
      exact skip true (by simp [killA, f, f1]) (by rw [km, Bool.or_true])
    refine ifD_t (by omega) (SlP.gRow hs hx (means_spec (y := x) hq hr hs.rw hm (ifB_nb (fun f1 => ?_) fun f1 => ?_)))
    · have : killM me to x = false := by rw [means_kill, f1, Bool.false_and]
      exact skip _ (by rw [this]; rfl) (by rw [this, Bool.or_false])
    rw [ldI_eq (hq.cell 2)]
    refine ifB_eqI (fun f2 => ?_) fun f2 => j4 (by rw [means_kill, f1]; simp [f2])
    refine ifB_eqI (fun f3 => ?_) fun f3 => ?_
    · have : killM me to x = false := by rw [means_kill, f1]; simp [f2, f3]
      exact skip _ (by rw [this]; rfl) (by rw [this, Bool.or_false])
    rw [ldI_eq (hq.cell 1)]
    refine ifB_eqI (fun f4 => ?_) fun f4 => ?_
    · have : killM me to x = false := by rw [means_kill, f1, em]; simp [f2, f4]
      exact skip _ (by rw [this]; rfl) (by rw [this, Bool.or_false])
    · exact j4 (by rw [means_kill, f1, em]; simp [f3, f4])
def sentTo (L : List Int) (sig : Int) (x : P) : P := if x.id ∈ L then sendZ x sig else x
theorem sentTo_id (L : List Int) (sig : Int) (x : P) : (sentTo L sig x).id = x.id := by
  unfold sentTo; split
  · exact (sendZ_id x sig).1
  · rfl
theorem sends_loop {kx : Nat → Int → Int → H → Prop} {L : List Int} {al : Option Addr} {nl cl l : Nat} {z1 z2 : Int} (hq : blk h0 q [.int .i64 kind, .int .i64 id, .int .i64 to, .int .i64 g]) (qa : q ∉ own a) (qp : q ≠ p)
    (hL : SlI h0 al nl cl L) (dl : ∀ d ∈ own al, d ∉ own a ∧ d ≠ p) (nice : Nice xs) (mem : ∀ z ∈ L, ∃ (i : Nat) (x : P), xs[i]? = some x ∧ x.id = z) (nd : L.Nodup) (g0 : 0 ≤ g) (g1 : g ≤ 15) (m0 : Mp h0 p a n c xs)
    (k : ∀ h, MO p h0 a (xs.map (sentTo L g)) h a n c → kx l z1 z2 h) :
    ∀ (m j : Nat) h, j + m = nl → MO p h0 a (xs.map (sentTo (L.take j) g)) h a n c → impl_Procs_step_M_l5 kx (m + 1) (some ⟨p, 0, none⟩) q l al nl nl j z1 z2 h := by
  have hl := hL.le
  intro m
  induction m with
  | zero =>
    intro j h e out
    rw [impl_Procs_step_M_l5]
    rw [List.take_of_length_le (by omega)] at out
    exact ifD_f (by omega) (k h out)
  | succ m ih =>
    intro j h e out
    obtain ⟨z, hz⟩ : ∃ z, L[j]? = some z := ⟨_, List.getElem?_eq_getElem (by omega)⟩
    have hL' : SlI h al nl cl L := hL.keep out.kp (by intro d hd; have := dl d hd; simp [this.1, this.2])
    rw [impl_Procs_step_M_l5]
    obtain ⟨i, x, hx, ex⟩ := mem z (List.mem_of_getElem? hz)
    have nz : z ∉ L.take j := by
      intro t
      obtain ⟨j', hj', e'⟩ := List.getElem_of_mem t
      simp at hj'
      rw [List.getElem_take] at e'
      have h2 := List.getElem?_eq_some_iff.mp hz
      have := (List.pairwise_iff_getElem.mp nd) j' j (by omega) h2.1 (by omega)
      rw [h2.2] at this; exact this e'
    have hx' : (xs.map (sentTo (L.take j) g))[i]? = some x := by
      rw [List.getElem?_map, hx, Option.map_some, sentTo, if_neg (by rw [ex]; exact nz)]
    have nice' : Nice (xs.map (sentTo (L.take j) g)) := nice.map _ (sentTo_id _ _) fun y ry => by
      unfold sentTo; split
      · exact ry.sendZ g0 g1
      · exact ry
    have t := nice'.at1 hx'
    rw [ex] at t
    refine ifD_t (by omega) (hL'.gI0 hz ?_)
    rw [ldI_eq ((out.kp.blk hq (by simp [qp, qa])).cell 3)]
    refine sendI_spec g0 g1 out.mp t (nice'.rng _ _ hx') fun h1 o1 => o_el_TE ?_
    rw [wrap_suc (by omega)]
    refine ih (j + 1) h1 (by omega) ?_
    have : (xs.map (sentTo (L.take j) g)).set i (sendZ x g) = xs.map (sentTo (L.take (j + 1)) g) := by
      refine List.ext_getElem? fun d => ?_
      rw [List.getElem?_set, List.getElem?_map, List.getElem?_map]
      by_cases e : i = d
      · subst e
        rw [if_pos rfl, if_pos (by simpa using get_lt hx), hx, Option.map_some, sentTo, if_pos]
        rw [List.take_add_one, hz]; simp [ex]
      · rw [if_neg e]
        cases hd : xs[d]? with
        | none => rfl
        | some y =>
          rw [Option.map_some, Option.map_some]
          congr 1
          have ny : y.id ≠ z := fun t => e (nice.uni i d x y hx hd (by rw [ex, t]))
          unfold sentTo
          rw [List.take_add_one, hz]
          simp [ny]
    rw [← this]
    exact out.trans o1
end Go.Proofs.Ytgcjjapmdbgofaa
