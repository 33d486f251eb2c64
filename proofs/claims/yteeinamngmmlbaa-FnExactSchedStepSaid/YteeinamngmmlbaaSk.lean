import Derived.Test.YteeinamngmmlbaaSj
set_option linter.unusedVariables false
namespace Go.Eng
theorem callVD_of {P : Program} {g : FuncId} {first captured : Array Value} {vs : List Value} {m : H} {K : Value → H → Prop} (hb : hasBody P g = true)
    (c : callD P g ⟨first.toList ++ vs ++ captured.toList⟩ m fun v m => elim (retSh P g) v fun v => K v m) : callVD P (.func (.func g) first captured) vs m K := by
  intro q r
  unfold callVK
  dsimp only
  rw [hb, ifB_t]
  exact callK_mono (c q r) fun v g' ⟨m', a, k⟩ => elim_mono (fun v k => ⟨m', a, k⟩) k
theorem not_of {b : Bool} {K : Value → Prop} (g : K (.bool !b)) : unK .not (.bool b) K := g
end Go.Eng
namespace Go.Proofs.Yteeinamngmmlbaa
open Go.Eng
variable {h h0 h' : H} {a b a' b' : Option Addr} {n c m d n' c' m' d' p o : Nat} {s s' : S} {K : Value → H → Prop} {id k on q lock : Int} {i j : Nat} {t x w : T} {l : L} {xs : List T} {zs : List L}
/-! the first of some -/
structure Bp (s : S) (a : Option Addr) (best : Option Addr) (bp : Int) (acc : Option (T × Nat × Int)) : Prop where
  no : acc = none → best = none
  so : ∀ x j q, acc = some (x, j, q) → ∃ b o, a = some ⟨b, o, none⟩ ∧ best = some ⟨b, o + j * 8, none⟩ ∧ bp = q ∧ s.ths[j]? = some x
theorem bpN {q : Int} : Bp s a none q none := ⟨fun _ => rfl, fun _ _ _ t => nomatch t⟩
theorem bpS {b o j : Nat} {q : Int} (hx : s.ths[j]? = some x) : Bp s (some ⟨b, o, none⟩) (some ⟨b, o + j * 8, none⟩) q (some (x, j, q)) :=
  ⟨(fun t => nomatch t), fun x' j' q' t => by
    injection t with t; injection t with e1 t; injection t with e2 e3; subst e1 e2 e3; exact ⟨b, o, rfl, rfl, rfl, hx⟩⟩
theorem first_loopI {kx : Option Addr → H → Prop} {okv : Value} {ok : T → Bool} (v : Wf s) (r : Mp h p a n c b m d s)
    (rec : ∀ (i b o : Nat) (t : T), a = some ⟨b, o, none⟩ → s.ths[i]? = some t → ∀ K : Value → H → Prop, K (.bool (ok t)) h → callVD Try.prog okv [.pointer (some ⟨b, o + i * 8, none⟩)] h K)
    (kx' : ∀ best bp, Bp s a best bp (firstS s ok) → kx best h) :
    ∀ (q i : Nat) best bp acc, i + q = n → Bp s a best bp acc → first1 s ok i acc (s.ths.drop i) = firstS s ok → impl_Sched_first_M_l0 kx (q + 1) (some ⟨p, 0, none⟩) okv best bp n i h := by
  have hs := r.t
  have hl := hs.le
  intro q
  induction q with
  | zero =>
    intro i best bp acc e A ef
    rw [impl_Sched_first_M_l0]
    rw [List.drop_of_length_le (by omega), first1] at ef
    exact ifD_f (by omega) (kx' best bp (ef ▸ A))
  | succ q ih =>
    intro i best bp acc e A ef
    obtain ⟨x, hx⟩ : ∃ x, s.ths[i]? = some x := ⟨_, List.getElem?_eq_getElem (by omega)⟩
    have ed : s.ths.drop i = x :: s.ths.drop (i + 1) := by
      rw [List.drop_eq_getElem_cons (by omega)]; congr 1
      exact (List.getElem?_eq_some_iff.mp hx).2
    rw [ed, first1] at ef
    obtain ⟨b0, o0, ea, _⟩ := hs.ex (get_lt hx)
    subst ea
    have nx (best : Option Addr) (bp : Int) (A : Bp s (some ⟨b0, o0, none⟩) best bp (step1 s ok acc x i)) : impl_Sched_first_M_l0 kx (q + 1) (some ⟨p, 0, none⟩) okv best bp n (IntKind.i64.wrap ((i : Int) + 1)) h := by
      rw [wrap_suc (by omega)]
      exact ih (i + 1) best bp _ (by omega) A ef
    rw [impl_Sched_first_M_l0]
    refine ifD_t (by omega) ?_
    rw [nz_some, ldL_eq (r.hp.cell (0 + 2))]
    refine hs.req hx rfl (nz_of ?_)
    rw [Int.toNat_natCast]
    refine rec i b0 o0 x rfl hx _ (not_of (asB_of (ifB_nb (fun f => nx best bp (by unfold step1; rw [if_neg (by simp [f])]; exact A)) fun f => ?_)))
    refine prioI v r hx (asI_of ?_)
    have es : step1 s ok acc x i = over s x i acc := by unfold step1; rw [if_pos f]
    cases acc with
    | none =>
      have := A.no rfl
      subst this
      exact nx _ _ (by rw [es]; exact bpS hx)
    | some w =>
      obtain ⟨y, j, pr⟩ := w
      obtain ⟨b1, o1, e1, e2, e3, hy⟩ := A.so y j pr rfl
      injection e1 with e1; injection e1 with e1 e4 _
      subst e1 e4 e2 e3
      rw [over] at es
      refine ifP_some (ifB_dec (fun f1 => nx _ _ (by rw [es, if_pos f1]; exact bpS hx)) fun f1 => ?_)
      rw [if_neg f1] at es
      refine ifB_eqI (fun f2 => hs.rw.I hx (nz_of (hs.rw.I hy ?_))) fun f2 => nx _ _ (by rw [es, if_neg (fun t => f2 t.1)]; exact bpS hy)
      exact ifB_dec (fun f3 => nx _ _ (by rw [es, if_pos ⟨f2, f3⟩]; exact bpS hx)) fun f3 => nx _ _ (by rw [es, if_neg (fun t => f3 t.2)]; exact bpS hy)
theorem firstI {okv : Value} {ok : T → Bool} (v : Wf s) (r : Mp h p a n c b m d s)
    (rec : ∀ (i b o : Nat) (t : T), a = some ⟨b, o, none⟩ → s.ths[i]? = some t → ∀ K : Value → H → Prop, K (.bool (ok t)) h → callVD Try.prog okv [.pointer (some ⟨b, o + i * 8, none⟩)] h K)
    (z0 : firstS s ok = none → K (.pointer none) h) (z1 : ∀ x j q b o, firstS s ok = some (x, j, q) → s.ths[j]? = some x → a = some ⟨b, o, none⟩ → K (.pointer (some ⟨b, o + j * 8, none⟩)) h) :
    callD Try.prog 53 ⟨[ptr p, okv]⟩ h K := by
  refine impl_Sched_first_M_call ?_
  rw [impl_Sched_first_M, nz_some, ldL_eq (r.hp.cell (0 + 2))]
  refine ⟨n + 1, first_loopI v r rec (fun best bp A => ?_) n 0 none 0 none (by omega) bpN rfl⟩
  cases ef : firstS s ok with
  | none => rw [A.no ef]; exact z0 ef
  | some w =>
    obtain ⟨y, j, pr⟩ := w
    obtain ⟨b1, o1, e1, e2, e3, hy⟩ := A.so y j pr ef
    rw [e2]; exact z1 y j pr b1 o1 ef hy e1
theorem ret54 : retSh Try.prog 54 = .bool := by kernel_rfl
theorem ret55 : retSh Try.prog 55 = .bool := by kernel_rfl
theorem pickI (v : Wf s) (r : Mp h p a n c b m d s) (z0 : firstS s (fun t => t.state == 1) = none → K (.pointer none) h)
    (z1 : ∀ x j q b o, firstS s (fun t => t.state == 1) = some (x, j, q) → s.ths[j]? = some x → a = some ⟨b, o, none⟩ → K (.pointer (some ⟨b, o + j * 8, none⟩)) h) :
    callD Try.prog 44 ⟨[ptr p]⟩ h K := by
  refine impl_Sched_pick_M_call ?_
  rw [impl_Sched_pick_M]
  refine firstI (ok := fun t => t.state == 1) v r (fun i b0 o0 t ea ht K z => ?_) (fun e => asP_of (z0 e)) fun x j q b o e hx ea => asP_of (z1 x j q b o e hx ea)
  subst ea
  refine callVD_of (by kernel_rfl) ?_
  rw [ret54]
  refine impl_Sched_pick_c1_M_call ?_
  rw [impl_Sched_pick_c1_M]
  exact nz_of (r.t.rw.I ht z)
/-! stand -/
structure MO (h : H) (p : Nat) (a b : Option Addr) (s : S) (h' : H) (a' : Option Addr) (n' c' : Nat) (b' : Option Addr) (m' d' : Nat) : Prop where
  kp : Keep (p :: (own a ++ own b)) h h'
  wa : ∀ x ∈ own a', x ∈ own a ∨ h.size ≤ x
  wb : ∀ x ∈ own b', x ∈ own b ∨ h.size ≤ x
  r : Mp h' p a' n' c' b' m' d' s
theorem MO.refl (r : Mp h p a n c b m d s) : MO h p a b s h a n c b m d := ⟨Keep.refl, fun _ t => .inl t, fun _ t => .inl t, r⟩
theorem MO.trans {h1 h2 : H} {a1 b1 a2 b2 : Option Addr} {n1 c1 m1 d1 n2 c2 m2 d2 : Nat} (x : MO h p a b s h1 a1 n1 c1 b1 m1 d1) (y : MO h1 p a1 b1 s' h2 a2 n2 c2 b2 m2 d2) : MO h p a b s' h2 a2 n2 c2 b2 m2 d2 := by
  have z := x.kp.le
  refine ⟨x.kp.trans y.kp ?_, fun q hq => ?_, fun q hq => ?_, y.r⟩
  · intro q l t
    rcases t with t | t
    · exact t
    · simp only [List.mem_cons, List.mem_append] at t ⊢
      rcases t with t | t | t
      · exact .inl t
      · rcases x.wa q t with u | u
        · exact .inr (.inl u)
        · omega
      · rcases x.wb q t with u | u
        · exact .inr (.inr u)
        · omega
  · rcases y.wa q hq with t | t
    · exact x.wa q t
    · exact .inr (by omega)
  · rcases y.wb q hq with t | t
    · exact x.wb q t
    · exact .inr (by omega)
theorem MO.setT {ys : List T} (r : Mp h p a n c b m d s) (k : Keep (own a) h h') (t : SlT h' a n c ys) : MO h p a b { s with ths := ys } h' a n c b m d :=
  ⟨k.mono (by intro _ _ t; simp [t]), fun _ t => .inl t, fun _ t => .inl t, k.blk r.hp r.pa, t, r.l.keep k fun x hx t => r.ap x t hx, r.ap, r.pa, r.pb⟩
theorem MO.setL {ys : List L} (r : Mp h p a n c b m d s) (k : Keep (own b) h h') (t : SlL h' b m d ys) : MO h p a b { s with lks := ys } h' a n c b m d :=
  ⟨k.mono (by intro _ _ t; simp [t]), fun _ t => .inl t, fun _ t => .inl t, k.blk r.hp r.pb, r.t.keep k fun x hx t => r.ap x hx t, t, r.ap, r.pa, r.pb⟩
theorem MO.hd {now seq : Int} (r : Mp h p a n c b m d s) (k : Keep [p] h h') (x : blk h' p [.int .i64 now, .int .i64 seq, .slice a n c, .slice b m d]) : MO h p a b { s with now := now, seq := seq } h' a n c b m d :=
  ⟨k.mono (by intro _ _ t; simp at t; simp [t]), fun _ t => .inl t, fun _ t => .inl t, x, r.t.keep k fun x hx t => by simp at t; subst t; exact r.pa hx, r.l.keep k fun x hx t => by simp at t; subst t; exact r.pb hx, r.ap, r.pa, r.pb⟩
theorem standI {b0 o0 : Nat} (r : Mp h p (some ⟨b0, o0, none⟩) n c b m d s) (hx : s.ths[i]? = some x)
    (z : ∀ h', MO h p (some ⟨b0, o0, none⟩) b (standF s i x s.now) h' (some ⟨b0, o0, none⟩) n c b m d → K (.tuple ⟨[]⟩) h') :
    callD Try.prog 43 ⟨[ptr p, .pointer (some ⟨b0, o0 + i * 8, none⟩)]⟩ h K := by
  refine impl_Sched_stand_M_call ?_
  generalize eK : (fun h => K (.tuple ⟨[]⟩) h) = kn
  rw [impl_Sched_stand_M, nz_some, ldI_eq (r.hp.cell (0 + 1))]
  refine nz_of (st_of r.hp (by simp) fun h1 e1 x1 k1 => ?_)
  have o1 := MO.hd (now := s.now) (seq := IntKind.i64.wrap (s.seq + 1)) r k1 x1
  rw [nz_some, ldI_eq (x1.cell (0 + 1))]
  refine nz_of ?_
  rw [ldI_eq (x1.cell 0)]
  have t1 := o1.r.t
  refine nz_of (st_rw t1.rw (y' := { x with state := 1 }) encT_len hx (by decide) rfl fun h2 e2 r2 k2 => nz_of ?_)
  refine st_rw r2 (y := { x with state := 1 }) (y' := { x with state := 1, line := IntKind.i64.wrap (s.seq + 1) }) encT_len (getSet hx) (by decide) rfl fun h3 e3 r3 k3 => nz_of ?_
  refine st_rw r3 (y := { x with state := 1, line := IntKind.i64.wrap (s.seq + 1) }) (y' := { x with state := 1, line := IntKind.i64.wrap (s.seq + 1), left := 4 }) encT_len (by rw [List.set_set]; exact getSet hx) (by decide) rfl fun h4 e4 r4 k4 => nz_of ?_
  refine st_rw r4 (y := { x with state := 1, line := IntKind.i64.wrap (s.seq + 1), left := 4 }) (y' := { x with state := 1, line := IntKind.i64.wrap (s.seq + 1), left := 4, since := s.now }) encT_len (by rw [List.set_set, List.set_set]; exact getSet hx) (by decide) rfl fun h5 e5 r5 k5 => nz_of ?_
  refine st_rw r5 (y := { x with state := 1, line := IntKind.i64.wrap (s.seq + 1), left := 4, since := s.now }) (y' := { x with state := 1, line := IntKind.i64.wrap (s.seq + 1), left := 4, since := s.now, wait := -1 }) encT_len (by rw [List.set_set, List.set_set, List.set_set]; exact getSet hx) (by decide) rfl fun h6 e6 r6 k6 => nz_of ?_
  refine st_rw r6 (y := { x with state := 1, line := IntKind.i64.wrap (s.seq + 1), left := 4, since := s.now, wait := -1 }) (y' := { x with state := 1, line := IntKind.i64.wrap (s.seq + 1), left := 4, since := s.now, wait := -1, till := 0 }) encT_len (by rw [List.set_set, List.set_set, List.set_set, List.set_set]; exact getSet hx) (by decide) rfl fun h7 e7 r7 k7 => ?_
  simp only [List.set_set] at r7
  have k17 : Keep (own (some ⟨b0, o0, none⟩)) h1 h7 := ((((k2.tr k3).tr k4).tr k5).tr k6).tr k7
  have s7 : SlT h7 (some ⟨b0, o0, none⟩) n c (s.ths.set i (standT s x s.now)) := ⟨by simpa using t1.1, r7⟩
  have o2 := MO.setT o1.r k17 s7
  rw [← eK]
  exact z h7 (o1.trans o2)
end Go.Proofs.Yteeinamngmmlbaa
