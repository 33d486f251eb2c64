import Derived.Test.YteeinamngmmlbaaSf
set_option linter.unusedVariables false
namespace Go.Proofs.Yteeinamngmmlbaa
open Go.Eng
variable {h h0 h' : H} {now seq now' seq' : Int} {a b a' b' : Option Addr} {n c m d n' c' m' d' p : Nat} {s s' s'' : S} {K : Value → H → Prop} {id k on since kind q : Int} {i j : Nat} {t x : T} {l : L} {xs : List T} {zs : List L}
def lockF (s : S) (i : Nat) (x : T) (kind id q : Int) : S × Int × Int :=
  if q < 0 ∨ q ≥ 16 then (s, 1, 0) else if x.state ≠ 1 then (s, 21, 0) else if kind = 4 then takeF s i x q else
  match getL s.lks q with
  | none => (s, 2, 0)
  | some l => if l.owner ≠ id then (s, 2, 0) else (handF s q, 0, 0)
theorem lock_step (r : Ss h now seq a n c b m d s) (v : Wf s) (hx : s.ths[i]? = some x)
    (z : ∀ h' now' seq' a' n' c' b' m' d', OutS h a b (lockF s i x kind id q).1 h' now' seq' a' n' c' b' m' d' → K (res now' seq' a' n' c' b' m' d' (lockF s i x kind id q).2.1 (lockF s i x kind id q).2.2) h') :
    callD Try.prog 35 ⟨[val now seq a n c b m d, .int .i64 i, .agg ⟨[.int .i64 kind, .int .i64 id, .int .i64 q]⟩]⟩ h K := by
  have hl := r.l.le
  have l16 := v.l.len
  have fin (w : S × Int × Int) (e : lockF s i x kind id q = w) (h' now' seq' a' n' c' b' m' d') (o : OutS h a b w.1 h' now' seq' a' n' c' b' m' d') : K (res now' seq' a' n' c' b' m' d' w.2.1 w.2.2) h' := by subst e; exact z _ _ _ _ _ _ _ _ _ o
  refine spec_l11Locking_M_call ?_
  rw [spec_l11Locking_M]
  refine ifB_dec (fun f => fin (s, 1, 0) (by rw [lockF, if_pos (.inl f)]) _ _ _ _ _ _ _ _ _ (.refl r)) fun f0 => ?_
  refine ifB_dec (fun f => fin (s, 1, 0) (by rw [lockF, if_pos (.inr f)]) _ _ _ _ _ _ _ _ _ (.refl r)) fun f1 => ?_
  refine r.t.gI hx (ifB_neI (fun f => fin (s, 21, 0) (by rw [lockF, if_neg (by omega), if_pos f]) _ _ _ _ _ _ _ _ _ (.refl r)) fun f2 => ?_)
  refine ifB_eqI (fun f => ?_) fun f => ?_
  · have e0 : lockF s i x kind id q = takeF s i x q := by rw [lockF, if_neg (by omega), if_neg (by omega), if_pos f]
    exact take_spec r v hx rfl fun h1 now1 seq1 a1 n1 c1 b1 m1 d1 o1 => o_el_TAI2L2EAI2EE (fin _ e0 _ _ _ _ _ _ _ _ _ o1)
  · refine lock_spec r.l (asI_of ?_)
    rcases atL_cases s.lks q with g | ⟨j, l, u⟩
    · rw [posL_none g]
      exact ifD_t (by omega) (fin (s, 2, 0) (by rw [lockF, if_neg (by omega), if_neg (by omega), if_neg f, getL_none.mpr g]) _ _ _ _ _ _ _ _ _ (.refl r))
    · rw [u.pos]
      have e0 : lockF s i x kind id q = if l.owner ≠ id then (s, 2, 0) else (handF s q, 0, 0) := by rw [lockF, if_neg (by omega), if_neg (by omega), if_neg f, u.get]
      refine ifD_f (by omega) (r.l.gI u.1 (ifB_neI (fun g => fin _ (by rw [e0, if_pos g]) _ _ _ _ _ _ _ _ _ (.refl r)) fun g => ?_))
      rw [if_neg (by omega)] at e0
      exact hand_spec r v.nn u (by omega) fun h1 now1 seq1 a1 n1 c1 b1 m1 d1 o1 => o_el_AI2L2E (fin _ e0 _ _ _ _ _ _ _ _ _ o1)
def stepAt (s : S) (i : Nat) (x : T) (kind id q : Int) : S × Int × Int :=
  if kind = 2 then (exitF s i x, 0, 0)
  else if kind = 4 ∨ kind = 5 then lockF s i x kind id q
  else if kind = 6 then (if q < 1 ∨ q > 1000 then (s, 1, 0) else if x.state ≠ 1 then (s, 21, 0) else ({ s with ths := s.ths.set i { x with state := 3, till := IntKind.i64.wrap (s.now + q) } }, 0, 0))
  else if kind = 7 then (if x.state ≠ 3 then (s, 21, 0) else (standF s i x s.now, 0, 0))
  else if q < 0 ∨ q > 7 then (s, 1, 0) else ({ s with ths := s.ths.set i { x with base := q } }, 0, 0)
def stepS (s : S) (kind id q : Int) : S × Int × Int :=
  if kind = 1 then spawnF s q else if kind = 3 then tickF s else if kind < 1 ∨ kind > 8 then (s, 1, 0) else
  match getT s.ths id with
  | none => (s, 3, 0)
  | some x => stepAt s (posT s.ths id).toNat x kind id q
theorem step_spec (r : Ss h now seq a n c b m d s) (v : Wf s)
    (z : ∀ h' now' seq' a' n' c' b' m' d', OutS h a b (stepS s kind id q).1 h' now' seq' a' n' c' b' m' d' → K (res now' seq' a' n' c' b' m' d' (stepS s kind id q).2.1 (stepS s kind id q).2.2) h') :
    callD Try.prog 16 ⟨[val now seq a n c b m d, .agg ⟨[.int .i64 kind, .int .i64 id, .int .i64 q]⟩]⟩ h K := by
  have fin (w : S × Int × Int) (e : stepS s kind id q = w) (h' now' seq' a' n' c' b' m' d') (o : OutS h a b w.1 h' now' seq' a' n' c' b' m' d') : K (res now' seq' a' n' c' b' m' d' w.2.1 w.2.2) h' := by subst e; exact z _ _ _ _ _ _ _ _ _ o
  have en := r.en
  subst en
  refine spec_l11Step_M_call ?_
  rw [spec_l11Step_M]
  refine ifB_eqI (fun f => spawn_spec r v.toWg fun h1 now1 seq1 a1 n1 c1 b1 m1 d1 o1 => o_el_TAI2L2EAI2EE (fin _ (by rw [stepS, if_pos f]) _ _ _ _ _ _ _ _ _ o1)) fun f1 => ?_
  refine ifB_eqI (fun f => tick_spec r v fun h1 now1 seq1 a1 n1 c1 b1 m1 d1 o1 => o_el_TAI2L2EAI2EE (fin _ (by rw [stepS, if_neg f1, if_pos f]) _ _ _ _ _ _ _ _ _ o1)) fun f3 => ?_
  refine ifB_dec (fun f => fin (s, 1, 0) (by rw [stepS, if_neg f1, if_neg f3, if_pos (.inl f)]) _ _ _ _ _ _ _ _ _ (.refl r)) fun g0 => ?_
  refine ifB_dec (fun f => fin (s, 1, 0) (by rw [stepS, if_neg f1, if_neg f3, if_pos (.inr f)]) _ _ _ _ _ _ _ _ _ (.refl r)) fun g1 => ?_
  refine thread_spec r.t (asI_of ?_)
  rcases atT_cases s.ths id with f | ⟨i, x, u⟩
  · rw [posT_none f]
    exact ifD_t (by omega) (fin (s, 3, 0) (by rw [stepS, if_neg f1, if_neg f3, if_neg (by omega), getT_none.mpr f]) _ _ _ _ _ _ _ _ _ (.refl r))
  rw [u.pos]
  have hx := u.1
  have e0 : stepS s kind id q = stepAt s i x kind id q := by rw [stepS, if_neg f1, if_neg f3, if_neg (by omega), u.get, u.pos]; rfl
  refine ifD_f (by omega) (ifB_eqI (fun f => ?_) fun f2 => ?_)
  · have e1 : stepS s kind id q = (exitF s i x, 0, 0) := by rw [e0, stepAt, if_pos f]
    refine exit_spec r v hx rfl ?_
    revert e1
    generalize exitF s i x = w
    intro e1 h1 now1 seq1 a1 n1 c1 b1 m1 d1 o1
    exact o_el_AI2L2E (fin _ e1 _ _ _ _ _ _ _ _ _ o1)
  have nx (w : S × Int × Int) (e : stepAt s i x kind id q = w) (h' now' seq' a' n' c' b' m' d') (o : OutS h a b w.1 h' now' seq' a' n' c' b' m' d') : K (res now' seq' a' n' c' b' m' d' w.2.1 w.2.2) h' := fin w (e0.trans e) _ _ _ _ _ _ _ _ _ o
  have j0 (t : Bool) (et : t = true ↔ kind = 4 ∨ kind = 5) (kr : Int → Int → Option Addr → Nat → Nat → Option Addr → Nat → Nat → Int → Int → H → Prop) (ek : kr = fun now seq a n c b m d x y h => K (res now seq a n c b m d x y) h) :
      spec_l11Step_M_j0 (fun n1 n2 n3 a1 l1 c1 a2 l2 c2 n4 h => spec_l11Step_M_j1 kr n1 n2 n3 a1 l1 c1 a2 l2 c2 n4 h) kr i kind t s.now seq a n c b m d kind id q h := by
    subst ek
    rw [spec_l11Step_M_j0]
    refine ifB_b (fun f => ?_) fun f => ?_
    · have e1 : stepAt s i x kind id q = lockF s i x kind id q := by rw [stepAt, if_neg f2, if_pos (et.mp f)]
      exact lock_step r v hx fun h1 now1 seq1 a1 n1 c1 b1 m1 d1 o1 => o_el_TAI2L2EAI2EE (nx _ e1 _ _ _ _ _ _ _ _ _ o1)
    have f4 : ¬ (kind = 4 ∨ kind = 5) := fun t => by rw [et.mpr t] at f; cases f
    refine ifB_eqI (fun f6 => ?_) fun f6 => ?_
    · have e1 : stepAt s i x kind id q = if q < 1 ∨ q > 1000 then (s, 1, 0) else if x.state ≠ 1 then (s, 21, 0) else ({ s with ths := s.ths.set i { x with state := 3, till := IntKind.i64.wrap (s.now + q) } }, 0, 0) := by rw [stepAt, if_neg f2, if_neg f4, if_pos f6]
      refine ifB_dec (fun f => nx _ (by rw [e1, if_pos (.inl f)]) _ _ _ _ _ _ _ _ _ (.refl r)) fun q0 => ?_
      refine ifB_dec (fun f => nx _ (by rw [e1, if_pos (.inr f)]) _ _ _ _ _ _ _ _ _ (.refl r)) fun q1 => ?_
      rw [if_neg (by omega)] at e1
      refine r.t.gI hx (ifB_neI (fun f => nx _ (by rw [e1, if_pos f]) _ _ _ _ _ _ _ _ _ (.refl r)) fun q2 => ?_)
      rw [if_neg (by omega)] at e1
      refine r.t.gSt hx { x with state := 3 } encT_len (fun h1 k1 _ s1 => ?_) rfl (by decide) rfl
      refine s1.gSt (getSet hx) { x with state := 3, till := IntKind.i64.wrap (s.now + q) } encT_len (fun h2 k2 _ s2 => ?_) rfl (by decide) rfl
      rw [List.set_set] at s2
      exact nx _ e1 _ _ _ _ _ _ _ _ _ (OutS.setT r (k1.tr k2) s2)
    refine ifB_eqI (fun f7 => ?_) fun f7 => ?_
    · have e1 : stepAt s i x kind id q = if x.state ≠ 3 then (s, 21, 0) else (standF s i x s.now, 0, 0) := by rw [stepAt, if_neg f2, if_neg f4, if_neg f6, if_pos f7]
      refine r.t.gI hx (ifB_neI (fun f => nx _ (by rw [e1, if_pos f]) _ _ _ _ _ _ _ _ _ (.refl r)) fun q2 => ?_)
      rw [if_neg (by omega)] at e1
      exact stand_spec r hx rfl fun h1 o1 => o_el_AI2L2E (nx _ e1 _ _ _ _ _ _ _ _ _ o1)
    · have e1 : stepAt s i x kind id q = if q < 0 ∨ q > 7 then (s, 1, 0) else ({ s with ths := s.ths.set i { x with base := q } }, 0, 0) := by rw [stepAt, if_neg f2, if_neg f4, if_neg f6, if_neg f7]
      rw [spec_l11Step_M_j1]
      refine ifB_dec (fun f => nx _ (by rw [e1, if_pos (.inl f)]) _ _ _ _ _ _ _ _ _ (.refl r)) fun q0 => ?_
      refine ifB_dec (fun f => nx _ (by rw [e1, if_pos (.inr f)]) _ _ _ _ _ _ _ _ _ (.refl r)) fun q1 => ?_
      rw [if_neg (by omega)] at e1
      refine r.t.gSt hx { x with base := q } encT_len (fun h1 k1 _ s1 => ?_) rfl (by decide) rfl
      exact nx _ e1 _ _ _ _ _ _ _ _ _ (OutS.setT r k1 s1)
  exact ifB_eqI (fun f => j0 _ (by simp [f]) _ rfl) fun f => j0 _ (by simp; omega) _ rfl
/-! a copy -/
theorem copyT {a0 : Option Addr} {K : Option Addr → Nat → Nat → H → Prop} (hs : SlT h a n c xs) (hn : n ≤ 1048576) (e0 : SlT h a0 0 0 []) (f0 : ∀ x ∈ own a0, h0.size ≤ x) (k0 : Keep [] h0 h)
    (z : ∀ h' a' c', Keep [] h0 h' → (∀ x ∈ own a', h0.size ≤ x) → (∀ x ∈ own a', x ∈ own a0 ∨ h.size ≤ x) → Keep (own a0) h h' → SlT h' a' n c' xs → K a' n c' h') : appendD Try.prog 60 h a0 0 0 (.slice a n c) K := by
  refine append_inf inf60 (by decide) encT_len encT_one e0 hs (by omega) (by omega) fun a2 c2 h2 k2 w2 s2 => ?_
  have z0 := k0.le
  have key : ∀ q, q = n → SlT h2 a2 q c2 xs → K a2 q c2 h2 := fun q eq s => by
    subst eq
    refine z h2 a2 c2 (k0.trans k2 ?_) (fun x hx => ?_) w2 k2 s
    · intro x l t; simp only [List.not_mem_nil, false_or] at t; have := f0 x t; omega
    · rcases w2 x hx with t | t
      · exact f0 x t
      · omega
  exact key _ (by omega) (by simpa using s2)
theorem copyL {a0 : Option Addr} {K : Option Addr → Nat → Nat → H → Prop} (hs : SlL h a n c zs) (hn : n ≤ 1048576) (e0 : SlL h a0 0 0 []) (f0 : ∀ x ∈ own a0, h0.size ≤ x) (k0 : Keep [] h0 h)
    (z : ∀ h' a' c', Keep [] h0 h' → (∀ x ∈ own a', h0.size ≤ x) → (∀ x ∈ own a', x ∈ own a0 ∨ h.size ≤ x) → Keep (own a0) h h' → SlL h' a' n c' zs → K a' n c' h') : appendD Try.prog 57 h a0 0 0 (.slice a n c) K := by
  refine append_inf inf57 (by decide) encL_len encL_one e0 hs (by omega) (by omega) fun a2 c2 h2 k2 w2 s2 => ?_
  have z0 := k0.le
  have key : ∀ q, q = n → SlL h2 a2 q c2 zs → K a2 q c2 h2 := fun q eq s => by
    subst eq
    refine z h2 a2 c2 (k0.trans k2 ?_) (fun x hx => ?_) w2 k2 s
    · intro x l t; simp only [List.not_mem_nil, false_or] at t; have := f0 x t; omega
    · rcases w2 x hx with t | t
      · exact f0 x t
      · omega
  exact key _ (by omega) (by simpa using s2)
/-- what is new -/
structure NewO (h : H) (s : S) (h' : H) (now' seq' : Int) (a' : Option Addr) (n' c' : Nat) (b' : Option Addr) (m' d' : Nat) : Prop where
  kp : Keep [] h h'
  fa : ∀ x ∈ own a', h.size ≤ x
  fb : ∀ x ∈ own b', h.size ≤ x
  r : Ss h' now' seq' a' n' c' b' m' d' s
theorem NewO.out {h1 : H} (o : NewO h s h1 now seq a n c b m d) (p : OutS h1 a b s' h' now' seq' a' n' c' b' m' d') : NewO h s' h' now' seq' a' n' c' b' m' d' := by
  have z := o.kp.le
  refine ⟨o.kp.trans p.kp ?_, fun x hx => ?_, fun x hx => ?_, p.r⟩
  · intro x l t
    simp only [List.not_mem_nil, false_or, List.mem_append] at t
    rcases t with t | t
    · have := o.fa x t; omega
    · have := o.fb x t; omega
  · rcases p.wa x hx with t | t
    · exact o.fa x t
    · omega
  · rcases p.wb x hx with t | t
    · exact o.fb x t
    · omega
theorem copy_spec (r : Ss h now seq a n c b m d s) (hn : n ≤ 1048576) (hm : m ≤ 1048576)
    (z : ∀ h' a' n' c' b' m' d', NewO h s h' now seq a' n' c' b' m' d' → K (val now seq a' n' c' b' m' d') h') :
    callD Try.prog 17 ⟨[val now seq a n c b m d]⟩ h K := by
  refine spec_l11Copy_M_call ?_
  rw [spec_l11Copy_M]
  have fin {h' : H} {a' b' : Option Addr} {c' d' : Nat} (k : Keep [] h h') (fa : ∀ x ∈ own a', h.size ≤ x) (fb : ∀ x ∈ own b', h.size ≤ x) (t : SlT h' a' n c' s.ths) (l : SlL h' b' m d' s.lks) (ap : ∀ x ∈ own a', x ∉ own b') : K (val now seq a' n c' b' m d') h' :=
    z _ _ _ _ _ _ _ ⟨k, fa, fb, r.en, r.es, t, l, ap⟩
  refine ⟨newE_of (enc := encT) (s := 8) fun q1 h1 hq1 k1 s1 => ⟨?_, ?_⟩, newE_of (enc := encL) (s := 2) fun q1 h1 hq1 k1 s1 => ?_⟩
  · refine copyT (h0 := h) (r.t.keep0 k1) hn s1 (by simp [own]; omega) k1 fun h2 a2 c2 k2 f2 w2 u2 s2 => ?_
    have z2 := k2.le
    refine newE_of (enc := encL) (s := 2) fun q3 h3 hq3 k3 s3 => ?_
    refine copyL (h0 := h) (r.l.keep0 (k2.tr k3)) hm s3 (by simp [own]; omega) (k2.tr k3) fun h4 b4 d4 k4 f4 w4 u4 s4 => ?_
    have no : ∀ x ∈ own a2, x ∉ own (some ⟨q3, 0, none⟩ : Option Addr) := fun x hx t => by simp [own] at t; have := s2.lt hx; omega
    refine fin k4 f2 f4 ((s2.keep0 k3).keep u4 no) s4 fun x hx t => ?_
    rcases w4 x t with t | t
    · exact no x hx t
    · have := (s2.keep0 k3).lt hx; omega
  · refine newE_of (enc := encL) (s := 2) fun q2 h2 hq2 k2 s2 => ?_
    have e2 := k2.le
    have e1 := k1.le
    have l1 := s1.lt (b := q1) (by simp [own])
    refine copyT (h0 := h) (r.t.keep0 (k1.tr k2)) hn (s1.keep0 k2) (by simp [own]; omega) (k1.tr k2) fun h3 a3 c3 k3 f3 w3 u3 s3 => ?_
    have s2' : SlL h3 (some ⟨q2, 0, none⟩) 0 0 [] := s2.keep u3 (by simp [own]; omega)
    refine copyL (h0 := h) (r.l.keep0 k3) hm s2' (by simp [own]; omega) k3 fun h4 b4 d4 k4 f4 w4 u4 s4 => ?_
    have l2 := s2.lt (b := q2) (by simp [own])
    have no : ∀ x ∈ own a3, x ∉ own (some ⟨q2, 0, none⟩ : Option Addr) := fun x hx t => by
      simp [own] at t; subst t
      rcases w3 x hx with t | t
      · simp [own] at t; omega
      · omega
    refine fin k4 f3 f4 (s3.keep u4 no) s4 fun x hx t => ?_
    rcases w4 x t with t | t
    · exact no x hx t
    · have := s3.lt hx; omega
  · refine newE_of (enc := encT) (s := 8) fun q2 h2 hq2 k2 s2 => ?_
    have e2 := k2.le
    have e1 := k1.le
    have l1 := s1.lt (b := q1) (by simp [own])
    refine copyT (h0 := h) (r.t.keep0 (k1.tr k2)) hn s2 (by simp [own]; omega) (k1.tr k2) fun h3 a3 c3 k3 f3 w3 u3 s3 => ?_
    have s1' : SlL h3 (some ⟨q1, 0, none⟩) 0 0 [] := (s1.keep0 k2).keep u3 (by simp [own]; omega)
    refine copyL (h0 := h) (r.l.keep0 k3) hm s1' (by simp [own]; omega) k3 fun h4 b4 d4 k4 f4 w4 u4 s4 => ?_
    have no : ∀ x ∈ own a3, x ∉ own (some ⟨q1, 0, none⟩ : Option Addr) := fun x hx t => by
      simp [own] at t; subst t
      rcases w3 x hx with t | t
      · simp [own] at t; omega
      · omega
    refine fin k4 f3 f4 (s3.keep u4 no) s4 fun x hx t => ?_
    rcases w4 x t with t | t
    · exact no x hx t
    · have := s3.lt hx; omega
end Go.Proofs.Yteeinamngmmlbaa
