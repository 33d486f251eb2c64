import Derived.Test.YteeinamngmmlbaaSr
set_option linter.unusedVariables false
/-! The law's own helpers. -/
namespace Go.Proofs.Yteeinamngmmlbaa
open Go.Eng
section
variable {h h0 h' : H} {b o c n i j p q r : Nat} {a a' : Option Addr} {n' c' : Nat} {xs ys : List T} {x y : T} {K : Value → H → Prop} {s k z : Int}
theorem szThread_spec {left : Int} (l0 : 0 ≤ left) (l1 : left ≤ 1048576) (hn : n ≤ 9223372036854775807) (z : K (.int .i64 (if (n : Int) ≤ left then left - n else -1)) h) :
    callD Try.prog 13 ⟨[.slice a n c, .int .i64 left]⟩ h K := by
  refine laws_szThreadS_M_call ?_
  rw [laws_szThreadS_M, wrap_in (by omega) (by omega)]
  refine ifB_dec (fun f => ?_) fun f => ?_
  · rw [if_neg (by omega)] at z; exact z
  · rw [if_pos (by omega)] at z; exact z
theorem to1Thread_spec (z : K (.agg ⟨encT x⟩) h) : callD Try.prog 37 ⟨[.agg ⟨encT x⟩]⟩ h K := by
  refine laws_toThread_M_call ?_
  rw [laws_toThread_M]; exact z
def zeroT : T := ⟨0, 0, 0, 0, 0, 0, 0, 0⟩
theorem toThread_loop {kx : Option Addr → Nat → Nat → H → Prop} (hs : SlR h0 a n 8 encT xs) (hb : n ≤ 1048576)
    (k : ∀ h, NewS 8 encT h0 xs h a' n n → kx a' n n h) :
    ∀ (m i : Nat) h, i + m = n → Keep [] h0 h → (∀ b ∈ own a', h0.size ≤ b) → SlT h a' n n (mixI (fun j => (xs[j]?).getD zeroT) (List.replicate n zeroT) i) →
    laws_toThreadS_M_l0 kx (m + 1) a n a' n n i h := by
  have hl := hs.le
  intro m
  induction m with
  | zero =>
    intro i h e kp w s'
    rw [laws_toThreadS_M_l0]
    refine ifD_f (by omega) (k h ⟨kp, w, ?_⟩)
    have : i = n := by omega
    subst this
    have e2 : mixI (fun j => (xs[j]?).getD zeroT) (List.replicate i zeroT) i = xs := by
      refine List.ext_getElem? fun j => ?_
      rw [mixI_get]
      by_cases q : j < i
      · rw [if_pos q]
        obtain ⟨v, hv⟩ : ∃ v, xs[j]? = some v := ⟨_, List.getElem?_eq_getElem (by omega)⟩
        rw [hv]; rfl
      · rw [if_neg q, List.getElem?_eq_none (by simp; omega), List.getElem?_eq_none (by omega)]
    rw [e2] at s'; exact s'
  | succ m ih =>
    intro i h e kp w s'
    obtain ⟨x, hx⟩ : ∃ x, xs[i]? = some x := ⟨_, List.getElem?_eq_getElem (by omega)⟩
    rw [laws_toThreadS_M_l0]
    refine ifD_t (by omega) (RdT.gRow (hs.keep0 kp) hx (to1Thread_spec (o_el_AI8E ?_)))
    have il : i < (mixI (fun j => (xs[j]?).getD zeroT) (List.replicate n zeroT) i).length := by rw [mixI_len (by simp; omega)]; simp; omega
    obtain ⟨y, hy⟩ : ∃ y, (mixI (fun j => (xs[j]?).getD zeroT) (List.replicate n zeroT) i)[i]? = some y := ⟨_, List.getElem?_eq_getElem il⟩
    refine s'.req hy rfl (s'.StR il x encT_len (encT_one _) (fun h1 k1 _ s1 => ?_) rfl rfl)
    rw [wrap_suc (by omega)]
    refine ih (i + 1) h1 (by omega) (kp.trans k1 ?_) w ?_
    · intro d dl t
      simp only [List.not_mem_nil, false_or] at t
      have := w d t; omega
    · rw [mixI_succ (by simp; omega)]
      simp only [hx, Option.getD_some]; exact s1
theorem zflatT (n : Nat) : zerosL (.agg ⟨encT zeroT⟩) n = (List.replicate n zeroT).flatMap encT := by
  rw [zerosL]
  induction n with
  | zero => rfl
  | succ n ih => rw [List.replicate_succ, List.flatten_cons, ih, List.replicate_succ, List.flatMap_cons]; rfl
theorem toThread_spec (hs : SlR h a n 8 encT xs) (hn : n ≤ 1048576) (k : ∀ h' a', NewS 8 encT h xs h' a' n n → K (.slice a' n n) h') :
    callD Try.prog 18 ⟨[.slice a n c]⟩ h K := by
  refine laws_toThreadS_M_call ?_
  rw [laws_toThreadS_M, req_eq (by omega)]
  refine newD_of fun b h1 le hb k1 => ?_
  simp only [Int.toNat_natCast] at hb ⊢
  refine ⟨n + 1, toThread_loop hs hn (fun h2 out => k h2 _ out) n 0 h1 (by omega) k1 (by simp [own]; omega) ?_⟩
  rw [mixI_zero]
  have := Sl.lit (h := h1) (b := b) (xs := List.replicate n zeroT) encT_len (by simp; omega) (by rw [← zflatT]; exact hb)
  simpa using this
theorem eq1Thread_spec (z : K (.bool (decide (x = y))) h) : callD Try.prog 46 ⟨[.agg ⟨encT x⟩, .agg ⟨encT y⟩]⟩ h K := by
  refine laws_eqThread_M_call ?_
  rw [laws_eqThread_M]
  have no (f : x ≠ y) : K (.bool false) h := by rw [decide_eq_false f] at z; exact z
  refine ifB_neI (fun f => no fun e => f (by rw [e])) fun f0 => ?_
  refine ifB_neI (fun f => no fun e => f (by rw [e])) fun f1 => ?_
  refine ifB_neI (fun f => no fun e => f (by rw [e])) fun f2 => ?_
  refine ifB_neI (fun f => no fun e => f (by rw [e])) fun f3 => ?_
  refine ifB_neI (fun f => no fun e => f (by rw [e])) fun f4 => ?_
  refine ifB_neI (fun f => no fun e => f (by rw [e])) fun f5 => ?_
  refine ifB_neI (fun f => no fun e => f (by rw [e])) fun f6 => ?_
  refine ifB_neI (fun f => no fun e => f (by rw [e])) fun f7 => ?_
  have : x = y := by
    cases x; cases y
    simp_all
  rw [decide_eq_true this] at z; exact z
theorem eqThread_loop {kx : H → Prop} {kr : Bool → H → Prop} (hs : SlT h a n c xs) (ht : SlT h a' n' c' ys) (en : n = n') (k1 : xs = ys → kx h) (k2 : xs ≠ ys → kr false h) :
    ∀ m i : Nat, i + m = n → (∀ j, j < i → xs[j]? = ys[j]?) → laws_eqThreadS_M_l0 kx kr (m + 1) a n a' n' i h := by
  have hl := hs.le; have hl' := ht.le
  intro m
  induction m with
  | zero =>
    intro i e eq
    rw [laws_eqThreadS_M_l0]
    refine ifD_f (by omega) (k1 (List.ext_getElem? fun j => ?_))
    by_cases q : j < i
    · exact eq j q
    · rw [List.getElem?_eq_none (by omega), List.getElem?_eq_none (by omega)]
  | succ m ih =>
    intro i e eq
    obtain ⟨x, hx⟩ : ∃ x, xs[i]? = some x := ⟨_, List.getElem?_eq_getElem (by omega)⟩
    obtain ⟨y, hy⟩ : ∃ y, ys[i]? = some y := ⟨_, List.getElem?_eq_getElem (by omega)⟩
    rw [laws_eqThreadS_M_l0]
    refine ifD_t (by omega) (SlT.gRow hs hx (SlT.gRow ht hy (eq1Thread_spec (x := x) (y := y) (ifB_nb (fun f => k2 fun t => ?_) fun f => ?_))))
    · rw [t, hy] at hx; injection hx with hx; subst hx; simp at f
    · rw [wrap_suc (by omega)]
      refine ih (i + 1) (by omega) fun j hj => ?_
      by_cases q : j = i
      · subst q; rw [hx, hy, of_decide_eq_true f]
      · exact eq j (by omega)
theorem eqThread_spec (hs : SlT h a n c xs) (ht : SlT h a' n' c' ys) (z : K (.bool (decide (xs = ys))) h) : callD Try.prog 22 ⟨[.slice a n c, .slice a' n' c']⟩ h K := by
  have hl := hs.le; have hl' := ht.le
  refine laws_eqThreadS_M_call ?_
  rw [laws_eqThreadS_M]
  have no (f : xs ≠ ys) : K (.bool false) h := by rw [decide_eq_false f] at z; exact z
  refine ifB_neI (fun f => no fun e => ?_) fun f => ⟨n + 1, eqThread_loop hs ht (by omega) (fun e => ?_) (fun e => no e) n 0 (by omega) (by intros; omega)⟩
  · subst e; omega
  · rw [decide_eq_true e] at z; exact z
def mkT (z : Int) : T := { id := z, base := z + 1, state := z + 2, line := z + 3, left := z + 4, since := z + 5, till := z + 6, wait := z + 7 }
def marksT (n : Nat) (k : Int) : List T := (List.range n).map fun j => mkT (k + 8 * (j : Nat))
theorem markThread_loop {kx : Int → H → Prop} (hl : n = xs.length) (hb : n ≤ 1048576) (k0 : 0 ≤ s) (k1 : s ≤ 33554432)
    (k : ∀ h, Keep (own a) h0 h → SlT h a n c (marksT n s) → kx (s + 8 * n) h) :
    ∀ (m i : Nat) h, i + m = n → Keep (own a) h0 h → SlT h a n c (mixI (fun j => mkT (s + 8 * (j : Nat))) xs i) → laws_markThreadS_M_l0 kx (m + 1) a n (s + 8 * i) i h := by
  intro m
  induction m with
  | zero =>
    intro i h e kp s'
    rw [laws_markThreadS_M_l0]
    have : i = n := by omega
    subst this
    rw [hl, mixI_all] at s'
    refine ifD_f (by omega) (k h kp ?_)
    rw [marksT, hl]; exact s'
  | succ m ih =>
    intro i h e kp s0
    rw [laws_markThreadS_M_l0]
    have il : i < (mixI (fun j => mkT (s + 8 * (j : Nat))) xs i).length := by rw [mixI_len (by omega)]; omega
    obtain ⟨x, hx⟩ : ∃ x, (mixI (fun j => mkT (s + 8 * (j : Nat))) xs i)[i]? = some x := ⟨_, List.getElem?_eq_getElem il⟩
    have hi1 := fun h' => ih (i + 1) h' (by omega)
    rw [show s + 8 * ((i + 1 : Nat) : Int) = s + 8 * (i : Int) + 8 by omega, mixI_succ (by omega)] at hi1
    generalize ek : s + 8 * (i : Int) = k' at *
    have w : ∀ z : Int, 0 ≤ z → z ≤ 100000000 → IntKind.i64.wrap (z + 1) = z + 1 := fun z a b => wrap_in (by omega) (by omega)
    rw [wrap_suc (by omega), w k' (by omega) (by omega)]
    rw [w (k' + 1) (by omega) (by omega)]
    rw [w (k' + 1 + 1) (by omega) (by omega)]
    rw [w (k' + 1 + 1 + 1) (by omega) (by omega)]
    rw [w (k' + 1 + 1 + 1 + 1) (by omega) (by omega)]
    rw [w (k' + 1 + 1 + 1 + 1 + 1) (by omega) (by omega)]
    rw [w (k' + 1 + 1 + 1 + 1 + 1 + 1) (by omega) (by omega)]
    rw [w (k' + 1 + 1 + 1 + 1 + 1 + 1 + 1) (by omega) (by omega)]
    refine ifD_t (by omega) ?_
    refine s0.gSt0 hx { x with id := k' } encT_len (fun h1 q1 _ s1 => ?_) rfl (by decide) rfl
    refine s1.gSt (getSet hx) { x with id := k', base := k' + 1 } encT_len (fun h2 q2 _ s2 => ?_) rfl (by decide) rfl
    rw [List.set_set] at s2
    refine s2.gSt (getSet hx) { x with id := k', base := k' + 1, state := k' + 1 + 1 } encT_len (fun h3 q3 _ s3 => ?_) rfl (by decide) rfl
    rw [List.set_set] at s3
    refine s3.gSt (getSet hx) { x with id := k', base := k' + 1, state := k' + 1 + 1, line := k' + 1 + 1 + 1 } encT_len (fun h4 q4 _ s4 => ?_) rfl (by decide) rfl
    rw [List.set_set] at s4
    refine s4.gSt (getSet hx) { x with id := k', base := k' + 1, state := k' + 1 + 1, line := k' + 1 + 1 + 1, left := k' + 1 + 1 + 1 + 1 } encT_len (fun h5 q5 _ s5 => ?_) rfl (by decide) rfl
    rw [List.set_set] at s5
    refine s5.gSt (getSet hx) { x with id := k', base := k' + 1, state := k' + 1 + 1, line := k' + 1 + 1 + 1, left := k' + 1 + 1 + 1 + 1, since := k' + 1 + 1 + 1 + 1 + 1 } encT_len (fun h6 q6 _ s6 => ?_) rfl (by decide) rfl
    rw [List.set_set] at s6
    refine s6.gSt (getSet hx) { x with id := k', base := k' + 1, state := k' + 1 + 1, line := k' + 1 + 1 + 1, left := k' + 1 + 1 + 1 + 1, since := k' + 1 + 1 + 1 + 1 + 1, till := k' + 1 + 1 + 1 + 1 + 1 + 1 } encT_len (fun h7 q7 _ s7 => ?_) rfl (by decide) rfl
    rw [List.set_set] at s7
    refine s7.gSt (getSet hx) { x with id := k', base := k' + 1, state := k' + 1 + 1, line := k' + 1 + 1 + 1, left := k' + 1 + 1 + 1 + 1, since := k' + 1 + 1 + 1 + 1 + 1, till := k' + 1 + 1 + 1 + 1 + 1 + 1, wait := k' + 1 + 1 + 1 + 1 + 1 + 1 + 1 } encT_len (fun h8 q8 _ s8 => ?_) rfl (by decide) rfl
    rw [List.set_set] at s8
    rw [show k' + 1 + 1 + 1 + 1 + 1 + 1 + 1 + 1 = k' + 8 by omega]
    refine hi1 h8 ((((((((kp.tr q1).tr q2).tr q3).tr q4).tr q5).tr q6).tr q7).tr q8) ?_
    have : mkT k' = { x with id := k', base := k' + 1, state := k' + 1 + 1, line := k' + 1 + 1 + 1, left := k' + 1 + 1 + 1 + 1, since := k' + 1 + 1 + 1 + 1 + 1, till := k' + 1 + 1 + 1 + 1 + 1 + 1, wait := k' + 1 + 1 + 1 + 1 + 1 + 1 + 1 } := by simp only [mkT]; try (congr 1 <;> omega)
    rw [this]; exact s8
theorem markThread_spec (hs : SlT h a n c xs) (hn : n ≤ 1048576) (s0 : 0 ≤ s) (s1 : s ≤ 33554432) (k : ∀ h', Keep (own a) h h' → SlT h' a n c (marksT n s) → K (.int .i64 (s + 8 * n)) h') : callD Try.prog 24 ⟨[.slice a n c, .int .i64 s]⟩ h K := by
  refine laws_markThreadS_M_call ?_
  rw [laws_markThreadS_M]
  have := markThread_loop (xs := xs) (h0 := h) (s := s) (kx := fun z h => K (.int .i64 z) h) hs.le.1 hn s0 s1 (fun h1 k1 s1 => k h1 k1 s1) n 0 h (by omega) Keep.refl (by rw [mixI_zero]; exact hs)
  rw [show s + 8 * ((0 : Nat) : Int) = s by omega] at this
  exact ⟨n + 1, this⟩
theorem heldThread_loop {kx : Int → H → Prop} {kr : Int → H → Prop} (hs : SlT h a n c (marksT n s)) (hb : n ≤ 1048576) (k0 : 0 ≤ s) (k1 : s ≤ 33554432) (k : kx (s + 8 * n) h) :
    ∀ m i : Nat, i + m = n → laws_heldThreadS_M_l0 kx kr (m + 1) a n (s + 8 * i) i h := by
  intro m
  induction m with
  | zero =>
    intro i e
    rw [laws_heldThreadS_M_l0]
    have : i = n := by omega
    subst this
    exact ifD_f (by omega) k
  | succ m ih =>
    intro i e
    rw [laws_heldThreadS_M_l0]
    have hx : (marksT n s)[i]? = some (mkT (s + 8 * (i : Nat))) := by rw [marksT, List.getElem?_map, List.getElem?_range (by omega)]; rfl
    have hi1 := ih (i + 1) (by omega)
    rw [show s + 8 * ((i + 1 : Nat) : Int) = s + 8 * (i : Int) + 8 by omega] at hi1
    generalize ek : s + 8 * (i : Int) = k' at *
    have w : ∀ z : Int, 0 ≤ z → z ≤ 100000000 → IntKind.i64.wrap (z + 1) = z + 1 := fun z a b => wrap_in (by omega) (by omega)
    rw [wrap_suc (by omega), w k' (by omega) (by omega)]
    rw [w (k' + 1) (by omega) (by omega)]
    rw [w (k' + 1 + 1) (by omega) (by omega)]
    rw [w (k' + 1 + 1 + 1) (by omega) (by omega)]
    rw [w (k' + 1 + 1 + 1 + 1) (by omega) (by omega)]
    rw [w (k' + 1 + 1 + 1 + 1 + 1) (by omega) (by omega)]
    rw [w (k' + 1 + 1 + 1 + 1 + 1 + 1) (by omega) (by omega)]
    rw [w (k' + 1 + 1 + 1 + 1 + 1 + 1 + 1) (by omega) (by omega)]
    refine ifD_t (by omega) ?_
    refine hs.gI0 hx ?_
    refine ifN_f (by simp only [mkT]; try omega) ?_
    refine hs.gI hx ?_
    refine ifN_f (by simp only [mkT]; try omega) ?_
    refine hs.gI hx ?_
    refine ifN_f (by simp only [mkT]; try omega) ?_
    refine hs.gI hx ?_
    refine ifN_f (by simp only [mkT]; try omega) ?_
    refine hs.gI hx ?_
    refine ifN_f (by simp only [mkT]; try omega) ?_
    refine hs.gI hx ?_
    refine ifN_f (by simp only [mkT]; try omega) ?_
    refine hs.gI hx ?_
    refine ifN_f (by simp only [mkT]; try omega) ?_
    refine hs.gI hx ?_
    refine ifN_f (by simp only [mkT]; try omega) ?_
    rw [show k' + 1 + 1 + 1 + 1 + 1 + 1 + 1 + 1 = k' + 8 by omega]; exact hi1
theorem heldThread_spec (hs : SlT h a n c (marksT n s)) (hn : n ≤ 1048576) (s0 : 0 ≤ s) (s1 : s ≤ 33554432) (z : K (.int .i64 (s + 8 * n)) h) : callD Try.prog 26 ⟨[.slice a n c, .int .i64 s]⟩ h K := by
  refine laws_heldThreadS_M_call ?_
  rw [laws_heldThreadS_M]
  have := heldThread_loop (s := s) (kx := fun z h => K (.int .i64 z) h) (kr := fun z h => K (.int .i64 z) h) hs hn s0 s1 z n 0 (by omega)
  rw [show s + 8 * ((0 : Nat) : Int) = s by omega] at this
  exact ⟨n + 1, this⟩
end
section
variable {h h0 h' : H} {b o c n i j p q r : Nat} {a a' : Option Addr} {n' c' : Nat} {xs ys : List L} {x y : L} {K : Value → H → Prop} {s k z : Int}
theorem szLock_spec {left : Int} (l0 : 0 ≤ left) (l1 : left ≤ 1048576) (hn : n ≤ 9223372036854775807) (z : K (.int .i64 (if (n : Int) ≤ left then left - n else -1)) h) :
    callD Try.prog 14 ⟨[.slice a n c, .int .i64 left]⟩ h K := by
  refine laws_szLockS_M_call ?_
  rw [laws_szLockS_M, wrap_in (by omega) (by omega)]
  refine ifB_dec (fun f => ?_) fun f => ?_
  · rw [if_neg (by omega)] at z; exact z
  · rw [if_pos (by omega)] at z; exact z
theorem to1Lock_spec (z : K (.agg ⟨encL x⟩) h) : callD Try.prog 38 ⟨[.agg ⟨encL x⟩]⟩ h K := by
  refine laws_toLock_M_call ?_
  rw [laws_toLock_M]; exact z
def zeroL : L := ⟨0, 0⟩
theorem toLock_loop {kx : Option Addr → Nat → Nat → H → Prop} (hs : SlR h0 a n 2 encL xs) (hb : n ≤ 1048576)
    (k : ∀ h, NewS 2 encL h0 xs h a' n n → kx a' n n h) :
    ∀ (m i : Nat) h, i + m = n → Keep [] h0 h → (∀ b ∈ own a', h0.size ≤ b) → SlL h a' n n (mixI (fun j => (xs[j]?).getD zeroL) (List.replicate n zeroL) i) →
    laws_toLockS_M_l0 kx (m + 1) a n a' n n i h := by
  have hl := hs.le
  intro m
  induction m with
  | zero =>
    intro i h e kp w s'
    rw [laws_toLockS_M_l0]
    refine ifD_f (by omega) (k h ⟨kp, w, ?_⟩)
    have : i = n := by omega
    subst this
    have e2 : mixI (fun j => (xs[j]?).getD zeroL) (List.replicate i zeroL) i = xs := by
      refine List.ext_getElem? fun j => ?_
      rw [mixI_get]
      by_cases q : j < i
      · rw [if_pos q]
        obtain ⟨v, hv⟩ : ∃ v, xs[j]? = some v := ⟨_, List.getElem?_eq_getElem (by omega)⟩
        rw [hv]; rfl
      · rw [if_neg q, List.getElem?_eq_none (by simp; omega), List.getElem?_eq_none (by omega)]
    rw [e2] at s'; exact s'
  | succ m ih =>
    intro i h e kp w s'
    obtain ⟨x, hx⟩ : ∃ x, xs[i]? = some x := ⟨_, List.getElem?_eq_getElem (by omega)⟩
    rw [laws_toLockS_M_l0]
    refine ifD_t (by omega) (RdL.gRow (hs.keep0 kp) hx (to1Lock_spec (o_el_AI2E ?_)))
    have il : i < (mixI (fun j => (xs[j]?).getD zeroL) (List.replicate n zeroL) i).length := by rw [mixI_len (by simp; omega)]; simp; omega
    obtain ⟨y, hy⟩ : ∃ y, (mixI (fun j => (xs[j]?).getD zeroL) (List.replicate n zeroL) i)[i]? = some y := ⟨_, List.getElem?_eq_getElem il⟩
    refine s'.req hy rfl (s'.StR il x encL_len (encL_one _) (fun h1 k1 _ s1 => ?_) rfl rfl)
    rw [wrap_suc (by omega)]
    refine ih (i + 1) h1 (by omega) (kp.trans k1 ?_) w ?_
    · intro d dl t
      simp only [List.not_mem_nil, false_or] at t
      have := w d t; omega
    · rw [mixI_succ (by simp; omega)]
      simp only [hx, Option.getD_some]; exact s1
theorem zflatL (n : Nat) : zerosL (.agg ⟨encL zeroL⟩) n = (List.replicate n zeroL).flatMap encL := by
  rw [zerosL]
  induction n with
  | zero => rfl
  | succ n ih => rw [List.replicate_succ, List.flatten_cons, ih, List.replicate_succ, List.flatMap_cons]; rfl
theorem toLock_spec (hs : SlR h a n 2 encL xs) (hn : n ≤ 1048576) (k : ∀ h' a', NewS 2 encL h xs h' a' n n → K (.slice a' n n) h') :
    callD Try.prog 19 ⟨[.slice a n c]⟩ h K := by
  refine laws_toLockS_M_call ?_
  rw [laws_toLockS_M, req_eq (by omega)]
  refine newD_of fun b h1 le hb k1 => ?_
  simp only [Int.toNat_natCast] at hb ⊢
  refine ⟨n + 1, toLock_loop hs hn (fun h2 out => k h2 _ out) n 0 h1 (by omega) k1 (by simp [own]; omega) ?_⟩
  rw [mixI_zero]
  have := Sl.lit (h := h1) (b := b) (xs := List.replicate n zeroL) encL_len (by simp; omega) (by rw [← zflatL]; exact hb)
  simpa using this
theorem eq1Lock_spec (z : K (.bool (decide (x = y))) h) : callD Try.prog 47 ⟨[.agg ⟨encL x⟩, .agg ⟨encL y⟩]⟩ h K := by
  refine laws_eqLock_M_call ?_
  rw [laws_eqLock_M]
  have no (f : x ≠ y) : K (.bool false) h := by rw [decide_eq_false f] at z; exact z
  refine ifB_neI (fun f => no fun e => f (by rw [e])) fun f0 => ?_
  refine ifB_neI (fun f => no fun e => f (by rw [e])) fun f1 => ?_
  have : x = y := by
    cases x; cases y
    simp_all
  rw [decide_eq_true this] at z; exact z
theorem eqLock_loop {kx : H → Prop} {kr : Bool → H → Prop} (hs : SlL h a n c xs) (ht : SlL h a' n' c' ys) (en : n = n') (k1 : xs = ys → kx h) (k2 : xs ≠ ys → kr false h) :
    ∀ m i : Nat, i + m = n → (∀ j, j < i → xs[j]? = ys[j]?) → laws_eqLockS_M_l0 kx kr (m + 1) a n a' n' i h := by
  have hl := hs.le; have hl' := ht.le
  intro m
  induction m with
  | zero =>
    intro i e eq
    rw [laws_eqLockS_M_l0]
    refine ifD_f (by omega) (k1 (List.ext_getElem? fun j => ?_))
    by_cases q : j < i
    · exact eq j q
    · rw [List.getElem?_eq_none (by omega), List.getElem?_eq_none (by omega)]
  | succ m ih =>
    intro i e eq
    obtain ⟨x, hx⟩ : ∃ x, xs[i]? = some x := ⟨_, List.getElem?_eq_getElem (by omega)⟩
    obtain ⟨y, hy⟩ : ∃ y, ys[i]? = some y := ⟨_, List.getElem?_eq_getElem (by omega)⟩
    rw [laws_eqLockS_M_l0]
    refine ifD_t (by omega) (SlL.gRow hs hx (SlL.gRow ht hy (eq1Lock_spec (x := x) (y := y) (ifB_nb (fun f => k2 fun t => ?_) fun f => ?_))))
    · rw [t, hy] at hx; injection hx with hx; subst hx; simp at f
    · rw [wrap_suc (by omega)]
      refine ih (i + 1) (by omega) fun j hj => ?_
      by_cases q : j = i
      · subst q; rw [hx, hy, of_decide_eq_true f]
      · exact eq j (by omega)
theorem eqLock_spec (hs : SlL h a n c xs) (ht : SlL h a' n' c' ys) (z : K (.bool (decide (xs = ys))) h) : callD Try.prog 23 ⟨[.slice a n c, .slice a' n' c']⟩ h K := by
  have hl := hs.le; have hl' := ht.le
  refine laws_eqLockS_M_call ?_
  rw [laws_eqLockS_M]
  have no (f : xs ≠ ys) : K (.bool false) h := by rw [decide_eq_false f] at z; exact z
  refine ifB_neI (fun f => no fun e => ?_) fun f => ⟨n + 1, eqLock_loop hs ht (by omega) (fun e => ?_) (fun e => no e) n 0 (by omega) (by intros; omega)⟩
  · subst e; omega
  · rw [decide_eq_true e] at z; exact z
def mkL (z : Int) : L := { id := z, owner := z + 1 }
def marksL (n : Nat) (k : Int) : List L := (List.range n).map fun j => mkL (k + 2 * (j : Nat))
theorem markLock_loop {kx : Int → H → Prop} (hl : n = xs.length) (hb : n ≤ 1048576) (k0 : 0 ≤ s) (k1 : s ≤ 33554432)
    (k : ∀ h, Keep (own a) h0 h → SlL h a n c (marksL n s) → kx (s + 2 * n) h) :
    ∀ (m i : Nat) h, i + m = n → Keep (own a) h0 h → SlL h a n c (mixI (fun j => mkL (s + 2 * (j : Nat))) xs i) → laws_markLockS_M_l0 kx (m + 1) a n (s + 2 * i) i h := by
  intro m
  induction m with
  | zero =>
    intro i h e kp s'
    rw [laws_markLockS_M_l0]
    have : i = n := by omega
    subst this
    rw [hl, mixI_all] at s'
    refine ifD_f (by omega) (k h kp ?_)
    rw [marksL, hl]; exact s'
  | succ m ih =>
    intro i h e kp s0
    rw [laws_markLockS_M_l0]
    have il : i < (mixI (fun j => mkL (s + 2 * (j : Nat))) xs i).length := by rw [mixI_len (by omega)]; omega
    obtain ⟨x, hx⟩ : ∃ x, (mixI (fun j => mkL (s + 2 * (j : Nat))) xs i)[i]? = some x := ⟨_, List.getElem?_eq_getElem il⟩
    have hi1 := fun h' => ih (i + 1) h' (by omega)
    rw [show s + 2 * ((i + 1 : Nat) : Int) = s + 2 * (i : Int) + 2 by omega, mixI_succ (by omega)] at hi1
    generalize ek : s + 2 * (i : Int) = k' at *
    have w : ∀ z : Int, 0 ≤ z → z ≤ 100000000 → IntKind.i64.wrap (z + 1) = z + 1 := fun z a b => wrap_in (by omega) (by omega)
    rw [wrap_suc (by omega), w k' (by omega) (by omega)]
    rw [w (k' + 1) (by omega) (by omega)]
    refine ifD_t (by omega) ?_
    refine s0.gSt0 hx { x with id := k' } encL_len (fun h1 q1 _ s1 => ?_) rfl (by decide) rfl
    refine s1.gSt (getSet hx) { x with id := k', owner := k' + 1 } encL_len (fun h2 q2 _ s2 => ?_) rfl (by decide) rfl
    rw [List.set_set] at s2
    rw [show k' + 1 + 1 = k' + 2 by omega]
    refine hi1 h2 ((kp.tr q1).tr q2) ?_
    have : mkL k' = { x with id := k', owner := k' + 1 } := by simp only [mkL]; try (congr 1 <;> omega)
    rw [this]; exact s2
theorem markLock_spec (hs : SlL h a n c xs) (hn : n ≤ 1048576) (s0 : 0 ≤ s) (s1 : s ≤ 33554432) (k : ∀ h', Keep (own a) h h' → SlL h' a n c (marksL n s) → K (.int .i64 (s + 2 * n)) h') : callD Try.prog 25 ⟨[.slice a n c, .int .i64 s]⟩ h K := by
  refine laws_markLockS_M_call ?_
  rw [laws_markLockS_M]
  have := markLock_loop (xs := xs) (h0 := h) (s := s) (kx := fun z h => K (.int .i64 z) h) hs.le.1 hn s0 s1 (fun h1 k1 s1 => k h1 k1 s1) n 0 h (by omega) Keep.refl (by rw [mixI_zero]; exact hs)
  rw [show s + 2 * ((0 : Nat) : Int) = s by omega] at this
  exact ⟨n + 1, this⟩
theorem heldLock_loop {kx : Int → H → Prop} {kr : Int → H → Prop} (hs : SlL h a n c (marksL n s)) (hb : n ≤ 1048576) (k0 : 0 ≤ s) (k1 : s ≤ 33554432) (k : kx (s + 2 * n) h) :
    ∀ m i : Nat, i + m = n → laws_heldLockS_M_l0 kx kr (m + 1) a n (s + 2 * i) i h := by
  intro m
  induction m with
  | zero =>
    intro i e
    rw [laws_heldLockS_M_l0]
    have : i = n := by omega
    subst this
    exact ifD_f (by omega) k
  | succ m ih =>
    intro i e
    rw [laws_heldLockS_M_l0]
    have hx : (marksL n s)[i]? = some (mkL (s + 2 * (i : Nat))) := by rw [marksL, List.getElem?_map, List.getElem?_range (by omega)]; rfl
    have hi1 := ih (i + 1) (by omega)
    rw [show s + 2 * ((i + 1 : Nat) : Int) = s + 2 * (i : Int) + 2 by omega] at hi1
    generalize ek : s + 2 * (i : Int) = k' at *
    have w : ∀ z : Int, 0 ≤ z → z ≤ 100000000 → IntKind.i64.wrap (z + 1) = z + 1 := fun z a b => wrap_in (by omega) (by omega)
    rw [wrap_suc (by omega), w k' (by omega) (by omega)]
    rw [w (k' + 1) (by omega) (by omega)]
    refine ifD_t (by omega) ?_
    refine hs.gI0 hx ?_
    refine ifN_f (by simp only [mkL]; try omega) ?_
    refine hs.gI hx ?_
    refine ifN_f (by simp only [mkL]; try omega) ?_
    rw [show k' + 1 + 1 = k' + 2 by omega]; exact hi1
theorem heldLock_spec (hs : SlL h a n c (marksL n s)) (hn : n ≤ 1048576) (s0 : 0 ≤ s) (s1 : s ≤ 33554432) (z : K (.int .i64 (s + 2 * n)) h) : callD Try.prog 27 ⟨[.slice a n c, .int .i64 s]⟩ h K := by
  refine laws_heldLockS_M_call ?_
  rw [laws_heldLockS_M]
  have := heldLock_loop (s := s) (kx := fun z h => K (.int .i64 z) h) (kr := fun z h => K (.int .i64 z) h) hs hn s0 s1 z n 0 (by omega)
  rw [show s + 2 * ((0 : Nat) : Int) = s by omega] at this
  exact ⟨n + 1, this⟩
end
variable {h h0 h1 h2 h' : H} {now seq now' seq' : Int} {a b a' b' : Option Addr} {n c m d n' c' m' d' p o : Nat} {s s0 s' s1 : S} {K : Value → H → Prop} {id k on q lock kind : Int} {i j : Nat} {t x w : T} {l : L} {xs : List T} {zs ys : List L}
/-- the argument, that is only read -/
structure RdS (h : H) (now seq : Int) (a : Option Addr) (n : Nat) (b : Option Addr) (m : Nat) (s : S) : Prop where
  en : now = s.now
  es : seq = s.seq
  t : SlR h a n 8 encT s.ths
  l : SlR h b m 2 encL s.lks
theorem RdS.keep0 (r : RdS h now seq a n b m s) (k : Keep [] h h') : RdS h' now seq a n b m s := ⟨r.en, r.es, r.t.keep0 k, r.l.keep0 k⟩
theorem szS_spec (hn : n ≤ 9223372036854775807) (hm : m ≤ 9223372036854775807) (z1 : n + m ≤ 1048576 → ∀ q, 0 ≤ q → K (.int .i64 q) h) (z2 : 1048576 < n + m → K (.int .i64 (-1)) h) : callD Try.prog 4 ⟨[val now seq a n c b m d, .int .i64 1048576]⟩ h K := by
  refine laws_szSched_M_call ?_
  rw [laws_szSched_M]
  refine szThread_spec (by omega) (by omega) hn (asI_of ?_)
  by_cases f : (n : Int) ≤ 1048576
  · rw [if_pos f]
    refine ifD_f (by omega) (szLock_spec (by omega) (by omega) hm (asI_of ?_))
    by_cases g : (m : Int) ≤ 1048576 - n
    · rw [if_pos g]
      exact ifD_f (by omega) (z1 (by omega) _ (by omega))
    · rw [if_neg g]
      exact ifD_t (by omega) (z2 (by omega))
  · rw [if_neg f]
    exact ifD_t (by omega) (z2 (by omega))
theorem toS_spec (r : RdS h now seq a n b m s) (hn : n ≤ 1048576) (hm : m ≤ 1048576) (z : ∀ h' a' b', NewO h s h' now seq a' n n b' m m → K (val now seq a' n n b' m m) h') : callD Try.prog 6 ⟨[val now seq a n c b m d]⟩ h K := by
  refine laws_toSched_M_call ?_
  rw [laws_toSched_M]
  refine toThread_spec r.t hn fun h1 a1 o1 => asL_eq ▸ ?_
  have z1 := o1.kp.le
  refine toLock_spec (r.l.keep0 o1.kp) hm fun h2 b2 o2 => asL_eq ▸ ?_
  refine z h2 a1 b2 ⟨o1.kp.tr o2.kp, o1.fr, fun x hx => by have := o2.fr x hx; omega, r.en, r.es, o1.sl.keep0 o2.kp, o2.sl, fun x hx t => ?_⟩
  have := o2.fr x t; have := o1.sl.lt hx; omega
theorem toOp_spec {x y w : Int} (z : K (.agg ⟨[.int .i64 x, .int .i64 y, .int .i64 w]⟩) h) : callD Try.prog 7 ⟨[.agg ⟨[.int .i64 x, .int .i64 y, .int .i64 w]⟩]⟩ h K := by
  refine laws_toSchedOp_M_call ?_
  rw [laws_toSchedOp_M]; exact z
theorem eqS_spec (r : Ss h now seq a n c b m d s) (r' : Ss h now' seq' a' n' c' b' m' d' s') (z : ∀ w, (w = true ↔ s = s') → K (.bool w) h) : callD Try.prog 9 ⟨[val now seq a n c b m d, val now' seq' a' n' c' b' m' d']⟩ h K := by
  have no (f : s ≠ s') : K (.bool false) h := z false (by simp [f])
  have e1 := r.en
  have e2 := r.es
  have e3 := r'.en
  have e4 := r'.es
  refine laws_eqSched_M_call ?_
  rw [laws_eqSched_M]
  refine ifB_neI (fun f => no fun e => f (by rw [e1, e3, e])) fun f1 => ifB_neI (fun f => no fun e => f (by rw [e2, e4, e])) fun f2 => ?_
  refine eqThread_spec r.t r'.t (asB_of (ifB_nb (fun f => no fun e => by simp [e] at f) fun f3 => ?_))
  refine eqLock_spec r.l r'.l (asB_of (ifB_nb (fun f => no fun e => by simp [e] at f) fun f4 => ?_))
  rw [decide_eq_true_eq] at f3 f4
  refine z true (by simp; cases s; cases s'; simp_all)
theorem eqR_spec {x1 x2 y1 y2 : Int} (z : ∀ w, (w = true ↔ x1 = y1 ∧ x2 = y2) → K (.bool w) h) : callD Try.prog 10 ⟨[.agg ⟨[.int .i64 x1, .int .i64 x2]⟩, .agg ⟨[.int .i64 y1, .int .i64 y2]⟩]⟩ h K := by
  have no (f : ¬ (x1 = y1 ∧ x2 = y2)) : K (.bool false) h := z false (by simp; intro e1 e2; exact f ⟨e1, e2⟩)
  refine laws_eqSchedRes_M_call ?_
  rw [laws_eqSchedRes_M]
  refine ifB_neI (fun f => no fun t => f t.1) fun f1 => ifB_neI (fun f => no fun t => f t.2) fun f2 => z true (by simp [f1, f2])
def markS (s : S) (n m : Nat) : S := { s with ths := marksT n 1, lks := marksL m (1 + 8 * n) }
theorem markS_spec (r : Ss h now seq a n c b m d s) (hn : n ≤ 1048576) (hm : m ≤ 1048576) (z : ∀ h', Keep (own a ++ own b) h h' → Ss h' now seq a n c b m d (markS s n m) → K (.int .i64 (1 + 8 * n + 2 * m)) h') : callD Try.prog 11 ⟨[val now seq a n c b m d, .int .i64 1]⟩ h K := by
  refine laws_markSched_M_call ?_
  rw [laws_markSched_M]
  refine markThread_spec r.t hn (by omega) (by omega) fun h1 k1 s1 => asI_of ?_
  have l1 := r.l.keep k1 fun x hx t => r.ap x t hx
  refine markLock_spec l1 hm (by omega) (by omega) fun h2 k2 s2 => asI_of ?_
  refine z h2 (k1.trans k2 (by intro y l t; simp; exact t)) ⟨r.en, r.es, s1.keep k2 fun x hx t => r.ap x hx t, s2, r.ap⟩
theorem heldS_spec (r : Ss h now seq a n c b m d (markS s n m)) (hn : n ≤ 1048576) (hm : m ≤ 1048576) (z : K (.int .i64 (1 + 8 * n + 2 * m)) h) : callD Try.prog 12 ⟨[val now seq a n c b m d, .int .i64 1]⟩ h K := by
  refine laws_heldSched_M_call ?_
  rw [laws_heldSched_M]
  refine heldThread_spec r.t hn (by omega) (by omega) (asI_of (ifD_f (by omega) ?_))
  exact heldLock_spec r.l hm (by omega) (by omega) (asI_of (ifD_f (by omega) z))
end Go.Proofs.Yteeinamngmmlbaa
