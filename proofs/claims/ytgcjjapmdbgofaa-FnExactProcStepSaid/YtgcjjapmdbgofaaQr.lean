import Derived.Test.YtgcjjapmdbgofaaQq
set_option linter.unusedVariables false
namespace Go.Proofs.Ytgcjjapmdbgofaa
open Go.Eng
variable {h h0 h' : H} {b o c n i j p q r : Nat} {a a' : Option Addr} {n' c' : Nat} {xs ys : List P} {x y : P} {K : Value → H → Prop} {s k z : Int}

/-- a slice that is new -/
structure NewP (h : H) (ys : List P) (h' : H) (a' : Option Addr) (n' c' : Nat) : Prop where
  kp : Keep [] h h'
  fr : ∀ b ∈ own a', h.size ≤ b
  sl : SlP h' a' n' c' ys
theorem sz_spec {left : Int} (hl : left = 1048576) (hn : n ≤ 9223372036854775807) (z : K (.int .i64 (if n ≤ 1048576 then left - n else -1)) h) :
    callD Try.prog 12 ⟨[.agg ⟨[.slice a n c]⟩, .int .i64 left]⟩ h K := by
  refine laws_szProcs_M_call ?_
  rw [laws_szProcs_M]
  refine laws_szProcS_M_call ?_
  rw [laws_szProcS_M, wrap_in (by omega) (by omega)]
  refine ifB_dec (fun f => asI_of (ifD_t (by omega) ?_)) fun f => asI_of (ifD_f f ?_)
  · rw [if_neg (by omega)] at z; exact z
  · rw [if_pos (by omega)] at z; exact z
theorem to1_spec (z : K (.agg ⟨encP x⟩) h) : callD Try.prog 56 ⟨[.agg ⟨encP x⟩]⟩ h K := by
  refine laws_toProc_M_call ?_
  rw [laws_toProc_M]; exact z
def zeroP : P := ⟨0, 0, 0, 0, 0, 0, 0, 0, 0, 0⟩
theorem to_loop {kx : Option Addr → Nat → Nat → H → Prop} (hs : SlR h0 a n 10 encP xs) (hb : n ≤ 1048576)
    (k : ∀ h, NewP h0 xs h a' n n → kx a' n n h) :
    ∀ (m i : Nat) h, i + m = n → Keep [] h0 h → (∀ b ∈ own a', h0.size ≤ b) → SlP h a' n n (mixI (fun j => (xs[j]?).getD zeroP) (List.replicate n zeroP) i) →
    laws_toProcS_M_l0 kx (m + 1) a n a' n n i h := by
  have hl := hs.le
  intro m
  induction m with
  | zero =>
    intro i h e kp w s'
    rw [laws_toProcS_M_l0]
    refine ifD_f (by omega) (k h ⟨kp, w, ?_⟩)
    have : i = n := by omega
    subst this
    have e2 : mixI (fun j => (xs[j]?).getD zeroP) (List.replicate i zeroP) i = xs := by
      refine List.ext_getElem? fun j => ?_
      rw [mixI_get]
      by_cases q : j < i
      · rw [if_pos q]
        obtain ⟨v, hv⟩ : ∃ v, xs[j]? = some v := ⟨_, List.getElem?_eq_getElem (by omega)⟩
        rw [hv]; rfl
      · rw [if_neg q, List.getElem?_eq_none (by simp; omega), List.getElem?_eq_none (by omega)]
    rw [e2] at s'; exact s'
  | succ m ih =>
    intro i h e kp w s'
    obtain ⟨x, hx⟩ : ∃ x, xs[i]? = some x := ⟨_, List.getElem?_eq_getElem (by omega)⟩
    rw [laws_toProcS_M_l0]
    refine ifD_t (by omega) (RdP.gRow (hs.keep0 kp) hx (to1_spec (o_el_AI10E ?_)))
    have il : i < (mixI (fun j => (xs[j]?).getD zeroP) (List.replicate n zeroP) i).length := by rw [mixI_len (by simp; omega)]; simp; omega
    obtain ⟨y, hy⟩ : ∃ y, (mixI (fun j => (xs[j]?).getD zeroP) (List.replicate n zeroP) i)[i]? = some y := ⟨_, List.getElem?_eq_getElem il⟩
    refine s'.req hy rfl (s'.StR il x encP_len (encP_one _) (fun h1 k1 _ s1 => ?_) rfl rfl)
    rw [wrap_suc (by omega)]
    refine ih (i + 1) h1 (by omega) (kp.trans k1 ?_) w ?_
    · intro d dl t
      simp only [List.not_mem_nil, false_or] at t
      have := w d t; omega
    · rw [mixI_succ (by simp; omega)]
      simp only [hx, Option.getD_some]; exact s1
theorem slP_zeros {cs : List Value} (x : blk h b cs) (e : cs = (List.replicate n zeroP).flatMap encP) (hn : n ≤ 140737488355328) : SlP h (some ⟨b, 0, none⟩) n n (List.replicate n zeroP) := by
  subst e
  refine ⟨⟨by simp, hn⟩, _, x, ?_, by simp, fun i y hy j v hv => ?_⟩
  · rw [flat_len encP_len]; simp
  · rw [Nat.zero_add, flat_get encP_len (by have := (List.getElem?_eq_some_iff.mp hv).1; rw [encP_len] at this; exact this) _ _ hy]; exact hv
theorem zeros_flat (n : Nat) : zerosL (.agg ⟨encP zeroP⟩) n = (List.replicate n zeroP).flatMap encP := by
  rw [zerosL]
  induction n with
  | zero => rfl
  | succ n ih => rw [List.replicate_succ, List.flatten_cons, ih, List.replicate_succ, List.flatMap_cons]; rfl
theorem to_spec (hs : SlR h a n 10 encP xs) (hn : n ≤ 1048576) (k : ∀ h' a', NewP h xs h' a' n n → K (.agg ⟨[.slice a' n n]⟩) h') :
    callD Try.prog 13 ⟨[.agg ⟨[.slice a n c]⟩]⟩ h K := by
  refine laws_toProcs_M_call ?_
  rw [laws_toProcs_M]
  refine laws_toProcS_M_call ?_
  rw [laws_toProcS_M, req_eq (by omega)]
  refine newD_of fun b h1 le hb k1 => ?_
  simp only [Int.toNat_natCast] at hb ⊢
  refine ⟨n + 1, to_loop hs hn (fun h2 out => asL_eq ▸ k h2 _ out) n 0 h1 (by omega) k1 (by simp [own]; omega) ?_⟩
  rw [mixI_zero]
  exact slP_zeros hb (zeros_flat n) (by omega)
theorem eq1_spec (z : K (.bool (decide (x = y))) h) : callD Try.prog 57 ⟨[.agg ⟨encP x⟩, .agg ⟨encP y⟩]⟩ h K := by
  refine laws_eqProc_M_call ?_
  rw [laws_eqProc_M]
  have no (f : x ≠ y) : K (.bool false) h := by rw [decide_eq_false f] at z; exact z
  refine ifB_neI (fun f => no fun e => f (by rw [e])) fun f0 => ?_
  refine ifB_neI (fun f => no fun e => f (by rw [e])) fun f1 => ?_
  refine ifB_neI (fun f => no fun e => f (by rw [e])) fun f2 => ?_
  refine ifB_neI (fun f => no fun e => f (by rw [e])) fun f3 => ?_
  refine ifB_neI (fun f => no fun e => f (by rw [e])) fun f4 => ?_
  refine ifB_neI (fun f => no fun e => f (by rw [e])) fun f5 => ?_
  refine ifB_neI (fun f => no fun e => f (by rw [e])) fun f6 => ?_
  refine ifB_neI (fun f => no fun e => f (by rw [e])) fun f7 => ?_
  refine ifB_neI (fun f => no fun e => f (by rw [e])) fun f8 => ?_
  refine ifB_neI (fun f => no fun e => f (by rw [e])) fun f9 => ?_
  have : x = y := by
    cases x; cases y
    simp_all
  rw [decide_eq_true this] at z; exact z
theorem eq_loop {kx : H → Prop} {kr : Bool → H → Prop} (hs : SlP h a n c xs) (ht : SlP h a' n' c' ys) (en : n = n') (k1 : xs = ys → kx h) (k2 : xs ≠ ys → kr false h) :
    ∀ m i : Nat, i + m = n → (∀ j, j < i → xs[j]? = ys[j]?) → laws_eqProcS_M_l0 kx kr (m + 1) a n a' n' i h := by
  have hl := hs.le; have hl' := ht.le
  intro m
  induction m with
  | zero =>
    intro i e eq
    rw [laws_eqProcS_M_l0]
    refine ifD_f (by omega) (k1 (List.ext_getElem? fun j => ?_))
    by_cases q : j < i
    · exact eq j q
    · rw [List.getElem?_eq_none (by omega), List.getElem?_eq_none (by omega)]
  | succ m ih =>
    intro i e eq
    obtain ⟨x, hx⟩ : ∃ x, xs[i]? = some x := ⟨_, List.getElem?_eq_getElem (by omega)⟩
    obtain ⟨y, hy⟩ : ∃ y, ys[i]? = some y := ⟨_, List.getElem?_eq_getElem (by omega)⟩
    rw [laws_eqProcS_M_l0]
    refine ifD_t (by omega) (SlP.gRow hs hx (SlP.gRow ht hy (eq1_spec (x := x) (y := y) (ifB_nb (fun f => k2 fun t => ?_) fun f => ?_))))
    · rw [t, hy] at hx; injection hx with hx; subst hx; simp at f
    · rw [wrap_suc (by omega)]
      refine ih (i + 1) (by omega) fun j hj => ?_
      by_cases q : j = i
      · subst q; rw [hx, hy, of_decide_eq_true f]
      · exact eq j (by omega)
theorem eq_spec (hs : SlP h a n c xs) (ht : SlP h a' n' c' ys) (z : K (.bool (decide (xs = ys))) h) : callD Try.prog 15 ⟨[.agg ⟨[.slice a n c]⟩, .agg ⟨[.slice a' n' c']⟩]⟩ h K := by
  have hl := hs.le; have hl' := ht.le
  refine laws_eqProcs_M_call ?_
  rw [laws_eqProcs_M]
  refine laws_eqProcS_M_call ?_
  rw [laws_eqProcS_M]
  have no (f : xs ≠ ys) : K (.bool false) h := by rw [decide_eq_false f] at z; exact z
  refine ifB_neI (fun f => no fun e => ?_) fun f => ⟨n + 1, eq_loop hs ht (by omega) (fun e => ?_) (fun e => no e) n 0 (by omega) (by intros; omega)⟩
  · subst e; omega
  · rw [decide_eq_true e] at z; exact z
theorem eqR_spec {x1 x2 x3 y1 y2 y3 : Int} (z : K (.bool (decide (x1 = y1 ∧ x2 = y2 ∧ x3 = y3))) h) : callD Try.prog 16 ⟨[.agg ⟨[.int .i64 x1, .int .i64 x2, .int .i64 x3]⟩, .agg ⟨[.int .i64 y1, .int .i64 y2, .int .i64 y3]⟩]⟩ h K := by
  refine laws_eqProcRes_M_call ?_
  rw [laws_eqProcRes_M]
  have no (f : ¬ (x1 = y1 ∧ x2 = y2 ∧ x3 = y3)) : K (.bool false) h := by rw [decide_eq_false f] at z; exact z
  refine ifB_neI (fun f => no fun t => f t.1) fun f1 => ifB_neI (fun f => no fun t => f t.2.1) fun f2 => ifB_neI (fun f => no fun t => f t.2.2) fun f3 => ?_
  rw [decide_eq_true ⟨f1, f2, f3⟩] at z; exact z
/-! marks -/
def mkP (z : Int) : P := { id := z, parent := z + 1, group := z + 2, user := z + 3, state := z + 4, status := z + 5, pending := z + 6, mask := z + 7, ignored := z + 8, caught := z + 9 }
def marks (n : Nat) (k : Int) : List P := (List.range n).map fun j => mkP (k + 10 * (j : Nat))
theorem mark_loop {kx : Int → H → Prop} (hl : n = xs.length) (hb : n ≤ 1048576) (k0 : 0 ≤ s) (k1 : s ≤ 1048576)
    (k : ∀ h, Keep (own a) h0 h → SlP h a n c (marks n s) → kx (s + 10 * n) h) :
    ∀ (m i : Nat) h, i + m = n → Keep (own a) h0 h → SlP h a n c (mixI (fun j => mkP (s + 10 * (j : Nat))) xs i) → laws_markProcS_M_l0 kx (m + 1) a n (s + 10 * i) i h := by
  intro m
  induction m with
  | zero =>
    intro i h e kp s'
    rw [laws_markProcS_M_l0]
    have : i = n := by omega
    subst this
    rw [hl, mixI_all] at s'
    refine ifD_f (by omega) (k h kp ?_)
    rw [marks, hl]; exact s'
  | succ m ih =>
    intro i h e kp s0
    rw [laws_markProcS_M_l0]
    have il : i < (mixI (fun j => mkP (s + 10 * (j : Nat))) xs i).length := by rw [mixI_len (by omega)]; omega
    obtain ⟨x, hx⟩ : ∃ x, (mixI (fun j => mkP (s + 10 * (j : Nat))) xs i)[i]? = some x := ⟨_, List.getElem?_eq_getElem il⟩
    have hi1 := fun h' => ih (i + 1) h' (by omega)
    rw [show s + 10 * ((i + 1 : Nat) : Int) = s + 10 * (i : Int) + 10 by omega, mixI_succ (by omega)] at hi1
    generalize ek : s + 10 * (i : Int) = k' at *
    have w : ∀ z : Int, 0 ≤ z → z ≤ 100000000 → IntKind.i64.wrap (z + 1) = z + 1 := fun z a b => wrap_in (by omega) (by omega)
    rw [wrap_suc (by omega), w k' (by omega) (by omega)]
    rw [w (k' + 1 ) (by omega) (by omega)]
    rw [w (k' + 1 + 1 ) (by omega) (by omega)]
    rw [w (k' + 1 + 1 + 1 ) (by omega) (by omega)]
    rw [w (k' + 1 + 1 + 1 + 1 ) (by omega) (by omega)]
    rw [w (k' + 1 + 1 + 1 + 1 + 1 ) (by omega) (by omega)]
    rw [w (k' + 1 + 1 + 1 + 1 + 1 + 1 ) (by omega) (by omega)]
    rw [w (k' + 1 + 1 + 1 + 1 + 1 + 1 + 1 ) (by omega) (by omega)]
    rw [w (k' + 1 + 1 + 1 + 1 + 1 + 1 + 1 + 1 ) (by omega) (by omega)]
    rw [w (k' + 1 + 1 + 1 + 1 + 1 + 1 + 1 + 1 + 1 ) (by omega) (by omega)]
    refine ifD_t (by omega) ?_
    refine s0.gSt0 hx { x with id := k' } encP_len (fun h1 q1 _ s1 => ?_) rfl (by decide) rfl
    refine s1.gSt (getSet hx) { x with id := k', parent := k' + 1 } encP_len (fun h2 q2 _ s2 => ?_) rfl (by decide) rfl
    rw [List.set_set] at s2
    refine s2.gSt (getSet hx) { x with id := k', parent := k' + 1, group := k' + 1 + 1 } encP_len (fun h3 q3 _ s3 => ?_) rfl (by decide) rfl
    rw [List.set_set] at s3
    refine s3.gSt (getSet hx) { x with id := k', parent := k' + 1, group := k' + 1 + 1, user := k' + 1 + 1 + 1 } encP_len (fun h4 q4 _ s4 => ?_) rfl (by decide) rfl
    rw [List.set_set] at s4
    refine s4.gSt (getSet hx) { x with id := k', parent := k' + 1, group := k' + 1 + 1, user := k' + 1 + 1 + 1, state := k' + 1 + 1 + 1 + 1 } encP_len (fun h5 q5 _ s5 => ?_) rfl (by decide) rfl
    rw [List.set_set] at s5
    refine s5.gSt (getSet hx) { x with id := k', parent := k' + 1, group := k' + 1 + 1, user := k' + 1 + 1 + 1, state := k' + 1 + 1 + 1 + 1, status := k' + 1 + 1 + 1 + 1 + 1 } encP_len (fun h6 q6 _ s6 => ?_) rfl (by decide) rfl
    rw [List.set_set] at s6
    refine s6.gSt (getSet hx) { x with id := k', parent := k' + 1, group := k' + 1 + 1, user := k' + 1 + 1 + 1, state := k' + 1 + 1 + 1 + 1, status := k' + 1 + 1 + 1 + 1 + 1, pending := k' + 1 + 1 + 1 + 1 + 1 + 1 } encP_len (fun h7 q7 _ s7 => ?_) rfl (by decide) rfl
    rw [List.set_set] at s7
    refine s7.gSt (getSet hx) { x with id := k', parent := k' + 1, group := k' + 1 + 1, user := k' + 1 + 1 + 1, state := k' + 1 + 1 + 1 + 1, status := k' + 1 + 1 + 1 + 1 + 1, pending := k' + 1 + 1 + 1 + 1 + 1 + 1, mask := k' + 1 + 1 + 1 + 1 + 1 + 1 + 1 } encP_len (fun h8 q8 _ s8 => ?_) rfl (by decide) rfl
    rw [List.set_set] at s8
    refine s8.gSt (getSet hx) { x with id := k', parent := k' + 1, group := k' + 1 + 1, user := k' + 1 + 1 + 1, state := k' + 1 + 1 + 1 + 1, status := k' + 1 + 1 + 1 + 1 + 1, pending := k' + 1 + 1 + 1 + 1 + 1 + 1, mask := k' + 1 + 1 + 1 + 1 + 1 + 1 + 1, ignored := k' + 1 + 1 + 1 + 1 + 1 + 1 + 1 + 1 } encP_len (fun h9 q9 _ s9 => ?_) rfl (by decide) rfl
    rw [List.set_set] at s9
    refine s9.gSt (getSet hx) { x with id := k', parent := k' + 1, group := k' + 1 + 1, user := k' + 1 + 1 + 1, state := k' + 1 + 1 + 1 + 1, status := k' + 1 + 1 + 1 + 1 + 1, pending := k' + 1 + 1 + 1 + 1 + 1 + 1, mask := k' + 1 + 1 + 1 + 1 + 1 + 1 + 1, ignored := k' + 1 + 1 + 1 + 1 + 1 + 1 + 1 + 1, caught := k' + 1 + 1 + 1 + 1 + 1 + 1 + 1 + 1 + 1 } encP_len (fun h10 q10 _ s10 => ?_) rfl (by decide) rfl
    rw [List.set_set] at s10
    rw [show k' + 1 + 1 + 1 + 1 + 1 + 1 + 1 + 1 + 1 + 1 = k' + 10 by omega]
    refine hi1 h10 ((((((((((kp.tr q1).tr q2).tr q3).tr q4).tr q5).tr q6).tr q7).tr q8).tr q9).tr q10) ?_
    have : mkP k' = { x with id := k', parent := k' + 1, group := k' + 1 + 1, user := k' + 1 + 1 + 1, state := k' + 1 + 1 + 1 + 1, status := k' + 1 + 1 + 1 + 1 + 1, pending := k' + 1 + 1 + 1 + 1 + 1 + 1, mask := k' + 1 + 1 + 1 + 1 + 1 + 1 + 1, ignored := k' + 1 + 1 + 1 + 1 + 1 + 1 + 1 + 1, caught := k' + 1 + 1 + 1 + 1 + 1 + 1 + 1 + 1 + 1 } := by simp only [mkP]; congr 1 <;> omega
    rw [this]; exact s10
theorem mark_spec (hs : SlP h a n c xs) (hn : n ≤ 1048576) (k : ∀ h', Keep (own a) h h' → SlP h' a n c (marks n 1) → K (.int .i64 (1 + 10 * n)) h') : callD Try.prog 17 ⟨[.agg ⟨[.slice a n c]⟩, .int .i64 1]⟩ h K := by
  refine laws_markProcs_M_call ?_
  rw [laws_markProcs_M]
  refine laws_markProcS_M_call ?_
  rw [laws_markProcS_M]
  refine ⟨n + 1, mark_loop (xs := xs) (h0 := h) (s := 1) hs.le.1 hn (by omega) (by omega) (fun h1 k1 s1 => asI_of (k h1 k1 s1)) n 0 h (by omega) Keep.refl (by rw [mixI_zero]; exact hs)⟩
theorem held_loop {kx : Int → H → Prop} {kr : Int → H → Prop} (hs : SlP h a n c (marks n s)) (hb : n ≤ 1048576) (k0 : 0 ≤ s) (k1 : s ≤ 1048576) (k : kx (s + 10 * n) h) :
    ∀ m i : Nat, i + m = n → laws_heldProcS_M_l0 kx kr (m + 1) a n (s + 10 * i) i h := by
  intro m
  induction m with
  | zero =>
    intro i e
    rw [laws_heldProcS_M_l0]
    have : i = n := by omega
    subst this
    exact ifD_f (by omega) k
  | succ m ih =>
    intro i e
    rw [laws_heldProcS_M_l0]
    have hx : (marks n s)[i]? = some (mkP (s + 10 * (i : Nat))) := by rw [marks, List.getElem?_map, List.getElem?_range (by omega)]; rfl
    have hi1 := ih (i + 1) (by omega)
    rw [show s + 10 * ((i + 1 : Nat) : Int) = s + 10 * (i : Int) + 10 by omega] at hi1
    generalize ek : s + 10 * (i : Int) = k' at *
    have w : ∀ z : Int, 0 ≤ z → z ≤ 100000000 → IntKind.i64.wrap (z + 1) = z + 1 := fun z a b => wrap_in (by omega) (by omega)
    rw [wrap_suc (by omega), w k' (by omega) (by omega)]
    rw [w (k' + 1 ) (by omega) (by omega)]
    rw [w (k' + 1 + 1 ) (by omega) (by omega)]
    rw [w (k' + 1 + 1 + 1 ) (by omega) (by omega)]
    rw [w (k' + 1 + 1 + 1 + 1 ) (by omega) (by omega)]
    rw [w (k' + 1 + 1 + 1 + 1 + 1 ) (by omega) (by omega)]
    rw [w (k' + 1 + 1 + 1 + 1 + 1 + 1 ) (by omega) (by omega)]
    rw [w (k' + 1 + 1 + 1 + 1 + 1 + 1 + 1 ) (by omega) (by omega)]
    rw [w (k' + 1 + 1 + 1 + 1 + 1 + 1 + 1 + 1 ) (by omega) (by omega)]
    rw [w (k' + 1 + 1 + 1 + 1 + 1 + 1 + 1 + 1 + 1 ) (by omega) (by omega)]
    refine ifD_t (by omega) ?_
    refine hs.gI0 hx ?_
    refine ifN_f (by simp only [mkP]; try omega) ?_
    refine hs.gI hx ?_
    refine ifN_f (by simp only [mkP]; try omega) ?_
    refine hs.gI hx ?_
    refine ifN_f (by simp only [mkP]; try omega) ?_
    refine hs.gI hx ?_
    refine ifN_f (by simp only [mkP]; try omega) ?_
    refine hs.gI hx ?_
    refine ifN_f (by simp only [mkP]; try omega) ?_
    refine hs.gI hx ?_
    refine ifN_f (by simp only [mkP]; try omega) ?_
    refine hs.gI hx ?_
    refine ifN_f (by simp only [mkP]; try omega) ?_
    refine hs.gI hx ?_
    refine ifN_f (by simp only [mkP]; try omega) ?_
    refine hs.gI hx ?_
    refine ifN_f (by simp only [mkP]; try omega) ?_
    refine hs.gI hx ?_
    refine ifN_f (by simp only [mkP]; try omega) ?_
    rw [show k' + 1 + 1 + 1 + 1 + 1 + 1 + 1 + 1 + 1 + 1 = k' + 10 by omega]; exact hi1
theorem held_spec (hs : SlP h a n c (marks n 1)) (hn : n ≤ 1048576) (z : K (.int .i64 (1 + 10 * n)) h) : callD Try.prog 18 ⟨[.agg ⟨[.slice a n c]⟩, .int .i64 1]⟩ h K := by
  refine laws_heldProcs_M_call ?_
  rw [laws_heldProcs_M]
  refine laws_heldProcS_M_call ?_
  rw [laws_heldProcS_M]
  exact ⟨n + 1, held_loop (s := 1) hs hn (by omega) (by omega) (asI_of (ifD_f (by omega) z)) n 0 (by omega)⟩
end Go.Proofs.Ytgcjjapmdbgofaa
