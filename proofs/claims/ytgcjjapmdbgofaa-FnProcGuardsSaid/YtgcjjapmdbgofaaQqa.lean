import Derived.Test.YtgcjjapmdbgofaaQq
set_option linter.unusedVariables false
namespace Go.Proofs.Ytgcjjapmdbgofaa
open Go.Eng
variable {h h0 h' : H} {b o c n i j p q r : Nat} {a a' : Option Addr} {n' c' : Nat} {xs ys : List P} {x y me : P} {K : Value → H → Prop} {s k z kind id to g sig : Int}

/-- a slice that is new -/
structure NewP (h : H) (ys : List P) (h' : H) (a' : Option Addr) (n' c' : Nat) : Prop where
  kp : Keep [] h h'
  fr : ∀ b ∈ own a', h.size ≤ b
  sl : SlP h' a' n' c' ys
theorem step_err (ne : (stepP xs kind id to g).2.1 ≠ 0) : stepP xs kind id to g = (xs, (stepP xs kind id to g).2.1, 0, 0) := by
  revert ne
  generalize e : stepP xs kind id to g = v
  intro ne
  unfold stepP at e
  split at e
  · subst e; rfl
  split at e
  · subst e; rfl
  rename_i x hx
  split at e
  · subst e; rfl
  unfold stepAt at e
  split at e
  · unfold forkS at e
    split at e
    · subst e; rfl
    · subst e; exact absurd rfl ne
  split at e
  · unfold exitS at e
    split at e
    · subst e; rfl
    split at e
    · subst e; rfl
    · subst e; exact absurd rfl ne
  split at e
  · unfold waitS at e
    split at e
    · subst e; exact absurd rfl ne
    · subst e; rfl
  split at e
  · unfold killS at e
    split at e
    · subst e; rfl
    split at e
    · rename_i f
      have z : (xs.countP fun y => killM x to y && killA x y) = 0 := List.countP_eq_zero.mpr fun y hy => by
        have := List.any_eq_false.mp f y hy; simp at this; simp [this]
      rw [killF_none fun y hy => by have := List.countP_eq_zero.mp z y hy; simpa using this] at e
      subst e; rfl
    split at e
    · rename_i z
      rw [killF_none fun y hy => by have := List.countP_eq_zero.mp z y hy; simpa using this] at e
      subst e; rfl
    · subst e; exact absurd rfl ne
  split at e
  · unfold maskS at e
    split at e
    · subst e; exact absurd rfl ne
    · subst e; rfl
  split at e
  · unfold actS at e
    split at e
    · subst e; rfl
    · subst e; exact absurd rfl ne
  split at e
  · unfold takeS at e
    split at e
    · subst e; rfl
    split at e
    · subst e; exact absurd rfl ne
    split at e
    · subst e; exact absurd rfl ne
    split at e
    · subst e; exact absurd rfl ne
    · subst e; exact absurd rfl ne
  split at e
  · unfold grpS at e
    split at e
    · subst e; rfl
    split at e
    · subst e; rfl
    split at e
    · subst e; rfl
    split at e
    · subst e; exact absurd rfl ne
    · subst e; rfl
  · unfold userS at e
    split at e
    · subst e; rfl
    split at e
    · subst e; rfl
    · subst e; exact absurd rfl ne
theorem endF_len (xs : List P) (id st : Int) : (endF xs id st).length ≤ xs.length := by
  unfold endF
  simp only
  split
  · rw [endMid_len]; exact Nat.le_refl _
  split
  · rw [endMid_len]; exact Nat.le_refl _
  split
  · rw [List.length_eraseIdx]; split <;> rw [endMid_len] <;> omega
  · rw [sendAt_len, List.length_set, endMid_len]; exact Nat.le_refl _
theorem step_len0 : (stepP xs kind id to g).1.length ≤ xs.length + 1 := by
  unfold stepP
  split
  · simp
  split
  · simp
  split
  · simp
  unfold stepAt
  split
  · unfold forkS; split
    · simp
    · simp [forkF]; omega
  split
  · unfold exitS
    split
    · simp
    split
    · simp
    · have := endF_len xs id g; simp only; omega
  split
  · unfold waitS; split
    · simp only; rw [List.length_eraseIdx]; split <;> omega
    · simp
  split
  · unfold killS
    split
    · simp
    split
    · simp
    split <;> simp
  split
  · unfold maskS; split <;> simp
  split
  · unfold actS; split <;> simp
  split
  · unfold takeS
    split
    · simp
    split
    · simp
    split
    · simp
    split
    · simp
    · rename_i x _ _ _ _ _ _ _ _ _ _ _ _ _
      have := endF_len (xs.set (posP xs id).toNat { x with pending := lessI x.pending (takeSig x) }) x.id (128 + takeSig x)
      simp only [List.length_set] at this ⊢; omega
  split
  · unfold grpS
    split
    · simp
    split
    · simp
    split
    · simp
    split <;> simp
  · unfold userS
    split
    · simp
    split <;> simp
open Classical in
/-- what ProcStep answers -/
noncomputable def procP (xs : List P) (kind id to g : Int) : List P × Int × Int × Int := if OkP xs then stepP xs kind id to g else ([], 0, 0, 0)
theorem procS_spec (hs : SlP h a n c xs) (hn : n ≤ 1048576) (r : InL xs)
    (k : ∀ h' a' n' c', NewP h (procP xs kind id to g).1 h' a' n' c' → K (ret4 a' n' c' (procP xs kind id to g).2.1 (procP xs kind id to g).2.2.1 (procP xs kind id to g).2.2.2) h') :
    callD Try.prog 11 ⟨[.agg ⟨[.slice a n c]⟩, .agg ⟨[.int .i64 kind, .int .i64 id, .int .i64 to, .int .i64 g]⟩]⟩ h K := by
  refine spec_ProcStep_M_call ?_
  rw [spec_ProcStep_M]
  refine okS_spec hs fun t et => asB_of (ifB_nb (fun f => ?_) fun f => ?_)
  · have : ¬ OkP xs := fun ok => by rw [et.mpr ((ok_iff r).mp ok)] at f; cases f
    have e : procP xs kind id to g = ([], 0, 0, 0) := if_neg this
    rw [e] at k
    exact k h none 0 0 ⟨Keep.refl, by simp [own], slP_nil⟩
  · have ok : OkP xs := (ok_iff r).mpr (et.mp f)
    have e : procP xs kind id to g = stepP xs kind id to g := if_pos ok
    rw [e] at k
    have gd := good ok r
    refine copy_spec hs hn fun h1 a1 c1 k1 w1 s1 => o_el_ALE ?_
    refine step_spec s1 hn gd.st fun h2 a2 n2 c2 o2 => o_el_TALEAI3EE (k h2 a2 n2 c2 ⟨?_, fun b hb => ?_, o2.sl⟩)
    · exact k1.trans o2.kp (by intro d dl t; simp only [List.not_mem_nil, false_or] at t; have := w1 d t; omega)
    · rcases o2.was b hb with t | t
      · exact w1 b t
      · have := k1.le; omega
theorem procI_spec (hs : SlP h a n c xs) (hn : n ≤ 1048576) (r : InL xs) (tlo : -9223372036854775808 ≤ to) (thi : to ≤ 9223372036854775807)
    (k : ∀ h' a' n' c', NewP h (procP xs kind id to g).1 h' a' n' c' → K (ret4 a' n' c' (procP xs kind id to g).2.1 (procP xs kind id to g).2.2.1 (procP xs kind id to g).2.2.2) h') :
    callD Try.prog 10 ⟨[.agg ⟨[.slice a n c]⟩, .agg ⟨[.int .i64 kind, .int .i64 id, .int .i64 to, .int .i64 g]⟩]⟩ h K := by
  refine impl_ProcStep_M_call ?_
  rw [impl_ProcStep_M]
  refine ok_spec hs fun t h1 et k1 => asB_of (ifB_nb (fun f => ?_) fun f => ?_)
  · have : ¬ OkP xs := fun ok => by rw [et.mpr ok] at f; cases f
    have e : procP xs kind id to g = ([], 0, 0, 0) := if_neg this
    rw [e] at k
    exact k h1 none 0 0 ⟨k1, by simp [own], slP_nil⟩
  have ok : OkP xs := et.mp f
  have e : procP xs kind id to g = stepP xs kind id to g := if_pos ok
  rw [e] at k
  have gd := good ok r
  have hs1 := hs.keep0 k1
  refine appendP slP_nil hs1 (by omega) fun a2 c2 h2 k2 w2 s2 => ?_
  have k2 : Keep [] h1 h2 := k2
  rw [Nat.zero_add, List.nil_append] at s2
  rw [Nat.zero_add]
  have z1 := k1.le; have z2 := k2.le
  have f2 : ∀ d ∈ own a2, h.size ≤ d ∧ d < h2.size := fun d hd => by
    have := s2.ltO d hd
    rcases w2 d hd with t | t
    · simp [own] at t
    · omega
  refine newD_of fun p h3 lp hp k3 => ?_
  refine stRow_of _ _ h3 0 hp (by intro v hv; simp at hv; subst hv; rfl) (by simp) fun h4 cs4 e4 hp4 l4 i4 _ k4 => ?_
  have hp4 : blk h4 p [.slice a2 n c2] := by
    have : cs4 = [.slice a2 n c2] := List.ext_getElem? fun d => by
      by_cases hd : d < 1
      · have := i4 d (by simpa using hd); simpa using this
      · rw [List.getElem?_eq_none (by simp at l4; omega), List.getElem?_eq_none (by simp; omega)]
    rw [← this]; exact hp4
  have k34 : Keep [] h2 h4 := k3.trans k4 (by intro d dl t; simp at t; omega)
  have k04 : Keep [] h h4 := (k1.trans k2 (U := []) (by simp)).trans k34 (by simp)
  have m4 : Mp h4 p a2 n c2 xs := ⟨hp4, s2.keep0 k34, fun t => by have := f2 p t; omega⟩
  refine stepI_spec m4 gd tlo thi fun h5 a5 n5 c5 o5 => o_el_AI3E ?_
  have z4 := k04.le
  have k05 : Keep [] h h5 := k04.trans o5.kp (by
    intro d dl t
    simp only [List.not_mem_nil, false_or, List.mem_cons] at t
    rcases t with t | t
    · omega
    · have := f2 d t; omega)
  refine ifB_neI (fun ne => ?_) fun eq => ?_
  · have err := step_err ne
    refine appendP slP_nil (hs.keep0 k05) (by omega) fun a6 c6 h6 k6 w6 s6 => ?_
    have k6 : Keep [] h5 h6 := k6
    rw [Nat.zero_add, List.nil_append] at s6
    rw [Nat.zero_add]
    have z5 := k05.le
    rw [err] at k
    exact k h6 a6 n c6 ⟨k05.trans k6 (by simp), fun b hb => by
      rcases w6 b hb with t | t
      · simp [own] at t
      · omega, s6⟩
  · rw [ldRow_L o5.mp.hp]
    refine k h5 a5 n5 c5 ⟨k05, fun b hb => ?_, o5.mp.hs⟩
    rcases o5.was b hb with t | t
    · exact (f2 b t).1
    · omega
/-! the law -/
end Go.Proofs.Ytgcjjapmdbgofaa
