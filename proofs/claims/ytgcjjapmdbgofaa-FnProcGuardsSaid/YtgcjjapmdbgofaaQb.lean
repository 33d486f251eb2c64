import Derived.Test.YtgcjjapmdbgofaaQa
set_option linter.unusedVariables false
namespace Go.Proofs.Ytgcjjapmdbgofaa
open Go.Eng
variable {h h' : H} {K : Value → H → Prop} {s k : Int}

theorem pow_loop {kx : Int → H → Prop} {k : Int} (h1 : k ≤ 62) (z : kx (2 ^ k.toNat) h) : ∀ m i : Nat, i + m = k.toNat → spec_l1Pow_M_l0 kx (m + 1) k (2 ^ i) i h := by
  intro m
  induction m with
  | zero =>
    intro i e
    rw [spec_l1Pow_M_l0, show i = k.toNat by omega]; exact ifD_f (by omega) z
  | succ m ih =>
    intro i e
    rw [spec_l1Pow_M_l0]
    refine ifD_t (by omega) ?_
    rw [wrap_suc (by omega)]
    have l : 2 ^ i ≤ 2 ^ 62 := Nat.pow_le_pow_right (by omega) (by omega)
    have : IntKind.u64.wrap (2 ^ i * 2) = 2 ^ (i + 1) := by
      rw [show (2 : Int) ^ i = ((2 ^ i : Nat) : Int) by simp, show (2 : Int) ^ (i + 1) = ((2 ^ (i + 1) : Nat) : Int) by simp, Nat.pow_succ]
      generalize 2 ^ i = q at l
      rw [IntWalk.u64_in _ (by omega)]; omega
    rw [this]; exact ih (i + 1) (by omega)
theorem pow_spec (h0 : 0 ≤ k) (h1 : k ≤ 62) (z : K (.int .i64 (2 ^ k.toNat)) h) : callD Try.prog 60 ⟨[.int .i64 k]⟩ h K := by
  refine spec_l16Pow_M_call ?_
  rw [spec_l16Pow_M]
  refine spec_l1Pow_M_call ?_
  rw [spec_l1Pow_M]
  refine ⟨k.toNat + 1, pow_loop h1 ?_ k.toNat 0 (by omega)⟩
  rw [asI_eq]
  have l : 2 ^ k.toNat ≤ 2 ^ 62 := Nat.pow_le_pow_right (by omega) (by omega)
  rw [show (2 : Int) ^ k.toNat = ((2 ^ k.toNat : Nat) : Int) by simp] at z ⊢
  generalize 2 ^ k.toNat = q at *
  rw [wrap64 (by omega) (by omega)]; exact z
theorem pow_pos (k : Nat) : (0 : Int) < 2 ^ k := by rw [show (2 : Int) ^ k = ((2 ^ k : Nat) : Int) by simp]; have := Nat.two_pow_pos k; omega
theorem has_spec (h0 : 0 ≤ k) (h1 : k ≤ 62) (z : K (.bool (hasI s k)) h) : callD Try.prog 40 ⟨[.int .i64 s, .int .i64 k]⟩ h K := by
  refine spec_l16Has_M_call ?_
  rw [spec_l16Has_M]
  refine pow_spec h0 h1 ?_
  rw [asI_eq, req_eq (by have := pow_pos k.toNat; omega)]; exact z
theorem with_spec (h0 : 0 ≤ k) (h1 : k ≤ 62) (z : K (.int .i64 (withI s k)) h) : callD Try.prog 63 ⟨[.int .i64 s, .int .i64 k]⟩ h K := by
  refine spec_l16With_M_call ?_
  rw [spec_l16With_M]
  refine has_spec h0 h1 ?_
  rw [asB_eq]; rw [withI] at z
  by_cases f : hasI s k = true
  · rw [f, ifB_t]; rw [if_pos f] at z; exact z
  · rw [if_neg f] at z; simp only [Bool.not_eq_true] at f; rw [f, ifB_f]
    refine pow_spec h0 h1 ?_
    rw [asI_eq]; exact z
theorem less_spec (h0 : 0 ≤ k) (h1 : k ≤ 62) (z : K (.int .i64 (lessI s k)) h) : callD Try.prog 52 ⟨[.int .i64 s, .int .i64 k]⟩ h K := by
  refine spec_l16Less_M_call ?_
  rw [spec_l16Less_M]
  refine has_spec h0 h1 ?_
  rw [asB_eq]; rw [lessI] at z
  by_cases f : hasI s k = true
  · rw [f, ifB_t]; rw [if_pos f] at z
    refine pow_spec h0 h1 ?_
    rw [asI_eq]; exact z
  · rw [if_neg f] at z; simp only [Bool.not_eq_true] at f; rw [f, ifB_f]; exact z
/-- a set of signals 1 .. 15 -/
def SetI (s : Int) : Prop := 0 ≤ s ∧ s < 65536 ∧ s % 2 = 0
instance : Decidable (SetI s) := inferInstanceAs (Decidable (_ ∧ _))
theorem set_spec (z : K (.bool (decide (SetI s))) h) : callD Try.prog 42 ⟨[.int .i64 s]⟩ h K := by
  refine spec_l16Set_M_call ?_
  rw [spec_l16Set_M]
  refine ifB_dec (fun f => ?_) fun f => ?_
  · refine pow_spec (by omega) (by omega) ?_
    rw [asI_eq]
    refine ifB_dec (fun g => ?_) fun g => ?_
    · have g : s < 65536 := g
      rw [Int.tmod_eq_emod_of_nonneg (by omega)]
      have : (s % 2 == 0) = decide (SetI s) := by
        have : SetI s ↔ s % 2 = 0 := ⟨fun t => t.2.2, fun t => ⟨by omega, g, t⟩⟩
        by_cases e : s % 2 = 0
        · simp [this, e]
        · simp [this, e]
      rw [this]; exact z
    · have g : ¬ s < 65536 := g
      rw [decide_eq_false (by intro t; exact g t.2.1)] at z; exact z
  · rw [decide_eq_false (by intro t; exact f t.1)] at z; exact z
def SoftI (s : Int) : Prop := SetI s ∧ hasI s 9 = false ∧ hasI s 12 = false
instance : Decidable (SoftI s) := inferInstanceAs (Decidable (_ ∧ _))
theorem soft_spec (z : K (.bool (decide (SoftI s))) h) : callD Try.prog 43 ⟨[.int .i64 s]⟩ h K := by
  refine spec_l16Soft_M_call ?_
  rw [spec_l16Soft_M]
  refine set_spec ?_
  rw [asB_eq]
  refine ifB_dec (fun f => ?_) fun f => ?_
  · refine has_spec (by omega) (by omega) ?_
    rw [asB_eq]
    cases e : hasI s 9 with
    | true => rw [decide_eq_false (by intro t; exact absurd (e.symm.trans t.2.1) (by simp))] at z; exact z
    | false =>
      show ifB true _ _
      rw [ifB_t]
      refine has_spec (by omega) (by omega) ?_
      rw [asB_eq]
      cases e2 : hasI s 12 with
      | true => rw [decide_eq_false (by intro t; exact absurd (e2.symm.trans t.2.2) (by simp))] at z; exact z
      | false => rw [decide_eq_true ⟨f, e, e2⟩] at z; exact z
  · rw [decide_eq_false (by intro t; exact f t.1)] at z; exact z


end Go.Proofs.Ytgcjjapmdbgofaa
