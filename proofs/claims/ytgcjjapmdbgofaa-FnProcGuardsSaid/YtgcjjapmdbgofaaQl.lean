import Derived.Test.YtgcjjapmdbgofaaQk
set_option linter.unusedVariables false
namespace Go.Proofs.Ytgcjjapmdbgofaa
open Go.Eng
variable {h h0 h' : H} {b o c n i j p q r : Nat} {a : Option Addr} {xs : List P} {x me : P} {K : Value → H → Prop} {s k to sig id kind g : Int}

/-! which signal is taken -/
theorem low_none (f : Int → Bool) : ∀ (m : Nat) acc, (∀ j : Nat, 1 ≤ j → j ≤ m → f j = false) → low f m acc = acc := by
  intro m
  induction m with
  | zero => intro acc _; rfl
  | succ m ih =>
    intro acc no
    rw [low, no (m + 1) (by omega) (by omega)]
    exact ih acc fun j a b => no j a (by omega)
theorem low_some (f : Int → Bool) (k : Nat) (k1 : 1 ≤ k) (hk : f k = true) (no : ∀ j : Nat, 1 ≤ j → j < k → f j = false) : ∀ (m : Nat) acc, k ≤ m → low f m acc = k := by
  intro m
  induction m with
  | zero => intro acc h; omega
  | succ m ih =>
    intro acc h
    rw [low]
    by_cases e : k = m + 1
    · subst e
      rw [hk]
      exact low_none f m _ fun j a b => no j a (by omega)
    · exact ih _ (by omega)
theorem least_nat (p : Nat → Prop) [DecidablePred p] : ∀ m, (∀ j, 1 ≤ j → j ≤ m → ¬ p j) ∨ ∃ k, 1 ≤ k ∧ k ≤ m ∧ p k ∧ ∀ j, 1 ≤ j → j < k → ¬ p j := by
  intro m
  induction m with
  | zero => left; intro j a b; omega
  | succ m ih =>
    rcases ih with h | ⟨k, k1, k2, k3, k4⟩
    · by_cases e : p (m + 1)
      · exact .inr ⟨m + 1, by omega, by omega, e, fun j a b => h j a (by omega)⟩
      · refine .inl fun j a b => ?_
        by_cases q : j = m + 1
        · subst q; exact e
        · exact h j a (by omega)
    · exact .inr ⟨k, k1, by omega, k3, k4⟩
def setOf (x : P) : Int := if x.state = 2 then bAnd .i64 (bAndNot .i64 x.pending x.mask) 512 else bAndNot .i64 x.pending x.mask
/-- what the program finds -/
structure SigOk (x : P) : Prop where
  r : R16 (setOf x)
  z : setOf x = 0 ↔ takeSig x = 0
  nine : hasI (setOf x) 9 = true → takeSig x = 9
  least : setOf x ≠ 0 → hasI (setOf x) 9 = false → ∃ k : Nat, takeSig x = k ∧ 1 ≤ k ∧ k ≤ 15 ∧ hasI (setOf x) k = true ∧ ∀ j : Nat, 1 ≤ j → j < k → hasI (setOf x) j = false
theorem sig_ok (r : Rng x) (even : x.pending % 2 = 0) (m9 : hasI x.mask 9 = false) : SigOk x := by
  obtain ⟨m1, e1, l1⟩ := r.pe.nat
  obtain ⟨m2, e2, l2⟩ := r.ma.nat
  have lx : m1 ^^^ (m1 &&& m2) < 2 ^ 16 := Nat.xor_lt_two_pow (by omega) (Nat.lt_of_le_of_lt Nat.and_le_left (by omega))
  have eS : bAndNot .i64 x.pending x.mask = ((m1 ^^^ (m1 &&& m2) : Nat) : Int) := by rw [e1, e2, bAndNot_nat (by omega) (by omega)]
  have bS : ∀ j : Nat, (m1 ^^^ (m1 &&& m2)).testBit j = (m1.testBit j && !m2.testBit j) := by
    intro j; rw [Nat.testBit_xor, Nat.testBit_and]; cases m1.testBit j <;> cases m2.testBit j <;> rfl
  have hp : ∀ j : Nat, hasI x.pending j = m1.testBit j := fun j => by rw [e1, hasI_nat (by omega)]
  have hm : ∀ j : Nat, hasI x.mask j = m2.testBit j := fun j => by rw [e2, hasI_nat (by omega)]
  have b9 : m2.testBit 9 = false := by rw [← hm 9]; exact m9
  have b0 : m1.testBit 0 = false := by
    rw [Nat.testBit_zero]
    have : m1 % 2 = 0 := by omega
    simp [this]
  have hi : ∀ j : Nat, 16 ≤ j → ∀ m : Nat, m < 65536 → m.testBit j = false := fun j hj m hm => Nat.testBit_lt_two_pow (Nat.lt_of_lt_of_le hm (Nat.pow_le_pow_right (n := 2) (i := 16) (by omega) hj))
  have tz : ∀ m : Nat, m = 0 ↔ ∀ j, m.testBit j = false := fun m => ⟨fun e j => by subst e; simp, fun f => Nat.eq_of_testBit_eq fun j => by rw [f j]; simp⟩
  have e512 : (512 : Int) = ((2 ^ 9 : Nat) : Int) := rfl
  by_cases st : x.state = 2
  · have eo : setOf x = (((m1 ^^^ (m1 &&& m2)) &&& 2 ^ 9 : Nat) : Int) := by
      rw [setOf, if_pos st, eS, e512, bAnd_nat (by omega) (by omega)]
    have lo : (m1 ^^^ (m1 &&& m2)) &&& 2 ^ 9 < 65536 := Nat.lt_of_le_of_lt Nat.and_le_left lx
    have bo : ∀ j : Nat, ((m1 ^^^ (m1 &&& m2)) &&& 2 ^ 9).testBit j = (m1.testBit 9 && decide (9 = j)) := by
      intro j
      rw [Nat.testBit_and, bS, Nat.testBit_two_pow]
      by_cases e : 9 = j
      · subst e; simp [b9]
      · simp [e]
    have ho : ∀ j : Nat, hasI (setOf x) j = (m1.testBit 9 && decide (9 = j)) := fun j => by rw [eo, hasI_nat (by omega), bo]
    have e9 : takeSig x = if m1.testBit 9 then 9 else 0 := by
      rw [takeSig, if_pos st]
      have := hp 9
      rw [show hasI x.pending 9 = m1.testBit 9 from this]
    refine ⟨by rw [eo]; exact ⟨by omega, by omega⟩, ?_, fun f => ?_, fun f f9 => ?_⟩
    · rw [eo, e9]
      cases e : m1.testBit 9 with
      | true =>
        simp only [if_true]
        constructor
        · intro t
          have t : (m1 ^^^ (m1 &&& m2)) &&& 2 ^ 9 = 0 := by omega
          have := (tz _).mp t 9
          rw [bo, e] at this; simp at this
        · intro t; omega
      | false =>
        simp only [Bool.false_eq_true, if_false]
        refine ⟨fun _ => trivial, fun _ => ?_⟩
        have : (m1 ^^^ (m1 &&& m2)) &&& 2 ^ 9 = 0 := (tz _).mpr fun j => by rw [bo, e]; rfl
        omega
    · have this : hasI (setOf x) 9 = (m1.testBit 9 && decide (9 = 9)) := ho 9
      rw [show hasI (setOf x) 9 = true from f] at this
      simp at this
      rw [e9, this]; rfl
    · exfalso
      have this : hasI (setOf x) 9 = (m1.testBit 9 && decide (9 = 9)) := ho 9
      rw [show hasI (setOf x) 9 = false from f9] at this
      simp at this
      apply f
      rw [eo]
      have : (m1 ^^^ (m1 &&& m2)) &&& 2 ^ 9 = 0 := (tz _).mpr fun j => by rw [bo, this]; rfl
      omega
  · have eo : setOf x = ((m1 ^^^ (m1 &&& m2) : Nat) : Int) := by rw [setOf, if_neg st, eS]
    have ho : ∀ j : Nat, hasI (setOf x) j = (m1.testBit j && !m2.testBit j) := fun j => by rw [eo, hasI_nat (by omega), bS]
    have f' : (fun s => hasI x.pending s && !hasI x.mask s) = fun s => hasI x.pending s && !hasI x.mask s := rfl
    have rest (n9 : m1.testBit 9 = false) : takeSig x = low (fun s => hasI x.pending s && !hasI x.mask s) 15 0 := by
      rw [takeSig, if_neg (by rw [show hasI x.pending 9 = m1.testBit 9 from hp 9, n9]; simp), if_neg st]
    have zero_iff : setOf x = 0 ↔ ∀ j : Nat, 1 ≤ j → j ≤ 15 → (m1.testBit j && !m2.testBit j) = false := by
      rw [eo]
      constructor
      · intro t j _ _
        have t : m1 ^^^ (m1 &&& m2) = 0 := by omega
        rw [← bS]; exact (tz _).mp t j
      · intro t
        have : m1 ^^^ (m1 &&& m2) = 0 := (tz _).mpr fun j => by
          rw [bS]
          by_cases j0 : j = 0
          · subst j0; rw [b0]; rfl
          · by_cases j16 : 16 ≤ j
            · rw [hi j j16 m1 l1]; rfl
            · exact t j (by omega) (by omega)
        omega
    have nine : m1.testBit 9 = true → takeSig x = 9 := fun t => by rw [takeSig, if_pos (by rw [show hasI x.pending 9 = m1.testBit 9 from hp 9, t])]
    refine ⟨by rw [eo]; exact ⟨by omega, by omega⟩, ?_, fun f => ?_, fun f f9 => ?_⟩
    · constructor
      · intro t
        have t := zero_iff.mp t
        have n9 : m1.testBit 9 = false := by have := t 9 (by omega) (by omega); rw [b9] at this; simpa using this
        rw [rest n9]
        exact low_none _ 15 0 fun j a b => by
          show (hasI x.pending (j : Int) && !hasI x.mask (j : Int)) = false
          rw [hp, hm]; exact t j a b
      · intro t
        rw [zero_iff]
        intro j j1 j15
        cases e : (m1.testBit j && !m2.testBit j) with
        | false => rfl
        | true =>
          exfalso
          have n9 : m1.testBit 9 = false := by
            cases e9 : m1.testBit 9 with
            | false => rfl
            | true => rw [nine e9] at t; omega
          rcases least_nat (fun j => (m1.testBit j && !m2.testBit j) = true) 15 with no | ⟨k, k1, k2, k3, k4⟩
          · exact no j j1 j15 e
          · rw [rest n9, low_some _ k k1 (by show (hasI x.pending (k : Int) && !hasI x.mask (k : Int)) = true; rw [hp, hm]; exact k3)
              (fun j a b => by show (hasI x.pending (j : Int) && !hasI x.mask (j : Int)) = false; rw [hp, hm]; have := k4 j a b; simpa using this) 15 0 k2] at t
            omega
    · have this : hasI (setOf x) 9 = (m1.testBit 9 && !m2.testBit 9) := ho 9
      rw [show hasI (setOf x) 9 = true from f, b9] at this
      simp at this
      exact nine this
    · have n9 : m1.testBit 9 = false := by
        have this : hasI (setOf x) 9 = (m1.testBit 9 && !m2.testBit 9) := ho 9
        rw [show hasI (setOf x) 9 = false from f9, b9] at this
        simpa using this
      rcases least_nat (fun j => (m1.testBit j && !m2.testBit j) = true) 15 with no | ⟨k, k1, k2, k3, k4⟩
      · exact absurd (zero_iff.mpr fun j a b => by have := no j a b; simpa using this) f
      · refine ⟨k, ?_, k1, k2, by rw [ho]; exact k3, fun j a b => by rw [ho]; have := k4 j a b; simpa using this⟩
        rw [rest n9]
        exact low_some _ k k1 (by show (hasI x.pending (k : Int) && !hasI x.mask (k : Int)) = true; rw [hp, hm]; exact k3)
          (fun j a b => by show (hasI x.pending (j : Int) && !hasI x.mask (j : Int)) = false; rw [hp, hm]; have := k4 j a b; simpa using this) 15 0 k2
end Go.Proofs.Ytgcjjapmdbgofaa
