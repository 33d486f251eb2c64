import Derived.Test.YtgcjjapmdbgofaaQo
set_option linter.unusedVariables false
namespace Go.Proofs.Ytgcjjapmdbgofaa
open Go.Eng
variable {xs : List P} {x : P} {s k : Int} {i j n : Nat}

/-! both checks are one -/
theorem wrap_ite (n : Int) : IntKind.i64.wrap n = if 9223372036854775808 ≤ n % 18446744073709551616 then n % 18446744073709551616 - 18446744073709551616 else n % 18446744073709551616 := by
  simp [IntKind.wrap, IntKind.bits, IntKind.signed]
theorem wrap_bmod (n : Int) : IntKind.i64.wrap n = n.bmod (2 ^ 64) := by
  rw [wrap_ite, Int.bmod_def]
  have e : ((2 ^ 64 : Nat) : Int) = 18446744073709551616 := by decide
  rw [e]
  by_cases h : 9223372036854775808 ≤ n % 18446744073709551616
  · rw [if_pos h, if_neg (by omega)]
  · rw [if_neg h, if_pos (by omega)]
abbrev B64 (s : Int) : BitVec 64 := BitVec.ofInt 64 s
theorem bOr_bv (a b : Int) : bOr .i64 a b = (B64 a ||| B64 b).toInt := by rw [bOr, wrap_bmod, BitVec.toInt_eq_toNat_bmod]; rfl
theorem bAnd_bv (a b : Int) : bAnd .i64 a b = (B64 a &&& B64 b).toInt := by rw [bAnd, wrap_bmod, BitVec.toInt_eq_toNat_bmod]; rfl
theorem bAndNot_bv (a b : Int) : bAndNot .i64 a b = (B64 a &&& ~~~ B64 b).toInt := by rw [bAndNot, wrap_bmod, BitVec.toInt_eq_toNat_bmod]; rfl
theorem bv_zero (v : BitVec 64) : v.toInt = 0 ↔ v = 0#64 := by
  constructor
  · intro e
    have : BitVec.ofInt 64 v.toInt = BitVec.ofInt 64 0 := by rw [e]
    rw [BitVec.ofInt_toInt] at this; exact this
  · intro e; subst e; rfl
theorem B64_toInt (v : BitVec 64) : B64 v.toInt = v := BitVec.ofInt_toInt
theorem or_zero (a b : BitVec 64) : a ||| b = 0#64 ↔ a = 0#64 ∧ b = 0#64 := by
  constructor
  · intro e
    constructor <;> (refine BitVec.eq_of_getLsbD_eq fun j hj => ?_) <;> (have := congrArg (fun v => v.getLsbD j) e; simp only [BitVec.getLsbD_or, BitVec.getLsbD_zero, Bool.or_eq_false_iff] at this ⊢)
    · exact this.1
    · exact this.2
  · rintro ⟨e, f⟩; subst e f; rfl
theorem or_mask (a b m : BitVec 64) : (a ||| b) &&& m = 0#64 ↔ a &&& m = 0#64 ∧ b &&& m = 0#64 := by
  rw [← or_zero]
  have : (a ||| b) &&& m = (a &&& m) ||| (b &&& m) := by
    refine BitVec.eq_of_getLsbD_eq fun j hj => ?_
    simp only [BitVec.getLsbD_or, BitVec.getLsbD_and]
    cases a.getLsbD j <;> cases b.getLsbD j <;> cases m.getLsbD j <;> rfl
  rw [this]
def In (s : Int) : Prop := -9223372036854775808 ≤ s ∧ s ≤ 9223372036854775807
theorem B64_zero (r : In s) : B64 s = 0#64 ↔ s = 0 := by
  constructor
  · intro e
    have := congrArg BitVec.toInt e
    rw [BitVec.toInt_ofInt, Int.bmod_eq_of_le (by have := r.1; omega) (by have := r.2; omega)] at this
    exact this
  · intro e; subst e; rfl
theorem andnot_bits {K : Nat} (hK : K < 2 ^ 63) (r : In s) : bAndNot .i64 s K = 0 ↔ ∃ m : Nat, s = m ∧ ∀ j, m.testBit j = true → K.testBit j = true := by
  rcases Int.lt_or_le s 0 with neg | pos
  · refine ⟨fun e => ?_, fun ⟨m, e, _⟩ => absurd neg (by omega)⟩
    exfalso
    rw [bAndNot_bv, bv_zero] at e
    have e1 : (B64 s).getLsbD 63 = true := by
      have : (B64 s).msb = true := by
        rw [BitVec.msb_eq_toInt, BitVec.toInt_ofInt, Int.bmod_eq_of_le (by have := r.1; omega) (by have := r.2; omega)]
        simp [neg]
      rw [BitVec.msb_eq_getLsbD_last] at this; simpa using this
    have e2 : (B64 (K : Int)).getLsbD 63 = false := by
      have : (B64 (K : Int)).msb = false := by
        rw [BitVec.msb_eq_toInt, BitVec.toInt_ofInt, Int.bmod_eq_of_le (by omega) (by omega)]
        simp
      rw [BitVec.msb_eq_getLsbD_last] at this; simpa using this
    have := congrArg (fun v => v.getLsbD 63) e
    simp only [BitVec.getLsbD_and, BitVec.getLsbD_not, e1, e2, BitVec.getLsbD_zero] at this
    simp at this
  · obtain ⟨m, rfl⟩ : ∃ m : Nat, s = m := ⟨s.toNat, by omega⟩
    have hm : m < 2 ^ 63 := by have := r.2; omega
    rw [bAndNot_nat hm hK]
    constructor
    · intro e
      have e : m ^^^ (m &&& K) = 0 := by omega
      refine ⟨m, rfl, fun j hj => ?_⟩
      have := congrArg (fun v => v.testBit j) e
      simp only [Nat.testBit_xor, Nat.testBit_and, hj, Nat.zero_testBit] at this
      simpa using this
    · rintro ⟨m', e, f⟩
      have e : m = m' := by omega
      subst e
      have : m ^^^ (m &&& K) = 0 := Nat.eq_of_testBit_eq fun j => by
        rw [Nat.testBit_xor, Nat.testBit_and, Nat.zero_testBit]
        cases e : m.testBit j with
        | false => rfl
        | true => rw [f j e]; rfl
      omega
theorem bits_soft : ∀ j, (60926 : Nat).testBit j = true ↔ (65534 : Nat).testBit j = true ∧ j ≠ 9 ∧ j ≠ 12 := by
  intro j
  by_cases h : j < 16
  · have : ∀ j, j < 16 → ((60926 : Nat).testBit j = true ↔ (65534 : Nat).testBit j = true ∧ j ≠ 9 ∧ j ≠ 12) := by decide
    exact this j h
  · have a : (60926 : Nat).testBit j = false := Nat.testBit_lt_two_pow (Nat.lt_of_lt_of_le (by decide : 60926 < 2 ^ 16) (Nat.pow_le_pow_right (by omega) (by omega)))
    have b : (65534 : Nat).testBit j = false := Nat.testBit_lt_two_pow (Nat.lt_of_lt_of_le (by decide : 65534 < 2 ^ 16) (Nat.pow_le_pow_right (by omega) (by omega)))
    rw [a, b]; simp
theorem soft_iff (r : In s) : bAndNot .i64 s 60926 = 0 ↔ SoftI s := by
  have e0 : (60926 : Int) = ((60926 : Nat) : Int) := rfl
  have e1 : (65534 : Int) = ((65534 : Nat) : Int) := rfl
  rw [e0, andnot_bits (by omega) r, SoftI, ← set_mask r.1 r.2, e1, andnot_bits (by omega) r]
  constructor
  · rintro ⟨m, rfl, f⟩
    have hm : m < 2 ^ 63 := by have := r.2; omega
    have h9 : hasI (m : Int) ((9 : Nat) : Int) = m.testBit 9 := hasI_nat hm
    have h12 : hasI (m : Int) ((12 : Nat) : Int) = m.testBit 12 := hasI_nat hm
    refine ⟨⟨m, rfl, fun j hj => ((bits_soft j).mp (f j hj)).1⟩, ?_, ?_⟩
    · show hasI (m : Int) ((9 : Nat) : Int) = false
      rw [h9]
      cases e : m.testBit 9 with
      | false => rfl
      | true => exact absurd rfl ((bits_soft 9).mp (f 9 e)).2.1
    · show hasI (m : Int) ((12 : Nat) : Int) = false
      rw [h12]
      cases e : m.testBit 12 with
      | false => rfl
      | true => exact absurd rfl ((bits_soft 12).mp (f 12 e)).2.2
  · rintro ⟨⟨m, rfl, f⟩, n9, n12⟩
    have hm : m < 2 ^ 63 := by have := r.2; omega
    have h9 : hasI (m : Int) 9 = m.testBit 9 := hasI_nat (j := 9) hm
    have h12 : hasI (m : Int) 12 = m.testBit 12 := hasI_nat (j := 12) hm
    refine ⟨m, rfl, fun j hj => (bits_soft j).mpr ⟨f j hj, fun e => ?_, fun e => ?_⟩⟩
    · subst e; rw [h9, hj] at n9; cases n9
    · subst e; rw [h12, hj] at n12; cases n12
/-- the bits of a process, as memory holds them -/
structure InP (x : P) : Prop where
  pe : In x.pending
  ma : In x.mask
  ig : In x.ignored
  ca : In x.caught
theorem Set16 (h : SetI s) : R16 s := ⟨h.1, h.2.1⟩
theorem one_iff {last : Int} (r : InP x) : One last x ↔ OneS last x := by
  have sof : bAndNot .i64 (bOr .i64 (bOr .i64 x.mask x.ignored) x.caught) 60926 = 0 ↔ SoftI x.mask ∧ SoftI x.ignored ∧ SoftI x.caught := by
    rw [← soft_iff r.ma, ← soft_iff r.ig, ← soft_iff r.ca]
    simp only [bAndNot_bv, bOr_bv, bv_zero, B64_toInt, or_mask]
    exact ⟨fun h => ⟨h.1.1, h.1.2, h.2⟩, fun h => ⟨⟨h.1, h.2.1⟩, h.2.2⟩⟩
  have pen := set_mask r.pe.1 r.pe.2
  have dis (a : SoftI x.ignored) (b : SoftI x.caught) : bAnd .i64 x.ignored x.caught = 0 ↔ ∀ k : Nat, 1 ≤ k → k ≤ 15 → hasI x.ignored k = true → hasI x.caught k = true → False := by
    obtain ⟨m1, e1, l1⟩ := (Set16 a.1).nat
    obtain ⟨m2, e2, l2⟩ := (Set16 b.1).nat
    have z1 : m1.testBit 0 = false := by
      have := a.1.2.2
      rw [Nat.testBit_zero]; have : m1 % 2 = 0 := by omega
      simp [this]
    rw [e1, e2, bAnd_nat (by omega) (by omega)]
    constructor
    · intro e k _ _ h1 h2
      have e : m1 &&& m2 = 0 := by omega
      rw [hasI_nat (by omega)] at h1 h2
      have := congrArg (fun v => v.testBit k) e
      simp [Nat.testBit_and, h1, h2] at this
    · intro f
      have : m1 &&& m2 = 0 := Nat.eq_of_testBit_eq fun j => by
        rw [Nat.testBit_and, Nat.zero_testBit]
        by_cases j0 : j = 0
        · subst j0; rw [z1]; rfl
        · by_cases j16 : 16 ≤ j
          · have : m1.testBit j = false := Nat.testBit_lt_two_pow (Nat.lt_of_lt_of_le (by omega : m1 < 2 ^ 16) (Nat.pow_le_pow_right (by omega) j16))
            rw [this]; rfl
          · have := f j (by omega) (by omega)
            rw [hasI_nat (by omega), hasI_nat (by omega)] at this
            cases h1 : m1.testBit j <;> cases h2 : m2.testBit j <;> simp [h1, h2] at this ⊢
      omega
  have zz (p : SetI x.pending) (a : SoftI x.mask) (b : SoftI x.ignored) (c : SoftI x.caught) :
      bOr .i64 (bOr .i64 (bOr .i64 x.pending x.mask) x.ignored) x.caught = 0 ↔ IntKind.i64.wrap (IntKind.i64.wrap (IntKind.i64.wrap (x.pending + x.mask) + x.ignored) + x.caught) = 0 := by
    have p1 := Set16 p; have a1 := Set16 a.1; have b1 := Set16 b.1; have c1 := Set16 c.1
    simp only [bOr_bv, bv_zero, B64_toInt, or_zero, B64_zero r.pe, B64_zero r.ma, B64_zero r.ig, B64_zero r.ca]
    have := p1.1; have := p1.2; have := a1.1; have := a1.2; have := b1.1; have := b1.2; have := c1.1; have := c1.2
    rw [wrap64 (n := x.pending + x.mask) (by omega) (by omega), wrap64 (n := x.pending + x.mask + x.ignored) (by omega) (by omega), wrap64 (by omega) (by omega)]
    omega
  constructor
  · intro t
    have p := pen.mp t.pend
    obtain ⟨a, b, c⟩ := sof.mp t.soft
    exact ⟨t.id, t.id32, t.g1, t.g32, t.u0, t.u255, t.s1, t.s3, t.t0, t.t255, t.tz, p, a, b, c, (dis b c).mp t.dis, fun h => (zz p a b c).mp (t.zz h)⟩
  · intro t
    exact ⟨t.id, t.id32, t.g1, t.g32, t.u0, t.u255, t.s1, t.s3, t.t0, t.t255, t.tz, pen.mpr t.sp, sof.mpr ⟨t.sm, t.si, t.sc⟩, (dis t.si t.sc).mpr t.dis, fun h => (zz t.sp t.sm t.si t.sc).mpr (t.zz h)⟩
end Go.Proofs.Ytgcjjapmdbgofaa
