import Derived.Test.YtgcjjapmdbgofaaQh
set_option linter.unusedVariables false
namespace Go.Proofs.Ytgcjjapmdbgofaa
open Go.Eng
variable {h h0 h' : H} {b o c n i j p : Nat} {a : Option Addr} {xs : List P} {x me : P} {K : Value → H → Prop} {s k to sig id kind : Int}

/-! sets of bits, as the program writes them -/
def R16 (s : Int) : Prop := 0 ≤ s ∧ s < 65536
theorem R16.nat (r : R16 s) : ∃ m : Nat, s = m ∧ m < 65536 := ⟨s.toNat, by have := r.1; omega, by have := r.1; have := r.2; omega⟩
theorem bit_less (r : R16 s) (h0 : 0 ≤ k) (h1 : k ≤ 15) : bAndNot .i64 s (sShl .i64 1 k) = lessI s k := by
  obtain ⟨m, rfl, hm⟩ := r.nat
  obtain ⟨j, rfl⟩ : ∃ j : Nat, k = j := ⟨k.toNat, by omega⟩
  have hj : 2 ^ j ≤ 2 ^ 15 := Nat.pow_le_pow_right (by omega) (by omega)
  rw [sShl_nat (by omega), bAndNot_nat (by omega) (by omega), lessI_nat (by omega) (by omega)]
theorem bit_with (r : R16 s) (h0 : 0 ≤ k) (h1 : k ≤ 15) : bOr .i64 s (sShl .i64 1 k) = withI s k := by
  obtain ⟨m, rfl, hm⟩ := r.nat
  obtain ⟨j, rfl⟩ : ∃ j : Nat, k = j := ⟨k.toNat, by omega⟩
  have hj : 2 ^ j ≤ 2 ^ 15 := Nat.pow_le_pow_right (by omega) (by omega)
  rw [sShl_nat (by omega), bOr_nat (by omega) (by omega), withI_nat (by omega) (by omega)]
theorem bit_has (r : R16 s) (h0 : 0 ≤ k) (h1 : k ≤ 15) : bAnd .i64 (sShr .i64 s k) 1 = if hasI s k then 1 else 0 := by
  obtain ⟨m, rfl, hm⟩ := r.nat
  obtain ⟨j, rfl⟩ : ∃ j : Nat, k = j := ⟨k.toNat, by omega⟩
  rw [bit_nat (by omega) (by omega), hasI_nat (by omega)]
theorem R16.less (r : R16 s) (h0 : 0 ≤ k) (h1 : k ≤ 15) : R16 (lessI s k) := by
  obtain ⟨m, rfl, hm⟩ := r.nat
  obtain ⟨j, rfl⟩ : ∃ j : Nat, k = j := ⟨k.toNat, by omega⟩
  rw [lessI_nat (by omega) (by omega)]
  have : m ^^^ (m &&& 2 ^ j) < 2 ^ 16 := Nat.xor_lt_two_pow (by omega) (Nat.lt_of_le_of_lt Nat.and_le_left (by omega))
  exact ⟨by omega, by omega⟩
theorem R16.with (r : R16 s) (h0 : 0 ≤ k) (h1 : k ≤ 15) : R16 (withI s k) := by
  obtain ⟨m, rfl, hm⟩ := r.nat
  obtain ⟨j, rfl⟩ : ∃ j : Nat, k = j := ⟨k.toNat, by omega⟩
  rw [withI_nat (by omega) (by omega)]
  have hj : 2 ^ j ≤ 2 ^ 15 := Nat.pow_le_pow_right (by omega) (by omega)
  have : m ||| 2 ^ j < 2 ^ 16 := Nat.or_lt_two_pow (by omega) (by omega)
  exact ⟨by omega, by omega⟩
/-- no bits but 1 .. 15 -/
theorem mask_nat {m : Nat} (hm : m < 2 ^ 63) : bAndNot .i64 m 65534 = 0 ↔ SetI m := by
  have e0 : (65534 : Int) = ((65534 : Nat) : Int) := rfl
  have bits : ∀ j, j < 16 → 1 ≤ j → (65534 : Nat).testBit j = true := by decide
  rw [e0, bAndNot_nat hm (by omega)]
  constructor
  · intro e
    have e : m ^^^ (m &&& 65534) = 0 := by omega
    have em : m = m &&& 65534 := by
      have := congrArg (fun v => v ^^^ (m &&& 65534)) e
      simpa [Nat.xor_assoc] using this
    have l : m &&& 65534 ≤ 65534 := Nat.and_le_right
    have b0 : m.testBit 0 = false := by rw [em, Nat.testBit_and]; simp
    rw [Nat.testBit_zero] at b0
    have : m % 2 ≠ 1 := by simpa using b0
    exact ⟨by omega, by omega, by omega⟩
  · rintro ⟨_, l, ev⟩
    have em : m &&& 65534 = m := by
      refine Nat.eq_of_testBit_eq fun j => ?_
      rw [Nat.testBit_and]
      by_cases j0 : j = 0
      · subst j0
        have : m.testBit 0 = false := by rw [Nat.testBit_zero]; have : m % 2 = 0 := by omega
                                         simp [this]
        rw [this]; rfl
      · by_cases j16 : j < 16
        · rw [bits j j16 (by omega), Bool.and_true]
        · have : m.testBit j = false := Nat.testBit_lt_two_pow (Nat.lt_of_lt_of_le (by omega : m < 2 ^ 16) (Nat.pow_le_pow_right (by omega) (by omega)))
          rw [this]; rfl
    rw [em, Nat.xor_self]; rfl
theorem set_mask {s : Int} (lo : -9223372036854775808 ≤ s) (hi : s ≤ 9223372036854775807) : bAndNot .i64 s 65534 = 0 ↔ SetI s := by
  rcases Int.lt_or_le s 0 with neg | pos
  · refine ⟨fun e => ?_, fun t => absurd t.1 (by omega)⟩
    exfalso
    have nat : (BitVec.ofInt 64 s &&& ~~~ BitVec.ofInt 64 65534).toNat < 2 ^ 64 := (BitVec.ofInt 64 s &&& ~~~ BitVec.ofInt 64 65534).isLt
    have e : IntKind.i64.wrap ((BitVec.ofInt 64 s &&& ~~~ BitVec.ofInt 64 65534).toNat : Int) = 0 := e
    have z : (BitVec.ofInt 64 s &&& ~~~ BitVec.ofInt 64 65534).toNat = 0 := by
      generalize (BitVec.ofInt 64 s &&& ~~~ BitVec.ofInt 64 65534).toNat = q at *
      by_cases l : q < 2 ^ 63
      · rw [wrap64 (by omega) (by omega)] at e; omega
      · have : IntKind.i64.wrap (q : Int) = (q : Int) - 18446744073709551616 := by
          simp [IntKind.wrap, IntKind.bits, IntKind.signed]; omega
        rw [this] at e; omega
    have b : (BitVec.ofInt 64 s &&& ~~~ BitVec.ofInt 64 65534).getLsbD 63 = true := by
      have e1 : (BitVec.ofInt 64 s).getLsbD 63 = true := by
        have : (BitVec.ofInt 64 s).msb = true := by
          rw [BitVec.msb_eq_toInt, BitVec.toInt_ofInt]
          have : s.bmod (2 ^ 64) = s := Int.bmod_eq_of_le (by omega) (by omega)
          rw [this]; simp [neg]
        rw [BitVec.msb_eq_getLsbD_last] at this; simpa using this
      rw [BitVec.getLsbD_and, e1]; decide
    rw [BitVec.getLsbD, z] at b
    simp at b
  · obtain ⟨m, rfl⟩ : ∃ m : Nat, s = m := ⟨s.toNat, by omega⟩
    exact mask_nat (by omega)
theorem hard_mask {s : Int} (r : R16 s) : bAndNot .i64 s 4608 = lessI (lessI s 9) 12 := by
  obtain ⟨m, rfl, hm⟩ := r.nat
  have e0 : (4608 : Int) = ((4608 : Nat) : Int) := rfl
  have e9 : lessI (m : Int) 9 = ((m ^^^ (m &&& 2 ^ 9) : Nat) : Int) := lessI_nat (j := 9) (by omega) (by omega)
  have l9 : m ^^^ (m &&& 2 ^ 9) < 2 ^ 16 := Nat.xor_lt_two_pow (by omega) (Nat.lt_of_le_of_lt Nat.and_le_left (by omega))
  have e12 : lessI ((m ^^^ (m &&& 2 ^ 9) : Nat) : Int) 12 = _ := lessI_nat (j := 12) (by omega) (by omega)
  rw [e9, e12, e0, bAndNot_nat (by omega) (by omega)]
  congr 1
  refine Nat.eq_of_testBit_eq fun j => ?_
  have e4 : (4608 : Nat) = 2 ^ 9 ||| 2 ^ 12 := by decide
  rw [e4]
  simp only [Nat.testBit_xor, Nat.testBit_and, Nat.testBit_or, Nat.testBit_two_pow]
  cases m.testBit j <;> by_cases f : 9 = j <;> by_cases f2 : 12 = j <;> simp [f, f2]
structure Rng (x : P) : Prop where
  pe : R16 x.pending
  ma : R16 x.mask
  ig : R16 x.ignored
  ca : R16 x.caught
/-- the numbers are all different; bits in their range -/
structure Nice (xs : List P) : Prop where
  rng : ∀ (i : Nat) (x : P), xs[i]? = some x → Rng x
  uni : ∀ (i j : Nat) (x y : P), xs[i]? = some x → xs[j]? = some y → x.id = y.id → i = j
theorem Nice.at1 (ok : Nice xs) (hx : xs[i]? = some x) : At1 xs x.id i x :=
  ⟨hx, rfl, fun k z hk hz e => by have := ok.uni k i z x hz hx e; omega⟩
theorem Nice.set (ok : Nice xs) (hx : xs[i]? = some x) {y : P} (e : y.id = x.id) (r : Rng y) : Nice (xs.set i y) := by
  have key : ∀ (j : Nat) (z : P), (xs.set i y)[j]? = some z → ∃ z', xs[j]? = some z' ∧ z'.id = z.id ∧ Rng z := by
    intro j z hz
    rw [List.getElem?_set] at hz
    split at hz
    · rename_i q; subst q
      rw [if_pos (get_lt hx)] at hz; injection hz with hz; subst hz
      exact ⟨x, hx, e.symm, r⟩
    · exact ⟨z, hz, rfl, ok.rng j z hz⟩
  refine ⟨fun j z hz => (key j z hz).choose_spec.2.2, fun j k z w hz hw ew => ?_⟩
  obtain ⟨z', hz', e1, _⟩ := key j z hz
  obtain ⟨w', hw', e2, _⟩ := key k w hw
  exact ok.uni j k z' w' hz' hw' (by rw [e1, e2, ew])
theorem Nice.map (ok : Nice xs) (f : P → P) (e : ∀ x, (f x).id = x.id) (r : ∀ x, Rng x → Rng (f x)) : Nice (xs.map f) := by
  refine ⟨fun i x hx => ?_, fun i j x y hx hy exy => ?_⟩
  · rw [List.getElem?_map] at hx
    obtain ⟨z, hz, rfl⟩ := Option.map_eq_some_iff.mp hx
    exact r z (ok.rng i z hz)
  · rw [List.getElem?_map] at hx hy
    obtain ⟨z, hz, rfl⟩ := Option.map_eq_some_iff.mp hx
    obtain ⟨w, hw, rfl⟩ := Option.map_eq_some_iff.mp hy
    exact ok.uni i j z w hz hw (by rw [← e z, ← e w, exy])
theorem Rng.send (r : Rng x) (h0 : 0 ≤ sig) (h1 : sig ≤ 15) : Rng (sendP x sig) := by
  have r1 : Rng (if sig = 13 then { x with state := 1, pending := lessI x.pending 12 } else x) := by
    split
    · exact ⟨r.pe.less (by omega) (by omega), r.ma, r.ig, r.ca⟩
    · exact r
  unfold sendP
  generalize (if sig = 13 then { x with state := 1, pending := lessI x.pending 12 } else x) = y at r1
  have r2 : Rng (if sig = 12 then { y with pending := lessI y.pending 13 } else y) := by
    split
    · exact ⟨r1.pe.less (by omega) (by omega), r1.ma, r1.ig, r1.ca⟩
    · exact r1
  show Rng (let x := if sig = 12 then { y with pending := lessI y.pending 13 } else y; if hasI x.ignored sig then x else { x with pending := withI x.pending sig })
  generalize (if sig = 12 then { y with pending := lessI y.pending 13 } else y) = z at r2
  show Rng (if hasI z.ignored sig then z else { z with pending := withI z.pending sig })
  split
  · exact r2
  · exact ⟨r2.pe.with h0 h1, r2.ma, r2.ig, r2.ca⟩
theorem sendP_id (x : P) (sig : Int) : (sendP x sig).id = x.id ∧ (sendP x sig).parent = x.parent := by
  unfold sendP
  simp only
  split <;> split <;> split <;> simp
theorem sendZ_id (x : P) (sig : Int) : (sendZ x sig).id = x.id ∧ (sendZ x sig).parent = x.parent := by
  unfold sendZ; split
  · exact ⟨rfl, rfl⟩
  · exact sendP_id x sig
theorem Rng.sendZ (r : Rng x) (h0 : 0 ≤ sig) (h1 : sig ≤ 15) : Rng (sendZ x sig) := by
  unfold Proofs.Ytgcjjapmdbgofaa.sendZ; split
  · exact r
  · exact r.send h0 h1
/-! the program's list of processes: behind a pointer -/
structure Mp (h : H) (p : Nat) (a : Option Addr) (n c : Nat) (xs : List P) : Prop where
  hp : blk h p [.slice a n c]
  hs : SlP h a n c xs
  np : p ∉ own a
structure MO (p : Nat) (h : H) (a : Option Addr) (ys : List P) (h' : H) (a' : Option Addr) (n' c' : Nat) : Prop where
  kp : Keep (p :: own a) h h'
  was : ∀ b ∈ own a', b ∈ own a ∨ h.size ≤ b
  mp : Mp h' p a' n' c' ys
theorem MO.refl (m : Mp h p a n c xs) : MO p h a xs h a n c := ⟨Keep.refl, fun _ t => .inl t, m⟩
theorem MO.trans {h1 h2 : H} {a1 a2 : Option Addr} {n1 c1 n2 c2 : Nat} {ys zs : List P} (x : MO p h a ys h1 a1 n1 c1) (y : MO p h1 a1 zs h2 a2 n2 c2) : MO p h a zs h2 a2 n2 c2 :=
  ⟨x.kp.trans y.kp (by
    intro d dl t
    simp only [List.mem_cons] at t ⊢
    rcases t with (t | t) | (t | t)
    · exact .inl t
    · exact .inr t
    · exact .inl t
    · rcases x.was d t with t | t
      · exact .inr t
      · omega), fun b t => by
    rcases y.was b t with t | t
    · exact x.was b t
    · have := x.kp.le; exact .inr (by omega), y.mp⟩
theorem MO.set {h1 : H} {ys : List P} (m : Mp h p a n c xs) (k : Keep (own a) h h1) (s : SlP h1 a n c ys) : MO p h a ys h1 a n c :=
  ⟨k.mono (by intro b _ t; simp [t]), fun b t => .inl t, ⟨k.blk m.hp m.np, s, m.np⟩⟩
theorem sendI_spec (h0 : 0 ≤ sig) (h1 : sig ≤ 15) (m : Mp h p a n c xs) (t : At1 xs id i x) (r : Rng x)
    (k : ∀ h', MO p h a (xs.set i (sendZ x sig)) h' a n c → K (.tuple ⟨[]⟩) h') :
    callD Try.prog 48 ⟨[.pointer (some ⟨p, 0, none⟩), .int .i64 id, .int .i64 sig]⟩ h K := by
  refine impl_Procs_send_M_call ?_
  rw [impl_Procs_send_M]
  refine at_spec m.hp m.hs (fun f => absurd t.2.1 (f x (List.mem_of_getElem? t.1))) fun i' b o x' t' ea => ?_
  have ei : i' = i := by have := t.pos; have := t'.pos; omega
  subst ei
  have ex : x' = x := by have := t'.1; rw [t.1] at this; injection this with this; exact this.symm
  subst ex
  subst ea
  have hs := m.hs
  refine asP_of (ifP_some (nz_of (hs.rw.I t.1 (ifB_eqI (fun f => ?_) fun f => ?_))))
  · have e : sendZ x' sig = x' := if_pos f
    exact k h (by rw [e, set_same t.1]; exact .refl m)
  have z0 : sendZ x' sig = sendP x' sig := if_neg f
  have j0 (y : P) (h1 : H) (out : MO p h (some ⟨b, o, none⟩) (xs.set i' y) h1 (some ⟨b, o, none⟩) n c) (ry : Rng y) (z : sendP x' sig = if hasI y.ignored sig then y else { y with pending := withI y.pending sig }) :
      impl_Procs_send_M_j0 (fun h => K (.tuple ⟨[]⟩) h) sig (some ⟨b, o + i' * 10, none⟩) h1 := by
    rw [impl_Procs_send_M_j0]
    have hy := getSet (y := y) t.1
    have s1 := out.mp.hs
    refine nz_of (s1.rw.I hy ?_)
    rw [req_eq h0, bit_has ry.ig h0 (by omega)]
    refine ifB_eqI (fun g => ?_) fun g => ?_
    · have g : hasI y.ignored sig = false := by cases e : hasI y.ignored sig <;> simp [e] at g ⊢
      refine nz_of (s1.rw.I hy ?_)
      rw [req_eq h0, bit_with ry.pe h0 (by omega)]
      refine s1.St hy { y with pending := withI y.pending sig } encP_len (fun h2 k2 _ s2 => k h2 ?_) rfl (by decide) rfl
      rw [List.set_set] at s2
      rw [z0, z, g]
      exact out.trans (.set out.mp k2 s2)
    · have g : hasI y.ignored sig = true := by cases e : hasI y.ignored sig <;> simp [e] at g ⊢
      rw [z0, z, g] at k
      exact k h1 out
  refine ifB_eqI (fun g => ?_) fun g => ?_
  · refine hs.St t.1 { x' with state := 1 } encP_len (fun h2 k2 _ s2 => ?_) rfl (by decide) rfl
    have hy := getSet (y := { x' with state := 1 }) t.1
    refine nz_of (s2.rw.I hy ?_)
    have := bit_less (s := x'.pending) (k := 12) r.pe (by omega) (by omega)
    have e12 : sShl .i64 1 12 = 4096 := sShl_nat (j := 12) (by omega)
    rw [e12] at this
    show nz _ fun b14 o15 => st h2 b14 (o15 + 6) (.int .i64 (bAndNot .i64 x'.pending 4096)) _
    rw [this]
    refine s2.St hy { x' with state := 1, pending := lessI x'.pending 12 } encP_len (fun h3 k3 _ s3 => ?_) rfl (by decide) rfl
    rw [List.set_set] at s3
    refine j0 { x' with state := 1, pending := lessI x'.pending 12 } h3 ((MO.set m k2 s2).trans (.set (.mk (k2.blk m.hp m.np) s2 m.np) k3 s3)) ⟨r.pe.less (by omega) (by omega), r.ma, r.ig, r.ca⟩ ?_
    subst g; rfl
  · refine ifB_eqI (fun g2 => ?_) fun g2 => ?_
    · refine nz_of (hs.rw.I t.1 ?_)
      have := bit_less (s := x'.pending) (k := 13) r.pe (by omega) (by omega)
      have e13 : sShl .i64 1 13 = 8192 := sShl_nat (j := 13) (by omega)
      rw [e13] at this
      rw [this]
      refine hs.St t.1 { x' with pending := lessI x'.pending 13 } encP_len (fun h3 k3 _ s3 => ?_) rfl (by decide) rfl
      refine j0 { x' with pending := lessI x'.pending 13 } h3 (.set m k3 s3) ⟨r.pe.less (by omega) (by omega), r.ma, r.ig, r.ca⟩ ?_
      subst g2; rfl
    · have : xs.set i' x' = xs := set_same t.1
      refine j0 x' h (by rw [this]; exact .refl m) r ?_
      rw [sendP, if_neg g]; simp only [if_neg g2]
end Go.Proofs.Ytgcjjapmdbgofaa
