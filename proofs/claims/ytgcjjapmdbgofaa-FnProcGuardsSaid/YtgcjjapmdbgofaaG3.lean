import Derived.Test.YtgcjjapmdbgofaaProg
import Derived.Test.YtgcjjapmdbgofaaG2
set_option linter.unusedVariables false
set_option maxRecDepth 100000
namespace Go.Proofs.Ytgcjjapmdbgofaa
open Go.Eng

noncomputable def code38 : Code := codeOf Try.f38
theorem body38 : Try.f38.body = some code38 := by kernel_rfl
def spec_l16Spoil (kn : H → Prop) (p1 : Option Addr) (a2 : Option Addr) (l2 : Nat) (c2 : Nat) (h : H) : Prop :=
  new h [.slice a2 l2 c2] 27 fun b3 h =>
  ldL h b3 0 fun a4 l4 c4 =>
  ldL h b3 0 fun a5 l5 c5 =>
  callK Try.prog 35 ⟨[.pointer p1, .int .i64 (l5 : Nat)]⟩ h fun v6 h =>
  asI .i64 v6 fun n7 =>
  cell h b3 0 = some (.slice a4 l4 c4) ∧ (req (0 ≤ (n7 : Int) ∧ (n7 : Int) < (l4 : Nat))
  (nz a4 fun b8 o9 =>
  new h [.int .i64 1, .int .i64 (-1), .int .i64 256, .int .i64 32] 2 fun b10 h =>
  callK Try.prog 35 ⟨[.pointer p1, .int .i64 4]⟩ h fun v11 h =>
  asI .i64 v11 fun n12 =>
  req (0 ≤ (n12 : Int) ∧ (n12 : Int) < (4 : Nat))
  (ldI .i64 h b10 (0 + n12.toNat * 1) fun n13 =>
  callK Try.prog 35 ⟨[.pointer p1, .int .i64 10]⟩ h fun v14 h =>
  asI .i64 v14 fun n15 =>
  ifB ((n15 : Int) == 0)
  (ldI .i64 h b8 (o9 + n7.toNat * 10) fun n16 =>
  st h b8 (o9 + n7.toNat * 10) (.int .i64 (IntKind.i64.wrap (n16 + n13))) fun h =>
  kn h)
  (ifB ((n15 : Int) == 1)
  (callK Try.prog 35 ⟨[.pointer p1, .int .i64 8]⟩ h fun v17 h =>
  asI .i64 v17 fun n18 =>
  st h b8 ((o9 + n7.toNat * 10) + 1) (.int .i64 n18) fun h =>
  kn h)
  (ifB ((n15 : Int) == 2)
  (ldI .i64 h b8 ((o9 + n7.toNat * 10) + 2) fun n19 =>
  st h b8 ((o9 + n7.toNat * 10) + 2) (.int .i64 (IntKind.i64.wrap (n19 + n13))) fun h =>
  kn h)
  (ifB ((n15 : Int) == 3)
  (ldI .i64 h b8 ((o9 + n7.toNat * 10) + 3) fun n20 =>
  st h b8 ((o9 + n7.toNat * 10) + 3) (.int .i64 (IntKind.i64.wrap (n20 - n13))) fun h =>
  kn h)
  (ifB ((n15 : Int) == 4)
  (ldI .i64 h b8 ((o9 + n7.toNat * 10) + 4) fun n21 =>
  st h b8 ((o9 + n7.toNat * 10) + 4) (.int .i64 (IntKind.i64.wrap (n21 + n13))) fun h =>
  kn h)
  (ifB ((n15 : Int) == 5)
  (ldI .i64 h b8 ((o9 + n7.toNat * 10) + 5) fun n22 =>
  st h b8 ((o9 + n7.toNat * 10) + 5) (.int .i64 (IntKind.i64.wrap (n22 + n13))) fun h =>
  kn h)
  (ifB ((n15 : Int) == 6)
  (callK Try.prog 41 ⟨[.pointer p1]⟩ h fun v23 h =>
  asI .i64 v23 fun n24 =>
  st h b8 ((o9 + n7.toNat * 10) + 6) (.int .i64 n24) fun h =>
  kn h)
  (ifB ((n15 : Int) == 7)
  (callK Try.prog 41 ⟨[.pointer p1]⟩ h fun v25 h =>
  asI .i64 v25 fun n26 =>
  st h b8 ((o9 + n7.toNat * 10) + 7) (.int .i64 n26) fun h =>
  kn h)
  (ifB ((n15 : Int) == 8)
  (callK Try.prog 41 ⟨[.pointer p1]⟩ h fun v27 h =>
  asI .i64 v27 fun n28 =>
  st h b8 ((o9 + n7.toNat * 10) + 8) (.int .i64 n28) fun h =>
  kn h)
  (ifB ((n15 : Int) == 9)
  (callK Try.prog 41 ⟨[.pointer p1]⟩ h fun v29 h =>
  asI .i64 v29 fun n30 =>
  st h b8 ((o9 + n7.toNat * 10) + 9) (.int .i64 n30) fun h =>
  kn h)
  (kn h)))))))))))))

theorem spec_l16Spoil_eq (K : Cont) (p1 : Option Addr) (a2 : Option Addr) (l2 : Nat) (c2 : Nat) (h : H) :
  spec_l16Spoil (curV [] (K .normal)) p1 a2 l2 c2 h = evC Try.prog 111 [] [] code38 [(0, .pointer p1), (1, .agg ⟨[.slice a2 l2 c2]⟩)] h (outsOf (some []) [] none K).K := by kernel_rfl

def spec_l16Spoil_F : PT := mkF [(0, .ptr), (1, .agg [.slice])] fun K => spec_l16Spoil (curV [] (K .normal))

theorem spec_l16Spoil_V : Valid Try.prog 111 code38 spec_l16Spoil_F :=
  piece mixed rows_nil (fun K => by intro p1 a2 l2 c2 h hd; exact (spec_l16Spoil_eq K p1 a2 l2 c2 h) ▸ hd)

theorem spec_l16Spoil_c0 (p1 : Option Addr) (a2 : Option Addr) (l2 : Nat) (c2 : Nat) (h : H) (K : Value → H → Prop) :
  spec_l16Spoil (fun h =>
  K (.tuple ⟨[]⟩) h) p1 a2 l2 c2 h = callF Try.prog Try.f38.results.toList spec_l16Spoil_F [.pointer p1, .agg ⟨[.slice a2 l2 c2]⟩] h K := by kernel_rfl

theorem spec_l16Spoil_call {p1 : Option Addr} {a2 : Option Addr} {l2 : Nat} {c2 : Nat} {h : H} {K : Value → H → Prop} (hs : spec_l16Spoil (fun h =>
  K (.tuple ⟨[]⟩) h) p1 a2 l2 c2 h) : callK Try.prog 38 ⟨[.pointer p1, .agg ⟨[.slice a2 l2 c2]⟩]⟩ h K :=
  func_calls Try.func38 body38 spec_l16Spoil_V (Nat.le_of_ble_eq_true (by kernel_rfl)) (spec_l16Spoil_c0 p1 a2 l2 c2 h K ▸ hs)

def spec_l16Spoil_M (kn : H → Prop) (p1 : Option Addr) (a2 : Option Addr) (l2 : Nat) (c2 : Nat) (h : H) : Prop :=
  callD Try.prog 35 ⟨[.pointer p1, .int .i64 (l2 : Nat)]⟩ h fun v3 h =>
  asI .i64 v3 fun n4 =>
  req (0 ≤ (n4 : Int) ∧ (n4 : Int) < (l2 : Nat))
  (nz a2 fun b5 o6 =>
  newD h [.int .i64 1, .int .i64 (-1), .int .i64 256, .int .i64 32] 2 fun b7 h =>
  callD Try.prog 35 ⟨[.pointer p1, .int .i64 4]⟩ h fun v8 h =>
  asI .i64 v8 fun n9 =>
  req (0 ≤ (n9 : Int) ∧ (n9 : Int) < (4 : Nat))
  (ldI .i64 h b7 (0 + n9.toNat * 1) fun n10 =>
  callD Try.prog 35 ⟨[.pointer p1, .int .i64 10]⟩ h fun v11 h =>
  asI .i64 v11 fun n12 =>
  ifB ((n12 : Int) == 0)
  (ldI .i64 h b5 (o6 + n4.toNat * 10) fun n13 =>
  st h b5 (o6 + n4.toNat * 10) (.int .i64 (IntKind.i64.wrap (n13 + n10))) fun h =>
  kn h)
  (ifB ((n12 : Int) == 1)
  (callD Try.prog 35 ⟨[.pointer p1, .int .i64 8]⟩ h fun v14 h =>
  asI .i64 v14 fun n15 =>
  st h b5 ((o6 + n4.toNat * 10) + 1) (.int .i64 n15) fun h =>
  kn h)
  (ifB ((n12 : Int) == 2)
  (ldI .i64 h b5 ((o6 + n4.toNat * 10) + 2) fun n16 =>
  st h b5 ((o6 + n4.toNat * 10) + 2) (.int .i64 (IntKind.i64.wrap (n16 + n10))) fun h =>
  kn h)
  (ifB ((n12 : Int) == 3)
  (ldI .i64 h b5 ((o6 + n4.toNat * 10) + 3) fun n17 =>
  st h b5 ((o6 + n4.toNat * 10) + 3) (.int .i64 (IntKind.i64.wrap (n17 - n10))) fun h =>
  kn h)
  (ifB ((n12 : Int) == 4)
  (ldI .i64 h b5 ((o6 + n4.toNat * 10) + 4) fun n18 =>
  st h b5 ((o6 + n4.toNat * 10) + 4) (.int .i64 (IntKind.i64.wrap (n18 + n10))) fun h =>
  kn h)
  (ifB ((n12 : Int) == 5)
  (ldI .i64 h b5 ((o6 + n4.toNat * 10) + 5) fun n19 =>
  st h b5 ((o6 + n4.toNat * 10) + 5) (.int .i64 (IntKind.i64.wrap (n19 + n10))) fun h =>
  kn h)
  (ifB ((n12 : Int) == 6)
  (callD Try.prog 41 ⟨[.pointer p1]⟩ h fun v20 h =>
  asI .i64 v20 fun n21 =>
  st h b5 ((o6 + n4.toNat * 10) + 6) (.int .i64 n21) fun h =>
  kn h)
  (ifB ((n12 : Int) == 7)
  (callD Try.prog 41 ⟨[.pointer p1]⟩ h fun v22 h =>
  asI .i64 v22 fun n23 =>
  st h b5 ((o6 + n4.toNat * 10) + 7) (.int .i64 n23) fun h =>
  kn h)
  (ifB ((n12 : Int) == 8)
  (callD Try.prog 41 ⟨[.pointer p1]⟩ h fun v24 h =>
  asI .i64 v24 fun n25 =>
  st h b5 ((o6 + n4.toNat * 10) + 8) (.int .i64 n25) fun h =>
  kn h)
  (ifB ((n12 : Int) == 9)
  (callD Try.prog 41 ⟨[.pointer p1]⟩ h fun v26 h =>
  asI .i64 v26 fun n27 =>
  st h b5 ((o6 + n4.toNat * 10) + 9) (.int .i64 n27) fun h =>
  kn h)
  (kn h))))))))))))

theorem spec_l16Spoil_M_D {g0 m0 : H} {kn_1 : H → Prop} {kn_2 : H → Prop} (Hkn : ∀ (g m : H), Md g0 m0 g m [] → kn_2 m → kn_1 g) : ∀ (p1001 : Option Addr) (a1002 : Option Addr) (l1002 : Nat) (c1002 : Nat) (g m : H), Md g0 m0 g m [] → spec_l16Spoil_M kn_2 p1001 a1002 l1002 c1002 m → spec_l16Spoil kn_1 p1001 a1002 l1002 c1002 g := by
  intro p1001 a1002 l1002 c1002 g m R
  rw [spec_l16Spoil_M, spec_l16Spoil]
  exact (p_new R fun p1003 g R =>
  (p_ldL R rfl (p_ldL R rfl (d_call R fun v1004 g m R =>
  (d_asI fun n1005 =>
  (p_cell R rfl (d_req (d_nz fun b1006 o1007 =>
  (d_new R fun b1008 g m R =>
  (d_call R fun v1009 g m R =>
  (d_asI fun n1010 =>
  (d_req (d_ldI R fun n1011 =>
  (d_call R fun v1012 g m R =>
  (d_asI fun n1013 =>
  (d_if (d_ldI R fun n1014 =>
  (d_st R fun g m R =>
  (Hkn _ _ R.sub)))
  (d_if (d_call R fun v1015 g m R =>
  (d_asI fun n1016 =>
  (d_st R fun g m R =>
  (Hkn _ _ R.sub))))
  (d_if (d_ldI R fun n1017 =>
  (d_st R fun g m R =>
  (Hkn _ _ R.sub)))
  (d_if (d_ldI R fun n1018 =>
  (d_st R fun g m R =>
  (Hkn _ _ R.sub)))
  (d_if (d_ldI R fun n1019 =>
  (d_st R fun g m R =>
  (Hkn _ _ R.sub)))
  (d_if (d_ldI R fun n1020 =>
  (d_st R fun g m R =>
  (Hkn _ _ R.sub)))
  (d_if (d_call R fun v1021 g m R =>
  (d_asI fun n1022 =>
  (d_st R fun g m R =>
  (Hkn _ _ R.sub))))
  (d_if (d_call R fun v1023 g m R =>
  (d_asI fun n1024 =>
  (d_st R fun g m R =>
  (Hkn _ _ R.sub))))
  (d_if (d_call R fun v1025 g m R =>
  (d_asI fun n1026 =>
  (d_st R fun g m R =>
  (Hkn _ _ R.sub))))
  (d_if (d_call R fun v1027 g m R =>
  (d_asI fun n1028 =>
  (d_st R fun g m R =>
  (Hkn _ _ R.sub))))
  (Hkn _ _ R.sub))))))))))))))))))))))))))

theorem spec_l16Spoil_M_call {p1 : Option Addr} {a2 : Option Addr} {l2 : Nat} {c2 : Nat} {h : H} {K : Value → H → Prop} (hs : spec_l16Spoil_M (fun h =>
  K (.tuple ⟨[]⟩) h) p1 a2 l2 c2 h) : callD Try.prog 38 ⟨[.pointer p1, .agg ⟨[.slice a2 l2 c2]⟩]⟩ h K :=
  fun g r => spec_l16Spoil_call (spec_l16Spoil_M_D (by exact fun g m R =>
(fun h => ⟨m, R.af, h⟩)) _ _ _ _ _ _ (Md.start r) hs)

noncomputable def code39 : Code := codeOf Try.f39
theorem body39 : Try.f39.body = some code39 := by kernel_rfl
def spec_l16DrawSig (kr : Int → H → Prop) (c_1 : Option Addr) (h : H) : Prop :=
  new h [.int .i64 9, .int .i64 12, .int .i64 13, .int .i64 14, .int .i64 1, .int .i64 2, .int .i64 15, .int .i64 3] 2 fun b2 h =>
  callK Try.prog 35 ⟨[.pointer c_1, .int .i64 8]⟩ h fun v3 h =>
  asI .i64 v3 fun n4 =>
  req (0 ≤ (n4 : Int) ∧ (n4 : Int) < (8 : Nat))
  (ldI .i64 h b2 (0 + n4.toNat * 1) fun n5 =>
  callK Try.prog 36 ⟨[.pointer c_1, .int .i64 30]⟩ h fun v6 h =>
  asB v6 fun t7 =>
  ifB t7
  (new h [.int .i64 0, .int .i64 (-1), .int .i64 16] 2 fun b8 h =>
  callK Try.prog 35 ⟨[.pointer c_1, .int .i64 3]⟩ h fun v9 h =>
  asI .i64 v9 fun n10 =>
  req (0 ≤ (n10 : Int) ∧ (n10 : Int) < (3 : Nat))
  (ldI .i64 h b8 (0 + n10.toNat * 1) fun n11 =>
  kr n11 h))
  (kr n5 h))

theorem spec_l16DrawSig_eq (K : Cont) (c_1 : Option Addr) (h : H) :
  spec_l16DrawSig (curV [(2, .int .i64)] (K .ret)) c_1 h = evC Try.prog 17 [] [] code39 [(0, .pointer c_1)] h (outsOf none [] (some [(2, .int .i64)]) K).K := by kernel_rfl

def spec_l16DrawSig_F : PT := mkF [(0, .ptr)] fun K => spec_l16DrawSig (curV [(2, .int .i64)] (K .ret))

theorem spec_l16DrawSig_V : Valid Try.prog 17 code39 spec_l16DrawSig_F :=
  piece mixed rows_nil (fun K => by intro c_1 h hd; exact (spec_l16DrawSig_eq K c_1 h) ▸ hd)

theorem spec_l16DrawSig_c0 (c_1 : Option Addr) (h : H) (K : Value → H → Prop) :
  spec_l16DrawSig (fun n100001 h =>
  K (.int .i64 n100001) h) c_1 h = callF Try.prog Try.f39.results.toList spec_l16DrawSig_F [.pointer c_1] h K := by kernel_rfl

theorem spec_l16DrawSig_call {c_1 : Option Addr} {h : H} {K : Value → H → Prop} (hs : spec_l16DrawSig (fun n100001 h =>
  K (.int .i64 n100001) h) c_1 h) : callK Try.prog 39 ⟨[.pointer c_1]⟩ h K :=
  func_calls Try.func39 body39 spec_l16DrawSig_V (Nat.le_of_ble_eq_true (by kernel_rfl)) (spec_l16DrawSig_c0 c_1 h K ▸ hs)

def spec_l16DrawSig_M (kr : Int → H → Prop) (c_1 : Option Addr) (h : H) : Prop :=
  newD h [.int .i64 9, .int .i64 12, .int .i64 13, .int .i64 14, .int .i64 1, .int .i64 2, .int .i64 15, .int .i64 3] 2 fun b2 h =>
  callD Try.prog 35 ⟨[.pointer c_1, .int .i64 8]⟩ h fun v3 h =>
  asI .i64 v3 fun n4 =>
  req (0 ≤ (n4 : Int) ∧ (n4 : Int) < (8 : Nat))
  (ldI .i64 h b2 (0 + n4.toNat * 1) fun n5 =>
  callD Try.prog 36 ⟨[.pointer c_1, .int .i64 30]⟩ h fun v6 h =>
  asB v6 fun t7 =>
  ifB t7
  (newD h [.int .i64 0, .int .i64 (-1), .int .i64 16] 2 fun b8 h =>
  callD Try.prog 35 ⟨[.pointer c_1, .int .i64 3]⟩ h fun v9 h =>
  asI .i64 v9 fun n10 =>
  req (0 ≤ (n10 : Int) ∧ (n10 : Int) < (3 : Nat))
  (ldI .i64 h b8 (0 + n10.toNat * 1) fun n11 =>
  kr n11 h))
  (kr n5 h))

theorem spec_l16DrawSig_M_D {g0 m0 : H} {kr_1 : Int → H → Prop} {kr_2 : Int → H → Prop} (Hkr : ∀ (n200001 : Int) (g m : H), Md g0 m0 g m [] → kr_2 n200001 m → kr_1 n200001 g) : ∀ (c_1001 : Option Addr) (g m : H), Md g0 m0 g m [] → spec_l16DrawSig_M kr_2 c_1001 m → spec_l16DrawSig kr_1 c_1001 g := by
  intro c_1001 g m R
  rw [spec_l16DrawSig_M, spec_l16DrawSig]
  exact (d_new R fun b1002 g m R =>
  (d_call R fun v1003 g m R =>
  (d_asI fun n1004 =>
  (d_req (d_ldI R fun n1005 =>
  (d_call R fun v1006 g m R =>
  (d_asB fun t1007 =>
  (d_if (d_new R fun b1008 g m R =>
  (d_call R fun v1009 g m R =>
  (d_asI fun n1010 =>
  (d_req (d_ldI R fun n1011 =>
  (Hkr n1011 _ _ R.sub))))))
  (Hkr n1005 _ _ R.sub)))))))))

theorem spec_l16DrawSig_M_call {c_1 : Option Addr} {h : H} {K : Value → H → Prop} (hs : spec_l16DrawSig_M (fun n300001 h =>
  K (.int .i64 n300001) h) c_1 h) : callD Try.prog 39 ⟨[.pointer c_1]⟩ h K :=
  fun g r => spec_l16DrawSig_call (spec_l16DrawSig_M_D (by exact fun n300001 g m R =>
(fun h => ⟨m, R.af, h⟩)) _ _ _ (Md.start r) hs)

noncomputable def code40 : Code := codeOf Try.f40
theorem body40 : Try.f40.body = some code40 := by kernel_rfl
def spec_l16Has (kr : Bool → H → Prop) (n1 : Int) (sig_2 : Int) (h : H) : Prop :=
  callK Try.prog 60 ⟨[.int .i64 sig_2]⟩ h fun v3 h =>
  asI .i64 v3 fun n4 =>
  req ((n4 : Int) ≠ 0)
  (kr (((IntKind.i64.wrap ((n1 : Int).tdiv n4) : Int).tmod 2 : Int) == 1) h)

theorem spec_l16Has_eq (K : Cont) (n1 : Int) (sig_2 : Int) (h : H) :
  spec_l16Has (curV [(4, .bool)] (K .ret)) n1 sig_2 h = evC Try.prog 11 [] [] code40 [(0, .int .i64 n1), (1, .int .i64 sig_2)] h (outsOf none [] (some [(4, .bool)]) K).K := by kernel_rfl

def spec_l16Has_F : PT := mkF [(0, .int .i64), (1, .int .i64)] fun K => spec_l16Has (curV [(4, .bool)] (K .ret))

theorem spec_l16Has_V : Valid Try.prog 11 code40 spec_l16Has_F :=
  piece mixed rows_nil (fun K => by intro n1 sig_2 h hd; exact (spec_l16Has_eq K n1 sig_2 h) ▸ hd)

theorem spec_l16Has_c0 (n1 : Int) (sig_2 : Int) (h : H) (K : Value → H → Prop) :
  spec_l16Has (fun t100001 h =>
  K (.bool t100001) h) n1 sig_2 h = callF Try.prog Try.f40.results.toList spec_l16Has_F [.int .i64 n1, .int .i64 sig_2] h K := by kernel_rfl

theorem spec_l16Has_call {n1 : Int} {sig_2 : Int} {h : H} {K : Value → H → Prop} (hs : spec_l16Has (fun t100001 h =>
  K (.bool t100001) h) n1 sig_2 h) : callK Try.prog 40 ⟨[.int .i64 n1, .int .i64 sig_2]⟩ h K :=
  func_calls Try.func40 body40 spec_l16Has_V (Nat.le_of_ble_eq_true (by kernel_rfl)) (spec_l16Has_c0 n1 sig_2 h K ▸ hs)

def spec_l16Has_M (kr : Bool → H → Prop) (n1 : Int) (sig_2 : Int) (h : H) : Prop :=
  callD Try.prog 60 ⟨[.int .i64 sig_2]⟩ h fun v3 h =>
  asI .i64 v3 fun n4 =>
  req ((n4 : Int) ≠ 0)
  (kr (((IntKind.i64.wrap ((n1 : Int).tdiv n4) : Int).tmod 2 : Int) == 1) h)

theorem spec_l16Has_M_D {g0 m0 : H} {kr_1 : Bool → H → Prop} {kr_2 : Bool → H → Prop} (Hkr : ∀ (t200001 : Bool) (g m : H), Md g0 m0 g m [] → kr_2 t200001 m → kr_1 t200001 g) : ∀ (n1001 : Int) (sig_1002 : Int) (g m : H), Md g0 m0 g m [] → spec_l16Has_M kr_2 n1001 sig_1002 m → spec_l16Has kr_1 n1001 sig_1002 g := by
  intro n1001 sig_1002 g m R
  rw [spec_l16Has_M, spec_l16Has]
  exact (d_call R fun v1003 g m R =>
  (d_asI fun n1004 =>
  (d_req (Hkr (((IntKind.i64.wrap ((n1001 : Int).tdiv n1004) : Int).tmod 2 : Int) == 1) _ _ R.sub))))

theorem spec_l16Has_M_call {n1 : Int} {sig_2 : Int} {h : H} {K : Value → H → Prop} (hs : spec_l16Has_M (fun t300001 h =>
  K (.bool t300001) h) n1 sig_2 h) : callD Try.prog 40 ⟨[.int .i64 n1, .int .i64 sig_2]⟩ h K :=
  fun g r => spec_l16Has_call (spec_l16Has_M_D (by exact fun t300001 g m R =>
(fun h => ⟨m, R.af, h⟩)) _ _ _ _ (Md.start r) hs)

noncomputable def code41 : Code := codeOf Try.f41
theorem body41 : Try.f41.body = some code41 := by kernel_rfl
def spec_l16DrawSet_j1 (kr : Int → H → Prop) (c_8 : Option Addr) (x_9 : Int) (h : H) : Prop :=
  callK Try.prog 36 ⟨[.pointer c_8, .int .i64 40]⟩ h fun v10 h =>
  asB v10 fun t11 =>
  ifB t11
  (new h [.int .i64 (-2), .int .i64 65536, .int .i64 0, .int .i64 4611686018427387904] 2 fun b12 h =>
  callK Try.prog 35 ⟨[.pointer c_8, .int .i64 4]⟩ h fun v13 h =>
  asI .i64 v13 fun n14 =>
  req (0 ≤ (n14 : Int) ∧ (n14 : Int) < (4 : Nat))
  (ldI .i64 h b12 (0 + n14.toNat * 1) fun n15 =>
  kr n15 h))
  (kr x_9 h)

def spec_l16DrawSet_j0 (kr : Int → H → Prop) (c_6 : Option Addr) (x_7 : Int) (h : H) : Prop :=
  callK Try.prog 36 ⟨[.pointer c_6, .int .i64 20]⟩ h fun v8 h =>
  asB v8 fun t9 =>
  ifB (!t9)
  (spec_l16DrawSet_j1 kr c_6 (IntKind.i64.wrap ((IntKind.i64.wrap ((x_7 : Int).tdiv 2)) * 2)) h)
  (spec_l16DrawSet_j1 kr c_6 x_7 h)

def spec_l16DrawSet (kr : Int → H → Prop) (c_1 : Option Addr) (h : H) : Prop :=
  callK Try.prog 35 ⟨[.pointer c_1, .int .i64 256]⟩ h fun v2 h =>
  asI .i64 v2 fun n3 =>
  callK Try.prog 35 ⟨[.pointer c_1, .int .i64 256]⟩ h fun v4 h =>
  asI .i64 v4 fun n5 =>
  callK Try.prog 36 ⟨[.pointer c_1, .int .i64 2]⟩ h fun v6 h =>
  asB v6 fun t7 =>
  ifB t7
  (callK Try.prog 35 ⟨[.pointer c_1, .int .i64 15]⟩ h fun v8 h =>
  asI .i64 v8 fun n9 =>
  callK Try.prog 60 ⟨[.int .i64 (IntKind.i64.wrap (1 + n9))]⟩ h fun v10 h =>
  asI .i64 v10 fun n11 =>
  spec_l16DrawSet_j0 kr c_1 n11 h)
  (spec_l16DrawSet_j0 kr c_1 (IntKind.i64.wrap ((IntKind.i64.wrap (n3 * 256)) + n5)) h)

theorem spec_l16DrawSet_j1_eq (K : Cont) (c_8 : Option Addr) (x_9 : Int) (h : H) :
  spec_l16DrawSet_j1 (curV [(2, .int .i64)] (K .ret)) c_8 x_9 h = evC Try.prog 30 [] [] (sub code41 [true, true, true, true]) [(0, .pointer c_8), (3, .int .i64 x_9)] h (outsOf none [] (some [(2, .int .i64)]) K).K := by kernel_rfl

def spec_l16DrawSet_j1_F : PT := mkF [(0, .ptr), (3, .int .i64)] fun K => spec_l16DrawSet_j1 (curV [(2, .int .i64)] (K .ret))

theorem spec_l16DrawSet_j1_V : Valid Try.prog 30 (sub code41 [true, true, true, true]) spec_l16DrawSet_j1_F :=
  piece mixed rows_nil (fun K => by intro c_8 x_9 h hd; exact (spec_l16DrawSet_j1_eq K c_8 x_9 h) ▸ hd)

theorem spec_l16DrawSet_j0_eq (K : Cont) (c_6 : Option Addr) (x_7 : Int) (h : H) :
  spec_l16DrawSet_j0 (curV [(2, .int .i64)] (K .ret)) c_6 x_7 h = evC Try.prog 30 [([true], spec_l16DrawSet_j1_F)] [] (sub code41 [true, true, true]) [(0, .pointer c_6), (3, .int .i64 x_7)] h (outsOf none [] (some [(2, .int .i64)]) K).K := by kernel_rfl

def spec_l16DrawSet_j0_F : PT := mkF [(0, .ptr), (3, .int .i64)] fun K => spec_l16DrawSet_j0 (curV [(2, .int .i64)] (K .ret))

theorem spec_l16DrawSet_j0_V : Valid Try.prog 30 (sub code41 [true, true, true]) spec_l16DrawSet_j0_F :=
  piece mixed (rows_cons (q' := [true]) (valid_at (p := [true, true, true]) spec_l16DrawSet_j1_V rfl) rfl rows_nil) (fun K => by intro c_6 x_7 h hd; exact (spec_l16DrawSet_j0_eq K c_6 x_7 h) ▸ hd)

theorem spec_l16DrawSet_eq (K : Cont) (c_1 : Option Addr) (h : H) :
  spec_l16DrawSet (curV [(2, .int .i64)] (K .ret)) c_1 h = evC Try.prog 30 [([true, true, true], spec_l16DrawSet_j0_F)] [] code41 [(0, .pointer c_1)] h (outsOf none [] (some [(2, .int .i64)]) K).K := by kernel_rfl

def spec_l16DrawSet_F : PT := mkF [(0, .ptr)] fun K => spec_l16DrawSet (curV [(2, .int .i64)] (K .ret))

theorem spec_l16DrawSet_V : Valid Try.prog 30 code41 spec_l16DrawSet_F :=
  piece mixed (rows_cons (q' := [true, true, true]) spec_l16DrawSet_j0_V rfl rows_nil) (fun K => by intro c_1 h hd; exact (spec_l16DrawSet_eq K c_1 h) ▸ hd)

theorem spec_l16DrawSet_c0 (c_1 : Option Addr) (h : H) (K : Value → H → Prop) :
  spec_l16DrawSet (fun n100001 h =>
  K (.int .i64 n100001) h) c_1 h = callF Try.prog Try.f41.results.toList spec_l16DrawSet_F [.pointer c_1] h K := by kernel_rfl

theorem spec_l16DrawSet_call {c_1 : Option Addr} {h : H} {K : Value → H → Prop} (hs : spec_l16DrawSet (fun n100001 h =>
  K (.int .i64 n100001) h) c_1 h) : callK Try.prog 41 ⟨[.pointer c_1]⟩ h K :=
  func_calls Try.func41 body41 spec_l16DrawSet_V (Nat.le_of_ble_eq_true (by kernel_rfl)) (spec_l16DrawSet_c0 c_1 h K ▸ hs)

def spec_l16DrawSet_M_j1 (kr : Int → H → Prop) (c_8 : Option Addr) (x_9 : Int) (h : H) : Prop :=
  callD Try.prog 36 ⟨[.pointer c_8, .int .i64 40]⟩ h fun v10 h =>
  asB v10 fun t11 =>
  ifB t11
  (newD h [.int .i64 (-2), .int .i64 65536, .int .i64 0, .int .i64 4611686018427387904] 2 fun b12 h =>
  callD Try.prog 35 ⟨[.pointer c_8, .int .i64 4]⟩ h fun v13 h =>
  asI .i64 v13 fun n14 =>
  req (0 ≤ (n14 : Int) ∧ (n14 : Int) < (4 : Nat))
  (ldI .i64 h b12 (0 + n14.toNat * 1) fun n15 =>
  kr n15 h))
  (kr x_9 h)

def spec_l16DrawSet_M_j0 (kr : Int → H → Prop) (c_6 : Option Addr) (x_7 : Int) (h : H) : Prop :=
  callD Try.prog 36 ⟨[.pointer c_6, .int .i64 20]⟩ h fun v8 h =>
  asB v8 fun t9 =>
  ifB (!t9)
  (spec_l16DrawSet_M_j1 kr c_6 (IntKind.i64.wrap ((IntKind.i64.wrap ((x_7 : Int).tdiv 2)) * 2)) h)
  (spec_l16DrawSet_M_j1 kr c_6 x_7 h)

def spec_l16DrawSet_M (kr : Int → H → Prop) (c_1 : Option Addr) (h : H) : Prop :=
  callD Try.prog 35 ⟨[.pointer c_1, .int .i64 256]⟩ h fun v2 h =>
  asI .i64 v2 fun n3 =>
  callD Try.prog 35 ⟨[.pointer c_1, .int .i64 256]⟩ h fun v4 h =>
  asI .i64 v4 fun n5 =>
  callD Try.prog 36 ⟨[.pointer c_1, .int .i64 2]⟩ h fun v6 h =>
  asB v6 fun t7 =>
  ifB t7
  (callD Try.prog 35 ⟨[.pointer c_1, .int .i64 15]⟩ h fun v8 h =>
  asI .i64 v8 fun n9 =>
  callD Try.prog 60 ⟨[.int .i64 (IntKind.i64.wrap (1 + n9))]⟩ h fun v10 h =>
  asI .i64 v10 fun n11 =>
  spec_l16DrawSet_M_j0 kr c_1 n11 h)
  (spec_l16DrawSet_M_j0 kr c_1 (IntKind.i64.wrap ((IntKind.i64.wrap (n3 * 256)) + n5)) h)

theorem spec_l16DrawSet_M_j1_D {g0 m0 : H} {kr_1 : Int → H → Prop} {kr_2 : Int → H → Prop} (Hkr : ∀ (n200001 : Int) (g m : H), Md g0 m0 g m [] → kr_2 n200001 m → kr_1 n200001 g) : ∀ (c_1008 : Option Addr) (x_1009 : Int) (g m : H), Md g0 m0 g m [] → spec_l16DrawSet_M_j1 kr_2 c_1008 x_1009 m → spec_l16DrawSet_j1 kr_1 c_1008 x_1009 g := by
  intro c_1008 x_1009 g m R
  rw [spec_l16DrawSet_M_j1, spec_l16DrawSet_j1]
  exact (d_call R fun v1010 g m R =>
  (d_asB fun t1011 =>
  (d_if (d_new R fun b1012 g m R =>
  (d_call R fun v1013 g m R =>
  (d_asI fun n1014 =>
  (d_req (d_ldI R fun n1015 =>
  (Hkr n1015 _ _ R.sub))))))
  (Hkr x_1009 _ _ R.sub))))

theorem spec_l16DrawSet_M_j0_D {g0 m0 : H} {kr_1 : Int → H → Prop} {kr_2 : Int → H → Prop} (Hkr : ∀ (n200001 : Int) (g m : H), Md g0 m0 g m [] → kr_2 n200001 m → kr_1 n200001 g) : ∀ (c_1006 : Option Addr) (x_1007 : Int) (g m : H), Md g0 m0 g m [] → spec_l16DrawSet_M_j0 kr_2 c_1006 x_1007 m → spec_l16DrawSet_j0 kr_1 c_1006 x_1007 g := by
  intro c_1006 x_1007 g m R
  rw [spec_l16DrawSet_M_j0, spec_l16DrawSet_j0]
  exact (d_call R fun v1008 g m R =>
  (d_asB fun t1009 =>
  (d_if (spec_l16DrawSet_M_j1_D (by exact fun n1010 g m R =>
  (Hkr n1010 _ _ R.sub)) c_1006 (IntKind.i64.wrap ((IntKind.i64.wrap ((x_1007 : Int).tdiv 2)) * 2)) _ _ R.sub)
  (spec_l16DrawSet_M_j1_D (by exact fun n1011 g m R =>
  (Hkr n1011 _ _ R.sub)) c_1006 x_1007 _ _ R.sub))))

theorem spec_l16DrawSet_M_D {g0 m0 : H} {kr_1 : Int → H → Prop} {kr_2 : Int → H → Prop} (Hkr : ∀ (n200001 : Int) (g m : H), Md g0 m0 g m [] → kr_2 n200001 m → kr_1 n200001 g) : ∀ (c_1001 : Option Addr) (g m : H), Md g0 m0 g m [] → spec_l16DrawSet_M kr_2 c_1001 m → spec_l16DrawSet kr_1 c_1001 g := by
  intro c_1001 g m R
  rw [spec_l16DrawSet_M, spec_l16DrawSet]
  exact (d_call R fun v1002 g m R =>
  (d_asI fun n1003 =>
  (d_call R fun v1004 g m R =>
  (d_asI fun n1005 =>
  (d_call R fun v1006 g m R =>
  (d_asB fun t1007 =>
  (d_if (d_call R fun v1008 g m R =>
  (d_asI fun n1009 =>
  (d_call R fun v1010 g m R =>
  (d_asI fun n1011 =>
  (spec_l16DrawSet_M_j0_D (by exact fun n1012 g m R =>
  (Hkr n1012 _ _ R.sub)) c_1001 n1011 _ _ R.sub)))))
  (spec_l16DrawSet_M_j0_D (by exact fun n1013 g m R =>
  (Hkr n1013 _ _ R.sub)) c_1001 (IntKind.i64.wrap ((IntKind.i64.wrap (n1003 * 256)) + n1005)) _ _ R.sub))))))))

theorem spec_l16DrawSet_M_call {c_1 : Option Addr} {h : H} {K : Value → H → Prop} (hs : spec_l16DrawSet_M (fun n300001 h =>
  K (.int .i64 n300001) h) c_1 h) : callD Try.prog 41 ⟨[.pointer c_1]⟩ h K :=
  fun g r => spec_l16DrawSet_call (spec_l16DrawSet_M_D (by exact fun n300001 g m R =>
(fun h => ⟨m, R.af, h⟩)) _ _ _ (Md.start r) hs)

noncomputable def code42 : Code := codeOf Try.f42
theorem body42 : Try.f42.body = some code42 := by kernel_rfl
def spec_l16Set (kr : Bool → H → Prop) (x_1 : Int) (h : H) : Prop :=
  ifB (decide ((x_1 : Int) ≥ 0))
  (callK Try.prog 60 ⟨[.int .i64 16]⟩ h fun v2 h =>
  asI .i64 v2 fun n3 =>
  ifB (decide ((x_1 : Int) < n3))
  (kr (((x_1 : Int).tmod 2 : Int) == 0) h)
  (kr false h))
  (kr false h)

theorem spec_l16Set_eq (K : Cont) (x_1 : Int) (h : H) :
  spec_l16Set (curV [(2, .bool)] (K .ret)) x_1 h = evC Try.prog 15 [] [] code42 [(0, .int .i64 x_1)] h (outsOf none [] (some [(2, .bool)]) K).K := by kernel_rfl

def spec_l16Set_F : PT := mkF [(0, .int .i64)] fun K => spec_l16Set (curV [(2, .bool)] (K .ret))

theorem spec_l16Set_V : Valid Try.prog 15 code42 spec_l16Set_F :=
  piece mixed rows_nil (fun K => by intro x_1 h hd; exact (spec_l16Set_eq K x_1 h) ▸ hd)

theorem spec_l16Set_c0 (x_1 : Int) (h : H) (K : Value → H → Prop) :
  spec_l16Set (fun t100001 h =>
  K (.bool t100001) h) x_1 h = callF Try.prog Try.f42.results.toList spec_l16Set_F [.int .i64 x_1] h K := by kernel_rfl

theorem spec_l16Set_call {x_1 : Int} {h : H} {K : Value → H → Prop} (hs : spec_l16Set (fun t100001 h =>
  K (.bool t100001) h) x_1 h) : callK Try.prog 42 ⟨[.int .i64 x_1]⟩ h K :=
  func_calls Try.func42 body42 spec_l16Set_V (Nat.le_of_ble_eq_true (by kernel_rfl)) (spec_l16Set_c0 x_1 h K ▸ hs)

def spec_l16Set_M (kr : Bool → H → Prop) (x_1 : Int) (h : H) : Prop :=
  ifB (decide ((x_1 : Int) ≥ 0))
  (callD Try.prog 60 ⟨[.int .i64 16]⟩ h fun v2 h =>
  asI .i64 v2 fun n3 =>
  ifB (decide ((x_1 : Int) < n3))
  (kr (((x_1 : Int).tmod 2 : Int) == 0) h)
  (kr false h))
  (kr false h)

theorem spec_l16Set_M_D {g0 m0 : H} {kr_1 : Bool → H → Prop} {kr_2 : Bool → H → Prop} (Hkr : ∀ (t200001 : Bool) (g m : H), Md g0 m0 g m [] → kr_2 t200001 m → kr_1 t200001 g) : ∀ (x_1001 : Int) (g m : H), Md g0 m0 g m [] → spec_l16Set_M kr_2 x_1001 m → spec_l16Set kr_1 x_1001 g := by
  intro x_1001 g m R
  rw [spec_l16Set_M, spec_l16Set]
  exact (d_if (d_call R fun v1002 g m R =>
  (d_asI fun n1003 =>
  (d_if (Hkr (((x_1001 : Int).tmod 2 : Int) == 0) _ _ R.sub)
  (Hkr false _ _ R.sub))))
  (Hkr false _ _ R.sub))

theorem spec_l16Set_M_call {x_1 : Int} {h : H} {K : Value → H → Prop} (hs : spec_l16Set_M (fun t300001 h =>
  K (.bool t300001) h) x_1 h) : callD Try.prog 42 ⟨[.int .i64 x_1]⟩ h K :=
  fun g r => spec_l16Set_call (spec_l16Set_M_D (by exact fun t300001 g m R =>
(fun h => ⟨m, R.af, h⟩)) _ _ _ (Md.start r) hs)

noncomputable def code43 : Code := codeOf Try.f43
theorem body43 : Try.f43.body = some code43 := by kernel_rfl
def spec_l16Soft (kr : Bool → H → Prop) (x_1 : Int) (h : H) : Prop :=
  callK Try.prog 42 ⟨[.int .i64 x_1]⟩ h fun v2 h =>
  asB v2 fun t3 =>
  ifB t3
  (callK Try.prog 40 ⟨[.int .i64 x_1, .int .i64 9]⟩ h fun v4 h =>
  asB v4 fun t5 =>
  ifB (!t5)
  (callK Try.prog 40 ⟨[.int .i64 x_1, .int .i64 12]⟩ h fun v6 h =>
  asB v6 fun t7 =>
  kr (!t7) h)
  (kr false h))
  (kr false h)

theorem spec_l16Soft_eq (K : Cont) (x_1 : Int) (h : H) :
  spec_l16Soft (curV [(2, .bool)] (K .ret)) x_1 h = evC Try.prog 15 [] [] code43 [(0, .int .i64 x_1)] h (outsOf none [] (some [(2, .bool)]) K).K := by kernel_rfl

def spec_l16Soft_F : PT := mkF [(0, .int .i64)] fun K => spec_l16Soft (curV [(2, .bool)] (K .ret))

theorem spec_l16Soft_V : Valid Try.prog 15 code43 spec_l16Soft_F :=
  piece mixed rows_nil (fun K => by intro x_1 h hd; exact (spec_l16Soft_eq K x_1 h) ▸ hd)

theorem spec_l16Soft_c0 (x_1 : Int) (h : H) (K : Value → H → Prop) :
  spec_l16Soft (fun t100001 h =>
  K (.bool t100001) h) x_1 h = callF Try.prog Try.f43.results.toList spec_l16Soft_F [.int .i64 x_1] h K := by kernel_rfl

theorem spec_l16Soft_call {x_1 : Int} {h : H} {K : Value → H → Prop} (hs : spec_l16Soft (fun t100001 h =>
  K (.bool t100001) h) x_1 h) : callK Try.prog 43 ⟨[.int .i64 x_1]⟩ h K :=
  func_calls Try.func43 body43 spec_l16Soft_V (Nat.le_of_ble_eq_true (by kernel_rfl)) (spec_l16Soft_c0 x_1 h K ▸ hs)

def spec_l16Soft_M (kr : Bool → H → Prop) (x_1 : Int) (h : H) : Prop :=
  callD Try.prog 42 ⟨[.int .i64 x_1]⟩ h fun v2 h =>
  asB v2 fun t3 =>
  ifB t3
  (callD Try.prog 40 ⟨[.int .i64 x_1, .int .i64 9]⟩ h fun v4 h =>
  asB v4 fun t5 =>
  ifB (!t5)
  (callD Try.prog 40 ⟨[.int .i64 x_1, .int .i64 12]⟩ h fun v6 h =>
  asB v6 fun t7 =>
  kr (!t7) h)
  (kr false h))
  (kr false h)

theorem spec_l16Soft_M_D {g0 m0 : H} {kr_1 : Bool → H → Prop} {kr_2 : Bool → H → Prop} (Hkr : ∀ (t200001 : Bool) (g m : H), Md g0 m0 g m [] → kr_2 t200001 m → kr_1 t200001 g) : ∀ (x_1001 : Int) (g m : H), Md g0 m0 g m [] → spec_l16Soft_M kr_2 x_1001 m → spec_l16Soft kr_1 x_1001 g := by
  intro x_1001 g m R
  rw [spec_l16Soft_M, spec_l16Soft]
  exact (d_call R fun v1002 g m R =>
  (d_asB fun t1003 =>
  (d_if (d_call R fun v1004 g m R =>
  (d_asB fun t1005 =>
  (d_if (d_call R fun v1006 g m R =>
  (d_asB fun t1007 =>
  (Hkr (!t1007) _ _ R.sub)))
  (Hkr false _ _ R.sub))))
  (Hkr false _ _ R.sub))))

theorem spec_l16Soft_M_call {x_1 : Int} {h : H} {K : Value → H → Prop} (hs : spec_l16Soft_M (fun t300001 h =>
  K (.bool t300001) h) x_1 h) : callD Try.prog 43 ⟨[.int .i64 x_1]⟩ h K :=
  fun g r => spec_l16Soft_call (spec_l16Soft_M_D (by exact fun t300001 g m R =>
(fun h => ⟨m, R.af, h⟩)) _ _ _ (Md.start r) hs)

noncomputable def code44 : Code := codeOf Try.f44
theorem body44 : Try.f44.body = some code44 := by kernel_rfl
def impl_Procs_step_c1 (kr : Nat → H → Prop) (c_1 : Int) (h : H) : Prop :=
  new h [.int .i64 0, .int .i64 0, .int .i64 0] 34 fun b2 h =>
  stRow h b2 0 0 [.int .i64 c_1, .int .i64 0, .int .i64 0] fun h =>
  kr b2 h

theorem impl_Procs_step_c1_eq (K : Cont) (c_1 : Int) (h : H) :
  impl_Procs_step_c1 (curV [(2, .blk)] (K .ret)) c_1 h = evC Try.prog 5 [] [] code44 [(0, .int .i64 c_1)] h (outsOf none [] (some [(2, .blk)]) K).K := by kernel_rfl

def impl_Procs_step_c1_F : PT := mkF [(0, .int .i64)] fun K => impl_Procs_step_c1 (curV [(2, .blk)] (K .ret))

theorem impl_Procs_step_c1_V : Valid Try.prog 5 code44 impl_Procs_step_c1_F :=
  piece mixed rows_nil (fun K => by intro c_1 h hd; exact (impl_Procs_step_c1_eq K c_1 h) ▸ hd)

theorem impl_Procs_step_c1_c0 (c_1 : Int) (h : H) (K : Value → H → Prop) :
  impl_Procs_step_c1 (fun b100001 h =>
  ldRow h b100001 0 0 [.int .i64, .int .i64, .int .i64] fun n100002 n100003 n100004 =>
  K (.agg ⟨[.int .i64 n100002, .int .i64 n100003, .int .i64 n100004]⟩) h) c_1 h = callF Try.prog Try.f44.results.toList impl_Procs_step_c1_F [.int .i64 c_1] h K := by kernel_rfl

theorem impl_Procs_step_c1_call {c_1 : Int} {h : H} {K : Value → H → Prop} (hs : impl_Procs_step_c1 (fun b100001 h =>
  ldRow h b100001 0 0 [.int .i64, .int .i64, .int .i64] fun n100002 n100003 n100004 =>
  K (.agg ⟨[.int .i64 n100002, .int .i64 n100003, .int .i64 n100004]⟩) h) c_1 h) : callK Try.prog 44 ⟨[.int .i64 c_1]⟩ h K :=
  func_calls Try.func44 body44 impl_Procs_step_c1_V (Nat.le_of_ble_eq_true (by kernel_rfl)) (impl_Procs_step_c1_c0 c_1 h K ▸ hs)

def impl_Procs_step_c1_M (kr : Int → Int → Int → H → Prop) (c_1 : Int) (h : H) : Prop :=
  kr c_1 0 0 h

theorem impl_Procs_step_c1_M_D {g0 m0 : H} {kr_1 : Nat → H → Prop} {kr_2 : Int → Int → Int → H → Prop} (Hkr : ∀ (n200001 : Int) (n200002 : Int) (n200003 : Int) (p200004 : Nat) (g m : H), Md g0 m0 g m [lo p200004 [.int .i64 n200001, .int .i64 n200002, .int .i64 n200003]] → kr_2 n200001 n200002 n200003 m → kr_1 p200004 g) : ∀ (c_1001 : Int) (g m : H), Md g0 m0 g m [] → impl_Procs_step_c1_M kr_2 c_1001 m → impl_Procs_step_c1 kr_1 c_1001 g := by
  intro c_1001 g m R
  rw [impl_Procs_step_c1_M, impl_Procs_step_c1]
  exact (p_new R fun p1002 g R =>
  (p_stRow R (cs' := [.int .i64 c_1001, .int .i64 0, .int .i64 0]) ⟨rfl, rfl, rfl⟩ fun g R =>
  (Hkr c_1001 0 0 p1002 _ _ R.sub)))

theorem impl_Procs_step_c1_M_call {c_1 : Int} {h : H} {K : Value → H → Prop} (hs : impl_Procs_step_c1_M (fun n300001 n300002 n300003 h =>
  K (.agg ⟨[.int .i64 n300001, .int .i64 n300002, .int .i64 n300003]⟩) h) c_1 h) : callD Try.prog 44 ⟨[.int .i64 c_1]⟩ h K :=
  fun g r => impl_Procs_step_c1_call (impl_Procs_step_c1_M_D (by exact fun n300001 n300002 n300003 p300004 g m R =>
(p_row_I3 R rfl rfl rfl (fun h => ⟨m, R.af, h⟩))) _ _ _ (Md.start r) hs)

noncomputable def code45 : Code := codeOf Try.f45
theorem body45 : Try.f45.body = some code45 := by kernel_rfl
def impl_Procs_step_c2 (kr : Bool → H → Prop) (y_1 : Int) (y_2 : Int) (y_3 : Int) (y_4 : Int) (y_5 : Int) (y_6 : Int) (y_7 : Int) (y_8 : Int) (y_9 : Int) (y_10 : Int) (b11 : Nat) (o12 : Nat) (b13 : Nat) (o14 : Nat) (h : H) : Prop :=
  new h [.int .i64 y_1, .int .i64 y_2, .int .i64 y_3, .int .i64 y_4, .int .i64 y_5, .int .i64 y_6, .int .i64 y_7, .int .i64 y_8, .int .i64 y_9, .int .i64 y_10] 38 fun b15 h =>
  ldI .i64 h b11 (o12 + 2) fun n16 =>
  ifB (decide ((n16 : Int) > 0))
  (ldI .i64 h b15 0 fun n17 =>
  ldI .i64 h b11 (o12 + 2) fun n18 =>
  kr ((n17 : Int) == n18) h)
  (ldI .i64 h b11 (o12 + 2) fun n19 =>
  ifB ((n19 : Int) == 0)
  (ldI .i64 h b15 2 fun n20 =>
  ldP h b13 o14 fun p21 =>
  nz p21 fun b22 o23 =>
  ldI .i64 h b22 (o23 + 2) fun n24 =>
  kr ((n20 : Int) == n24) h)
  (ldI .i64 h b11 (o12 + 2) fun n25 =>
  ifB ((n25 : Int) == (-1))
  (kr true h)
  (ldI .i64 h b15 2 fun n26 =>
  ldI .i64 h b11 (o12 + 2) fun n27 =>
  kr ((n26 : Int) == (IntKind.i64.wrap (0 - n27))) h)))

theorem impl_Procs_step_c2_eq (K : Cont) (y_1 : Int) (y_2 : Int) (y_3 : Int) (y_4 : Int) (y_5 : Int) (y_6 : Int) (y_7 : Int) (y_8 : Int) (y_9 : Int) (y_10 : Int) (b11 : Nat) (o12 : Nat) (b13 : Nat) (o14 : Nat) (h : H) :
  impl_Procs_step_c2 (curV [(4, .bool)] (K .ret)) y_1 y_2 y_3 y_4 y_5 y_6 y_7 y_8 y_9 y_10 b11 o12 b13 o14 h = evC Try.prog 35 [] [] code45 [(0, .agg ⟨[.int .i64 y_1, .int .i64 y_2, .int .i64 y_3, .int .i64 y_4, .int .i64 y_5, .int .i64 y_6, .int .i64 y_7, .int .i64 y_8, .int .i64 y_9, .int .i64 y_10]⟩), (1, .pointer (some ⟨b11, o12, none⟩)), (2, .pointer (some ⟨b13, o14, none⟩))] h (outsOf none [] (some [(4, .bool)]) K).K := by kernel_rfl

def impl_Procs_step_c2_F : PT := mkF [(0, .agg [.int .i64, .int .i64, .int .i64, .int .i64, .int .i64, .int .i64, .int .i64, .int .i64, .int .i64, .int .i64]), (1, .adr), (2, .adr)] fun K => impl_Procs_step_c2 (curV [(4, .bool)] (K .ret))

theorem impl_Procs_step_c2_V : Valid Try.prog 35 code45 impl_Procs_step_c2_F :=
  piece mixed rows_nil (fun K => by intro y_1 y_2 y_3 y_4 y_5 y_6 y_7 y_8 y_9 y_10 b11 o12 b13 o14 h hd; exact (impl_Procs_step_c2_eq K y_1 y_2 y_3 y_4 y_5 y_6 y_7 y_8 y_9 y_10 b11 o12 b13 o14 h) ▸ hd)

theorem impl_Procs_step_c2_c0 (y_1 : Int) (y_2 : Int) (y_3 : Int) (y_4 : Int) (y_5 : Int) (y_6 : Int) (y_7 : Int) (y_8 : Int) (y_9 : Int) (y_10 : Int) (b11 : Nat) (o12 : Nat) (b13 : Nat) (o14 : Nat) (h : H) (K : Value → H → Prop) :
  impl_Procs_step_c2 (fun t100001 h =>
  K (.bool t100001) h) y_1 y_2 y_3 y_4 y_5 y_6 y_7 y_8 y_9 y_10 b11 o12 b13 o14 h = callF Try.prog Try.f45.results.toList impl_Procs_step_c2_F [.agg ⟨[.int .i64 y_1, .int .i64 y_2, .int .i64 y_3, .int .i64 y_4, .int .i64 y_5, .int .i64 y_6, .int .i64 y_7, .int .i64 y_8, .int .i64 y_9, .int .i64 y_10]⟩, .pointer (some ⟨b11, o12, none⟩), .pointer (some ⟨b13, o14, none⟩)] h K := by kernel_rfl

theorem impl_Procs_step_c2_call {y_1 : Int} {y_2 : Int} {y_3 : Int} {y_4 : Int} {y_5 : Int} {y_6 : Int} {y_7 : Int} {y_8 : Int} {y_9 : Int} {y_10 : Int} {b11 : Nat} {o12 : Nat} {b13 : Nat} {o14 : Nat} {h : H} {K : Value → H → Prop} (hs : impl_Procs_step_c2 (fun t100001 h =>
  K (.bool t100001) h) y_1 y_2 y_3 y_4 y_5 y_6 y_7 y_8 y_9 y_10 b11 o12 b13 o14 h) : callK Try.prog 45 ⟨[.agg ⟨[.int .i64 y_1, .int .i64 y_2, .int .i64 y_3, .int .i64 y_4, .int .i64 y_5, .int .i64 y_6, .int .i64 y_7, .int .i64 y_8, .int .i64 y_9, .int .i64 y_10]⟩, .pointer (some ⟨b11, o12, none⟩), .pointer (some ⟨b13, o14, none⟩)]⟩ h K :=
  func_calls Try.func45 body45 impl_Procs_step_c2_V (Nat.le_of_ble_eq_true (by kernel_rfl)) (impl_Procs_step_c2_c0 y_1 y_2 y_3 y_4 y_5 y_6 y_7 y_8 y_9 y_10 b11 o12 b13 o14 h K ▸ hs)

def impl_Procs_step_c2_M (kr : Bool → H → Prop) (y_1 : Int) (y_2 : Int) (y_3 : Int) (y_4 : Int) (y_5 : Int) (y_6 : Int) (y_7 : Int) (y_8 : Int) (y_9 : Int) (y_10 : Int) (b11 : Nat) (o12 : Nat) (b13 : Nat) (o14 : Nat) (h : H) : Prop :=
  ldI .i64 h b11 (o12 + 2) fun n15 =>
  ifB (decide ((n15 : Int) > 0))
  (ldI .i64 h b11 (o12 + 2) fun n16 =>
  kr ((y_1 : Int) == n16) h)
  (ldI .i64 h b11 (o12 + 2) fun n17 =>
  ifB ((n17 : Int) == 0)
  (ldP h b13 o14 fun p18 =>
  nz p18 fun b19 o20 =>
  ldI .i64 h b19 (o20 + 2) fun n21 =>
  kr ((y_3 : Int) == n21) h)
  (ldI .i64 h b11 (o12 + 2) fun n22 =>
  ifB ((n22 : Int) == (-1))
  (kr true h)
  (ldI .i64 h b11 (o12 + 2) fun n23 =>
  kr ((y_3 : Int) == (IntKind.i64.wrap (0 - n23))) h)))

theorem impl_Procs_step_c2_M_D {g0 m0 : H} {kr_1 : Bool → H → Prop} {kr_2 : Bool → H → Prop} (Hkr : ∀ (t200001 : Bool) (g m : H), Md g0 m0 g m [] → kr_2 t200001 m → kr_1 t200001 g) : ∀ (y_1001 : Int) (y_1002 : Int) (y_1003 : Int) (y_1004 : Int) (y_1005 : Int) (y_1006 : Int) (y_1007 : Int) (y_1008 : Int) (y_1009 : Int) (y_1010 : Int) (b1011 : Nat) (o1012 : Nat) (b1013 : Nat) (o1014 : Nat) (g m : H), Md g0 m0 g m [] → impl_Procs_step_c2_M kr_2 y_1001 y_1002 y_1003 y_1004 y_1005 y_1006 y_1007 y_1008 y_1009 y_1010 b1011 o1012 b1013 o1014 m → impl_Procs_step_c2 kr_1 y_1001 y_1002 y_1003 y_1004 y_1005 y_1006 y_1007 y_1008 y_1009 y_1010 b1011 o1012 b1013 o1014 g := by
  intro y_1001 y_1002 y_1003 y_1004 y_1005 y_1006 y_1007 y_1008 y_1009 y_1010 b1011 o1012 b1013 o1014 g m R
  rw [impl_Procs_step_c2_M, impl_Procs_step_c2]
  exact (p_new R fun p1015 g R =>
  (d_ldI R fun n1016 =>
  (d_if (p_ldI R rfl (d_ldI R fun n1017 =>
  (Hkr ((y_1001 : Int) == n1017) _ _ R.sub)))
  (d_ldI R fun n1018 =>
  (d_if (p_ldI R rfl (d_ldP R fun p1019 =>
  (d_nz fun b1020 o1021 =>
  (d_ldI R fun n1022 =>
  (Hkr ((y_1003 : Int) == n1022) _ _ R.sub)))))
  (d_ldI R fun n1023 =>
  (d_if (Hkr true _ _ R.sub)
  (p_ldI R rfl (d_ldI R fun n1024 =>
  (Hkr ((y_1003 : Int) == (IntKind.i64.wrap (0 - n1024))) _ _ R.sub))))))))))

theorem impl_Procs_step_c2_M_call {y_1 : Int} {y_2 : Int} {y_3 : Int} {y_4 : Int} {y_5 : Int} {y_6 : Int} {y_7 : Int} {y_8 : Int} {y_9 : Int} {y_10 : Int} {b11 : Nat} {o12 : Nat} {b13 : Nat} {o14 : Nat} {h : H} {K : Value → H → Prop} (hs : impl_Procs_step_c2_M (fun t300001 h =>
  K (.bool t300001) h) y_1 y_2 y_3 y_4 y_5 y_6 y_7 y_8 y_9 y_10 b11 o12 b13 o14 h) : callD Try.prog 45 ⟨[.agg ⟨[.int .i64 y_1, .int .i64 y_2, .int .i64 y_3, .int .i64 y_4, .int .i64 y_5, .int .i64 y_6, .int .i64 y_7, .int .i64 y_8, .int .i64 y_9, .int .i64 y_10]⟩, .pointer (some ⟨b11, o12, none⟩), .pointer (some ⟨b13, o14, none⟩)]⟩ h K :=
  fun g r => impl_Procs_step_c2_call (impl_Procs_step_c2_M_D (by exact fun t300001 g m R =>
(fun h => ⟨m, R.af, h⟩)) _ _ _ _ _ _ _ _ _ _ _ _ _ _ _ _ (Md.start r) hs)

noncomputable def code46 : Code := codeOf Try.f46
theorem body46 : Try.f46.body = some code46 := by kernel_rfl
def impl_Procs_end_l0 (kx0 : Option Addr → Int → Int → Bool → H → Prop) : Nat → Option Addr → Int → Int → Bool → Int → Int → H → Prop
 | 0, _, _, _, _, _, _, _ => False
 | N + 1, p7, n8, n9, t10, n11, n12, h =>
  ifB (decide ((n12 : Int) < n11))
  (nz p7 fun b13 o14 =>
  ldL h b13 o14 fun a15 l15 c15 =>
  req (0 ≤ (n12 : Int) ∧ (n12 : Int) < (l15 : Nat))
  (nz a15 fun b16 o17 =>
  ldI .i64 h b16 ((o17 + n12.toNat * 10) + 1) fun n18 =>
  ifB ((n18 : Int) == n8)
  (st h b16 ((o17 + n12.toNat * 10) + 1) (.int .i64 1) fun h =>
  ifB t10
  (impl_Procs_end_l0 kx0 N p7 n8 n9 true n11 (IntKind.i64.wrap (n12 + 1)) h)
  (ldI .i64 h b16 ((o17 + n12.toNat * 10) + 4) fun n19 =>
  impl_Procs_end_l0 kx0 N p7 n8 n9 ((n19 : Int) == 3) n11 (IntKind.i64.wrap (n12 + 1)) h))
  (impl_Procs_end_l0 kx0 N p7 n8 n9 t10 n11 (IntKind.i64.wrap (n12 + 1)) h)))
  (kx0 p7 n8 n9 t10 h)

def impl_Procs_end_j1 (kn : H → Prop) (kr : H → Prop) (p24 : Option Addr) (n25 : Int) (n26 : Int) (h : H) : Prop :=
  callK Try.prog 19 ⟨[.pointer p24, .int .i64 n25]⟩ h fun v27 h =>
  asP v27 fun p28 =>
  nz p28 fun b29 o30 =>
  ldI .i64 h b29 (o30 + 1) fun n31 =>
  callK Try.prog 19 ⟨[.pointer p24, .int .i64 n31]⟩ h fun v32 h =>
  asP v32 fun p33 =>
  nz p33 fun b34 o35 =>
  ldI .i64 h b34 (o35 + 8) fun n36 =>
  ifB ((bAnd .i64 (sShr .i64 n36 14) 1 : Int) == 1)
  (callK Try.prog 47 ⟨[.pointer p24, .int .i64 n25]⟩ h fun v37 h =>
  elF False (.tuple []) v37
  (kr h))
  (nz p28 fun b38 o39 =>
  st h b38 (o39 + 4) (.int .i64 3) fun h =>
  nz p28 fun b40 o41 =>
  st h b40 (o41 + 5) (.int .i64 n26) fun h =>
  nz p28 fun b42 o43 =>
  st h b42 (o43 + 6) (.int .i64 0) fun h =>
  nz p28 fun b44 o45 =>
  st h b44 (o45 + 7) (.int .i64 0) fun h =>
  nz p28 fun b46 o47 =>
  st h b46 (o47 + 8) (.int .i64 0) fun h =>
  nz p28 fun b48 o49 =>
  st h b48 (o49 + 9) (.int .i64 0) fun h =>
  nz p33 fun b50 o51 =>
  ldI .i64 h b50 o51 fun n52 =>
  callK Try.prog 48 ⟨[.pointer p24, .int .i64 n52, .int .i64 14]⟩ h fun v53 h =>
  elF False (.tuple []) v53
  (kn h))

def impl_Procs_end (kn : H → Prop) (kr : H → Prop) (p1 : Option Addr) (n2 : Int) (n3 : Int) (h : H) : Prop :=
  nz p1 fun b4 o5 =>
  ldL h b4 o5 fun a6 l6 c6 =>
  ∃ M12, impl_Procs_end_l0 (fun p7 n8 n9 t10 h =>
  ifB t10
  (callK Try.prog 48 ⟨[.pointer p7, .int .i64 1, .int .i64 14]⟩ h fun v11 h =>
  elF False (.tuple []) v11
  (impl_Procs_end_j1 kn kr p7 n8 n9 h))
  (impl_Procs_end_j1 kn kr p7 n8 n9 h)) M12 p1 n2 n3 false (l6 : Nat) 0 h

theorem impl_Procs_end_l0_eq (K : Cont) (N : Nat) (p7 : Option Addr) (n8 : Int) (n9 : Int) (t10 : Bool) (n11 : Int) (n12 : Int) (h : H) :
  impl_Procs_end_l0 (curV [(0, .ptr), (1, .int .i64), (2, .int .i64), (6, .bool)] (K (.exit 0))) (N + 1) p7 n8 n9 t10 n11 n12 h = evC Try.prog 90 [] [] (sub code46 [true, false, true, false, false]) [(0, .pointer p7), (1, .int .i64 n8), (2, .int .i64 n9), (6, .bool t10), (15, .int .i64 n11), (16, .int .i64 n12)] h ((outsOf none [(0, [(0, .ptr), (1, .int .i64), (2, .int .i64), (6, .bool)])] none K).loop [(0, .ptr), (1, .int .i64), (2, .int .i64), (6, .bool), (15, .int .i64), (16, .int .i64)] (impl_Procs_end_l0 (curV [(0, .ptr), (1, .int .i64), (2, .int .i64), (6, .bool)] (K (.exit 0))) N)).K := by kernel_rfl

def impl_Procs_end_l0_F : PT := mkL [(0, .ptr), (1, .int .i64), (2, .int .i64), (6, .bool), (15, .int .i64), (16, .int .i64)] fun K N => impl_Procs_end_l0 (curV [(0, .ptr), (1, .int .i64), (2, .int .i64), (6, .bool)] (K (.exit 0))) N

theorem impl_Procs_end_l0_V : Valid Try.prog 90 (sub code46 [true, false, true, false]) impl_Procs_end_l0_F :=
  loop_at (code46) [true, false, true, false] (loop_piece (c := (sub code46 [true, false, true, false, false])) mixed rows_nil (fun K => by intro p7 n8 n9 t10 n11 n12 h hd; exact hd) (fun K N => by intro p7 n8 n9 t10 n11 n12 h hd; exact (impl_Procs_end_l0_eq K N p7 n8 n9 t10 n11 n12 h) ▸ hd))

theorem impl_Procs_end_j1_eq (K : Cont) (p24 : Option Addr) (n25 : Int) (n26 : Int) (h : H) :
  impl_Procs_end_j1 (curV [] (K .normal)) (curV [] (K .ret)) p24 n25 n26 h = evC Try.prog 90 [] [] (sub code46 [true, true, true]) [(0, .pointer p24), (1, .int .i64 n25), (2, .int .i64 n26)] h (outsOf (some []) [] (some []) K).K := by kernel_rfl

def impl_Procs_end_j1_F : PT := mkF [(0, .ptr), (1, .int .i64), (2, .int .i64)] fun K => impl_Procs_end_j1 (curV [] (K .normal)) (curV [] (K .ret))

theorem impl_Procs_end_j1_V : Valid Try.prog 90 (sub code46 [true, true, true]) impl_Procs_end_j1_F :=
  piece mixed rows_nil (fun K => by intro p24 n25 n26 h hd; exact (impl_Procs_end_j1_eq K p24 n25 n26 h) ▸ hd)

theorem impl_Procs_end_eq (K : Cont) (p1 : Option Addr) (n2 : Int) (n3 : Int) (h : H) :
  impl_Procs_end (curV [] (K .normal)) (curV [] (K .ret)) p1 n2 n3 h = evC Try.prog 90 [([false, false, true, false, true], impl_Procs_end_l0_F), ([true, true, true], impl_Procs_end_j1_F)] [] code46 [(0, .pointer p1), (1, .int .i64 n2), (2, .int .i64 n3)] h (outsOf (some []) [] (some []) K).K := by kernel_rfl

def impl_Procs_end_F : PT := mkF [(0, .ptr), (1, .int .i64), (2, .int .i64)] fun K => impl_Procs_end (curV [] (K .normal)) (curV [] (K .ret))

theorem impl_Procs_end_V : Valid Try.prog 90 code46 impl_Procs_end_F :=
  piece mixed (rows_cons (q' := [true, false, true, false]) impl_Procs_end_l0_V rfl (rows_cons (q' := [true, true, true]) impl_Procs_end_j1_V rfl rows_nil)) (fun K => by intro p1 n2 n3 h hd; exact (impl_Procs_end_eq K p1 n2 n3 h) ▸ hd)

theorem impl_Procs_end_c0 (p1 : Option Addr) (n2 : Int) (n3 : Int) (h : H) (K : Value → H → Prop) :
  impl_Procs_end (fun h =>
  K (.tuple ⟨[]⟩) h) (fun h =>
  K (.tuple ⟨[]⟩) h) p1 n2 n3 h = callF Try.prog Try.f46.results.toList impl_Procs_end_F [.pointer p1, .int .i64 n2, .int .i64 n3] h K := by kernel_rfl

theorem impl_Procs_end_call {p1 : Option Addr} {n2 : Int} {n3 : Int} {h : H} {K : Value → H → Prop} (hs : impl_Procs_end (fun h =>
  K (.tuple ⟨[]⟩) h) (fun h =>
  K (.tuple ⟨[]⟩) h) p1 n2 n3 h) : callK Try.prog 46 ⟨[.pointer p1, .int .i64 n2, .int .i64 n3]⟩ h K :=
  func_calls Try.func46 body46 impl_Procs_end_V (Nat.le_of_ble_eq_true (by kernel_rfl)) (impl_Procs_end_c0 p1 n2 n3 h K ▸ hs)

def impl_Procs_end_M_l0 (kx0 : Option Addr → Int → Int → Bool → H → Prop) : Nat → Option Addr → Int → Int → Bool → Int → Int → H → Prop
 | 0, _, _, _, _, _, _, _ => False
 | N + 1, p7, n8, n9, t10, n11, n12, h =>
  ifB (decide ((n12 : Int) < n11))
  (nz p7 fun b13 o14 =>
  ldL h b13 o14 fun a15 l15 c15 =>
  req (0 ≤ (n12 : Int) ∧ (n12 : Int) < (l15 : Nat))
  (nz a15 fun b16 o17 =>
  ldI .i64 h b16 ((o17 + n12.toNat * 10) + 1) fun n18 =>
  ifB ((n18 : Int) == n8)
  (st h b16 ((o17 + n12.toNat * 10) + 1) (.int .i64 1) fun h =>
  ifB t10
  (impl_Procs_end_M_l0 kx0 N p7 n8 n9 true n11 (IntKind.i64.wrap (n12 + 1)) h)
  (ldI .i64 h b16 ((o17 + n12.toNat * 10) + 4) fun n19 =>
  impl_Procs_end_M_l0 kx0 N p7 n8 n9 ((n19 : Int) == 3) n11 (IntKind.i64.wrap (n12 + 1)) h))
  (impl_Procs_end_M_l0 kx0 N p7 n8 n9 t10 n11 (IntKind.i64.wrap (n12 + 1)) h)))
  (kx0 p7 n8 n9 t10 h)

def impl_Procs_end_M_j1 (kn : H → Prop) (kr : H → Prop) (p1024 : Option Addr) (n1025 : Int) (n1026 : Int) (h : H) : Prop :=
  callD Try.prog 19 ⟨[.pointer p1024, .int .i64 n1025]⟩ h fun v1027 h =>
  asP v1027 fun p1028 =>
  nz p1028 fun b1029 o1030 =>
  ldI .i64 h b1029 (o1030 + 1) fun n1031 =>
  callD Try.prog 19 ⟨[.pointer p1024, .int .i64 n1031]⟩ h fun v1032 h =>
  asP v1032 fun p1033 =>
  nz p1033 fun b1034 o1035 =>
  ldI .i64 h b1034 (o1035 + 8) fun n1036 =>
  ifB ((bAnd .i64 (sShr .i64 n1036 14) 1 : Int) == 1)
  (callD Try.prog 47 ⟨[.pointer p1024, .int .i64 n1025]⟩ h fun v1037 h =>
  elF False (.tuple []) v1037
  (kr h))
  (nz p1028 fun b1038 o1039 =>
  st h b1038 (o1039 + 4) (.int .i64 3) fun h =>
  nz p1028 fun b1040 o1041 =>
  st h b1040 (o1041 + 5) (.int .i64 n1026) fun h =>
  nz p1028 fun b1042 o1043 =>
  st h b1042 (o1043 + 6) (.int .i64 0) fun h =>
  nz p1028 fun b1044 o1045 =>
  st h b1044 (o1045 + 7) (.int .i64 0) fun h =>
  nz p1028 fun b1046 o1047 =>
  st h b1046 (o1047 + 8) (.int .i64 0) fun h =>
  nz p1028 fun b1048 o1049 =>
  st h b1048 (o1049 + 9) (.int .i64 0) fun h =>
  nz p1033 fun b1050 o1051 =>
  ldI .i64 h b1050 o1051 fun n1052 =>
  callD Try.prog 48 ⟨[.pointer p1024, .int .i64 n1052, .int .i64 14]⟩ h fun v1053 h =>
  elF False (.tuple []) v1053
  (kn h))

def impl_Procs_end_M (kn : H → Prop) (kr : H → Prop) (p1 : Option Addr) (n2 : Int) (n3 : Int) (h : H) : Prop :=
  nz p1 fun b4 o5 =>
  ldL h b4 o5 fun a6 l6 c6 =>
  ∃ M12, impl_Procs_end_M_l0 (fun p7 n8 n9 t10 h =>
  ifB t10
  (callD Try.prog 48 ⟨[.pointer p7, .int .i64 1, .int .i64 14]⟩ h fun v11 h =>
  elF False (.tuple []) v11
  (impl_Procs_end_M_j1 kn kr p7 n8 n9 h))
  (impl_Procs_end_M_j1 kn kr p7 n8 n9 h)) M12 p1 n2 n3 false (l6 : Nat) 0 h

theorem impl_Procs_end_M_l0_D {g0 m0 : H} {kx0_1 : Option Addr → Int → Int → Bool → H → Prop} {kx0_2 : Option Addr → Int → Int → Bool → H → Prop} (Hkx0 : ∀ (p200001 : Option Addr) (n200002 : Int) (n200003 : Int) (t200004 : Bool) (g m : H), Md g0 m0 g m [] → kx0_2 p200001 n200002 n200003 t200004 m → kx0_1 p200001 n200002 n200003 t200004 g) : ∀ (N : Nat) (p1007 : Option Addr) (n1008 : Int) (n1009 : Int) (t1010 : Bool) (n1011 : Int) (n1012 : Int) (g m : H), Md g0 m0 g m [] → impl_Procs_end_M_l0 kx0_2 N p1007 n1008 n1009 t1010 n1011 n1012 m → impl_Procs_end_l0 kx0_1 N p1007 n1008 n1009 t1010 n1011 n1012 g := by
  intro N
  induction N with
  | zero => intro p1007 n1008 n1009 t1010 n1011 n1012 g m R h0; exact h0.elim
  | succ N ih =>
    intro p1007 n1008 n1009 t1010 n1011 n1012 g m R
    rw [impl_Procs_end_M_l0, impl_Procs_end_l0]
    exact (d_if (d_nz fun b1013 o1014 =>
  (d_ldL R fun a1015 l1015 c1015 =>
  (d_req (d_nz fun b1016 o1017 =>
  (d_ldI R fun n1018 =>
  (d_if (d_st R fun g m R =>
  (d_if (ih p1007 n1008 n1009 true n1011 (IntKind.i64.wrap (n1012 + 1)) _ _ R.sub)
  (d_ldI R fun n1019 =>
  (ih p1007 n1008 n1009 ((n1019 : Int) == 3) n1011 (IntKind.i64.wrap (n1012 + 1)) _ _ R.sub))))
  (ih p1007 n1008 n1009 t1010 n1011 (IntKind.i64.wrap (n1012 + 1)) _ _ R.sub)))))))
  (Hkx0 p1007 n1008 n1009 t1010 _ _ R.sub))

theorem impl_Procs_end_M_j1_D {g0 m0 : H} {kn_1 : H → Prop} {kn_2 : H → Prop} (Hkn : ∀ (g m : H), Md g0 m0 g m [] → kn_2 m → kn_1 g)
  {kr_1 : H → Prop} {kr_2 : H → Prop} (Hkr : ∀ (g m : H), Md g0 m0 g m [] → kr_2 m → kr_1 g) : ∀ (p2024 : Option Addr) (n2025 : Int) (n2026 : Int) (g m : H), Md g0 m0 g m [] → impl_Procs_end_M_j1 kn_2 kr_2 p2024 n2025 n2026 m → impl_Procs_end_j1 kn_1 kr_1 p2024 n2025 n2026 g := by
  intro p2024 n2025 n2026 g m R
  rw [impl_Procs_end_M_j1, impl_Procs_end_j1]
  exact (d_call R fun v2027 g m R =>
  (d_asP fun p2028 =>
  (d_nz fun b2029 o2030 =>
  (d_ldI R fun n2031 =>
  (d_call R fun v2032 g m R =>
  (d_asP fun p2033 =>
  (d_nz fun b2034 o2035 =>
  (d_ldI R fun n2036 =>
  (d_if (d_call R fun v2037 g m R =>
  (d_el_TE (Hkr _ _ R.sub)))
  (d_nz fun b2038 o2039 =>
  (d_st R fun g m R =>
  (d_nz fun b2040 o2041 =>
  (d_st R fun g m R =>
  (d_nz fun b2042 o2043 =>
  (d_st R fun g m R =>
  (d_nz fun b2044 o2045 =>
  (d_st R fun g m R =>
  (d_nz fun b2046 o2047 =>
  (d_st R fun g m R =>
  (d_nz fun b2048 o2049 =>
  (d_st R fun g m R =>
  (d_nz fun b2050 o2051 =>
  (d_ldI R fun n2052 =>
  (d_call R fun v2053 g m R =>
  (d_el_TE (Hkn _ _ R.sub))))))))))))))))))))))))))

theorem impl_Procs_end_M_D {g0 m0 : H} {kn_1 : H → Prop} {kn_2 : H → Prop} (Hkn : ∀ (g m : H), Md g0 m0 g m [] → kn_2 m → kn_1 g)
  {kr_1 : H → Prop} {kr_2 : H → Prop} (Hkr : ∀ (g m : H), Md g0 m0 g m [] → kr_2 m → kr_1 g) : ∀ (p1001 : Option Addr) (n1002 : Int) (n1003 : Int) (g m : H), Md g0 m0 g m [] → impl_Procs_end_M kn_2 kr_2 p1001 n1002 n1003 m → impl_Procs_end kn_1 kr_1 p1001 n1002 n1003 g := by
  intro p1001 n1002 n1003 g m R
  rw [impl_Procs_end_M, impl_Procs_end]
  exact (d_nz fun b1004 o1005 =>
  (d_ldL R fun a1006 l1006 c1006 =>
  (d_ex fun N => impl_Procs_end_M_l0_D (by exact fun p1007 n1008 n1009 t1010 g m R =>
  (d_if (d_call R fun v1011 g m R =>
  (d_el_TE (impl_Procs_end_M_j1_D (by exact fun g m R =>
  (Hkn _ _ R.sub))
  (by exact fun g m R =>
  (Hkr _ _ R.sub)) p1007 n1008 n1009 _ _ R.sub)))
  (impl_Procs_end_M_j1_D (by exact fun g m R =>
  (Hkn _ _ R.sub))
  (by exact fun g m R =>
  (Hkr _ _ R.sub)) p1007 n1008 n1009 _ _ R.sub))) N p1001 n1002 n1003 false (l1006 : Nat) 0 _ _ R.sub)))

theorem impl_Procs_end_M_call {p1 : Option Addr} {n2 : Int} {n3 : Int} {h : H} {K : Value → H → Prop} (hs : impl_Procs_end_M (fun h =>
  K (.tuple ⟨[]⟩) h) (fun h =>
  K (.tuple ⟨[]⟩) h) p1 n2 n3 h) : callD Try.prog 46 ⟨[.pointer p1, .int .i64 n2, .int .i64 n3]⟩ h K :=
  fun g r => impl_Procs_end_call (impl_Procs_end_M_D (by exact fun g m R =>
(fun h => ⟨m, R.af, h⟩))
(by exact fun g m R =>
(fun h => ⟨m, R.af, h⟩)) _ _ _ _ _ (Md.start r) hs)

noncomputable def code47 : Code := codeOf Try.f47
theorem body47 : Try.f47.body = some code47 := by kernel_rfl
def impl_Procs_gone_l0 (kx0 : Option Addr → Option Addr → Nat → Nat → H → Prop) : Nat → Option Addr → Int → Option Addr → Nat → Nat → Option Addr → Nat → Nat → Int → Int → H → Prop
 | 0, _, _, _, _, _, _, _, _, _, _, _ => False
 | N + 1, p_6, id_7, l_8, l_l8, l_c8, a9, l9, c9, n10, n11, h =>
  ifB (decide ((n11 : Int) < n10))
  (req (0 ≤ (n11 : Int) ∧ (n11 : Int) < (l9 : Nat))
  (nz a9 fun b12 o13 =>
  ldRow h b12 (o13 + n11.toNat * 10) 0 [.int .i64, .int .i64, .int .i64, .int .i64, .int .i64, .int .i64, .int .i64, .int .i64, .int .i64, .int .i64] fun n14 n15 n16 n17 n18 n19 n20 n21 n22 n23 =>
  new h [.int .i64 0, .int .i64 0, .int .i64 0, .int .i64 0, .int .i64 0, .int .i64 0, .int .i64 0, .int .i64 0, .int .i64 0, .int .i64 0] 38 fun b24 h =>
  stRow h b24 0 0 [.int .i64 n14, .int .i64 n15, .int .i64 n16, .int .i64 n17, .int .i64 n18, .int .i64 n19, .int .i64 n20, .int .i64 n21, .int .i64 n22, .int .i64 n23] fun h =>
  ldI .i64 h b24 0 fun n25 =>
  ifB ((n25 : Int) != id_7)
  (ldRow h b24 0 0 [.int .i64, .int .i64, .int .i64, .int .i64, .int .i64, .int .i64, .int .i64, .int .i64, .int .i64, .int .i64] fun n26 n27 n28 n29 n30 n31 n32 n33 n34 n35 =>
  new h [.int .i64 n26, .int .i64 n27, .int .i64 n28, .int .i64 n29, .int .i64 n30, .int .i64 n31, .int .i64 n32, .int .i64 n33, .int .i64 n34, .int .i64 n35] 38 fun b36 h =>
  appendK Try.prog 38 h l_8 l_l8 l_c8 (.slice (some ⟨b36, 0, none⟩) 1 1) fun a37 l37 c37 h =>
  impl_Procs_gone_l0 kx0 N p_6 id_7 a37 l37 c37 a9 l9 c9 n10 (IntKind.i64.wrap (n11 + 1)) h)
  (impl_Procs_gone_l0 kx0 N p_6 id_7 l_8 l_l8 l_c8 a9 l9 c9 n10 (IntKind.i64.wrap (n11 + 1)) h)))
  (kx0 p_6 l_8 l_l8 l_c8 h)

def impl_Procs_gone (kn : H → Prop) (p_1 : Option Addr) (id_2 : Int) (h : H) : Prop :=
  nz p_1 fun b3 o4 =>
  ldL h b3 o4 fun a5 l5 c5 =>
  ∃ M10, impl_Procs_gone_l0 (fun p_6 l_7 l_l7 l_c7 h =>
  nz p_6 fun b8 o9 =>
  st h b8 o9 (.slice l_7 l_l7 l_c7) fun h =>
  kn h) M10 p_1 id_2 none 0 0 a5 l5 c5 (l5 : Nat) 0 h

theorem impl_Procs_gone_l0_eq (K : Cont) (N : Nat) (p_6 : Option Addr) (id_7 : Int) (l_8 : Option Addr) (l_l8 : Nat) (l_c8 : Nat) (a9 : Option Addr) (l9 : Nat) (c9 : Nat) (n10 : Int) (n11 : Int) (h : H) :
  impl_Procs_gone_l0 (curV [(0, .ptr), (4, .slice)] (K (.exit 0))) (N + 1) p_6 id_7 l_8 l_l8 l_c8 a9 l9 c9 n10 n11 h = evC Try.prog 29 [] [] (sub code47 [true, false, true, false, false]) [(0, .pointer p_6), (1, .int .i64 id_7), (4, .slice l_8 l_l8 l_c8), (10, .slice a9 l9 c9), (11, .int .i64 n10), (12, .int .i64 n11)] h ((outsOf none [(0, [(0, .ptr), (4, .slice)])] none K).loop [(0, .ptr), (1, .int .i64), (4, .slice), (10, .slice), (11, .int .i64), (12, .int .i64)] (impl_Procs_gone_l0 (curV [(0, .ptr), (4, .slice)] (K (.exit 0))) N)).K := by kernel_rfl

def impl_Procs_gone_l0_F : PT := mkL [(0, .ptr), (1, .int .i64), (4, .slice), (10, .slice), (11, .int .i64), (12, .int .i64)] fun K N => impl_Procs_gone_l0 (curV [(0, .ptr), (4, .slice)] (K (.exit 0))) N

theorem impl_Procs_gone_l0_V : Valid Try.prog 29 (sub code47 [true, false, true, false]) impl_Procs_gone_l0_F :=
  loop_at (code47) [true, false, true, false] (loop_piece (c := (sub code47 [true, false, true, false, false])) mixed rows_nil (fun K => by intro p_6 id_7 l_8 l_l8 l_c8 a9 l9 c9 n10 n11 h hd; exact hd) (fun K N => by intro p_6 id_7 l_8 l_l8 l_c8 a9 l9 c9 n10 n11 h hd; exact (impl_Procs_gone_l0_eq K N p_6 id_7 l_8 l_l8 l_c8 a9 l9 c9 n10 n11 h) ▸ hd))

theorem impl_Procs_gone_eq (K : Cont) (p_1 : Option Addr) (id_2 : Int) (h : H) :
  impl_Procs_gone (curV [] (K .normal)) p_1 id_2 h = evC Try.prog 29 [([false, false, true, false, true], impl_Procs_gone_l0_F)] [] code47 [(0, .pointer p_1), (1, .int .i64 id_2)] h (outsOf (some []) [] none K).K := by kernel_rfl

def impl_Procs_gone_F : PT := mkF [(0, .ptr), (1, .int .i64)] fun K => impl_Procs_gone (curV [] (K .normal))

theorem impl_Procs_gone_V : Valid Try.prog 29 code47 impl_Procs_gone_F :=
  piece mixed (rows_cons (q' := [true, false, true, false]) impl_Procs_gone_l0_V rfl rows_nil) (fun K => by intro p_1 id_2 h hd; exact (impl_Procs_gone_eq K p_1 id_2 h) ▸ hd)

theorem impl_Procs_gone_c0 (p_1 : Option Addr) (id_2 : Int) (h : H) (K : Value → H → Prop) :
  impl_Procs_gone (fun h =>
  K (.tuple ⟨[]⟩) h) p_1 id_2 h = callF Try.prog Try.f47.results.toList impl_Procs_gone_F [.pointer p_1, .int .i64 id_2] h K := by kernel_rfl

theorem impl_Procs_gone_call {p_1 : Option Addr} {id_2 : Int} {h : H} {K : Value → H → Prop} (hs : impl_Procs_gone (fun h =>
  K (.tuple ⟨[]⟩) h) p_1 id_2 h) : callK Try.prog 47 ⟨[.pointer p_1, .int .i64 id_2]⟩ h K :=
  func_calls Try.func47 body47 impl_Procs_gone_V (Nat.le_of_ble_eq_true (by kernel_rfl)) (impl_Procs_gone_c0 p_1 id_2 h K ▸ hs)

def impl_Procs_gone_M_l0 (kx0 : Option Addr → Option Addr → Nat → Nat → H → Prop) : Nat → Option Addr → Int → Option Addr → Nat → Nat → Option Addr → Nat → Int → Int → H → Prop
 | 0, _, _, _, _, _, _, _, _, _, _ => False
 | N + 1, p_6, id_7, l_8, l_l8, l_c8, a9, l9, n10, n11, h =>
  ifB (decide ((n11 : Int) < n10))
  (req (0 ≤ (n11 : Int) ∧ (n11 : Int) < (l9 : Nat))
  (nz a9 fun b12 o13 =>
  ldRow h b12 (o13 + n11.toNat * 10) 0 [.int .i64, .int .i64, .int .i64, .int .i64, .int .i64, .int .i64, .int .i64, .int .i64, .int .i64, .int .i64] fun n14 n15 n16 n17 n18 n19 n20 n21 n22 n23 =>
  ifB ((n14 : Int) != id_7)
  (newD h [.int .i64 n14, .int .i64 n15, .int .i64 n16, .int .i64 n17, .int .i64 n18, .int .i64 n19, .int .i64 n20, .int .i64 n21, .int .i64 n22, .int .i64 n23] 38 fun b24 h =>
  appendD Try.prog 38 h l_8 l_l8 l_c8 (.slice (some ⟨b24, 0, none⟩) 1 1) fun a25 l25 c25 h =>
  impl_Procs_gone_M_l0 kx0 N p_6 id_7 a25 l25 c25 a9 l9 n10 (IntKind.i64.wrap (n11 + 1)) h)
  (impl_Procs_gone_M_l0 kx0 N p_6 id_7 l_8 l_l8 l_c8 a9 l9 n10 (IntKind.i64.wrap (n11 + 1)) h)))
  (kx0 p_6 l_8 l_l8 l_c8 h)

def impl_Procs_gone_M (kn : H → Prop) (p_1 : Option Addr) (id_2 : Int) (h : H) : Prop :=
  nz p_1 fun b3 o4 =>
  ldL h b3 o4 fun a5 l5 c5 =>
  ∃ M10, impl_Procs_gone_M_l0 (fun p_6 l_7 l_l7 l_c7 h =>
  nz p_6 fun b8 o9 =>
  st h b8 o9 (.slice l_7 l_l7 l_c7) fun h =>
  kn h) M10 p_1 id_2 none 0 0 a5 l5 (l5 : Nat) 0 h

theorem impl_Procs_gone_M_l0_D {g0 m0 : H} {kx0_1 : Option Addr → Option Addr → Nat → Nat → H → Prop} {kx0_2 : Option Addr → Option Addr → Nat → Nat → H → Prop} (Hkx0 : ∀ (p_200001 : Option Addr) (l_200002 : Option Addr) (l_l200002 : Nat) (l_c200002 : Nat) (g m : H), Md g0 m0 g m [] → kx0_2 p_200001 l_200002 l_l200002 l_c200002 m → kx0_1 p_200001 l_200002 l_l200002 l_c200002 g) : ∀ (N : Nat) (p_1006 : Option Addr) (id_1007 : Int) (l_1008 : Option Addr) (l_l1008 : Nat) (l_c1008 : Nat) (a1009 : Option Addr) (l1009 : Nat) (c1009 : Nat) (n1010 : Int) (n1011 : Int) (g m : H), Md g0 m0 g m [] → impl_Procs_gone_M_l0 kx0_2 N p_1006 id_1007 l_1008 l_l1008 l_c1008 a1009 l1009 n1010 n1011 m → impl_Procs_gone_l0 kx0_1 N p_1006 id_1007 l_1008 l_l1008 l_c1008 a1009 l1009 c1009 n1010 n1011 g := by
  intro N
  induction N with
  | zero => intro p_1006 id_1007 l_1008 l_l1008 l_c1008 a1009 l1009 c1009 n1010 n1011 g m R h0; exact h0.elim
  | succ N ih =>
    intro p_1006 id_1007 l_1008 l_l1008 l_c1008 a1009 l1009 c1009 n1010 n1011 g m R
    rw [impl_Procs_gone_M_l0, impl_Procs_gone_l0]
    exact (d_if (d_req (d_nz fun b1012 o1013 =>
  (d_row_I10 R fun n1014 n1015 n1016 n1017 n1018 n1019 n1020 n1021 n1022 n1023 =>
  (p_new R fun p1024 g R =>
  (p_stRow R (cs' := [.int .i64 n1014, .int .i64 n1015, .int .i64 n1016, .int .i64 n1017, .int .i64 n1018, .int .i64 n1019, .int .i64 n1020, .int .i64 n1021, .int .i64 n1022, .int .i64 n1023]) ⟨rfl, rfl, rfl⟩ fun g R =>
  (p_ldI R rfl (d_if (p_row_I10 R rfl rfl rfl rfl rfl rfl rfl rfl rfl rfl (d_new R fun b1025 g m R =>
  (d_append R fun a1026 l1026 c1026 g m R =>
  (ih p_1006 id_1007 a1026 l1026 c1026 a1009 l1009 c1009 n1010 (IntKind.i64.wrap (n1011 + 1)) _ _ R.sub))))
  (ih p_1006 id_1007 l_1008 l_l1008 l_c1008 a1009 l1009 c1009 n1010 (IntKind.i64.wrap (n1011 + 1)) _ _ R.sub))))))))
  (Hkx0 p_1006 l_1008 l_l1008 l_c1008 _ _ R.sub))

theorem impl_Procs_gone_M_D {g0 m0 : H} {kn_1 : H → Prop} {kn_2 : H → Prop} (Hkn : ∀ (g m : H), Md g0 m0 g m [] → kn_2 m → kn_1 g) : ∀ (p_1001 : Option Addr) (id_1002 : Int) (g m : H), Md g0 m0 g m [] → impl_Procs_gone_M kn_2 p_1001 id_1002 m → impl_Procs_gone kn_1 p_1001 id_1002 g := by
  intro p_1001 id_1002 g m R
  rw [impl_Procs_gone_M, impl_Procs_gone]
  exact (d_nz fun b1003 o1004 =>
  (d_ldL R fun a1005 l1005 c1005 =>
  (d_ex fun N => impl_Procs_gone_M_l0_D (by exact fun p_1006 l_1007 l_l1007 l_c1007 g m R =>
  (d_nz fun b1008 o1009 =>
  (d_st R fun g m R =>
  (Hkn _ _ R.sub)))) N p_1001 id_1002 none 0 0 a1005 l1005 c1005 (l1005 : Nat) 0 _ _ R.sub)))

theorem impl_Procs_gone_M_call {p_1 : Option Addr} {id_2 : Int} {h : H} {K : Value → H → Prop} (hs : impl_Procs_gone_M (fun h =>
  K (.tuple ⟨[]⟩) h) p_1 id_2 h) : callD Try.prog 47 ⟨[.pointer p_1, .int .i64 id_2]⟩ h K :=
  fun g r => impl_Procs_gone_call (impl_Procs_gone_M_D (by exact fun g m R =>
(fun h => ⟨m, R.af, h⟩)) _ _ _ _ (Md.start r) hs)

noncomputable def code48 : Code := codeOf Try.f48
theorem body48 : Try.f48.body = some code48 := by kernel_rfl
def impl_Procs_send_j0 (kn : H → Prop) (sig_9 : Int) (x_10 : Option Addr) (h : H) : Prop :=
  nz x_10 fun b11 o12 =>
  ldI .i64 h b11 (o12 + 8) fun n13 =>
  req (0 ≤ (sig_9 : Int))
  (ifB ((bAnd .i64 (sShr .i64 n13 sig_9) 1 : Int) == 0)
  (nz x_10 fun b14 o15 =>
  ldI .i64 h b14 (o15 + 6) fun n16 =>
  req (0 ≤ (sig_9 : Int))
  (nz x_10 fun b17 o18 =>
  st h b17 (o18 + 6) (.int .i64 (bOr .i64 n16 (sShl .i64 1 sig_9))) fun h =>
  kn h))
  (kn h))

def impl_Procs_send (kn : H → Prop) (kr : H → Prop) (p_1 : Option Addr) (id_2 : Int) (sig_3 : Int) (h : H) : Prop :=
  callK Try.prog 19 ⟨[.pointer p_1, .int .i64 id_2]⟩ h fun v4 h =>
  asP v4 fun p5 =>
  ifB p5.isNone
  (kr h)
  (nz p5 fun b6 o7 =>
  ldI .i64 h b6 (o7 + 4) fun n8 =>
  ifB ((n8 : Int) == 3)
  (kr h)
  (ifB ((sig_3 : Int) == 13)
  (nz p5 fun b9 o10 =>
  st h b9 (o10 + 4) (.int .i64 1) fun h =>
  nz p5 fun b11 o12 =>
  ldI .i64 h b11 (o12 + 6) fun n13 =>
  nz p5 fun b14 o15 =>
  st h b14 (o15 + 6) (.int .i64 (bAndNot .i64 n13 4096)) fun h =>
  impl_Procs_send_j0 kn sig_3 p5 h)
  (ifB ((sig_3 : Int) == 12)
  (nz p5 fun b16 o17 =>
  ldI .i64 h b16 (o17 + 6) fun n18 =>
  nz p5 fun b19 o20 =>
  st h b19 (o20 + 6) (.int .i64 (bAndNot .i64 n18 8192)) fun h =>
  impl_Procs_send_j0 kn sig_3 p5 h)
  (impl_Procs_send_j0 kn sig_3 p5 h))))

theorem impl_Procs_send_j0_eq (K : Cont) (sig_9 : Int) (x_10 : Option Addr) (h : H) :
  impl_Procs_send_j0 (curV [] (K .normal)) sig_9 x_10 h = evC Try.prog 58 [] [] (sub code48 [true, true, true]) [(2, .int .i64 sig_9), (6, .pointer x_10)] h (outsOf (some []) [] none K).K := by kernel_rfl

def impl_Procs_send_j0_F : PT := mkF [(2, .int .i64), (6, .ptr)] fun K => impl_Procs_send_j0 (curV [] (K .normal))

theorem impl_Procs_send_j0_V : Valid Try.prog 58 (sub code48 [true, true, true]) impl_Procs_send_j0_F :=
  piece mixed rows_nil (fun K => by intro sig_9 x_10 h hd; exact (impl_Procs_send_j0_eq K sig_9 x_10 h) ▸ hd)

theorem impl_Procs_send_eq (K : Cont) (p_1 : Option Addr) (id_2 : Int) (sig_3 : Int) (h : H) :
  impl_Procs_send (curV [] (K .normal)) (curV [] (K .ret)) p_1 id_2 sig_3 h = evC Try.prog 58 [([true, true, true], impl_Procs_send_j0_F)] [] code48 [(0, .pointer p_1), (1, .int .i64 id_2), (2, .int .i64 sig_3)] h (outsOf (some []) [] (some []) K).K := by kernel_rfl

def impl_Procs_send_F : PT := mkF [(0, .ptr), (1, .int .i64), (2, .int .i64)] fun K => impl_Procs_send (curV [] (K .normal)) (curV [] (K .ret))

theorem impl_Procs_send_V : Valid Try.prog 58 code48 impl_Procs_send_F :=
  piece mixed (rows_cons (q' := [true, true, true]) impl_Procs_send_j0_V rfl rows_nil) (fun K => by intro p_1 id_2 sig_3 h hd; exact (impl_Procs_send_eq K p_1 id_2 sig_3 h) ▸ hd)

theorem impl_Procs_send_c0 (p_1 : Option Addr) (id_2 : Int) (sig_3 : Int) (h : H) (K : Value → H → Prop) :
  impl_Procs_send (fun h =>
  K (.tuple ⟨[]⟩) h) (fun h =>
  K (.tuple ⟨[]⟩) h) p_1 id_2 sig_3 h = callF Try.prog Try.f48.results.toList impl_Procs_send_F [.pointer p_1, .int .i64 id_2, .int .i64 sig_3] h K := by kernel_rfl

theorem impl_Procs_send_call {p_1 : Option Addr} {id_2 : Int} {sig_3 : Int} {h : H} {K : Value → H → Prop} (hs : impl_Procs_send (fun h =>
  K (.tuple ⟨[]⟩) h) (fun h =>
  K (.tuple ⟨[]⟩) h) p_1 id_2 sig_3 h) : callK Try.prog 48 ⟨[.pointer p_1, .int .i64 id_2, .int .i64 sig_3]⟩ h K :=
  func_calls Try.func48 body48 impl_Procs_send_V (Nat.le_of_ble_eq_true (by kernel_rfl)) (impl_Procs_send_c0 p_1 id_2 sig_3 h K ▸ hs)

def impl_Procs_send_M_j0 (kn : H → Prop) (sig_9 : Int) (x_10 : Option Addr) (h : H) : Prop :=
  nz x_10 fun b11 o12 =>
  ldI .i64 h b11 (o12 + 8) fun n13 =>
  req (0 ≤ (sig_9 : Int))
  (ifB ((bAnd .i64 (sShr .i64 n13 sig_9) 1 : Int) == 0)
  (nz x_10 fun b14 o15 =>
  ldI .i64 h b14 (o15 + 6) fun n16 =>
  req (0 ≤ (sig_9 : Int))
  (nz x_10 fun b17 o18 =>
  st h b17 (o18 + 6) (.int .i64 (bOr .i64 n16 (sShl .i64 1 sig_9))) fun h =>
  kn h))
  (kn h))

def impl_Procs_send_M (kn : H → Prop) (kr : H → Prop) (p_1 : Option Addr) (id_2 : Int) (sig_3 : Int) (h : H) : Prop :=
  callD Try.prog 19 ⟨[.pointer p_1, .int .i64 id_2]⟩ h fun v4 h =>
  asP v4 fun p5 =>
  ifB p5.isNone
  (kr h)
  (nz p5 fun b6 o7 =>
  ldI .i64 h b6 (o7 + 4) fun n8 =>
  ifB ((n8 : Int) == 3)
  (kr h)
  (ifB ((sig_3 : Int) == 13)
  (nz p5 fun b9 o10 =>
  st h b9 (o10 + 4) (.int .i64 1) fun h =>
  nz p5 fun b11 o12 =>
  ldI .i64 h b11 (o12 + 6) fun n13 =>
  nz p5 fun b14 o15 =>
  st h b14 (o15 + 6) (.int .i64 (bAndNot .i64 n13 4096)) fun h =>
  impl_Procs_send_M_j0 kn sig_3 p5 h)
  (ifB ((sig_3 : Int) == 12)
  (nz p5 fun b16 o17 =>
  ldI .i64 h b16 (o17 + 6) fun n18 =>
  nz p5 fun b19 o20 =>
  st h b19 (o20 + 6) (.int .i64 (bAndNot .i64 n18 8192)) fun h =>
  impl_Procs_send_M_j0 kn sig_3 p5 h)
  (impl_Procs_send_M_j0 kn sig_3 p5 h))))

theorem impl_Procs_send_M_j0_D {g0 m0 : H} {kn_1 : H → Prop} {kn_2 : H → Prop} (Hkn : ∀ (g m : H), Md g0 m0 g m [] → kn_2 m → kn_1 g) : ∀ (sig_1009 : Int) (x_1010 : Option Addr) (g m : H), Md g0 m0 g m [] → impl_Procs_send_M_j0 kn_2 sig_1009 x_1010 m → impl_Procs_send_j0 kn_1 sig_1009 x_1010 g := by
  intro sig_1009 x_1010 g m R
  rw [impl_Procs_send_M_j0, impl_Procs_send_j0]
  exact (d_nz fun b1011 o1012 =>
  (d_ldI R fun n1013 =>
  (d_req (d_if (d_nz fun b1014 o1015 =>
  (d_ldI R fun n1016 =>
  (d_req (d_nz fun b1017 o1018 =>
  (d_st R fun g m R =>
  (Hkn _ _ R.sub))))))
  (Hkn _ _ R.sub)))))

theorem impl_Procs_send_M_D {g0 m0 : H} {kn_1 : H → Prop} {kn_2 : H → Prop} (Hkn : ∀ (g m : H), Md g0 m0 g m [] → kn_2 m → kn_1 g)
  {kr_1 : H → Prop} {kr_2 : H → Prop} (Hkr : ∀ (g m : H), Md g0 m0 g m [] → kr_2 m → kr_1 g) : ∀ (p_1001 : Option Addr) (id_1002 : Int) (sig_1003 : Int) (g m : H), Md g0 m0 g m [] → impl_Procs_send_M kn_2 kr_2 p_1001 id_1002 sig_1003 m → impl_Procs_send kn_1 kr_1 p_1001 id_1002 sig_1003 g := by
  intro p_1001 id_1002 sig_1003 g m R
  rw [impl_Procs_send_M, impl_Procs_send]
  exact (d_call R fun v1004 g m R =>
  (d_asP fun p1005 =>
  (d_if (Hkr _ _ R.sub)
  (d_nz fun b1006 o1007 =>
  (d_ldI R fun n1008 =>
  (d_if (Hkr _ _ R.sub)
  (d_if (d_nz fun b1009 o1010 =>
  (d_st R fun g m R =>
  (d_nz fun b1011 o1012 =>
  (d_ldI R fun n1013 =>
  (d_nz fun b1014 o1015 =>
  (d_st R fun g m R =>
  (impl_Procs_send_M_j0_D (by exact fun g m R =>
  (Hkn _ _ R.sub)) sig_1003 p1005 _ _ R.sub)))))))
  (d_if (d_nz fun b1016 o1017 =>
  (d_ldI R fun n1018 =>
  (d_nz fun b1019 o1020 =>
  (d_st R fun g m R =>
  (impl_Procs_send_M_j0_D (by exact fun g m R =>
  (Hkn _ _ R.sub)) sig_1003 p1005 _ _ R.sub)))))
  (impl_Procs_send_M_j0_D (by exact fun g m R =>
  (Hkn _ _ R.sub)) sig_1003 p1005 _ _ R.sub)))))))))

theorem impl_Procs_send_M_call {p_1 : Option Addr} {id_2 : Int} {sig_3 : Int} {h : H} {K : Value → H → Prop} (hs : impl_Procs_send_M (fun h =>
  K (.tuple ⟨[]⟩) h) (fun h =>
  K (.tuple ⟨[]⟩) h) p_1 id_2 sig_3 h) : callD Try.prog 48 ⟨[.pointer p_1, .int .i64 id_2, .int .i64 sig_3]⟩ h K :=
  fun g r => impl_Procs_send_call (impl_Procs_send_M_D (by exact fun g m R =>
(fun h => ⟨m, R.af, h⟩))
(by exact fun g m R =>
(fun h => ⟨m, R.af, h⟩)) _ _ _ _ _ (Md.start r) hs)

noncomputable def code49 : Code := codeOf Try.f49
theorem body49 : Try.f49.body = some code49 := by kernel_rfl
def spec_l16End_l0 (kx0 : Int → Int → Nat → Nat → Bool → H → Prop) : Nat → Int → Int → Nat → Nat → Bool → Int → H → Prop
 | 0, _, _, _, _, _, _, _ => False
 | N + 1, n6, n7, b8, b9, t10, n11, h =>
  ldL h b8 0 fun a12 l12 c12 =>
  ifB (decide ((n11 : Int) < (l12 : Nat)))
  (ldL h b8 0 fun a13 l13 c13 =>
  req (0 ≤ (n11 : Int) ∧ (n11 : Int) < (l13 : Nat))
  (nz a13 fun b14 o15 =>
  ldI .i64 h b14 ((o15 + n11.toNat * 10) + 1) fun n16 =>
  ifB ((n16 : Int) == n6)
  (ldL h b8 0 fun a17 l17 c17 =>
  req (0 ≤ (n11 : Int) ∧ (n11 : Int) < (l17 : Nat))
  (nz a17 fun b18 o19 =>
  st h b18 ((o19 + n11.toNat * 10) + 1) (.int .i64 1) fun h =>
  ifB t10
  (spec_l16End_l0 kx0 N n6 n7 b8 b9 true (IntKind.i64.wrap (n11 + 1)) h)
  (ldL h b8 0 fun a20 l20 c20 =>
  req (0 ≤ (n11 : Int) ∧ (n11 : Int) < (l20 : Nat))
  (nz a20 fun b21 o22 =>
  ldI .i64 h b21 ((o22 + n11.toNat * 10) + 4) fun n23 =>
  spec_l16End_l0 kx0 N n6 n7 b8 b9 ((n23 : Int) == 3) (IntKind.i64.wrap (n11 + 1)) h))))
  (spec_l16End_l0 kx0 N n6 n7 b8 b9 t10 (IntKind.i64.wrap (n11 + 1)) h)))
  (kx0 n6 n7 b8 b9 t10 h)

def spec_l16End_j1 (kr : Nat → H → Prop) (n29 : Int) (n30 : Int) (b31 : Nat) (b32 : Nat) (h : H) : Prop :=
  ldRow h b31 0 0 [.slice] fun a33 l33 c33 =>
  callK Try.prog 25 ⟨[.agg ⟨[.slice a33 l33 c33]⟩, .int .i64 n29]⟩ h fun v34 h =>
  asI .i64 v34 fun n35 =>
  ldL h b31 0 fun a36 l36 c36 =>
  req (0 ≤ (n35 : Int) ∧ (n35 : Int) < (l36 : Nat))
  (nz a36 fun b37 o38 =>
  ldRow h b37 (o38 + n35.toNat * 10) 0 [.int .i64, .int .i64, .int .i64, .int .i64, .int .i64, .int .i64, .int .i64, .int .i64, .int .i64, .int .i64] fun n39 n40 n41 n42 n43 n44 n45 n46 n47 n48 =>
  new h [.int .i64 0, .int .i64 0, .int .i64 0, .int .i64 0, .int .i64 0, .int .i64 0, .int .i64 0, .int .i64 0, .int .i64 0, .int .i64 0] 38 fun b49 h =>
  stRow h b49 0 0 [.int .i64 n39, .int .i64 n40, .int .i64 n41, .int .i64 n42, .int .i64 n43, .int .i64 n44, .int .i64 n45, .int .i64 n46, .int .i64 n47, .int .i64 n48] fun h =>
  ldRow h b31 0 0 [.slice] fun a50 l50 c50 =>
  ldI .i64 h b49 1 fun n51 =>
  callK Try.prog 25 ⟨[.agg ⟨[.slice a50 l50 c50]⟩, .int .i64 n51]⟩ h fun v52 h =>
  asI .i64 v52 fun n53 =>
  ldL h b31 0 fun a54 l54 c54 =>
  req (0 ≤ (n53 : Int) ∧ (n53 : Int) < (l54 : Nat))
  (nz a54 fun b55 o56 =>
  ldI .i64 h b55 ((o56 + n53.toNat * 10) + 8) fun n57 =>
  callK Try.prog 40 ⟨[.int .i64 n57, .int .i64 14]⟩ h fun v58 h =>
  asB v58 fun t59 =>
  ifB t59
  (ldRow h b31 0 0 [.slice] fun a60 l60 c60 =>
  callK Try.prog 62 ⟨[.agg ⟨[.slice a60 l60 c60]⟩, .int .i64 n35]⟩ h fun v61 h =>
  elF False (.agg [.slice]) v61 fun a62 l62 c62 =>
  stRow h b32 0 0 [.slice a62 l62 c62] fun h =>
  kr b32 h)
  (ldL h b31 0 fun a63 l63 c63 =>
  ldI .i64 h b49 0 fun n64 =>
  ldI .i64 h b49 1 fun n65 =>
  ldI .i64 h b49 2 fun n66 =>
  ldI .i64 h b49 3 fun n67 =>
  req (0 ≤ (n35 : Int) ∧ (n35 : Int) < (l63 : Nat))
  (nz a63 fun b68 o69 =>
  stRow h b68 (o69 + n35.toNat * 10) 0 [.int .i64 n64, .int .i64 n65, .int .i64 n66, .int .i64 n67, .int .i64 3, .int .i64 n30, .int .i64 0, .int .i64 0, .int .i64 0, .int .i64 0] fun h =>
  ldRow h b31 0 0 [.slice] fun a70 l70 c70 =>
  callK Try.prog 61 ⟨[.agg ⟨[.slice a70 l70 c70]⟩, .int .i64 n53, .int .i64 14]⟩ h fun v71 h =>
  elF False (.tuple []) v71
  (ldRow h b31 0 0 [.slice] fun a72 l72 c72 =>
  stRow h b32 0 0 [.slice a72 l72 c72] fun h =>
  kr b32 h)))))

def spec_l16End (kr : Nat → H → Prop) (a1 : Option Addr) (l1 : Nat) (c1 : Nat) (n2 : Int) (n3 : Int) (h : H) : Prop :=
  new h [.slice a1 l1 c1] 27 fun b4 h =>
  new h [.slice none 0 0] 27 fun b5 h =>
  ∃ M13, spec_l16End_l0 (fun n6 n7 b8 b9 t10 h =>
  ifB t10
  (ldRow h b8 0 0 [.slice] fun a11 l11 c11 =>
  callK Try.prog 61 ⟨[.agg ⟨[.slice a11 l11 c11]⟩, .int .i64 0, .int .i64 14]⟩ h fun v12 h =>
  elF False (.tuple []) v12
  (spec_l16End_j1 kr n6 n7 b8 b9 h))
  (spec_l16End_j1 kr n6 n7 b8 b9 h)) M13 n2 n3 b4 b5 false 0 h

theorem spec_l16End_l0_eq (K : Cont) (N : Nat) (n6 : Int) (n7 : Int) (b8 : Nat) (b9 : Nat) (t10 : Bool) (n11 : Int) (h : H) :
  spec_l16End_l0 (curV [(1, .int .i64), (2, .int .i64), (3, .blk), (6, .blk), (7, .bool)] (K (.exit 0))) (N + 1) n6 n7 b8 b9 t10 n11 h = evC Try.prog 85 [] [] (sub code49 [true, true, false, true, false, false]) [(1, .int .i64 n6), (2, .int .i64 n7), (3, .pointer (some ⟨b8, 0, none⟩)), (6, .pointer (some ⟨b9, 0, none⟩)), (7, .bool t10), (8, .int .i64 n11)] h ((outsOf none [(0, [(1, .int .i64), (2, .int .i64), (3, .blk), (6, .blk), (7, .bool)])] none K).loop [(1, .int .i64), (2, .int .i64), (3, .blk), (6, .blk), (7, .bool), (8, .int .i64)] (spec_l16End_l0 (curV [(1, .int .i64), (2, .int .i64), (3, .blk), (6, .blk), (7, .bool)] (K (.exit 0))) N)).K := by kernel_rfl

def spec_l16End_l0_F : PT := mkL [(1, .int .i64), (2, .int .i64), (3, .blk), (6, .blk), (7, .bool), (8, .int .i64)] fun K N => spec_l16End_l0 (curV [(1, .int .i64), (2, .int .i64), (3, .blk), (6, .blk), (7, .bool)] (K (.exit 0))) N

theorem spec_l16End_l0_V : Valid Try.prog 85 (sub code49 [true, true, false, true, false]) spec_l16End_l0_F :=
  loop_at (code49) [true, true, false, true, false] (loop_piece (c := (sub code49 [true, true, false, true, false, false])) mixed rows_nil (fun K => by intro n6 n7 b8 b9 t10 n11 h hd; exact hd) (fun K N => by intro n6 n7 b8 b9 t10 n11 h hd; exact (spec_l16End_l0_eq K N n6 n7 b8 b9 t10 n11 h) ▸ hd))

theorem spec_l16End_j1_eq (K : Cont) (n29 : Int) (n30 : Int) (b31 : Nat) (b32 : Nat) (h : H) :
  spec_l16End_j1 (curV [(6, .blk)] (K .ret)) n29 n30 b31 b32 h = evC Try.prog 85 [] [] (sub code49 [true, true, true, true]) [(1, .int .i64 n29), (2, .int .i64 n30), (3, .pointer (some ⟨b31, 0, none⟩)), (6, .pointer (some ⟨b32, 0, none⟩))] h (outsOf none [] (some [(6, .blk)]) K).K := by kernel_rfl

def spec_l16End_j1_F : PT := mkF [(1, .int .i64), (2, .int .i64), (3, .blk), (6, .blk)] fun K => spec_l16End_j1 (curV [(6, .blk)] (K .ret))

theorem spec_l16End_j1_V : Valid Try.prog 85 (sub code49 [true, true, true, true]) spec_l16End_j1_F :=
  piece mixed rows_nil (fun K => by intro n29 n30 b31 b32 h hd; exact (spec_l16End_j1_eq K n29 n30 b31 b32 h) ▸ hd)

theorem spec_l16End_eq (K : Cont) (a1 : Option Addr) (l1 : Nat) (c1 : Nat) (n2 : Int) (n3 : Int) (h : H) :
  spec_l16End (curV [(6, .blk)] (K .ret)) a1 l1 c1 n2 n3 h = evC Try.prog 85 [([false, false, true, false, true, true], spec_l16End_l0_F), ([true, true, true, true], spec_l16End_j1_F)] [] code49 [(0, .agg ⟨[.slice a1 l1 c1]⟩), (1, .int .i64 n2), (2, .int .i64 n3)] h (outsOf none [] (some [(6, .blk)]) K).K := by kernel_rfl

def spec_l16End_F : PT := mkF [(0, .agg [.slice]), (1, .int .i64), (2, .int .i64)] fun K => spec_l16End (curV [(6, .blk)] (K .ret))

theorem spec_l16End_V : Valid Try.prog 85 code49 spec_l16End_F :=
  piece mixed (rows_cons (q' := [true, true, false, true, false]) spec_l16End_l0_V rfl (rows_cons (q' := [true, true, true, true]) spec_l16End_j1_V rfl rows_nil)) (fun K => by intro a1 l1 c1 n2 n3 h hd; exact (spec_l16End_eq K a1 l1 c1 n2 n3 h) ▸ hd)

theorem spec_l16End_c0 (a1 : Option Addr) (l1 : Nat) (c1 : Nat) (n2 : Int) (n3 : Int) (h : H) (K : Value → H → Prop) :
  spec_l16End (fun b100001 h =>
  ldRow h b100001 0 0 [.slice] fun a100002 l100002 c100002 =>
  K (.agg ⟨[.slice a100002 l100002 c100002]⟩) h) a1 l1 c1 n2 n3 h = callF Try.prog Try.f49.results.toList spec_l16End_F [.agg ⟨[.slice a1 l1 c1]⟩, .int .i64 n2, .int .i64 n3] h K := by kernel_rfl

theorem spec_l16End_call {a1 : Option Addr} {l1 : Nat} {c1 : Nat} {n2 : Int} {n3 : Int} {h : H} {K : Value → H → Prop} (hs : spec_l16End (fun b100001 h =>
  ldRow h b100001 0 0 [.slice] fun a100002 l100002 c100002 =>
  K (.agg ⟨[.slice a100002 l100002 c100002]⟩) h) a1 l1 c1 n2 n3 h) : callK Try.prog 49 ⟨[.agg ⟨[.slice a1 l1 c1]⟩, .int .i64 n2, .int .i64 n3]⟩ h K :=
  func_calls Try.func49 body49 spec_l16End_V (Nat.le_of_ble_eq_true (by kernel_rfl)) (spec_l16End_c0 a1 l1 c1 n2 n3 h K ▸ hs)

def spec_l16End_M_l0 (kx0 : Int → Int → Bool → Option Addr → Nat → Nat → H → Prop) : Nat → Int → Int → Bool → Int → Option Addr → Nat → Nat → H → Prop
 | 0, _, _, _, _, _, _, _, _ => False
 | N + 1, n4, n5, t6, n7, a8, l8, c8, h =>
  ifB (decide ((n7 : Int) < (l8 : Nat)))
  (req (0 ≤ (n7 : Int) ∧ (n7 : Int) < (l8 : Nat))
  (nz a8 fun b12 o13 =>
  ldI .i64 h b12 ((o13 + n7.toNat * 10) + 1) fun n14 =>
  ifB ((n14 : Int) == n4)
  (req (0 ≤ (n7 : Int) ∧ (n7 : Int) < (l8 : Nat))
  (nz a8 fun b15 o16 =>
  st h b15 ((o16 + n7.toNat * 10) + 1) (.int .i64 1) fun h =>
  ifB t6
  (spec_l16End_M_l0 kx0 N n4 n5 true (IntKind.i64.wrap (n7 + 1)) a8 l8 c8 h)
  (req (0 ≤ (n7 : Int) ∧ (n7 : Int) < (l8 : Nat))
  (nz a8 fun b17 o18 =>
  ldI .i64 h b17 ((o18 + n7.toNat * 10) + 4) fun n19 =>
  spec_l16End_M_l0 kx0 N n4 n5 ((n19 : Int) == 3) (IntKind.i64.wrap (n7 + 1)) a8 l8 c8 h))))
  (spec_l16End_M_l0 kx0 N n4 n5 t6 (IntKind.i64.wrap (n7 + 1)) a8 l8 c8 h)))
  (kx0 n4 n5 t6 a8 l8 c8 h)

def spec_l16End_M_j1 (kr : Option Addr → Nat → Nat → H → Prop) (n1027 : Int) (n1028 : Int) (a1029 : Option Addr) (l1029 : Nat) (c1029 : Nat) (h : H) : Prop :=
  callD Try.prog 25 ⟨[.agg ⟨[.slice a1029 l1029 c1029]⟩, .int .i64 n1027]⟩ h fun v1033 h =>
  asI .i64 v1033 fun n1034 =>
  req (0 ≤ (n1034 : Int) ∧ (n1034 : Int) < (l1029 : Nat))
  (nz a1029 fun b1035 o1036 =>
  ldRow h b1035 (o1036 + n1034.toNat * 10) 0 [.int .i64, .int .i64, .int .i64, .int .i64, .int .i64, .int .i64, .int .i64, .int .i64, .int .i64, .int .i64] fun n1037 n1038 n1039 n1040 n1041 n1042 n1043 n1044 n1045 n1046 =>
  callD Try.prog 25 ⟨[.agg ⟨[.slice a1029 l1029 c1029]⟩, .int .i64 n1038]⟩ h fun v1047 h =>
  asI .i64 v1047 fun n1048 =>
  req (0 ≤ (n1048 : Int) ∧ (n1048 : Int) < (l1029 : Nat))
  (nz a1029 fun b1049 o1050 =>
  ldI .i64 h b1049 ((o1050 + n1048.toNat * 10) + 8) fun n1051 =>
  callD Try.prog 40 ⟨[.int .i64 n1051, .int .i64 14]⟩ h fun v1052 h =>
  asB v1052 fun t1053 =>
  ifB t1053
  (callD Try.prog 62 ⟨[.agg ⟨[.slice a1029 l1029 c1029]⟩, .int .i64 n1034]⟩ h fun v1054 h =>
  elF False (.agg [.slice]) v1054 fun a1055 l1055 c1055 =>
  kr a1055 l1055 c1055 h)
  (req (0 ≤ (n1034 : Int) ∧ (n1034 : Int) < (l1029 : Nat))
  (nz a1029 fun b1056 o1057 =>
  stRow h b1056 (o1057 + n1034.toNat * 10) 0 [.int .i64 n1037, .int .i64 n1038, .int .i64 n1039, .int .i64 n1040, .int .i64 3, .int .i64 n1028, .int .i64 0, .int .i64 0, .int .i64 0, .int .i64 0] fun h =>
  callD Try.prog 61 ⟨[.agg ⟨[.slice a1029 l1029 c1029]⟩, .int .i64 n1048, .int .i64 14]⟩ h fun v1058 h =>
  elF False (.tuple []) v1058
  (kr a1029 l1029 c1029 h)))))

def spec_l16End_M (kr : Option Addr → Nat → Nat → H → Prop) (a1 : Option Addr) (l1 : Nat) (c1 : Nat) (n2 : Int) (n3 : Int) (h : H) : Prop :=
  ∃ M12, spec_l16End_M_l0 (fun n4 n5 t6 a7 l7 c7 h =>
  ifB t6
  (callD Try.prog 61 ⟨[.agg ⟨[.slice a7 l7 c7]⟩, .int .i64 0, .int .i64 14]⟩ h fun v11 h =>
  elF False (.tuple []) v11
  (spec_l16End_M_j1 kr n4 n5 a7 l7 c7 h))
  (spec_l16End_M_j1 kr n4 n5 a7 l7 c7 h)) M12 n2 n3 false 0 a1 l1 c1 h

theorem spec_l16End_M_l0_D {g0 m0 : H} {kx0_1 : Int → Int → Nat → Nat → Bool → H → Prop} {kx0_2 : Int → Int → Bool → Option Addr → Nat → Nat → H → Prop} (Hkx0 : ∀ (n200001 : Int) (n200002 : Int) (t200003 : Bool) (a200004 : Option Addr) (l200004 : Nat) (c200004 : Nat) (a200006 : Option Addr) (l200006 : Nat) (c200006 : Nat) (p200005 : Nat) (p200007 : Nat) (g m : H), Md g0 m0 g m [lo p200005 [.slice a200004 l200004 c200004], lo p200007 [.slice a200006 l200006 c200006]] → kx0_2 n200001 n200002 t200003 a200004 l200004 c200004 m → kx0_1 n200001 n200002 p200005 p200007 t200003 g) : ∀ (N : Nat) (n1004 : Int) (n1005 : Int) (t1006 : Bool) (n1007 : Int) (a1008 : Option Addr) (l1008 : Nat) (c1008 : Nat) (a1010 : Option Addr) (l1010 : Nat) (c1010 : Nat) (p1009 : Nat) (p1011 : Nat) (g m : H), Md g0 m0 g m [lo p1009 [.slice a1008 l1008 c1008], lo p1011 [.slice a1010 l1010 c1010]] → spec_l16End_M_l0 kx0_2 N n1004 n1005 t1006 n1007 a1008 l1008 c1008 m → spec_l16End_l0 kx0_1 N n1004 n1005 p1009 p1011 t1006 n1007 g := by
  intro N
  induction N with
  | zero => intro n1004 n1005 t1006 n1007 a1008 l1008 c1008 a1010 l1010 c1010 p1009 p1011 g m R h0; exact h0.elim
  | succ N ih =>
    intro n1004 n1005 t1006 n1007 a1008 l1008 c1008 a1010 l1010 c1010 p1009 p1011 g m R
    rw [spec_l16End_M_l0, spec_l16End_l0]
    exact (p_ldL R rfl (d_if (p_ldL R rfl (d_req (d_nz fun b1012 o1013 =>
  (d_ldI R fun n1014 =>
  (d_if (p_ldL R rfl (d_req (d_nz fun b1015 o1016 =>
  (d_st R fun g m R =>
  (d_if (ih n1004 n1005 true (IntKind.i64.wrap (n1007 + 1)) a1008 l1008 c1008 a1010 l1010 c1010 p1009 p1011 _ _ R.sub)
  (p_ldL R rfl (d_req (d_nz fun b1017 o1018 =>
  (d_ldI R fun n1019 =>
  (ih n1004 n1005 ((n1019 : Int) == 3) (IntKind.i64.wrap (n1007 + 1)) a1008 l1008 c1008 a1010 l1010 c1010 p1009 p1011 _ _ R.sub))))))))))
  (ih n1004 n1005 t1006 (IntKind.i64.wrap (n1007 + 1)) a1008 l1008 c1008 a1010 l1010 c1010 p1009 p1011 _ _ R.sub))))))
  (Hkx0 n1004 n1005 t1006 a1008 l1008 c1008 a1010 l1010 c1010 p1009 p1011 _ _ R.sub)))

theorem spec_l16End_M_j1_D {g0 m0 : H} {kr_1 : Nat → H → Prop} {kr_2 : Option Addr → Nat → Nat → H → Prop} (Hkr : ∀ (a200001 : Option Addr) (l200001 : Nat) (c200001 : Nat) (p200002 : Nat) (g m : H), Md g0 m0 g m [lo p200002 [.slice a200001 l200001 c200001]] → kr_2 a200001 l200001 c200001 m → kr_1 p200002 g) : ∀ (n2027 : Int) (n2028 : Int) (a2029 : Option Addr) (l2029 : Nat) (c2029 : Nat) (a2031 : Option Addr) (l2031 : Nat) (c2031 : Nat) (p2030 : Nat) (p2032 : Nat) (g m : H), Md g0 m0 g m [lo p2030 [.slice a2029 l2029 c2029], lo p2032 [.slice a2031 l2031 c2031]] → spec_l16End_M_j1 kr_2 n2027 n2028 a2029 l2029 c2029 m → spec_l16End_j1 kr_1 n2027 n2028 p2030 p2032 g := by
  intro n2027 n2028 a2029 l2029 c2029 a2031 l2031 c2031 p2030 p2032 g m R
  rw [spec_l16End_M_j1, spec_l16End_j1]
  exact (p_row_L R rfl (d_call R fun v2033 g m R =>
  (d_asI fun n2034 =>
  (p_ldL R rfl (d_req (d_nz fun b2035 o2036 =>
  (d_row_I10 R fun n2037 n2038 n2039 n2040 n2041 n2042 n2043 n2044 n2045 n2046 =>
  (p_new R fun p2047 g R =>
  (p_stRow R (cs' := [.int .i64 n2037, .int .i64 n2038, .int .i64 n2039, .int .i64 n2040, .int .i64 n2041, .int .i64 n2042, .int .i64 n2043, .int .i64 n2044, .int .i64 n2045, .int .i64 n2046]) ⟨rfl, rfl, rfl⟩ fun g R =>
  (p_row_L R rfl (p_ldI R rfl (d_call R fun v2048 g m R =>
  (d_asI fun n2049 =>
  (p_ldL R rfl (d_req (d_nz fun b2050 o2051 =>
  (d_ldI R fun n2052 =>
  (d_call R fun v2053 g m R =>
  (d_asB fun t2054 =>
  (d_if (p_row_L R rfl (d_call R fun v2055 g m R =>
  (d_el_ALE fun a2056 l2056 c2056 =>
  (p_stRow R (cs' := [.slice a2056 l2056 c2056]) ⟨rfl, rfl, rfl⟩ fun g R =>
  (Hkr a2056 l2056 c2056 p2032 _ _ R.sub)))))
  (p_ldL R rfl (p_ldI R rfl (p_ldI R rfl (p_ldI R rfl (p_ldI R rfl (d_req (d_nz fun b2057 o2058 =>
  (d_stRow R fun g m R =>
  (p_row_L R rfl (d_call R fun v2059 g m R =>
  (d_el_TE (p_row_L R rfl (p_stRow R (cs' := [.slice a2029 l2029 c2029]) ⟨rfl, rfl, rfl⟩ fun g R =>
  (Hkr a2029 l2029 c2029 p2032 _ _ R.sub))))))))))))))))))))))))))))))))))

theorem spec_l16End_M_D {g0 m0 : H} {kr_1 : Nat → H → Prop} {kr_2 : Option Addr → Nat → Nat → H → Prop} (Hkr : ∀ (a200001 : Option Addr) (l200001 : Nat) (c200001 : Nat) (p200002 : Nat) (g m : H), Md g0 m0 g m [lo p200002 [.slice a200001 l200001 c200001]] → kr_2 a200001 l200001 c200001 m → kr_1 p200002 g) : ∀ (a1001 : Option Addr) (l1001 : Nat) (c1001 : Nat) (n1002 : Int) (n1003 : Int) (g m : H), Md g0 m0 g m [] → spec_l16End_M kr_2 a1001 l1001 c1001 n1002 n1003 m → spec_l16End kr_1 a1001 l1001 c1001 n1002 n1003 g := by
  intro a1001 l1001 c1001 n1002 n1003 g m R
  rw [spec_l16End_M, spec_l16End]
  exact (p_new R fun p1004 g R =>
  (p_new R fun p1005 g R =>
  (d_ex fun N => spec_l16End_M_l0_D (by exact fun n1006 n1007 t1008 a1009 l1009 c1009 a1011 l1011 c1011 p1010 p1012 g m R =>
  (d_if (p_row_L R rfl (d_call R fun v1013 g m R =>
  (d_el_TE (spec_l16End_M_j1_D (by exact fun a1014 l1014 c1014 p1015 g m R =>
  (Hkr a1014 l1014 c1014 p1015 _ _ R.sub)) n1006 n1007 a1009 l1009 c1009 a1011 l1011 c1011 p1010 p1012 _ _ R.sub))))
  (spec_l16End_M_j1_D (by exact fun a1016 l1016 c1016 p1017 g m R =>
  (Hkr a1016 l1016 c1016 p1017 _ _ R.sub)) n1006 n1007 a1009 l1009 c1009 a1011 l1011 c1011 p1010 p1012 _ _ R.sub))) N n1002 n1003 false 0 a1001 l1001 c1001 none 0 0 p1004 p1005 _ _ R.sub)))

theorem spec_l16End_M_call {a1 : Option Addr} {l1 : Nat} {c1 : Nat} {n2 : Int} {n3 : Int} {h : H} {K : Value → H → Prop} (hs : spec_l16End_M (fun a300001 l300001 c300001 h =>
  K (.agg ⟨[.slice a300001 l300001 c300001]⟩) h) a1 l1 c1 n2 n3 h) : callD Try.prog 49 ⟨[.agg ⟨[.slice a1 l1 c1]⟩, .int .i64 n2, .int .i64 n3]⟩ h K :=
  fun g r => spec_l16End_call (spec_l16End_M_D (by exact fun a300001 l300001 c300001 p300002 g m R =>
(p_row_L R rfl (fun h => ⟨m, R.af, h⟩))) _ _ _ _ _ _ _ (Md.start r) hs)

noncomputable def code50 : Code := codeOf Try.f50
theorem body50 : Try.f50.body = some code50 := by kernel_rfl
def spec_l16Wait_j1 (kn : Int → Nat → Nat → Nat → Nat → Bool → Int → H → Prop) (kr : Nat → Nat → H → Prop) (n43 : Int) (b44 : Nat) (b45 : Nat) (b46 : Nat) (b47 : Nat) (n48 : Int) (b49 : Nat) (h : H) : Prop :=
  ldI .i64 h b49 4 fun n50 =>
  ifB ((n50 : Int) == 3)
  (ldRow h b44 0 0 [.slice] fun a51 l51 c51 =>
  ldI .i64 h b49 0 fun n52 =>
  ldI .i64 h b49 5 fun n53 =>
  callK Try.prog 62 ⟨[.agg ⟨[.slice a51 l51 c51]⟩, .int .i64 n48]⟩ h fun v54 h =>
  elF False (.agg [.slice]) v54 fun a55 l55 c55 =>
  cell h b49 5 = some (.int .i64 n53) ∧ (cell h b49 0 = some (.int .i64 n52) ∧ (stRow h b45 0 0 [.slice a55 l55 c55] fun h =>
  cell h b49 5 = some (.int .i64 n53) ∧ (cell h b49 0 = some (.int .i64 n52) ∧ (stRow h b46 0 0 [.int .i64 0, .int .i64 n52, .int .i64 n53] fun h =>
  kr b45 b46 h)))))
  (kn n43 b44 b45 b46 b47 true n48 h)

def spec_l16Wait_l0 (kx0 : Nat → Nat → Nat → Bool → H → Prop) (kr : Nat → Nat → H → Prop) : Nat → Int → Nat → Nat → Nat → Nat → Bool → Int → H → Prop
 | 0, _, _, _, _, _, _, _, _ => False
 | N + 1, n21, b22, b23, b24, b25, t26, n27, h =>
  ldL h b22 0 fun a28 l28 c28 =>
  ifB (decide ((n27 : Int) < (l28 : Nat)))
  (ldL h b22 0 fun a29 l29 c29 =>
  req (0 ≤ (n27 : Int) ∧ (n27 : Int) < (l29 : Nat))
  (nz a29 fun b30 o31 =>
  ldRow h b30 (o31 + n27.toNat * 10) 0 [.int .i64, .int .i64, .int .i64, .int .i64, .int .i64, .int .i64, .int .i64, .int .i64, .int .i64, .int .i64] fun n32 n33 n34 n35 n36 n37 n38 n39 n40 n41 =>
  new h [.int .i64 0, .int .i64 0, .int .i64 0, .int .i64 0, .int .i64 0, .int .i64 0, .int .i64 0, .int .i64 0, .int .i64 0, .int .i64 0] 38 fun b42 h =>
  stRow h b42 0 0 [.int .i64 n32, .int .i64 n33, .int .i64 n34, .int .i64 n35, .int .i64 n36, .int .i64 n37, .int .i64 n38, .int .i64 n39, .int .i64 n40, .int .i64 n41] fun h =>
  ldI .i64 h b42 1 fun n43 =>
  ldI .i64 h b25 0 fun n44 =>
  ifB ((n43 : Int) != n44)
  (spec_l16Wait_l0 kx0 kr N n21 b22 b23 b24 b25 t26 (IntKind.i64.wrap (n27 + 1)) h)
  (ifB ((n21 : Int) == 0)
  (ldI .i64 h b42 2 fun n45 =>
  ldI .i64 h b25 2 fun n46 =>
  ifB ((n45 : Int) != n46)
  (spec_l16Wait_l0 kx0 kr N n21 b22 b23 b24 b25 t26 (IntKind.i64.wrap (n27 + 1)) h)
  (ifB (decide ((n21 : Int) > 0))
  (ldI .i64 h b42 0 fun n47 =>
  ifB ((n47 : Int) != n21)
  (spec_l16Wait_l0 kx0 kr N n21 b22 b23 b24 b25 t26 (IntKind.i64.wrap (n27 + 1)) h)
  (ifB (decide ((n21 : Int) < (-1)))
  (ldI .i64 h b42 2 fun n48 =>
  ifB ((n48 : Int) != (IntKind.i64.wrap (0 - n21)))
  (spec_l16Wait_l0 kx0 kr N n21 b22 b23 b24 b25 t26 (IntKind.i64.wrap (n27 + 1)) h)
  (spec_l16Wait_j1 (fun n49 b50 b51 b52 b53 t54 n55 h =>
  spec_l16Wait_l0 kx0 kr N n49 b50 b51 b52 b53 t54 (IntKind.i64.wrap (n55 + 1)) h) kr n21 b22 b23 b24 b25 n27 b42 h))
  (spec_l16Wait_j1 (fun n56 b57 b58 b59 b60 t61 n62 h =>
  spec_l16Wait_l0 kx0 kr N n56 b57 b58 b59 b60 t61 (IntKind.i64.wrap (n62 + 1)) h) kr n21 b22 b23 b24 b25 n27 b42 h)))
  (ifB (decide ((n21 : Int) < (-1)))
  (ldI .i64 h b42 2 fun n63 =>
  ifB ((n63 : Int) != (IntKind.i64.wrap (0 - n21)))
  (spec_l16Wait_l0 kx0 kr N n21 b22 b23 b24 b25 t26 (IntKind.i64.wrap (n27 + 1)) h)
  (spec_l16Wait_j1 (fun n64 b65 b66 b67 b68 t69 n70 h =>
  spec_l16Wait_l0 kx0 kr N n64 b65 b66 b67 b68 t69 (IntKind.i64.wrap (n70 + 1)) h) kr n21 b22 b23 b24 b25 n27 b42 h))
  (spec_l16Wait_j1 (fun n71 b72 b73 b74 b75 t76 n77 h =>
  spec_l16Wait_l0 kx0 kr N n71 b72 b73 b74 b75 t76 (IntKind.i64.wrap (n77 + 1)) h) kr n21 b22 b23 b24 b25 n27 b42 h))))
  (ifB (decide ((n21 : Int) > 0))
  (ldI .i64 h b42 0 fun n78 =>
  ifB ((n78 : Int) != n21)
  (spec_l16Wait_l0 kx0 kr N n21 b22 b23 b24 b25 t26 (IntKind.i64.wrap (n27 + 1)) h)
  (ifB (decide ((n21 : Int) < (-1)))
  (ldI .i64 h b42 2 fun n79 =>
  ifB ((n79 : Int) != (IntKind.i64.wrap (0 - n21)))
  (spec_l16Wait_l0 kx0 kr N n21 b22 b23 b24 b25 t26 (IntKind.i64.wrap (n27 + 1)) h)
  (spec_l16Wait_j1 (fun n80 b81 b82 b83 b84 t85 n86 h =>
  spec_l16Wait_l0 kx0 kr N n80 b81 b82 b83 b84 t85 (IntKind.i64.wrap (n86 + 1)) h) kr n21 b22 b23 b24 b25 n27 b42 h))
  (spec_l16Wait_j1 (fun n87 b88 b89 b90 b91 t92 n93 h =>
  spec_l16Wait_l0 kx0 kr N n87 b88 b89 b90 b91 t92 (IntKind.i64.wrap (n93 + 1)) h) kr n21 b22 b23 b24 b25 n27 b42 h)))
  (ifB (decide ((n21 : Int) < (-1)))
  (ldI .i64 h b42 2 fun n94 =>
  ifB ((n94 : Int) != (IntKind.i64.wrap (0 - n21)))
  (spec_l16Wait_l0 kx0 kr N n21 b22 b23 b24 b25 t26 (IntKind.i64.wrap (n27 + 1)) h)
  (spec_l16Wait_j1 (fun n95 b96 b97 b98 b99 t100 n101 h =>
  spec_l16Wait_l0 kx0 kr N n95 b96 b97 b98 b99 t100 (IntKind.i64.wrap (n101 + 1)) h) kr n21 b22 b23 b24 b25 n27 b42 h))
  (spec_l16Wait_j1 (fun n102 b103 b104 b105 b106 t107 n108 h =>
  spec_l16Wait_l0 kx0 kr N n102 b103 b104 b105 b106 t107 (IntKind.i64.wrap (n108 + 1)) h) kr n21 b22 b23 b24 b25 n27 b42 h))))))
  (kx0 b22 b23 b24 t26 h)

def spec_l16Wait (kr : Nat → Nat → H → Prop) (a1 : Option Addr) (l1 : Nat) (c1 : Nat) (n2 : Int) (n3 : Int) (h : H) : Prop :=
  new h [.slice a1 l1 c1] 27 fun b4 h =>
  new h [.slice none 0 0] 27 fun b5 h =>
  new h [.int .i64 0, .int .i64 0, .int .i64 0] 34 fun b6 h =>
  ldL h b4 0 fun a7 l7 c7 =>
  req (0 ≤ (n2 : Int) ∧ (n2 : Int) < (l7 : Nat))
  (nz a7 fun b8 o9 =>
  ldRow h b8 (o9 + n2.toNat * 10) 0 [.int .i64, .int .i64, .int .i64, .int .i64, .int .i64, .int .i64, .int .i64, .int .i64, .int .i64, .int .i64] fun n10 n11 n12 n13 n14 n15 n16 n17 n18 n19 =>
  new h [.int .i64 0, .int .i64 0, .int .i64 0, .int .i64 0, .int .i64 0, .int .i64 0, .int .i64 0, .int .i64 0, .int .i64 0, .int .i64 0] 38 fun b20 h =>
  stRow h b20 0 0 [.int .i64 n10, .int .i64 n11, .int .i64 n12, .int .i64 n13, .int .i64 n14, .int .i64 n15, .int .i64 n16, .int .i64 n17, .int .i64 n18, .int .i64 n19] fun h =>
  ∃ M27, spec_l16Wait_l0 (fun b21 b22 b23 t24 h =>
  ifB t24
  (ldRow h b21 0 0 [.slice] fun a25 l25 c25 =>
  stRow h b22 0 0 [.slice a25 l25 c25] fun h =>
  stRow h b23 0 0 [.int .i64 9, .int .i64 0, .int .i64 0] fun h =>
  kr b22 b23 h)
  (ldRow h b21 0 0 [.slice] fun a26 l26 c26 =>
  stRow h b22 0 0 [.slice a26 l26 c26] fun h =>
  stRow h b23 0 0 [.int .i64 11, .int .i64 0, .int .i64 0] fun h =>
  kr b22 b23 h)) kr M27 n3 b4 b5 b6 b20 false 0 h)

theorem spec_l16Wait_j1_eq (K : Cont) (n43 : Int) (b44 : Nat) (b45 : Nat) (b46 : Nat) (b47 : Nat) (n48 : Int) (b49 : Nat) (h : H) :
  spec_l16Wait_j1 (curV [(2, .int .i64), (3, .blk), (6, .blk), (7, .blk), (8, .blk), (9, .bool), (10, .int .i64)] (K .normal)) (curV [(6, .blk), (7, .blk)] (K .ret)) n43 b44 b45 b46 b47 n48 b49 h = evC Try.prog 82 [] [] (sub code50 [true, true, true, false, true, false, false, true, false, false, true, true]) [(2, .int .i64 n43), (3, .pointer (some ⟨b44, 0, none⟩)), (6, .pointer (some ⟨b45, 0, none⟩)), (7, .pointer (some ⟨b46, 0, none⟩)), (8, .pointer (some ⟨b47, 0, none⟩)), (10, .int .i64 n48), (11, .pointer (some ⟨b49, 0, none⟩))] h (outsOf (some [(2, .int .i64), (3, .blk), (6, .blk), (7, .blk), (8, .blk), (9, .bool), (10, .int .i64)]) [] (some [(6, .blk), (7, .blk)]) K).K := by kernel_rfl

def spec_l16Wait_j1_F : PT := mkF [(2, .int .i64), (3, .blk), (6, .blk), (7, .blk), (8, .blk), (10, .int .i64), (11, .blk)] fun K => spec_l16Wait_j1 (curV [(2, .int .i64), (3, .blk), (6, .blk), (7, .blk), (8, .blk), (9, .bool), (10, .int .i64)] (K .normal)) (curV [(6, .blk), (7, .blk)] (K .ret))

theorem spec_l16Wait_j1_V : Valid Try.prog 82 (sub code50 [true, true, true, false, true, false, false, true, false, false, true, true]) spec_l16Wait_j1_F :=
  piece mixed rows_nil (fun K => by intro n43 b44 b45 b46 b47 n48 b49 h hd; exact (spec_l16Wait_j1_eq K n43 b44 b45 b46 b47 n48 b49 h) ▸ hd)

theorem spec_l16Wait_l0_eq (K : Cont) (N : Nat) (n21 : Int) (b22 : Nat) (b23 : Nat) (b24 : Nat) (b25 : Nat) (t26 : Bool) (n27 : Int) (h : H) :
  spec_l16Wait_l0 (curV [(3, .blk), (6, .blk), (7, .blk), (9, .bool)] (K (.exit 0))) (curV [(6, .blk), (7, .blk)] (K .ret)) (N + 1) n21 b22 b23 b24 b25 t26 n27 h = evC Try.prog 82 [([true, true, false, false, true], spec_l16Wait_j1_F)] [] (sub code50 [true, true, true, false, true, false, false]) [(2, .int .i64 n21), (3, .pointer (some ⟨b22, 0, none⟩)), (6, .pointer (some ⟨b23, 0, none⟩)), (7, .pointer (some ⟨b24, 0, none⟩)), (8, .pointer (some ⟨b25, 0, none⟩)), (9, .bool t26), (10, .int .i64 n27)] h ((outsOf none [(0, [(3, .blk), (6, .blk), (7, .blk), (9, .bool)])] (some [(6, .blk), (7, .blk)]) K).loop [(2, .int .i64), (3, .blk), (6, .blk), (7, .blk), (8, .blk), (9, .bool), (10, .int .i64)] (spec_l16Wait_l0 (curV [(3, .blk), (6, .blk), (7, .blk), (9, .bool)] (K (.exit 0))) (curV [(6, .blk), (7, .blk)] (K .ret)) N)).K := by kernel_rfl

def spec_l16Wait_l0_F : PT := mkL [(2, .int .i64), (3, .blk), (6, .blk), (7, .blk), (8, .blk), (9, .bool), (10, .int .i64)] fun K N => spec_l16Wait_l0 (curV [(3, .blk), (6, .blk), (7, .blk), (9, .bool)] (K (.exit 0))) (curV [(6, .blk), (7, .blk)] (K .ret)) N

theorem spec_l16Wait_l0_V : Valid Try.prog 82 (sub code50 [true, true, true, false, true, false]) spec_l16Wait_l0_F :=
  loop_at (code50) [true, true, true, false, true, false] (loop_piece (c := (sub code50 [true, true, true, false, true, false, false])) mixed (rows_cons (q' := [true, false, false, true, true]) (valid_at (p := [true, true, true, false, true, false, false]) spec_l16Wait_j1_V rfl) rfl rows_nil) (fun K => by intro n21 b22 b23 b24 b25 t26 n27 h hd; exact hd) (fun K N => by intro n21 b22 b23 b24 b25 t26 n27 h hd; exact (spec_l16Wait_l0_eq K N n21 b22 b23 b24 b25 t26 n27 h) ▸ hd))

theorem spec_l16Wait_eq (K : Cont) (a1 : Option Addr) (l1 : Nat) (c1 : Nat) (n2 : Int) (n3 : Int) (h : H) :
  spec_l16Wait (curV [(6, .blk), (7, .blk)] (K .ret)) a1 l1 c1 n2 n3 h = evC Try.prog 82 [([false, false, true, false, true, true, true], spec_l16Wait_l0_F)] [] code50 [(0, .agg ⟨[.slice a1 l1 c1]⟩), (1, .int .i64 n2), (2, .int .i64 n3)] h (outsOf none [] (some [(6, .blk), (7, .blk)]) K).K := by kernel_rfl

def spec_l16Wait_F : PT := mkF [(0, .agg [.slice]), (1, .int .i64), (2, .int .i64)] fun K => spec_l16Wait (curV [(6, .blk), (7, .blk)] (K .ret))

theorem spec_l16Wait_V : Valid Try.prog 82 code50 spec_l16Wait_F :=
  piece mixed (rows_cons (q' := [true, true, true, false, true, false]) spec_l16Wait_l0_V rfl rows_nil) (fun K => by intro a1 l1 c1 n2 n3 h hd; exact (spec_l16Wait_eq K a1 l1 c1 n2 n3 h) ▸ hd)

theorem spec_l16Wait_c0 (a1 : Option Addr) (l1 : Nat) (c1 : Nat) (n2 : Int) (n3 : Int) (h : H) (K : Value → H → Prop) :
  spec_l16Wait (fun b100001 b100002 h =>
  ldRow h b100001 0 0 [.slice] fun a100003 l100003 c100003 =>
  ldRow h b100002 0 0 [.int .i64, .int .i64, .int .i64] fun n100004 n100005 n100006 =>
  K (.tuple ⟨[.agg ⟨[.slice a100003 l100003 c100003]⟩, .agg ⟨[.int .i64 n100004, .int .i64 n100005, .int .i64 n100006]⟩]⟩) h) a1 l1 c1 n2 n3 h = callF Try.prog Try.f50.results.toList spec_l16Wait_F [.agg ⟨[.slice a1 l1 c1]⟩, .int .i64 n2, .int .i64 n3] h K := by kernel_rfl

theorem spec_l16Wait_call {a1 : Option Addr} {l1 : Nat} {c1 : Nat} {n2 : Int} {n3 : Int} {h : H} {K : Value → H → Prop} (hs : spec_l16Wait (fun b100001 b100002 h =>
  ldRow h b100001 0 0 [.slice] fun a100003 l100003 c100003 =>
  ldRow h b100002 0 0 [.int .i64, .int .i64, .int .i64] fun n100004 n100005 n100006 =>
  K (.tuple ⟨[.agg ⟨[.slice a100003 l100003 c100003]⟩, .agg ⟨[.int .i64 n100004, .int .i64 n100005, .int .i64 n100006]⟩]⟩) h) a1 l1 c1 n2 n3 h) : callK Try.prog 50 ⟨[.agg ⟨[.slice a1 l1 c1]⟩, .int .i64 n2, .int .i64 n3]⟩ h K :=
  func_calls Try.func50 body50 spec_l16Wait_V (Nat.le_of_ble_eq_true (by kernel_rfl)) (spec_l16Wait_c0 a1 l1 c1 n2 n3 h K ▸ hs)

def spec_l16Wait_M_j1 (kn : Int → Bool → Int → Option Addr → Nat → Nat → Int → Int → H → Prop) (kr : Option Addr → Nat → Nat → Int → Int → Int → H → Prop) (n50 : Int) (n51 : Int) (a52 : Option Addr) (l52 : Nat) (c52 : Nat) (n60 : Int) (n62 : Int) (n71 : Int) (n75 : Int) (n76 : Int) (h : H) : Prop :=
  ifB ((n75 : Int) == 3)
  (callD Try.prog 62 ⟨[.agg ⟨[.slice a52 l52 c52]⟩, .int .i64 n51]⟩ h fun v82 h =>
  elF False (.agg [.slice]) v82 fun a83 l83 c83 =>
  kr a83 l83 c83 0 n71 n76 h)
  (kn n50 true n51 a52 l52 c52 n60 n62 h)

def spec_l16Wait_M_l0 (kx0 : Bool → Option Addr → Nat → Nat → H → Prop) (kr : Option Addr → Nat → Nat → Int → Int → Int → H → Prop) : Nat → Int → Bool → Int → Option Addr → Nat → Nat → Int → Int → H → Prop
 | 0, _, _, _, _, _, _, _, _, _ => False
 | N + 1, n16, t17, n18, a19, l19, c19, n27, n29, h =>
  ifB (decide ((n18 : Int) < (l19 : Nat)))
  (req (0 ≤ (n18 : Int) ∧ (n18 : Int) < (l19 : Nat))
  (nz a19 fun b38 o39 =>
  ldRow h b38 (o39 + n18.toNat * 10) 0 [.int .i64, .int .i64, .int .i64, .int .i64, .int .i64, .int .i64, .int .i64, .int .i64, .int .i64, .int .i64] fun n40 n41 n42 n43 n44 n45 n46 n47 n48 n49 =>
  ifB ((n41 : Int) != n27)
  (spec_l16Wait_M_l0 kx0 kr N n16 t17 (IntKind.i64.wrap (n18 + 1)) a19 l19 c19 n27 n29 h)
  (ifB ((n16 : Int) == 0)
  (ifB ((n42 : Int) != n29)
  (spec_l16Wait_M_l0 kx0 kr N n16 t17 (IntKind.i64.wrap (n18 + 1)) a19 l19 c19 n27 n29 h)
  (ifB (decide ((n16 : Int) > 0))
  (ifB ((n40 : Int) != n16)
  (spec_l16Wait_M_l0 kx0 kr N n16 t17 (IntKind.i64.wrap (n18 + 1)) a19 l19 c19 n27 n29 h)
  (ifB (decide ((n16 : Int) < (-1)))
  (ifB ((n42 : Int) != (IntKind.i64.wrap (0 - n16)))
  (spec_l16Wait_M_l0 kx0 kr N n16 t17 (IntKind.i64.wrap (n18 + 1)) a19 l19 c19 n27 n29 h)
  (spec_l16Wait_M_j1 (fun n50 t51 n52 a53 l53 c53 n61 n63 h =>
  spec_l16Wait_M_l0 kx0 kr N n50 t51 (IntKind.i64.wrap (n52 + 1)) a53 l53 c53 n61 n63 h) kr n16 n18 a19 l19 c19 n27 n29 n40 n44 n45 h))
  (spec_l16Wait_M_j1 (fun n72 t73 n74 a75 l75 c75 n83 n85 h =>
  spec_l16Wait_M_l0 kx0 kr N n72 t73 (IntKind.i64.wrap (n74 + 1)) a75 l75 c75 n83 n85 h) kr n16 n18 a19 l19 c19 n27 n29 n40 n44 n45 h)))
  (ifB (decide ((n16 : Int) < (-1)))
  (ifB ((n42 : Int) != (IntKind.i64.wrap (0 - n16)))
  (spec_l16Wait_M_l0 kx0 kr N n16 t17 (IntKind.i64.wrap (n18 + 1)) a19 l19 c19 n27 n29 h)
  (spec_l16Wait_M_j1 (fun n94 t95 n96 a97 l97 c97 n105 n107 h =>
  spec_l16Wait_M_l0 kx0 kr N n94 t95 (IntKind.i64.wrap (n96 + 1)) a97 l97 c97 n105 n107 h) kr n16 n18 a19 l19 c19 n27 n29 n40 n44 n45 h))
  (spec_l16Wait_M_j1 (fun n116 t117 n118 a119 l119 c119 n127 n129 h =>
  spec_l16Wait_M_l0 kx0 kr N n116 t117 (IntKind.i64.wrap (n118 + 1)) a119 l119 c119 n127 n129 h) kr n16 n18 a19 l19 c19 n27 n29 n40 n44 n45 h))))
  (ifB (decide ((n16 : Int) > 0))
  (ifB ((n40 : Int) != n16)
  (spec_l16Wait_M_l0 kx0 kr N n16 t17 (IntKind.i64.wrap (n18 + 1)) a19 l19 c19 n27 n29 h)
  (ifB (decide ((n16 : Int) < (-1)))
  (ifB ((n42 : Int) != (IntKind.i64.wrap (0 - n16)))
  (spec_l16Wait_M_l0 kx0 kr N n16 t17 (IntKind.i64.wrap (n18 + 1)) a19 l19 c19 n27 n29 h)
  (spec_l16Wait_M_j1 (fun n138 t139 n140 a141 l141 c141 n149 n151 h =>
  spec_l16Wait_M_l0 kx0 kr N n138 t139 (IntKind.i64.wrap (n140 + 1)) a141 l141 c141 n149 n151 h) kr n16 n18 a19 l19 c19 n27 n29 n40 n44 n45 h))
  (spec_l16Wait_M_j1 (fun n160 t161 n162 a163 l163 c163 n171 n173 h =>
  spec_l16Wait_M_l0 kx0 kr N n160 t161 (IntKind.i64.wrap (n162 + 1)) a163 l163 c163 n171 n173 h) kr n16 n18 a19 l19 c19 n27 n29 n40 n44 n45 h)))
  (ifB (decide ((n16 : Int) < (-1)))
  (ifB ((n42 : Int) != (IntKind.i64.wrap (0 - n16)))
  (spec_l16Wait_M_l0 kx0 kr N n16 t17 (IntKind.i64.wrap (n18 + 1)) a19 l19 c19 n27 n29 h)
  (spec_l16Wait_M_j1 (fun n182 t183 n184 a185 l185 c185 n193 n195 h =>
  spec_l16Wait_M_l0 kx0 kr N n182 t183 (IntKind.i64.wrap (n184 + 1)) a185 l185 c185 n193 n195 h) kr n16 n18 a19 l19 c19 n27 n29 n40 n44 n45 h))
  (spec_l16Wait_M_j1 (fun n204 t205 n206 a207 l207 c207 n215 n217 h =>
  spec_l16Wait_M_l0 kx0 kr N n204 t205 (IntKind.i64.wrap (n206 + 1)) a207 l207 c207 n215 n217 h) kr n16 n18 a19 l19 c19 n27 n29 n40 n44 n45 h))))))
  (kx0 t17 a19 l19 c19 h)

def spec_l16Wait_M (kr : Option Addr → Nat → Nat → Int → Int → Int → H → Prop) (a1 : Option Addr) (l1 : Nat) (c1 : Nat) (n2 : Int) (n3 : Int) (h : H) : Prop :=
  req (0 ≤ (n2 : Int) ∧ (n2 : Int) < (l1 : Nat))
  (nz a1 fun b4 o5 =>
  ldRow h b4 (o5 + n2.toNat * 10) 0 [.int .i64, .int .i64, .int .i64, .int .i64, .int .i64, .int .i64, .int .i64, .int .i64, .int .i64, .int .i64] fun n6 n7 n8 n9 n10 n11 n12 n13 n14 n15 =>
  ∃ M25, spec_l16Wait_M_l0 (fun t16 a17 l17 c17 h =>
  ifB t16
  (kr a17 l17 c17 9 0 0 h)
  (kr a17 l17 c17 11 0 0 h)) kr M25 n3 false 0 a1 l1 c1 n6 n8 h)

theorem spec_l16Wait_M_j1_D {g0 m0 : H} {kn_1 : Int → Nat → Nat → Nat → Nat → Bool → Int → H → Prop} {kn_2 : Int → Bool → Int → Option Addr → Nat → Nat → Int → Int → H → Prop} (Hkn : ∀ (n200001 : Int) (t200002 : Bool) (n200003 : Int) (a200004 : Option Addr) (l200004 : Nat) (c200004 : Nat) (a200006 : Option Addr) (l200006 : Nat) (c200006 : Nat) (n200008 : Int) (n200009 : Int) (n200010 : Int) (n200012 : Int) (n200013 : Int) (n200014 : Int) (n200015 : Int) (n200016 : Int) (n200017 : Int) (n200018 : Int) (n200019 : Int) (n200020 : Int) (n200021 : Int) (p200005 : Nat) (p200007 : Nat) (p200011 : Nat) (p200022 : Nat) (g m : H), Md g0 m0 g m [lo p200005 [.slice a200004 l200004 c200004], lo p200007 [.slice a200006 l200006 c200006], lo p200011 [.int .i64 n200008, .int .i64 n200009, .int .i64 n200010], lo p200022 [.int .i64 n200012, .int .i64 n200013, .int .i64 n200014, .int .i64 n200015, .int .i64 n200016, .int .i64 n200017, .int .i64 n200018, .int .i64 n200019, .int .i64 n200020, .int .i64 n200021]] → kn_2 n200001 t200002 n200003 a200004 l200004 c200004 n200012 n200014 m → kn_1 n200001 p200005 p200007 p200011 p200022 t200002 n200003 g)
  {kr_1 : Nat → Nat → H → Prop} {kr_2 : Option Addr → Nat → Nat → Int → Int → Int → H → Prop} (Hkr : ∀ (a200001 : Option Addr) (l200001 : Nat) (c200001 : Nat) (n200003 : Int) (n200004 : Int) (n200005 : Int) (p200002 : Nat) (p200006 : Nat) (g m : H), Md g0 m0 g m [lo p200002 [.slice a200001 l200001 c200001], lo p200006 [.int .i64 n200003, .int .i64 n200004, .int .i64 n200005]] → kr_2 a200001 l200001 c200001 n200003 n200004 n200005 m → kr_1 p200002 p200006 g) : ∀ (n1050 : Int) (n1051 : Int) (a1052 : Option Addr) (l1052 : Nat) (c1052 : Nat) (a1054 : Option Addr) (l1054 : Nat) (c1054 : Nat) (n1056 : Int) (n1057 : Int) (n1058 : Int) (n1060 : Int) (n1061 : Int) (n1062 : Int) (n1063 : Int) (n1064 : Int) (n1065 : Int) (n1066 : Int) (n1067 : Int) (n1068 : Int) (n1069 : Int) (n1071 : Int) (n1072 : Int) (n1073 : Int) (n1074 : Int) (n1075 : Int) (n1076 : Int) (n1077 : Int) (n1078 : Int) (n1079 : Int) (n1080 : Int) (p1053 : Nat) (p1055 : Nat) (p1059 : Nat) (p1070 : Nat) (p1081 : Nat) (g m : H), Md g0 m0 g m [lo p1053 [.slice a1052 l1052 c1052], lo p1055 [.slice a1054 l1054 c1054], lo p1059 [.int .i64 n1056, .int .i64 n1057, .int .i64 n1058], lo p1070 [.int .i64 n1060, .int .i64 n1061, .int .i64 n1062, .int .i64 n1063, .int .i64 n1064, .int .i64 n1065, .int .i64 n1066, .int .i64 n1067, .int .i64 n1068, .int .i64 n1069], lo p1081 [.int .i64 n1071, .int .i64 n1072, .int .i64 n1073, .int .i64 n1074, .int .i64 n1075, .int .i64 n1076, .int .i64 n1077, .int .i64 n1078, .int .i64 n1079, .int .i64 n1080]] → spec_l16Wait_M_j1 kn_2 kr_2 n1050 n1051 a1052 l1052 c1052 n1060 n1062 n1071 n1075 n1076 m → spec_l16Wait_j1 kn_1 kr_1 n1050 p1053 p1055 p1059 p1070 n1051 p1081 g := by
  intro n1050 n1051 a1052 l1052 c1052 a1054 l1054 c1054 n1056 n1057 n1058 n1060 n1061 n1062 n1063 n1064 n1065 n1066 n1067 n1068 n1069 n1071 n1072 n1073 n1074 n1075 n1076 n1077 n1078 n1079 n1080 p1053 p1055 p1059 p1070 p1081 g m R
  rw [spec_l16Wait_M_j1, spec_l16Wait_j1]
  exact (p_ldI R rfl (d_if (p_row_L R rfl (p_ldI R rfl (p_ldI R rfl (d_call R fun v1082 g m R =>
  (d_el_ALE fun a1083 l1083 c1083 =>
  (p_cell R rfl (p_cell R rfl (p_stRow R (cs' := [.slice a1083 l1083 c1083]) ⟨rfl, rfl, rfl⟩ fun g R =>
  (p_cell R rfl (p_cell R rfl (p_stRow R (cs' := [.int .i64 0, .int .i64 n1071, .int .i64 n1076]) ⟨rfl, rfl, rfl⟩ fun g R =>
  (Hkr a1083 l1083 c1083 0 n1071 n1076 p1055 p1059 _ _ R.sub))))))))))))
  (Hkn n1050 true n1051 a1052 l1052 c1052 a1054 l1054 c1054 n1056 n1057 n1058 n1060 n1061 n1062 n1063 n1064 n1065 n1066 n1067 n1068 n1069 p1053 p1055 p1059 p1070 _ _ R.sub)))

theorem spec_l16Wait_M_l0_D {g0 m0 : H} {kx0_1 : Nat → Nat → Nat → Bool → H → Prop} {kx0_2 : Bool → Option Addr → Nat → Nat → H → Prop} (Hkx0 : ∀ (t200001 : Bool) (a200002 : Option Addr) (l200002 : Nat) (c200002 : Nat) (a200004 : Option Addr) (l200004 : Nat) (c200004 : Nat) (n200006 : Int) (n200007 : Int) (n200008 : Int) (p200003 : Nat) (p200005 : Nat) (p200009 : Nat) (g m : H), Md g0 m0 g m [lo p200003 [.slice a200002 l200002 c200002], lo p200005 [.slice a200004 l200004 c200004], lo p200009 [.int .i64 n200006, .int .i64 n200007, .int .i64 n200008]] → kx0_2 t200001 a200002 l200002 c200002 m → kx0_1 p200003 p200005 p200009 t200001 g)
  {kr_1 : Nat → Nat → H → Prop} {kr_2 : Option Addr → Nat → Nat → Int → Int → Int → H → Prop} (Hkr : ∀ (a200001 : Option Addr) (l200001 : Nat) (c200001 : Nat) (n200003 : Int) (n200004 : Int) (n200005 : Int) (p200002 : Nat) (p200006 : Nat) (g m : H), Md g0 m0 g m [lo p200002 [.slice a200001 l200001 c200001], lo p200006 [.int .i64 n200003, .int .i64 n200004, .int .i64 n200005]] → kr_2 a200001 l200001 c200001 n200003 n200004 n200005 m → kr_1 p200002 p200006 g) : ∀ (N : Nat) (n1016 : Int) (t1017 : Bool) (n1018 : Int) (a1019 : Option Addr) (l1019 : Nat) (c1019 : Nat) (a1021 : Option Addr) (l1021 : Nat) (c1021 : Nat) (n1023 : Int) (n1024 : Int) (n1025 : Int) (n1027 : Int) (n1028 : Int) (n1029 : Int) (n1030 : Int) (n1031 : Int) (n1032 : Int) (n1033 : Int) (n1034 : Int) (n1035 : Int) (n1036 : Int) (p1020 : Nat) (p1022 : Nat) (p1026 : Nat) (p1037 : Nat) (g m : H), Md g0 m0 g m [lo p1020 [.slice a1019 l1019 c1019], lo p1022 [.slice a1021 l1021 c1021], lo p1026 [.int .i64 n1023, .int .i64 n1024, .int .i64 n1025], lo p1037 [.int .i64 n1027, .int .i64 n1028, .int .i64 n1029, .int .i64 n1030, .int .i64 n1031, .int .i64 n1032, .int .i64 n1033, .int .i64 n1034, .int .i64 n1035, .int .i64 n1036]] → spec_l16Wait_M_l0 kx0_2 kr_2 N n1016 t1017 n1018 a1019 l1019 c1019 n1027 n1029 m → spec_l16Wait_l0 kx0_1 kr_1 N n1016 p1020 p1022 p1026 p1037 t1017 n1018 g := by
  intro N
  induction N with
  | zero => intro n1016 t1017 n1018 a1019 l1019 c1019 a1021 l1021 c1021 n1023 n1024 n1025 n1027 n1028 n1029 n1030 n1031 n1032 n1033 n1034 n1035 n1036 p1020 p1022 p1026 p1037 g m R h0; exact h0.elim
  | succ N ih =>
    intro n1016 t1017 n1018 a1019 l1019 c1019 a1021 l1021 c1021 n1023 n1024 n1025 n1027 n1028 n1029 n1030 n1031 n1032 n1033 n1034 n1035 n1036 p1020 p1022 p1026 p1037 g m R
    rw [spec_l16Wait_M_l0, spec_l16Wait_l0]
    exact (p_ldL R rfl (d_if (p_ldL R rfl (d_req (d_nz fun b1038 o1039 =>
  (d_row_I10 R fun n1040 n1041 n1042 n1043 n1044 n1045 n1046 n1047 n1048 n1049 =>
  (p_new R fun p1050 g R =>
  (p_stRow R (cs' := [.int .i64 n1040, .int .i64 n1041, .int .i64 n1042, .int .i64 n1043, .int .i64 n1044, .int .i64 n1045, .int .i64 n1046, .int .i64 n1047, .int .i64 n1048, .int .i64 n1049]) ⟨rfl, rfl, rfl⟩ fun g R =>
  (p_ldI R rfl (p_ldI R rfl (d_if (ih n1016 t1017 (IntKind.i64.wrap (n1018 + 1)) a1019 l1019 c1019 a1021 l1021 c1021 n1023 n1024 n1025 n1027 n1028 n1029 n1030 n1031 n1032 n1033 n1034 n1035 n1036 p1020 p1022 p1026 p1037 _ _ R.sub)
  (d_if (p_ldI R rfl (p_ldI R rfl (d_if (ih n1016 t1017 (IntKind.i64.wrap (n1018 + 1)) a1019 l1019 c1019 a1021 l1021 c1021 n1023 n1024 n1025 n1027 n1028 n1029 n1030 n1031 n1032 n1033 n1034 n1035 n1036 p1020 p1022 p1026 p1037 _ _ R.sub)
  (d_if (p_ldI R rfl (d_if (ih n1016 t1017 (IntKind.i64.wrap (n1018 + 1)) a1019 l1019 c1019 a1021 l1021 c1021 n1023 n1024 n1025 n1027 n1028 n1029 n1030 n1031 n1032 n1033 n1034 n1035 n1036 p1020 p1022 p1026 p1037 _ _ R.sub)
  (d_if (p_ldI R rfl (d_if (ih n1016 t1017 (IntKind.i64.wrap (n1018 + 1)) a1019 l1019 c1019 a1021 l1021 c1021 n1023 n1024 n1025 n1027 n1028 n1029 n1030 n1031 n1032 n1033 n1034 n1035 n1036 p1020 p1022 p1026 p1037 _ _ R.sub)
  (spec_l16Wait_M_j1_D (by exact fun n1051 t1052 n1053 a1054 l1054 c1054 a1056 l1056 c1056 n1058 n1059 n1060 n1062 n1063 n1064 n1065 n1066 n1067 n1068 n1069 n1070 n1071 p1055 p1057 p1061 p1072 g m R =>
  (ih n1051 t1052 (IntKind.i64.wrap (n1053 + 1)) a1054 l1054 c1054 a1056 l1056 c1056 n1058 n1059 n1060 n1062 n1063 n1064 n1065 n1066 n1067 n1068 n1069 n1070 n1071 p1055 p1057 p1061 p1072 _ _ R.sub))
  (by exact fun a1073 l1073 c1073 n1075 n1076 n1077 p1074 p1078 g m R =>
  (Hkr a1073 l1073 c1073 n1075 n1076 n1077 p1074 p1078 _ _ R.sub)) n1016 n1018 a1019 l1019 c1019 a1021 l1021 c1021 n1023 n1024 n1025 n1027 n1028 n1029 n1030 n1031 n1032 n1033 n1034 n1035 n1036 n1040 n1041 n1042 n1043 n1044 n1045 n1046 n1047 n1048 n1049 p1020 p1022 p1026 p1037 p1050 _ _ R.sub)))
  (spec_l16Wait_M_j1_D (by exact fun n1079 t1080 n1081 a1082 l1082 c1082 a1084 l1084 c1084 n1086 n1087 n1088 n1090 n1091 n1092 n1093 n1094 n1095 n1096 n1097 n1098 n1099 p1083 p1085 p1089 p1100 g m R =>
  (ih n1079 t1080 (IntKind.i64.wrap (n1081 + 1)) a1082 l1082 c1082 a1084 l1084 c1084 n1086 n1087 n1088 n1090 n1091 n1092 n1093 n1094 n1095 n1096 n1097 n1098 n1099 p1083 p1085 p1089 p1100 _ _ R.sub))
  (by exact fun a1101 l1101 c1101 n1103 n1104 n1105 p1102 p1106 g m R =>
  (Hkr a1101 l1101 c1101 n1103 n1104 n1105 p1102 p1106 _ _ R.sub)) n1016 n1018 a1019 l1019 c1019 a1021 l1021 c1021 n1023 n1024 n1025 n1027 n1028 n1029 n1030 n1031 n1032 n1033 n1034 n1035 n1036 n1040 n1041 n1042 n1043 n1044 n1045 n1046 n1047 n1048 n1049 p1020 p1022 p1026 p1037 p1050 _ _ R.sub))))
  (d_if (p_ldI R rfl (d_if (ih n1016 t1017 (IntKind.i64.wrap (n1018 + 1)) a1019 l1019 c1019 a1021 l1021 c1021 n1023 n1024 n1025 n1027 n1028 n1029 n1030 n1031 n1032 n1033 n1034 n1035 n1036 p1020 p1022 p1026 p1037 _ _ R.sub)
  (spec_l16Wait_M_j1_D (by exact fun n1107 t1108 n1109 a1110 l1110 c1110 a1112 l1112 c1112 n1114 n1115 n1116 n1118 n1119 n1120 n1121 n1122 n1123 n1124 n1125 n1126 n1127 p1111 p1113 p1117 p1128 g m R =>
  (ih n1107 t1108 (IntKind.i64.wrap (n1109 + 1)) a1110 l1110 c1110 a1112 l1112 c1112 n1114 n1115 n1116 n1118 n1119 n1120 n1121 n1122 n1123 n1124 n1125 n1126 n1127 p1111 p1113 p1117 p1128 _ _ R.sub))
  (by exact fun a1129 l1129 c1129 n1131 n1132 n1133 p1130 p1134 g m R =>
  (Hkr a1129 l1129 c1129 n1131 n1132 n1133 p1130 p1134 _ _ R.sub)) n1016 n1018 a1019 l1019 c1019 a1021 l1021 c1021 n1023 n1024 n1025 n1027 n1028 n1029 n1030 n1031 n1032 n1033 n1034 n1035 n1036 n1040 n1041 n1042 n1043 n1044 n1045 n1046 n1047 n1048 n1049 p1020 p1022 p1026 p1037 p1050 _ _ R.sub)))
  (spec_l16Wait_M_j1_D (by exact fun n1135 t1136 n1137 a1138 l1138 c1138 a1140 l1140 c1140 n1142 n1143 n1144 n1146 n1147 n1148 n1149 n1150 n1151 n1152 n1153 n1154 n1155 p1139 p1141 p1145 p1156 g m R =>
  (ih n1135 t1136 (IntKind.i64.wrap (n1137 + 1)) a1138 l1138 c1138 a1140 l1140 c1140 n1142 n1143 n1144 n1146 n1147 n1148 n1149 n1150 n1151 n1152 n1153 n1154 n1155 p1139 p1141 p1145 p1156 _ _ R.sub))
  (by exact fun a1157 l1157 c1157 n1159 n1160 n1161 p1158 p1162 g m R =>
  (Hkr a1157 l1157 c1157 n1159 n1160 n1161 p1158 p1162 _ _ R.sub)) n1016 n1018 a1019 l1019 c1019 a1021 l1021 c1021 n1023 n1024 n1025 n1027 n1028 n1029 n1030 n1031 n1032 n1033 n1034 n1035 n1036 n1040 n1041 n1042 n1043 n1044 n1045 n1046 n1047 n1048 n1049 p1020 p1022 p1026 p1037 p1050 _ _ R.sub))))))
  (d_if (p_ldI R rfl (d_if (ih n1016 t1017 (IntKind.i64.wrap (n1018 + 1)) a1019 l1019 c1019 a1021 l1021 c1021 n1023 n1024 n1025 n1027 n1028 n1029 n1030 n1031 n1032 n1033 n1034 n1035 n1036 p1020 p1022 p1026 p1037 _ _ R.sub)
  (d_if (p_ldI R rfl (d_if (ih n1016 t1017 (IntKind.i64.wrap (n1018 + 1)) a1019 l1019 c1019 a1021 l1021 c1021 n1023 n1024 n1025 n1027 n1028 n1029 n1030 n1031 n1032 n1033 n1034 n1035 n1036 p1020 p1022 p1026 p1037 _ _ R.sub)
  (spec_l16Wait_M_j1_D (by exact fun n1163 t1164 n1165 a1166 l1166 c1166 a1168 l1168 c1168 n1170 n1171 n1172 n1174 n1175 n1176 n1177 n1178 n1179 n1180 n1181 n1182 n1183 p1167 p1169 p1173 p1184 g m R =>
  (ih n1163 t1164 (IntKind.i64.wrap (n1165 + 1)) a1166 l1166 c1166 a1168 l1168 c1168 n1170 n1171 n1172 n1174 n1175 n1176 n1177 n1178 n1179 n1180 n1181 n1182 n1183 p1167 p1169 p1173 p1184 _ _ R.sub))
  (by exact fun a1185 l1185 c1185 n1187 n1188 n1189 p1186 p1190 g m R =>
  (Hkr a1185 l1185 c1185 n1187 n1188 n1189 p1186 p1190 _ _ R.sub)) n1016 n1018 a1019 l1019 c1019 a1021 l1021 c1021 n1023 n1024 n1025 n1027 n1028 n1029 n1030 n1031 n1032 n1033 n1034 n1035 n1036 n1040 n1041 n1042 n1043 n1044 n1045 n1046 n1047 n1048 n1049 p1020 p1022 p1026 p1037 p1050 _ _ R.sub)))
  (spec_l16Wait_M_j1_D (by exact fun n1191 t1192 n1193 a1194 l1194 c1194 a1196 l1196 c1196 n1198 n1199 n1200 n1202 n1203 n1204 n1205 n1206 n1207 n1208 n1209 n1210 n1211 p1195 p1197 p1201 p1212 g m R =>
  (ih n1191 t1192 (IntKind.i64.wrap (n1193 + 1)) a1194 l1194 c1194 a1196 l1196 c1196 n1198 n1199 n1200 n1202 n1203 n1204 n1205 n1206 n1207 n1208 n1209 n1210 n1211 p1195 p1197 p1201 p1212 _ _ R.sub))
  (by exact fun a1213 l1213 c1213 n1215 n1216 n1217 p1214 p1218 g m R =>
  (Hkr a1213 l1213 c1213 n1215 n1216 n1217 p1214 p1218 _ _ R.sub)) n1016 n1018 a1019 l1019 c1019 a1021 l1021 c1021 n1023 n1024 n1025 n1027 n1028 n1029 n1030 n1031 n1032 n1033 n1034 n1035 n1036 n1040 n1041 n1042 n1043 n1044 n1045 n1046 n1047 n1048 n1049 p1020 p1022 p1026 p1037 p1050 _ _ R.sub))))
  (d_if (p_ldI R rfl (d_if (ih n1016 t1017 (IntKind.i64.wrap (n1018 + 1)) a1019 l1019 c1019 a1021 l1021 c1021 n1023 n1024 n1025 n1027 n1028 n1029 n1030 n1031 n1032 n1033 n1034 n1035 n1036 p1020 p1022 p1026 p1037 _ _ R.sub)
  (spec_l16Wait_M_j1_D (by exact fun n1219 t1220 n1221 a1222 l1222 c1222 a1224 l1224 c1224 n1226 n1227 n1228 n1230 n1231 n1232 n1233 n1234 n1235 n1236 n1237 n1238 n1239 p1223 p1225 p1229 p1240 g m R =>
  (ih n1219 t1220 (IntKind.i64.wrap (n1221 + 1)) a1222 l1222 c1222 a1224 l1224 c1224 n1226 n1227 n1228 n1230 n1231 n1232 n1233 n1234 n1235 n1236 n1237 n1238 n1239 p1223 p1225 p1229 p1240 _ _ R.sub))
  (by exact fun a1241 l1241 c1241 n1243 n1244 n1245 p1242 p1246 g m R =>
  (Hkr a1241 l1241 c1241 n1243 n1244 n1245 p1242 p1246 _ _ R.sub)) n1016 n1018 a1019 l1019 c1019 a1021 l1021 c1021 n1023 n1024 n1025 n1027 n1028 n1029 n1030 n1031 n1032 n1033 n1034 n1035 n1036 n1040 n1041 n1042 n1043 n1044 n1045 n1046 n1047 n1048 n1049 p1020 p1022 p1026 p1037 p1050 _ _ R.sub)))
  (spec_l16Wait_M_j1_D (by exact fun n1247 t1248 n1249 a1250 l1250 c1250 a1252 l1252 c1252 n1254 n1255 n1256 n1258 n1259 n1260 n1261 n1262 n1263 n1264 n1265 n1266 n1267 p1251 p1253 p1257 p1268 g m R =>
  (ih n1247 t1248 (IntKind.i64.wrap (n1249 + 1)) a1250 l1250 c1250 a1252 l1252 c1252 n1254 n1255 n1256 n1258 n1259 n1260 n1261 n1262 n1263 n1264 n1265 n1266 n1267 p1251 p1253 p1257 p1268 _ _ R.sub))
  (by exact fun a1269 l1269 c1269 n1271 n1272 n1273 p1270 p1274 g m R =>
  (Hkr a1269 l1269 c1269 n1271 n1272 n1273 p1270 p1274 _ _ R.sub)) n1016 n1018 a1019 l1019 c1019 a1021 l1021 c1021 n1023 n1024 n1025 n1027 n1028 n1029 n1030 n1031 n1032 n1033 n1034 n1035 n1036 n1040 n1041 n1042 n1043 n1044 n1045 n1046 n1047 n1048 n1049 p1020 p1022 p1026 p1037 p1050 _ _ R.sub)))))))))))))
  (Hkx0 t1017 a1019 l1019 c1019 a1021 l1021 c1021 n1023 n1024 n1025 p1020 p1022 p1026 _ _ R.sub)))

theorem spec_l16Wait_M_D {g0 m0 : H} {kr_1 : Nat → Nat → H → Prop} {kr_2 : Option Addr → Nat → Nat → Int → Int → Int → H → Prop} (Hkr : ∀ (a200001 : Option Addr) (l200001 : Nat) (c200001 : Nat) (n200003 : Int) (n200004 : Int) (n200005 : Int) (p200002 : Nat) (p200006 : Nat) (g m : H), Md g0 m0 g m [lo p200002 [.slice a200001 l200001 c200001], lo p200006 [.int .i64 n200003, .int .i64 n200004, .int .i64 n200005]] → kr_2 a200001 l200001 c200001 n200003 n200004 n200005 m → kr_1 p200002 p200006 g) : ∀ (a1001 : Option Addr) (l1001 : Nat) (c1001 : Nat) (n1002 : Int) (n1003 : Int) (g m : H), Md g0 m0 g m [] → spec_l16Wait_M kr_2 a1001 l1001 c1001 n1002 n1003 m → spec_l16Wait kr_1 a1001 l1001 c1001 n1002 n1003 g := by
  intro a1001 l1001 c1001 n1002 n1003 g m R
  rw [spec_l16Wait_M, spec_l16Wait]
  exact (p_new R fun p1004 g R =>
  (p_new R fun p1005 g R =>
  (p_new R fun p1006 g R =>
  (p_ldL R rfl (d_req (d_nz fun b1007 o1008 =>
  (d_row_I10 R fun n1009 n1010 n1011 n1012 n1013 n1014 n1015 n1016 n1017 n1018 =>
  (p_new R fun p1019 g R =>
  (p_stRow R (cs' := [.int .i64 n1009, .int .i64 n1010, .int .i64 n1011, .int .i64 n1012, .int .i64 n1013, .int .i64 n1014, .int .i64 n1015, .int .i64 n1016, .int .i64 n1017, .int .i64 n1018]) ⟨rfl, rfl, rfl⟩ fun g R =>
  (d_ex fun N => spec_l16Wait_M_l0_D (by exact fun t1020 a1021 l1021 c1021 a1023 l1023 c1023 n1025 n1026 n1027 p1022 p1024 p1028 g m R =>
  (d_if (p_row_L R rfl (p_stRow R (cs' := [.slice a1021 l1021 c1021]) ⟨rfl, rfl, rfl⟩ fun g R =>
  (p_stRow R (cs' := [.int .i64 9, .int .i64 0, .int .i64 0]) ⟨rfl, rfl, rfl⟩ fun g R =>
  (Hkr a1021 l1021 c1021 9 0 0 p1024 p1028 _ _ R.sub))))
  (p_row_L R rfl (p_stRow R (cs' := [.slice a1021 l1021 c1021]) ⟨rfl, rfl, rfl⟩ fun g R =>
  (p_stRow R (cs' := [.int .i64 11, .int .i64 0, .int .i64 0]) ⟨rfl, rfl, rfl⟩ fun g R =>
  (Hkr a1021 l1021 c1021 11 0 0 p1024 p1028 _ _ R.sub))))))
  (by exact fun a1029 l1029 c1029 n1031 n1032 n1033 p1030 p1034 g m R =>
  (Hkr a1029 l1029 c1029 n1031 n1032 n1033 p1030 p1034 _ _ R.sub)) N n1003 false 0 a1001 l1001 c1001 none 0 0 0 0 0 n1009 n1010 n1011 n1012 n1013 n1014 n1015 n1016 n1017 n1018 p1004 p1005 p1006 p1019 _ _ R.sub))))))))))

theorem spec_l16Wait_M_call {a1 : Option Addr} {l1 : Nat} {c1 : Nat} {n2 : Int} {n3 : Int} {h : H} {K : Value → H → Prop} (hs : spec_l16Wait_M (fun a300001 l300001 c300001 n300003 n300004 n300005 h =>
  K (.tuple ⟨[.agg ⟨[.slice a300001 l300001 c300001]⟩, .agg ⟨[.int .i64 n300003, .int .i64 n300004, .int .i64 n300005]⟩]⟩) h) a1 l1 c1 n2 n3 h) : callD Try.prog 50 ⟨[.agg ⟨[.slice a1 l1 c1]⟩, .int .i64 n2, .int .i64 n3]⟩ h K :=
  fun g r => spec_l16Wait_call (spec_l16Wait_M_D (by exact fun a300001 l300001 c300001 n300003 n300004 n300005 p300002 p300006 g m R =>
(p_row_L R rfl (p_row_I3 R rfl rfl rfl (fun h => ⟨m, R.af, h⟩)))) _ _ _ _ _ _ _ (Md.start r) hs)

noncomputable def code51 : Code := codeOf Try.f51
theorem body51 : Try.f51.body = some code51 := by kernel_rfl
def spec_l16Kill_j4 (kn : Nat → Nat → Nat → Nat → Nat → Bool → Int → Int → H → Prop) (b84 : Nat) (b85 : Nat) (b86 : Nat) (b87 : Nat) (b88 : Nat) (t89 : Bool) (n90 : Int) (n91 : Int) (t92 : Bool) (h : H) : Prop :=
  ifB t92
  (ldI .i64 h b85 3 fun n93 =>
  ifB (decide ((n93 : Int) > 0))
  (ldRow h b84 0 0 [.slice] fun a94 l94 c94 =>
  ldI .i64 h b85 3 fun n95 =>
  callK Try.prog 61 ⟨[.agg ⟨[.slice a94 l94 c94]⟩, .int .i64 n91, .int .i64 n95]⟩ h fun v96 h =>
  elF False (.tuple []) v96
  (kn b84 b85 b86 b87 b88 t89 (IntKind.i64.wrap (n90 + 1)) n91 h))
  (kn b84 b85 b86 b87 b88 t89 (IntKind.i64.wrap (n90 + 1)) n91 h))
  (kn b84 b85 b86 b87 b88 t89 n90 n91 h)

def spec_l16Kill_j3 (kn : Nat → Nat → Nat → Nat → Nat → Bool → Int → Int → H → Prop) (kx1 : Nat → Nat → Nat → Nat → Nat → Bool → Int → Int → H → Prop) (b74 : Nat) (b75 : Nat) (b76 : Nat) (b77 : Nat) (b78 : Nat) (t79 : Bool) (n80 : Int) (n81 : Int) (b82 : Nat) (t83 : Bool) (h : H) : Prop :=
  ifB (!t83)
  (kx1 b74 b75 b76 b77 b78 t79 n80 n81 h)
  (ldI .i64 h b78 3 fun n84 =>
  ifB ((n84 : Int) == 0)
  (spec_l16Kill_j4 kn b74 b75 b76 b77 b78 true n80 n81 true h)
  (ldI .i64 h b78 3 fun n85 =>
  ldI .i64 h b82 3 fun n86 =>
  spec_l16Kill_j4 kn b74 b75 b76 b77 b78 true n80 n81 ((n85 : Int) == n86) h))

def spec_l16Kill_j2 (kn : Nat → Nat → Nat → Nat → Nat → Bool → Int → Int → H → Prop) (kx1 : Nat → Nat → Nat → Nat → Nat → Bool → Int → Int → H → Prop) (b64 : Nat) (b65 : Nat) (b66 : Nat) (b67 : Nat) (b68 : Nat) (t69 : Bool) (n70 : Int) (n71 : Int) (b72 : Nat) (t73 : Bool) (h : H) : Prop :=
  ldI .i64 h b65 2 fun n74 =>
  ifB (decide ((n74 : Int) < (-1)))
  (ldI .i64 h b72 2 fun n75 =>
  ldI .i64 h b65 2 fun n76 =>
  spec_l16Kill_j3 kn kx1 b64 b65 b66 b67 b68 t69 n70 n71 b72 ((n75 : Int) == (IntKind.i64.wrap (0 - n76))) h)
  (spec_l16Kill_j3 kn kx1 b64 b65 b66 b67 b68 t69 n70 n71 b72 t73 h)

def spec_l16Kill_j1 (kn : Nat → Nat → Nat → Nat → Nat → Bool → Int → Int → H → Prop) (kx1 : Nat → Nat → Nat → Nat → Nat → Bool → Int → Int → H → Prop) (b54 : Nat) (b55 : Nat) (b56 : Nat) (b57 : Nat) (b58 : Nat) (t59 : Bool) (n60 : Int) (n61 : Int) (b62 : Nat) (t63 : Bool) (h : H) : Prop :=
  ldI .i64 h b55 2 fun n64 =>
  ifB ((n64 : Int) == (-1))
  (ldI .i64 h b62 0 fun n65 =>
  ifB ((n65 : Int) != 1)
  (ldI .i64 h b62 0 fun n66 =>
  ldI .i64 h b58 0 fun n67 =>
  spec_l16Kill_j2 kn kx1 b54 b55 b56 b57 b58 t59 n60 n61 b62 ((n66 : Int) != n67) h)
  (spec_l16Kill_j2 kn kx1 b54 b55 b56 b57 b58 t59 n60 n61 b62 false h))
  (spec_l16Kill_j2 kn kx1 b54 b55 b56 b57 b58 t59 n60 n61 b62 t63 h)

def spec_l16Kill_l0 (kx0 : Nat → Nat → Nat → Bool → Int → H → Prop) : Nat → Nat → Nat → Nat → Nat → Nat → Bool → Int → Int → H → Prop
 | 0, _, _, _, _, _, _, _, _, _ => False
 | N + 1, b29, b30, b31, b32, b33, t34, n35, n36, h =>
  ldL h b29 0 fun a37 l37 c37 =>
  ifB (decide ((n36 : Int) < (l37 : Nat)))
  (ldL h b29 0 fun a38 l38 c38 =>
  req (0 ≤ (n36 : Int) ∧ (n36 : Int) < (l38 : Nat))
  (nz a38 fun b39 o40 =>
  ldRow h b39 (o40 + n36.toNat * 10) 0 [.int .i64, .int .i64, .int .i64, .int .i64, .int .i64, .int .i64, .int .i64, .int .i64, .int .i64, .int .i64] fun n41 n42 n43 n44 n45 n46 n47 n48 n49 n50 =>
  new h [.int .i64 0, .int .i64 0, .int .i64 0, .int .i64 0, .int .i64 0, .int .i64 0, .int .i64 0, .int .i64 0, .int .i64 0, .int .i64 0] 38 fun b51 h =>
  stRow h b51 0 0 [.int .i64 n41, .int .i64 n42, .int .i64 n43, .int .i64 n44, .int .i64 n45, .int .i64 n46, .int .i64 n47, .int .i64 n48, .int .i64 n49, .int .i64 n50] fun h =>
  ldI .i64 h b51 0 fun n52 =>
  ldI .i64 h b30 2 fun n53 =>
  ldI .i64 h b30 2 fun n54 =>
  ifB ((n54 : Int) == 0)
  (ldI .i64 h b51 2 fun n55 =>
  ldI .i64 h b33 2 fun n56 =>
  spec_l16Kill_j1 (fun b57 b58 b59 b60 b61 t62 n63 n64 h =>
  spec_l16Kill_l0 kx0 N b57 b58 b59 b60 b61 t62 n63 (IntKind.i64.wrap (n64 + 1)) h) (fun b65 b66 b67 b68 b69 t70 n71 n72 h =>
  spec_l16Kill_l0 kx0 N b65 b66 b67 b68 b69 t70 n71 (IntKind.i64.wrap (n72 + 1)) h) b29 b30 b31 b32 b33 t34 n35 n36 b51 ((n55 : Int) == n56) h)
  (spec_l16Kill_j1 (fun b73 b74 b75 b76 b77 t78 n79 n80 h =>
  spec_l16Kill_l0 kx0 N b73 b74 b75 b76 b77 t78 n79 (IntKind.i64.wrap (n80 + 1)) h) (fun b81 b82 b83 b84 b85 t86 n87 n88 h =>
  spec_l16Kill_l0 kx0 N b81 b82 b83 b84 b85 t86 n87 (IntKind.i64.wrap (n88 + 1)) h) b29 b30 b31 b32 b33 t34 n35 n36 b51 ((n52 : Int) == n53) h)))
  (kx0 b29 b31 b32 t34 n35 h)

def spec_l16Kill (kr : Nat → Nat → H → Prop) (a1 : Option Addr) (l1 : Nat) (c1 : Nat) (n2 : Int) (n3 : Int) (n4 : Int) (n5 : Int) (n6 : Int) (h : H) : Prop :=
  new h [.slice a1 l1 c1] 27 fun b7 h =>
  new h [.int .i64 n3, .int .i64 n4, .int .i64 n5, .int .i64 n6] 30 fun b8 h =>
  new h [.slice none 0 0] 27 fun b9 h =>
  new h [.int .i64 0, .int .i64 0, .int .i64 0] 34 fun b10 h =>
  ldI .i64 h b8 3 fun n11 =>
  ifB (decide ((n11 : Int) < 0))
  (ldRow h b7 0 0 [.slice] fun a12 l12 c12 =>
  stRow h b9 0 0 [.slice a12 l12 c12] fun h =>
  stRow h b10 0 0 [.int .i64 1, .int .i64 0, .int .i64 0] fun h =>
  kr b9 b10 h)
  (ldI .i64 h b8 3 fun n13 =>
  ifB (decide ((n13 : Int) > 15))
  (ldRow h b7 0 0 [.slice] fun a14 l14 c14 =>
  stRow h b9 0 0 [.slice a14 l14 c14] fun h =>
  stRow h b10 0 0 [.int .i64 1, .int .i64 0, .int .i64 0] fun h =>
  kr b9 b10 h)
  (ldL h b7 0 fun a15 l15 c15 =>
  req (0 ≤ (n2 : Int) ∧ (n2 : Int) < (l15 : Nat))
  (nz a15 fun b16 o17 =>
  ldRow h b16 (o17 + n2.toNat * 10) 0 [.int .i64, .int .i64, .int .i64, .int .i64, .int .i64, .int .i64, .int .i64, .int .i64, .int .i64, .int .i64] fun n18 n19 n20 n21 n22 n23 n24 n25 n26 n27 =>
  new h [.int .i64 0, .int .i64 0, .int .i64 0, .int .i64 0, .int .i64 0, .int .i64 0, .int .i64 0, .int .i64 0, .int .i64 0, .int .i64 0] 38 fun b28 h =>
  stRow h b28 0 0 [.int .i64 n18, .int .i64 n19, .int .i64 n20, .int .i64 n21, .int .i64 n22, .int .i64 n23, .int .i64 n24, .int .i64 n25, .int .i64 n26, .int .i64 n27] fun h =>
  ∃ M37, spec_l16Kill_l0 (fun b29 b30 b31 t32 n33 h =>
  ifB (!t32)
  (ldRow h b29 0 0 [.slice] fun a34 l34 c34 =>
  stRow h b30 0 0 [.slice a34 l34 c34] fun h =>
  stRow h b31 0 0 [.int .i64 3, .int .i64 0, .int .i64 0] fun h =>
  kr b30 b31 h)
  (ifB ((n33 : Int) == 0)
  (ldRow h b29 0 0 [.slice] fun a35 l35 c35 =>
  stRow h b30 0 0 [.slice a35 l35 c35] fun h =>
  stRow h b31 0 0 [.int .i64 2, .int .i64 0, .int .i64 0] fun h =>
  kr b30 b31 h)
  (ldRow h b29 0 0 [.slice] fun a36 l36 c36 =>
  stRow h b30 0 0 [.slice a36 l36 c36] fun h =>
  stRow h b31 0 0 [.int .i64 0, .int .i64 n33, .int .i64 0] fun h =>
  kr b30 b31 h))) M37 b7 b8 b9 b10 b28 false 0 0 h)))

theorem spec_l16Kill_j4_eq (K : Cont) (b84 : Nat) (b85 : Nat) (b86 : Nat) (b87 : Nat) (b88 : Nat) (t89 : Bool) (n90 : Int) (n91 : Int) (t92 : Bool) (h : H) :
  spec_l16Kill_j4 (curV [(3, .blk), (5, .blk), (6, .blk), (7, .blk), (8, .blk), (9, .bool), (10, .int .i64), (11, .int .i64)] (K .normal)) b84 b85 b86 b87 b88 t89 n90 n91 t92 h = evC Try.prog 109 [] [] (sub code51 [true, true, true, true, true, false, true, false, false, true, false, false, true, true, true, true, true, true, true, true]) [(3, .pointer (some ⟨b84, 0, none⟩)), (5, .pointer (some ⟨b85, 0, none⟩)), (6, .pointer (some ⟨b86, 0, none⟩)), (7, .pointer (some ⟨b87, 0, none⟩)), (8, .pointer (some ⟨b88, 0, none⟩)), (9, .bool t89), (10, .int .i64 n90), (11, .int .i64 n91), (87, .bool t92)] h (outsOf (some [(3, .blk), (5, .blk), (6, .blk), (7, .blk), (8, .blk), (9, .bool), (10, .int .i64), (11, .int .i64)]) [] none K).K := by kernel_rfl

def spec_l16Kill_j4_F : PT := mkF [(3, .blk), (5, .blk), (6, .blk), (7, .blk), (8, .blk), (9, .bool), (10, .int .i64), (11, .int .i64), (87, .bool)] fun K => spec_l16Kill_j4 (curV [(3, .blk), (5, .blk), (6, .blk), (7, .blk), (8, .blk), (9, .bool), (10, .int .i64), (11, .int .i64)] (K .normal))

theorem spec_l16Kill_j4_V : Valid Try.prog 109 (sub code51 [true, true, true, true, true, false, true, false, false, true, false, false, true, true, true, true, true, true, true, true]) spec_l16Kill_j4_F :=
  piece mixed rows_nil (fun K => by intro b84 b85 b86 b87 b88 t89 n90 n91 t92 h hd; exact (spec_l16Kill_j4_eq K b84 b85 b86 b87 b88 t89 n90 n91 t92 h) ▸ hd)

theorem spec_l16Kill_j3_eq (K : Cont) (b74 : Nat) (b75 : Nat) (b76 : Nat) (b77 : Nat) (b78 : Nat) (t79 : Bool) (n80 : Int) (n81 : Int) (b82 : Nat) (t83 : Bool) (h : H) :
  spec_l16Kill_j3 (curV [(3, .blk), (5, .blk), (6, .blk), (7, .blk), (8, .blk), (9, .bool), (10, .int .i64), (11, .int .i64)] (K .normal)) (curV [(3, .blk), (5, .blk), (6, .blk), (7, .blk), (8, .blk), (9, .bool), (10, .int .i64), (11, .int .i64)] (K (.exit 1))) b74 b75 b76 b77 b78 t79 n80 n81 b82 t83 h = evC Try.prog 109 [([true, true, true], spec_l16Kill_j4_F)] [] (sub code51 [true, true, true, true, true, false, true, false, false, true, false, false, true, true, true, true, true]) [(3, .pointer (some ⟨b74, 0, none⟩)), (5, .pointer (some ⟨b75, 0, none⟩)), (6, .pointer (some ⟨b76, 0, none⟩)), (7, .pointer (some ⟨b77, 0, none⟩)), (8, .pointer (some ⟨b78, 0, none⟩)), (9, .bool t79), (10, .int .i64 n80), (11, .int .i64 n81), (12, .pointer (some ⟨b82, 0, none⟩)), (13, .bool t83)] h (outsOf (some [(3, .blk), (5, .blk), (6, .blk), (7, .blk), (8, .blk), (9, .bool), (10, .int .i64), (11, .int .i64)]) [(1, [(3, .blk), (5, .blk), (6, .blk), (7, .blk), (8, .blk), (9, .bool), (10, .int .i64), (11, .int .i64)])] none K).K := by kernel_rfl

def spec_l16Kill_j3_F : PT := mkF [(3, .blk), (5, .blk), (6, .blk), (7, .blk), (8, .blk), (9, .bool), (10, .int .i64), (11, .int .i64), (12, .blk), (13, .bool)] fun K => spec_l16Kill_j3 (curV [(3, .blk), (5, .blk), (6, .blk), (7, .blk), (8, .blk), (9, .bool), (10, .int .i64), (11, .int .i64)] (K .normal)) (curV [(3, .blk), (5, .blk), (6, .blk), (7, .blk), (8, .blk), (9, .bool), (10, .int .i64), (11, .int .i64)] (K (.exit 1)))

theorem spec_l16Kill_j3_V : Valid Try.prog 109 (sub code51 [true, true, true, true, true, false, true, false, false, true, false, false, true, true, true, true, true]) spec_l16Kill_j3_F :=
  piece mixed (rows_cons (q' := [true, true, true]) (valid_at (p := [true, true, true, true, true, false, true, false, false, true, false, false, true, true, true, true, true]) spec_l16Kill_j4_V rfl) rfl rows_nil) (fun K => by intro b74 b75 b76 b77 b78 t79 n80 n81 b82 t83 h hd; exact (spec_l16Kill_j3_eq K b74 b75 b76 b77 b78 t79 n80 n81 b82 t83 h) ▸ hd)

theorem spec_l16Kill_j2_eq (K : Cont) (b64 : Nat) (b65 : Nat) (b66 : Nat) (b67 : Nat) (b68 : Nat) (t69 : Bool) (n70 : Int) (n71 : Int) (b72 : Nat) (t73 : Bool) (h : H) :
  spec_l16Kill_j2 (curV [(3, .blk), (5, .blk), (6, .blk), (7, .blk), (8, .blk), (9, .bool), (10, .int .i64), (11, .int .i64)] (K .normal)) (curV [(3, .blk), (5, .blk), (6, .blk), (7, .blk), (8, .blk), (9, .bool), (10, .int .i64), (11, .int .i64)] (K (.exit 1))) b64 b65 b66 b67 b68 t69 n70 n71 b72 t73 h = evC Try.prog 109 [([true], spec_l16Kill_j3_F)] [] (sub code51 [true, true, true, true, true, false, true, false, false, true, false, false, true, true, true, true]) [(3, .pointer (some ⟨b64, 0, none⟩)), (5, .pointer (some ⟨b65, 0, none⟩)), (6, .pointer (some ⟨b66, 0, none⟩)), (7, .pointer (some ⟨b67, 0, none⟩)), (8, .pointer (some ⟨b68, 0, none⟩)), (9, .bool t69), (10, .int .i64 n70), (11, .int .i64 n71), (12, .pointer (some ⟨b72, 0, none⟩)), (13, .bool t73)] h (outsOf (some [(3, .blk), (5, .blk), (6, .blk), (7, .blk), (8, .blk), (9, .bool), (10, .int .i64), (11, .int .i64)]) [(1, [(3, .blk), (5, .blk), (6, .blk), (7, .blk), (8, .blk), (9, .bool), (10, .int .i64), (11, .int .i64)])] none K).K := by kernel_rfl

def spec_l16Kill_j2_F : PT := mkF [(3, .blk), (5, .blk), (6, .blk), (7, .blk), (8, .blk), (9, .bool), (10, .int .i64), (11, .int .i64), (12, .blk), (13, .bool)] fun K => spec_l16Kill_j2 (curV [(3, .blk), (5, .blk), (6, .blk), (7, .blk), (8, .blk), (9, .bool), (10, .int .i64), (11, .int .i64)] (K .normal)) (curV [(3, .blk), (5, .blk), (6, .blk), (7, .blk), (8, .blk), (9, .bool), (10, .int .i64), (11, .int .i64)] (K (.exit 1)))

theorem spec_l16Kill_j2_V : Valid Try.prog 109 (sub code51 [true, true, true, true, true, false, true, false, false, true, false, false, true, true, true, true]) spec_l16Kill_j2_F :=
  piece mixed (rows_cons (q' := [true]) (valid_at (p := [true, true, true, true, true, false, true, false, false, true, false, false, true, true, true, true]) spec_l16Kill_j3_V rfl) rfl rows_nil) (fun K => by intro b64 b65 b66 b67 b68 t69 n70 n71 b72 t73 h hd; exact (spec_l16Kill_j2_eq K b64 b65 b66 b67 b68 t69 n70 n71 b72 t73 h) ▸ hd)

theorem spec_l16Kill_j1_eq (K : Cont) (b54 : Nat) (b55 : Nat) (b56 : Nat) (b57 : Nat) (b58 : Nat) (t59 : Bool) (n60 : Int) (n61 : Int) (b62 : Nat) (t63 : Bool) (h : H) :
  spec_l16Kill_j1 (curV [(3, .blk), (5, .blk), (6, .blk), (7, .blk), (8, .blk), (9, .bool), (10, .int .i64), (11, .int .i64)] (K .normal)) (curV [(3, .blk), (5, .blk), (6, .blk), (7, .blk), (8, .blk), (9, .bool), (10, .int .i64), (11, .int .i64)] (K (.exit 1))) b54 b55 b56 b57 b58 t59 n60 n61 b62 t63 h = evC Try.prog 109 [([true], spec_l16Kill_j2_F)] [] (sub code51 [true, true, true, true, true, false, true, false, false, true, false, false, true, true, true]) [(3, .pointer (some ⟨b54, 0, none⟩)), (5, .pointer (some ⟨b55, 0, none⟩)), (6, .pointer (some ⟨b56, 0, none⟩)), (7, .pointer (some ⟨b57, 0, none⟩)), (8, .pointer (some ⟨b58, 0, none⟩)), (9, .bool t59), (10, .int .i64 n60), (11, .int .i64 n61), (12, .pointer (some ⟨b62, 0, none⟩)), (13, .bool t63)] h (outsOf (some [(3, .blk), (5, .blk), (6, .blk), (7, .blk), (8, .blk), (9, .bool), (10, .int .i64), (11, .int .i64)]) [(1, [(3, .blk), (5, .blk), (6, .blk), (7, .blk), (8, .blk), (9, .bool), (10, .int .i64), (11, .int .i64)])] none K).K := by kernel_rfl

def spec_l16Kill_j1_F : PT := mkF [(3, .blk), (5, .blk), (6, .blk), (7, .blk), (8, .blk), (9, .bool), (10, .int .i64), (11, .int .i64), (12, .blk), (13, .bool)] fun K => spec_l16Kill_j1 (curV [(3, .blk), (5, .blk), (6, .blk), (7, .blk), (8, .blk), (9, .bool), (10, .int .i64), (11, .int .i64)] (K .normal)) (curV [(3, .blk), (5, .blk), (6, .blk), (7, .blk), (8, .blk), (9, .bool), (10, .int .i64), (11, .int .i64)] (K (.exit 1)))

theorem spec_l16Kill_j1_V : Valid Try.prog 109 (sub code51 [true, true, true, true, true, false, true, false, false, true, false, false, true, true, true]) spec_l16Kill_j1_F :=
  piece mixed (rows_cons (q' := [true]) (valid_at (p := [true, true, true, true, true, false, true, false, false, true, false, false, true, true, true]) spec_l16Kill_j2_V rfl) rfl rows_nil) (fun K => by intro b54 b55 b56 b57 b58 t59 n60 n61 b62 t63 h hd; exact (spec_l16Kill_j1_eq K b54 b55 b56 b57 b58 t59 n60 n61 b62 t63 h) ▸ hd)

theorem spec_l16Kill_l0_eq (K : Cont) (N : Nat) (b29 : Nat) (b30 : Nat) (b31 : Nat) (b32 : Nat) (b33 : Nat) (t34 : Bool) (n35 : Int) (n36 : Int) (h : H) :
  spec_l16Kill_l0 (curV [(3, .blk), (6, .blk), (7, .blk), (9, .bool), (10, .int .i64)] (K (.exit 0))) (N + 1) b29 b30 b31 b32 b33 t34 n35 n36 h = evC Try.prog 109 [([true, true, true, false, false, true], spec_l16Kill_j1_F)] [] (sub code51 [true, true, true, true, true, false, true, false, false]) [(3, .pointer (some ⟨b29, 0, none⟩)), (5, .pointer (some ⟨b30, 0, none⟩)), (6, .pointer (some ⟨b31, 0, none⟩)), (7, .pointer (some ⟨b32, 0, none⟩)), (8, .pointer (some ⟨b33, 0, none⟩)), (9, .bool t34), (10, .int .i64 n35), (11, .int .i64 n36)] h ((outsOf none [(0, [(3, .blk), (6, .blk), (7, .blk), (9, .bool), (10, .int .i64)])] none K).loop [(3, .blk), (5, .blk), (6, .blk), (7, .blk), (8, .blk), (9, .bool), (10, .int .i64), (11, .int .i64)] (spec_l16Kill_l0 (curV [(3, .blk), (6, .blk), (7, .blk), (9, .bool), (10, .int .i64)] (K (.exit 0))) N)).K := by kernel_rfl

def spec_l16Kill_l0_F : PT := mkL [(3, .blk), (5, .blk), (6, .blk), (7, .blk), (8, .blk), (9, .bool), (10, .int .i64), (11, .int .i64)] fun K N => spec_l16Kill_l0 (curV [(3, .blk), (6, .blk), (7, .blk), (9, .bool), (10, .int .i64)] (K (.exit 0))) N

theorem spec_l16Kill_l0_V : Valid Try.prog 109 (sub code51 [true, true, true, true, true, false, true, false]) spec_l16Kill_l0_F :=
  loop_at (code51) [true, true, true, true, true, false, true, false] (loop_piece (c := (sub code51 [true, true, true, true, true, false, true, false, false])) mixed (rows_cons (q' := [true, false, false, true, true, true]) (valid_at (p := [true, true, true, true, true, false, true, false, false]) spec_l16Kill_j1_V rfl) rfl rows_nil) (fun K => by intro b29 b30 b31 b32 b33 t34 n35 n36 h hd; exact hd) (fun K N => by intro b29 b30 b31 b32 b33 t34 n35 n36 h hd; exact (spec_l16Kill_l0_eq K N b29 b30 b31 b32 b33 t34 n35 n36 h) ▸ hd))

theorem spec_l16Kill_eq (K : Cont) (a1 : Option Addr) (l1 : Nat) (c1 : Nat) (n2 : Int) (n3 : Int) (n4 : Int) (n5 : Int) (n6 : Int) (h : H) :
  spec_l16Kill (curV [(6, .blk), (7, .blk)] (K .ret)) a1 l1 c1 n2 n3 n4 n5 n6 h = evC Try.prog 109 [([false, false, true, false, true, true, true, true, true], spec_l16Kill_l0_F)] [] code51 [(0, .agg ⟨[.slice a1 l1 c1]⟩), (1, .int .i64 n2), (2, .agg ⟨[.int .i64 n3, .int .i64 n4, .int .i64 n5, .int .i64 n6]⟩)] h (outsOf none [] (some [(6, .blk), (7, .blk)]) K).K := by kernel_rfl

def spec_l16Kill_F : PT := mkF [(0, .agg [.slice]), (1, .int .i64), (2, .agg [.int .i64, .int .i64, .int .i64, .int .i64])] fun K => spec_l16Kill (curV [(6, .blk), (7, .blk)] (K .ret))

theorem spec_l16Kill_V : Valid Try.prog 109 code51 spec_l16Kill_F :=
  piece mixed (rows_cons (q' := [true, true, true, true, true, false, true, false]) spec_l16Kill_l0_V rfl rows_nil) (fun K => by intro a1 l1 c1 n2 n3 n4 n5 n6 h hd; exact (spec_l16Kill_eq K a1 l1 c1 n2 n3 n4 n5 n6 h) ▸ hd)

theorem spec_l16Kill_c0 (a1 : Option Addr) (l1 : Nat) (c1 : Nat) (n2 : Int) (n3 : Int) (n4 : Int) (n5 : Int) (n6 : Int) (h : H) (K : Value → H → Prop) :
  spec_l16Kill (fun b100001 b100002 h =>
  ldRow h b100001 0 0 [.slice] fun a100003 l100003 c100003 =>
  ldRow h b100002 0 0 [.int .i64, .int .i64, .int .i64] fun n100004 n100005 n100006 =>
  K (.tuple ⟨[.agg ⟨[.slice a100003 l100003 c100003]⟩, .agg ⟨[.int .i64 n100004, .int .i64 n100005, .int .i64 n100006]⟩]⟩) h) a1 l1 c1 n2 n3 n4 n5 n6 h = callF Try.prog Try.f51.results.toList spec_l16Kill_F [.agg ⟨[.slice a1 l1 c1]⟩, .int .i64 n2, .agg ⟨[.int .i64 n3, .int .i64 n4, .int .i64 n5, .int .i64 n6]⟩] h K := by kernel_rfl

theorem spec_l16Kill_call {a1 : Option Addr} {l1 : Nat} {c1 : Nat} {n2 : Int} {n3 : Int} {n4 : Int} {n5 : Int} {n6 : Int} {h : H} {K : Value → H → Prop} (hs : spec_l16Kill (fun b100001 b100002 h =>
  ldRow h b100001 0 0 [.slice] fun a100003 l100003 c100003 =>
  ldRow h b100002 0 0 [.int .i64, .int .i64, .int .i64] fun n100004 n100005 n100006 =>
  K (.tuple ⟨[.agg ⟨[.slice a100003 l100003 c100003]⟩, .agg ⟨[.int .i64 n100004, .int .i64 n100005, .int .i64 n100006]⟩]⟩) h) a1 l1 c1 n2 n3 n4 n5 n6 h) : callK Try.prog 51 ⟨[.agg ⟨[.slice a1 l1 c1]⟩, .int .i64 n2, .agg ⟨[.int .i64 n3, .int .i64 n4, .int .i64 n5, .int .i64 n6]⟩]⟩ h K :=
  func_calls Try.func51 body51 spec_l16Kill_V (Nat.le_of_ble_eq_true (by kernel_rfl)) (spec_l16Kill_c0 a1 l1 c1 n2 n3 n4 n5 n6 h K ▸ hs)

def spec_l16Kill_M_j4 (kn : Bool → Int → Int → Option Addr → Nat → Nat → Int → Int → Int → Int → Int → H → Prop) (t175 : Bool) (n176 : Int) (n177 : Int) (t178 : Bool) (a179 : Option Addr) (l179 : Nat) (c179 : Nat) (n183 : Int) (n184 : Int) (n192 : Int) (n194 : Int) (n195 : Int) (h : H) : Prop :=
  ifB t178
  (ifB (decide ((n184 : Int) > 0))
  (callD Try.prog 61 ⟨[.agg ⟨[.slice a179 l179 c179]⟩, .int .i64 n177, .int .i64 n184]⟩ h fun v203 h =>
  elF False (.tuple []) v203
  (kn t175 (IntKind.i64.wrap (n176 + 1)) n177 a179 l179 c179 n183 n184 n192 n194 n195 h))
  (kn t175 (IntKind.i64.wrap (n176 + 1)) n177 a179 l179 c179 n183 n184 n192 n194 n195 h))
  (kn t175 n176 n177 a179 l179 c179 n183 n184 n192 n194 n195 h)

def spec_l16Kill_M_j3 (kn : Bool → Int → Int → Option Addr → Nat → Nat → Int → Int → Int → Int → Int → H → Prop) (kx1 : Bool → Int → Int → Option Addr → Nat → Nat → Int → Int → Int → Int → Int → H → Prop) (t136 : Bool) (n137 : Int) (n138 : Int) (t139 : Bool) (a140 : Option Addr) (l140 : Nat) (c140 : Nat) (n144 : Int) (n145 : Int) (n153 : Int) (n155 : Int) (n156 : Int) (n167 : Int) (h : H) : Prop :=
  ifB (!t139)
  (kx1 t136 n137 n138 a140 l140 c140 n144 n145 n153 n155 n156 h)
  (ifB ((n156 : Int) == 0)
  (spec_l16Kill_M_j4 kn true n137 n138 true a140 l140 c140 n144 n145 n153 n155 n156 h)
  (spec_l16Kill_M_j4 kn true n137 n138 ((n156 : Int) == n167) a140 l140 c140 n144 n145 n153 n155 n156 h))

def spec_l16Kill_M_j2 (kn : Bool → Int → Int → Option Addr → Nat → Nat → Int → Int → Int → Int → Int → H → Prop) (kx1 : Bool → Int → Int → Option Addr → Nat → Nat → Int → Int → Int → Int → Int → H → Prop) (t97 : Bool) (n98 : Int) (n99 : Int) (t100 : Bool) (a101 : Option Addr) (l101 : Nat) (c101 : Nat) (n105 : Int) (n106 : Int) (n114 : Int) (n116 : Int) (n117 : Int) (n127 : Int) (n128 : Int) (h : H) : Prop :=
  ifB (decide ((n105 : Int) < (-1)))
  (spec_l16Kill_M_j3 kn kx1 t97 n98 n99 ((n127 : Int) == (IntKind.i64.wrap (0 - n105))) a101 l101 c101 n105 n106 n114 n116 n117 n128 h)
  (spec_l16Kill_M_j3 kn kx1 t97 n98 n99 t100 a101 l101 c101 n105 n106 n114 n116 n117 n128 h)

def spec_l16Kill_M_j1 (kn : Bool → Int → Int → Option Addr → Nat → Nat → Int → Int → Int → Int → Int → H → Prop) (kx1 : Bool → Int → Int → Option Addr → Nat → Nat → Int → Int → Int → Int → Int → H → Prop) (t58 : Bool) (n59 : Int) (n60 : Int) (t61 : Bool) (a62 : Option Addr) (l62 : Nat) (c62 : Nat) (n66 : Int) (n67 : Int) (n75 : Int) (n77 : Int) (n78 : Int) (n86 : Int) (n88 : Int) (n89 : Int) (h : H) : Prop :=
  ifB ((n66 : Int) == (-1))
  (ifB ((n86 : Int) != 1)
  (spec_l16Kill_M_j2 kn kx1 t58 n59 n60 ((n86 : Int) != n75) a62 l62 c62 n66 n67 n75 n77 n78 n88 n89 h)
  (spec_l16Kill_M_j2 kn kx1 t58 n59 n60 false a62 l62 c62 n66 n67 n75 n77 n78 n88 n89 h))
  (spec_l16Kill_M_j2 kn kx1 t58 n59 n60 t61 a62 l62 c62 n66 n67 n75 n77 n78 n88 n89 h)

def spec_l16Kill_M_l0 (kx0 : Bool → Int → Option Addr → Nat → Nat → H → Prop) : Nat → Bool → Int → Int → Option Addr → Nat → Nat → Int → Int → Int → Int → Int → H → Prop
 | 0, _, _, _, _, _, _, _, _, _, _, _, _ => False
 | N + 1, t19, n20, n21, a22, l22, c22, n26, n27, n35, n37, n38, h =>
  ifB (decide ((n21 : Int) < (l22 : Nat)))
  (req (0 ≤ (n21 : Int) ∧ (n21 : Int) < (l22 : Nat))
  (nz a22 fun b46 o47 =>
  ldRow h b46 (o47 + n21.toNat * 10) 0 [.int .i64, .int .i64, .int .i64, .int .i64, .int .i64, .int .i64, .int .i64, .int .i64, .int .i64, .int .i64] fun n48 n49 n50 n51 n52 n53 n54 n55 n56 n57 =>
  ifB ((n26 : Int) == 0)
  (spec_l16Kill_M_j1 (fun t58 n59 n60 a61 l61 c61 n65 n66 n74 n76 n77 h =>
  spec_l16Kill_M_l0 kx0 N t58 n59 (IntKind.i64.wrap (n60 + 1)) a61 l61 c61 n65 n66 n74 n76 n77 h) (fun t85 n86 n87 a88 l88 c88 n92 n93 n101 n103 n104 h =>
  spec_l16Kill_M_l0 kx0 N t85 n86 (IntKind.i64.wrap (n87 + 1)) a88 l88 c88 n92 n93 n101 n103 n104 h) t19 n20 n21 ((n50 : Int) == n37) a22 l22 c22 n26 n27 n35 n37 n38 n48 n50 n51 h)
  (spec_l16Kill_M_j1 (fun t112 n113 n114 a115 l115 c115 n119 n120 n128 n130 n131 h =>
  spec_l16Kill_M_l0 kx0 N t112 n113 (IntKind.i64.wrap (n114 + 1)) a115 l115 c115 n119 n120 n128 n130 n131 h) (fun t139 n140 n141 a142 l142 c142 n146 n147 n155 n157 n158 h =>
  spec_l16Kill_M_l0 kx0 N t139 n140 (IntKind.i64.wrap (n141 + 1)) a142 l142 c142 n146 n147 n155 n157 n158 h) t19 n20 n21 ((n48 : Int) == n26) a22 l22 c22 n26 n27 n35 n37 n38 n48 n50 n51 h)))
  (kx0 t19 n20 a22 l22 c22 h)

def spec_l16Kill_M (kr : Option Addr → Nat → Nat → Int → Int → Int → H → Prop) (a1 : Option Addr) (l1 : Nat) (c1 : Nat) (n2 : Int) (n3 : Int) (n4 : Int) (n5 : Int) (n6 : Int) (h : H) : Prop :=
  ifB (decide ((n6 : Int) < 0))
  (kr a1 l1 c1 1 0 0 h)
  (ifB (decide ((n6 : Int) > 15))
  (kr a1 l1 c1 1 0 0 h)
  (req (0 ≤ (n2 : Int) ∧ (n2 : Int) < (l1 : Nat))
  (nz a1 fun b7 o8 =>
  ldRow h b7 (o8 + n2.toNat * 10) 0 [.int .i64, .int .i64, .int .i64, .int .i64, .int .i64, .int .i64, .int .i64, .int .i64, .int .i64, .int .i64] fun n9 n10 n11 n12 n13 n14 n15 n16 n17 n18 =>
  ∃ M29, spec_l16Kill_M_l0 (fun t19 n20 a21 l21 c21 h =>
  ifB (!t19)
  (kr a21 l21 c21 3 0 0 h)
  (ifB ((n20 : Int) == 0)
  (kr a21 l21 c21 2 0 0 h)
  (kr a21 l21 c21 0 n20 0 h))) M29 false 0 0 a1 l1 c1 n5 n6 n9 n11 n12 h)))

theorem spec_l16Kill_M_j4_D {g0 m0 : H} {kn_1 : Nat → Nat → Nat → Nat → Nat → Bool → Int → Int → H → Prop} {kn_2 : Bool → Int → Int → Option Addr → Nat → Nat → Int → Int → Int → Int → Int → H → Prop} (Hkn : ∀ (t200001 : Bool) (n200002 : Int) (n200003 : Int) (a200004 : Option Addr) (l200004 : Nat) (c200004 : Nat) (n200006 : Int) (n200007 : Int) (n200008 : Int) (n200009 : Int) (a200011 : Option Addr) (l200011 : Nat) (c200011 : Nat) (n200013 : Int) (n200014 : Int) (n200015 : Int) (n200017 : Int) (n200018 : Int) (n200019 : Int) (n200020 : Int) (n200021 : Int) (n200022 : Int) (n200023 : Int) (n200024 : Int) (n200025 : Int) (n200026 : Int) (p200005 : Nat) (p200010 : Nat) (p200012 : Nat) (p200016 : Nat) (p200027 : Nat) (g m : H), Md g0 m0 g m [lo p200005 [.slice a200004 l200004 c200004], lo p200010 [.int .i64 n200006, .int .i64 n200007, .int .i64 n200008, .int .i64 n200009], lo p200012 [.slice a200011 l200011 c200011], lo p200016 [.int .i64 n200013, .int .i64 n200014, .int .i64 n200015], lo p200027 [.int .i64 n200017, .int .i64 n200018, .int .i64 n200019, .int .i64 n200020, .int .i64 n200021, .int .i64 n200022, .int .i64 n200023, .int .i64 n200024, .int .i64 n200025, .int .i64 n200026]] → kn_2 t200001 n200002 n200003 a200004 l200004 c200004 n200008 n200009 n200017 n200019 n200020 m → kn_1 p200005 p200010 p200012 p200016 p200027 t200001 n200002 n200003 g) : ∀ (t1175 : Bool) (n1176 : Int) (n1177 : Int) (t1178 : Bool) (a1179 : Option Addr) (l1179 : Nat) (c1179 : Nat) (n1181 : Int) (n1182 : Int) (n1183 : Int) (n1184 : Int) (a1186 : Option Addr) (l1186 : Nat) (c1186 : Nat) (n1188 : Int) (n1189 : Int) (n1190 : Int) (n1192 : Int) (n1193 : Int) (n1194 : Int) (n1195 : Int) (n1196 : Int) (n1197 : Int) (n1198 : Int) (n1199 : Int) (n1200 : Int) (n1201 : Int) (p1180 : Nat) (p1185 : Nat) (p1187 : Nat) (p1191 : Nat) (p1202 : Nat) (g m : H), Md g0 m0 g m [lo p1180 [.slice a1179 l1179 c1179], lo p1185 [.int .i64 n1181, .int .i64 n1182, .int .i64 n1183, .int .i64 n1184], lo p1187 [.slice a1186 l1186 c1186], lo p1191 [.int .i64 n1188, .int .i64 n1189, .int .i64 n1190], lo p1202 [.int .i64 n1192, .int .i64 n1193, .int .i64 n1194, .int .i64 n1195, .int .i64 n1196, .int .i64 n1197, .int .i64 n1198, .int .i64 n1199, .int .i64 n1200, .int .i64 n1201]] → spec_l16Kill_M_j4 kn_2 t1175 n1176 n1177 t1178 a1179 l1179 c1179 n1183 n1184 n1192 n1194 n1195 m → spec_l16Kill_j4 kn_1 p1180 p1185 p1187 p1191 p1202 t1175 n1176 n1177 t1178 g := by
  intro t1175 n1176 n1177 t1178 a1179 l1179 c1179 n1181 n1182 n1183 n1184 a1186 l1186 c1186 n1188 n1189 n1190 n1192 n1193 n1194 n1195 n1196 n1197 n1198 n1199 n1200 n1201 p1180 p1185 p1187 p1191 p1202 g m R
  rw [spec_l16Kill_M_j4, spec_l16Kill_j4]
  exact (d_if (p_ldI R rfl (d_if (p_row_L R rfl (p_ldI R rfl (d_call R fun v1203 g m R =>
  (d_el_TE (Hkn t1175 (IntKind.i64.wrap (n1176 + 1)) n1177 a1179 l1179 c1179 n1181 n1182 n1183 n1184 a1186 l1186 c1186 n1188 n1189 n1190 n1192 n1193 n1194 n1195 n1196 n1197 n1198 n1199 n1200 n1201 p1180 p1185 p1187 p1191 p1202 _ _ R.sub)))))
  (Hkn t1175 (IntKind.i64.wrap (n1176 + 1)) n1177 a1179 l1179 c1179 n1181 n1182 n1183 n1184 a1186 l1186 c1186 n1188 n1189 n1190 n1192 n1193 n1194 n1195 n1196 n1197 n1198 n1199 n1200 n1201 p1180 p1185 p1187 p1191 p1202 _ _ R.sub)))
  (Hkn t1175 n1176 n1177 a1179 l1179 c1179 n1181 n1182 n1183 n1184 a1186 l1186 c1186 n1188 n1189 n1190 n1192 n1193 n1194 n1195 n1196 n1197 n1198 n1199 n1200 n1201 p1180 p1185 p1187 p1191 p1202 _ _ R.sub))

theorem spec_l16Kill_M_j3_D {g0 m0 : H} {kn_1 : Nat → Nat → Nat → Nat → Nat → Bool → Int → Int → H → Prop} {kn_2 : Bool → Int → Int → Option Addr → Nat → Nat → Int → Int → Int → Int → Int → H → Prop} (Hkn : ∀ (t200001 : Bool) (n200002 : Int) (n200003 : Int) (a200004 : Option Addr) (l200004 : Nat) (c200004 : Nat) (n200006 : Int) (n200007 : Int) (n200008 : Int) (n200009 : Int) (a200011 : Option Addr) (l200011 : Nat) (c200011 : Nat) (n200013 : Int) (n200014 : Int) (n200015 : Int) (n200017 : Int) (n200018 : Int) (n200019 : Int) (n200020 : Int) (n200021 : Int) (n200022 : Int) (n200023 : Int) (n200024 : Int) (n200025 : Int) (n200026 : Int) (p200005 : Nat) (p200010 : Nat) (p200012 : Nat) (p200016 : Nat) (p200027 : Nat) (g m : H), Md g0 m0 g m [lo p200005 [.slice a200004 l200004 c200004], lo p200010 [.int .i64 n200006, .int .i64 n200007, .int .i64 n200008, .int .i64 n200009], lo p200012 [.slice a200011 l200011 c200011], lo p200016 [.int .i64 n200013, .int .i64 n200014, .int .i64 n200015], lo p200027 [.int .i64 n200017, .int .i64 n200018, .int .i64 n200019, .int .i64 n200020, .int .i64 n200021, .int .i64 n200022, .int .i64 n200023, .int .i64 n200024, .int .i64 n200025, .int .i64 n200026]] → kn_2 t200001 n200002 n200003 a200004 l200004 c200004 n200008 n200009 n200017 n200019 n200020 m → kn_1 p200005 p200010 p200012 p200016 p200027 t200001 n200002 n200003 g)
  {kx1_1 : Nat → Nat → Nat → Nat → Nat → Bool → Int → Int → H → Prop} {kx1_2 : Bool → Int → Int → Option Addr → Nat → Nat → Int → Int → Int → Int → Int → H → Prop} (Hkx1 : ∀ (t200001 : Bool) (n200002 : Int) (n200003 : Int) (a200004 : Option Addr) (l200004 : Nat) (c200004 : Nat) (n200006 : Int) (n200007 : Int) (n200008 : Int) (n200009 : Int) (a200011 : Option Addr) (l200011 : Nat) (c200011 : Nat) (n200013 : Int) (n200014 : Int) (n200015 : Int) (n200017 : Int) (n200018 : Int) (n200019 : Int) (n200020 : Int) (n200021 : Int) (n200022 : Int) (n200023 : Int) (n200024 : Int) (n200025 : Int) (n200026 : Int) (p200005 : Nat) (p200010 : Nat) (p200012 : Nat) (p200016 : Nat) (p200027 : Nat) (g m : H), Md g0 m0 g m [lo p200005 [.slice a200004 l200004 c200004], lo p200010 [.int .i64 n200006, .int .i64 n200007, .int .i64 n200008, .int .i64 n200009], lo p200012 [.slice a200011 l200011 c200011], lo p200016 [.int .i64 n200013, .int .i64 n200014, .int .i64 n200015], lo p200027 [.int .i64 n200017, .int .i64 n200018, .int .i64 n200019, .int .i64 n200020, .int .i64 n200021, .int .i64 n200022, .int .i64 n200023, .int .i64 n200024, .int .i64 n200025, .int .i64 n200026]] → kx1_2 t200001 n200002 n200003 a200004 l200004 c200004 n200008 n200009 n200017 n200019 n200020 m → kx1_1 p200005 p200010 p200012 p200016 p200027 t200001 n200002 n200003 g) : ∀ (t1136 : Bool) (n1137 : Int) (n1138 : Int) (t1139 : Bool) (a1140 : Option Addr) (l1140 : Nat) (c1140 : Nat) (n1142 : Int) (n1143 : Int) (n1144 : Int) (n1145 : Int) (a1147 : Option Addr) (l1147 : Nat) (c1147 : Nat) (n1149 : Int) (n1150 : Int) (n1151 : Int) (n1153 : Int) (n1154 : Int) (n1155 : Int) (n1156 : Int) (n1157 : Int) (n1158 : Int) (n1159 : Int) (n1160 : Int) (n1161 : Int) (n1162 : Int) (n1164 : Int) (n1165 : Int) (n1166 : Int) (n1167 : Int) (n1168 : Int) (n1169 : Int) (n1170 : Int) (n1171 : Int) (n1172 : Int) (n1173 : Int) (p1141 : Nat) (p1146 : Nat) (p1148 : Nat) (p1152 : Nat) (p1163 : Nat) (p1174 : Nat) (g m : H), Md g0 m0 g m [lo p1141 [.slice a1140 l1140 c1140], lo p1146 [.int .i64 n1142, .int .i64 n1143, .int .i64 n1144, .int .i64 n1145], lo p1148 [.slice a1147 l1147 c1147], lo p1152 [.int .i64 n1149, .int .i64 n1150, .int .i64 n1151], lo p1163 [.int .i64 n1153, .int .i64 n1154, .int .i64 n1155, .int .i64 n1156, .int .i64 n1157, .int .i64 n1158, .int .i64 n1159, .int .i64 n1160, .int .i64 n1161, .int .i64 n1162], lo p1174 [.int .i64 n1164, .int .i64 n1165, .int .i64 n1166, .int .i64 n1167, .int .i64 n1168, .int .i64 n1169, .int .i64 n1170, .int .i64 n1171, .int .i64 n1172, .int .i64 n1173]] → spec_l16Kill_M_j3 kn_2 kx1_2 t1136 n1137 n1138 t1139 a1140 l1140 c1140 n1144 n1145 n1153 n1155 n1156 n1167 m → spec_l16Kill_j3 kn_1 kx1_1 p1141 p1146 p1148 p1152 p1163 t1136 n1137 n1138 p1174 t1139 g := by
  intro t1136 n1137 n1138 t1139 a1140 l1140 c1140 n1142 n1143 n1144 n1145 a1147 l1147 c1147 n1149 n1150 n1151 n1153 n1154 n1155 n1156 n1157 n1158 n1159 n1160 n1161 n1162 n1164 n1165 n1166 n1167 n1168 n1169 n1170 n1171 n1172 n1173 p1141 p1146 p1148 p1152 p1163 p1174 g m R
  rw [spec_l16Kill_M_j3, spec_l16Kill_j3]
  exact (d_if (Hkx1 t1136 n1137 n1138 a1140 l1140 c1140 n1142 n1143 n1144 n1145 a1147 l1147 c1147 n1149 n1150 n1151 n1153 n1154 n1155 n1156 n1157 n1158 n1159 n1160 n1161 n1162 p1141 p1146 p1148 p1152 p1163 _ _ R.sub)
  (p_ldI R rfl (d_if (spec_l16Kill_M_j4_D (by exact fun t1175 n1176 n1177 a1178 l1178 c1178 n1180 n1181 n1182 n1183 a1185 l1185 c1185 n1187 n1188 n1189 n1191 n1192 n1193 n1194 n1195 n1196 n1197 n1198 n1199 n1200 p1179 p1184 p1186 p1190 p1201 g m R =>
  (Hkn t1175 n1176 n1177 a1178 l1178 c1178 n1180 n1181 n1182 n1183 a1185 l1185 c1185 n1187 n1188 n1189 n1191 n1192 n1193 n1194 n1195 n1196 n1197 n1198 n1199 n1200 p1179 p1184 p1186 p1190 p1201 _ _ R.sub)) true n1137 n1138 true a1140 l1140 c1140 n1142 n1143 n1144 n1145 a1147 l1147 c1147 n1149 n1150 n1151 n1153 n1154 n1155 n1156 n1157 n1158 n1159 n1160 n1161 n1162 p1141 p1146 p1148 p1152 p1163 _ _ R.sub)
  (p_ldI R rfl (p_ldI R rfl (spec_l16Kill_M_j4_D (by exact fun t1202 n1203 n1204 a1205 l1205 c1205 n1207 n1208 n1209 n1210 a1212 l1212 c1212 n1214 n1215 n1216 n1218 n1219 n1220 n1221 n1222 n1223 n1224 n1225 n1226 n1227 p1206 p1211 p1213 p1217 p1228 g m R =>
  (Hkn t1202 n1203 n1204 a1205 l1205 c1205 n1207 n1208 n1209 n1210 a1212 l1212 c1212 n1214 n1215 n1216 n1218 n1219 n1220 n1221 n1222 n1223 n1224 n1225 n1226 n1227 p1206 p1211 p1213 p1217 p1228 _ _ R.sub)) true n1137 n1138 ((n1156 : Int) == n1167) a1140 l1140 c1140 n1142 n1143 n1144 n1145 a1147 l1147 c1147 n1149 n1150 n1151 n1153 n1154 n1155 n1156 n1157 n1158 n1159 n1160 n1161 n1162 p1141 p1146 p1148 p1152 p1163 _ _ R.sub))))))

theorem spec_l16Kill_M_j2_D {g0 m0 : H} {kn_1 : Nat → Nat → Nat → Nat → Nat → Bool → Int → Int → H → Prop} {kn_2 : Bool → Int → Int → Option Addr → Nat → Nat → Int → Int → Int → Int → Int → H → Prop} (Hkn : ∀ (t200001 : Bool) (n200002 : Int) (n200003 : Int) (a200004 : Option Addr) (l200004 : Nat) (c200004 : Nat) (n200006 : Int) (n200007 : Int) (n200008 : Int) (n200009 : Int) (a200011 : Option Addr) (l200011 : Nat) (c200011 : Nat) (n200013 : Int) (n200014 : Int) (n200015 : Int) (n200017 : Int) (n200018 : Int) (n200019 : Int) (n200020 : Int) (n200021 : Int) (n200022 : Int) (n200023 : Int) (n200024 : Int) (n200025 : Int) (n200026 : Int) (p200005 : Nat) (p200010 : Nat) (p200012 : Nat) (p200016 : Nat) (p200027 : Nat) (g m : H), Md g0 m0 g m [lo p200005 [.slice a200004 l200004 c200004], lo p200010 [.int .i64 n200006, .int .i64 n200007, .int .i64 n200008, .int .i64 n200009], lo p200012 [.slice a200011 l200011 c200011], lo p200016 [.int .i64 n200013, .int .i64 n200014, .int .i64 n200015], lo p200027 [.int .i64 n200017, .int .i64 n200018, .int .i64 n200019, .int .i64 n200020, .int .i64 n200021, .int .i64 n200022, .int .i64 n200023, .int .i64 n200024, .int .i64 n200025, .int .i64 n200026]] → kn_2 t200001 n200002 n200003 a200004 l200004 c200004 n200008 n200009 n200017 n200019 n200020 m → kn_1 p200005 p200010 p200012 p200016 p200027 t200001 n200002 n200003 g)
  {kx1_1 : Nat → Nat → Nat → Nat → Nat → Bool → Int → Int → H → Prop} {kx1_2 : Bool → Int → Int → Option Addr → Nat → Nat → Int → Int → Int → Int → Int → H → Prop} (Hkx1 : ∀ (t200001 : Bool) (n200002 : Int) (n200003 : Int) (a200004 : Option Addr) (l200004 : Nat) (c200004 : Nat) (n200006 : Int) (n200007 : Int) (n200008 : Int) (n200009 : Int) (a200011 : Option Addr) (l200011 : Nat) (c200011 : Nat) (n200013 : Int) (n200014 : Int) (n200015 : Int) (n200017 : Int) (n200018 : Int) (n200019 : Int) (n200020 : Int) (n200021 : Int) (n200022 : Int) (n200023 : Int) (n200024 : Int) (n200025 : Int) (n200026 : Int) (p200005 : Nat) (p200010 : Nat) (p200012 : Nat) (p200016 : Nat) (p200027 : Nat) (g m : H), Md g0 m0 g m [lo p200005 [.slice a200004 l200004 c200004], lo p200010 [.int .i64 n200006, .int .i64 n200007, .int .i64 n200008, .int .i64 n200009], lo p200012 [.slice a200011 l200011 c200011], lo p200016 [.int .i64 n200013, .int .i64 n200014, .int .i64 n200015], lo p200027 [.int .i64 n200017, .int .i64 n200018, .int .i64 n200019, .int .i64 n200020, .int .i64 n200021, .int .i64 n200022, .int .i64 n200023, .int .i64 n200024, .int .i64 n200025, .int .i64 n200026]] → kx1_2 t200001 n200002 n200003 a200004 l200004 c200004 n200008 n200009 n200017 n200019 n200020 m → kx1_1 p200005 p200010 p200012 p200016 p200027 t200001 n200002 n200003 g) : ∀ (t1097 : Bool) (n1098 : Int) (n1099 : Int) (t1100 : Bool) (a1101 : Option Addr) (l1101 : Nat) (c1101 : Nat) (n1103 : Int) (n1104 : Int) (n1105 : Int) (n1106 : Int) (a1108 : Option Addr) (l1108 : Nat) (c1108 : Nat) (n1110 : Int) (n1111 : Int) (n1112 : Int) (n1114 : Int) (n1115 : Int) (n1116 : Int) (n1117 : Int) (n1118 : Int) (n1119 : Int) (n1120 : Int) (n1121 : Int) (n1122 : Int) (n1123 : Int) (n1125 : Int) (n1126 : Int) (n1127 : Int) (n1128 : Int) (n1129 : Int) (n1130 : Int) (n1131 : Int) (n1132 : Int) (n1133 : Int) (n1134 : Int) (p1102 : Nat) (p1107 : Nat) (p1109 : Nat) (p1113 : Nat) (p1124 : Nat) (p1135 : Nat) (g m : H), Md g0 m0 g m [lo p1102 [.slice a1101 l1101 c1101], lo p1107 [.int .i64 n1103, .int .i64 n1104, .int .i64 n1105, .int .i64 n1106], lo p1109 [.slice a1108 l1108 c1108], lo p1113 [.int .i64 n1110, .int .i64 n1111, .int .i64 n1112], lo p1124 [.int .i64 n1114, .int .i64 n1115, .int .i64 n1116, .int .i64 n1117, .int .i64 n1118, .int .i64 n1119, .int .i64 n1120, .int .i64 n1121, .int .i64 n1122, .int .i64 n1123], lo p1135 [.int .i64 n1125, .int .i64 n1126, .int .i64 n1127, .int .i64 n1128, .int .i64 n1129, .int .i64 n1130, .int .i64 n1131, .int .i64 n1132, .int .i64 n1133, .int .i64 n1134]] → spec_l16Kill_M_j2 kn_2 kx1_2 t1097 n1098 n1099 t1100 a1101 l1101 c1101 n1105 n1106 n1114 n1116 n1117 n1127 n1128 m → spec_l16Kill_j2 kn_1 kx1_1 p1102 p1107 p1109 p1113 p1124 t1097 n1098 n1099 p1135 t1100 g := by
  intro t1097 n1098 n1099 t1100 a1101 l1101 c1101 n1103 n1104 n1105 n1106 a1108 l1108 c1108 n1110 n1111 n1112 n1114 n1115 n1116 n1117 n1118 n1119 n1120 n1121 n1122 n1123 n1125 n1126 n1127 n1128 n1129 n1130 n1131 n1132 n1133 n1134 p1102 p1107 p1109 p1113 p1124 p1135 g m R
  rw [spec_l16Kill_M_j2, spec_l16Kill_j2]
  exact (p_ldI R rfl (d_if (p_ldI R rfl (p_ldI R rfl (spec_l16Kill_M_j3_D (by exact fun t1136 n1137 n1138 a1139 l1139 c1139 n1141 n1142 n1143 n1144 a1146 l1146 c1146 n1148 n1149 n1150 n1152 n1153 n1154 n1155 n1156 n1157 n1158 n1159 n1160 n1161 p1140 p1145 p1147 p1151 p1162 g m R =>
  (Hkn t1136 n1137 n1138 a1139 l1139 c1139 n1141 n1142 n1143 n1144 a1146 l1146 c1146 n1148 n1149 n1150 n1152 n1153 n1154 n1155 n1156 n1157 n1158 n1159 n1160 n1161 p1140 p1145 p1147 p1151 p1162 _ _ R.sub))
  (by exact fun t1163 n1164 n1165 a1166 l1166 c1166 n1168 n1169 n1170 n1171 a1173 l1173 c1173 n1175 n1176 n1177 n1179 n1180 n1181 n1182 n1183 n1184 n1185 n1186 n1187 n1188 p1167 p1172 p1174 p1178 p1189 g m R =>
  (Hkx1 t1163 n1164 n1165 a1166 l1166 c1166 n1168 n1169 n1170 n1171 a1173 l1173 c1173 n1175 n1176 n1177 n1179 n1180 n1181 n1182 n1183 n1184 n1185 n1186 n1187 n1188 p1167 p1172 p1174 p1178 p1189 _ _ R.sub)) t1097 n1098 n1099 ((n1127 : Int) == (IntKind.i64.wrap (0 - n1105))) a1101 l1101 c1101 n1103 n1104 n1105 n1106 a1108 l1108 c1108 n1110 n1111 n1112 n1114 n1115 n1116 n1117 n1118 n1119 n1120 n1121 n1122 n1123 n1125 n1126 n1127 n1128 n1129 n1130 n1131 n1132 n1133 n1134 p1102 p1107 p1109 p1113 p1124 p1135 _ _ R.sub)))
  (spec_l16Kill_M_j3_D (by exact fun t1190 n1191 n1192 a1193 l1193 c1193 n1195 n1196 n1197 n1198 a1200 l1200 c1200 n1202 n1203 n1204 n1206 n1207 n1208 n1209 n1210 n1211 n1212 n1213 n1214 n1215 p1194 p1199 p1201 p1205 p1216 g m R =>
  (Hkn t1190 n1191 n1192 a1193 l1193 c1193 n1195 n1196 n1197 n1198 a1200 l1200 c1200 n1202 n1203 n1204 n1206 n1207 n1208 n1209 n1210 n1211 n1212 n1213 n1214 n1215 p1194 p1199 p1201 p1205 p1216 _ _ R.sub))
  (by exact fun t1217 n1218 n1219 a1220 l1220 c1220 n1222 n1223 n1224 n1225 a1227 l1227 c1227 n1229 n1230 n1231 n1233 n1234 n1235 n1236 n1237 n1238 n1239 n1240 n1241 n1242 p1221 p1226 p1228 p1232 p1243 g m R =>
  (Hkx1 t1217 n1218 n1219 a1220 l1220 c1220 n1222 n1223 n1224 n1225 a1227 l1227 c1227 n1229 n1230 n1231 n1233 n1234 n1235 n1236 n1237 n1238 n1239 n1240 n1241 n1242 p1221 p1226 p1228 p1232 p1243 _ _ R.sub)) t1097 n1098 n1099 t1100 a1101 l1101 c1101 n1103 n1104 n1105 n1106 a1108 l1108 c1108 n1110 n1111 n1112 n1114 n1115 n1116 n1117 n1118 n1119 n1120 n1121 n1122 n1123 n1125 n1126 n1127 n1128 n1129 n1130 n1131 n1132 n1133 n1134 p1102 p1107 p1109 p1113 p1124 p1135 _ _ R.sub)))

theorem spec_l16Kill_M_j1_D {g0 m0 : H} {kn_1 : Nat → Nat → Nat → Nat → Nat → Bool → Int → Int → H → Prop} {kn_2 : Bool → Int → Int → Option Addr → Nat → Nat → Int → Int → Int → Int → Int → H → Prop} (Hkn : ∀ (t200001 : Bool) (n200002 : Int) (n200003 : Int) (a200004 : Option Addr) (l200004 : Nat) (c200004 : Nat) (n200006 : Int) (n200007 : Int) (n200008 : Int) (n200009 : Int) (a200011 : Option Addr) (l200011 : Nat) (c200011 : Nat) (n200013 : Int) (n200014 : Int) (n200015 : Int) (n200017 : Int) (n200018 : Int) (n200019 : Int) (n200020 : Int) (n200021 : Int) (n200022 : Int) (n200023 : Int) (n200024 : Int) (n200025 : Int) (n200026 : Int) (p200005 : Nat) (p200010 : Nat) (p200012 : Nat) (p200016 : Nat) (p200027 : Nat) (g m : H), Md g0 m0 g m [lo p200005 [.slice a200004 l200004 c200004], lo p200010 [.int .i64 n200006, .int .i64 n200007, .int .i64 n200008, .int .i64 n200009], lo p200012 [.slice a200011 l200011 c200011], lo p200016 [.int .i64 n200013, .int .i64 n200014, .int .i64 n200015], lo p200027 [.int .i64 n200017, .int .i64 n200018, .int .i64 n200019, .int .i64 n200020, .int .i64 n200021, .int .i64 n200022, .int .i64 n200023, .int .i64 n200024, .int .i64 n200025, .int .i64 n200026]] → kn_2 t200001 n200002 n200003 a200004 l200004 c200004 n200008 n200009 n200017 n200019 n200020 m → kn_1 p200005 p200010 p200012 p200016 p200027 t200001 n200002 n200003 g)
  {kx1_1 : Nat → Nat → Nat → Nat → Nat → Bool → Int → Int → H → Prop} {kx1_2 : Bool → Int → Int → Option Addr → Nat → Nat → Int → Int → Int → Int → Int → H → Prop} (Hkx1 : ∀ (t200001 : Bool) (n200002 : Int) (n200003 : Int) (a200004 : Option Addr) (l200004 : Nat) (c200004 : Nat) (n200006 : Int) (n200007 : Int) (n200008 : Int) (n200009 : Int) (a200011 : Option Addr) (l200011 : Nat) (c200011 : Nat) (n200013 : Int) (n200014 : Int) (n200015 : Int) (n200017 : Int) (n200018 : Int) (n200019 : Int) (n200020 : Int) (n200021 : Int) (n200022 : Int) (n200023 : Int) (n200024 : Int) (n200025 : Int) (n200026 : Int) (p200005 : Nat) (p200010 : Nat) (p200012 : Nat) (p200016 : Nat) (p200027 : Nat) (g m : H), Md g0 m0 g m [lo p200005 [.slice a200004 l200004 c200004], lo p200010 [.int .i64 n200006, .int .i64 n200007, .int .i64 n200008, .int .i64 n200009], lo p200012 [.slice a200011 l200011 c200011], lo p200016 [.int .i64 n200013, .int .i64 n200014, .int .i64 n200015], lo p200027 [.int .i64 n200017, .int .i64 n200018, .int .i64 n200019, .int .i64 n200020, .int .i64 n200021, .int .i64 n200022, .int .i64 n200023, .int .i64 n200024, .int .i64 n200025, .int .i64 n200026]] → kx1_2 t200001 n200002 n200003 a200004 l200004 c200004 n200008 n200009 n200017 n200019 n200020 m → kx1_1 p200005 p200010 p200012 p200016 p200027 t200001 n200002 n200003 g) : ∀ (t1058 : Bool) (n1059 : Int) (n1060 : Int) (t1061 : Bool) (a1062 : Option Addr) (l1062 : Nat) (c1062 : Nat) (n1064 : Int) (n1065 : Int) (n1066 : Int) (n1067 : Int) (a1069 : Option Addr) (l1069 : Nat) (c1069 : Nat) (n1071 : Int) (n1072 : Int) (n1073 : Int) (n1075 : Int) (n1076 : Int) (n1077 : Int) (n1078 : Int) (n1079 : Int) (n1080 : Int) (n1081 : Int) (n1082 : Int) (n1083 : Int) (n1084 : Int) (n1086 : Int) (n1087 : Int) (n1088 : Int) (n1089 : Int) (n1090 : Int) (n1091 : Int) (n1092 : Int) (n1093 : Int) (n1094 : Int) (n1095 : Int) (p1063 : Nat) (p1068 : Nat) (p1070 : Nat) (p1074 : Nat) (p1085 : Nat) (p1096 : Nat) (g m : H), Md g0 m0 g m [lo p1063 [.slice a1062 l1062 c1062], lo p1068 [.int .i64 n1064, .int .i64 n1065, .int .i64 n1066, .int .i64 n1067], lo p1070 [.slice a1069 l1069 c1069], lo p1074 [.int .i64 n1071, .int .i64 n1072, .int .i64 n1073], lo p1085 [.int .i64 n1075, .int .i64 n1076, .int .i64 n1077, .int .i64 n1078, .int .i64 n1079, .int .i64 n1080, .int .i64 n1081, .int .i64 n1082, .int .i64 n1083, .int .i64 n1084], lo p1096 [.int .i64 n1086, .int .i64 n1087, .int .i64 n1088, .int .i64 n1089, .int .i64 n1090, .int .i64 n1091, .int .i64 n1092, .int .i64 n1093, .int .i64 n1094, .int .i64 n1095]] → spec_l16Kill_M_j1 kn_2 kx1_2 t1058 n1059 n1060 t1061 a1062 l1062 c1062 n1066 n1067 n1075 n1077 n1078 n1086 n1088 n1089 m → spec_l16Kill_j1 kn_1 kx1_1 p1063 p1068 p1070 p1074 p1085 t1058 n1059 n1060 p1096 t1061 g := by
  intro t1058 n1059 n1060 t1061 a1062 l1062 c1062 n1064 n1065 n1066 n1067 a1069 l1069 c1069 n1071 n1072 n1073 n1075 n1076 n1077 n1078 n1079 n1080 n1081 n1082 n1083 n1084 n1086 n1087 n1088 n1089 n1090 n1091 n1092 n1093 n1094 n1095 p1063 p1068 p1070 p1074 p1085 p1096 g m R
  rw [spec_l16Kill_M_j1, spec_l16Kill_j1]
  exact (p_ldI R rfl (d_if (p_ldI R rfl (d_if (p_ldI R rfl (p_ldI R rfl (spec_l16Kill_M_j2_D (by exact fun t1097 n1098 n1099 a1100 l1100 c1100 n1102 n1103 n1104 n1105 a1107 l1107 c1107 n1109 n1110 n1111 n1113 n1114 n1115 n1116 n1117 n1118 n1119 n1120 n1121 n1122 p1101 p1106 p1108 p1112 p1123 g m R =>
  (Hkn t1097 n1098 n1099 a1100 l1100 c1100 n1102 n1103 n1104 n1105 a1107 l1107 c1107 n1109 n1110 n1111 n1113 n1114 n1115 n1116 n1117 n1118 n1119 n1120 n1121 n1122 p1101 p1106 p1108 p1112 p1123 _ _ R.sub))
  (by exact fun t1124 n1125 n1126 a1127 l1127 c1127 n1129 n1130 n1131 n1132 a1134 l1134 c1134 n1136 n1137 n1138 n1140 n1141 n1142 n1143 n1144 n1145 n1146 n1147 n1148 n1149 p1128 p1133 p1135 p1139 p1150 g m R =>
  (Hkx1 t1124 n1125 n1126 a1127 l1127 c1127 n1129 n1130 n1131 n1132 a1134 l1134 c1134 n1136 n1137 n1138 n1140 n1141 n1142 n1143 n1144 n1145 n1146 n1147 n1148 n1149 p1128 p1133 p1135 p1139 p1150 _ _ R.sub)) t1058 n1059 n1060 ((n1086 : Int) != n1075) a1062 l1062 c1062 n1064 n1065 n1066 n1067 a1069 l1069 c1069 n1071 n1072 n1073 n1075 n1076 n1077 n1078 n1079 n1080 n1081 n1082 n1083 n1084 n1086 n1087 n1088 n1089 n1090 n1091 n1092 n1093 n1094 n1095 p1063 p1068 p1070 p1074 p1085 p1096 _ _ R.sub)))
  (spec_l16Kill_M_j2_D (by exact fun t1151 n1152 n1153 a1154 l1154 c1154 n1156 n1157 n1158 n1159 a1161 l1161 c1161 n1163 n1164 n1165 n1167 n1168 n1169 n1170 n1171 n1172 n1173 n1174 n1175 n1176 p1155 p1160 p1162 p1166 p1177 g m R =>
  (Hkn t1151 n1152 n1153 a1154 l1154 c1154 n1156 n1157 n1158 n1159 a1161 l1161 c1161 n1163 n1164 n1165 n1167 n1168 n1169 n1170 n1171 n1172 n1173 n1174 n1175 n1176 p1155 p1160 p1162 p1166 p1177 _ _ R.sub))
  (by exact fun t1178 n1179 n1180 a1181 l1181 c1181 n1183 n1184 n1185 n1186 a1188 l1188 c1188 n1190 n1191 n1192 n1194 n1195 n1196 n1197 n1198 n1199 n1200 n1201 n1202 n1203 p1182 p1187 p1189 p1193 p1204 g m R =>
  (Hkx1 t1178 n1179 n1180 a1181 l1181 c1181 n1183 n1184 n1185 n1186 a1188 l1188 c1188 n1190 n1191 n1192 n1194 n1195 n1196 n1197 n1198 n1199 n1200 n1201 n1202 n1203 p1182 p1187 p1189 p1193 p1204 _ _ R.sub)) t1058 n1059 n1060 false a1062 l1062 c1062 n1064 n1065 n1066 n1067 a1069 l1069 c1069 n1071 n1072 n1073 n1075 n1076 n1077 n1078 n1079 n1080 n1081 n1082 n1083 n1084 n1086 n1087 n1088 n1089 n1090 n1091 n1092 n1093 n1094 n1095 p1063 p1068 p1070 p1074 p1085 p1096 _ _ R.sub)))
  (spec_l16Kill_M_j2_D (by exact fun t1205 n1206 n1207 a1208 l1208 c1208 n1210 n1211 n1212 n1213 a1215 l1215 c1215 n1217 n1218 n1219 n1221 n1222 n1223 n1224 n1225 n1226 n1227 n1228 n1229 n1230 p1209 p1214 p1216 p1220 p1231 g m R =>
  (Hkn t1205 n1206 n1207 a1208 l1208 c1208 n1210 n1211 n1212 n1213 a1215 l1215 c1215 n1217 n1218 n1219 n1221 n1222 n1223 n1224 n1225 n1226 n1227 n1228 n1229 n1230 p1209 p1214 p1216 p1220 p1231 _ _ R.sub))
  (by exact fun t1232 n1233 n1234 a1235 l1235 c1235 n1237 n1238 n1239 n1240 a1242 l1242 c1242 n1244 n1245 n1246 n1248 n1249 n1250 n1251 n1252 n1253 n1254 n1255 n1256 n1257 p1236 p1241 p1243 p1247 p1258 g m R =>
  (Hkx1 t1232 n1233 n1234 a1235 l1235 c1235 n1237 n1238 n1239 n1240 a1242 l1242 c1242 n1244 n1245 n1246 n1248 n1249 n1250 n1251 n1252 n1253 n1254 n1255 n1256 n1257 p1236 p1241 p1243 p1247 p1258 _ _ R.sub)) t1058 n1059 n1060 t1061 a1062 l1062 c1062 n1064 n1065 n1066 n1067 a1069 l1069 c1069 n1071 n1072 n1073 n1075 n1076 n1077 n1078 n1079 n1080 n1081 n1082 n1083 n1084 n1086 n1087 n1088 n1089 n1090 n1091 n1092 n1093 n1094 n1095 p1063 p1068 p1070 p1074 p1085 p1096 _ _ R.sub)))

theorem spec_l16Kill_M_l0_D {g0 m0 : H} {kx0_1 : Nat → Nat → Nat → Bool → Int → H → Prop} {kx0_2 : Bool → Int → Option Addr → Nat → Nat → H → Prop} (Hkx0 : ∀ (t200001 : Bool) (n200002 : Int) (a200003 : Option Addr) (l200003 : Nat) (c200003 : Nat) (a200005 : Option Addr) (l200005 : Nat) (c200005 : Nat) (n200007 : Int) (n200008 : Int) (n200009 : Int) (p200004 : Nat) (p200006 : Nat) (p200010 : Nat) (g m : H), Md g0 m0 g m [lo p200004 [.slice a200003 l200003 c200003], lo p200006 [.slice a200005 l200005 c200005], lo p200010 [.int .i64 n200007, .int .i64 n200008, .int .i64 n200009]] → kx0_2 t200001 n200002 a200003 l200003 c200003 m → kx0_1 p200004 p200006 p200010 t200001 n200002 g) : ∀ (N : Nat) (t1019 : Bool) (n1020 : Int) (n1021 : Int) (a1022 : Option Addr) (l1022 : Nat) (c1022 : Nat) (n1024 : Int) (n1025 : Int) (n1026 : Int) (n1027 : Int) (a1029 : Option Addr) (l1029 : Nat) (c1029 : Nat) (n1031 : Int) (n1032 : Int) (n1033 : Int) (n1035 : Int) (n1036 : Int) (n1037 : Int) (n1038 : Int) (n1039 : Int) (n1040 : Int) (n1041 : Int) (n1042 : Int) (n1043 : Int) (n1044 : Int) (p1023 : Nat) (p1028 : Nat) (p1030 : Nat) (p1034 : Nat) (p1045 : Nat) (g m : H), Md g0 m0 g m [lo p1023 [.slice a1022 l1022 c1022], lo p1028 [.int .i64 n1024, .int .i64 n1025, .int .i64 n1026, .int .i64 n1027], lo p1030 [.slice a1029 l1029 c1029], lo p1034 [.int .i64 n1031, .int .i64 n1032, .int .i64 n1033], lo p1045 [.int .i64 n1035, .int .i64 n1036, .int .i64 n1037, .int .i64 n1038, .int .i64 n1039, .int .i64 n1040, .int .i64 n1041, .int .i64 n1042, .int .i64 n1043, .int .i64 n1044]] → spec_l16Kill_M_l0 kx0_2 N t1019 n1020 n1021 a1022 l1022 c1022 n1026 n1027 n1035 n1037 n1038 m → spec_l16Kill_l0 kx0_1 N p1023 p1028 p1030 p1034 p1045 t1019 n1020 n1021 g := by
  intro N
  induction N with
  | zero => intro t1019 n1020 n1021 a1022 l1022 c1022 n1024 n1025 n1026 n1027 a1029 l1029 c1029 n1031 n1032 n1033 n1035 n1036 n1037 n1038 n1039 n1040 n1041 n1042 n1043 n1044 p1023 p1028 p1030 p1034 p1045 g m R h0; exact h0.elim
  | succ N ih =>
    intro t1019 n1020 n1021 a1022 l1022 c1022 n1024 n1025 n1026 n1027 a1029 l1029 c1029 n1031 n1032 n1033 n1035 n1036 n1037 n1038 n1039 n1040 n1041 n1042 n1043 n1044 p1023 p1028 p1030 p1034 p1045 g m R
    rw [spec_l16Kill_M_l0, spec_l16Kill_l0]
    exact (p_ldL R rfl (d_if (p_ldL R rfl (d_req (d_nz fun b1046 o1047 =>
  (d_row_I10 R fun n1048 n1049 n1050 n1051 n1052 n1053 n1054 n1055 n1056 n1057 =>
  (p_new R fun p1058 g R =>
  (p_stRow R (cs' := [.int .i64 n1048, .int .i64 n1049, .int .i64 n1050, .int .i64 n1051, .int .i64 n1052, .int .i64 n1053, .int .i64 n1054, .int .i64 n1055, .int .i64 n1056, .int .i64 n1057]) ⟨rfl, rfl, rfl⟩ fun g R =>
  (p_ldI R rfl (p_ldI R rfl (p_ldI R rfl (d_if (p_ldI R rfl (p_ldI R rfl (spec_l16Kill_M_j1_D (by exact fun t1059 n1060 n1061 a1062 l1062 c1062 n1064 n1065 n1066 n1067 a1069 l1069 c1069 n1071 n1072 n1073 n1075 n1076 n1077 n1078 n1079 n1080 n1081 n1082 n1083 n1084 p1063 p1068 p1070 p1074 p1085 g m R =>
  (ih t1059 n1060 (IntKind.i64.wrap (n1061 + 1)) a1062 l1062 c1062 n1064 n1065 n1066 n1067 a1069 l1069 c1069 n1071 n1072 n1073 n1075 n1076 n1077 n1078 n1079 n1080 n1081 n1082 n1083 n1084 p1063 p1068 p1070 p1074 p1085 _ _ R.sub))
  (by exact fun t1086 n1087 n1088 a1089 l1089 c1089 n1091 n1092 n1093 n1094 a1096 l1096 c1096 n1098 n1099 n1100 n1102 n1103 n1104 n1105 n1106 n1107 n1108 n1109 n1110 n1111 p1090 p1095 p1097 p1101 p1112 g m R =>
  (ih t1086 n1087 (IntKind.i64.wrap (n1088 + 1)) a1089 l1089 c1089 n1091 n1092 n1093 n1094 a1096 l1096 c1096 n1098 n1099 n1100 n1102 n1103 n1104 n1105 n1106 n1107 n1108 n1109 n1110 n1111 p1090 p1095 p1097 p1101 p1112 _ _ R.sub)) t1019 n1020 n1021 ((n1050 : Int) == n1037) a1022 l1022 c1022 n1024 n1025 n1026 n1027 a1029 l1029 c1029 n1031 n1032 n1033 n1035 n1036 n1037 n1038 n1039 n1040 n1041 n1042 n1043 n1044 n1048 n1049 n1050 n1051 n1052 n1053 n1054 n1055 n1056 n1057 p1023 p1028 p1030 p1034 p1045 p1058 _ _ R.sub)))
  (spec_l16Kill_M_j1_D (by exact fun t1113 n1114 n1115 a1116 l1116 c1116 n1118 n1119 n1120 n1121 a1123 l1123 c1123 n1125 n1126 n1127 n1129 n1130 n1131 n1132 n1133 n1134 n1135 n1136 n1137 n1138 p1117 p1122 p1124 p1128 p1139 g m R =>
  (ih t1113 n1114 (IntKind.i64.wrap (n1115 + 1)) a1116 l1116 c1116 n1118 n1119 n1120 n1121 a1123 l1123 c1123 n1125 n1126 n1127 n1129 n1130 n1131 n1132 n1133 n1134 n1135 n1136 n1137 n1138 p1117 p1122 p1124 p1128 p1139 _ _ R.sub))
  (by exact fun t1140 n1141 n1142 a1143 l1143 c1143 n1145 n1146 n1147 n1148 a1150 l1150 c1150 n1152 n1153 n1154 n1156 n1157 n1158 n1159 n1160 n1161 n1162 n1163 n1164 n1165 p1144 p1149 p1151 p1155 p1166 g m R =>
  (ih t1140 n1141 (IntKind.i64.wrap (n1142 + 1)) a1143 l1143 c1143 n1145 n1146 n1147 n1148 a1150 l1150 c1150 n1152 n1153 n1154 n1156 n1157 n1158 n1159 n1160 n1161 n1162 n1163 n1164 n1165 p1144 p1149 p1151 p1155 p1166 _ _ R.sub)) t1019 n1020 n1021 ((n1048 : Int) == n1026) a1022 l1022 c1022 n1024 n1025 n1026 n1027 a1029 l1029 c1029 n1031 n1032 n1033 n1035 n1036 n1037 n1038 n1039 n1040 n1041 n1042 n1043 n1044 n1048 n1049 n1050 n1051 n1052 n1053 n1054 n1055 n1056 n1057 p1023 p1028 p1030 p1034 p1045 p1058 _ _ R.sub)))))))))))
  (Hkx0 t1019 n1020 a1022 l1022 c1022 a1029 l1029 c1029 n1031 n1032 n1033 p1023 p1030 p1034 _ _ R.sub)))

theorem spec_l16Kill_M_D {g0 m0 : H} {kr_1 : Nat → Nat → H → Prop} {kr_2 : Option Addr → Nat → Nat → Int → Int → Int → H → Prop} (Hkr : ∀ (a200001 : Option Addr) (l200001 : Nat) (c200001 : Nat) (n200003 : Int) (n200004 : Int) (n200005 : Int) (p200002 : Nat) (p200006 : Nat) (g m : H), Md g0 m0 g m [lo p200002 [.slice a200001 l200001 c200001], lo p200006 [.int .i64 n200003, .int .i64 n200004, .int .i64 n200005]] → kr_2 a200001 l200001 c200001 n200003 n200004 n200005 m → kr_1 p200002 p200006 g) : ∀ (a1001 : Option Addr) (l1001 : Nat) (c1001 : Nat) (n1002 : Int) (n1003 : Int) (n1004 : Int) (n1005 : Int) (n1006 : Int) (g m : H), Md g0 m0 g m [] → spec_l16Kill_M kr_2 a1001 l1001 c1001 n1002 n1003 n1004 n1005 n1006 m → spec_l16Kill kr_1 a1001 l1001 c1001 n1002 n1003 n1004 n1005 n1006 g := by
  intro a1001 l1001 c1001 n1002 n1003 n1004 n1005 n1006 g m R
  rw [spec_l16Kill_M, spec_l16Kill]
  exact (p_new R fun p1007 g R =>
  (p_new R fun p1008 g R =>
  (p_new R fun p1009 g R =>
  (p_new R fun p1010 g R =>
  (p_ldI R rfl (d_if (p_row_L R rfl (p_stRow R (cs' := [.slice a1001 l1001 c1001]) ⟨rfl, rfl, rfl⟩ fun g R =>
  (p_stRow R (cs' := [.int .i64 1, .int .i64 0, .int .i64 0]) ⟨rfl, rfl, rfl⟩ fun g R =>
  (Hkr a1001 l1001 c1001 1 0 0 p1009 p1010 _ _ R.sub))))
  (p_ldI R rfl (d_if (p_row_L R rfl (p_stRow R (cs' := [.slice a1001 l1001 c1001]) ⟨rfl, rfl, rfl⟩ fun g R =>
  (p_stRow R (cs' := [.int .i64 1, .int .i64 0, .int .i64 0]) ⟨rfl, rfl, rfl⟩ fun g R =>
  (Hkr a1001 l1001 c1001 1 0 0 p1009 p1010 _ _ R.sub))))
  (p_ldL R rfl (d_req (d_nz fun b1011 o1012 =>
  (d_row_I10 R fun n1013 n1014 n1015 n1016 n1017 n1018 n1019 n1020 n1021 n1022 =>
  (p_new R fun p1023 g R =>
  (p_stRow R (cs' := [.int .i64 n1013, .int .i64 n1014, .int .i64 n1015, .int .i64 n1016, .int .i64 n1017, .int .i64 n1018, .int .i64 n1019, .int .i64 n1020, .int .i64 n1021, .int .i64 n1022]) ⟨rfl, rfl, rfl⟩ fun g R =>
  (d_ex fun N => spec_l16Kill_M_l0_D (by exact fun t1024 n1025 a1026 l1026 c1026 a1028 l1028 c1028 n1030 n1031 n1032 p1027 p1029 p1033 g m R =>
  (d_if (p_row_L R rfl (p_stRow R (cs' := [.slice a1026 l1026 c1026]) ⟨rfl, rfl, rfl⟩ fun g R =>
  (p_stRow R (cs' := [.int .i64 3, .int .i64 0, .int .i64 0]) ⟨rfl, rfl, rfl⟩ fun g R =>
  (Hkr a1026 l1026 c1026 3 0 0 p1029 p1033 _ _ R.sub))))
  (d_if (p_row_L R rfl (p_stRow R (cs' := [.slice a1026 l1026 c1026]) ⟨rfl, rfl, rfl⟩ fun g R =>
  (p_stRow R (cs' := [.int .i64 2, .int .i64 0, .int .i64 0]) ⟨rfl, rfl, rfl⟩ fun g R =>
  (Hkr a1026 l1026 c1026 2 0 0 p1029 p1033 _ _ R.sub))))
  (p_row_L R rfl (p_stRow R (cs' := [.slice a1026 l1026 c1026]) ⟨rfl, rfl, rfl⟩ fun g R =>
  (p_stRow R (cs' := [.int .i64 0, .int .i64 n1025, .int .i64 0]) ⟨rfl, rfl, rfl⟩ fun g R =>
  (Hkr a1026 l1026 c1026 0 n1025 0 p1029 p1033 _ _ R.sub))))))) N false 0 0 a1001 l1001 c1001 n1003 n1004 n1005 n1006 none 0 0 0 0 0 n1013 n1014 n1015 n1016 n1017 n1018 n1019 n1020 n1021 n1022 p1007 p1008 p1009 p1010 p1023 _ _ R.sub)))))))))))))))

theorem spec_l16Kill_M_call {a1 : Option Addr} {l1 : Nat} {c1 : Nat} {n2 : Int} {n3 : Int} {n4 : Int} {n5 : Int} {n6 : Int} {h : H} {K : Value → H → Prop} (hs : spec_l16Kill_M (fun a300001 l300001 c300001 n300003 n300004 n300005 h =>
  K (.tuple ⟨[.agg ⟨[.slice a300001 l300001 c300001]⟩, .agg ⟨[.int .i64 n300003, .int .i64 n300004, .int .i64 n300005]⟩]⟩) h) a1 l1 c1 n2 n3 n4 n5 n6 h) : callD Try.prog 51 ⟨[.agg ⟨[.slice a1 l1 c1]⟩, .int .i64 n2, .agg ⟨[.int .i64 n3, .int .i64 n4, .int .i64 n5, .int .i64 n6]⟩]⟩ h K :=
  fun g r => spec_l16Kill_call (spec_l16Kill_M_D (by exact fun a300001 l300001 c300001 n300003 n300004 n300005 p300002 p300006 g m R =>
(p_row_L R rfl (p_row_I3 R rfl rfl rfl (fun h => ⟨m, R.af, h⟩)))) _ _ _ _ _ _ _ _ _ _ (Md.start r) hs)

noncomputable def code52 : Code := codeOf Try.f52
theorem body52 : Try.f52.body = some code52 := by kernel_rfl
def spec_l16Less (kr : Int → H → Prop) (n1 : Int) (sig_2 : Int) (h : H) : Prop :=
  callK Try.prog 40 ⟨[.int .i64 n1, .int .i64 sig_2]⟩ h fun v3 h =>
  asB v3 fun t4 =>
  ifB t4
  (callK Try.prog 60 ⟨[.int .i64 sig_2]⟩ h fun v5 h =>
  asI .i64 v5 fun n6 =>
  kr (IntKind.i64.wrap (n1 - n6)) h)
  (kr n1 h)

theorem spec_l16Less_eq (K : Cont) (n1 : Int) (sig_2 : Int) (h : H) :
  spec_l16Less (curV [(4, .int .i64)] (K .ret)) n1 sig_2 h = evC Try.prog 13 [] [] code52 [(0, .int .i64 n1), (1, .int .i64 sig_2)] h (outsOf none [] (some [(4, .int .i64)]) K).K := by kernel_rfl

def spec_l16Less_F : PT := mkF [(0, .int .i64), (1, .int .i64)] fun K => spec_l16Less (curV [(4, .int .i64)] (K .ret))

theorem spec_l16Less_V : Valid Try.prog 13 code52 spec_l16Less_F :=
  piece mixed rows_nil (fun K => by intro n1 sig_2 h hd; exact (spec_l16Less_eq K n1 sig_2 h) ▸ hd)

theorem spec_l16Less_c0 (n1 : Int) (sig_2 : Int) (h : H) (K : Value → H → Prop) :
  spec_l16Less (fun n100001 h =>
  K (.int .i64 n100001) h) n1 sig_2 h = callF Try.prog Try.f52.results.toList spec_l16Less_F [.int .i64 n1, .int .i64 sig_2] h K := by kernel_rfl

theorem spec_l16Less_call {n1 : Int} {sig_2 : Int} {h : H} {K : Value → H → Prop} (hs : spec_l16Less (fun n100001 h =>
  K (.int .i64 n100001) h) n1 sig_2 h) : callK Try.prog 52 ⟨[.int .i64 n1, .int .i64 sig_2]⟩ h K :=
  func_calls Try.func52 body52 spec_l16Less_V (Nat.le_of_ble_eq_true (by kernel_rfl)) (spec_l16Less_c0 n1 sig_2 h K ▸ hs)

def spec_l16Less_M (kr : Int → H → Prop) (n1 : Int) (sig_2 : Int) (h : H) : Prop :=
  callD Try.prog 40 ⟨[.int .i64 n1, .int .i64 sig_2]⟩ h fun v3 h =>
  asB v3 fun t4 =>
  ifB t4
  (callD Try.prog 60 ⟨[.int .i64 sig_2]⟩ h fun v5 h =>
  asI .i64 v5 fun n6 =>
  kr (IntKind.i64.wrap (n1 - n6)) h)
  (kr n1 h)

theorem spec_l16Less_M_D {g0 m0 : H} {kr_1 : Int → H → Prop} {kr_2 : Int → H → Prop} (Hkr : ∀ (n200001 : Int) (g m : H), Md g0 m0 g m [] → kr_2 n200001 m → kr_1 n200001 g) : ∀ (n1001 : Int) (sig_1002 : Int) (g m : H), Md g0 m0 g m [] → spec_l16Less_M kr_2 n1001 sig_1002 m → spec_l16Less kr_1 n1001 sig_1002 g := by
  intro n1001 sig_1002 g m R
  rw [spec_l16Less_M, spec_l16Less]
  exact (d_call R fun v1003 g m R =>
  (d_asB fun t1004 =>
  (d_if (d_call R fun v1005 g m R =>
  (d_asI fun n1006 =>
  (Hkr (IntKind.i64.wrap (n1001 - n1006)) _ _ R.sub)))
  (Hkr n1001 _ _ R.sub))))

theorem spec_l16Less_M_call {n1 : Int} {sig_2 : Int} {h : H} {K : Value → H → Prop} (hs : spec_l16Less_M (fun n300001 h =>
  K (.int .i64 n300001) h) n1 sig_2 h) : callD Try.prog 52 ⟨[.int .i64 n1, .int .i64 sig_2]⟩ h K :=
  fun g r => spec_l16Less_call (spec_l16Less_M_D (by exact fun n300001 g m R =>
(fun h => ⟨m, R.af, h⟩)) _ _ _ _ (Md.start r) hs)

noncomputable def code53 : Code := codeOf Try.f53
theorem body53 : Try.f53.body = some code53 := by kernel_rfl
def spec_l16Action_j1 (kr : Nat → Nat → H → Prop) (n51 : Int) (b52 : Nat) (b53 : Nat) (b54 : Nat) (b55 : Nat) (h : H) : Prop :=
  ldL h b52 0 fun a56 l56 c56 =>
  ldRow h b55 0 0 [.int .i64, .int .i64, .int .i64, .int .i64, .int .i64, .int .i64, .int .i64, .int .i64, .int .i64, .int .i64] fun n57 n58 n59 n60 n61 n62 n63 n64 n65 n66 =>
  req (0 ≤ (n51 : Int) ∧ (n51 : Int) < (l56 : Nat))
  (nz a56 fun b67 o68 =>
  stRow h b67 (o68 + n51.toNat * 10) 0 [.int .i64 n57, .int .i64 n58, .int .i64 n59, .int .i64 n60, .int .i64 n61, .int .i64 n62, .int .i64 n63, .int .i64 n64, .int .i64 n65, .int .i64 n66] fun h =>
  ldRow h b52 0 0 [.slice] fun a69 l69 c69 =>
  stRow h b53 0 0 [.slice a69 l69 c69] fun h =>
  stRow h b54 0 0 [.int .i64 0, .int .i64 0, .int .i64 0] fun h =>
  kr b53 b54 h)

def spec_l16Action_j0 (kr : Nat → Nat → H → Prop) (n45 : Int) (b46 : Nat) (b47 : Nat) (b48 : Nat) (b49 : Nat) (b50 : Nat) (h : H) : Prop :=
  ldI .i64 h b47 3 fun n51 =>
  ifB ((n51 : Int) == 2)
  (ldI .i64 h b50 9 fun n52 =>
  ldI .i64 h b47 2 fun n53 =>
  callK Try.prog 63 ⟨[.int .i64 n52, .int .i64 n53]⟩ h fun v54 h =>
  asI .i64 v54 fun n55 =>
  st h b50 9 (.int .i64 n55) fun h =>
  spec_l16Action_j1 kr n45 b46 b48 b49 b50 h)
  (spec_l16Action_j1 kr n45 b46 b48 b49 b50 h)

def spec_l16Action (kr : Nat → Nat → H → Prop) (a1 : Option Addr) (l1 : Nat) (c1 : Nat) (n2 : Int) (n3 : Int) (n4 : Int) (n5 : Int) (n6 : Int) (h : H) : Prop :=
  new h [.slice a1 l1 c1] 27 fun b7 h =>
  new h [.int .i64 n3, .int .i64 n4, .int .i64 n5, .int .i64 n6] 30 fun b8 h =>
  new h [.slice none 0 0] 27 fun b9 h =>
  new h [.int .i64 0, .int .i64 0, .int .i64 0] 34 fun b10 h =>
  ldI .i64 h b8 2 fun n11 =>
  ifB (decide ((n11 : Int) < 1))
  (ldRow h b7 0 0 [.slice] fun a12 l12 c12 =>
  stRow h b9 0 0 [.slice a12 l12 c12] fun h =>
  stRow h b10 0 0 [.int .i64 1, .int .i64 0, .int .i64 0] fun h =>
  kr b9 b10 h)
  (ldI .i64 h b8 2 fun n13 =>
  ifB (decide ((n13 : Int) > 15))
  (ldRow h b7 0 0 [.slice] fun a14 l14 c14 =>
  stRow h b9 0 0 [.slice a14 l14 c14] fun h =>
  stRow h b10 0 0 [.int .i64 1, .int .i64 0, .int .i64 0] fun h =>
  kr b9 b10 h)
  (ldI .i64 h b8 3 fun n15 =>
  ifB (decide ((n15 : Int) < 0))
  (ldRow h b7 0 0 [.slice] fun a16 l16 c16 =>
  stRow h b9 0 0 [.slice a16 l16 c16] fun h =>
  stRow h b10 0 0 [.int .i64 1, .int .i64 0, .int .i64 0] fun h =>
  kr b9 b10 h)
  (ldI .i64 h b8 3 fun n17 =>
  ifB (decide ((n17 : Int) > 2))
  (ldRow h b7 0 0 [.slice] fun a18 l18 c18 =>
  stRow h b9 0 0 [.slice a18 l18 c18] fun h =>
  stRow h b10 0 0 [.int .i64 1, .int .i64 0, .int .i64 0] fun h =>
  kr b9 b10 h)
  (ldI .i64 h b8 2 fun n19 =>
  ifB ((n19 : Int) == 9)
  (ldRow h b7 0 0 [.slice] fun a20 l20 c20 =>
  stRow h b9 0 0 [.slice a20 l20 c20] fun h =>
  stRow h b10 0 0 [.int .i64 1, .int .i64 0, .int .i64 0] fun h =>
  kr b9 b10 h)
  (ldI .i64 h b8 2 fun n21 =>
  ifB ((n21 : Int) == 12)
  (ldRow h b7 0 0 [.slice] fun a22 l22 c22 =>
  stRow h b9 0 0 [.slice a22 l22 c22] fun h =>
  stRow h b10 0 0 [.int .i64 1, .int .i64 0, .int .i64 0] fun h =>
  kr b9 b10 h)
  (ldL h b7 0 fun a23 l23 c23 =>
  req (0 ≤ (n2 : Int) ∧ (n2 : Int) < (l23 : Nat))
  (nz a23 fun b24 o25 =>
  ldRow h b24 (o25 + n2.toNat * 10) 0 [.int .i64, .int .i64, .int .i64, .int .i64, .int .i64, .int .i64, .int .i64, .int .i64, .int .i64, .int .i64] fun n26 n27 n28 n29 n30 n31 n32 n33 n34 n35 =>
  new h [.int .i64 0, .int .i64 0, .int .i64 0, .int .i64 0, .int .i64 0, .int .i64 0, .int .i64 0, .int .i64 0, .int .i64 0, .int .i64 0] 38 fun b36 h =>
  stRow h b36 0 0 [.int .i64 n26, .int .i64 n27, .int .i64 n28, .int .i64 n29, .int .i64 n30, .int .i64 n31, .int .i64 n32, .int .i64 n33, .int .i64 n34, .int .i64 n35] fun h =>
  ldI .i64 h b36 8 fun n37 =>
  ldI .i64 h b8 2 fun n38 =>
  callK Try.prog 52 ⟨[.int .i64 n37, .int .i64 n38]⟩ h fun v39 h =>
  asI .i64 v39 fun n40 =>
  st h b36 8 (.int .i64 n40) fun h =>
  ldI .i64 h b36 9 fun n41 =>
  ldI .i64 h b8 2 fun n42 =>
  callK Try.prog 52 ⟨[.int .i64 n41, .int .i64 n42]⟩ h fun v43 h =>
  asI .i64 v43 fun n44 =>
  st h b36 9 (.int .i64 n44) fun h =>
  ldI .i64 h b8 3 fun n45 =>
  ifB ((n45 : Int) == 1)
  (ldI .i64 h b36 8 fun n46 =>
  ldI .i64 h b8 2 fun n47 =>
  callK Try.prog 63 ⟨[.int .i64 n46, .int .i64 n47]⟩ h fun v48 h =>
  asI .i64 v48 fun n49 =>
  st h b36 8 (.int .i64 n49) fun h =>
  ldI .i64 h b36 6 fun n50 =>
  ldI .i64 h b8 2 fun n51 =>
  callK Try.prog 52 ⟨[.int .i64 n50, .int .i64 n51]⟩ h fun v52 h =>
  asI .i64 v52 fun n53 =>
  st h b36 6 (.int .i64 n53) fun h =>
  spec_l16Action_j0 kr n2 b7 b8 b9 b10 b36 h)
  (spec_l16Action_j0 kr n2 b7 b8 b9 b10 b36 h))))))))

theorem spec_l16Action_j1_eq (K : Cont) (n51 : Int) (b52 : Nat) (b53 : Nat) (b54 : Nat) (b55 : Nat) (h : H) :
  spec_l16Action_j1 (curV [(6, .blk), (7, .blk)] (K .ret)) n51 b52 b53 b54 b55 h = evC Try.prog 87 [] [] (sub code53 [true, true, true, true, true, true, true]) [(1, .int .i64 n51), (3, .pointer (some ⟨b52, 0, none⟩)), (6, .pointer (some ⟨b53, 0, none⟩)), (7, .pointer (some ⟨b54, 0, none⟩)), (8, .pointer (some ⟨b55, 0, none⟩))] h (outsOf none [] (some [(6, .blk), (7, .blk)]) K).K := by kernel_rfl

def spec_l16Action_j1_F : PT := mkF [(1, .int .i64), (3, .blk), (6, .blk), (7, .blk), (8, .blk)] fun K => spec_l16Action_j1 (curV [(6, .blk), (7, .blk)] (K .ret))

theorem spec_l16Action_j1_V : Valid Try.prog 87 (sub code53 [true, true, true, true, true, true, true]) spec_l16Action_j1_F :=
  piece mixed rows_nil (fun K => by intro n51 b52 b53 b54 b55 h hd; exact (spec_l16Action_j1_eq K n51 b52 b53 b54 b55 h) ▸ hd)

theorem spec_l16Action_j0_eq (K : Cont) (n45 : Int) (b46 : Nat) (b47 : Nat) (b48 : Nat) (b49 : Nat) (b50 : Nat) (h : H) :
  spec_l16Action_j0 (curV [(6, .blk), (7, .blk)] (K .ret)) n45 b46 b47 b48 b49 b50 h = evC Try.prog 87 [([true], spec_l16Action_j1_F)] [] (sub code53 [true, true, true, true, true, true]) [(1, .int .i64 n45), (3, .pointer (some ⟨b46, 0, none⟩)), (5, .pointer (some ⟨b47, 0, none⟩)), (6, .pointer (some ⟨b48, 0, none⟩)), (7, .pointer (some ⟨b49, 0, none⟩)), (8, .pointer (some ⟨b50, 0, none⟩))] h (outsOf none [] (some [(6, .blk), (7, .blk)]) K).K := by kernel_rfl

def spec_l16Action_j0_F : PT := mkF [(1, .int .i64), (3, .blk), (5, .blk), (6, .blk), (7, .blk), (8, .blk)] fun K => spec_l16Action_j0 (curV [(6, .blk), (7, .blk)] (K .ret))

theorem spec_l16Action_j0_V : Valid Try.prog 87 (sub code53 [true, true, true, true, true, true]) spec_l16Action_j0_F :=
  piece mixed (rows_cons (q' := [true]) (valid_at (p := [true, true, true, true, true, true]) spec_l16Action_j1_V rfl) rfl rows_nil) (fun K => by intro n45 b46 b47 b48 b49 b50 h hd; exact (spec_l16Action_j0_eq K n45 b46 b47 b48 b49 b50 h) ▸ hd)

theorem spec_l16Action_eq (K : Cont) (a1 : Option Addr) (l1 : Nat) (c1 : Nat) (n2 : Int) (n3 : Int) (n4 : Int) (n5 : Int) (n6 : Int) (h : H) :
  spec_l16Action (curV [(6, .blk), (7, .blk)] (K .ret)) a1 l1 c1 n2 n3 n4 n5 n6 h = evC Try.prog 87 [([true, true, true, true, true, true], spec_l16Action_j0_F)] [] code53 [(0, .agg ⟨[.slice a1 l1 c1]⟩), (1, .int .i64 n2), (2, .agg ⟨[.int .i64 n3, .int .i64 n4, .int .i64 n5, .int .i64 n6]⟩)] h (outsOf none [] (some [(6, .blk), (7, .blk)]) K).K := by kernel_rfl

def spec_l16Action_F : PT := mkF [(0, .agg [.slice]), (1, .int .i64), (2, .agg [.int .i64, .int .i64, .int .i64, .int .i64])] fun K => spec_l16Action (curV [(6, .blk), (7, .blk)] (K .ret))

theorem spec_l16Action_V : Valid Try.prog 87 code53 spec_l16Action_F :=
  piece mixed (rows_cons (q' := [true, true, true, true, true, true]) spec_l16Action_j0_V rfl rows_nil) (fun K => by intro a1 l1 c1 n2 n3 n4 n5 n6 h hd; exact (spec_l16Action_eq K a1 l1 c1 n2 n3 n4 n5 n6 h) ▸ hd)

theorem spec_l16Action_c0 (a1 : Option Addr) (l1 : Nat) (c1 : Nat) (n2 : Int) (n3 : Int) (n4 : Int) (n5 : Int) (n6 : Int) (h : H) (K : Value → H → Prop) :
  spec_l16Action (fun b100001 b100002 h =>
  ldRow h b100001 0 0 [.slice] fun a100003 l100003 c100003 =>
  ldRow h b100002 0 0 [.int .i64, .int .i64, .int .i64] fun n100004 n100005 n100006 =>
  K (.tuple ⟨[.agg ⟨[.slice a100003 l100003 c100003]⟩, .agg ⟨[.int .i64 n100004, .int .i64 n100005, .int .i64 n100006]⟩]⟩) h) a1 l1 c1 n2 n3 n4 n5 n6 h = callF Try.prog Try.f53.results.toList spec_l16Action_F [.agg ⟨[.slice a1 l1 c1]⟩, .int .i64 n2, .agg ⟨[.int .i64 n3, .int .i64 n4, .int .i64 n5, .int .i64 n6]⟩] h K := by kernel_rfl

theorem spec_l16Action_call {a1 : Option Addr} {l1 : Nat} {c1 : Nat} {n2 : Int} {n3 : Int} {n4 : Int} {n5 : Int} {n6 : Int} {h : H} {K : Value → H → Prop} (hs : spec_l16Action (fun b100001 b100002 h =>
  ldRow h b100001 0 0 [.slice] fun a100003 l100003 c100003 =>
  ldRow h b100002 0 0 [.int .i64, .int .i64, .int .i64] fun n100004 n100005 n100006 =>
  K (.tuple ⟨[.agg ⟨[.slice a100003 l100003 c100003]⟩, .agg ⟨[.int .i64 n100004, .int .i64 n100005, .int .i64 n100006]⟩]⟩) h) a1 l1 c1 n2 n3 n4 n5 n6 h) : callK Try.prog 53 ⟨[.agg ⟨[.slice a1 l1 c1]⟩, .int .i64 n2, .agg ⟨[.int .i64 n3, .int .i64 n4, .int .i64 n5, .int .i64 n6]⟩]⟩ h K :=
  func_calls Try.func53 body53 spec_l16Action_V (Nat.le_of_ble_eq_true (by kernel_rfl)) (spec_l16Action_c0 a1 l1 c1 n2 n3 n4 n5 n6 h K ▸ hs)

def spec_l16Action_M_j1 (kr : Option Addr → Nat → Nat → Int → Int → Int → H → Prop) (n48 : Int) (a49 : Option Addr) (l49 : Nat) (c49 : Nat) (n57 : Int) (n58 : Int) (n59 : Int) (n60 : Int) (n61 : Int) (n62 : Int) (n63 : Int) (n64 : Int) (n65 : Int) (n66 : Int) (h : H) : Prop :=
  req (0 ≤ (n48 : Int) ∧ (n48 : Int) < (l49 : Nat))
  (nz a49 fun b68 o69 =>
  stRow h b68 (o69 + n48.toNat * 10) 0 [.int .i64 n57, .int .i64 n58, .int .i64 n59, .int .i64 n60, .int .i64 n61, .int .i64 n62, .int .i64 n63, .int .i64 n64, .int .i64 n65, .int .i64 n66] fun h =>
  kr a49 l49 c49 0 0 0 h)

def spec_l16Action_M_j0 (kr : Option Addr → Nat → Nat → Int → Int → Int → H → Prop) (n23 : Int) (a24 : Option Addr) (l24 : Nat) (c24 : Nat) (n28 : Int) (n29 : Int) (n37 : Int) (n38 : Int) (n39 : Int) (n40 : Int) (n41 : Int) (n42 : Int) (n43 : Int) (n44 : Int) (n45 : Int) (n46 : Int) (h : H) : Prop :=
  ifB ((n29 : Int) == 2)
  (callD Try.prog 63 ⟨[.int .i64 n46, .int .i64 n28]⟩ h fun v48 h =>
  asI .i64 v48 fun n49 =>
  spec_l16Action_M_j1 kr n23 a24 l24 c24 n37 n38 n39 n40 n41 n42 n43 n44 n45 n49 h)
  (spec_l16Action_M_j1 kr n23 a24 l24 c24 n37 n38 n39 n40 n41 n42 n43 n44 n45 n46 h)

def spec_l16Action_M (kr : Option Addr → Nat → Nat → Int → Int → Int → H → Prop) (a1 : Option Addr) (l1 : Nat) (c1 : Nat) (n2 : Int) (n3 : Int) (n4 : Int) (n5 : Int) (n6 : Int) (h : H) : Prop :=
  ifB (decide ((n5 : Int) < 1))
  (kr a1 l1 c1 1 0 0 h)
  (ifB (decide ((n5 : Int) > 15))
  (kr a1 l1 c1 1 0 0 h)
  (ifB (decide ((n6 : Int) < 0))
  (kr a1 l1 c1 1 0 0 h)
  (ifB (decide ((n6 : Int) > 2))
  (kr a1 l1 c1 1 0 0 h)
  (ifB ((n5 : Int) == 9)
  (kr a1 l1 c1 1 0 0 h)
  (ifB ((n5 : Int) == 12)
  (kr a1 l1 c1 1 0 0 h)
  (req (0 ≤ (n2 : Int) ∧ (n2 : Int) < (l1 : Nat))
  (nz a1 fun b7 o8 =>
  ldRow h b7 (o8 + n2.toNat * 10) 0 [.int .i64, .int .i64, .int .i64, .int .i64, .int .i64, .int .i64, .int .i64, .int .i64, .int .i64, .int .i64] fun n9 n10 n11 n12 n13 n14 n15 n16 n17 n18 =>
  callD Try.prog 52 ⟨[.int .i64 n17, .int .i64 n5]⟩ h fun v19 h =>
  asI .i64 v19 fun n20 =>
  callD Try.prog 52 ⟨[.int .i64 n18, .int .i64 n5]⟩ h fun v21 h =>
  asI .i64 v21 fun n22 =>
  ifB ((n6 : Int) == 1)
  (callD Try.prog 63 ⟨[.int .i64 n20, .int .i64 n5]⟩ h fun v23 h =>
  asI .i64 v23 fun n24 =>
  callD Try.prog 52 ⟨[.int .i64 n15, .int .i64 n5]⟩ h fun v25 h =>
  asI .i64 v25 fun n26 =>
  spec_l16Action_M_j0 kr n2 a1 l1 c1 n5 n6 n9 n10 n11 n12 n13 n14 n26 n16 n24 n22 h)
  (spec_l16Action_M_j0 kr n2 a1 l1 c1 n5 n6 n9 n10 n11 n12 n13 n14 n15 n16 n20 n22 h))))))))

theorem spec_l16Action_M_j1_D {g0 m0 : H} {kr_1 : Nat → Nat → H → Prop} {kr_2 : Option Addr → Nat → Nat → Int → Int → Int → H → Prop} (Hkr : ∀ (a200001 : Option Addr) (l200001 : Nat) (c200001 : Nat) (n200003 : Int) (n200004 : Int) (n200005 : Int) (p200002 : Nat) (p200006 : Nat) (g m : H), Md g0 m0 g m [lo p200002 [.slice a200001 l200001 c200001], lo p200006 [.int .i64 n200003, .int .i64 n200004, .int .i64 n200005]] → kr_2 a200001 l200001 c200001 n200003 n200004 n200005 m → kr_1 p200002 p200006 g) : ∀ (n1048 : Int) (a1049 : Option Addr) (l1049 : Nat) (c1049 : Nat) (a1051 : Option Addr) (l1051 : Nat) (c1051 : Nat) (n1053 : Int) (n1054 : Int) (n1055 : Int) (n1057 : Int) (n1058 : Int) (n1059 : Int) (n1060 : Int) (n1061 : Int) (n1062 : Int) (n1063 : Int) (n1064 : Int) (n1065 : Int) (n1066 : Int) (p1050 : Nat) (p1052 : Nat) (p1056 : Nat) (p1067 : Nat) (g m : H), Md g0 m0 g m [lo p1050 [.slice a1049 l1049 c1049], lo p1052 [.slice a1051 l1051 c1051], lo p1056 [.int .i64 n1053, .int .i64 n1054, .int .i64 n1055], lo p1067 [.int .i64 n1057, .int .i64 n1058, .int .i64 n1059, .int .i64 n1060, .int .i64 n1061, .int .i64 n1062, .int .i64 n1063, .int .i64 n1064, .int .i64 n1065, .int .i64 n1066]] → spec_l16Action_M_j1 kr_2 n1048 a1049 l1049 c1049 n1057 n1058 n1059 n1060 n1061 n1062 n1063 n1064 n1065 n1066 m → spec_l16Action_j1 kr_1 n1048 p1050 p1052 p1056 p1067 g := by
  intro n1048 a1049 l1049 c1049 a1051 l1051 c1051 n1053 n1054 n1055 n1057 n1058 n1059 n1060 n1061 n1062 n1063 n1064 n1065 n1066 p1050 p1052 p1056 p1067 g m R
  rw [spec_l16Action_M_j1, spec_l16Action_j1]
  exact (p_ldL R rfl (p_row_I10 R rfl rfl rfl rfl rfl rfl rfl rfl rfl rfl (d_req (d_nz fun b1068 o1069 =>
  (d_stRow R fun g m R =>
  (p_row_L R rfl (p_stRow R (cs' := [.slice a1049 l1049 c1049]) ⟨rfl, rfl, rfl⟩ fun g R =>
  (p_stRow R (cs' := [.int .i64 0, .int .i64 0, .int .i64 0]) ⟨rfl, rfl, rfl⟩ fun g R =>
  (Hkr a1049 l1049 c1049 0 0 0 p1052 p1056 _ _ R.sub)))))))))

theorem spec_l16Action_M_j0_D {g0 m0 : H} {kr_1 : Nat → Nat → H → Prop} {kr_2 : Option Addr → Nat → Nat → Int → Int → Int → H → Prop} (Hkr : ∀ (a200001 : Option Addr) (l200001 : Nat) (c200001 : Nat) (n200003 : Int) (n200004 : Int) (n200005 : Int) (p200002 : Nat) (p200006 : Nat) (g m : H), Md g0 m0 g m [lo p200002 [.slice a200001 l200001 c200001], lo p200006 [.int .i64 n200003, .int .i64 n200004, .int .i64 n200005]] → kr_2 a200001 l200001 c200001 n200003 n200004 n200005 m → kr_1 p200002 p200006 g) : ∀ (n1023 : Int) (a1024 : Option Addr) (l1024 : Nat) (c1024 : Nat) (n1026 : Int) (n1027 : Int) (n1028 : Int) (n1029 : Int) (a1031 : Option Addr) (l1031 : Nat) (c1031 : Nat) (n1033 : Int) (n1034 : Int) (n1035 : Int) (n1037 : Int) (n1038 : Int) (n1039 : Int) (n1040 : Int) (n1041 : Int) (n1042 : Int) (n1043 : Int) (n1044 : Int) (n1045 : Int) (n1046 : Int) (p1025 : Nat) (p1030 : Nat) (p1032 : Nat) (p1036 : Nat) (p1047 : Nat) (g m : H), Md g0 m0 g m [lo p1025 [.slice a1024 l1024 c1024], lo p1030 [.int .i64 n1026, .int .i64 n1027, .int .i64 n1028, .int .i64 n1029], lo p1032 [.slice a1031 l1031 c1031], lo p1036 [.int .i64 n1033, .int .i64 n1034, .int .i64 n1035], lo p1047 [.int .i64 n1037, .int .i64 n1038, .int .i64 n1039, .int .i64 n1040, .int .i64 n1041, .int .i64 n1042, .int .i64 n1043, .int .i64 n1044, .int .i64 n1045, .int .i64 n1046]] → spec_l16Action_M_j0 kr_2 n1023 a1024 l1024 c1024 n1028 n1029 n1037 n1038 n1039 n1040 n1041 n1042 n1043 n1044 n1045 n1046 m → spec_l16Action_j0 kr_1 n1023 p1025 p1030 p1032 p1036 p1047 g := by
  intro n1023 a1024 l1024 c1024 n1026 n1027 n1028 n1029 a1031 l1031 c1031 n1033 n1034 n1035 n1037 n1038 n1039 n1040 n1041 n1042 n1043 n1044 n1045 n1046 p1025 p1030 p1032 p1036 p1047 g m R
  rw [spec_l16Action_M_j0, spec_l16Action_j0]
  exact (p_ldI R rfl (d_if (p_ldI R rfl (p_ldI R rfl (d_call R fun v1048 g m R =>
  (d_asI fun n1049 =>
  (p_st R (cs' := [.int .i64 n1037, .int .i64 n1038, .int .i64 n1039, .int .i64 n1040, .int .i64 n1041, .int .i64 n1042, .int .i64 n1043, .int .i64 n1044, .int .i64 n1045, .int .i64 n1049]) ⟨rfl, rfl⟩ fun g R =>
  (spec_l16Action_M_j1_D (by exact fun a1050 l1050 c1050 n1052 n1053 n1054 p1051 p1055 g m R =>
  (Hkr a1050 l1050 c1050 n1052 n1053 n1054 p1051 p1055 _ _ R.sub)) n1023 a1024 l1024 c1024 a1031 l1031 c1031 n1033 n1034 n1035 n1037 n1038 n1039 n1040 n1041 n1042 n1043 n1044 n1045 n1049 p1025 p1032 p1036 p1047 _ _ R.sub))))))
  (spec_l16Action_M_j1_D (by exact fun a1056 l1056 c1056 n1058 n1059 n1060 p1057 p1061 g m R =>
  (Hkr a1056 l1056 c1056 n1058 n1059 n1060 p1057 p1061 _ _ R.sub)) n1023 a1024 l1024 c1024 a1031 l1031 c1031 n1033 n1034 n1035 n1037 n1038 n1039 n1040 n1041 n1042 n1043 n1044 n1045 n1046 p1025 p1032 p1036 p1047 _ _ R.sub)))

theorem spec_l16Action_M_D {g0 m0 : H} {kr_1 : Nat → Nat → H → Prop} {kr_2 : Option Addr → Nat → Nat → Int → Int → Int → H → Prop} (Hkr : ∀ (a200001 : Option Addr) (l200001 : Nat) (c200001 : Nat) (n200003 : Int) (n200004 : Int) (n200005 : Int) (p200002 : Nat) (p200006 : Nat) (g m : H), Md g0 m0 g m [lo p200002 [.slice a200001 l200001 c200001], lo p200006 [.int .i64 n200003, .int .i64 n200004, .int .i64 n200005]] → kr_2 a200001 l200001 c200001 n200003 n200004 n200005 m → kr_1 p200002 p200006 g) : ∀ (a1001 : Option Addr) (l1001 : Nat) (c1001 : Nat) (n1002 : Int) (n1003 : Int) (n1004 : Int) (n1005 : Int) (n1006 : Int) (g m : H), Md g0 m0 g m [] → spec_l16Action_M kr_2 a1001 l1001 c1001 n1002 n1003 n1004 n1005 n1006 m → spec_l16Action kr_1 a1001 l1001 c1001 n1002 n1003 n1004 n1005 n1006 g := by
  intro a1001 l1001 c1001 n1002 n1003 n1004 n1005 n1006 g m R
  rw [spec_l16Action_M, spec_l16Action]
  exact (p_new R fun p1007 g R =>
  (p_new R fun p1008 g R =>
  (p_new R fun p1009 g R =>
  (p_new R fun p1010 g R =>
  (p_ldI R rfl (d_if (p_row_L R rfl (p_stRow R (cs' := [.slice a1001 l1001 c1001]) ⟨rfl, rfl, rfl⟩ fun g R =>
  (p_stRow R (cs' := [.int .i64 1, .int .i64 0, .int .i64 0]) ⟨rfl, rfl, rfl⟩ fun g R =>
  (Hkr a1001 l1001 c1001 1 0 0 p1009 p1010 _ _ R.sub))))
  (p_ldI R rfl (d_if (p_row_L R rfl (p_stRow R (cs' := [.slice a1001 l1001 c1001]) ⟨rfl, rfl, rfl⟩ fun g R =>
  (p_stRow R (cs' := [.int .i64 1, .int .i64 0, .int .i64 0]) ⟨rfl, rfl, rfl⟩ fun g R =>
  (Hkr a1001 l1001 c1001 1 0 0 p1009 p1010 _ _ R.sub))))
  (p_ldI R rfl (d_if (p_row_L R rfl (p_stRow R (cs' := [.slice a1001 l1001 c1001]) ⟨rfl, rfl, rfl⟩ fun g R =>
  (p_stRow R (cs' := [.int .i64 1, .int .i64 0, .int .i64 0]) ⟨rfl, rfl, rfl⟩ fun g R =>
  (Hkr a1001 l1001 c1001 1 0 0 p1009 p1010 _ _ R.sub))))
  (p_ldI R rfl (d_if (p_row_L R rfl (p_stRow R (cs' := [.slice a1001 l1001 c1001]) ⟨rfl, rfl, rfl⟩ fun g R =>
  (p_stRow R (cs' := [.int .i64 1, .int .i64 0, .int .i64 0]) ⟨rfl, rfl, rfl⟩ fun g R =>
  (Hkr a1001 l1001 c1001 1 0 0 p1009 p1010 _ _ R.sub))))
  (p_ldI R rfl (d_if (p_row_L R rfl (p_stRow R (cs' := [.slice a1001 l1001 c1001]) ⟨rfl, rfl, rfl⟩ fun g R =>
  (p_stRow R (cs' := [.int .i64 1, .int .i64 0, .int .i64 0]) ⟨rfl, rfl, rfl⟩ fun g R =>
  (Hkr a1001 l1001 c1001 1 0 0 p1009 p1010 _ _ R.sub))))
  (p_ldI R rfl (d_if (p_row_L R rfl (p_stRow R (cs' := [.slice a1001 l1001 c1001]) ⟨rfl, rfl, rfl⟩ fun g R =>
  (p_stRow R (cs' := [.int .i64 1, .int .i64 0, .int .i64 0]) ⟨rfl, rfl, rfl⟩ fun g R =>
  (Hkr a1001 l1001 c1001 1 0 0 p1009 p1010 _ _ R.sub))))
  (p_ldL R rfl (d_req (d_nz fun b1011 o1012 =>
  (d_row_I10 R fun n1013 n1014 n1015 n1016 n1017 n1018 n1019 n1020 n1021 n1022 =>
  (p_new R fun p1023 g R =>
  (p_stRow R (cs' := [.int .i64 n1013, .int .i64 n1014, .int .i64 n1015, .int .i64 n1016, .int .i64 n1017, .int .i64 n1018, .int .i64 n1019, .int .i64 n1020, .int .i64 n1021, .int .i64 n1022]) ⟨rfl, rfl, rfl⟩ fun g R =>
  (p_ldI R rfl (p_ldI R rfl (d_call R fun v1024 g m R =>
  (d_asI fun n1025 =>
  (p_st R (cs' := [.int .i64 n1013, .int .i64 n1014, .int .i64 n1015, .int .i64 n1016, .int .i64 n1017, .int .i64 n1018, .int .i64 n1019, .int .i64 n1020, .int .i64 n1025, .int .i64 n1022]) ⟨rfl, rfl⟩ fun g R =>
  (p_ldI R rfl (p_ldI R rfl (d_call R fun v1026 g m R =>
  (d_asI fun n1027 =>
  (p_st R (cs' := [.int .i64 n1013, .int .i64 n1014, .int .i64 n1015, .int .i64 n1016, .int .i64 n1017, .int .i64 n1018, .int .i64 n1019, .int .i64 n1020, .int .i64 n1025, .int .i64 n1027]) ⟨rfl, rfl⟩ fun g R =>
  (p_ldI R rfl (d_if (p_ldI R rfl (p_ldI R rfl (d_call R fun v1028 g m R =>
  (d_asI fun n1029 =>
  (p_st R (cs' := [.int .i64 n1013, .int .i64 n1014, .int .i64 n1015, .int .i64 n1016, .int .i64 n1017, .int .i64 n1018, .int .i64 n1019, .int .i64 n1020, .int .i64 n1029, .int .i64 n1027]) ⟨rfl, rfl⟩ fun g R =>
  (p_ldI R rfl (p_ldI R rfl (d_call R fun v1030 g m R =>
  (d_asI fun n1031 =>
  (p_st R (cs' := [.int .i64 n1013, .int .i64 n1014, .int .i64 n1015, .int .i64 n1016, .int .i64 n1017, .int .i64 n1018, .int .i64 n1031, .int .i64 n1020, .int .i64 n1029, .int .i64 n1027]) ⟨rfl, rfl⟩ fun g R =>
  (spec_l16Action_M_j0_D (by exact fun a1032 l1032 c1032 n1034 n1035 n1036 p1033 p1037 g m R =>
  (Hkr a1032 l1032 c1032 n1034 n1035 n1036 p1033 p1037 _ _ R.sub)) n1002 a1001 l1001 c1001 n1003 n1004 n1005 n1006 none 0 0 0 0 0 n1013 n1014 n1015 n1016 n1017 n1018 n1031 n1020 n1029 n1027 p1007 p1008 p1009 p1010 p1023 _ _ R.sub)))))))))))
  (spec_l16Action_M_j0_D (by exact fun a1038 l1038 c1038 n1040 n1041 n1042 p1039 p1043 g m R =>
  (Hkr a1038 l1038 c1038 n1040 n1041 n1042 p1039 p1043 _ _ R.sub)) n1002 a1001 l1001 c1001 n1003 n1004 n1005 n1006 none 0 0 0 0 0 n1013 n1014 n1015 n1016 n1017 n1018 n1019 n1020 n1025 n1027 p1007 p1008 p1009 p1010 p1023 _ _ R.sub)))))))))))))))))))))))))))))))))))

theorem spec_l16Action_M_call {a1 : Option Addr} {l1 : Nat} {c1 : Nat} {n2 : Int} {n3 : Int} {n4 : Int} {n5 : Int} {n6 : Int} {h : H} {K : Value → H → Prop} (hs : spec_l16Action_M (fun a300001 l300001 c300001 n300003 n300004 n300005 h =>
  K (.tuple ⟨[.agg ⟨[.slice a300001 l300001 c300001]⟩, .agg ⟨[.int .i64 n300003, .int .i64 n300004, .int .i64 n300005]⟩]⟩) h) a1 l1 c1 n2 n3 n4 n5 n6 h) : callD Try.prog 53 ⟨[.agg ⟨[.slice a1 l1 c1]⟩, .int .i64 n2, .agg ⟨[.int .i64 n3, .int .i64 n4, .int .i64 n5, .int .i64 n6]⟩]⟩ h K :=
  fun g r => spec_l16Action_call (spec_l16Action_M_D (by exact fun a300001 l300001 c300001 n300003 n300004 n300005 p300002 p300006 g m R =>
(p_row_L R rfl (p_row_I3 R rfl rfl rfl (fun h => ⟨m, R.af, h⟩)))) _ _ _ _ _ _ _ _ _ _ (Md.start r) hs)

end Go.Proofs.Ytgcjjapmdbgofaa
