import Derived.Test.YtgcjjapmdbgofaaProg
import Derived.Test.YtgcjjapmdbgofaaG1
set_option linter.unusedVariables false
set_option maxRecDepth 100000
namespace Go.Proofs.Ytgcjjapmdbgofaa
open Go.Eng

noncomputable def code30 : Code := codeOf Try.f30
theorem body30 : Try.f30.body = some code30 := by kernel_rfl
def laws_toProcS_l0 (kx0 : Option Addr → Nat → Nat → H → Prop) : Nat → Option Addr → Nat → Nat → Option Addr → Nat → Nat → Int → H → Prop
 | 0, _, _, _, _, _, _, _, _ => False
 | N + 1, a_3, a_l3, a_c3, out_4, out_l4, out_c4, i_5, h =>
  ifB (decide ((i_5 : Int) < (a_l3 : Nat)))
  (req (0 ≤ (i_5 : Int) ∧ (i_5 : Int) < (a_l3 : Nat))
  (nz a_3 fun b6 o7 =>
  ldRow h b6 (o7 + i_5.toNat * 10) 0 [.int .i64, .int .i64, .int .i64, .int .i64, .int .i64, .int .i64, .int .i64, .int .i64, .int .i64, .int .i64] fun n8 n9 n10 n11 n12 n13 n14 n15 n16 n17 =>
  callK Try.prog 56 ⟨[.agg ⟨[.int .i64 n8, .int .i64 n9, .int .i64 n10, .int .i64 n11, .int .i64 n12, .int .i64 n13, .int .i64 n14, .int .i64 n15, .int .i64 n16, .int .i64 n17]⟩]⟩ h fun v18 h =>
  elF False (.agg [.int .i64, .int .i64, .int .i64, .int .i64, .int .i64, .int .i64, .int .i64, .int .i64, .int .i64, .int .i64]) v18 fun n19 n20 n21 n22 n23 n24 n25 n26 n27 n28 =>
  req (0 ≤ (i_5 : Int) ∧ (i_5 : Int) < (out_l4 : Nat))
  (nz out_4 fun b29 o30 =>
  stRow h b29 (o30 + i_5.toNat * 10) 0 [.int .i64 n19, .int .i64 n20, .int .i64 n21, .int .i64 n22, .int .i64 n23, .int .i64 n24, .int .i64 n25, .int .i64 n26, .int .i64 n27, .int .i64 n28] fun h =>
  laws_toProcS_l0 kx0 N a_3 a_l3 a_c3 out_4 out_l4 out_c4 (IntKind.i64.wrap (i_5 + 1)) h)))
  (kx0 out_4 out_l4 out_c4 h)

def laws_toProcS (kr : Option Addr → Nat → Nat → H → Prop) (a_1 : Option Addr) (a_l1 : Nat) (a_c1 : Nat) (h : H) : Prop :=
  req (0 ≤ ((a_l1 : Nat) : Int) ∧ ((a_l1 : Nat) : Int) ≤ ((a_l1 : Nat) : Int) ∧ ((a_l1 : Nat) : Int) * (80 : Nat) ≤ 140737488355328 ∧ ((a_l1 : Nat) : Int) ≤ 4611686018427387904)
  (new h (zerosL (.agg ⟨[.int .i64 0, .int .i64 0, .int .i64 0, .int .i64 0, .int .i64 0, .int .i64 0, .int .i64 0, .int .i64 0, .int .i64 0, .int .i64 0]⟩ : Value) ((a_l1 : Nat) : Int).toNat) 38 fun b2 h =>
  ∃ M4, laws_toProcS_l0 (fun out_3 out_l3 out_c3 h =>
  kr out_3 out_l3 out_c3 h) M4 a_1 a_l1 a_c1 (some ⟨b2, 0, none⟩) (((a_l1 : Nat) : Int).toNat) (((a_l1 : Nat) : Int).toNat) 0 h)

theorem laws_toProcS_l0_eq (K : Cont) (N : Nat) (a_3 : Option Addr) (a_l3 : Nat) (a_c3 : Nat) (out_4 : Option Addr) (out_l4 : Nat) (out_c4 : Nat) (i_5 : Int) (h : H) :
  laws_toProcS_l0 (curV [(3, .slice)] (K (.exit 0))) (N + 1) a_3 a_l3 a_c3 out_4 out_l4 out_c4 i_5 h = evC Try.prog 23 [] [] (sub code30 [true, true, false, true, false, false]) [(0, .slice a_3 a_l3 a_c3), (3, .slice out_4 out_l4 out_c4), (4, .int .i64 i_5)] h ((outsOf none [(0, [(3, .slice)])] none K).loop [(0, .slice), (3, .slice), (4, .int .i64)] (laws_toProcS_l0 (curV [(3, .slice)] (K (.exit 0))) N)).K := by kernel_rfl

def laws_toProcS_l0_F : PT := mkL [(0, .slice), (3, .slice), (4, .int .i64)] fun K N => laws_toProcS_l0 (curV [(3, .slice)] (K (.exit 0))) N

theorem laws_toProcS_l0_V : Valid Try.prog 23 (sub code30 [true, true, false, true, false]) laws_toProcS_l0_F :=
  loop_at (code30) [true, true, false, true, false] (loop_piece (c := (sub code30 [true, true, false, true, false, false])) mixed rows_nil (fun K => by intro a_3 a_l3 a_c3 out_4 out_l4 out_c4 i_5 h hd; exact hd) (fun K N => by intro a_3 a_l3 a_c3 out_4 out_l4 out_c4 i_5 h hd; exact (laws_toProcS_l0_eq K N a_3 a_l3 a_c3 out_4 out_l4 out_c4 i_5 h) ▸ hd))

theorem laws_toProcS_eq (K : Cont) (a_1 : Option Addr) (a_l1 : Nat) (a_c1 : Nat) (h : H) :
  laws_toProcS (curV [(2, .slice)] (K .ret)) a_1 a_l1 a_c1 h = evC Try.prog 23 [([false, false, true, false, true, true], laws_toProcS_l0_F)] [] code30 [(0, .slice a_1 a_l1 a_c1)] h (outsOf none [] (some [(2, .slice)]) K).K := by kernel_rfl

def laws_toProcS_F : PT := mkF [(0, .slice)] fun K => laws_toProcS (curV [(2, .slice)] (K .ret))

theorem laws_toProcS_V : Valid Try.prog 23 code30 laws_toProcS_F :=
  piece mixed (rows_cons (q' := [true, true, false, true, false]) laws_toProcS_l0_V rfl rows_nil) (fun K => by intro a_1 a_l1 a_c1 h hd; exact (laws_toProcS_eq K a_1 a_l1 a_c1 h) ▸ hd)

theorem laws_toProcS_c0 (a_1 : Option Addr) (a_l1 : Nat) (a_c1 : Nat) (h : H) (K : Value → H → Prop) :
  laws_toProcS (fun a100001 l100001 c100001 h =>
  K (.slice a100001 l100001 c100001) h) a_1 a_l1 a_c1 h = callF Try.prog Try.f30.results.toList laws_toProcS_F [.slice a_1 a_l1 a_c1] h K := by kernel_rfl

theorem laws_toProcS_call {a_1 : Option Addr} {a_l1 : Nat} {a_c1 : Nat} {h : H} {K : Value → H → Prop} (hs : laws_toProcS (fun a100001 l100001 c100001 h =>
  K (.slice a100001 l100001 c100001) h) a_1 a_l1 a_c1 h) : callK Try.prog 30 ⟨[.slice a_1 a_l1 a_c1]⟩ h K :=
  func_calls Try.func30 body30 laws_toProcS_V (Nat.le_of_ble_eq_true (by kernel_rfl)) (laws_toProcS_c0 a_1 a_l1 a_c1 h K ▸ hs)

theorem o_el_AI10E {n0 : Int} {n1 : Int} {n2 : Int} {n3 : Int} {n4 : Int} {n5 : Int} {n6 : Int} {n7 : Int} {n8 : Int} {n9 : Int} {K : Int → Int → Int → Int → Int → Int → Int → Int → Int → Int → Prop} (g : K n0 n1 n2 n3 n4 n5 n6 n7 n8 n9) : elF False (.agg [.int .i64, .int .i64, .int .i64, .int .i64, .int .i64, .int .i64, .int .i64, .int .i64, .int .i64, .int .i64]) (.agg ⟨[.int .i64 n0, .int .i64 n1, .int .i64 n2, .int .i64 n3, .int .i64 n4, .int .i64 n5, .int .i64 n6, .int .i64 n7, .int .i64 n8, .int .i64 n9]⟩) K := Eq.mpr (by kernel_rfl) g
theorem d_el_AI10E {v : Value} {K2 K1 : Int → Int → Int → Int → Int → Int → Int → Int → Int → Int → Prop} (f : ∀ n0 n1 n2 n3 n4 n5 n6 n7 n8 n9, K2 n0 n1 n2 n3 n4 n5 n6 n7 n8 n9 → K1 n0 n1 n2 n3 n4 n5 n6 n7 n8 n9) : elF False (.agg [.int .i64, .int .i64, .int .i64, .int .i64, .int .i64, .int .i64, .int .i64, .int .i64, .int .i64, .int .i64]) v K2 → elF False (.agg [.int .i64, .int .i64, .int .i64, .int .i64, .int .i64, .int .i64, .int .i64, .int .i64, .int .i64, .int .i64]) v K1 :=
  d_el (s := .agg [.int .i64, .int .i64, .int .i64, .int .i64, .int .i64, .int .i64, .int .i64, .int .i64, .int .i64, .int .i64]) (Eq.mpr (by kernel_rfl) f)
def laws_toProcS_M_l0 (kx0 : Option Addr → Nat → Nat → H → Prop) : Nat → Option Addr → Nat → Option Addr → Nat → Nat → Int → H → Prop
 | 0, _, _, _, _, _, _, _ => False
 | N + 1, a_3, a_l3, out_4, out_l4, out_c4, i_5, h =>
  ifB (decide ((i_5 : Int) < (a_l3 : Nat)))
  (req (0 ≤ (i_5 : Int) ∧ (i_5 : Int) < (a_l3 : Nat))
  (nz a_3 fun b6 o7 =>
  ldRow h b6 (o7 + i_5.toNat * 10) 0 [.int .i64, .int .i64, .int .i64, .int .i64, .int .i64, .int .i64, .int .i64, .int .i64, .int .i64, .int .i64] fun n8 n9 n10 n11 n12 n13 n14 n15 n16 n17 =>
  callD Try.prog 56 ⟨[.agg ⟨[.int .i64 n8, .int .i64 n9, .int .i64 n10, .int .i64 n11, .int .i64 n12, .int .i64 n13, .int .i64 n14, .int .i64 n15, .int .i64 n16, .int .i64 n17]⟩]⟩ h fun v18 h =>
  elF False (.agg [.int .i64, .int .i64, .int .i64, .int .i64, .int .i64, .int .i64, .int .i64, .int .i64, .int .i64, .int .i64]) v18 fun n19 n20 n21 n22 n23 n24 n25 n26 n27 n28 =>
  req (0 ≤ (i_5 : Int) ∧ (i_5 : Int) < (out_l4 : Nat))
  (nz out_4 fun b29 o30 =>
  stRow h b29 (o30 + i_5.toNat * 10) 0 [.int .i64 n19, .int .i64 n20, .int .i64 n21, .int .i64 n22, .int .i64 n23, .int .i64 n24, .int .i64 n25, .int .i64 n26, .int .i64 n27, .int .i64 n28] fun h =>
  laws_toProcS_M_l0 kx0 N a_3 a_l3 out_4 out_l4 out_c4 (IntKind.i64.wrap (i_5 + 1)) h)))
  (kx0 out_4 out_l4 out_c4 h)

def laws_toProcS_M (kr : Option Addr → Nat → Nat → H → Prop) (a_1 : Option Addr) (a_l1 : Nat) (a_c1 : Nat) (h : H) : Prop :=
  req (0 ≤ ((a_l1 : Nat) : Int) ∧ ((a_l1 : Nat) : Int) ≤ ((a_l1 : Nat) : Int) ∧ ((a_l1 : Nat) : Int) * (80 : Nat) ≤ 140737488355328 ∧ ((a_l1 : Nat) : Int) ≤ 4611686018427387904)
  (newD h (zerosL (.agg ⟨[.int .i64 0, .int .i64 0, .int .i64 0, .int .i64 0, .int .i64 0, .int .i64 0, .int .i64 0, .int .i64 0, .int .i64 0, .int .i64 0]⟩ : Value) ((a_l1 : Nat) : Int).toNat) 38 fun b2 h =>
  ∃ M4, laws_toProcS_M_l0 (fun out_3 out_l3 out_c3 h =>
  kr out_3 out_l3 out_c3 h) M4 a_1 a_l1 (some ⟨b2, 0, none⟩) (((a_l1 : Nat) : Int).toNat) (((a_l1 : Nat) : Int).toNat) 0 h)

theorem laws_toProcS_M_l0_D {g0 m0 : H} {kx0_1 : Option Addr → Nat → Nat → H → Prop} {kx0_2 : Option Addr → Nat → Nat → H → Prop} (Hkx0 : ∀ (out_200001 : Option Addr) (out_l200001 : Nat) (out_c200001 : Nat) (g m : H), Md g0 m0 g m [] → kx0_2 out_200001 out_l200001 out_c200001 m → kx0_1 out_200001 out_l200001 out_c200001 g) : ∀ (N : Nat) (a_1003 : Option Addr) (a_l1003 : Nat) (a_c1003 : Nat) (out_1004 : Option Addr) (out_l1004 : Nat) (out_c1004 : Nat) (i_1005 : Int) (g m : H), Md g0 m0 g m [] → laws_toProcS_M_l0 kx0_2 N a_1003 a_l1003 out_1004 out_l1004 out_c1004 i_1005 m → laws_toProcS_l0 kx0_1 N a_1003 a_l1003 a_c1003 out_1004 out_l1004 out_c1004 i_1005 g := by
  intro N
  induction N with
  | zero => intro a_1003 a_l1003 a_c1003 out_1004 out_l1004 out_c1004 i_1005 g m R h0; exact h0.elim
  | succ N ih =>
    intro a_1003 a_l1003 a_c1003 out_1004 out_l1004 out_c1004 i_1005 g m R
    rw [laws_toProcS_M_l0, laws_toProcS_l0]
    exact (d_if (d_req (d_nz fun b1006 o1007 =>
  (d_row_I10 R fun n1008 n1009 n1010 n1011 n1012 n1013 n1014 n1015 n1016 n1017 =>
  (d_call R fun v1018 g m R =>
  (d_el_AI10E fun n1019 n1020 n1021 n1022 n1023 n1024 n1025 n1026 n1027 n1028 =>
  (d_req (d_nz fun b1029 o1030 =>
  (d_stRow R fun g m R =>
  (ih a_1003 a_l1003 a_c1003 out_1004 out_l1004 out_c1004 (IntKind.i64.wrap (i_1005 + 1)) _ _ R.sub)))))))))
  (Hkx0 out_1004 out_l1004 out_c1004 _ _ R.sub))

theorem laws_toProcS_M_D {g0 m0 : H} {kr_1 : Option Addr → Nat → Nat → H → Prop} {kr_2 : Option Addr → Nat → Nat → H → Prop} (Hkr : ∀ (a200001 : Option Addr) (l200001 : Nat) (c200001 : Nat) (g m : H), Md g0 m0 g m [] → kr_2 a200001 l200001 c200001 m → kr_1 a200001 l200001 c200001 g) : ∀ (a_1001 : Option Addr) (a_l1001 : Nat) (a_c1001 : Nat) (g m : H), Md g0 m0 g m [] → laws_toProcS_M kr_2 a_1001 a_l1001 a_c1001 m → laws_toProcS kr_1 a_1001 a_l1001 a_c1001 g := by
  intro a_1001 a_l1001 a_c1001 g m R
  rw [laws_toProcS_M, laws_toProcS]
  exact (d_req (d_new R fun b1002 g m R =>
  (d_ex fun N => laws_toProcS_M_l0_D (by exact fun out_1003 out_l1003 out_c1003 g m R =>
  (Hkr out_1003 out_l1003 out_c1003 _ _ R.sub)) N a_1001 a_l1001 a_c1001 (some ⟨b1002, 0, none⟩) (((a_l1001 : Nat) : Int).toNat) (((a_l1001 : Nat) : Int).toNat) 0 _ _ R.sub)))

theorem laws_toProcS_M_call {a_1 : Option Addr} {a_l1 : Nat} {a_c1 : Nat} {h : H} {K : Value → H → Prop} (hs : laws_toProcS_M (fun a300001 l300001 c300001 h =>
  K (.slice a300001 l300001 c300001) h) a_1 a_l1 a_c1 h) : callD Try.prog 30 ⟨[.slice a_1 a_l1 a_c1]⟩ h K :=
  fun g r => laws_toProcS_call (laws_toProcS_M_D (by exact fun a300001 l300001 c300001 g m R =>
(fun h => ⟨m, R.af, h⟩)) _ _ _ _ _ (Md.start r) hs)

noncomputable def code31 : Code := codeOf Try.f31
theorem body31 : Try.f31.body = some code31 := by kernel_rfl
def laws_eqProcS_l0 (kx0 : H → Prop) (kr : Bool → H → Prop) : Nat → Option Addr → Nat → Nat → Option Addr → Nat → Nat → Int → H → Prop
 | 0, _, _, _, _, _, _, _, _ => False
 | N + 1, a_3, a_l3, a_c3, b_4, b_l4, b_c4, i_5, h =>
  ifB (decide ((i_5 : Int) < (a_l3 : Nat)))
  (req (0 ≤ (i_5 : Int) ∧ (i_5 : Int) < (a_l3 : Nat))
  (nz a_3 fun b6 o7 =>
  ldRow h b6 (o7 + i_5.toNat * 10) 0 [.int .i64, .int .i64, .int .i64, .int .i64, .int .i64, .int .i64, .int .i64, .int .i64, .int .i64, .int .i64] fun n8 n9 n10 n11 n12 n13 n14 n15 n16 n17 =>
  req (0 ≤ (i_5 : Int) ∧ (i_5 : Int) < (b_l4 : Nat))
  (nz b_4 fun b18 o19 =>
  ldRow h b18 (o19 + i_5.toNat * 10) 0 [.int .i64, .int .i64, .int .i64, .int .i64, .int .i64, .int .i64, .int .i64, .int .i64, .int .i64, .int .i64] fun n20 n21 n22 n23 n24 n25 n26 n27 n28 n29 =>
  callK Try.prog 57 ⟨[.agg ⟨[.int .i64 n8, .int .i64 n9, .int .i64 n10, .int .i64 n11, .int .i64 n12, .int .i64 n13, .int .i64 n14, .int .i64 n15, .int .i64 n16, .int .i64 n17]⟩, .agg ⟨[.int .i64 n20, .int .i64 n21, .int .i64 n22, .int .i64 n23, .int .i64 n24, .int .i64 n25, .int .i64 n26, .int .i64 n27, .int .i64 n28, .int .i64 n29]⟩]⟩ h fun v30 h =>
  asB v30 fun t31 =>
  ifB (!t31)
  (kr false h)
  (laws_eqProcS_l0 kx0 kr N a_3 a_l3 a_c3 b_4 b_l4 b_c4 (IntKind.i64.wrap (i_5 + 1)) h))))
  (kx0 h)

def laws_eqProcS (kr : Bool → H → Prop) (a_1 : Option Addr) (a_l1 : Nat) (a_c1 : Nat) (b_2 : Option Addr) (b_l2 : Nat) (b_c2 : Nat) (h : H) : Prop :=
  ifB (((a_l1 : Nat) : Int) != (b_l2 : Nat))
  (kr false h)
  (∃ M3, laws_eqProcS_l0 (fun h =>
  kr true h) kr M3 a_1 a_l1 a_c1 b_2 b_l2 b_c2 0 h)

theorem laws_eqProcS_l0_eq (K : Cont) (N : Nat) (a_3 : Option Addr) (a_l3 : Nat) (a_c3 : Nat) (b_4 : Option Addr) (b_l4 : Nat) (b_c4 : Nat) (i_5 : Int) (h : H) :
  laws_eqProcS_l0 (curV [] (K (.exit 0))) (curV [(4, .bool)] (K .ret)) (N + 1) a_3 a_l3 a_c3 b_4 b_l4 b_c4 i_5 h = evC Try.prog 27 [] [] (sub code31 [true, true, false, true, false, false]) [(0, .slice a_3 a_l3 a_c3), (1, .slice b_4 b_l4 b_c4), (5, .int .i64 i_5)] h ((outsOf none [(0, [])] (some [(4, .bool)]) K).loop [(0, .slice), (1, .slice), (5, .int .i64)] (laws_eqProcS_l0 (curV [] (K (.exit 0))) (curV [(4, .bool)] (K .ret)) N)).K := by kernel_rfl

def laws_eqProcS_l0_F : PT := mkL [(0, .slice), (1, .slice), (5, .int .i64)] fun K N => laws_eqProcS_l0 (curV [] (K (.exit 0))) (curV [(4, .bool)] (K .ret)) N

theorem laws_eqProcS_l0_V : Valid Try.prog 27 (sub code31 [true, true, false, true, false]) laws_eqProcS_l0_F :=
  loop_at (code31) [true, true, false, true, false] (loop_piece (c := (sub code31 [true, true, false, true, false, false])) mixed rows_nil (fun K => by intro a_3 a_l3 a_c3 b_4 b_l4 b_c4 i_5 h hd; exact hd) (fun K N => by intro a_3 a_l3 a_c3 b_4 b_l4 b_c4 i_5 h hd; exact (laws_eqProcS_l0_eq K N a_3 a_l3 a_c3 b_4 b_l4 b_c4 i_5 h) ▸ hd))

theorem laws_eqProcS_eq (K : Cont) (a_1 : Option Addr) (a_l1 : Nat) (a_c1 : Nat) (b_2 : Option Addr) (b_l2 : Nat) (b_c2 : Nat) (h : H) :
  laws_eqProcS (curV [(4, .bool)] (K .ret)) a_1 a_l1 a_c1 b_2 b_l2 b_c2 h = evC Try.prog 27 [([false, false, true, false, true, true], laws_eqProcS_l0_F)] [] code31 [(0, .slice a_1 a_l1 a_c1), (1, .slice b_2 b_l2 b_c2)] h (outsOf none [] (some [(4, .bool)]) K).K := by kernel_rfl

def laws_eqProcS_F : PT := mkF [(0, .slice), (1, .slice)] fun K => laws_eqProcS (curV [(4, .bool)] (K .ret))

theorem laws_eqProcS_V : Valid Try.prog 27 code31 laws_eqProcS_F :=
  piece mixed (rows_cons (q' := [true, true, false, true, false]) laws_eqProcS_l0_V rfl rows_nil) (fun K => by intro a_1 a_l1 a_c1 b_2 b_l2 b_c2 h hd; exact (laws_eqProcS_eq K a_1 a_l1 a_c1 b_2 b_l2 b_c2 h) ▸ hd)

theorem laws_eqProcS_c0 (a_1 : Option Addr) (a_l1 : Nat) (a_c1 : Nat) (b_2 : Option Addr) (b_l2 : Nat) (b_c2 : Nat) (h : H) (K : Value → H → Prop) :
  laws_eqProcS (fun t100001 h =>
  K (.bool t100001) h) a_1 a_l1 a_c1 b_2 b_l2 b_c2 h = callF Try.prog Try.f31.results.toList laws_eqProcS_F [.slice a_1 a_l1 a_c1, .slice b_2 b_l2 b_c2] h K := by kernel_rfl

theorem laws_eqProcS_call {a_1 : Option Addr} {a_l1 : Nat} {a_c1 : Nat} {b_2 : Option Addr} {b_l2 : Nat} {b_c2 : Nat} {h : H} {K : Value → H → Prop} (hs : laws_eqProcS (fun t100001 h =>
  K (.bool t100001) h) a_1 a_l1 a_c1 b_2 b_l2 b_c2 h) : callK Try.prog 31 ⟨[.slice a_1 a_l1 a_c1, .slice b_2 b_l2 b_c2]⟩ h K :=
  func_calls Try.func31 body31 laws_eqProcS_V (Nat.le_of_ble_eq_true (by kernel_rfl)) (laws_eqProcS_c0 a_1 a_l1 a_c1 b_2 b_l2 b_c2 h K ▸ hs)

def laws_eqProcS_M_l0 (kx0 : H → Prop) (kr : Bool → H → Prop) : Nat → Option Addr → Nat → Option Addr → Nat → Int → H → Prop
 | 0, _, _, _, _, _, _ => False
 | N + 1, a_3, a_l3, b_4, b_l4, i_5, h =>
  ifB (decide ((i_5 : Int) < (a_l3 : Nat)))
  (req (0 ≤ (i_5 : Int) ∧ (i_5 : Int) < (a_l3 : Nat))
  (nz a_3 fun b6 o7 =>
  ldRow h b6 (o7 + i_5.toNat * 10) 0 [.int .i64, .int .i64, .int .i64, .int .i64, .int .i64, .int .i64, .int .i64, .int .i64, .int .i64, .int .i64] fun n8 n9 n10 n11 n12 n13 n14 n15 n16 n17 =>
  req (0 ≤ (i_5 : Int) ∧ (i_5 : Int) < (b_l4 : Nat))
  (nz b_4 fun b18 o19 =>
  ldRow h b18 (o19 + i_5.toNat * 10) 0 [.int .i64, .int .i64, .int .i64, .int .i64, .int .i64, .int .i64, .int .i64, .int .i64, .int .i64, .int .i64] fun n20 n21 n22 n23 n24 n25 n26 n27 n28 n29 =>
  callD Try.prog 57 ⟨[.agg ⟨[.int .i64 n8, .int .i64 n9, .int .i64 n10, .int .i64 n11, .int .i64 n12, .int .i64 n13, .int .i64 n14, .int .i64 n15, .int .i64 n16, .int .i64 n17]⟩, .agg ⟨[.int .i64 n20, .int .i64 n21, .int .i64 n22, .int .i64 n23, .int .i64 n24, .int .i64 n25, .int .i64 n26, .int .i64 n27, .int .i64 n28, .int .i64 n29]⟩]⟩ h fun v30 h =>
  asB v30 fun t31 =>
  ifB (!t31)
  (kr false h)
  (laws_eqProcS_M_l0 kx0 kr N a_3 a_l3 b_4 b_l4 (IntKind.i64.wrap (i_5 + 1)) h))))
  (kx0 h)

def laws_eqProcS_M (kr : Bool → H → Prop) (a_1 : Option Addr) (a_l1 : Nat) (a_c1 : Nat) (b_2 : Option Addr) (b_l2 : Nat) (b_c2 : Nat) (h : H) : Prop :=
  ifB (((a_l1 : Nat) : Int) != (b_l2 : Nat))
  (kr false h)
  (∃ M3, laws_eqProcS_M_l0 (fun h =>
  kr true h) kr M3 a_1 a_l1 b_2 b_l2 0 h)

theorem laws_eqProcS_M_l0_D {g0 m0 : H} {kx0_1 : H → Prop} {kx0_2 : H → Prop} (Hkx0 : ∀ (g m : H), Md g0 m0 g m [] → kx0_2 m → kx0_1 g)
  {kr_1 : Bool → H → Prop} {kr_2 : Bool → H → Prop} (Hkr : ∀ (t200001 : Bool) (g m : H), Md g0 m0 g m [] → kr_2 t200001 m → kr_1 t200001 g) : ∀ (N : Nat) (a_1003 : Option Addr) (a_l1003 : Nat) (a_c1003 : Nat) (b_1004 : Option Addr) (b_l1004 : Nat) (b_c1004 : Nat) (i_1005 : Int) (g m : H), Md g0 m0 g m [] → laws_eqProcS_M_l0 kx0_2 kr_2 N a_1003 a_l1003 b_1004 b_l1004 i_1005 m → laws_eqProcS_l0 kx0_1 kr_1 N a_1003 a_l1003 a_c1003 b_1004 b_l1004 b_c1004 i_1005 g := by
  intro N
  induction N with
  | zero => intro a_1003 a_l1003 a_c1003 b_1004 b_l1004 b_c1004 i_1005 g m R h0; exact h0.elim
  | succ N ih =>
    intro a_1003 a_l1003 a_c1003 b_1004 b_l1004 b_c1004 i_1005 g m R
    rw [laws_eqProcS_M_l0, laws_eqProcS_l0]
    exact (d_if (d_req (d_nz fun b1006 o1007 =>
  (d_row_I10 R fun n1008 n1009 n1010 n1011 n1012 n1013 n1014 n1015 n1016 n1017 =>
  (d_req (d_nz fun b1018 o1019 =>
  (d_row_I10 R fun n1020 n1021 n1022 n1023 n1024 n1025 n1026 n1027 n1028 n1029 =>
  (d_call R fun v1030 g m R =>
  (d_asB fun t1031 =>
  (d_if (Hkr false _ _ R.sub)
  (ih a_1003 a_l1003 a_c1003 b_1004 b_l1004 b_c1004 (IntKind.i64.wrap (i_1005 + 1)) _ _ R.sub))))))))))
  (Hkx0 _ _ R.sub))

theorem laws_eqProcS_M_D {g0 m0 : H} {kr_1 : Bool → H → Prop} {kr_2 : Bool → H → Prop} (Hkr : ∀ (t200001 : Bool) (g m : H), Md g0 m0 g m [] → kr_2 t200001 m → kr_1 t200001 g) : ∀ (a_1001 : Option Addr) (a_l1001 : Nat) (a_c1001 : Nat) (b_1002 : Option Addr) (b_l1002 : Nat) (b_c1002 : Nat) (g m : H), Md g0 m0 g m [] → laws_eqProcS_M kr_2 a_1001 a_l1001 a_c1001 b_1002 b_l1002 b_c1002 m → laws_eqProcS kr_1 a_1001 a_l1001 a_c1001 b_1002 b_l1002 b_c1002 g := by
  intro a_1001 a_l1001 a_c1001 b_1002 b_l1002 b_c1002 g m R
  rw [laws_eqProcS_M, laws_eqProcS]
  exact (d_if (Hkr false _ _ R.sub)
  (d_ex fun N => laws_eqProcS_M_l0_D (by exact fun g m R =>
  (Hkr true _ _ R.sub))
  (by exact fun t1003 g m R =>
  (Hkr t1003 _ _ R.sub)) N a_1001 a_l1001 a_c1001 b_1002 b_l1002 b_c1002 0 _ _ R.sub))

theorem laws_eqProcS_M_call {a_1 : Option Addr} {a_l1 : Nat} {a_c1 : Nat} {b_2 : Option Addr} {b_l2 : Nat} {b_c2 : Nat} {h : H} {K : Value → H → Prop} (hs : laws_eqProcS_M (fun t300001 h =>
  K (.bool t300001) h) a_1 a_l1 a_c1 b_2 b_l2 b_c2 h) : callD Try.prog 31 ⟨[.slice a_1 a_l1 a_c1, .slice b_2 b_l2 b_c2]⟩ h K :=
  fun g r => laws_eqProcS_call (laws_eqProcS_M_D (by exact fun t300001 g m R =>
(fun h => ⟨m, R.af, h⟩)) _ _ _ _ _ _ _ _ (Md.start r) hs)

noncomputable def code32 : Code := codeOf Try.f32
theorem body32 : Try.f32.body = some code32 := by kernel_rfl
def laws_markProcS_l0 (kx0 : Int → H → Prop) : Nat → Option Addr → Nat → Nat → Int → Int → H → Prop
 | 0, _, _, _, _, _, _ => False
 | N + 1, a3, l3, c3, n4, n5, h =>
  ifB (decide ((n5 : Int) < (l3 : Nat)))
  (req (0 ≤ (n5 : Int) ∧ (n5 : Int) < (l3 : Nat))
  (nz a3 fun b6 o7 =>
  st h b6 (o7 + n5.toNat * 10) (.int .i64 n4) fun h =>
  req (0 ≤ (n5 : Int) ∧ (n5 : Int) < (l3 : Nat))
  (nz a3 fun b8 o9 =>
  st h b8 ((o9 + n5.toNat * 10) + 1) (.int .i64 (IntKind.i64.wrap (n4 + 1))) fun h =>
  req (0 ≤ (n5 : Int) ∧ (n5 : Int) < (l3 : Nat))
  (nz a3 fun b10 o11 =>
  st h b10 ((o11 + n5.toNat * 10) + 2) (.int .i64 (IntKind.i64.wrap ((IntKind.i64.wrap (n4 + 1)) + 1))) fun h =>
  req (0 ≤ (n5 : Int) ∧ (n5 : Int) < (l3 : Nat))
  (nz a3 fun b12 o13 =>
  st h b12 ((o13 + n5.toNat * 10) + 3) (.int .i64 (IntKind.i64.wrap ((IntKind.i64.wrap ((IntKind.i64.wrap (n4 + 1)) + 1)) + 1))) fun h =>
  req (0 ≤ (n5 : Int) ∧ (n5 : Int) < (l3 : Nat))
  (nz a3 fun b14 o15 =>
  st h b14 ((o15 + n5.toNat * 10) + 4) (.int .i64 (IntKind.i64.wrap ((IntKind.i64.wrap ((IntKind.i64.wrap ((IntKind.i64.wrap (n4 + 1)) + 1)) + 1)) + 1))) fun h =>
  req (0 ≤ (n5 : Int) ∧ (n5 : Int) < (l3 : Nat))
  (nz a3 fun b16 o17 =>
  st h b16 ((o17 + n5.toNat * 10) + 5) (.int .i64 (IntKind.i64.wrap ((IntKind.i64.wrap ((IntKind.i64.wrap ((IntKind.i64.wrap ((IntKind.i64.wrap (n4 + 1)) + 1)) + 1)) + 1)) + 1))) fun h =>
  req (0 ≤ (n5 : Int) ∧ (n5 : Int) < (l3 : Nat))
  (nz a3 fun b18 o19 =>
  st h b18 ((o19 + n5.toNat * 10) + 6) (.int .i64 (IntKind.i64.wrap ((IntKind.i64.wrap ((IntKind.i64.wrap ((IntKind.i64.wrap ((IntKind.i64.wrap ((IntKind.i64.wrap (n4 + 1)) + 1)) + 1)) + 1)) + 1)) + 1))) fun h =>
  req (0 ≤ (n5 : Int) ∧ (n5 : Int) < (l3 : Nat))
  (nz a3 fun b20 o21 =>
  st h b20 ((o21 + n5.toNat * 10) + 7) (.int .i64 (IntKind.i64.wrap ((IntKind.i64.wrap ((IntKind.i64.wrap ((IntKind.i64.wrap ((IntKind.i64.wrap ((IntKind.i64.wrap ((IntKind.i64.wrap (n4 + 1)) + 1)) + 1)) + 1)) + 1)) + 1)) + 1))) fun h =>
  req (0 ≤ (n5 : Int) ∧ (n5 : Int) < (l3 : Nat))
  (nz a3 fun b22 o23 =>
  st h b22 ((o23 + n5.toNat * 10) + 8) (.int .i64 (IntKind.i64.wrap ((IntKind.i64.wrap ((IntKind.i64.wrap ((IntKind.i64.wrap ((IntKind.i64.wrap ((IntKind.i64.wrap ((IntKind.i64.wrap ((IntKind.i64.wrap (n4 + 1)) + 1)) + 1)) + 1)) + 1)) + 1)) + 1)) + 1))) fun h =>
  req (0 ≤ (n5 : Int) ∧ (n5 : Int) < (l3 : Nat))
  (nz a3 fun b24 o25 =>
  st h b24 ((o25 + n5.toNat * 10) + 9) (.int .i64 (IntKind.i64.wrap ((IntKind.i64.wrap ((IntKind.i64.wrap ((IntKind.i64.wrap ((IntKind.i64.wrap ((IntKind.i64.wrap ((IntKind.i64.wrap ((IntKind.i64.wrap ((IntKind.i64.wrap (n4 + 1)) + 1)) + 1)) + 1)) + 1)) + 1)) + 1)) + 1)) + 1))) fun h =>
  laws_markProcS_l0 kx0 N a3 l3 c3 (IntKind.i64.wrap ((IntKind.i64.wrap ((IntKind.i64.wrap ((IntKind.i64.wrap ((IntKind.i64.wrap ((IntKind.i64.wrap ((IntKind.i64.wrap ((IntKind.i64.wrap ((IntKind.i64.wrap ((IntKind.i64.wrap (n4 + 1)) + 1)) + 1)) + 1)) + 1)) + 1)) + 1)) + 1)) + 1)) + 1)) (IntKind.i64.wrap (n5 + 1)) h)))))))))))
  (kx0 n4 h)

def laws_markProcS (kr : Int → H → Prop) (a1 : Option Addr) (l1 : Nat) (c1 : Nat) (n2 : Int) (h : H) : Prop :=
  ∃ M4, laws_markProcS_l0 (fun n3 h =>
  kr n3 h) M4 a1 l1 c1 n2 0 h

theorem laws_markProcS_l0_eq (K : Cont) (N : Nat) (a3 : Option Addr) (l3 : Nat) (c3 : Nat) (n4 : Int) (n5 : Int) (h : H) :
  laws_markProcS_l0 (curV [(1, .int .i64)] (K (.exit 0))) (N + 1) a3 l3 c3 n4 n5 h = evC Try.prog 83 [] [] (sub code32 [true, false, true, false, false]) [(0, .slice a3 l3 c3), (1, .int .i64 n4), (5, .int .i64 n5)] h ((outsOf none [(0, [(1, .int .i64)])] none K).loop [(0, .slice), (1, .int .i64), (5, .int .i64)] (laws_markProcS_l0 (curV [(1, .int .i64)] (K (.exit 0))) N)).K := by kernel_rfl

def laws_markProcS_l0_F : PT := mkL [(0, .slice), (1, .int .i64), (5, .int .i64)] fun K N => laws_markProcS_l0 (curV [(1, .int .i64)] (K (.exit 0))) N

theorem laws_markProcS_l0_V : Valid Try.prog 83 (sub code32 [true, false, true, false]) laws_markProcS_l0_F :=
  loop_at (code32) [true, false, true, false] (loop_piece (c := (sub code32 [true, false, true, false, false])) mixed rows_nil (fun K => by intro a3 l3 c3 n4 n5 h hd; exact hd) (fun K N => by intro a3 l3 c3 n4 n5 h hd; exact (laws_markProcS_l0_eq K N a3 l3 c3 n4 n5 h) ▸ hd))

theorem laws_markProcS_eq (K : Cont) (a1 : Option Addr) (l1 : Nat) (c1 : Nat) (n2 : Int) (h : H) :
  laws_markProcS (curV [(4, .int .i64)] (K .ret)) a1 l1 c1 n2 h = evC Try.prog 83 [([false, false, true, false, true], laws_markProcS_l0_F)] [] code32 [(0, .slice a1 l1 c1), (1, .int .i64 n2)] h (outsOf none [] (some [(4, .int .i64)]) K).K := by kernel_rfl

def laws_markProcS_F : PT := mkF [(0, .slice), (1, .int .i64)] fun K => laws_markProcS (curV [(4, .int .i64)] (K .ret))

theorem laws_markProcS_V : Valid Try.prog 83 code32 laws_markProcS_F :=
  piece mixed (rows_cons (q' := [true, false, true, false]) laws_markProcS_l0_V rfl rows_nil) (fun K => by intro a1 l1 c1 n2 h hd; exact (laws_markProcS_eq K a1 l1 c1 n2 h) ▸ hd)

theorem laws_markProcS_c0 (a1 : Option Addr) (l1 : Nat) (c1 : Nat) (n2 : Int) (h : H) (K : Value → H → Prop) :
  laws_markProcS (fun n100001 h =>
  K (.int .i64 n100001) h) a1 l1 c1 n2 h = callF Try.prog Try.f32.results.toList laws_markProcS_F [.slice a1 l1 c1, .int .i64 n2] h K := by kernel_rfl

theorem laws_markProcS_call {a1 : Option Addr} {l1 : Nat} {c1 : Nat} {n2 : Int} {h : H} {K : Value → H → Prop} (hs : laws_markProcS (fun n100001 h =>
  K (.int .i64 n100001) h) a1 l1 c1 n2 h) : callK Try.prog 32 ⟨[.slice a1 l1 c1, .int .i64 n2]⟩ h K :=
  func_calls Try.func32 body32 laws_markProcS_V (Nat.le_of_ble_eq_true (by kernel_rfl)) (laws_markProcS_c0 a1 l1 c1 n2 h K ▸ hs)

def laws_markProcS_M_l0 (kx0 : Int → H → Prop) : Nat → Option Addr → Nat → Int → Int → H → Prop
 | 0, _, _, _, _, _ => False
 | N + 1, a3, l3, n4, n5, h =>
  ifB (decide ((n5 : Int) < (l3 : Nat)))
  (req (0 ≤ (n5 : Int) ∧ (n5 : Int) < (l3 : Nat))
  (nz a3 fun b6 o7 =>
  st h b6 (o7 + n5.toNat * 10) (.int .i64 n4) fun h =>
  req (0 ≤ (n5 : Int) ∧ (n5 : Int) < (l3 : Nat))
  (nz a3 fun b8 o9 =>
  st h b8 ((o9 + n5.toNat * 10) + 1) (.int .i64 (IntKind.i64.wrap (n4 + 1))) fun h =>
  req (0 ≤ (n5 : Int) ∧ (n5 : Int) < (l3 : Nat))
  (nz a3 fun b10 o11 =>
  st h b10 ((o11 + n5.toNat * 10) + 2) (.int .i64 (IntKind.i64.wrap ((IntKind.i64.wrap (n4 + 1)) + 1))) fun h =>
  req (0 ≤ (n5 : Int) ∧ (n5 : Int) < (l3 : Nat))
  (nz a3 fun b12 o13 =>
  st h b12 ((o13 + n5.toNat * 10) + 3) (.int .i64 (IntKind.i64.wrap ((IntKind.i64.wrap ((IntKind.i64.wrap (n4 + 1)) + 1)) + 1))) fun h =>
  req (0 ≤ (n5 : Int) ∧ (n5 : Int) < (l3 : Nat))
  (nz a3 fun b14 o15 =>
  st h b14 ((o15 + n5.toNat * 10) + 4) (.int .i64 (IntKind.i64.wrap ((IntKind.i64.wrap ((IntKind.i64.wrap ((IntKind.i64.wrap (n4 + 1)) + 1)) + 1)) + 1))) fun h =>
  req (0 ≤ (n5 : Int) ∧ (n5 : Int) < (l3 : Nat))
  (nz a3 fun b16 o17 =>
  st h b16 ((o17 + n5.toNat * 10) + 5) (.int .i64 (IntKind.i64.wrap ((IntKind.i64.wrap ((IntKind.i64.wrap ((IntKind.i64.wrap ((IntKind.i64.wrap (n4 + 1)) + 1)) + 1)) + 1)) + 1))) fun h =>
  req (0 ≤ (n5 : Int) ∧ (n5 : Int) < (l3 : Nat))
  (nz a3 fun b18 o19 =>
  st h b18 ((o19 + n5.toNat * 10) + 6) (.int .i64 (IntKind.i64.wrap ((IntKind.i64.wrap ((IntKind.i64.wrap ((IntKind.i64.wrap ((IntKind.i64.wrap ((IntKind.i64.wrap (n4 + 1)) + 1)) + 1)) + 1)) + 1)) + 1))) fun h =>
  req (0 ≤ (n5 : Int) ∧ (n5 : Int) < (l3 : Nat))
  (nz a3 fun b20 o21 =>
  st h b20 ((o21 + n5.toNat * 10) + 7) (.int .i64 (IntKind.i64.wrap ((IntKind.i64.wrap ((IntKind.i64.wrap ((IntKind.i64.wrap ((IntKind.i64.wrap ((IntKind.i64.wrap ((IntKind.i64.wrap (n4 + 1)) + 1)) + 1)) + 1)) + 1)) + 1)) + 1))) fun h =>
  req (0 ≤ (n5 : Int) ∧ (n5 : Int) < (l3 : Nat))
  (nz a3 fun b22 o23 =>
  st h b22 ((o23 + n5.toNat * 10) + 8) (.int .i64 (IntKind.i64.wrap ((IntKind.i64.wrap ((IntKind.i64.wrap ((IntKind.i64.wrap ((IntKind.i64.wrap ((IntKind.i64.wrap ((IntKind.i64.wrap ((IntKind.i64.wrap (n4 + 1)) + 1)) + 1)) + 1)) + 1)) + 1)) + 1)) + 1))) fun h =>
  req (0 ≤ (n5 : Int) ∧ (n5 : Int) < (l3 : Nat))
  (nz a3 fun b24 o25 =>
  st h b24 ((o25 + n5.toNat * 10) + 9) (.int .i64 (IntKind.i64.wrap ((IntKind.i64.wrap ((IntKind.i64.wrap ((IntKind.i64.wrap ((IntKind.i64.wrap ((IntKind.i64.wrap ((IntKind.i64.wrap ((IntKind.i64.wrap ((IntKind.i64.wrap (n4 + 1)) + 1)) + 1)) + 1)) + 1)) + 1)) + 1)) + 1)) + 1))) fun h =>
  laws_markProcS_M_l0 kx0 N a3 l3 (IntKind.i64.wrap ((IntKind.i64.wrap ((IntKind.i64.wrap ((IntKind.i64.wrap ((IntKind.i64.wrap ((IntKind.i64.wrap ((IntKind.i64.wrap ((IntKind.i64.wrap ((IntKind.i64.wrap ((IntKind.i64.wrap (n4 + 1)) + 1)) + 1)) + 1)) + 1)) + 1)) + 1)) + 1)) + 1)) + 1)) (IntKind.i64.wrap (n5 + 1)) h)))))))))))
  (kx0 n4 h)

def laws_markProcS_M (kr : Int → H → Prop) (a1 : Option Addr) (l1 : Nat) (c1 : Nat) (n2 : Int) (h : H) : Prop :=
  ∃ M4, laws_markProcS_M_l0 (fun n3 h =>
  kr n3 h) M4 a1 l1 n2 0 h

theorem laws_markProcS_M_l0_D {g0 m0 : H} {kx0_1 : Int → H → Prop} {kx0_2 : Int → H → Prop} (Hkx0 : ∀ (n200001 : Int) (g m : H), Md g0 m0 g m [] → kx0_2 n200001 m → kx0_1 n200001 g) : ∀ (N : Nat) (a1003 : Option Addr) (l1003 : Nat) (c1003 : Nat) (n1004 : Int) (n1005 : Int) (g m : H), Md g0 m0 g m [] → laws_markProcS_M_l0 kx0_2 N a1003 l1003 n1004 n1005 m → laws_markProcS_l0 kx0_1 N a1003 l1003 c1003 n1004 n1005 g := by
  intro N
  induction N with
  | zero => intro a1003 l1003 c1003 n1004 n1005 g m R h0; exact h0.elim
  | succ N ih =>
    intro a1003 l1003 c1003 n1004 n1005 g m R
    rw [laws_markProcS_M_l0, laws_markProcS_l0]
    exact (d_if (d_req (d_nz fun b1006 o1007 =>
  (d_st R fun g m R =>
  (d_req (d_nz fun b1008 o1009 =>
  (d_st R fun g m R =>
  (d_req (d_nz fun b1010 o1011 =>
  (d_st R fun g m R =>
  (d_req (d_nz fun b1012 o1013 =>
  (d_st R fun g m R =>
  (d_req (d_nz fun b1014 o1015 =>
  (d_st R fun g m R =>
  (d_req (d_nz fun b1016 o1017 =>
  (d_st R fun g m R =>
  (d_req (d_nz fun b1018 o1019 =>
  (d_st R fun g m R =>
  (d_req (d_nz fun b1020 o1021 =>
  (d_st R fun g m R =>
  (d_req (d_nz fun b1022 o1023 =>
  (d_st R fun g m R =>
  (d_req (d_nz fun b1024 o1025 =>
  (d_st R fun g m R =>
  (ih a1003 l1003 c1003 (IntKind.i64.wrap ((IntKind.i64.wrap ((IntKind.i64.wrap ((IntKind.i64.wrap ((IntKind.i64.wrap ((IntKind.i64.wrap ((IntKind.i64.wrap ((IntKind.i64.wrap ((IntKind.i64.wrap ((IntKind.i64.wrap (n1004 + 1)) + 1)) + 1)) + 1)) + 1)) + 1)) + 1)) + 1)) + 1)) + 1)) (IntKind.i64.wrap (n1005 + 1)) _ _ R.sub)))))))))))))))))))))))))))))))
  (Hkx0 n1004 _ _ R.sub))

theorem laws_markProcS_M_D {g0 m0 : H} {kr_1 : Int → H → Prop} {kr_2 : Int → H → Prop} (Hkr : ∀ (n200001 : Int) (g m : H), Md g0 m0 g m [] → kr_2 n200001 m → kr_1 n200001 g) : ∀ (a1001 : Option Addr) (l1001 : Nat) (c1001 : Nat) (n1002 : Int) (g m : H), Md g0 m0 g m [] → laws_markProcS_M kr_2 a1001 l1001 c1001 n1002 m → laws_markProcS kr_1 a1001 l1001 c1001 n1002 g := by
  intro a1001 l1001 c1001 n1002 g m R
  rw [laws_markProcS_M, laws_markProcS]
  exact (d_ex fun N => laws_markProcS_M_l0_D (by exact fun n1003 g m R =>
  (Hkr n1003 _ _ R.sub)) N a1001 l1001 c1001 n1002 0 _ _ R.sub)

theorem laws_markProcS_M_call {a1 : Option Addr} {l1 : Nat} {c1 : Nat} {n2 : Int} {h : H} {K : Value → H → Prop} (hs : laws_markProcS_M (fun n300001 h =>
  K (.int .i64 n300001) h) a1 l1 c1 n2 h) : callD Try.prog 32 ⟨[.slice a1 l1 c1, .int .i64 n2]⟩ h K :=
  fun g r => laws_markProcS_call (laws_markProcS_M_D (by exact fun n300001 g m R =>
(fun h => ⟨m, R.af, h⟩)) _ _ _ _ _ _ (Md.start r) hs)

noncomputable def code33 : Code := codeOf Try.f33
theorem body33 : Try.f33.body = some code33 := by kernel_rfl
def laws_heldProcS_l0 (kx0 : Int → H → Prop) (kr : Int → H → Prop) : Nat → Option Addr → Nat → Nat → Int → Int → H → Prop
 | 0, _, _, _, _, _, _ => False
 | N + 1, a3, l3, c3, n4, n5, h =>
  ifB (decide ((n5 : Int) < (l3 : Nat)))
  (req (0 ≤ (n5 : Int) ∧ (n5 : Int) < (l3 : Nat))
  (nz a3 fun b6 o7 =>
  ldI .i64 h b6 (o7 + n5.toNat * 10) fun n8 =>
  ifB ((n8 : Int) != n4)
  (kr (-1) h)
  (req (0 ≤ (n5 : Int) ∧ (n5 : Int) < (l3 : Nat))
  (nz a3 fun b9 o10 =>
  ldI .i64 h b9 ((o10 + n5.toNat * 10) + 1) fun n11 =>
  ifB ((n11 : Int) != (IntKind.i64.wrap (n4 + 1)))
  (kr (-1) h)
  (req (0 ≤ (n5 : Int) ∧ (n5 : Int) < (l3 : Nat))
  (nz a3 fun b12 o13 =>
  ldI .i64 h b12 ((o13 + n5.toNat * 10) + 2) fun n14 =>
  ifB ((n14 : Int) != (IntKind.i64.wrap ((IntKind.i64.wrap (n4 + 1)) + 1)))
  (kr (-1) h)
  (req (0 ≤ (n5 : Int) ∧ (n5 : Int) < (l3 : Nat))
  (nz a3 fun b15 o16 =>
  ldI .i64 h b15 ((o16 + n5.toNat * 10) + 3) fun n17 =>
  ifB ((n17 : Int) != (IntKind.i64.wrap ((IntKind.i64.wrap ((IntKind.i64.wrap (n4 + 1)) + 1)) + 1)))
  (kr (-1) h)
  (req (0 ≤ (n5 : Int) ∧ (n5 : Int) < (l3 : Nat))
  (nz a3 fun b18 o19 =>
  ldI .i64 h b18 ((o19 + n5.toNat * 10) + 4) fun n20 =>
  ifB ((n20 : Int) != (IntKind.i64.wrap ((IntKind.i64.wrap ((IntKind.i64.wrap ((IntKind.i64.wrap (n4 + 1)) + 1)) + 1)) + 1)))
  (kr (-1) h)
  (req (0 ≤ (n5 : Int) ∧ (n5 : Int) < (l3 : Nat))
  (nz a3 fun b21 o22 =>
  ldI .i64 h b21 ((o22 + n5.toNat * 10) + 5) fun n23 =>
  ifB ((n23 : Int) != (IntKind.i64.wrap ((IntKind.i64.wrap ((IntKind.i64.wrap ((IntKind.i64.wrap ((IntKind.i64.wrap (n4 + 1)) + 1)) + 1)) + 1)) + 1)))
  (kr (-1) h)
  (req (0 ≤ (n5 : Int) ∧ (n5 : Int) < (l3 : Nat))
  (nz a3 fun b24 o25 =>
  ldI .i64 h b24 ((o25 + n5.toNat * 10) + 6) fun n26 =>
  ifB ((n26 : Int) != (IntKind.i64.wrap ((IntKind.i64.wrap ((IntKind.i64.wrap ((IntKind.i64.wrap ((IntKind.i64.wrap ((IntKind.i64.wrap (n4 + 1)) + 1)) + 1)) + 1)) + 1)) + 1)))
  (kr (-1) h)
  (req (0 ≤ (n5 : Int) ∧ (n5 : Int) < (l3 : Nat))
  (nz a3 fun b27 o28 =>
  ldI .i64 h b27 ((o28 + n5.toNat * 10) + 7) fun n29 =>
  ifB ((n29 : Int) != (IntKind.i64.wrap ((IntKind.i64.wrap ((IntKind.i64.wrap ((IntKind.i64.wrap ((IntKind.i64.wrap ((IntKind.i64.wrap ((IntKind.i64.wrap (n4 + 1)) + 1)) + 1)) + 1)) + 1)) + 1)) + 1)))
  (kr (-1) h)
  (req (0 ≤ (n5 : Int) ∧ (n5 : Int) < (l3 : Nat))
  (nz a3 fun b30 o31 =>
  ldI .i64 h b30 ((o31 + n5.toNat * 10) + 8) fun n32 =>
  ifB ((n32 : Int) != (IntKind.i64.wrap ((IntKind.i64.wrap ((IntKind.i64.wrap ((IntKind.i64.wrap ((IntKind.i64.wrap ((IntKind.i64.wrap ((IntKind.i64.wrap ((IntKind.i64.wrap (n4 + 1)) + 1)) + 1)) + 1)) + 1)) + 1)) + 1)) + 1)))
  (kr (-1) h)
  (req (0 ≤ (n5 : Int) ∧ (n5 : Int) < (l3 : Nat))
  (nz a3 fun b33 o34 =>
  ldI .i64 h b33 ((o34 + n5.toNat * 10) + 9) fun n35 =>
  ifB ((n35 : Int) != (IntKind.i64.wrap ((IntKind.i64.wrap ((IntKind.i64.wrap ((IntKind.i64.wrap ((IntKind.i64.wrap ((IntKind.i64.wrap ((IntKind.i64.wrap ((IntKind.i64.wrap ((IntKind.i64.wrap (n4 + 1)) + 1)) + 1)) + 1)) + 1)) + 1)) + 1)) + 1)) + 1)))
  (kr (-1) h)
  (laws_heldProcS_l0 kx0 kr N a3 l3 c3 (IntKind.i64.wrap ((IntKind.i64.wrap ((IntKind.i64.wrap ((IntKind.i64.wrap ((IntKind.i64.wrap ((IntKind.i64.wrap ((IntKind.i64.wrap ((IntKind.i64.wrap ((IntKind.i64.wrap ((IntKind.i64.wrap (n4 + 1)) + 1)) + 1)) + 1)) + 1)) + 1)) + 1)) + 1)) + 1)) + 1)) (IntKind.i64.wrap (n5 + 1)) h)))))))))))))))))))))
  (kx0 n4 h)

def laws_heldProcS (kr : Int → H → Prop) (a1 : Option Addr) (l1 : Nat) (c1 : Nat) (n2 : Int) (h : H) : Prop :=
  ∃ M4, laws_heldProcS_l0 (fun n3 h =>
  kr n3 h) kr M4 a1 l1 c1 n2 0 h

theorem laws_heldProcS_l0_eq (K : Cont) (N : Nat) (a3 : Option Addr) (l3 : Nat) (c3 : Nat) (n4 : Int) (n5 : Int) (h : H) :
  laws_heldProcS_l0 (curV [(1, .int .i64)] (K (.exit 0))) (curV [(4, .int .i64)] (K .ret)) (N + 1) a3 l3 c3 n4 n5 h = evC Try.prog 103 [] [] (sub code33 [true, false, true, false, false]) [(0, .slice a3 l3 c3), (1, .int .i64 n4), (5, .int .i64 n5)] h ((outsOf none [(0, [(1, .int .i64)])] (some [(4, .int .i64)]) K).loop [(0, .slice), (1, .int .i64), (5, .int .i64)] (laws_heldProcS_l0 (curV [(1, .int .i64)] (K (.exit 0))) (curV [(4, .int .i64)] (K .ret)) N)).K := by kernel_rfl

def laws_heldProcS_l0_F : PT := mkL [(0, .slice), (1, .int .i64), (5, .int .i64)] fun K N => laws_heldProcS_l0 (curV [(1, .int .i64)] (K (.exit 0))) (curV [(4, .int .i64)] (K .ret)) N

theorem laws_heldProcS_l0_V : Valid Try.prog 103 (sub code33 [true, false, true, false]) laws_heldProcS_l0_F :=
  loop_at (code33) [true, false, true, false] (loop_piece (c := (sub code33 [true, false, true, false, false])) mixed rows_nil (fun K => by intro a3 l3 c3 n4 n5 h hd; exact hd) (fun K N => by intro a3 l3 c3 n4 n5 h hd; exact (laws_heldProcS_l0_eq K N a3 l3 c3 n4 n5 h) ▸ hd))

theorem laws_heldProcS_eq (K : Cont) (a1 : Option Addr) (l1 : Nat) (c1 : Nat) (n2 : Int) (h : H) :
  laws_heldProcS (curV [(4, .int .i64)] (K .ret)) a1 l1 c1 n2 h = evC Try.prog 103 [([false, false, true, false, true], laws_heldProcS_l0_F)] [] code33 [(0, .slice a1 l1 c1), (1, .int .i64 n2)] h (outsOf none [] (some [(4, .int .i64)]) K).K := by kernel_rfl

def laws_heldProcS_F : PT := mkF [(0, .slice), (1, .int .i64)] fun K => laws_heldProcS (curV [(4, .int .i64)] (K .ret))

theorem laws_heldProcS_V : Valid Try.prog 103 code33 laws_heldProcS_F :=
  piece mixed (rows_cons (q' := [true, false, true, false]) laws_heldProcS_l0_V rfl rows_nil) (fun K => by intro a1 l1 c1 n2 h hd; exact (laws_heldProcS_eq K a1 l1 c1 n2 h) ▸ hd)

theorem laws_heldProcS_c0 (a1 : Option Addr) (l1 : Nat) (c1 : Nat) (n2 : Int) (h : H) (K : Value → H → Prop) :
  laws_heldProcS (fun n100001 h =>
  K (.int .i64 n100001) h) a1 l1 c1 n2 h = callF Try.prog Try.f33.results.toList laws_heldProcS_F [.slice a1 l1 c1, .int .i64 n2] h K := by kernel_rfl

theorem laws_heldProcS_call {a1 : Option Addr} {l1 : Nat} {c1 : Nat} {n2 : Int} {h : H} {K : Value → H → Prop} (hs : laws_heldProcS (fun n100001 h =>
  K (.int .i64 n100001) h) a1 l1 c1 n2 h) : callK Try.prog 33 ⟨[.slice a1 l1 c1, .int .i64 n2]⟩ h K :=
  func_calls Try.func33 body33 laws_heldProcS_V (Nat.le_of_ble_eq_true (by kernel_rfl)) (laws_heldProcS_c0 a1 l1 c1 n2 h K ▸ hs)

def laws_heldProcS_M_l0 (kx0 : Int → H → Prop) (kr : Int → H → Prop) : Nat → Option Addr → Nat → Int → Int → H → Prop
 | 0, _, _, _, _, _ => False
 | N + 1, a3, l3, n4, n5, h =>
  ifB (decide ((n5 : Int) < (l3 : Nat)))
  (req (0 ≤ (n5 : Int) ∧ (n5 : Int) < (l3 : Nat))
  (nz a3 fun b6 o7 =>
  ldI .i64 h b6 (o7 + n5.toNat * 10) fun n8 =>
  ifB ((n8 : Int) != n4)
  (kr (-1) h)
  (req (0 ≤ (n5 : Int) ∧ (n5 : Int) < (l3 : Nat))
  (nz a3 fun b9 o10 =>
  ldI .i64 h b9 ((o10 + n5.toNat * 10) + 1) fun n11 =>
  ifB ((n11 : Int) != (IntKind.i64.wrap (n4 + 1)))
  (kr (-1) h)
  (req (0 ≤ (n5 : Int) ∧ (n5 : Int) < (l3 : Nat))
  (nz a3 fun b12 o13 =>
  ldI .i64 h b12 ((o13 + n5.toNat * 10) + 2) fun n14 =>
  ifB ((n14 : Int) != (IntKind.i64.wrap ((IntKind.i64.wrap (n4 + 1)) + 1)))
  (kr (-1) h)
  (req (0 ≤ (n5 : Int) ∧ (n5 : Int) < (l3 : Nat))
  (nz a3 fun b15 o16 =>
  ldI .i64 h b15 ((o16 + n5.toNat * 10) + 3) fun n17 =>
  ifB ((n17 : Int) != (IntKind.i64.wrap ((IntKind.i64.wrap ((IntKind.i64.wrap (n4 + 1)) + 1)) + 1)))
  (kr (-1) h)
  (req (0 ≤ (n5 : Int) ∧ (n5 : Int) < (l3 : Nat))
  (nz a3 fun b18 o19 =>
  ldI .i64 h b18 ((o19 + n5.toNat * 10) + 4) fun n20 =>
  ifB ((n20 : Int) != (IntKind.i64.wrap ((IntKind.i64.wrap ((IntKind.i64.wrap ((IntKind.i64.wrap (n4 + 1)) + 1)) + 1)) + 1)))
  (kr (-1) h)
  (req (0 ≤ (n5 : Int) ∧ (n5 : Int) < (l3 : Nat))
  (nz a3 fun b21 o22 =>
  ldI .i64 h b21 ((o22 + n5.toNat * 10) + 5) fun n23 =>
  ifB ((n23 : Int) != (IntKind.i64.wrap ((IntKind.i64.wrap ((IntKind.i64.wrap ((IntKind.i64.wrap ((IntKind.i64.wrap (n4 + 1)) + 1)) + 1)) + 1)) + 1)))
  (kr (-1) h)
  (req (0 ≤ (n5 : Int) ∧ (n5 : Int) < (l3 : Nat))
  (nz a3 fun b24 o25 =>
  ldI .i64 h b24 ((o25 + n5.toNat * 10) + 6) fun n26 =>
  ifB ((n26 : Int) != (IntKind.i64.wrap ((IntKind.i64.wrap ((IntKind.i64.wrap ((IntKind.i64.wrap ((IntKind.i64.wrap ((IntKind.i64.wrap (n4 + 1)) + 1)) + 1)) + 1)) + 1)) + 1)))
  (kr (-1) h)
  (req (0 ≤ (n5 : Int) ∧ (n5 : Int) < (l3 : Nat))
  (nz a3 fun b27 o28 =>
  ldI .i64 h b27 ((o28 + n5.toNat * 10) + 7) fun n29 =>
  ifB ((n29 : Int) != (IntKind.i64.wrap ((IntKind.i64.wrap ((IntKind.i64.wrap ((IntKind.i64.wrap ((IntKind.i64.wrap ((IntKind.i64.wrap ((IntKind.i64.wrap (n4 + 1)) + 1)) + 1)) + 1)) + 1)) + 1)) + 1)))
  (kr (-1) h)
  (req (0 ≤ (n5 : Int) ∧ (n5 : Int) < (l3 : Nat))
  (nz a3 fun b30 o31 =>
  ldI .i64 h b30 ((o31 + n5.toNat * 10) + 8) fun n32 =>
  ifB ((n32 : Int) != (IntKind.i64.wrap ((IntKind.i64.wrap ((IntKind.i64.wrap ((IntKind.i64.wrap ((IntKind.i64.wrap ((IntKind.i64.wrap ((IntKind.i64.wrap ((IntKind.i64.wrap (n4 + 1)) + 1)) + 1)) + 1)) + 1)) + 1)) + 1)) + 1)))
  (kr (-1) h)
  (req (0 ≤ (n5 : Int) ∧ (n5 : Int) < (l3 : Nat))
  (nz a3 fun b33 o34 =>
  ldI .i64 h b33 ((o34 + n5.toNat * 10) + 9) fun n35 =>
  ifB ((n35 : Int) != (IntKind.i64.wrap ((IntKind.i64.wrap ((IntKind.i64.wrap ((IntKind.i64.wrap ((IntKind.i64.wrap ((IntKind.i64.wrap ((IntKind.i64.wrap ((IntKind.i64.wrap ((IntKind.i64.wrap (n4 + 1)) + 1)) + 1)) + 1)) + 1)) + 1)) + 1)) + 1)) + 1)))
  (kr (-1) h)
  (laws_heldProcS_M_l0 kx0 kr N a3 l3 (IntKind.i64.wrap ((IntKind.i64.wrap ((IntKind.i64.wrap ((IntKind.i64.wrap ((IntKind.i64.wrap ((IntKind.i64.wrap ((IntKind.i64.wrap ((IntKind.i64.wrap ((IntKind.i64.wrap ((IntKind.i64.wrap (n4 + 1)) + 1)) + 1)) + 1)) + 1)) + 1)) + 1)) + 1)) + 1)) + 1)) (IntKind.i64.wrap (n5 + 1)) h)))))))))))))))))))))
  (kx0 n4 h)

def laws_heldProcS_M (kr : Int → H → Prop) (a1 : Option Addr) (l1 : Nat) (c1 : Nat) (n2 : Int) (h : H) : Prop :=
  ∃ M4, laws_heldProcS_M_l0 (fun n3 h =>
  kr n3 h) kr M4 a1 l1 n2 0 h

theorem laws_heldProcS_M_l0_D {g0 m0 : H} {kx0_1 : Int → H → Prop} {kx0_2 : Int → H → Prop} (Hkx0 : ∀ (n200001 : Int) (g m : H), Md g0 m0 g m [] → kx0_2 n200001 m → kx0_1 n200001 g)
  {kr_1 : Int → H → Prop} {kr_2 : Int → H → Prop} (Hkr : ∀ (n200001 : Int) (g m : H), Md g0 m0 g m [] → kr_2 n200001 m → kr_1 n200001 g) : ∀ (N : Nat) (a1003 : Option Addr) (l1003 : Nat) (c1003 : Nat) (n1004 : Int) (n1005 : Int) (g m : H), Md g0 m0 g m [] → laws_heldProcS_M_l0 kx0_2 kr_2 N a1003 l1003 n1004 n1005 m → laws_heldProcS_l0 kx0_1 kr_1 N a1003 l1003 c1003 n1004 n1005 g := by
  intro N
  induction N with
  | zero => intro a1003 l1003 c1003 n1004 n1005 g m R h0; exact h0.elim
  | succ N ih =>
    intro a1003 l1003 c1003 n1004 n1005 g m R
    rw [laws_heldProcS_M_l0, laws_heldProcS_l0]
    exact (d_if (d_req (d_nz fun b1006 o1007 =>
  (d_ldI R fun n1008 =>
  (d_if (Hkr (-1) _ _ R.sub)
  (d_req (d_nz fun b1009 o1010 =>
  (d_ldI R fun n1011 =>
  (d_if (Hkr (-1) _ _ R.sub)
  (d_req (d_nz fun b1012 o1013 =>
  (d_ldI R fun n1014 =>
  (d_if (Hkr (-1) _ _ R.sub)
  (d_req (d_nz fun b1015 o1016 =>
  (d_ldI R fun n1017 =>
  (d_if (Hkr (-1) _ _ R.sub)
  (d_req (d_nz fun b1018 o1019 =>
  (d_ldI R fun n1020 =>
  (d_if (Hkr (-1) _ _ R.sub)
  (d_req (d_nz fun b1021 o1022 =>
  (d_ldI R fun n1023 =>
  (d_if (Hkr (-1) _ _ R.sub)
  (d_req (d_nz fun b1024 o1025 =>
  (d_ldI R fun n1026 =>
  (d_if (Hkr (-1) _ _ R.sub)
  (d_req (d_nz fun b1027 o1028 =>
  (d_ldI R fun n1029 =>
  (d_if (Hkr (-1) _ _ R.sub)
  (d_req (d_nz fun b1030 o1031 =>
  (d_ldI R fun n1032 =>
  (d_if (Hkr (-1) _ _ R.sub)
  (d_req (d_nz fun b1033 o1034 =>
  (d_ldI R fun n1035 =>
  (d_if (Hkr (-1) _ _ R.sub)
  (ih a1003 l1003 c1003 (IntKind.i64.wrap ((IntKind.i64.wrap ((IntKind.i64.wrap ((IntKind.i64.wrap ((IntKind.i64.wrap ((IntKind.i64.wrap ((IntKind.i64.wrap ((IntKind.i64.wrap ((IntKind.i64.wrap ((IntKind.i64.wrap (n1004 + 1)) + 1)) + 1)) + 1)) + 1)) + 1)) + 1)) + 1)) + 1)) + 1)) (IntKind.i64.wrap (n1005 + 1)) _ _ R.sub)))))))))))))))))))))))))))))))))))))))))
  (Hkx0 n1004 _ _ R.sub))

theorem laws_heldProcS_M_D {g0 m0 : H} {kr_1 : Int → H → Prop} {kr_2 : Int → H → Prop} (Hkr : ∀ (n200001 : Int) (g m : H), Md g0 m0 g m [] → kr_2 n200001 m → kr_1 n200001 g) : ∀ (a1001 : Option Addr) (l1001 : Nat) (c1001 : Nat) (n1002 : Int) (g m : H), Md g0 m0 g m [] → laws_heldProcS_M kr_2 a1001 l1001 c1001 n1002 m → laws_heldProcS kr_1 a1001 l1001 c1001 n1002 g := by
  intro a1001 l1001 c1001 n1002 g m R
  rw [laws_heldProcS_M, laws_heldProcS]
  exact (d_ex fun N => laws_heldProcS_M_l0_D (by exact fun n1003 g m R =>
  (Hkr n1003 _ _ R.sub))
  (by exact fun n1004 g m R =>
  (Hkr n1004 _ _ R.sub)) N a1001 l1001 c1001 n1002 0 _ _ R.sub)

theorem laws_heldProcS_M_call {a1 : Option Addr} {l1 : Nat} {c1 : Nat} {n2 : Int} {h : H} {K : Value → H → Prop} (hs : laws_heldProcS_M (fun n300001 h =>
  K (.int .i64 n300001) h) a1 l1 c1 n2 h) : callD Try.prog 33 ⟨[.slice a1 l1 c1, .int .i64 n2]⟩ h K :=
  fun g r => laws_heldProcS_call (laws_heldProcS_M_D (by exact fun n300001 g m R =>
(fun h => ⟨m, R.af, h⟩)) _ _ _ _ _ _ (Md.start r) hs)

noncomputable def code37 : Code := codeOf Try.f37
theorem body37 : Try.f37.body = some code37 := by kernel_rfl
def spec_l16Fork_l0 (kx0 : Int → Nat → Nat → Nat → Int → H → Prop) : Nat → Int → Nat → Nat → Nat → Int → H → Prop
 | 0, _, _, _, _, _, _ => False
 | N + 1, i_6, p_7, b8, b9, id_10, h =>
  ifB (decide ((id_10 : Int) ≤ 32))
  (ldRow h p_7 0 0 [.slice] fun a11 l11 c11 =>
  callK Try.prog 25 ⟨[.agg ⟨[.slice a11 l11 c11]⟩, .int .i64 id_10]⟩ h fun v12 h =>
  asI .i64 v12 fun n13 =>
  ifB (decide ((n13 : Int) ≥ 0))
  (spec_l16Fork_l0 kx0 N i_6 p_7 b8 b9 (IntKind.i64.wrap (id_10 + 1)) h)
  (kx0 i_6 p_7 b8 b9 id_10 h))
  (kx0 i_6 p_7 b8 b9 id_10 h)

def spec_l16Fork (kr : Nat → Nat → H → Prop) (p_1 : Option Addr) (p_l1 : Nat) (p_c1 : Nat) (i_2 : Int) (h : H) : Prop :=
  new h [.slice p_1 p_l1 p_c1] 27 fun b3 h =>
  new h [.slice none 0 0] 27 fun b4 h =>
  new h [.int .i64 0, .int .i64 0, .int .i64 0] 34 fun b5 h =>
  ∃ M45, spec_l16Fork_l0 (fun i_6 p_7 b8 b9 id_10 h =>
  ifB (decide ((id_10 : Int) > 32))
  (ldRow h p_7 0 0 [.slice] fun a11 l11 c11 =>
  stRow h b8 0 0 [.slice a11 l11 c11] fun h =>
  stRow h b9 0 0 [.int .i64 18, .int .i64 0, .int .i64 0] fun h =>
  kr b8 b9 h)
  (ldL h p_7 0 fun a12 l12 c12 =>
  req (0 ≤ (i_6 : Int) ∧ (i_6 : Int) < (l12 : Nat))
  (nz a12 fun b13 o14 =>
  ldRow h b13 (o14 + i_6.toNat * 10) 0 [.int .i64, .int .i64, .int .i64, .int .i64, .int .i64, .int .i64, .int .i64, .int .i64, .int .i64, .int .i64] fun n15 n16 n17 n18 n19 n20 n21 n22 n23 n24 =>
  new h [.int .i64 0, .int .i64 0, .int .i64 0, .int .i64 0, .int .i64 0, .int .i64 0, .int .i64 0, .int .i64 0, .int .i64 0, .int .i64 0] 38 fun b25 h =>
  stRow h b25 0 0 [.int .i64 n15, .int .i64 n16, .int .i64 n17, .int .i64 n18, .int .i64 n19, .int .i64 n20, .int .i64 n21, .int .i64 n22, .int .i64 n23, .int .i64 n24] fun h =>
  ldI .i64 h b25 0 fun n26 =>
  st h b25 1 (.int .i64 n26) fun h =>
  st h b25 0 (.int .i64 id_10) fun h =>
  st h b25 4 (.int .i64 1) fun h =>
  st h b25 6 (.int .i64 0) fun h =>
  new h [] 38 fun b27 h =>
  ldL h p_7 0 fun a28 l28 c28 =>
  req (0 ≤ (IntKind.i64.wrap (id_10 - 1) : Int) ∧ (IntKind.i64.wrap (id_10 - 1) : Int) ≤ (c28 : Nat))
  (req (plainA a28 = true)
  (appendK Try.prog 38 h (some ⟨b27, 0, none⟩) 0 0 (.slice (slB a28 0 c28 10) ((IntKind.i64.wrap (id_10 - 1)).toNat - 0) (c28 - 0)) fun a29 l29 c29 h =>
  ldRow h b25 0 0 [.int .i64, .int .i64, .int .i64, .int .i64, .int .i64, .int .i64, .int .i64, .int .i64, .int .i64, .int .i64] fun n30 n31 n32 n33 n34 n35 n36 n37 n38 n39 =>
  new h [.int .i64 n30, .int .i64 n31, .int .i64 n32, .int .i64 n33, .int .i64 n34, .int .i64 n35, .int .i64 n36, .int .i64 n37, .int .i64 n38, .int .i64 n39] 38 fun b40 h =>
  appendK Try.prog 38 h a29 l29 c29 (.slice (some ⟨b40, 0, none⟩) 1 1) fun a41 l41 c41 h =>
  ldL h p_7 0 fun a42 l42 c42 =>
  req (0 ≤ (IntKind.i64.wrap (id_10 - 1) : Int) ∧ (IntKind.i64.wrap (id_10 - 1) : Int) ≤ (l42 : Nat))
  (req (plainA a42 = true)
  (appendK Try.prog 38 h a41 l41 c41 (.slice (slB a42 ((IntKind.i64.wrap (id_10 - 1)).toNat) c42 10) (l42 - (IntKind.i64.wrap (id_10 - 1)).toNat) (c42 - (IntKind.i64.wrap (id_10 - 1)).toNat)) fun a43 l43 c43 h =>
  st h p_7 0 (.slice a43 l43 c43) fun h =>
  ldRow h p_7 0 0 [.slice] fun a44 l44 c44 =>
  stRow h b8 0 0 [.slice a44 l44 c44] fun h =>
  stRow h b9 0 0 [.int .i64 0, .int .i64 id_10, .int .i64 0] fun h =>
  kr b8 b9 h))))))) M45 i_2 b3 b4 b5 1 h

theorem spec_l16Fork_l0_eq (K : Cont) (N : Nat) (i_6 : Int) (p_7 : Nat) (b8 : Nat) (b9 : Nat) (id_10 : Int) (h : H) :
  spec_l16Fork_l0 (curV [(1, .int .i64), (2, .blk), (4, .blk), (5, .blk), (6, .int .i64)] (K (.exit 0))) (N + 1) i_6 p_7 b8 b9 id_10 h = evC Try.prog 57 [] [] (sub code37 [true, true, false, false, false]) [(1, .int .i64 i_6), (2, .pointer (some ⟨p_7, 0, none⟩)), (4, .pointer (some ⟨b8, 0, none⟩)), (5, .pointer (some ⟨b9, 0, none⟩)), (6, .int .i64 id_10)] h ((outsOf none [(0, [(1, .int .i64), (2, .blk), (4, .blk), (5, .blk), (6, .int .i64)])] none K).loop [(1, .int .i64), (2, .blk), (4, .blk), (5, .blk), (6, .int .i64)] (spec_l16Fork_l0 (curV [(1, .int .i64), (2, .blk), (4, .blk), (5, .blk), (6, .int .i64)] (K (.exit 0))) N)).K := by kernel_rfl

def spec_l16Fork_l0_F : PT := mkL [(1, .int .i64), (2, .blk), (4, .blk), (5, .blk), (6, .int .i64)] fun K N => spec_l16Fork_l0 (curV [(1, .int .i64), (2, .blk), (4, .blk), (5, .blk), (6, .int .i64)] (K (.exit 0))) N

theorem spec_l16Fork_l0_V : Valid Try.prog 57 (sub code37 [true, true, false, false]) spec_l16Fork_l0_F :=
  loop_at (code37) [true, true, false, false] (loop_piece (c := (sub code37 [true, true, false, false, false])) mixed rows_nil (fun K => by intro i_6 p_7 b8 b9 id_10 h hd; exact hd) (fun K N => by intro i_6 p_7 b8 b9 id_10 h hd; exact (spec_l16Fork_l0_eq K N i_6 p_7 b8 b9 id_10 h) ▸ hd))

theorem spec_l16Fork_eq (K : Cont) (p_1 : Option Addr) (p_l1 : Nat) (p_c1 : Nat) (i_2 : Int) (h : H) :
  spec_l16Fork (curV [(4, .blk), (5, .blk)] (K .ret)) p_1 p_l1 p_c1 i_2 h = evC Try.prog 57 [([false, false, false, true, true], spec_l16Fork_l0_F)] [] code37 [(0, .agg ⟨[.slice p_1 p_l1 p_c1]⟩), (1, .int .i64 i_2)] h (outsOf none [] (some [(4, .blk), (5, .blk)]) K).K := by kernel_rfl

def spec_l16Fork_F : PT := mkF [(0, .agg [.slice]), (1, .int .i64)] fun K => spec_l16Fork (curV [(4, .blk), (5, .blk)] (K .ret))

theorem spec_l16Fork_V : Valid Try.prog 57 code37 spec_l16Fork_F :=
  piece mixed (rows_cons (q' := [true, true, false, false]) spec_l16Fork_l0_V rfl rows_nil) (fun K => by intro p_1 p_l1 p_c1 i_2 h hd; exact (spec_l16Fork_eq K p_1 p_l1 p_c1 i_2 h) ▸ hd)

theorem spec_l16Fork_c0 (p_1 : Option Addr) (p_l1 : Nat) (p_c1 : Nat) (i_2 : Int) (h : H) (K : Value → H → Prop) :
  spec_l16Fork (fun b100001 b100002 h =>
  ldRow h b100001 0 0 [.slice] fun a100003 l100003 c100003 =>
  ldRow h b100002 0 0 [.int .i64, .int .i64, .int .i64] fun n100004 n100005 n100006 =>
  K (.tuple ⟨[.agg ⟨[.slice a100003 l100003 c100003]⟩, .agg ⟨[.int .i64 n100004, .int .i64 n100005, .int .i64 n100006]⟩]⟩) h) p_1 p_l1 p_c1 i_2 h = callF Try.prog Try.f37.results.toList spec_l16Fork_F [.agg ⟨[.slice p_1 p_l1 p_c1]⟩, .int .i64 i_2] h K := by kernel_rfl

theorem spec_l16Fork_call {p_1 : Option Addr} {p_l1 : Nat} {p_c1 : Nat} {i_2 : Int} {h : H} {K : Value → H → Prop} (hs : spec_l16Fork (fun b100001 b100002 h =>
  ldRow h b100001 0 0 [.slice] fun a100003 l100003 c100003 =>
  ldRow h b100002 0 0 [.int .i64, .int .i64, .int .i64] fun n100004 n100005 n100006 =>
  K (.tuple ⟨[.agg ⟨[.slice a100003 l100003 c100003]⟩, .agg ⟨[.int .i64 n100004, .int .i64 n100005, .int .i64 n100006]⟩]⟩) h) p_1 p_l1 p_c1 i_2 h) : callK Try.prog 37 ⟨[.agg ⟨[.slice p_1 p_l1 p_c1]⟩, .int .i64 i_2]⟩ h K :=
  func_calls Try.func37 body37 spec_l16Fork_V (Nat.le_of_ble_eq_true (by kernel_rfl)) (spec_l16Fork_c0 p_1 p_l1 p_c1 i_2 h K ▸ hs)

def spec_l16Fork_M_l0 (kx0 : Int → Int → Option Addr → Nat → Nat → H → Prop) : Nat → Int → Int → Option Addr → Nat → Nat → H → Prop
 | 0, _, _, _, _, _, _ => False
 | N + 1, i_3, id_4, a5, l5, c5, h =>
  ifB (decide ((id_4 : Int) ≤ 32))
  (callD Try.prog 25 ⟨[.agg ⟨[.slice a5 l5 c5]⟩, .int .i64 id_4]⟩ h fun v13 h =>
  asI .i64 v13 fun n14 =>
  ifB (decide ((n14 : Int) ≥ 0))
  (spec_l16Fork_M_l0 kx0 N i_3 (IntKind.i64.wrap (id_4 + 1)) a5 l5 c5 h)
  (kx0 i_3 id_4 a5 l5 c5 h))
  (kx0 i_3 id_4 a5 l5 c5 h)

def spec_l16Fork_M (kr : Option Addr → Nat → Nat → Int → Int → Int → H → Prop) (p_1 : Option Addr) (p_l1 : Nat) (p_c1 : Nat) (i_2 : Int) (h : H) : Prop :=
  ∃ M30, spec_l16Fork_M_l0 (fun i_3 id_4 a5 l5 c5 h =>
  ifB (decide ((id_4 : Int) > 32))
  (kr a5 l5 c5 18 0 0 h)
  (req (0 ≤ (i_3 : Int) ∧ (i_3 : Int) < (l5 : Nat))
  (nz a5 fun b13 o14 =>
  ldRow h b13 (o14 + i_3.toNat * 10) 0 [.int .i64, .int .i64, .int .i64, .int .i64, .int .i64, .int .i64, .int .i64, .int .i64, .int .i64, .int .i64] fun n15 n16 n17 n18 n19 n20 n21 n22 n23 n24 =>
  newD h [] 38 fun b25 h =>
  req (0 ≤ (IntKind.i64.wrap (id_4 - 1) : Int) ∧ (IntKind.i64.wrap (id_4 - 1) : Int) ≤ (c5 : Nat))
  (req (plainA a5 = true)
  (appendD Try.prog 38 h (some ⟨b25, 0, none⟩) 0 0 (.slice (slB a5 0 c5 10) ((IntKind.i64.wrap (id_4 - 1)).toNat - 0) (c5 - 0)) fun a26 l26 c26 h =>
  newD h [.int .i64 id_4, .int .i64 n15, .int .i64 n17, .int .i64 n18, .int .i64 1, .int .i64 n20, .int .i64 0, .int .i64 n22, .int .i64 n23, .int .i64 n24] 38 fun b27 h =>
  appendD Try.prog 38 h a26 l26 c26 (.slice (some ⟨b27, 0, none⟩) 1 1) fun a28 l28 c28 h =>
  req (0 ≤ (IntKind.i64.wrap (id_4 - 1) : Int) ∧ (IntKind.i64.wrap (id_4 - 1) : Int) ≤ (l5 : Nat))
  (req (plainA a5 = true)
  (appendD Try.prog 38 h a28 l28 c28 (.slice (slB a5 ((IntKind.i64.wrap (id_4 - 1)).toNat) c5 10) (l5 - (IntKind.i64.wrap (id_4 - 1)).toNat) (c5 - (IntKind.i64.wrap (id_4 - 1)).toNat)) fun a29 l29 c29 h =>
  kr a29 l29 c29 0 id_4 0 h))))))) M30 i_2 1 p_1 p_l1 p_c1 h

theorem spec_l16Fork_M_l0_D {g0 m0 : H} {kx0_1 : Int → Nat → Nat → Nat → Int → H → Prop} {kx0_2 : Int → Int → Option Addr → Nat → Nat → H → Prop} (Hkx0 : ∀ (i_200001 : Int) (id_200002 : Int) (a200003 : Option Addr) (l200003 : Nat) (c200003 : Nat) (a200005 : Option Addr) (l200005 : Nat) (c200005 : Nat) (n200007 : Int) (n200008 : Int) (n200009 : Int) (p200004 : Nat) (p200006 : Nat) (p200010 : Nat) (g m : H), Md g0 m0 g m [lo p200004 [.slice a200003 l200003 c200003], lo p200006 [.slice a200005 l200005 c200005], lo p200010 [.int .i64 n200007, .int .i64 n200008, .int .i64 n200009]] → kx0_2 i_200001 id_200002 a200003 l200003 c200003 m → kx0_1 i_200001 p200004 p200006 p200010 id_200002 g) : ∀ (N : Nat) (i_1003 : Int) (id_1004 : Int) (a1005 : Option Addr) (l1005 : Nat) (c1005 : Nat) (a1007 : Option Addr) (l1007 : Nat) (c1007 : Nat) (n1009 : Int) (n1010 : Int) (n1011 : Int) (p1006 : Nat) (p1008 : Nat) (p1012 : Nat) (g m : H), Md g0 m0 g m [lo p1006 [.slice a1005 l1005 c1005], lo p1008 [.slice a1007 l1007 c1007], lo p1012 [.int .i64 n1009, .int .i64 n1010, .int .i64 n1011]] → spec_l16Fork_M_l0 kx0_2 N i_1003 id_1004 a1005 l1005 c1005 m → spec_l16Fork_l0 kx0_1 N i_1003 p1006 p1008 p1012 id_1004 g := by
  intro N
  induction N with
  | zero => intro i_1003 id_1004 a1005 l1005 c1005 a1007 l1007 c1007 n1009 n1010 n1011 p1006 p1008 p1012 g m R h0; exact h0.elim
  | succ N ih =>
    intro i_1003 id_1004 a1005 l1005 c1005 a1007 l1007 c1007 n1009 n1010 n1011 p1006 p1008 p1012 g m R
    rw [spec_l16Fork_M_l0, spec_l16Fork_l0]
    exact (d_if (p_row_L R rfl (d_call R fun v1013 g m R =>
  (d_asI fun n1014 =>
  (d_if (ih i_1003 (IntKind.i64.wrap (id_1004 + 1)) a1005 l1005 c1005 a1007 l1007 c1007 n1009 n1010 n1011 p1006 p1008 p1012 _ _ R.sub)
  (Hkx0 i_1003 id_1004 a1005 l1005 c1005 a1007 l1007 c1007 n1009 n1010 n1011 p1006 p1008 p1012 _ _ R.sub)))))
  (Hkx0 i_1003 id_1004 a1005 l1005 c1005 a1007 l1007 c1007 n1009 n1010 n1011 p1006 p1008 p1012 _ _ R.sub))

theorem spec_l16Fork_M_D {g0 m0 : H} {kr_1 : Nat → Nat → H → Prop} {kr_2 : Option Addr → Nat → Nat → Int → Int → Int → H → Prop} (Hkr : ∀ (a200001 : Option Addr) (l200001 : Nat) (c200001 : Nat) (n200003 : Int) (n200004 : Int) (n200005 : Int) (p200002 : Nat) (p200006 : Nat) (g m : H), Md g0 m0 g m [lo p200002 [.slice a200001 l200001 c200001], lo p200006 [.int .i64 n200003, .int .i64 n200004, .int .i64 n200005]] → kr_2 a200001 l200001 c200001 n200003 n200004 n200005 m → kr_1 p200002 p200006 g) : ∀ (p_1001 : Option Addr) (p_l1001 : Nat) (p_c1001 : Nat) (i_1002 : Int) (g m : H), Md g0 m0 g m [] → spec_l16Fork_M kr_2 p_1001 p_l1001 p_c1001 i_1002 m → spec_l16Fork kr_1 p_1001 p_l1001 p_c1001 i_1002 g := by
  intro p_1001 p_l1001 p_c1001 i_1002 g m R
  rw [spec_l16Fork_M, spec_l16Fork]
  exact (p_new R fun p1003 g R =>
  (p_new R fun p1004 g R =>
  (p_new R fun p1005 g R =>
  (d_ex fun N => spec_l16Fork_M_l0_D (by exact fun i_1006 id_1007 a1008 l1008 c1008 a1010 l1010 c1010 n1012 n1013 n1014 p1009 p1011 p1015 g m R =>
  (d_if (p_row_L R rfl (p_stRow R (cs' := [.slice a1008 l1008 c1008]) ⟨rfl, rfl, rfl⟩ fun g R =>
  (p_stRow R (cs' := [.int .i64 18, .int .i64 0, .int .i64 0]) ⟨rfl, rfl, rfl⟩ fun g R =>
  (Hkr a1008 l1008 c1008 18 0 0 p1011 p1015 _ _ R.sub))))
  (p_ldL R rfl (d_req (d_nz fun b1016 o1017 =>
  (d_row_I10 R fun n1018 n1019 n1020 n1021 n1022 n1023 n1024 n1025 n1026 n1027 =>
  (p_new R fun p1028 g R =>
  (p_stRow R (cs' := [.int .i64 n1018, .int .i64 n1019, .int .i64 n1020, .int .i64 n1021, .int .i64 n1022, .int .i64 n1023, .int .i64 n1024, .int .i64 n1025, .int .i64 n1026, .int .i64 n1027]) ⟨rfl, rfl, rfl⟩ fun g R =>
  (p_ldI R rfl (p_st R (cs' := [.int .i64 n1018, .int .i64 n1018, .int .i64 n1020, .int .i64 n1021, .int .i64 n1022, .int .i64 n1023, .int .i64 n1024, .int .i64 n1025, .int .i64 n1026, .int .i64 n1027]) ⟨rfl, rfl⟩ fun g R =>
  (p_st R (cs' := [.int .i64 id_1007, .int .i64 n1018, .int .i64 n1020, .int .i64 n1021, .int .i64 n1022, .int .i64 n1023, .int .i64 n1024, .int .i64 n1025, .int .i64 n1026, .int .i64 n1027]) ⟨rfl, rfl⟩ fun g R =>
  (p_st R (cs' := [.int .i64 id_1007, .int .i64 n1018, .int .i64 n1020, .int .i64 n1021, .int .i64 1, .int .i64 n1023, .int .i64 n1024, .int .i64 n1025, .int .i64 n1026, .int .i64 n1027]) ⟨rfl, rfl⟩ fun g R =>
  (p_st R (cs' := [.int .i64 id_1007, .int .i64 n1018, .int .i64 n1020, .int .i64 n1021, .int .i64 1, .int .i64 n1023, .int .i64 0, .int .i64 n1025, .int .i64 n1026, .int .i64 n1027]) ⟨rfl, rfl⟩ fun g R =>
  (d_new R fun b1029 g m R =>
  (p_ldL R rfl (d_req (d_req (d_append R fun a1030 l1030 c1030 g m R =>
  (p_row_I10 R rfl rfl rfl rfl rfl rfl rfl rfl rfl rfl (d_new R fun b1031 g m R =>
  (d_append R fun a1032 l1032 c1032 g m R =>
  (p_ldL R rfl (d_req (d_req (d_append R fun a1033 l1033 c1033 g m R =>
  (p_st R (cs' := [.slice a1033 l1033 c1033]) ⟨rfl, rfl⟩ fun g R =>
  (p_row_L R rfl (p_stRow R (cs' := [.slice a1033 l1033 c1033]) ⟨rfl, rfl, rfl⟩ fun g R =>
  (p_stRow R (cs' := [.int .i64 0, .int .i64 id_1007, .int .i64 0]) ⟨rfl, rfl, rfl⟩ fun g R =>
  (Hkr a1033 l1033 c1033 0 id_1007 0 p1011 p1015 _ _ R.sub)))))))))))))))))))))))))))))) N i_1002 1 p_1001 p_l1001 p_c1001 none 0 0 0 0 0 p1003 p1004 p1005 _ _ R.sub))))

theorem spec_l16Fork_M_call {p_1 : Option Addr} {p_l1 : Nat} {p_c1 : Nat} {i_2 : Int} {h : H} {K : Value → H → Prop} (hs : spec_l16Fork_M (fun a300001 l300001 c300001 n300003 n300004 n300005 h =>
  K (.tuple ⟨[.agg ⟨[.slice a300001 l300001 c300001]⟩, .agg ⟨[.int .i64 n300003, .int .i64 n300004, .int .i64 n300005]⟩]⟩) h) p_1 p_l1 p_c1 i_2 h) : callD Try.prog 37 ⟨[.agg ⟨[.slice p_1 p_l1 p_c1]⟩, .int .i64 i_2]⟩ h K :=
  fun g r => spec_l16Fork_call (spec_l16Fork_M_D (by exact fun a300001 l300001 c300001 n300003 n300004 n300005 p300002 p300006 g m R =>
(p_row_L R rfl (p_row_I3 R rfl rfl rfl (fun h => ⟨m, R.af, h⟩)))) _ _ _ _ _ _ (Md.start r) hs)

noncomputable def code40 : Code := codeOf Try.f40
theorem body40 : Try.f40.body = some code40 := by kernel_rfl
def spec_l16Has (kr : Bool → H → Prop) (n1 : Int) (sig_2 : Int) (h : H) : Prop :=
  callK Try.prog 60 ⟨[.int .i64 sig_2]⟩ h fun v3 h =>
  asI .i64 v3 fun n4 =>
  req ((n4 : Int) ≠ 0)
  (kr (((IntKind.i64.wrap ((n1 : Int).tdiv n4) : Int).tmod 2 : Int) == 1) h)

theorem spec_l16Has_eq (K : Cont) (n1 : Int) (sig_2 : Int) (h : H) :
  spec_l16Has (curV [(4, .bool)] (K .ret)) n1 sig_2 h = evC Try.prog 11 [] [] code40 [(0, .int .i64 n1), (1, .int .i64 sig_2)] h (outsOf none [] (some [(4, .bool)]) K).K := by kernel_rfl

def spec_l16Has_F : PT := mkF [(0, .int .i64), (1, .int .i64)] fun K => spec_l16Has (curV [(4, .bool)] (K .ret))

theorem spec_l16Has_V : Valid Try.prog 11 code40 spec_l16Has_F :=
  piece mixed rows_nil (fun K => by intro n1 sig_2 h hd; exact (spec_l16Has_eq K n1 sig_2 h) ▸ hd)

theorem spec_l16Has_c0 (n1 : Int) (sig_2 : Int) (h : H) (K : Value → H → Prop) :
  spec_l16Has (fun t100001 h =>
  K (.bool t100001) h) n1 sig_2 h = callF Try.prog Try.f40.results.toList spec_l16Has_F [.int .i64 n1, .int .i64 sig_2] h K := by kernel_rfl

theorem spec_l16Has_call {n1 : Int} {sig_2 : Int} {h : H} {K : Value → H → Prop} (hs : spec_l16Has (fun t100001 h =>
  K (.bool t100001) h) n1 sig_2 h) : callK Try.prog 40 ⟨[.int .i64 n1, .int .i64 sig_2]⟩ h K :=
  func_calls Try.func40 body40 spec_l16Has_V (Nat.le_of_ble_eq_true (by kernel_rfl)) (spec_l16Has_c0 n1 sig_2 h K ▸ hs)

def spec_l16Has_M (kr : Bool → H → Prop) (n1 : Int) (sig_2 : Int) (h : H) : Prop :=
  callD Try.prog 60 ⟨[.int .i64 sig_2]⟩ h fun v3 h =>
  asI .i64 v3 fun n4 =>
  req ((n4 : Int) ≠ 0)
  (kr (((IntKind.i64.wrap ((n1 : Int).tdiv n4) : Int).tmod 2 : Int) == 1) h)

theorem spec_l16Has_M_D {g0 m0 : H} {kr_1 : Bool → H → Prop} {kr_2 : Bool → H → Prop} (Hkr : ∀ (t200001 : Bool) (g m : H), Md g0 m0 g m [] → kr_2 t200001 m → kr_1 t200001 g) : ∀ (n1001 : Int) (sig_1002 : Int) (g m : H), Md g0 m0 g m [] → spec_l16Has_M kr_2 n1001 sig_1002 m → spec_l16Has kr_1 n1001 sig_1002 g := by
  intro n1001 sig_1002 g m R
  rw [spec_l16Has_M, spec_l16Has]
  exact (d_call R fun v1003 g m R =>
  (d_asI fun n1004 =>
  (d_req (Hkr (((IntKind.i64.wrap ((n1001 : Int).tdiv n1004) : Int).tmod 2 : Int) == 1) _ _ R.sub))))

theorem spec_l16Has_M_call {n1 : Int} {sig_2 : Int} {h : H} {K : Value → H → Prop} (hs : spec_l16Has_M (fun t300001 h =>
  K (.bool t300001) h) n1 sig_2 h) : callD Try.prog 40 ⟨[.int .i64 n1, .int .i64 sig_2]⟩ h K :=
  fun g r => spec_l16Has_call (spec_l16Has_M_D (by exact fun t300001 g m R =>
(fun h => ⟨m, R.af, h⟩)) _ _ _ _ (Md.start r) hs)

noncomputable def code42 : Code := codeOf Try.f42
theorem body42 : Try.f42.body = some code42 := by kernel_rfl
def spec_l16Set (kr : Bool → H → Prop) (x_1 : Int) (h : H) : Prop :=
  ifB (decide ((x_1 : Int) ≥ 0))
  (callK Try.prog 60 ⟨[.int .i64 16]⟩ h fun v2 h =>
  asI .i64 v2 fun n3 =>
  ifB (decide ((x_1 : Int) < n3))
  (kr (((x_1 : Int).tmod 2 : Int) == 0) h)
  (kr false h))
  (kr false h)

theorem spec_l16Set_eq (K : Cont) (x_1 : Int) (h : H) :
  spec_l16Set (curV [(2, .bool)] (K .ret)) x_1 h = evC Try.prog 15 [] [] code42 [(0, .int .i64 x_1)] h (outsOf none [] (some [(2, .bool)]) K).K := by kernel_rfl

def spec_l16Set_F : PT := mkF [(0, .int .i64)] fun K => spec_l16Set (curV [(2, .bool)] (K .ret))

theorem spec_l16Set_V : Valid Try.prog 15 code42 spec_l16Set_F :=
  piece mixed rows_nil (fun K => by intro x_1 h hd; exact (spec_l16Set_eq K x_1 h) ▸ hd)

theorem spec_l16Set_c0 (x_1 : Int) (h : H) (K : Value → H → Prop) :
  spec_l16Set (fun t100001 h =>
  K (.bool t100001) h) x_1 h = callF Try.prog Try.f42.results.toList spec_l16Set_F [.int .i64 x_1] h K := by kernel_rfl

theorem spec_l16Set_call {x_1 : Int} {h : H} {K : Value → H → Prop} (hs : spec_l16Set (fun t100001 h =>
  K (.bool t100001) h) x_1 h) : callK Try.prog 42 ⟨[.int .i64 x_1]⟩ h K :=
  func_calls Try.func42 body42 spec_l16Set_V (Nat.le_of_ble_eq_true (by kernel_rfl)) (spec_l16Set_c0 x_1 h K ▸ hs)

def spec_l16Set_M (kr : Bool → H → Prop) (x_1 : Int) (h : H) : Prop :=
  ifB (decide ((x_1 : Int) ≥ 0))
  (callD Try.prog 60 ⟨[.int .i64 16]⟩ h fun v2 h =>
  asI .i64 v2 fun n3 =>
  ifB (decide ((x_1 : Int) < n3))
  (kr (((x_1 : Int).tmod 2 : Int) == 0) h)
  (kr false h))
  (kr false h)

theorem spec_l16Set_M_D {g0 m0 : H} {kr_1 : Bool → H → Prop} {kr_2 : Bool → H → Prop} (Hkr : ∀ (t200001 : Bool) (g m : H), Md g0 m0 g m [] → kr_2 t200001 m → kr_1 t200001 g) : ∀ (x_1001 : Int) (g m : H), Md g0 m0 g m [] → spec_l16Set_M kr_2 x_1001 m → spec_l16Set kr_1 x_1001 g := by
  intro x_1001 g m R
  rw [spec_l16Set_M, spec_l16Set]
  exact (d_if (d_call R fun v1002 g m R =>
  (d_asI fun n1003 =>
  (d_if (Hkr (((x_1001 : Int).tmod 2 : Int) == 0) _ _ R.sub)
  (Hkr false _ _ R.sub))))
  (Hkr false _ _ R.sub))

theorem spec_l16Set_M_call {x_1 : Int} {h : H} {K : Value → H → Prop} (hs : spec_l16Set_M (fun t300001 h =>
  K (.bool t300001) h) x_1 h) : callD Try.prog 42 ⟨[.int .i64 x_1]⟩ h K :=
  fun g r => spec_l16Set_call (spec_l16Set_M_D (by exact fun t300001 g m R =>
(fun h => ⟨m, R.af, h⟩)) _ _ _ (Md.start r) hs)

noncomputable def code43 : Code := codeOf Try.f43
theorem body43 : Try.f43.body = some code43 := by kernel_rfl
def spec_l16Soft (kr : Bool → H → Prop) (x_1 : Int) (h : H) : Prop :=
  callK Try.prog 42 ⟨[.int .i64 x_1]⟩ h fun v2 h =>
  asB v2 fun t3 =>
  ifB t3
  (callK Try.prog 40 ⟨[.int .i64 x_1, .int .i64 9]⟩ h fun v4 h =>
  asB v4 fun t5 =>
  ifB (!t5)
  (callK Try.prog 40 ⟨[.int .i64 x_1, .int .i64 12]⟩ h fun v6 h =>
  asB v6 fun t7 =>
  kr (!t7) h)
  (kr false h))
  (kr false h)

theorem spec_l16Soft_eq (K : Cont) (x_1 : Int) (h : H) :
  spec_l16Soft (curV [(2, .bool)] (K .ret)) x_1 h = evC Try.prog 15 [] [] code43 [(0, .int .i64 x_1)] h (outsOf none [] (some [(2, .bool)]) K).K := by kernel_rfl

def spec_l16Soft_F : PT := mkF [(0, .int .i64)] fun K => spec_l16Soft (curV [(2, .bool)] (K .ret))

theorem spec_l16Soft_V : Valid Try.prog 15 code43 spec_l16Soft_F :=
  piece mixed rows_nil (fun K => by intro x_1 h hd; exact (spec_l16Soft_eq K x_1 h) ▸ hd)

theorem spec_l16Soft_c0 (x_1 : Int) (h : H) (K : Value → H → Prop) :
  spec_l16Soft (fun t100001 h =>
  K (.bool t100001) h) x_1 h = callF Try.prog Try.f43.results.toList spec_l16Soft_F [.int .i64 x_1] h K := by kernel_rfl

theorem spec_l16Soft_call {x_1 : Int} {h : H} {K : Value → H → Prop} (hs : spec_l16Soft (fun t100001 h =>
  K (.bool t100001) h) x_1 h) : callK Try.prog 43 ⟨[.int .i64 x_1]⟩ h K :=
  func_calls Try.func43 body43 spec_l16Soft_V (Nat.le_of_ble_eq_true (by kernel_rfl)) (spec_l16Soft_c0 x_1 h K ▸ hs)

def spec_l16Soft_M (kr : Bool → H → Prop) (x_1 : Int) (h : H) : Prop :=
  callD Try.prog 42 ⟨[.int .i64 x_1]⟩ h fun v2 h =>
  asB v2 fun t3 =>
  ifB t3
  (callD Try.prog 40 ⟨[.int .i64 x_1, .int .i64 9]⟩ h fun v4 h =>
  asB v4 fun t5 =>
  ifB (!t5)
  (callD Try.prog 40 ⟨[.int .i64 x_1, .int .i64 12]⟩ h fun v6 h =>
  asB v6 fun t7 =>
  kr (!t7) h)
  (kr false h))
  (kr false h)

theorem spec_l16Soft_M_D {g0 m0 : H} {kr_1 : Bool → H → Prop} {kr_2 : Bool → H → Prop} (Hkr : ∀ (t200001 : Bool) (g m : H), Md g0 m0 g m [] → kr_2 t200001 m → kr_1 t200001 g) : ∀ (x_1001 : Int) (g m : H), Md g0 m0 g m [] → spec_l16Soft_M kr_2 x_1001 m → spec_l16Soft kr_1 x_1001 g := by
  intro x_1001 g m R
  rw [spec_l16Soft_M, spec_l16Soft]
  exact (d_call R fun v1002 g m R =>
  (d_asB fun t1003 =>
  (d_if (d_call R fun v1004 g m R =>
  (d_asB fun t1005 =>
  (d_if (d_call R fun v1006 g m R =>
  (d_asB fun t1007 =>
  (Hkr (!t1007) _ _ R.sub)))
  (Hkr false _ _ R.sub))))
  (Hkr false _ _ R.sub))))

theorem spec_l16Soft_M_call {x_1 : Int} {h : H} {K : Value → H → Prop} (hs : spec_l16Soft_M (fun t300001 h =>
  K (.bool t300001) h) x_1 h) : callD Try.prog 43 ⟨[.int .i64 x_1]⟩ h K :=
  fun g r => spec_l16Soft_call (spec_l16Soft_M_D (by exact fun t300001 g m R =>
(fun h => ⟨m, R.af, h⟩)) _ _ _ (Md.start r) hs)

noncomputable def code44 : Code := codeOf Try.f44
theorem body44 : Try.f44.body = some code44 := by kernel_rfl
def impl_Procs_step_c1 (kr : Nat → H → Prop) (c_1 : Int) (h : H) : Prop :=
  new h [.int .i64 0, .int .i64 0, .int .i64 0] 34 fun b2 h =>
  stRow h b2 0 0 [.int .i64 c_1, .int .i64 0, .int .i64 0] fun h =>
  kr b2 h

theorem impl_Procs_step_c1_eq (K : Cont) (c_1 : Int) (h : H) :
  impl_Procs_step_c1 (curV [(2, .blk)] (K .ret)) c_1 h = evC Try.prog 5 [] [] code44 [(0, .int .i64 c_1)] h (outsOf none [] (some [(2, .blk)]) K).K := by kernel_rfl

def impl_Procs_step_c1_F : PT := mkF [(0, .int .i64)] fun K => impl_Procs_step_c1 (curV [(2, .blk)] (K .ret))

theorem impl_Procs_step_c1_V : Valid Try.prog 5 code44 impl_Procs_step_c1_F :=
  piece mixed rows_nil (fun K => by intro c_1 h hd; exact (impl_Procs_step_c1_eq K c_1 h) ▸ hd)

theorem impl_Procs_step_c1_c0 (c_1 : Int) (h : H) (K : Value → H → Prop) :
  impl_Procs_step_c1 (fun b100001 h =>
  ldRow h b100001 0 0 [.int .i64, .int .i64, .int .i64] fun n100002 n100003 n100004 =>
  K (.agg ⟨[.int .i64 n100002, .int .i64 n100003, .int .i64 n100004]⟩) h) c_1 h = callF Try.prog Try.f44.results.toList impl_Procs_step_c1_F [.int .i64 c_1] h K := by kernel_rfl

theorem impl_Procs_step_c1_call {c_1 : Int} {h : H} {K : Value → H → Prop} (hs : impl_Procs_step_c1 (fun b100001 h =>
  ldRow h b100001 0 0 [.int .i64, .int .i64, .int .i64] fun n100002 n100003 n100004 =>
  K (.agg ⟨[.int .i64 n100002, .int .i64 n100003, .int .i64 n100004]⟩) h) c_1 h) : callK Try.prog 44 ⟨[.int .i64 c_1]⟩ h K :=
  func_calls Try.func44 body44 impl_Procs_step_c1_V (Nat.le_of_ble_eq_true (by kernel_rfl)) (impl_Procs_step_c1_c0 c_1 h K ▸ hs)

def impl_Procs_step_c1_M (kr : Int → Int → Int → H → Prop) (c_1 : Int) (h : H) : Prop :=
  kr c_1 0 0 h

theorem impl_Procs_step_c1_M_D {g0 m0 : H} {kr_1 : Nat → H → Prop} {kr_2 : Int → Int → Int → H → Prop} (Hkr : ∀ (n200001 : Int) (n200002 : Int) (n200003 : Int) (p200004 : Nat) (g m : H), Md g0 m0 g m [lo p200004 [.int .i64 n200001, .int .i64 n200002, .int .i64 n200003]] → kr_2 n200001 n200002 n200003 m → kr_1 p200004 g) : ∀ (c_1001 : Int) (g m : H), Md g0 m0 g m [] → impl_Procs_step_c1_M kr_2 c_1001 m → impl_Procs_step_c1 kr_1 c_1001 g := by
  intro c_1001 g m R
  rw [impl_Procs_step_c1_M, impl_Procs_step_c1]
  exact (p_new R fun p1002 g R =>
  (p_stRow R (cs' := [.int .i64 c_1001, .int .i64 0, .int .i64 0]) ⟨rfl, rfl, rfl⟩ fun g R =>
  (Hkr c_1001 0 0 p1002 _ _ R.sub)))

theorem impl_Procs_step_c1_M_call {c_1 : Int} {h : H} {K : Value → H → Prop} (hs : impl_Procs_step_c1_M (fun n300001 n300002 n300003 h =>
  K (.agg ⟨[.int .i64 n300001, .int .i64 n300002, .int .i64 n300003]⟩) h) c_1 h) : callD Try.prog 44 ⟨[.int .i64 c_1]⟩ h K :=
  fun g r => impl_Procs_step_c1_call (impl_Procs_step_c1_M_D (by exact fun n300001 n300002 n300003 p300004 g m R =>
(p_row_I3 R rfl rfl rfl (fun h => ⟨m, R.af, h⟩))) _ _ _ (Md.start r) hs)

noncomputable def code45 : Code := codeOf Try.f45
theorem body45 : Try.f45.body = some code45 := by kernel_rfl
def impl_Procs_step_c2 (kr : Bool → H → Prop) (y_1 : Int) (y_2 : Int) (y_3 : Int) (y_4 : Int) (y_5 : Int) (y_6 : Int) (y_7 : Int) (y_8 : Int) (y_9 : Int) (y_10 : Int) (b11 : Nat) (o12 : Nat) (b13 : Nat) (o14 : Nat) (h : H) : Prop :=
  new h [.int .i64 y_1, .int .i64 y_2, .int .i64 y_3, .int .i64 y_4, .int .i64 y_5, .int .i64 y_6, .int .i64 y_7, .int .i64 y_8, .int .i64 y_9, .int .i64 y_10] 38 fun b15 h =>
  ldI .i64 h b11 (o12 + 2) fun n16 =>
  ifB (decide ((n16 : Int) > 0))
  (ldI .i64 h b15 0 fun n17 =>
  ldI .i64 h b11 (o12 + 2) fun n18 =>
  kr ((n17 : Int) == n18) h)
  (ldI .i64 h b11 (o12 + 2) fun n19 =>
  ifB ((n19 : Int) == 0)
  (ldI .i64 h b15 2 fun n20 =>
  ldP h b13 o14 fun p21 =>
  nz p21 fun b22 o23 =>
  ldI .i64 h b22 (o23 + 2) fun n24 =>
  kr ((n20 : Int) == n24) h)
  (ldI .i64 h b11 (o12 + 2) fun n25 =>
  ifB ((n25 : Int) == (-1))
  (kr true h)
  (ldI .i64 h b15 2 fun n26 =>
  ldI .i64 h b11 (o12 + 2) fun n27 =>
  kr ((n26 : Int) == (IntKind.i64.wrap (0 - n27))) h)))

theorem impl_Procs_step_c2_eq (K : Cont) (y_1 : Int) (y_2 : Int) (y_3 : Int) (y_4 : Int) (y_5 : Int) (y_6 : Int) (y_7 : Int) (y_8 : Int) (y_9 : Int) (y_10 : Int) (b11 : Nat) (o12 : Nat) (b13 : Nat) (o14 : Nat) (h : H) :
  impl_Procs_step_c2 (curV [(4, .bool)] (K .ret)) y_1 y_2 y_3 y_4 y_5 y_6 y_7 y_8 y_9 y_10 b11 o12 b13 o14 h = evC Try.prog 35 [] [] code45 [(0, .agg ⟨[.int .i64 y_1, .int .i64 y_2, .int .i64 y_3, .int .i64 y_4, .int .i64 y_5, .int .i64 y_6, .int .i64 y_7, .int .i64 y_8, .int .i64 y_9, .int .i64 y_10]⟩), (1, .pointer (some ⟨b11, o12, none⟩)), (2, .pointer (some ⟨b13, o14, none⟩))] h (outsOf none [] (some [(4, .bool)]) K).K := by kernel_rfl

def impl_Procs_step_c2_F : PT := mkF [(0, .agg [.int .i64, .int .i64, .int .i64, .int .i64, .int .i64, .int .i64, .int .i64, .int .i64, .int .i64, .int .i64]), (1, .adr), (2, .adr)] fun K => impl_Procs_step_c2 (curV [(4, .bool)] (K .ret))

theorem impl_Procs_step_c2_V : Valid Try.prog 35 code45 impl_Procs_step_c2_F :=
  piece mixed rows_nil (fun K => by intro y_1 y_2 y_3 y_4 y_5 y_6 y_7 y_8 y_9 y_10 b11 o12 b13 o14 h hd; exact (impl_Procs_step_c2_eq K y_1 y_2 y_3 y_4 y_5 y_6 y_7 y_8 y_9 y_10 b11 o12 b13 o14 h) ▸ hd)

theorem impl_Procs_step_c2_c0 (y_1 : Int) (y_2 : Int) (y_3 : Int) (y_4 : Int) (y_5 : Int) (y_6 : Int) (y_7 : Int) (y_8 : Int) (y_9 : Int) (y_10 : Int) (b11 : Nat) (o12 : Nat) (b13 : Nat) (o14 : Nat) (h : H) (K : Value → H → Prop) :
  impl_Procs_step_c2 (fun t100001 h =>
  K (.bool t100001) h) y_1 y_2 y_3 y_4 y_5 y_6 y_7 y_8 y_9 y_10 b11 o12 b13 o14 h = callF Try.prog Try.f45.results.toList impl_Procs_step_c2_F [.agg ⟨[.int .i64 y_1, .int .i64 y_2, .int .i64 y_3, .int .i64 y_4, .int .i64 y_5, .int .i64 y_6, .int .i64 y_7, .int .i64 y_8, .int .i64 y_9, .int .i64 y_10]⟩, .pointer (some ⟨b11, o12, none⟩), .pointer (some ⟨b13, o14, none⟩)] h K := by kernel_rfl

theorem impl_Procs_step_c2_call {y_1 : Int} {y_2 : Int} {y_3 : Int} {y_4 : Int} {y_5 : Int} {y_6 : Int} {y_7 : Int} {y_8 : Int} {y_9 : Int} {y_10 : Int} {b11 : Nat} {o12 : Nat} {b13 : Nat} {o14 : Nat} {h : H} {K : Value → H → Prop} (hs : impl_Procs_step_c2 (fun t100001 h =>
  K (.bool t100001) h) y_1 y_2 y_3 y_4 y_5 y_6 y_7 y_8 y_9 y_10 b11 o12 b13 o14 h) : callK Try.prog 45 ⟨[.agg ⟨[.int .i64 y_1, .int .i64 y_2, .int .i64 y_3, .int .i64 y_4, .int .i64 y_5, .int .i64 y_6, .int .i64 y_7, .int .i64 y_8, .int .i64 y_9, .int .i64 y_10]⟩, .pointer (some ⟨b11, o12, none⟩), .pointer (some ⟨b13, o14, none⟩)]⟩ h K :=
  func_calls Try.func45 body45 impl_Procs_step_c2_V (Nat.le_of_ble_eq_true (by kernel_rfl)) (impl_Procs_step_c2_c0 y_1 y_2 y_3 y_4 y_5 y_6 y_7 y_8 y_9 y_10 b11 o12 b13 o14 h K ▸ hs)

def impl_Procs_step_c2_M (kr : Bool → H → Prop) (y_1 : Int) (y_2 : Int) (y_3 : Int) (y_4 : Int) (y_5 : Int) (y_6 : Int) (y_7 : Int) (y_8 : Int) (y_9 : Int) (y_10 : Int) (b11 : Nat) (o12 : Nat) (b13 : Nat) (o14 : Nat) (h : H) : Prop :=
  ldI .i64 h b11 (o12 + 2) fun n15 =>
  ifB (decide ((n15 : Int) > 0))
  (ldI .i64 h b11 (o12 + 2) fun n16 =>
  kr ((y_1 : Int) == n16) h)
  (ldI .i64 h b11 (o12 + 2) fun n17 =>
  ifB ((n17 : Int) == 0)
  (ldP h b13 o14 fun p18 =>
  nz p18 fun b19 o20 =>
  ldI .i64 h b19 (o20 + 2) fun n21 =>
  kr ((y_3 : Int) == n21) h)
  (ldI .i64 h b11 (o12 + 2) fun n22 =>
  ifB ((n22 : Int) == (-1))
  (kr true h)
  (ldI .i64 h b11 (o12 + 2) fun n23 =>
  kr ((y_3 : Int) == (IntKind.i64.wrap (0 - n23))) h)))

theorem impl_Procs_step_c2_M_D {g0 m0 : H} {kr_1 : Bool → H → Prop} {kr_2 : Bool → H → Prop} (Hkr : ∀ (t200001 : Bool) (g m : H), Md g0 m0 g m [] → kr_2 t200001 m → kr_1 t200001 g) : ∀ (y_1001 : Int) (y_1002 : Int) (y_1003 : Int) (y_1004 : Int) (y_1005 : Int) (y_1006 : Int) (y_1007 : Int) (y_1008 : Int) (y_1009 : Int) (y_1010 : Int) (b1011 : Nat) (o1012 : Nat) (b1013 : Nat) (o1014 : Nat) (g m : H), Md g0 m0 g m [] → impl_Procs_step_c2_M kr_2 y_1001 y_1002 y_1003 y_1004 y_1005 y_1006 y_1007 y_1008 y_1009 y_1010 b1011 o1012 b1013 o1014 m → impl_Procs_step_c2 kr_1 y_1001 y_1002 y_1003 y_1004 y_1005 y_1006 y_1007 y_1008 y_1009 y_1010 b1011 o1012 b1013 o1014 g := by
  intro y_1001 y_1002 y_1003 y_1004 y_1005 y_1006 y_1007 y_1008 y_1009 y_1010 b1011 o1012 b1013 o1014 g m R
  rw [impl_Procs_step_c2_M, impl_Procs_step_c2]
  exact (p_new R fun p1015 g R =>
  (d_ldI R fun n1016 =>
  (d_if (p_ldI R rfl (d_ldI R fun n1017 =>
  (Hkr ((y_1001 : Int) == n1017) _ _ R.sub)))
  (d_ldI R fun n1018 =>
  (d_if (p_ldI R rfl (d_ldP R fun p1019 =>
  (d_nz fun b1020 o1021 =>
  (d_ldI R fun n1022 =>
  (Hkr ((y_1003 : Int) == n1022) _ _ R.sub)))))
  (d_ldI R fun n1023 =>
  (d_if (Hkr true _ _ R.sub)
  (p_ldI R rfl (d_ldI R fun n1024 =>
  (Hkr ((y_1003 : Int) == (IntKind.i64.wrap (0 - n1024))) _ _ R.sub))))))))))

theorem impl_Procs_step_c2_M_call {y_1 : Int} {y_2 : Int} {y_3 : Int} {y_4 : Int} {y_5 : Int} {y_6 : Int} {y_7 : Int} {y_8 : Int} {y_9 : Int} {y_10 : Int} {b11 : Nat} {o12 : Nat} {b13 : Nat} {o14 : Nat} {h : H} {K : Value → H → Prop} (hs : impl_Procs_step_c2_M (fun t300001 h =>
  K (.bool t300001) h) y_1 y_2 y_3 y_4 y_5 y_6 y_7 y_8 y_9 y_10 b11 o12 b13 o14 h) : callD Try.prog 45 ⟨[.agg ⟨[.int .i64 y_1, .int .i64 y_2, .int .i64 y_3, .int .i64 y_4, .int .i64 y_5, .int .i64 y_6, .int .i64 y_7, .int .i64 y_8, .int .i64 y_9, .int .i64 y_10]⟩, .pointer (some ⟨b11, o12, none⟩), .pointer (some ⟨b13, o14, none⟩)]⟩ h K :=
  fun g r => impl_Procs_step_c2_call (impl_Procs_step_c2_M_D (by exact fun t300001 g m R =>
(fun h => ⟨m, R.af, h⟩)) _ _ _ _ _ _ _ _ _ _ _ _ _ _ _ _ (Md.start r) hs)

noncomputable def code46 : Code := codeOf Try.f46
theorem body46 : Try.f46.body = some code46 := by kernel_rfl
def impl_Procs_end_l0 (kx0 : Option Addr → Int → Int → Bool → H → Prop) : Nat → Option Addr → Int → Int → Bool → Int → Int → H → Prop
 | 0, _, _, _, _, _, _, _ => False
 | N + 1, p7, n8, n9, t10, n11, n12, h =>
  ifB (decide ((n12 : Int) < n11))
  (nz p7 fun b13 o14 =>
  ldL h b13 o14 fun a15 l15 c15 =>
  req (0 ≤ (n12 : Int) ∧ (n12 : Int) < (l15 : Nat))
  (nz a15 fun b16 o17 =>
  ldI .i64 h b16 ((o17 + n12.toNat * 10) + 1) fun n18 =>
  ifB ((n18 : Int) == n8)
  (st h b16 ((o17 + n12.toNat * 10) + 1) (.int .i64 1) fun h =>
  ifB t10
  (impl_Procs_end_l0 kx0 N p7 n8 n9 true n11 (IntKind.i64.wrap (n12 + 1)) h)
  (ldI .i64 h b16 ((o17 + n12.toNat * 10) + 4) fun n19 =>
  impl_Procs_end_l0 kx0 N p7 n8 n9 ((n19 : Int) == 3) n11 (IntKind.i64.wrap (n12 + 1)) h))
  (impl_Procs_end_l0 kx0 N p7 n8 n9 t10 n11 (IntKind.i64.wrap (n12 + 1)) h)))
  (kx0 p7 n8 n9 t10 h)

def impl_Procs_end_j1 (kn : H → Prop) (kr : H → Prop) (p24 : Option Addr) (n25 : Int) (n26 : Int) (h : H) : Prop :=
  callK Try.prog 19 ⟨[.pointer p24, .int .i64 n25]⟩ h fun v27 h =>
  asP v27 fun p28 =>
  nz p28 fun b29 o30 =>
  ldI .i64 h b29 (o30 + 1) fun n31 =>
  callK Try.prog 19 ⟨[.pointer p24, .int .i64 n31]⟩ h fun v32 h =>
  asP v32 fun p33 =>
  nz p33 fun b34 o35 =>
  ldI .i64 h b34 (o35 + 8) fun n36 =>
  ifB ((bAnd .i64 (sShr .i64 n36 14) 1 : Int) == 1)
  (callK Try.prog 47 ⟨[.pointer p24, .int .i64 n25]⟩ h fun v37 h =>
  elF False (.tuple []) v37
  (kr h))
  (nz p28 fun b38 o39 =>
  st h b38 (o39 + 4) (.int .i64 3) fun h =>
  nz p28 fun b40 o41 =>
  st h b40 (o41 + 5) (.int .i64 n26) fun h =>
  nz p28 fun b42 o43 =>
  st h b42 (o43 + 6) (.int .i64 0) fun h =>
  nz p28 fun b44 o45 =>
  st h b44 (o45 + 7) (.int .i64 0) fun h =>
  nz p28 fun b46 o47 =>
  st h b46 (o47 + 8) (.int .i64 0) fun h =>
  nz p28 fun b48 o49 =>
  st h b48 (o49 + 9) (.int .i64 0) fun h =>
  nz p33 fun b50 o51 =>
  ldI .i64 h b50 o51 fun n52 =>
  callK Try.prog 48 ⟨[.pointer p24, .int .i64 n52, .int .i64 14]⟩ h fun v53 h =>
  elF False (.tuple []) v53
  (kn h))

def impl_Procs_end (kn : H → Prop) (kr : H → Prop) (p1 : Option Addr) (n2 : Int) (n3 : Int) (h : H) : Prop :=
  nz p1 fun b4 o5 =>
  ldL h b4 o5 fun a6 l6 c6 =>
  ∃ M12, impl_Procs_end_l0 (fun p7 n8 n9 t10 h =>
  ifB t10
  (callK Try.prog 48 ⟨[.pointer p7, .int .i64 1, .int .i64 14]⟩ h fun v11 h =>
  elF False (.tuple []) v11
  (impl_Procs_end_j1 kn kr p7 n8 n9 h))
  (impl_Procs_end_j1 kn kr p7 n8 n9 h)) M12 p1 n2 n3 false (l6 : Nat) 0 h

theorem impl_Procs_end_l0_eq (K : Cont) (N : Nat) (p7 : Option Addr) (n8 : Int) (n9 : Int) (t10 : Bool) (n11 : Int) (n12 : Int) (h : H) :
  impl_Procs_end_l0 (curV [(0, .ptr), (1, .int .i64), (2, .int .i64), (6, .bool)] (K (.exit 0))) (N + 1) p7 n8 n9 t10 n11 n12 h = evC Try.prog 90 [] [] (sub code46 [true, false, true, false, false]) [(0, .pointer p7), (1, .int .i64 n8), (2, .int .i64 n9), (6, .bool t10), (15, .int .i64 n11), (16, .int .i64 n12)] h ((outsOf none [(0, [(0, .ptr), (1, .int .i64), (2, .int .i64), (6, .bool)])] none K).loop [(0, .ptr), (1, .int .i64), (2, .int .i64), (6, .bool), (15, .int .i64), (16, .int .i64)] (impl_Procs_end_l0 (curV [(0, .ptr), (1, .int .i64), (2, .int .i64), (6, .bool)] (K (.exit 0))) N)).K := by kernel_rfl

def impl_Procs_end_l0_F : PT := mkL [(0, .ptr), (1, .int .i64), (2, .int .i64), (6, .bool), (15, .int .i64), (16, .int .i64)] fun K N => impl_Procs_end_l0 (curV [(0, .ptr), (1, .int .i64), (2, .int .i64), (6, .bool)] (K (.exit 0))) N

theorem impl_Procs_end_l0_V : Valid Try.prog 90 (sub code46 [true, false, true, false]) impl_Procs_end_l0_F :=
  loop_at (code46) [true, false, true, false] (loop_piece (c := (sub code46 [true, false, true, false, false])) mixed rows_nil (fun K => by intro p7 n8 n9 t10 n11 n12 h hd; exact hd) (fun K N => by intro p7 n8 n9 t10 n11 n12 h hd; exact (impl_Procs_end_l0_eq K N p7 n8 n9 t10 n11 n12 h) ▸ hd))

theorem impl_Procs_end_j1_eq (K : Cont) (p24 : Option Addr) (n25 : Int) (n26 : Int) (h : H) :
  impl_Procs_end_j1 (curV [] (K .normal)) (curV [] (K .ret)) p24 n25 n26 h = evC Try.prog 90 [] [] (sub code46 [true, true, true]) [(0, .pointer p24), (1, .int .i64 n25), (2, .int .i64 n26)] h (outsOf (some []) [] (some []) K).K := by kernel_rfl

def impl_Procs_end_j1_F : PT := mkF [(0, .ptr), (1, .int .i64), (2, .int .i64)] fun K => impl_Procs_end_j1 (curV [] (K .normal)) (curV [] (K .ret))

theorem impl_Procs_end_j1_V : Valid Try.prog 90 (sub code46 [true, true, true]) impl_Procs_end_j1_F :=
  piece mixed rows_nil (fun K => by intro p24 n25 n26 h hd; exact (impl_Procs_end_j1_eq K p24 n25 n26 h) ▸ hd)

theorem impl_Procs_end_eq (K : Cont) (p1 : Option Addr) (n2 : Int) (n3 : Int) (h : H) :
  impl_Procs_end (curV [] (K .normal)) (curV [] (K .ret)) p1 n2 n3 h = evC Try.prog 90 [([false, false, true, false, true], impl_Procs_end_l0_F), ([true, true, true], impl_Procs_end_j1_F)] [] code46 [(0, .pointer p1), (1, .int .i64 n2), (2, .int .i64 n3)] h (outsOf (some []) [] (some []) K).K := by kernel_rfl

def impl_Procs_end_F : PT := mkF [(0, .ptr), (1, .int .i64), (2, .int .i64)] fun K => impl_Procs_end (curV [] (K .normal)) (curV [] (K .ret))

theorem impl_Procs_end_V : Valid Try.prog 90 code46 impl_Procs_end_F :=
  piece mixed (rows_cons (q' := [true, false, true, false]) impl_Procs_end_l0_V rfl (rows_cons (q' := [true, true, true]) impl_Procs_end_j1_V rfl rows_nil)) (fun K => by intro p1 n2 n3 h hd; exact (impl_Procs_end_eq K p1 n2 n3 h) ▸ hd)

theorem impl_Procs_end_c0 (p1 : Option Addr) (n2 : Int) (n3 : Int) (h : H) (K : Value → H → Prop) :
  impl_Procs_end (fun h =>
  K (.tuple ⟨[]⟩) h) (fun h =>
  K (.tuple ⟨[]⟩) h) p1 n2 n3 h = callF Try.prog Try.f46.results.toList impl_Procs_end_F [.pointer p1, .int .i64 n2, .int .i64 n3] h K := by kernel_rfl

theorem impl_Procs_end_call {p1 : Option Addr} {n2 : Int} {n3 : Int} {h : H} {K : Value → H → Prop} (hs : impl_Procs_end (fun h =>
  K (.tuple ⟨[]⟩) h) (fun h =>
  K (.tuple ⟨[]⟩) h) p1 n2 n3 h) : callK Try.prog 46 ⟨[.pointer p1, .int .i64 n2, .int .i64 n3]⟩ h K :=
  func_calls Try.func46 body46 impl_Procs_end_V (Nat.le_of_ble_eq_true (by kernel_rfl)) (impl_Procs_end_c0 p1 n2 n3 h K ▸ hs)

def impl_Procs_end_M_l0 (kx0 : Option Addr → Int → Int → Bool → H → Prop) : Nat → Option Addr → Int → Int → Bool → Int → Int → H → Prop
 | 0, _, _, _, _, _, _, _ => False
 | N + 1, p7, n8, n9, t10, n11, n12, h =>
  ifB (decide ((n12 : Int) < n11))
  (nz p7 fun b13 o14 =>
  ldL h b13 o14 fun a15 l15 c15 =>
  req (0 ≤ (n12 : Int) ∧ (n12 : Int) < (l15 : Nat))
  (nz a15 fun b16 o17 =>
  ldI .i64 h b16 ((o17 + n12.toNat * 10) + 1) fun n18 =>
  ifB ((n18 : Int) == n8)
  (st h b16 ((o17 + n12.toNat * 10) + 1) (.int .i64 1) fun h =>
  ifB t10
  (impl_Procs_end_M_l0 kx0 N p7 n8 n9 true n11 (IntKind.i64.wrap (n12 + 1)) h)
  (ldI .i64 h b16 ((o17 + n12.toNat * 10) + 4) fun n19 =>
  impl_Procs_end_M_l0 kx0 N p7 n8 n9 ((n19 : Int) == 3) n11 (IntKind.i64.wrap (n12 + 1)) h))
  (impl_Procs_end_M_l0 kx0 N p7 n8 n9 t10 n11 (IntKind.i64.wrap (n12 + 1)) h)))
  (kx0 p7 n8 n9 t10 h)

def impl_Procs_end_M_j1 (kn : H → Prop) (kr : H → Prop) (p1024 : Option Addr) (n1025 : Int) (n1026 : Int) (h : H) : Prop :=
  callD Try.prog 19 ⟨[.pointer p1024, .int .i64 n1025]⟩ h fun v1027 h =>
  asP v1027 fun p1028 =>
  nz p1028 fun b1029 o1030 =>
  ldI .i64 h b1029 (o1030 + 1) fun n1031 =>
  callD Try.prog 19 ⟨[.pointer p1024, .int .i64 n1031]⟩ h fun v1032 h =>
  asP v1032 fun p1033 =>
  nz p1033 fun b1034 o1035 =>
  ldI .i64 h b1034 (o1035 + 8) fun n1036 =>
  ifB ((bAnd .i64 (sShr .i64 n1036 14) 1 : Int) == 1)
  (callD Try.prog 47 ⟨[.pointer p1024, .int .i64 n1025]⟩ h fun v1037 h =>
  elF False (.tuple []) v1037
  (kr h))
  (nz p1028 fun b1038 o1039 =>
  st h b1038 (o1039 + 4) (.int .i64 3) fun h =>
  nz p1028 fun b1040 o1041 =>
  st h b1040 (o1041 + 5) (.int .i64 n1026) fun h =>
  nz p1028 fun b1042 o1043 =>
  st h b1042 (o1043 + 6) (.int .i64 0) fun h =>
  nz p1028 fun b1044 o1045 =>
  st h b1044 (o1045 + 7) (.int .i64 0) fun h =>
  nz p1028 fun b1046 o1047 =>
  st h b1046 (o1047 + 8) (.int .i64 0) fun h =>
  nz p1028 fun b1048 o1049 =>
  st h b1048 (o1049 + 9) (.int .i64 0) fun h =>
  nz p1033 fun b1050 o1051 =>
  ldI .i64 h b1050 o1051 fun n1052 =>
  callD Try.prog 48 ⟨[.pointer p1024, .int .i64 n1052, .int .i64 14]⟩ h fun v1053 h =>
  elF False (.tuple []) v1053
  (kn h))

def impl_Procs_end_M (kn : H → Prop) (kr : H → Prop) (p1 : Option Addr) (n2 : Int) (n3 : Int) (h : H) : Prop :=
  nz p1 fun b4 o5 =>
  ldL h b4 o5 fun a6 l6 c6 =>
  ∃ M12, impl_Procs_end_M_l0 (fun p7 n8 n9 t10 h =>
  ifB t10
  (callD Try.prog 48 ⟨[.pointer p7, .int .i64 1, .int .i64 14]⟩ h fun v11 h =>
  elF False (.tuple []) v11
  (impl_Procs_end_M_j1 kn kr p7 n8 n9 h))
  (impl_Procs_end_M_j1 kn kr p7 n8 n9 h)) M12 p1 n2 n3 false (l6 : Nat) 0 h

theorem impl_Procs_end_M_l0_D {g0 m0 : H} {kx0_1 : Option Addr → Int → Int → Bool → H → Prop} {kx0_2 : Option Addr → Int → Int → Bool → H → Prop} (Hkx0 : ∀ (p200001 : Option Addr) (n200002 : Int) (n200003 : Int) (t200004 : Bool) (g m : H), Md g0 m0 g m [] → kx0_2 p200001 n200002 n200003 t200004 m → kx0_1 p200001 n200002 n200003 t200004 g) : ∀ (N : Nat) (p1007 : Option Addr) (n1008 : Int) (n1009 : Int) (t1010 : Bool) (n1011 : Int) (n1012 : Int) (g m : H), Md g0 m0 g m [] → impl_Procs_end_M_l0 kx0_2 N p1007 n1008 n1009 t1010 n1011 n1012 m → impl_Procs_end_l0 kx0_1 N p1007 n1008 n1009 t1010 n1011 n1012 g := by
  intro N
  induction N with
  | zero => intro p1007 n1008 n1009 t1010 n1011 n1012 g m R h0; exact h0.elim
  | succ N ih =>
    intro p1007 n1008 n1009 t1010 n1011 n1012 g m R
    rw [impl_Procs_end_M_l0, impl_Procs_end_l0]
    exact (d_if (d_nz fun b1013 o1014 =>
  (d_ldL R fun a1015 l1015 c1015 =>
  (d_req (d_nz fun b1016 o1017 =>
  (d_ldI R fun n1018 =>
  (d_if (d_st R fun g m R =>
  (d_if (ih p1007 n1008 n1009 true n1011 (IntKind.i64.wrap (n1012 + 1)) _ _ R.sub)
  (d_ldI R fun n1019 =>
  (ih p1007 n1008 n1009 ((n1019 : Int) == 3) n1011 (IntKind.i64.wrap (n1012 + 1)) _ _ R.sub))))
  (ih p1007 n1008 n1009 t1010 n1011 (IntKind.i64.wrap (n1012 + 1)) _ _ R.sub)))))))
  (Hkx0 p1007 n1008 n1009 t1010 _ _ R.sub))

theorem impl_Procs_end_M_j1_D {g0 m0 : H} {kn_1 : H → Prop} {kn_2 : H → Prop} (Hkn : ∀ (g m : H), Md g0 m0 g m [] → kn_2 m → kn_1 g)
  {kr_1 : H → Prop} {kr_2 : H → Prop} (Hkr : ∀ (g m : H), Md g0 m0 g m [] → kr_2 m → kr_1 g) : ∀ (p2024 : Option Addr) (n2025 : Int) (n2026 : Int) (g m : H), Md g0 m0 g m [] → impl_Procs_end_M_j1 kn_2 kr_2 p2024 n2025 n2026 m → impl_Procs_end_j1 kn_1 kr_1 p2024 n2025 n2026 g := by
  intro p2024 n2025 n2026 g m R
  rw [impl_Procs_end_M_j1, impl_Procs_end_j1]
  exact (d_call R fun v2027 g m R =>
  (d_asP fun p2028 =>
  (d_nz fun b2029 o2030 =>
  (d_ldI R fun n2031 =>
  (d_call R fun v2032 g m R =>
  (d_asP fun p2033 =>
  (d_nz fun b2034 o2035 =>
  (d_ldI R fun n2036 =>
  (d_if (d_call R fun v2037 g m R =>
  (d_el_TE (Hkr _ _ R.sub)))
  (d_nz fun b2038 o2039 =>
  (d_st R fun g m R =>
  (d_nz fun b2040 o2041 =>
  (d_st R fun g m R =>
  (d_nz fun b2042 o2043 =>
  (d_st R fun g m R =>
  (d_nz fun b2044 o2045 =>
  (d_st R fun g m R =>
  (d_nz fun b2046 o2047 =>
  (d_st R fun g m R =>
  (d_nz fun b2048 o2049 =>
  (d_st R fun g m R =>
  (d_nz fun b2050 o2051 =>
  (d_ldI R fun n2052 =>
  (d_call R fun v2053 g m R =>
  (d_el_TE (Hkn _ _ R.sub))))))))))))))))))))))))))

theorem impl_Procs_end_M_D {g0 m0 : H} {kn_1 : H → Prop} {kn_2 : H → Prop} (Hkn : ∀ (g m : H), Md g0 m0 g m [] → kn_2 m → kn_1 g)
  {kr_1 : H → Prop} {kr_2 : H → Prop} (Hkr : ∀ (g m : H), Md g0 m0 g m [] → kr_2 m → kr_1 g) : ∀ (p1001 : Option Addr) (n1002 : Int) (n1003 : Int) (g m : H), Md g0 m0 g m [] → impl_Procs_end_M kn_2 kr_2 p1001 n1002 n1003 m → impl_Procs_end kn_1 kr_1 p1001 n1002 n1003 g := by
  intro p1001 n1002 n1003 g m R
  rw [impl_Procs_end_M, impl_Procs_end]
  exact (d_nz fun b1004 o1005 =>
  (d_ldL R fun a1006 l1006 c1006 =>
  (d_ex fun N => impl_Procs_end_M_l0_D (by exact fun p1007 n1008 n1009 t1010 g m R =>
  (d_if (d_call R fun v1011 g m R =>
  (d_el_TE (impl_Procs_end_M_j1_D (by exact fun g m R =>
  (Hkn _ _ R.sub))
  (by exact fun g m R =>
  (Hkr _ _ R.sub)) p1007 n1008 n1009 _ _ R.sub)))
  (impl_Procs_end_M_j1_D (by exact fun g m R =>
  (Hkn _ _ R.sub))
  (by exact fun g m R =>
  (Hkr _ _ R.sub)) p1007 n1008 n1009 _ _ R.sub))) N p1001 n1002 n1003 false (l1006 : Nat) 0 _ _ R.sub)))

theorem impl_Procs_end_M_call {p1 : Option Addr} {n2 : Int} {n3 : Int} {h : H} {K : Value → H → Prop} (hs : impl_Procs_end_M (fun h =>
  K (.tuple ⟨[]⟩) h) (fun h =>
  K (.tuple ⟨[]⟩) h) p1 n2 n3 h) : callD Try.prog 46 ⟨[.pointer p1, .int .i64 n2, .int .i64 n3]⟩ h K :=
  fun g r => impl_Procs_end_call (impl_Procs_end_M_D (by exact fun g m R =>
(fun h => ⟨m, R.af, h⟩))
(by exact fun g m R =>
(fun h => ⟨m, R.af, h⟩)) _ _ _ _ _ (Md.start r) hs)

noncomputable def code47 : Code := codeOf Try.f47
theorem body47 : Try.f47.body = some code47 := by kernel_rfl
def impl_Procs_gone_l0 (kx0 : Option Addr → Option Addr → Nat → Nat → H → Prop) : Nat → Option Addr → Int → Option Addr → Nat → Nat → Option Addr → Nat → Nat → Int → Int → H → Prop
 | 0, _, _, _, _, _, _, _, _, _, _, _ => False
 | N + 1, p_6, id_7, l_8, l_l8, l_c8, a9, l9, c9, n10, n11, h =>
  ifB (decide ((n11 : Int) < n10))
  (req (0 ≤ (n11 : Int) ∧ (n11 : Int) < (l9 : Nat))
  (nz a9 fun b12 o13 =>
  ldRow h b12 (o13 + n11.toNat * 10) 0 [.int .i64, .int .i64, .int .i64, .int .i64, .int .i64, .int .i64, .int .i64, .int .i64, .int .i64, .int .i64] fun n14 n15 n16 n17 n18 n19 n20 n21 n22 n23 =>
  new h [.int .i64 0, .int .i64 0, .int .i64 0, .int .i64 0, .int .i64 0, .int .i64 0, .int .i64 0, .int .i64 0, .int .i64 0, .int .i64 0] 38 fun b24 h =>
  stRow h b24 0 0 [.int .i64 n14, .int .i64 n15, .int .i64 n16, .int .i64 n17, .int .i64 n18, .int .i64 n19, .int .i64 n20, .int .i64 n21, .int .i64 n22, .int .i64 n23] fun h =>
  ldI .i64 h b24 0 fun n25 =>
  ifB ((n25 : Int) != id_7)
  (ldRow h b24 0 0 [.int .i64, .int .i64, .int .i64, .int .i64, .int .i64, .int .i64, .int .i64, .int .i64, .int .i64, .int .i64] fun n26 n27 n28 n29 n30 n31 n32 n33 n34 n35 =>
  new h [.int .i64 n26, .int .i64 n27, .int .i64 n28, .int .i64 n29, .int .i64 n30, .int .i64 n31, .int .i64 n32, .int .i64 n33, .int .i64 n34, .int .i64 n35] 38 fun b36 h =>
  appendK Try.prog 38 h l_8 l_l8 l_c8 (.slice (some ⟨b36, 0, none⟩) 1 1) fun a37 l37 c37 h =>
  impl_Procs_gone_l0 kx0 N p_6 id_7 a37 l37 c37 a9 l9 c9 n10 (IntKind.i64.wrap (n11 + 1)) h)
  (impl_Procs_gone_l0 kx0 N p_6 id_7 l_8 l_l8 l_c8 a9 l9 c9 n10 (IntKind.i64.wrap (n11 + 1)) h)))
  (kx0 p_6 l_8 l_l8 l_c8 h)

def impl_Procs_gone (kn : H → Prop) (p_1 : Option Addr) (id_2 : Int) (h : H) : Prop :=
  nz p_1 fun b3 o4 =>
  ldL h b3 o4 fun a5 l5 c5 =>
  ∃ M10, impl_Procs_gone_l0 (fun p_6 l_7 l_l7 l_c7 h =>
  nz p_6 fun b8 o9 =>
  st h b8 o9 (.slice l_7 l_l7 l_c7) fun h =>
  kn h) M10 p_1 id_2 none 0 0 a5 l5 c5 (l5 : Nat) 0 h

theorem impl_Procs_gone_l0_eq (K : Cont) (N : Nat) (p_6 : Option Addr) (id_7 : Int) (l_8 : Option Addr) (l_l8 : Nat) (l_c8 : Nat) (a9 : Option Addr) (l9 : Nat) (c9 : Nat) (n10 : Int) (n11 : Int) (h : H) :
  impl_Procs_gone_l0 (curV [(0, .ptr), (4, .slice)] (K (.exit 0))) (N + 1) p_6 id_7 l_8 l_l8 l_c8 a9 l9 c9 n10 n11 h = evC Try.prog 29 [] [] (sub code47 [true, false, true, false, false]) [(0, .pointer p_6), (1, .int .i64 id_7), (4, .slice l_8 l_l8 l_c8), (10, .slice a9 l9 c9), (11, .int .i64 n10), (12, .int .i64 n11)] h ((outsOf none [(0, [(0, .ptr), (4, .slice)])] none K).loop [(0, .ptr), (1, .int .i64), (4, .slice), (10, .slice), (11, .int .i64), (12, .int .i64)] (impl_Procs_gone_l0 (curV [(0, .ptr), (4, .slice)] (K (.exit 0))) N)).K := by kernel_rfl

def impl_Procs_gone_l0_F : PT := mkL [(0, .ptr), (1, .int .i64), (4, .slice), (10, .slice), (11, .int .i64), (12, .int .i64)] fun K N => impl_Procs_gone_l0 (curV [(0, .ptr), (4, .slice)] (K (.exit 0))) N

theorem impl_Procs_gone_l0_V : Valid Try.prog 29 (sub code47 [true, false, true, false]) impl_Procs_gone_l0_F :=
  loop_at (code47) [true, false, true, false] (loop_piece (c := (sub code47 [true, false, true, false, false])) mixed rows_nil (fun K => by intro p_6 id_7 l_8 l_l8 l_c8 a9 l9 c9 n10 n11 h hd; exact hd) (fun K N => by intro p_6 id_7 l_8 l_l8 l_c8 a9 l9 c9 n10 n11 h hd; exact (impl_Procs_gone_l0_eq K N p_6 id_7 l_8 l_l8 l_c8 a9 l9 c9 n10 n11 h) ▸ hd))

theorem impl_Procs_gone_eq (K : Cont) (p_1 : Option Addr) (id_2 : Int) (h : H) :
  impl_Procs_gone (curV [] (K .normal)) p_1 id_2 h = evC Try.prog 29 [([false, false, true, false, true], impl_Procs_gone_l0_F)] [] code47 [(0, .pointer p_1), (1, .int .i64 id_2)] h (outsOf (some []) [] none K).K := by kernel_rfl

def impl_Procs_gone_F : PT := mkF [(0, .ptr), (1, .int .i64)] fun K => impl_Procs_gone (curV [] (K .normal))

theorem impl_Procs_gone_V : Valid Try.prog 29 code47 impl_Procs_gone_F :=
  piece mixed (rows_cons (q' := [true, false, true, false]) impl_Procs_gone_l0_V rfl rows_nil) (fun K => by intro p_1 id_2 h hd; exact (impl_Procs_gone_eq K p_1 id_2 h) ▸ hd)

theorem impl_Procs_gone_c0 (p_1 : Option Addr) (id_2 : Int) (h : H) (K : Value → H → Prop) :
  impl_Procs_gone (fun h =>
  K (.tuple ⟨[]⟩) h) p_1 id_2 h = callF Try.prog Try.f47.results.toList impl_Procs_gone_F [.pointer p_1, .int .i64 id_2] h K := by kernel_rfl

theorem impl_Procs_gone_call {p_1 : Option Addr} {id_2 : Int} {h : H} {K : Value → H → Prop} (hs : impl_Procs_gone (fun h =>
  K (.tuple ⟨[]⟩) h) p_1 id_2 h) : callK Try.prog 47 ⟨[.pointer p_1, .int .i64 id_2]⟩ h K :=
  func_calls Try.func47 body47 impl_Procs_gone_V (Nat.le_of_ble_eq_true (by kernel_rfl)) (impl_Procs_gone_c0 p_1 id_2 h K ▸ hs)

def impl_Procs_gone_M_l0 (kx0 : Option Addr → Option Addr → Nat → Nat → H → Prop) : Nat → Option Addr → Int → Option Addr → Nat → Nat → Option Addr → Nat → Int → Int → H → Prop
 | 0, _, _, _, _, _, _, _, _, _, _ => False
 | N + 1, p_6, id_7, l_8, l_l8, l_c8, a9, l9, n10, n11, h =>
  ifB (decide ((n11 : Int) < n10))
  (req (0 ≤ (n11 : Int) ∧ (n11 : Int) < (l9 : Nat))
  (nz a9 fun b12 o13 =>
  ldRow h b12 (o13 + n11.toNat * 10) 0 [.int .i64, .int .i64, .int .i64, .int .i64, .int .i64, .int .i64, .int .i64, .int .i64, .int .i64, .int .i64] fun n14 n15 n16 n17 n18 n19 n20 n21 n22 n23 =>
  ifB ((n14 : Int) != id_7)
  (newD h [.int .i64 n14, .int .i64 n15, .int .i64 n16, .int .i64 n17, .int .i64 n18, .int .i64 n19, .int .i64 n20, .int .i64 n21, .int .i64 n22, .int .i64 n23] 38 fun b24 h =>
  appendD Try.prog 38 h l_8 l_l8 l_c8 (.slice (some ⟨b24, 0, none⟩) 1 1) fun a25 l25 c25 h =>
  impl_Procs_gone_M_l0 kx0 N p_6 id_7 a25 l25 c25 a9 l9 n10 (IntKind.i64.wrap (n11 + 1)) h)
  (impl_Procs_gone_M_l0 kx0 N p_6 id_7 l_8 l_l8 l_c8 a9 l9 n10 (IntKind.i64.wrap (n11 + 1)) h)))
  (kx0 p_6 l_8 l_l8 l_c8 h)

def impl_Procs_gone_M (kn : H → Prop) (p_1 : Option Addr) (id_2 : Int) (h : H) : Prop :=
  nz p_1 fun b3 o4 =>
  ldL h b3 o4 fun a5 l5 c5 =>
  ∃ M10, impl_Procs_gone_M_l0 (fun p_6 l_7 l_l7 l_c7 h =>
  nz p_6 fun b8 o9 =>
  st h b8 o9 (.slice l_7 l_l7 l_c7) fun h =>
  kn h) M10 p_1 id_2 none 0 0 a5 l5 (l5 : Nat) 0 h

theorem impl_Procs_gone_M_l0_D {g0 m0 : H} {kx0_1 : Option Addr → Option Addr → Nat → Nat → H → Prop} {kx0_2 : Option Addr → Option Addr → Nat → Nat → H → Prop} (Hkx0 : ∀ (p_200001 : Option Addr) (l_200002 : Option Addr) (l_l200002 : Nat) (l_c200002 : Nat) (g m : H), Md g0 m0 g m [] → kx0_2 p_200001 l_200002 l_l200002 l_c200002 m → kx0_1 p_200001 l_200002 l_l200002 l_c200002 g) : ∀ (N : Nat) (p_1006 : Option Addr) (id_1007 : Int) (l_1008 : Option Addr) (l_l1008 : Nat) (l_c1008 : Nat) (a1009 : Option Addr) (l1009 : Nat) (c1009 : Nat) (n1010 : Int) (n1011 : Int) (g m : H), Md g0 m0 g m [] → impl_Procs_gone_M_l0 kx0_2 N p_1006 id_1007 l_1008 l_l1008 l_c1008 a1009 l1009 n1010 n1011 m → impl_Procs_gone_l0 kx0_1 N p_1006 id_1007 l_1008 l_l1008 l_c1008 a1009 l1009 c1009 n1010 n1011 g := by
  intro N
  induction N with
  | zero => intro p_1006 id_1007 l_1008 l_l1008 l_c1008 a1009 l1009 c1009 n1010 n1011 g m R h0; exact h0.elim
  | succ N ih =>
    intro p_1006 id_1007 l_1008 l_l1008 l_c1008 a1009 l1009 c1009 n1010 n1011 g m R
    rw [impl_Procs_gone_M_l0, impl_Procs_gone_l0]
    exact (d_if (d_req (d_nz fun b1012 o1013 =>
  (d_row_I10 R fun n1014 n1015 n1016 n1017 n1018 n1019 n1020 n1021 n1022 n1023 =>
  (p_new R fun p1024 g R =>
  (p_stRow R (cs' := [.int .i64 n1014, .int .i64 n1015, .int .i64 n1016, .int .i64 n1017, .int .i64 n1018, .int .i64 n1019, .int .i64 n1020, .int .i64 n1021, .int .i64 n1022, .int .i64 n1023]) ⟨rfl, rfl, rfl⟩ fun g R =>
  (p_ldI R rfl (d_if (p_row_I10 R rfl rfl rfl rfl rfl rfl rfl rfl rfl rfl (d_new R fun b1025 g m R =>
  (d_append R fun a1026 l1026 c1026 g m R =>
  (ih p_1006 id_1007 a1026 l1026 c1026 a1009 l1009 c1009 n1010 (IntKind.i64.wrap (n1011 + 1)) _ _ R.sub))))
  (ih p_1006 id_1007 l_1008 l_l1008 l_c1008 a1009 l1009 c1009 n1010 (IntKind.i64.wrap (n1011 + 1)) _ _ R.sub))))))))
  (Hkx0 p_1006 l_1008 l_l1008 l_c1008 _ _ R.sub))

theorem impl_Procs_gone_M_D {g0 m0 : H} {kn_1 : H → Prop} {kn_2 : H → Prop} (Hkn : ∀ (g m : H), Md g0 m0 g m [] → kn_2 m → kn_1 g) : ∀ (p_1001 : Option Addr) (id_1002 : Int) (g m : H), Md g0 m0 g m [] → impl_Procs_gone_M kn_2 p_1001 id_1002 m → impl_Procs_gone kn_1 p_1001 id_1002 g := by
  intro p_1001 id_1002 g m R
  rw [impl_Procs_gone_M, impl_Procs_gone]
  exact (d_nz fun b1003 o1004 =>
  (d_ldL R fun a1005 l1005 c1005 =>
  (d_ex fun N => impl_Procs_gone_M_l0_D (by exact fun p_1006 l_1007 l_l1007 l_c1007 g m R =>
  (d_nz fun b1008 o1009 =>
  (d_st R fun g m R =>
  (Hkn _ _ R.sub)))) N p_1001 id_1002 none 0 0 a1005 l1005 c1005 (l1005 : Nat) 0 _ _ R.sub)))

theorem impl_Procs_gone_M_call {p_1 : Option Addr} {id_2 : Int} {h : H} {K : Value → H → Prop} (hs : impl_Procs_gone_M (fun h =>
  K (.tuple ⟨[]⟩) h) p_1 id_2 h) : callD Try.prog 47 ⟨[.pointer p_1, .int .i64 id_2]⟩ h K :=
  fun g r => impl_Procs_gone_call (impl_Procs_gone_M_D (by exact fun g m R =>
(fun h => ⟨m, R.af, h⟩)) _ _ _ _ (Md.start r) hs)

noncomputable def code48 : Code := codeOf Try.f48
theorem body48 : Try.f48.body = some code48 := by kernel_rfl
def impl_Procs_send_j0 (kn : H → Prop) (sig_9 : Int) (x_10 : Option Addr) (h : H) : Prop :=
  nz x_10 fun b11 o12 =>
  ldI .i64 h b11 (o12 + 8) fun n13 =>
  req (0 ≤ (sig_9 : Int))
  (ifB ((bAnd .i64 (sShr .i64 n13 sig_9) 1 : Int) == 0)
  (nz x_10 fun b14 o15 =>
  ldI .i64 h b14 (o15 + 6) fun n16 =>
  req (0 ≤ (sig_9 : Int))
  (nz x_10 fun b17 o18 =>
  st h b17 (o18 + 6) (.int .i64 (bOr .i64 n16 (sShl .i64 1 sig_9))) fun h =>
  kn h))
  (kn h))

def impl_Procs_send (kn : H → Prop) (kr : H → Prop) (p_1 : Option Addr) (id_2 : Int) (sig_3 : Int) (h : H) : Prop :=
  callK Try.prog 19 ⟨[.pointer p_1, .int .i64 id_2]⟩ h fun v4 h =>
  asP v4 fun p5 =>
  ifB p5.isNone
  (kr h)
  (nz p5 fun b6 o7 =>
  ldI .i64 h b6 (o7 + 4) fun n8 =>
  ifB ((n8 : Int) == 3)
  (kr h)
  (ifB ((sig_3 : Int) == 13)
  (nz p5 fun b9 o10 =>
  st h b9 (o10 + 4) (.int .i64 1) fun h =>
  nz p5 fun b11 o12 =>
  ldI .i64 h b11 (o12 + 6) fun n13 =>
  nz p5 fun b14 o15 =>
  st h b14 (o15 + 6) (.int .i64 (bAndNot .i64 n13 4096)) fun h =>
  impl_Procs_send_j0 kn sig_3 p5 h)
  (ifB ((sig_3 : Int) == 12)
  (nz p5 fun b16 o17 =>
  ldI .i64 h b16 (o17 + 6) fun n18 =>
  nz p5 fun b19 o20 =>
  st h b19 (o20 + 6) (.int .i64 (bAndNot .i64 n18 8192)) fun h =>
  impl_Procs_send_j0 kn sig_3 p5 h)
  (impl_Procs_send_j0 kn sig_3 p5 h))))

theorem impl_Procs_send_j0_eq (K : Cont) (sig_9 : Int) (x_10 : Option Addr) (h : H) :
  impl_Procs_send_j0 (curV [] (K .normal)) sig_9 x_10 h = evC Try.prog 58 [] [] (sub code48 [true, true, true]) [(2, .int .i64 sig_9), (6, .pointer x_10)] h (outsOf (some []) [] none K).K := by kernel_rfl

def impl_Procs_send_j0_F : PT := mkF [(2, .int .i64), (6, .ptr)] fun K => impl_Procs_send_j0 (curV [] (K .normal))

theorem impl_Procs_send_j0_V : Valid Try.prog 58 (sub code48 [true, true, true]) impl_Procs_send_j0_F :=
  piece mixed rows_nil (fun K => by intro sig_9 x_10 h hd; exact (impl_Procs_send_j0_eq K sig_9 x_10 h) ▸ hd)

theorem impl_Procs_send_eq (K : Cont) (p_1 : Option Addr) (id_2 : Int) (sig_3 : Int) (h : H) :
  impl_Procs_send (curV [] (K .normal)) (curV [] (K .ret)) p_1 id_2 sig_3 h = evC Try.prog 58 [([true, true, true], impl_Procs_send_j0_F)] [] code48 [(0, .pointer p_1), (1, .int .i64 id_2), (2, .int .i64 sig_3)] h (outsOf (some []) [] (some []) K).K := by kernel_rfl

def impl_Procs_send_F : PT := mkF [(0, .ptr), (1, .int .i64), (2, .int .i64)] fun K => impl_Procs_send (curV [] (K .normal)) (curV [] (K .ret))

theorem impl_Procs_send_V : Valid Try.prog 58 code48 impl_Procs_send_F :=
  piece mixed (rows_cons (q' := [true, true, true]) impl_Procs_send_j0_V rfl rows_nil) (fun K => by intro p_1 id_2 sig_3 h hd; exact (impl_Procs_send_eq K p_1 id_2 sig_3 h) ▸ hd)

theorem impl_Procs_send_c0 (p_1 : Option Addr) (id_2 : Int) (sig_3 : Int) (h : H) (K : Value → H → Prop) :
  impl_Procs_send (fun h =>
  K (.tuple ⟨[]⟩) h) (fun h =>
  K (.tuple ⟨[]⟩) h) p_1 id_2 sig_3 h = callF Try.prog Try.f48.results.toList impl_Procs_send_F [.pointer p_1, .int .i64 id_2, .int .i64 sig_3] h K := by kernel_rfl

theorem impl_Procs_send_call {p_1 : Option Addr} {id_2 : Int} {sig_3 : Int} {h : H} {K : Value → H → Prop} (hs : impl_Procs_send (fun h =>
  K (.tuple ⟨[]⟩) h) (fun h =>
  K (.tuple ⟨[]⟩) h) p_1 id_2 sig_3 h) : callK Try.prog 48 ⟨[.pointer p_1, .int .i64 id_2, .int .i64 sig_3]⟩ h K :=
  func_calls Try.func48 body48 impl_Procs_send_V (Nat.le_of_ble_eq_true (by kernel_rfl)) (impl_Procs_send_c0 p_1 id_2 sig_3 h K ▸ hs)

def impl_Procs_send_M_j0 (kn : H → Prop) (sig_9 : Int) (x_10 : Option Addr) (h : H) : Prop :=
  nz x_10 fun b11 o12 =>
  ldI .i64 h b11 (o12 + 8) fun n13 =>
  req (0 ≤ (sig_9 : Int))
  (ifB ((bAnd .i64 (sShr .i64 n13 sig_9) 1 : Int) == 0)
  (nz x_10 fun b14 o15 =>
  ldI .i64 h b14 (o15 + 6) fun n16 =>
  req (0 ≤ (sig_9 : Int))
  (nz x_10 fun b17 o18 =>
  st h b17 (o18 + 6) (.int .i64 (bOr .i64 n16 (sShl .i64 1 sig_9))) fun h =>
  kn h))
  (kn h))

def impl_Procs_send_M (kn : H → Prop) (kr : H → Prop) (p_1 : Option Addr) (id_2 : Int) (sig_3 : Int) (h : H) : Prop :=
  callD Try.prog 19 ⟨[.pointer p_1, .int .i64 id_2]⟩ h fun v4 h =>
  asP v4 fun p5 =>
  ifB p5.isNone
  (kr h)
  (nz p5 fun b6 o7 =>
  ldI .i64 h b6 (o7 + 4) fun n8 =>
  ifB ((n8 : Int) == 3)
  (kr h)
  (ifB ((sig_3 : Int) == 13)
  (nz p5 fun b9 o10 =>
  st h b9 (o10 + 4) (.int .i64 1) fun h =>
  nz p5 fun b11 o12 =>
  ldI .i64 h b11 (o12 + 6) fun n13 =>
  nz p5 fun b14 o15 =>
  st h b14 (o15 + 6) (.int .i64 (bAndNot .i64 n13 4096)) fun h =>
  impl_Procs_send_M_j0 kn sig_3 p5 h)
  (ifB ((sig_3 : Int) == 12)
  (nz p5 fun b16 o17 =>
  ldI .i64 h b16 (o17 + 6) fun n18 =>
  nz p5 fun b19 o20 =>
  st h b19 (o20 + 6) (.int .i64 (bAndNot .i64 n18 8192)) fun h =>
  impl_Procs_send_M_j0 kn sig_3 p5 h)
  (impl_Procs_send_M_j0 kn sig_3 p5 h))))

theorem impl_Procs_send_M_j0_D {g0 m0 : H} {kn_1 : H → Prop} {kn_2 : H → Prop} (Hkn : ∀ (g m : H), Md g0 m0 g m [] → kn_2 m → kn_1 g) : ∀ (sig_1009 : Int) (x_1010 : Option Addr) (g m : H), Md g0 m0 g m [] → impl_Procs_send_M_j0 kn_2 sig_1009 x_1010 m → impl_Procs_send_j0 kn_1 sig_1009 x_1010 g := by
  intro sig_1009 x_1010 g m R
  rw [impl_Procs_send_M_j0, impl_Procs_send_j0]
  exact (d_nz fun b1011 o1012 =>
  (d_ldI R fun n1013 =>
  (d_req (d_if (d_nz fun b1014 o1015 =>
  (d_ldI R fun n1016 =>
  (d_req (d_nz fun b1017 o1018 =>
  (d_st R fun g m R =>
  (Hkn _ _ R.sub))))))
  (Hkn _ _ R.sub)))))

theorem impl_Procs_send_M_D {g0 m0 : H} {kn_1 : H → Prop} {kn_2 : H → Prop} (Hkn : ∀ (g m : H), Md g0 m0 g m [] → kn_2 m → kn_1 g)
  {kr_1 : H → Prop} {kr_2 : H → Prop} (Hkr : ∀ (g m : H), Md g0 m0 g m [] → kr_2 m → kr_1 g) : ∀ (p_1001 : Option Addr) (id_1002 : Int) (sig_1003 : Int) (g m : H), Md g0 m0 g m [] → impl_Procs_send_M kn_2 kr_2 p_1001 id_1002 sig_1003 m → impl_Procs_send kn_1 kr_1 p_1001 id_1002 sig_1003 g := by
  intro p_1001 id_1002 sig_1003 g m R
  rw [impl_Procs_send_M, impl_Procs_send]
  exact (d_call R fun v1004 g m R =>
  (d_asP fun p1005 =>
  (d_if (Hkr _ _ R.sub)
  (d_nz fun b1006 o1007 =>
  (d_ldI R fun n1008 =>
  (d_if (Hkr _ _ R.sub)
  (d_if (d_nz fun b1009 o1010 =>
  (d_st R fun g m R =>
  (d_nz fun b1011 o1012 =>
  (d_ldI R fun n1013 =>
  (d_nz fun b1014 o1015 =>
  (d_st R fun g m R =>
  (impl_Procs_send_M_j0_D (by exact fun g m R =>
  (Hkn _ _ R.sub)) sig_1003 p1005 _ _ R.sub)))))))
  (d_if (d_nz fun b1016 o1017 =>
  (d_ldI R fun n1018 =>
  (d_nz fun b1019 o1020 =>
  (d_st R fun g m R =>
  (impl_Procs_send_M_j0_D (by exact fun g m R =>
  (Hkn _ _ R.sub)) sig_1003 p1005 _ _ R.sub)))))
  (impl_Procs_send_M_j0_D (by exact fun g m R =>
  (Hkn _ _ R.sub)) sig_1003 p1005 _ _ R.sub)))))))))

theorem impl_Procs_send_M_call {p_1 : Option Addr} {id_2 : Int} {sig_3 : Int} {h : H} {K : Value → H → Prop} (hs : impl_Procs_send_M (fun h =>
  K (.tuple ⟨[]⟩) h) (fun h =>
  K (.tuple ⟨[]⟩) h) p_1 id_2 sig_3 h) : callD Try.prog 48 ⟨[.pointer p_1, .int .i64 id_2, .int .i64 sig_3]⟩ h K :=
  fun g r => impl_Procs_send_call (impl_Procs_send_M_D (by exact fun g m R =>
(fun h => ⟨m, R.af, h⟩))
(by exact fun g m R =>
(fun h => ⟨m, R.af, h⟩)) _ _ _ _ _ (Md.start r) hs)

noncomputable def code49 : Code := codeOf Try.f49
theorem body49 : Try.f49.body = some code49 := by kernel_rfl
def spec_l16End_l0 (kx0 : Int → Int → Nat → Nat → Bool → H → Prop) : Nat → Int → Int → Nat → Nat → Bool → Int → H → Prop
 | 0, _, _, _, _, _, _, _ => False
 | N + 1, n6, n7, b8, b9, t10, n11, h =>
  ldL h b8 0 fun a12 l12 c12 =>
  ifB (decide ((n11 : Int) < (l12 : Nat)))
  (ldL h b8 0 fun a13 l13 c13 =>
  req (0 ≤ (n11 : Int) ∧ (n11 : Int) < (l13 : Nat))
  (nz a13 fun b14 o15 =>
  ldI .i64 h b14 ((o15 + n11.toNat * 10) + 1) fun n16 =>
  ifB ((n16 : Int) == n6)
  (ldL h b8 0 fun a17 l17 c17 =>
  req (0 ≤ (n11 : Int) ∧ (n11 : Int) < (l17 : Nat))
  (nz a17 fun b18 o19 =>
  st h b18 ((o19 + n11.toNat * 10) + 1) (.int .i64 1) fun h =>
  ifB t10
  (spec_l16End_l0 kx0 N n6 n7 b8 b9 true (IntKind.i64.wrap (n11 + 1)) h)
  (ldL h b8 0 fun a20 l20 c20 =>
  req (0 ≤ (n11 : Int) ∧ (n11 : Int) < (l20 : Nat))
  (nz a20 fun b21 o22 =>
  ldI .i64 h b21 ((o22 + n11.toNat * 10) + 4) fun n23 =>
  spec_l16End_l0 kx0 N n6 n7 b8 b9 ((n23 : Int) == 3) (IntKind.i64.wrap (n11 + 1)) h))))
  (spec_l16End_l0 kx0 N n6 n7 b8 b9 t10 (IntKind.i64.wrap (n11 + 1)) h)))
  (kx0 n6 n7 b8 b9 t10 h)

def spec_l16End_j1 (kr : Nat → H → Prop) (n29 : Int) (n30 : Int) (b31 : Nat) (b32 : Nat) (h : H) : Prop :=
  ldRow h b31 0 0 [.slice] fun a33 l33 c33 =>
  callK Try.prog 25 ⟨[.agg ⟨[.slice a33 l33 c33]⟩, .int .i64 n29]⟩ h fun v34 h =>
  asI .i64 v34 fun n35 =>
  ldL h b31 0 fun a36 l36 c36 =>
  req (0 ≤ (n35 : Int) ∧ (n35 : Int) < (l36 : Nat))
  (nz a36 fun b37 o38 =>
  ldRow h b37 (o38 + n35.toNat * 10) 0 [.int .i64, .int .i64, .int .i64, .int .i64, .int .i64, .int .i64, .int .i64, .int .i64, .int .i64, .int .i64] fun n39 n40 n41 n42 n43 n44 n45 n46 n47 n48 =>
  new h [.int .i64 0, .int .i64 0, .int .i64 0, .int .i64 0, .int .i64 0, .int .i64 0, .int .i64 0, .int .i64 0, .int .i64 0, .int .i64 0] 38 fun b49 h =>
  stRow h b49 0 0 [.int .i64 n39, .int .i64 n40, .int .i64 n41, .int .i64 n42, .int .i64 n43, .int .i64 n44, .int .i64 n45, .int .i64 n46, .int .i64 n47, .int .i64 n48] fun h =>
  ldRow h b31 0 0 [.slice] fun a50 l50 c50 =>
  ldI .i64 h b49 1 fun n51 =>
  callK Try.prog 25 ⟨[.agg ⟨[.slice a50 l50 c50]⟩, .int .i64 n51]⟩ h fun v52 h =>
  asI .i64 v52 fun n53 =>
  ldL h b31 0 fun a54 l54 c54 =>
  req (0 ≤ (n53 : Int) ∧ (n53 : Int) < (l54 : Nat))
  (nz a54 fun b55 o56 =>
  ldI .i64 h b55 ((o56 + n53.toNat * 10) + 8) fun n57 =>
  callK Try.prog 40 ⟨[.int .i64 n57, .int .i64 14]⟩ h fun v58 h =>
  asB v58 fun t59 =>
  ifB t59
  (ldRow h b31 0 0 [.slice] fun a60 l60 c60 =>
  callK Try.prog 62 ⟨[.agg ⟨[.slice a60 l60 c60]⟩, .int .i64 n35]⟩ h fun v61 h =>
  elF False (.agg [.slice]) v61 fun a62 l62 c62 =>
  stRow h b32 0 0 [.slice a62 l62 c62] fun h =>
  kr b32 h)
  (ldL h b31 0 fun a63 l63 c63 =>
  ldI .i64 h b49 0 fun n64 =>
  ldI .i64 h b49 1 fun n65 =>
  ldI .i64 h b49 2 fun n66 =>
  ldI .i64 h b49 3 fun n67 =>
  req (0 ≤ (n35 : Int) ∧ (n35 : Int) < (l63 : Nat))
  (nz a63 fun b68 o69 =>
  stRow h b68 (o69 + n35.toNat * 10) 0 [.int .i64 n64, .int .i64 n65, .int .i64 n66, .int .i64 n67, .int .i64 3, .int .i64 n30, .int .i64 0, .int .i64 0, .int .i64 0, .int .i64 0] fun h =>
  ldRow h b31 0 0 [.slice] fun a70 l70 c70 =>
  callK Try.prog 61 ⟨[.agg ⟨[.slice a70 l70 c70]⟩, .int .i64 n53, .int .i64 14]⟩ h fun v71 h =>
  elF False (.tuple []) v71
  (ldRow h b31 0 0 [.slice] fun a72 l72 c72 =>
  stRow h b32 0 0 [.slice a72 l72 c72] fun h =>
  kr b32 h)))))

def spec_l16End (kr : Nat → H → Prop) (a1 : Option Addr) (l1 : Nat) (c1 : Nat) (n2 : Int) (n3 : Int) (h : H) : Prop :=
  new h [.slice a1 l1 c1] 27 fun b4 h =>
  new h [.slice none 0 0] 27 fun b5 h =>
  ∃ M13, spec_l16End_l0 (fun n6 n7 b8 b9 t10 h =>
  ifB t10
  (ldRow h b8 0 0 [.slice] fun a11 l11 c11 =>
  callK Try.prog 61 ⟨[.agg ⟨[.slice a11 l11 c11]⟩, .int .i64 0, .int .i64 14]⟩ h fun v12 h =>
  elF False (.tuple []) v12
  (spec_l16End_j1 kr n6 n7 b8 b9 h))
  (spec_l16End_j1 kr n6 n7 b8 b9 h)) M13 n2 n3 b4 b5 false 0 h

theorem spec_l16End_l0_eq (K : Cont) (N : Nat) (n6 : Int) (n7 : Int) (b8 : Nat) (b9 : Nat) (t10 : Bool) (n11 : Int) (h : H) :
  spec_l16End_l0 (curV [(1, .int .i64), (2, .int .i64), (3, .blk), (6, .blk), (7, .bool)] (K (.exit 0))) (N + 1) n6 n7 b8 b9 t10 n11 h = evC Try.prog 85 [] [] (sub code49 [true, true, false, true, false, false]) [(1, .int .i64 n6), (2, .int .i64 n7), (3, .pointer (some ⟨b8, 0, none⟩)), (6, .pointer (some ⟨b9, 0, none⟩)), (7, .bool t10), (8, .int .i64 n11)] h ((outsOf none [(0, [(1, .int .i64), (2, .int .i64), (3, .blk), (6, .blk), (7, .bool)])] none K).loop [(1, .int .i64), (2, .int .i64), (3, .blk), (6, .blk), (7, .bool), (8, .int .i64)] (spec_l16End_l0 (curV [(1, .int .i64), (2, .int .i64), (3, .blk), (6, .blk), (7, .bool)] (K (.exit 0))) N)).K := by kernel_rfl

def spec_l16End_l0_F : PT := mkL [(1, .int .i64), (2, .int .i64), (3, .blk), (6, .blk), (7, .bool), (8, .int .i64)] fun K N => spec_l16End_l0 (curV [(1, .int .i64), (2, .int .i64), (3, .blk), (6, .blk), (7, .bool)] (K (.exit 0))) N

theorem spec_l16End_l0_V : Valid Try.prog 85 (sub code49 [true, true, false, true, false]) spec_l16End_l0_F :=
  loop_at (code49) [true, true, false, true, false] (loop_piece (c := (sub code49 [true, true, false, true, false, false])) mixed rows_nil (fun K => by intro n6 n7 b8 b9 t10 n11 h hd; exact hd) (fun K N => by intro n6 n7 b8 b9 t10 n11 h hd; exact (spec_l16End_l0_eq K N n6 n7 b8 b9 t10 n11 h) ▸ hd))

theorem spec_l16End_j1_eq (K : Cont) (n29 : Int) (n30 : Int) (b31 : Nat) (b32 : Nat) (h : H) :
  spec_l16End_j1 (curV [(6, .blk)] (K .ret)) n29 n30 b31 b32 h = evC Try.prog 85 [] [] (sub code49 [true, true, true, true]) [(1, .int .i64 n29), (2, .int .i64 n30), (3, .pointer (some ⟨b31, 0, none⟩)), (6, .pointer (some ⟨b32, 0, none⟩))] h (outsOf none [] (some [(6, .blk)]) K).K := by kernel_rfl

def spec_l16End_j1_F : PT := mkF [(1, .int .i64), (2, .int .i64), (3, .blk), (6, .blk)] fun K => spec_l16End_j1 (curV [(6, .blk)] (K .ret))

theorem spec_l16End_j1_V : Valid Try.prog 85 (sub code49 [true, true, true, true]) spec_l16End_j1_F :=
  piece mixed rows_nil (fun K => by intro n29 n30 b31 b32 h hd; exact (spec_l16End_j1_eq K n29 n30 b31 b32 h) ▸ hd)

theorem spec_l16End_eq (K : Cont) (a1 : Option Addr) (l1 : Nat) (c1 : Nat) (n2 : Int) (n3 : Int) (h : H) :
  spec_l16End (curV [(6, .blk)] (K .ret)) a1 l1 c1 n2 n3 h = evC Try.prog 85 [([false, false, true, false, true, true], spec_l16End_l0_F), ([true, true, true, true], spec_l16End_j1_F)] [] code49 [(0, .agg ⟨[.slice a1 l1 c1]⟩), (1, .int .i64 n2), (2, .int .i64 n3)] h (outsOf none [] (some [(6, .blk)]) K).K := by kernel_rfl

def spec_l16End_F : PT := mkF [(0, .agg [.slice]), (1, .int .i64), (2, .int .i64)] fun K => spec_l16End (curV [(6, .blk)] (K .ret))

theorem spec_l16End_V : Valid Try.prog 85 code49 spec_l16End_F :=
  piece mixed (rows_cons (q' := [true, true, false, true, false]) spec_l16End_l0_V rfl (rows_cons (q' := [true, true, true, true]) spec_l16End_j1_V rfl rows_nil)) (fun K => by intro a1 l1 c1 n2 n3 h hd; exact (spec_l16End_eq K a1 l1 c1 n2 n3 h) ▸ hd)

theorem spec_l16End_c0 (a1 : Option Addr) (l1 : Nat) (c1 : Nat) (n2 : Int) (n3 : Int) (h : H) (K : Value → H → Prop) :
  spec_l16End (fun b100001 h =>
  ldRow h b100001 0 0 [.slice] fun a100002 l100002 c100002 =>
  K (.agg ⟨[.slice a100002 l100002 c100002]⟩) h) a1 l1 c1 n2 n3 h = callF Try.prog Try.f49.results.toList spec_l16End_F [.agg ⟨[.slice a1 l1 c1]⟩, .int .i64 n2, .int .i64 n3] h K := by kernel_rfl

theorem spec_l16End_call {a1 : Option Addr} {l1 : Nat} {c1 : Nat} {n2 : Int} {n3 : Int} {h : H} {K : Value → H → Prop} (hs : spec_l16End (fun b100001 h =>
  ldRow h b100001 0 0 [.slice] fun a100002 l100002 c100002 =>
  K (.agg ⟨[.slice a100002 l100002 c100002]⟩) h) a1 l1 c1 n2 n3 h) : callK Try.prog 49 ⟨[.agg ⟨[.slice a1 l1 c1]⟩, .int .i64 n2, .int .i64 n3]⟩ h K :=
  func_calls Try.func49 body49 spec_l16End_V (Nat.le_of_ble_eq_true (by kernel_rfl)) (spec_l16End_c0 a1 l1 c1 n2 n3 h K ▸ hs)

def spec_l16End_M_l0 (kx0 : Int → Int → Bool → Option Addr → Nat → Nat → H → Prop) : Nat → Int → Int → Bool → Int → Option Addr → Nat → Nat → H → Prop
 | 0, _, _, _, _, _, _, _, _ => False
 | N + 1, n4, n5, t6, n7, a8, l8, c8, h =>
  ifB (decide ((n7 : Int) < (l8 : Nat)))
  (req (0 ≤ (n7 : Int) ∧ (n7 : Int) < (l8 : Nat))
  (nz a8 fun b12 o13 =>
  ldI .i64 h b12 ((o13 + n7.toNat * 10) + 1) fun n14 =>
  ifB ((n14 : Int) == n4)
  (req (0 ≤ (n7 : Int) ∧ (n7 : Int) < (l8 : Nat))
  (nz a8 fun b15 o16 =>
  st h b15 ((o16 + n7.toNat * 10) + 1) (.int .i64 1) fun h =>
  ifB t6
  (spec_l16End_M_l0 kx0 N n4 n5 true (IntKind.i64.wrap (n7 + 1)) a8 l8 c8 h)
  (req (0 ≤ (n7 : Int) ∧ (n7 : Int) < (l8 : Nat))
  (nz a8 fun b17 o18 =>
  ldI .i64 h b17 ((o18 + n7.toNat * 10) + 4) fun n19 =>
  spec_l16End_M_l0 kx0 N n4 n5 ((n19 : Int) == 3) (IntKind.i64.wrap (n7 + 1)) a8 l8 c8 h))))
  (spec_l16End_M_l0 kx0 N n4 n5 t6 (IntKind.i64.wrap (n7 + 1)) a8 l8 c8 h)))
  (kx0 n4 n5 t6 a8 l8 c8 h)

def spec_l16End_M_j1 (kr : Option Addr → Nat → Nat → H → Prop) (n1027 : Int) (n1028 : Int) (a1029 : Option Addr) (l1029 : Nat) (c1029 : Nat) (h : H) : Prop :=
  callD Try.prog 25 ⟨[.agg ⟨[.slice a1029 l1029 c1029]⟩, .int .i64 n1027]⟩ h fun v1033 h =>
  asI .i64 v1033 fun n1034 =>
  req (0 ≤ (n1034 : Int) ∧ (n1034 : Int) < (l1029 : Nat))
  (nz a1029 fun b1035 o1036 =>
  ldRow h b1035 (o1036 + n1034.toNat * 10) 0 [.int .i64, .int .i64, .int .i64, .int .i64, .int .i64, .int .i64, .int .i64, .int .i64, .int .i64, .int .i64] fun n1037 n1038 n1039 n1040 n1041 n1042 n1043 n1044 n1045 n1046 =>
  callD Try.prog 25 ⟨[.agg ⟨[.slice a1029 l1029 c1029]⟩, .int .i64 n1038]⟩ h fun v1047 h =>
  asI .i64 v1047 fun n1048 =>
  req (0 ≤ (n1048 : Int) ∧ (n1048 : Int) < (l1029 : Nat))
  (nz a1029 fun b1049 o1050 =>
  ldI .i64 h b1049 ((o1050 + n1048.toNat * 10) + 8) fun n1051 =>
  callD Try.prog 40 ⟨[.int .i64 n1051, .int .i64 14]⟩ h fun v1052 h =>
  asB v1052 fun t1053 =>
  ifB t1053
  (callD Try.prog 62 ⟨[.agg ⟨[.slice a1029 l1029 c1029]⟩, .int .i64 n1034]⟩ h fun v1054 h =>
  elF False (.agg [.slice]) v1054 fun a1055 l1055 c1055 =>
  kr a1055 l1055 c1055 h)
  (req (0 ≤ (n1034 : Int) ∧ (n1034 : Int) < (l1029 : Nat))
  (nz a1029 fun b1056 o1057 =>
  stRow h b1056 (o1057 + n1034.toNat * 10) 0 [.int .i64 n1037, .int .i64 n1038, .int .i64 n1039, .int .i64 n1040, .int .i64 3, .int .i64 n1028, .int .i64 0, .int .i64 0, .int .i64 0, .int .i64 0] fun h =>
  callD Try.prog 61 ⟨[.agg ⟨[.slice a1029 l1029 c1029]⟩, .int .i64 n1048, .int .i64 14]⟩ h fun v1058 h =>
  elF False (.tuple []) v1058
  (kr a1029 l1029 c1029 h)))))

def spec_l16End_M (kr : Option Addr → Nat → Nat → H → Prop) (a1 : Option Addr) (l1 : Nat) (c1 : Nat) (n2 : Int) (n3 : Int) (h : H) : Prop :=
  ∃ M12, spec_l16End_M_l0 (fun n4 n5 t6 a7 l7 c7 h =>
  ifB t6
  (callD Try.prog 61 ⟨[.agg ⟨[.slice a7 l7 c7]⟩, .int .i64 0, .int .i64 14]⟩ h fun v11 h =>
  elF False (.tuple []) v11
  (spec_l16End_M_j1 kr n4 n5 a7 l7 c7 h))
  (spec_l16End_M_j1 kr n4 n5 a7 l7 c7 h)) M12 n2 n3 false 0 a1 l1 c1 h

theorem spec_l16End_M_l0_D {g0 m0 : H} {kx0_1 : Int → Int → Nat → Nat → Bool → H → Prop} {kx0_2 : Int → Int → Bool → Option Addr → Nat → Nat → H → Prop} (Hkx0 : ∀ (n200001 : Int) (n200002 : Int) (t200003 : Bool) (a200004 : Option Addr) (l200004 : Nat) (c200004 : Nat) (a200006 : Option Addr) (l200006 : Nat) (c200006 : Nat) (p200005 : Nat) (p200007 : Nat) (g m : H), Md g0 m0 g m [lo p200005 [.slice a200004 l200004 c200004], lo p200007 [.slice a200006 l200006 c200006]] → kx0_2 n200001 n200002 t200003 a200004 l200004 c200004 m → kx0_1 n200001 n200002 p200005 p200007 t200003 g) : ∀ (N : Nat) (n1004 : Int) (n1005 : Int) (t1006 : Bool) (n1007 : Int) (a1008 : Option Addr) (l1008 : Nat) (c1008 : Nat) (a1010 : Option Addr) (l1010 : Nat) (c1010 : Nat) (p1009 : Nat) (p1011 : Nat) (g m : H), Md g0 m0 g m [lo p1009 [.slice a1008 l1008 c1008], lo p1011 [.slice a1010 l1010 c1010]] → spec_l16End_M_l0 kx0_2 N n1004 n1005 t1006 n1007 a1008 l1008 c1008 m → spec_l16End_l0 kx0_1 N n1004 n1005 p1009 p1011 t1006 n1007 g := by
  intro N
  induction N with
  | zero => intro n1004 n1005 t1006 n1007 a1008 l1008 c1008 a1010 l1010 c1010 p1009 p1011 g m R h0; exact h0.elim
  | succ N ih =>
    intro n1004 n1005 t1006 n1007 a1008 l1008 c1008 a1010 l1010 c1010 p1009 p1011 g m R
    rw [spec_l16End_M_l0, spec_l16End_l0]
    exact (p_ldL R rfl (d_if (p_ldL R rfl (d_req (d_nz fun b1012 o1013 =>
  (d_ldI R fun n1014 =>
  (d_if (p_ldL R rfl (d_req (d_nz fun b1015 o1016 =>
  (d_st R fun g m R =>
  (d_if (ih n1004 n1005 true (IntKind.i64.wrap (n1007 + 1)) a1008 l1008 c1008 a1010 l1010 c1010 p1009 p1011 _ _ R.sub)
  (p_ldL R rfl (d_req (d_nz fun b1017 o1018 =>
  (d_ldI R fun n1019 =>
  (ih n1004 n1005 ((n1019 : Int) == 3) (IntKind.i64.wrap (n1007 + 1)) a1008 l1008 c1008 a1010 l1010 c1010 p1009 p1011 _ _ R.sub))))))))))
  (ih n1004 n1005 t1006 (IntKind.i64.wrap (n1007 + 1)) a1008 l1008 c1008 a1010 l1010 c1010 p1009 p1011 _ _ R.sub))))))
  (Hkx0 n1004 n1005 t1006 a1008 l1008 c1008 a1010 l1010 c1010 p1009 p1011 _ _ R.sub)))

theorem spec_l16End_M_j1_D {g0 m0 : H} {kr_1 : Nat → H → Prop} {kr_2 : Option Addr → Nat → Nat → H → Prop} (Hkr : ∀ (a200001 : Option Addr) (l200001 : Nat) (c200001 : Nat) (p200002 : Nat) (g m : H), Md g0 m0 g m [lo p200002 [.slice a200001 l200001 c200001]] → kr_2 a200001 l200001 c200001 m → kr_1 p200002 g) : ∀ (n2027 : Int) (n2028 : Int) (a2029 : Option Addr) (l2029 : Nat) (c2029 : Nat) (a2031 : Option Addr) (l2031 : Nat) (c2031 : Nat) (p2030 : Nat) (p2032 : Nat) (g m : H), Md g0 m0 g m [lo p2030 [.slice a2029 l2029 c2029], lo p2032 [.slice a2031 l2031 c2031]] → spec_l16End_M_j1 kr_2 n2027 n2028 a2029 l2029 c2029 m → spec_l16End_j1 kr_1 n2027 n2028 p2030 p2032 g := by
  intro n2027 n2028 a2029 l2029 c2029 a2031 l2031 c2031 p2030 p2032 g m R
  rw [spec_l16End_M_j1, spec_l16End_j1]
  exact (p_row_L R rfl (d_call R fun v2033 g m R =>
  (d_asI fun n2034 =>
  (p_ldL R rfl (d_req (d_nz fun b2035 o2036 =>
  (d_row_I10 R fun n2037 n2038 n2039 n2040 n2041 n2042 n2043 n2044 n2045 n2046 =>
  (p_new R fun p2047 g R =>
  (p_stRow R (cs' := [.int .i64 n2037, .int .i64 n2038, .int .i64 n2039, .int .i64 n2040, .int .i64 n2041, .int .i64 n2042, .int .i64 n2043, .int .i64 n2044, .int .i64 n2045, .int .i64 n2046]) ⟨rfl, rfl, rfl⟩ fun g R =>
  (p_row_L R rfl (p_ldI R rfl (d_call R fun v2048 g m R =>
  (d_asI fun n2049 =>
  (p_ldL R rfl (d_req (d_nz fun b2050 o2051 =>
  (d_ldI R fun n2052 =>
  (d_call R fun v2053 g m R =>
  (d_asB fun t2054 =>
  (d_if (p_row_L R rfl (d_call R fun v2055 g m R =>
  (d_el_ALE fun a2056 l2056 c2056 =>
  (p_stRow R (cs' := [.slice a2056 l2056 c2056]) ⟨rfl, rfl, rfl⟩ fun g R =>
  (Hkr a2056 l2056 c2056 p2032 _ _ R.sub)))))
  (p_ldL R rfl (p_ldI R rfl (p_ldI R rfl (p_ldI R rfl (p_ldI R rfl (d_req (d_nz fun b2057 o2058 =>
  (d_stRow R fun g m R =>
  (p_row_L R rfl (d_call R fun v2059 g m R =>
  (d_el_TE (p_row_L R rfl (p_stRow R (cs' := [.slice a2029 l2029 c2029]) ⟨rfl, rfl, rfl⟩ fun g R =>
  (Hkr a2029 l2029 c2029 p2032 _ _ R.sub))))))))))))))))))))))))))))))))))

theorem spec_l16End_M_D {g0 m0 : H} {kr_1 : Nat → H → Prop} {kr_2 : Option Addr → Nat → Nat → H → Prop} (Hkr : ∀ (a200001 : Option Addr) (l200001 : Nat) (c200001 : Nat) (p200002 : Nat) (g m : H), Md g0 m0 g m [lo p200002 [.slice a200001 l200001 c200001]] → kr_2 a200001 l200001 c200001 m → kr_1 p200002 g) : ∀ (a1001 : Option Addr) (l1001 : Nat) (c1001 : Nat) (n1002 : Int) (n1003 : Int) (g m : H), Md g0 m0 g m [] → spec_l16End_M kr_2 a1001 l1001 c1001 n1002 n1003 m → spec_l16End kr_1 a1001 l1001 c1001 n1002 n1003 g := by
  intro a1001 l1001 c1001 n1002 n1003 g m R
  rw [spec_l16End_M, spec_l16End]
  exact (p_new R fun p1004 g R =>
  (p_new R fun p1005 g R =>
  (d_ex fun N => spec_l16End_M_l0_D (by exact fun n1006 n1007 t1008 a1009 l1009 c1009 a1011 l1011 c1011 p1010 p1012 g m R =>
  (d_if (p_row_L R rfl (d_call R fun v1013 g m R =>
  (d_el_TE (spec_l16End_M_j1_D (by exact fun a1014 l1014 c1014 p1015 g m R =>
  (Hkr a1014 l1014 c1014 p1015 _ _ R.sub)) n1006 n1007 a1009 l1009 c1009 a1011 l1011 c1011 p1010 p1012 _ _ R.sub))))
  (spec_l16End_M_j1_D (by exact fun a1016 l1016 c1016 p1017 g m R =>
  (Hkr a1016 l1016 c1016 p1017 _ _ R.sub)) n1006 n1007 a1009 l1009 c1009 a1011 l1011 c1011 p1010 p1012 _ _ R.sub))) N n1002 n1003 false 0 a1001 l1001 c1001 none 0 0 p1004 p1005 _ _ R.sub)))

theorem spec_l16End_M_call {a1 : Option Addr} {l1 : Nat} {c1 : Nat} {n2 : Int} {n3 : Int} {h : H} {K : Value → H → Prop} (hs : spec_l16End_M (fun a300001 l300001 c300001 h =>
  K (.agg ⟨[.slice a300001 l300001 c300001]⟩) h) a1 l1 c1 n2 n3 h) : callD Try.prog 49 ⟨[.agg ⟨[.slice a1 l1 c1]⟩, .int .i64 n2, .int .i64 n3]⟩ h K :=
  fun g r => spec_l16End_call (spec_l16End_M_D (by exact fun a300001 l300001 c300001 p300002 g m R =>
(p_row_L R rfl (fun h => ⟨m, R.af, h⟩))) _ _ _ _ _ _ _ (Md.start r) hs)

noncomputable def code50 : Code := codeOf Try.f50
theorem body50 : Try.f50.body = some code50 := by kernel_rfl
def spec_l16Wait_j1 (kn : Int → Nat → Nat → Nat → Nat → Bool → Int → H → Prop) (kr : Nat → Nat → H → Prop) (n43 : Int) (b44 : Nat) (b45 : Nat) (b46 : Nat) (b47 : Nat) (n48 : Int) (b49 : Nat) (h : H) : Prop :=
  ldI .i64 h b49 4 fun n50 =>
  ifB ((n50 : Int) == 3)
  (ldRow h b44 0 0 [.slice] fun a51 l51 c51 =>
  ldI .i64 h b49 0 fun n52 =>
  ldI .i64 h b49 5 fun n53 =>
  callK Try.prog 62 ⟨[.agg ⟨[.slice a51 l51 c51]⟩, .int .i64 n48]⟩ h fun v54 h =>
  elF False (.agg [.slice]) v54 fun a55 l55 c55 =>
  cell h b49 5 = some (.int .i64 n53) ∧ (cell h b49 0 = some (.int .i64 n52) ∧ (stRow h b45 0 0 [.slice a55 l55 c55] fun h =>
  cell h b49 5 = some (.int .i64 n53) ∧ (cell h b49 0 = some (.int .i64 n52) ∧ (stRow h b46 0 0 [.int .i64 0, .int .i64 n52, .int .i64 n53] fun h =>
  kr b45 b46 h)))))
  (kn n43 b44 b45 b46 b47 true n48 h)

def spec_l16Wait_l0 (kx0 : Nat → Nat → Nat → Bool → H → Prop) (kr : Nat → Nat → H → Prop) : Nat → Int → Nat → Nat → Nat → Nat → Bool → Int → H → Prop
 | 0, _, _, _, _, _, _, _, _ => False
 | N + 1, n21, b22, b23, b24, b25, t26, n27, h =>
  ldL h b22 0 fun a28 l28 c28 =>
  ifB (decide ((n27 : Int) < (l28 : Nat)))
  (ldL h b22 0 fun a29 l29 c29 =>
  req (0 ≤ (n27 : Int) ∧ (n27 : Int) < (l29 : Nat))
  (nz a29 fun b30 o31 =>
  ldRow h b30 (o31 + n27.toNat * 10) 0 [.int .i64, .int .i64, .int .i64, .int .i64, .int .i64, .int .i64, .int .i64, .int .i64, .int .i64, .int .i64] fun n32 n33 n34 n35 n36 n37 n38 n39 n40 n41 =>
  new h [.int .i64 0, .int .i64 0, .int .i64 0, .int .i64 0, .int .i64 0, .int .i64 0, .int .i64 0, .int .i64 0, .int .i64 0, .int .i64 0] 38 fun b42 h =>
  stRow h b42 0 0 [.int .i64 n32, .int .i64 n33, .int .i64 n34, .int .i64 n35, .int .i64 n36, .int .i64 n37, .int .i64 n38, .int .i64 n39, .int .i64 n40, .int .i64 n41] fun h =>
  ldI .i64 h b42 1 fun n43 =>
  ldI .i64 h b25 0 fun n44 =>
  ifB ((n43 : Int) != n44)
  (spec_l16Wait_l0 kx0 kr N n21 b22 b23 b24 b25 t26 (IntKind.i64.wrap (n27 + 1)) h)
  (ifB ((n21 : Int) == 0)
  (ldI .i64 h b42 2 fun n45 =>
  ldI .i64 h b25 2 fun n46 =>
  ifB ((n45 : Int) != n46)
  (spec_l16Wait_l0 kx0 kr N n21 b22 b23 b24 b25 t26 (IntKind.i64.wrap (n27 + 1)) h)
  (ifB (decide ((n21 : Int) > 0))
  (ldI .i64 h b42 0 fun n47 =>
  ifB ((n47 : Int) != n21)
  (spec_l16Wait_l0 kx0 kr N n21 b22 b23 b24 b25 t26 (IntKind.i64.wrap (n27 + 1)) h)
  (ifB (decide ((n21 : Int) < (-1)))
  (ldI .i64 h b42 2 fun n48 =>
  ifB ((n48 : Int) != (IntKind.i64.wrap (0 - n21)))
  (spec_l16Wait_l0 kx0 kr N n21 b22 b23 b24 b25 t26 (IntKind.i64.wrap (n27 + 1)) h)
  (spec_l16Wait_j1 (fun n49 b50 b51 b52 b53 t54 n55 h =>
  spec_l16Wait_l0 kx0 kr N n49 b50 b51 b52 b53 t54 (IntKind.i64.wrap (n55 + 1)) h) kr n21 b22 b23 b24 b25 n27 b42 h))
  (spec_l16Wait_j1 (fun n56 b57 b58 b59 b60 t61 n62 h =>
  spec_l16Wait_l0 kx0 kr N n56 b57 b58 b59 b60 t61 (IntKind.i64.wrap (n62 + 1)) h) kr n21 b22 b23 b24 b25 n27 b42 h)))
  (ifB (decide ((n21 : Int) < (-1)))
  (ldI .i64 h b42 2 fun n63 =>
  ifB ((n63 : Int) != (IntKind.i64.wrap (0 - n21)))
  (spec_l16Wait_l0 kx0 kr N n21 b22 b23 b24 b25 t26 (IntKind.i64.wrap (n27 + 1)) h)
  (spec_l16Wait_j1 (fun n64 b65 b66 b67 b68 t69 n70 h =>
  spec_l16Wait_l0 kx0 kr N n64 b65 b66 b67 b68 t69 (IntKind.i64.wrap (n70 + 1)) h) kr n21 b22 b23 b24 b25 n27 b42 h))
  (spec_l16Wait_j1 (fun n71 b72 b73 b74 b75 t76 n77 h =>
  spec_l16Wait_l0 kx0 kr N n71 b72 b73 b74 b75 t76 (IntKind.i64.wrap (n77 + 1)) h) kr n21 b22 b23 b24 b25 n27 b42 h))))
  (ifB (decide ((n21 : Int) > 0))
  (ldI .i64 h b42 0 fun n78 =>
  ifB ((n78 : Int) != n21)
  (spec_l16Wait_l0 kx0 kr N n21 b22 b23 b24 b25 t26 (IntKind.i64.wrap (n27 + 1)) h)
  (ifB (decide ((n21 : Int) < (-1)))
  (ldI .i64 h b42 2 fun n79 =>
  ifB ((n79 : Int) != (IntKind.i64.wrap (0 - n21)))
  (spec_l16Wait_l0 kx0 kr N n21 b22 b23 b24 b25 t26 (IntKind.i64.wrap (n27 + 1)) h)
  (spec_l16Wait_j1 (fun n80 b81 b82 b83 b84 t85 n86 h =>
  spec_l16Wait_l0 kx0 kr N n80 b81 b82 b83 b84 t85 (IntKind.i64.wrap (n86 + 1)) h) kr n21 b22 b23 b24 b25 n27 b42 h))
  (spec_l16Wait_j1 (fun n87 b88 b89 b90 b91 t92 n93 h =>
  spec_l16Wait_l0 kx0 kr N n87 b88 b89 b90 b91 t92 (IntKind.i64.wrap (n93 + 1)) h) kr n21 b22 b23 b24 b25 n27 b42 h)))
  (ifB (decide ((n21 : Int) < (-1)))
  (ldI .i64 h b42 2 fun n94 =>
  ifB ((n94 : Int) != (IntKind.i64.wrap (0 - n21)))
  (spec_l16Wait_l0 kx0 kr N n21 b22 b23 b24 b25 t26 (IntKind.i64.wrap (n27 + 1)) h)
  (spec_l16Wait_j1 (fun n95 b96 b97 b98 b99 t100 n101 h =>
  spec_l16Wait_l0 kx0 kr N n95 b96 b97 b98 b99 t100 (IntKind.i64.wrap (n101 + 1)) h) kr n21 b22 b23 b24 b25 n27 b42 h))
  (spec_l16Wait_j1 (fun n102 b103 b104 b105 b106 t107 n108 h =>
  spec_l16Wait_l0 kx0 kr N n102 b103 b104 b105 b106 t107 (IntKind.i64.wrap (n108 + 1)) h) kr n21 b22 b23 b24 b25 n27 b42 h))))))
  (kx0 b22 b23 b24 t26 h)

def spec_l16Wait (kr : Nat → Nat → H → Prop) (a1 : Option Addr) (l1 : Nat) (c1 : Nat) (n2 : Int) (n3 : Int) (h : H) : Prop :=
  new h [.slice a1 l1 c1] 27 fun b4 h =>
  new h [.slice none 0 0] 27 fun b5 h =>
  new h [.int .i64 0, .int .i64 0, .int .i64 0] 34 fun b6 h =>
  ldL h b4 0 fun a7 l7 c7 =>
  req (0 ≤ (n2 : Int) ∧ (n2 : Int) < (l7 : Nat))
  (nz a7 fun b8 o9 =>
  ldRow h b8 (o9 + n2.toNat * 10) 0 [.int .i64, .int .i64, .int .i64, .int .i64, .int .i64, .int .i64, .int .i64, .int .i64, .int .i64, .int .i64] fun n10 n11 n12 n13 n14 n15 n16 n17 n18 n19 =>
  new h [.int .i64 0, .int .i64 0, .int .i64 0, .int .i64 0, .int .i64 0, .int .i64 0, .int .i64 0, .int .i64 0, .int .i64 0, .int .i64 0] 38 fun b20 h =>
  stRow h b20 0 0 [.int .i64 n10, .int .i64 n11, .int .i64 n12, .int .i64 n13, .int .i64 n14, .int .i64 n15, .int .i64 n16, .int .i64 n17, .int .i64 n18, .int .i64 n19] fun h =>
  ∃ M27, spec_l16Wait_l0 (fun b21 b22 b23 t24 h =>
  ifB t24
  (ldRow h b21 0 0 [.slice] fun a25 l25 c25 =>
  stRow h b22 0 0 [.slice a25 l25 c25] fun h =>
  stRow h b23 0 0 [.int .i64 9, .int .i64 0, .int .i64 0] fun h =>
  kr b22 b23 h)
  (ldRow h b21 0 0 [.slice] fun a26 l26 c26 =>
  stRow h b22 0 0 [.slice a26 l26 c26] fun h =>
  stRow h b23 0 0 [.int .i64 11, .int .i64 0, .int .i64 0] fun h =>
  kr b22 b23 h)) kr M27 n3 b4 b5 b6 b20 false 0 h)

theorem spec_l16Wait_j1_eq (K : Cont) (n43 : Int) (b44 : Nat) (b45 : Nat) (b46 : Nat) (b47 : Nat) (n48 : Int) (b49 : Nat) (h : H) :
  spec_l16Wait_j1 (curV [(2, .int .i64), (3, .blk), (6, .blk), (7, .blk), (8, .blk), (9, .bool), (10, .int .i64)] (K .normal)) (curV [(6, .blk), (7, .blk)] (K .ret)) n43 b44 b45 b46 b47 n48 b49 h = evC Try.prog 82 [] [] (sub code50 [true, true, true, false, true, false, false, true, false, false, true, true]) [(2, .int .i64 n43), (3, .pointer (some ⟨b44, 0, none⟩)), (6, .pointer (some ⟨b45, 0, none⟩)), (7, .pointer (some ⟨b46, 0, none⟩)), (8, .pointer (some ⟨b47, 0, none⟩)), (10, .int .i64 n48), (11, .pointer (some ⟨b49, 0, none⟩))] h (outsOf (some [(2, .int .i64), (3, .blk), (6, .blk), (7, .blk), (8, .blk), (9, .bool), (10, .int .i64)]) [] (some [(6, .blk), (7, .blk)]) K).K := by kernel_rfl

def spec_l16Wait_j1_F : PT := mkF [(2, .int .i64), (3, .blk), (6, .blk), (7, .blk), (8, .blk), (10, .int .i64), (11, .blk)] fun K => spec_l16Wait_j1 (curV [(2, .int .i64), (3, .blk), (6, .blk), (7, .blk), (8, .blk), (9, .bool), (10, .int .i64)] (K .normal)) (curV [(6, .blk), (7, .blk)] (K .ret))

theorem spec_l16Wait_j1_V : Valid Try.prog 82 (sub code50 [true, true, true, false, true, false, false, true, false, false, true, true]) spec_l16Wait_j1_F :=
  piece mixed rows_nil (fun K => by intro n43 b44 b45 b46 b47 n48 b49 h hd; exact (spec_l16Wait_j1_eq K n43 b44 b45 b46 b47 n48 b49 h) ▸ hd)

theorem spec_l16Wait_l0_eq (K : Cont) (N : Nat) (n21 : Int) (b22 : Nat) (b23 : Nat) (b24 : Nat) (b25 : Nat) (t26 : Bool) (n27 : Int) (h : H) :
  spec_l16Wait_l0 (curV [(3, .blk), (6, .blk), (7, .blk), (9, .bool)] (K (.exit 0))) (curV [(6, .blk), (7, .blk)] (K .ret)) (N + 1) n21 b22 b23 b24 b25 t26 n27 h = evC Try.prog 82 [([true, true, false, false, true], spec_l16Wait_j1_F)] [] (sub code50 [true, true, true, false, true, false, false]) [(2, .int .i64 n21), (3, .pointer (some ⟨b22, 0, none⟩)), (6, .pointer (some ⟨b23, 0, none⟩)), (7, .pointer (some ⟨b24, 0, none⟩)), (8, .pointer (some ⟨b25, 0, none⟩)), (9, .bool t26), (10, .int .i64 n27)] h ((outsOf none [(0, [(3, .blk), (6, .blk), (7, .blk), (9, .bool)])] (some [(6, .blk), (7, .blk)]) K).loop [(2, .int .i64), (3, .blk), (6, .blk), (7, .blk), (8, .blk), (9, .bool), (10, .int .i64)] (spec_l16Wait_l0 (curV [(3, .blk), (6, .blk), (7, .blk), (9, .bool)] (K (.exit 0))) (curV [(6, .blk), (7, .blk)] (K .ret)) N)).K := by kernel_rfl

def spec_l16Wait_l0_F : PT := mkL [(2, .int .i64), (3, .blk), (6, .blk), (7, .blk), (8, .blk), (9, .bool), (10, .int .i64)] fun K N => spec_l16Wait_l0 (curV [(3, .blk), (6, .blk), (7, .blk), (9, .bool)] (K (.exit 0))) (curV [(6, .blk), (7, .blk)] (K .ret)) N

theorem spec_l16Wait_l0_V : Valid Try.prog 82 (sub code50 [true, true, true, false, true, false]) spec_l16Wait_l0_F :=
  loop_at (code50) [true, true, true, false, true, false] (loop_piece (c := (sub code50 [true, true, true, false, true, false, false])) mixed (rows_cons (q' := [true, false, false, true, true]) (valid_at (p := [true, true, true, false, true, false, false]) spec_l16Wait_j1_V rfl) rfl rows_nil) (fun K => by intro n21 b22 b23 b24 b25 t26 n27 h hd; exact hd) (fun K N => by intro n21 b22 b23 b24 b25 t26 n27 h hd; exact (spec_l16Wait_l0_eq K N n21 b22 b23 b24 b25 t26 n27 h) ▸ hd))

theorem spec_l16Wait_eq (K : Cont) (a1 : Option Addr) (l1 : Nat) (c1 : Nat) (n2 : Int) (n3 : Int) (h : H) :
  spec_l16Wait (curV [(6, .blk), (7, .blk)] (K .ret)) a1 l1 c1 n2 n3 h = evC Try.prog 82 [([false, false, true, false, true, true, true], spec_l16Wait_l0_F)] [] code50 [(0, .agg ⟨[.slice a1 l1 c1]⟩), (1, .int .i64 n2), (2, .int .i64 n3)] h (outsOf none [] (some [(6, .blk), (7, .blk)]) K).K := by kernel_rfl

def spec_l16Wait_F : PT := mkF [(0, .agg [.slice]), (1, .int .i64), (2, .int .i64)] fun K => spec_l16Wait (curV [(6, .blk), (7, .blk)] (K .ret))

theorem spec_l16Wait_V : Valid Try.prog 82 code50 spec_l16Wait_F :=
  piece mixed (rows_cons (q' := [true, true, true, false, true, false]) spec_l16Wait_l0_V rfl rows_nil) (fun K => by intro a1 l1 c1 n2 n3 h hd; exact (spec_l16Wait_eq K a1 l1 c1 n2 n3 h) ▸ hd)

theorem spec_l16Wait_c0 (a1 : Option Addr) (l1 : Nat) (c1 : Nat) (n2 : Int) (n3 : Int) (h : H) (K : Value → H → Prop) :
  spec_l16Wait (fun b100001 b100002 h =>
  ldRow h b100001 0 0 [.slice] fun a100003 l100003 c100003 =>
  ldRow h b100002 0 0 [.int .i64, .int .i64, .int .i64] fun n100004 n100005 n100006 =>
  K (.tuple ⟨[.agg ⟨[.slice a100003 l100003 c100003]⟩, .agg ⟨[.int .i64 n100004, .int .i64 n100005, .int .i64 n100006]⟩]⟩) h) a1 l1 c1 n2 n3 h = callF Try.prog Try.f50.results.toList spec_l16Wait_F [.agg ⟨[.slice a1 l1 c1]⟩, .int .i64 n2, .int .i64 n3] h K := by kernel_rfl

theorem spec_l16Wait_call {a1 : Option Addr} {l1 : Nat} {c1 : Nat} {n2 : Int} {n3 : Int} {h : H} {K : Value → H → Prop} (hs : spec_l16Wait (fun b100001 b100002 h =>
  ldRow h b100001 0 0 [.slice] fun a100003 l100003 c100003 =>
  ldRow h b100002 0 0 [.int .i64, .int .i64, .int .i64] fun n100004 n100005 n100006 =>
  K (.tuple ⟨[.agg ⟨[.slice a100003 l100003 c100003]⟩, .agg ⟨[.int .i64 n100004, .int .i64 n100005, .int .i64 n100006]⟩]⟩) h) a1 l1 c1 n2 n3 h) : callK Try.prog 50 ⟨[.agg ⟨[.slice a1 l1 c1]⟩, .int .i64 n2, .int .i64 n3]⟩ h K :=
  func_calls Try.func50 body50 spec_l16Wait_V (Nat.le_of_ble_eq_true (by kernel_rfl)) (spec_l16Wait_c0 a1 l1 c1 n2 n3 h K ▸ hs)

def spec_l16Wait_M_j1 (kn : Int → Bool → Int → Option Addr → Nat → Nat → Int → Int → H → Prop) (kr : Option Addr → Nat → Nat → Int → Int → Int → H → Prop) (n50 : Int) (n51 : Int) (a52 : Option Addr) (l52 : Nat) (c52 : Nat) (n60 : Int) (n62 : Int) (n71 : Int) (n75 : Int) (n76 : Int) (h : H) : Prop :=
  ifB ((n75 : Int) == 3)
  (callD Try.prog 62 ⟨[.agg ⟨[.slice a52 l52 c52]⟩, .int .i64 n51]⟩ h fun v82 h =>
  elF False (.agg [.slice]) v82 fun a83 l83 c83 =>
  kr a83 l83 c83 0 n71 n76 h)
  (kn n50 true n51 a52 l52 c52 n60 n62 h)

def spec_l16Wait_M_l0 (kx0 : Bool → Option Addr → Nat → Nat → H → Prop) (kr : Option Addr → Nat → Nat → Int → Int → Int → H → Prop) : Nat → Int → Bool → Int → Option Addr → Nat → Nat → Int → Int → H → Prop
 | 0, _, _, _, _, _, _, _, _, _ => False
 | N + 1, n16, t17, n18, a19, l19, c19, n27, n29, h =>
  ifB (decide ((n18 : Int) < (l19 : Nat)))
  (req (0 ≤ (n18 : Int) ∧ (n18 : Int) < (l19 : Nat))
  (nz a19 fun b38 o39 =>
  ldRow h b38 (o39 + n18.toNat * 10) 0 [.int .i64, .int .i64, .int .i64, .int .i64, .int .i64, .int .i64, .int .i64, .int .i64, .int .i64, .int .i64] fun n40 n41 n42 n43 n44 n45 n46 n47 n48 n49 =>
  ifB ((n41 : Int) != n27)
  (spec_l16Wait_M_l0 kx0 kr N n16 t17 (IntKind.i64.wrap (n18 + 1)) a19 l19 c19 n27 n29 h)
  (ifB ((n16 : Int) == 0)
  (ifB ((n42 : Int) != n29)
  (spec_l16Wait_M_l0 kx0 kr N n16 t17 (IntKind.i64.wrap (n18 + 1)) a19 l19 c19 n27 n29 h)
  (ifB (decide ((n16 : Int) > 0))
  (ifB ((n40 : Int) != n16)
  (spec_l16Wait_M_l0 kx0 kr N n16 t17 (IntKind.i64.wrap (n18 + 1)) a19 l19 c19 n27 n29 h)
  (ifB (decide ((n16 : Int) < (-1)))
  (ifB ((n42 : Int) != (IntKind.i64.wrap (0 - n16)))
  (spec_l16Wait_M_l0 kx0 kr N n16 t17 (IntKind.i64.wrap (n18 + 1)) a19 l19 c19 n27 n29 h)
  (spec_l16Wait_M_j1 (fun n50 t51 n52 a53 l53 c53 n61 n63 h =>
  spec_l16Wait_M_l0 kx0 kr N n50 t51 (IntKind.i64.wrap (n52 + 1)) a53 l53 c53 n61 n63 h) kr n16 n18 a19 l19 c19 n27 n29 n40 n44 n45 h))
  (spec_l16Wait_M_j1 (fun n72 t73 n74 a75 l75 c75 n83 n85 h =>
  spec_l16Wait_M_l0 kx0 kr N n72 t73 (IntKind.i64.wrap (n74 + 1)) a75 l75 c75 n83 n85 h) kr n16 n18 a19 l19 c19 n27 n29 n40 n44 n45 h)))
  (ifB (decide ((n16 : Int) < (-1)))
  (ifB ((n42 : Int) != (IntKind.i64.wrap (0 - n16)))
  (spec_l16Wait_M_l0 kx0 kr N n16 t17 (IntKind.i64.wrap (n18 + 1)) a19 l19 c19 n27 n29 h)
  (spec_l16Wait_M_j1 (fun n94 t95 n96 a97 l97 c97 n105 n107 h =>
  spec_l16Wait_M_l0 kx0 kr N n94 t95 (IntKind.i64.wrap (n96 + 1)) a97 l97 c97 n105 n107 h) kr n16 n18 a19 l19 c19 n27 n29 n40 n44 n45 h))
  (spec_l16Wait_M_j1 (fun n116 t117 n118 a119 l119 c119 n127 n129 h =>
  spec_l16Wait_M_l0 kx0 kr N n116 t117 (IntKind.i64.wrap (n118 + 1)) a119 l119 c119 n127 n129 h) kr n16 n18 a19 l19 c19 n27 n29 n40 n44 n45 h))))
  (ifB (decide ((n16 : Int) > 0))
  (ifB ((n40 : Int) != n16)
  (spec_l16Wait_M_l0 kx0 kr N n16 t17 (IntKind.i64.wrap (n18 + 1)) a19 l19 c19 n27 n29 h)
  (ifB (decide ((n16 : Int) < (-1)))
  (ifB ((n42 : Int) != (IntKind.i64.wrap (0 - n16)))
  (spec_l16Wait_M_l0 kx0 kr N n16 t17 (IntKind.i64.wrap (n18 + 1)) a19 l19 c19 n27 n29 h)
  (spec_l16Wait_M_j1 (fun n138 t139 n140 a141 l141 c141 n149 n151 h =>
  spec_l16Wait_M_l0 kx0 kr N n138 t139 (IntKind.i64.wrap (n140 + 1)) a141 l141 c141 n149 n151 h) kr n16 n18 a19 l19 c19 n27 n29 n40 n44 n45 h))
  (spec_l16Wait_M_j1 (fun n160 t161 n162 a163 l163 c163 n171 n173 h =>
  spec_l16Wait_M_l0 kx0 kr N n160 t161 (IntKind.i64.wrap (n162 + 1)) a163 l163 c163 n171 n173 h) kr n16 n18 a19 l19 c19 n27 n29 n40 n44 n45 h)))
  (ifB (decide ((n16 : Int) < (-1)))
  (ifB ((n42 : Int) != (IntKind.i64.wrap (0 - n16)))
  (spec_l16Wait_M_l0 kx0 kr N n16 t17 (IntKind.i64.wrap (n18 + 1)) a19 l19 c19 n27 n29 h)
  (spec_l16Wait_M_j1 (fun n182 t183 n184 a185 l185 c185 n193 n195 h =>
  spec_l16Wait_M_l0 kx0 kr N n182 t183 (IntKind.i64.wrap (n184 + 1)) a185 l185 c185 n193 n195 h) kr n16 n18 a19 l19 c19 n27 n29 n40 n44 n45 h))
  (spec_l16Wait_M_j1 (fun n204 t205 n206 a207 l207 c207 n215 n217 h =>
  spec_l16Wait_M_l0 kx0 kr N n204 t205 (IntKind.i64.wrap (n206 + 1)) a207 l207 c207 n215 n217 h) kr n16 n18 a19 l19 c19 n27 n29 n40 n44 n45 h))))))
  (kx0 t17 a19 l19 c19 h)

def spec_l16Wait_M (kr : Option Addr → Nat → Nat → Int → Int → Int → H → Prop) (a1 : Option Addr) (l1 : Nat) (c1 : Nat) (n2 : Int) (n3 : Int) (h : H) : Prop :=
  req (0 ≤ (n2 : Int) ∧ (n2 : Int) < (l1 : Nat))
  (nz a1 fun b4 o5 =>
  ldRow h b4 (o5 + n2.toNat * 10) 0 [.int .i64, .int .i64, .int .i64, .int .i64, .int .i64, .int .i64, .int .i64, .int .i64, .int .i64, .int .i64] fun n6 n7 n8 n9 n10 n11 n12 n13 n14 n15 =>
  ∃ M25, spec_l16Wait_M_l0 (fun t16 a17 l17 c17 h =>
  ifB t16
  (kr a17 l17 c17 9 0 0 h)
  (kr a17 l17 c17 11 0 0 h)) kr M25 n3 false 0 a1 l1 c1 n6 n8 h)

theorem spec_l16Wait_M_j1_D {g0 m0 : H} {kn_1 : Int → Nat → Nat → Nat → Nat → Bool → Int → H → Prop} {kn_2 : Int → Bool → Int → Option Addr → Nat → Nat → Int → Int → H → Prop} (Hkn : ∀ (n200001 : Int) (t200002 : Bool) (n200003 : Int) (a200004 : Option Addr) (l200004 : Nat) (c200004 : Nat) (a200006 : Option Addr) (l200006 : Nat) (c200006 : Nat) (n200008 : Int) (n200009 : Int) (n200010 : Int) (n200012 : Int) (n200013 : Int) (n200014 : Int) (n200015 : Int) (n200016 : Int) (n200017 : Int) (n200018 : Int) (n200019 : Int) (n200020 : Int) (n200021 : Int) (p200005 : Nat) (p200007 : Nat) (p200011 : Nat) (p200022 : Nat) (g m : H), Md g0 m0 g m [lo p200005 [.slice a200004 l200004 c200004], lo p200007 [.slice a200006 l200006 c200006], lo p200011 [.int .i64 n200008, .int .i64 n200009, .int .i64 n200010], lo p200022 [.int .i64 n200012, .int .i64 n200013, .int .i64 n200014, .int .i64 n200015, .int .i64 n200016, .int .i64 n200017, .int .i64 n200018, .int .i64 n200019, .int .i64 n200020, .int .i64 n200021]] → kn_2 n200001 t200002 n200003 a200004 l200004 c200004 n200012 n200014 m → kn_1 n200001 p200005 p200007 p200011 p200022 t200002 n200003 g)
  {kr_1 : Nat → Nat → H → Prop} {kr_2 : Option Addr → Nat → Nat → Int → Int → Int → H → Prop} (Hkr : ∀ (a200001 : Option Addr) (l200001 : Nat) (c200001 : Nat) (n200003 : Int) (n200004 : Int) (n200005 : Int) (p200002 : Nat) (p200006 : Nat) (g m : H), Md g0 m0 g m [lo p200002 [.slice a200001 l200001 c200001], lo p200006 [.int .i64 n200003, .int .i64 n200004, .int .i64 n200005]] → kr_2 a200001 l200001 c200001 n200003 n200004 n200005 m → kr_1 p200002 p200006 g) : ∀ (n1050 : Int) (n1051 : Int) (a1052 : Option Addr) (l1052 : Nat) (c1052 : Nat) (a1054 : Option Addr) (l1054 : Nat) (c1054 : Nat) (n1056 : Int) (n1057 : Int) (n1058 : Int) (n1060 : Int) (n1061 : Int) (n1062 : Int) (n1063 : Int) (n1064 : Int) (n1065 : Int) (n1066 : Int) (n1067 : Int) (n1068 : Int) (n1069 : Int) (n1071 : Int) (n1072 : Int) (n1073 : Int) (n1074 : Int) (n1075 : Int) (n1076 : Int) (n1077 : Int) (n1078 : Int) (n1079 : Int) (n1080 : Int) (p1053 : Nat) (p1055 : Nat) (p1059 : Nat) (p1070 : Nat) (p1081 : Nat) (g m : H), Md g0 m0 g m [lo p1053 [.slice a1052 l1052 c1052], lo p1055 [.slice a1054 l1054 c1054], lo p1059 [.int .i64 n1056, .int .i64 n1057, .int .i64 n1058], lo p1070 [.int .i64 n1060, .int .i64 n1061, .int .i64 n1062, .int .i64 n1063, .int .i64 n1064, .int .i64 n1065, .int .i64 n1066, .int .i64 n1067, .int .i64 n1068, .int .i64 n1069], lo p1081 [.int .i64 n1071, .int .i64 n1072, .int .i64 n1073, .int .i64 n1074, .int .i64 n1075, .int .i64 n1076, .int .i64 n1077, .int .i64 n1078, .int .i64 n1079, .int .i64 n1080]] → spec_l16Wait_M_j1 kn_2 kr_2 n1050 n1051 a1052 l1052 c1052 n1060 n1062 n1071 n1075 n1076 m → spec_l16Wait_j1 kn_1 kr_1 n1050 p1053 p1055 p1059 p1070 n1051 p1081 g := by
  intro n1050 n1051 a1052 l1052 c1052 a1054 l1054 c1054 n1056 n1057 n1058 n1060 n1061 n1062 n1063 n1064 n1065 n1066 n1067 n1068 n1069 n1071 n1072 n1073 n1074 n1075 n1076 n1077 n1078 n1079 n1080 p1053 p1055 p1059 p1070 p1081 g m R
  rw [spec_l16Wait_M_j1, spec_l16Wait_j1]
  exact (p_ldI R rfl (d_if (p_row_L R rfl (p_ldI R rfl (p_ldI R rfl (d_call R fun v1082 g m R =>
  (d_el_ALE fun a1083 l1083 c1083 =>
  (p_cell R rfl (p_cell R rfl (p_stRow R (cs' := [.slice a1083 l1083 c1083]) ⟨rfl, rfl, rfl⟩ fun g R =>
  (p_cell R rfl (p_cell R rfl (p_stRow R (cs' := [.int .i64 0, .int .i64 n1071, .int .i64 n1076]) ⟨rfl, rfl, rfl⟩ fun g R =>
  (Hkr a1083 l1083 c1083 0 n1071 n1076 p1055 p1059 _ _ R.sub))))))))))))
  (Hkn n1050 true n1051 a1052 l1052 c1052 a1054 l1054 c1054 n1056 n1057 n1058 n1060 n1061 n1062 n1063 n1064 n1065 n1066 n1067 n1068 n1069 p1053 p1055 p1059 p1070 _ _ R.sub)))

theorem spec_l16Wait_M_l0_D {g0 m0 : H} {kx0_1 : Nat → Nat → Nat → Bool → H → Prop} {kx0_2 : Bool → Option Addr → Nat → Nat → H → Prop} (Hkx0 : ∀ (t200001 : Bool) (a200002 : Option Addr) (l200002 : Nat) (c200002 : Nat) (a200004 : Option Addr) (l200004 : Nat) (c200004 : Nat) (n200006 : Int) (n200007 : Int) (n200008 : Int) (p200003 : Nat) (p200005 : Nat) (p200009 : Nat) (g m : H), Md g0 m0 g m [lo p200003 [.slice a200002 l200002 c200002], lo p200005 [.slice a200004 l200004 c200004], lo p200009 [.int .i64 n200006, .int .i64 n200007, .int .i64 n200008]] → kx0_2 t200001 a200002 l200002 c200002 m → kx0_1 p200003 p200005 p200009 t200001 g)
  {kr_1 : Nat → Nat → H → Prop} {kr_2 : Option Addr → Nat → Nat → Int → Int → Int → H → Prop} (Hkr : ∀ (a200001 : Option Addr) (l200001 : Nat) (c200001 : Nat) (n200003 : Int) (n200004 : Int) (n200005 : Int) (p200002 : Nat) (p200006 : Nat) (g m : H), Md g0 m0 g m [lo p200002 [.slice a200001 l200001 c200001], lo p200006 [.int .i64 n200003, .int .i64 n200004, .int .i64 n200005]] → kr_2 a200001 l200001 c200001 n200003 n200004 n200005 m → kr_1 p200002 p200006 g) : ∀ (N : Nat) (n1016 : Int) (t1017 : Bool) (n1018 : Int) (a1019 : Option Addr) (l1019 : Nat) (c1019 : Nat) (a1021 : Option Addr) (l1021 : Nat) (c1021 : Nat) (n1023 : Int) (n1024 : Int) (n1025 : Int) (n1027 : Int) (n1028 : Int) (n1029 : Int) (n1030 : Int) (n1031 : Int) (n1032 : Int) (n1033 : Int) (n1034 : Int) (n1035 : Int) (n1036 : Int) (p1020 : Nat) (p1022 : Nat) (p1026 : Nat) (p1037 : Nat) (g m : H), Md g0 m0 g m [lo p1020 [.slice a1019 l1019 c1019], lo p1022 [.slice a1021 l1021 c1021], lo p1026 [.int .i64 n1023, .int .i64 n1024, .int .i64 n1025], lo p1037 [.int .i64 n1027, .int .i64 n1028, .int .i64 n1029, .int .i64 n1030, .int .i64 n1031, .int .i64 n1032, .int .i64 n1033, .int .i64 n1034, .int .i64 n1035, .int .i64 n1036]] → spec_l16Wait_M_l0 kx0_2 kr_2 N n1016 t1017 n1018 a1019 l1019 c1019 n1027 n1029 m → spec_l16Wait_l0 kx0_1 kr_1 N n1016 p1020 p1022 p1026 p1037 t1017 n1018 g := by
  intro N
  induction N with
  | zero => intro n1016 t1017 n1018 a1019 l1019 c1019 a1021 l1021 c1021 n1023 n1024 n1025 n1027 n1028 n1029 n1030 n1031 n1032 n1033 n1034 n1035 n1036 p1020 p1022 p1026 p1037 g m R h0; exact h0.elim
  | succ N ih =>
    intro n1016 t1017 n1018 a1019 l1019 c1019 a1021 l1021 c1021 n1023 n1024 n1025 n1027 n1028 n1029 n1030 n1031 n1032 n1033 n1034 n1035 n1036 p1020 p1022 p1026 p1037 g m R
    rw [spec_l16Wait_M_l0, spec_l16Wait_l0]
    exact (p_ldL R rfl (d_if (p_ldL R rfl (d_req (d_nz fun b1038 o1039 =>
  (d_row_I10 R fun n1040 n1041 n1042 n1043 n1044 n1045 n1046 n1047 n1048 n1049 =>
  (p_new R fun p1050 g R =>
  (p_stRow R (cs' := [.int .i64 n1040, .int .i64 n1041, .int .i64 n1042, .int .i64 n1043, .int .i64 n1044, .int .i64 n1045, .int .i64 n1046, .int .i64 n1047, .int .i64 n1048, .int .i64 n1049]) ⟨rfl, rfl, rfl⟩ fun g R =>
  (p_ldI R rfl (p_ldI R rfl (d_if (ih n1016 t1017 (IntKind.i64.wrap (n1018 + 1)) a1019 l1019 c1019 a1021 l1021 c1021 n1023 n1024 n1025 n1027 n1028 n1029 n1030 n1031 n1032 n1033 n1034 n1035 n1036 p1020 p1022 p1026 p1037 _ _ R.sub)
  (d_if (p_ldI R rfl (p_ldI R rfl (d_if (ih n1016 t1017 (IntKind.i64.wrap (n1018 + 1)) a1019 l1019 c1019 a1021 l1021 c1021 n1023 n1024 n1025 n1027 n1028 n1029 n1030 n1031 n1032 n1033 n1034 n1035 n1036 p1020 p1022 p1026 p1037 _ _ R.sub)
  (d_if (p_ldI R rfl (d_if (ih n1016 t1017 (IntKind.i64.wrap (n1018 + 1)) a1019 l1019 c1019 a1021 l1021 c1021 n1023 n1024 n1025 n1027 n1028 n1029 n1030 n1031 n1032 n1033 n1034 n1035 n1036 p1020 p1022 p1026 p1037 _ _ R.sub)
  (d_if (p_ldI R rfl (d_if (ih n1016 t1017 (IntKind.i64.wrap (n1018 + 1)) a1019 l1019 c1019 a1021 l1021 c1021 n1023 n1024 n1025 n1027 n1028 n1029 n1030 n1031 n1032 n1033 n1034 n1035 n1036 p1020 p1022 p1026 p1037 _ _ R.sub)
  (spec_l16Wait_M_j1_D (by exact fun n1051 t1052 n1053 a1054 l1054 c1054 a1056 l1056 c1056 n1058 n1059 n1060 n1062 n1063 n1064 n1065 n1066 n1067 n1068 n1069 n1070 n1071 p1055 p1057 p1061 p1072 g m R =>
  (ih n1051 t1052 (IntKind.i64.wrap (n1053 + 1)) a1054 l1054 c1054 a1056 l1056 c1056 n1058 n1059 n1060 n1062 n1063 n1064 n1065 n1066 n1067 n1068 n1069 n1070 n1071 p1055 p1057 p1061 p1072 _ _ R.sub))
  (by exact fun a1073 l1073 c1073 n1075 n1076 n1077 p1074 p1078 g m R =>
  (Hkr a1073 l1073 c1073 n1075 n1076 n1077 p1074 p1078 _ _ R.sub)) n1016 n1018 a1019 l1019 c1019 a1021 l1021 c1021 n1023 n1024 n1025 n1027 n1028 n1029 n1030 n1031 n1032 n1033 n1034 n1035 n1036 n1040 n1041 n1042 n1043 n1044 n1045 n1046 n1047 n1048 n1049 p1020 p1022 p1026 p1037 p1050 _ _ R.sub)))
  (spec_l16Wait_M_j1_D (by exact fun n1079 t1080 n1081 a1082 l1082 c1082 a1084 l1084 c1084 n1086 n1087 n1088 n1090 n1091 n1092 n1093 n1094 n1095 n1096 n1097 n1098 n1099 p1083 p1085 p1089 p1100 g m R =>
  (ih n1079 t1080 (IntKind.i64.wrap (n1081 + 1)) a1082 l1082 c1082 a1084 l1084 c1084 n1086 n1087 n1088 n1090 n1091 n1092 n1093 n1094 n1095 n1096 n1097 n1098 n1099 p1083 p1085 p1089 p1100 _ _ R.sub))
  (by exact fun a1101 l1101 c1101 n1103 n1104 n1105 p1102 p1106 g m R =>
  (Hkr a1101 l1101 c1101 n1103 n1104 n1105 p1102 p1106 _ _ R.sub)) n1016 n1018 a1019 l1019 c1019 a1021 l1021 c1021 n1023 n1024 n1025 n1027 n1028 n1029 n1030 n1031 n1032 n1033 n1034 n1035 n1036 n1040 n1041 n1042 n1043 n1044 n1045 n1046 n1047 n1048 n1049 p1020 p1022 p1026 p1037 p1050 _ _ R.sub))))
  (d_if (p_ldI R rfl (d_if (ih n1016 t1017 (IntKind.i64.wrap (n1018 + 1)) a1019 l1019 c1019 a1021 l1021 c1021 n1023 n1024 n1025 n1027 n1028 n1029 n1030 n1031 n1032 n1033 n1034 n1035 n1036 p1020 p1022 p1026 p1037 _ _ R.sub)
  (spec_l16Wait_M_j1_D (by exact fun n1107 t1108 n1109 a1110 l1110 c1110 a1112 l1112 c1112 n1114 n1115 n1116 n1118 n1119 n1120 n1121 n1122 n1123 n1124 n1125 n1126 n1127 p1111 p1113 p1117 p1128 g m R =>
  (ih n1107 t1108 (IntKind.i64.wrap (n1109 + 1)) a1110 l1110 c1110 a1112 l1112 c1112 n1114 n1115 n1116 n1118 n1119 n1120 n1121 n1122 n1123 n1124 n1125 n1126 n1127 p1111 p1113 p1117 p1128 _ _ R.sub))
  (by exact fun a1129 l1129 c1129 n1131 n1132 n1133 p1130 p1134 g m R =>
  (Hkr a1129 l1129 c1129 n1131 n1132 n1133 p1130 p1134 _ _ R.sub)) n1016 n1018 a1019 l1019 c1019 a1021 l1021 c1021 n1023 n1024 n1025 n1027 n1028 n1029 n1030 n1031 n1032 n1033 n1034 n1035 n1036 n1040 n1041 n1042 n1043 n1044 n1045 n1046 n1047 n1048 n1049 p1020 p1022 p1026 p1037 p1050 _ _ R.sub)))
  (spec_l16Wait_M_j1_D (by exact fun n1135 t1136 n1137 a1138 l1138 c1138 a1140 l1140 c1140 n1142 n1143 n1144 n1146 n1147 n1148 n1149 n1150 n1151 n1152 n1153 n1154 n1155 p1139 p1141 p1145 p1156 g m R =>
  (ih n1135 t1136 (IntKind.i64.wrap (n1137 + 1)) a1138 l1138 c1138 a1140 l1140 c1140 n1142 n1143 n1144 n1146 n1147 n1148 n1149 n1150 n1151 n1152 n1153 n1154 n1155 p1139 p1141 p1145 p1156 _ _ R.sub))
  (by exact fun a1157 l1157 c1157 n1159 n1160 n1161 p1158 p1162 g m R =>
  (Hkr a1157 l1157 c1157 n1159 n1160 n1161 p1158 p1162 _ _ R.sub)) n1016 n1018 a1019 l1019 c1019 a1021 l1021 c1021 n1023 n1024 n1025 n1027 n1028 n1029 n1030 n1031 n1032 n1033 n1034 n1035 n1036 n1040 n1041 n1042 n1043 n1044 n1045 n1046 n1047 n1048 n1049 p1020 p1022 p1026 p1037 p1050 _ _ R.sub))))))
  (d_if (p_ldI R rfl (d_if (ih n1016 t1017 (IntKind.i64.wrap (n1018 + 1)) a1019 l1019 c1019 a1021 l1021 c1021 n1023 n1024 n1025 n1027 n1028 n1029 n1030 n1031 n1032 n1033 n1034 n1035 n1036 p1020 p1022 p1026 p1037 _ _ R.sub)
  (d_if (p_ldI R rfl (d_if (ih n1016 t1017 (IntKind.i64.wrap (n1018 + 1)) a1019 l1019 c1019 a1021 l1021 c1021 n1023 n1024 n1025 n1027 n1028 n1029 n1030 n1031 n1032 n1033 n1034 n1035 n1036 p1020 p1022 p1026 p1037 _ _ R.sub)
  (spec_l16Wait_M_j1_D (by exact fun n1163 t1164 n1165 a1166 l1166 c1166 a1168 l1168 c1168 n1170 n1171 n1172 n1174 n1175 n1176 n1177 n1178 n1179 n1180 n1181 n1182 n1183 p1167 p1169 p1173 p1184 g m R =>
  (ih n1163 t1164 (IntKind.i64.wrap (n1165 + 1)) a1166 l1166 c1166 a1168 l1168 c1168 n1170 n1171 n1172 n1174 n1175 n1176 n1177 n1178 n1179 n1180 n1181 n1182 n1183 p1167 p1169 p1173 p1184 _ _ R.sub))
  (by exact fun a1185 l1185 c1185 n1187 n1188 n1189 p1186 p1190 g m R =>
  (Hkr a1185 l1185 c1185 n1187 n1188 n1189 p1186 p1190 _ _ R.sub)) n1016 n1018 a1019 l1019 c1019 a1021 l1021 c1021 n1023 n1024 n1025 n1027 n1028 n1029 n1030 n1031 n1032 n1033 n1034 n1035 n1036 n1040 n1041 n1042 n1043 n1044 n1045 n1046 n1047 n1048 n1049 p1020 p1022 p1026 p1037 p1050 _ _ R.sub)))
  (spec_l16Wait_M_j1_D (by exact fun n1191 t1192 n1193 a1194 l1194 c1194 a1196 l1196 c1196 n1198 n1199 n1200 n1202 n1203 n1204 n1205 n1206 n1207 n1208 n1209 n1210 n1211 p1195 p1197 p1201 p1212 g m R =>
  (ih n1191 t1192 (IntKind.i64.wrap (n1193 + 1)) a1194 l1194 c1194 a1196 l1196 c1196 n1198 n1199 n1200 n1202 n1203 n1204 n1205 n1206 n1207 n1208 n1209 n1210 n1211 p1195 p1197 p1201 p1212 _ _ R.sub))
  (by exact fun a1213 l1213 c1213 n1215 n1216 n1217 p1214 p1218 g m R =>
  (Hkr a1213 l1213 c1213 n1215 n1216 n1217 p1214 p1218 _ _ R.sub)) n1016 n1018 a1019 l1019 c1019 a1021 l1021 c1021 n1023 n1024 n1025 n1027 n1028 n1029 n1030 n1031 n1032 n1033 n1034 n1035 n1036 n1040 n1041 n1042 n1043 n1044 n1045 n1046 n1047 n1048 n1049 p1020 p1022 p1026 p1037 p1050 _ _ R.sub))))
  (d_if (p_ldI R rfl (d_if (ih n1016 t1017 (IntKind.i64.wrap (n1018 + 1)) a1019 l1019 c1019 a1021 l1021 c1021 n1023 n1024 n1025 n1027 n1028 n1029 n1030 n1031 n1032 n1033 n1034 n1035 n1036 p1020 p1022 p1026 p1037 _ _ R.sub)
  (spec_l16Wait_M_j1_D (by exact fun n1219 t1220 n1221 a1222 l1222 c1222 a1224 l1224 c1224 n1226 n1227 n1228 n1230 n1231 n1232 n1233 n1234 n1235 n1236 n1237 n1238 n1239 p1223 p1225 p1229 p1240 g m R =>
  (ih n1219 t1220 (IntKind.i64.wrap (n1221 + 1)) a1222 l1222 c1222 a1224 l1224 c1224 n1226 n1227 n1228 n1230 n1231 n1232 n1233 n1234 n1235 n1236 n1237 n1238 n1239 p1223 p1225 p1229 p1240 _ _ R.sub))
  (by exact fun a1241 l1241 c1241 n1243 n1244 n1245 p1242 p1246 g m R =>
  (Hkr a1241 l1241 c1241 n1243 n1244 n1245 p1242 p1246 _ _ R.sub)) n1016 n1018 a1019 l1019 c1019 a1021 l1021 c1021 n1023 n1024 n1025 n1027 n1028 n1029 n1030 n1031 n1032 n1033 n1034 n1035 n1036 n1040 n1041 n1042 n1043 n1044 n1045 n1046 n1047 n1048 n1049 p1020 p1022 p1026 p1037 p1050 _ _ R.sub)))
  (spec_l16Wait_M_j1_D (by exact fun n1247 t1248 n1249 a1250 l1250 c1250 a1252 l1252 c1252 n1254 n1255 n1256 n1258 n1259 n1260 n1261 n1262 n1263 n1264 n1265 n1266 n1267 p1251 p1253 p1257 p1268 g m R =>
  (ih n1247 t1248 (IntKind.i64.wrap (n1249 + 1)) a1250 l1250 c1250 a1252 l1252 c1252 n1254 n1255 n1256 n1258 n1259 n1260 n1261 n1262 n1263 n1264 n1265 n1266 n1267 p1251 p1253 p1257 p1268 _ _ R.sub))
  (by exact fun a1269 l1269 c1269 n1271 n1272 n1273 p1270 p1274 g m R =>
  (Hkr a1269 l1269 c1269 n1271 n1272 n1273 p1270 p1274 _ _ R.sub)) n1016 n1018 a1019 l1019 c1019 a1021 l1021 c1021 n1023 n1024 n1025 n1027 n1028 n1029 n1030 n1031 n1032 n1033 n1034 n1035 n1036 n1040 n1041 n1042 n1043 n1044 n1045 n1046 n1047 n1048 n1049 p1020 p1022 p1026 p1037 p1050 _ _ R.sub)))))))))))))
  (Hkx0 t1017 a1019 l1019 c1019 a1021 l1021 c1021 n1023 n1024 n1025 p1020 p1022 p1026 _ _ R.sub)))

theorem spec_l16Wait_M_D {g0 m0 : H} {kr_1 : Nat → Nat → H → Prop} {kr_2 : Option Addr → Nat → Nat → Int → Int → Int → H → Prop} (Hkr : ∀ (a200001 : Option Addr) (l200001 : Nat) (c200001 : Nat) (n200003 : Int) (n200004 : Int) (n200005 : Int) (p200002 : Nat) (p200006 : Nat) (g m : H), Md g0 m0 g m [lo p200002 [.slice a200001 l200001 c200001], lo p200006 [.int .i64 n200003, .int .i64 n200004, .int .i64 n200005]] → kr_2 a200001 l200001 c200001 n200003 n200004 n200005 m → kr_1 p200002 p200006 g) : ∀ (a1001 : Option Addr) (l1001 : Nat) (c1001 : Nat) (n1002 : Int) (n1003 : Int) (g m : H), Md g0 m0 g m [] → spec_l16Wait_M kr_2 a1001 l1001 c1001 n1002 n1003 m → spec_l16Wait kr_1 a1001 l1001 c1001 n1002 n1003 g := by
  intro a1001 l1001 c1001 n1002 n1003 g m R
  rw [spec_l16Wait_M, spec_l16Wait]
  exact (p_new R fun p1004 g R =>
  (p_new R fun p1005 g R =>
  (p_new R fun p1006 g R =>
  (p_ldL R rfl (d_req (d_nz fun b1007 o1008 =>
  (d_row_I10 R fun n1009 n1010 n1011 n1012 n1013 n1014 n1015 n1016 n1017 n1018 =>
  (p_new R fun p1019 g R =>
  (p_stRow R (cs' := [.int .i64 n1009, .int .i64 n1010, .int .i64 n1011, .int .i64 n1012, .int .i64 n1013, .int .i64 n1014, .int .i64 n1015, .int .i64 n1016, .int .i64 n1017, .int .i64 n1018]) ⟨rfl, rfl, rfl⟩ fun g R =>
  (d_ex fun N => spec_l16Wait_M_l0_D (by exact fun t1020 a1021 l1021 c1021 a1023 l1023 c1023 n1025 n1026 n1027 p1022 p1024 p1028 g m R =>
  (d_if (p_row_L R rfl (p_stRow R (cs' := [.slice a1021 l1021 c1021]) ⟨rfl, rfl, rfl⟩ fun g R =>
  (p_stRow R (cs' := [.int .i64 9, .int .i64 0, .int .i64 0]) ⟨rfl, rfl, rfl⟩ fun g R =>
  (Hkr a1021 l1021 c1021 9 0 0 p1024 p1028 _ _ R.sub))))
  (p_row_L R rfl (p_stRow R (cs' := [.slice a1021 l1021 c1021]) ⟨rfl, rfl, rfl⟩ fun g R =>
  (p_stRow R (cs' := [.int .i64 11, .int .i64 0, .int .i64 0]) ⟨rfl, rfl, rfl⟩ fun g R =>
  (Hkr a1021 l1021 c1021 11 0 0 p1024 p1028 _ _ R.sub))))))
  (by exact fun a1029 l1029 c1029 n1031 n1032 n1033 p1030 p1034 g m R =>
  (Hkr a1029 l1029 c1029 n1031 n1032 n1033 p1030 p1034 _ _ R.sub)) N n1003 false 0 a1001 l1001 c1001 none 0 0 0 0 0 n1009 n1010 n1011 n1012 n1013 n1014 n1015 n1016 n1017 n1018 p1004 p1005 p1006 p1019 _ _ R.sub))))))))))

theorem spec_l16Wait_M_call {a1 : Option Addr} {l1 : Nat} {c1 : Nat} {n2 : Int} {n3 : Int} {h : H} {K : Value → H → Prop} (hs : spec_l16Wait_M (fun a300001 l300001 c300001 n300003 n300004 n300005 h =>
  K (.tuple ⟨[.agg ⟨[.slice a300001 l300001 c300001]⟩, .agg ⟨[.int .i64 n300003, .int .i64 n300004, .int .i64 n300005]⟩]⟩) h) a1 l1 c1 n2 n3 h) : callD Try.prog 50 ⟨[.agg ⟨[.slice a1 l1 c1]⟩, .int .i64 n2, .int .i64 n3]⟩ h K :=
  fun g r => spec_l16Wait_call (spec_l16Wait_M_D (by exact fun a300001 l300001 c300001 n300003 n300004 n300005 p300002 p300006 g m R =>
(p_row_L R rfl (p_row_I3 R rfl rfl rfl (fun h => ⟨m, R.af, h⟩)))) _ _ _ _ _ _ _ (Md.start r) hs)

end Go.Proofs.Ytgcjjapmdbgofaa
