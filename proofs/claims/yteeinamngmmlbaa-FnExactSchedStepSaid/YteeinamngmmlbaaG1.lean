import Derived.Test.YteeinamngmmlbaaProg
import Derived.Test.YteeinamngmmlbaaG0
set_option linter.unusedVariables false
set_option maxRecDepth 100000
namespace Go.Proofs.Yteeinamngmmlbaa
open Go.Eng

noncomputable def code8 : Code := codeOf Try.f8
theorem body8 : Try.f8.body = some code8 := by kernel_rfl
def impl_SchedStep_j0 (kr : Nat → Nat → H → Prop) (s_18 : Nat) (op_19 : Nat) (b20 : Nat) (b21 : Nat) (b22 : Nat) (h : H) : Prop :=
  ldRow h op_19 0 0 [.int .i64, .int .i64, .int .i64] fun n23 n24 n25 =>
  callK Try.prog 21 ⟨[.pointer (some ⟨b22, 0, none⟩), .agg ⟨[.int .i64 n23, .int .i64 n24, .int .i64 n25]⟩]⟩ h fun v26 h =>
  elF False (.agg [.int .i64, .int .i64]) v26 fun n27 n28 =>
  new h [.int .i64 0, .int .i64 0] 34 fun b29 h =>
  stRow h b29 0 0 [.int .i64 n27, .int .i64 n28] fun h =>
  ldI .i64 h b29 0 fun n30 =>
  ifB ((n30 : Int) != 0)
  (ldI .i64 h s_18 0 fun n31 =>
  ldI .i64 h s_18 1 fun n32 =>
  ldL h s_18 2 fun a33 l33 c33 =>
  ldL h s_18 3 fun a34 l34 c34 =>
  appendK Try.prog 60 h none 0 0 (.slice a33 l33 c33) fun a35 l35 c35 h =>
  cell h s_18 3 = some (.slice a34 l34 c34) ∧ (cell h s_18 1 = some (.int .i64 n32) ∧ (cell h s_18 0 = some (.int .i64 n31) ∧ (appendK Try.prog 57 h none 0 0 (.slice a34 l34 c34) fun a36 l36 c36 h =>
  cell h s_18 1 = some (.int .i64 n32) ∧ (cell h s_18 0 = some (.int .i64 n31) ∧ (stRow h b22 0 0 [.int .i64 n31, .int .i64 n32, .slice a35 l35 c35, .slice a36 l36 c36] fun h =>
  ldRow h b22 0 0 [.int .i64, .int .i64, .slice, .slice] fun n37 n38 a39 l39 c39 a40 l40 c40 =>
  ldRow h b29 0 0 [.int .i64, .int .i64] fun n41 n42 =>
  stRow h b20 0 0 [.int .i64 n37, .int .i64 n38, .slice a39 l39 c39, .slice a40 l40 c40] fun h =>
  heldRow h b29 0 0 [.int .i64 n41, .int .i64 n42] (stRow h b21 0 0 [.int .i64 n41, .int .i64 n42] fun h =>
  kr b20 b21 h)))))))
  (ldRow h b22 0 0 [.int .i64, .int .i64, .slice, .slice] fun n43 n44 a45 l45 c45 a46 l46 c46 =>
  ldRow h b29 0 0 [.int .i64, .int .i64] fun n47 n48 =>
  stRow h b20 0 0 [.int .i64 n43, .int .i64 n44, .slice a45 l45 c45, .slice a46 l46 c46] fun h =>
  heldRow h b29 0 0 [.int .i64 n47, .int .i64 n48] (stRow h b21 0 0 [.int .i64 n47, .int .i64 n48] fun h =>
  kr b20 b21 h))

def impl_SchedStep (kr : Nat → Nat → H → Prop) (s_1 : Int) (s_2 : Int) (s_3 : Option Addr) (s_l3 : Nat) (s_c3 : Nat) (s_4 : Option Addr) (s_l4 : Nat) (s_c4 : Nat) (op_5 : Int) (op_6 : Int) (op_7 : Int) (h : H) : Prop :=
  new h [.int .i64 s_1, .int .i64 s_2, .slice s_3 s_l3 s_c3, .slice s_4 s_l4 s_c4] 32 fun b8 h =>
  new h [.int .i64 op_5, .int .i64 op_6, .int .i64 op_7] 38 fun b9 h =>
  new h [.int .i64 0, .int .i64 0, .slice none 0 0, .slice none 0 0] 32 fun b10 h =>
  new h [.int .i64 0, .int .i64 0] 34 fun b11 h =>
  ldRow h b8 0 0 [.int .i64, .int .i64, .slice, .slice] fun n12 n13 a14 l14 c14 a15 l15 c15 =>
  callK Try.prog 20 ⟨[.agg ⟨[.int .i64 n12, .int .i64 n13, .slice a14 l14 c14, .slice a15 l15 c15]⟩]⟩ h fun v16 h =>
  asB v16 fun t17 =>
  ifB (!t17)
  (stRow h b10 0 0 [.int .i64 0, .int .i64 0, .slice none 0 0, .slice none 0 0] fun h =>
  stRow h b11 0 0 [.int .i64 0, .int .i64 0] fun h =>
  kr b10 b11 h)
  (ldI .i64 h b8 0 fun n18 =>
  ldI .i64 h b8 1 fun n19 =>
  ldL h b8 2 fun a20 l20 c20 =>
  ldL h b8 3 fun a21 l21 c21 =>
  (appendK Try.prog 60 h none 0 0 (.slice a20 l20 c20) fun a22 l22 c22 h =>
  cell h b8 3 = some (.slice a21 l21 c21) ∧ (cell h b8 1 = some (.int .i64 n19) ∧ (cell h b8 0 = some (.int .i64 n18) ∧ ((appendK Try.prog 57 h none 0 0 (.slice a21 l21 c21) fun a23 l23 c23 h =>
  cell h b8 1 = some (.int .i64 n19) ∧ (cell h b8 0 = some (.int .i64 n18) ∧ (new h [.int .i64 0, .int .i64 0, .slice none 0 0, .slice none 0 0] 32 fun b24 h =>
  cell h b8 1 = some (.int .i64 n19) ∧ (cell h b8 0 = some (.int .i64 n18) ∧ (stRow h b24 0 0 [.int .i64 n18, .int .i64 n19, .slice a22 l22 c22, .slice a23 l23 c23] fun h =>
  impl_SchedStep_j0 kr b8 b9 b10 b11 b24 h))))) ∧ (new h [.int .i64 0, .int .i64 0, .slice none 0 0, .slice none 0 0] 32 fun b25 h =>
  cell h b8 3 = some (.slice a21 l21 c21) ∧ (cell h b8 1 = some (.int .i64 n19) ∧ (cell h b8 0 = some (.int .i64 n18) ∧ (appendK Try.prog 57 h none 0 0 (.slice a21 l21 c21) fun a26 l26 c26 h =>
  cell h b8 1 = some (.int .i64 n19) ∧ (cell h b8 0 = some (.int .i64 n18) ∧ (stRow h b25 0 0 [.int .i64 n18, .int .i64 n19, .slice a22 l22 c22, .slice a26 l26 c26] fun h =>
  impl_SchedStep_j0 kr b8 b9 b10 b11 b25 h)))))))))) ∧ (new h [.int .i64 0, .int .i64 0, .slice none 0 0, .slice none 0 0] 32 fun b27 h =>
  cell h b8 3 = some (.slice a21 l21 c21) ∧ (cell h b8 2 = some (.slice a20 l20 c20) ∧ (cell h b8 1 = some (.int .i64 n19) ∧ (cell h b8 0 = some (.int .i64 n18) ∧ (appendK Try.prog 60 h none 0 0 (.slice a20 l20 c20) fun a28 l28 c28 h =>
  cell h b8 3 = some (.slice a21 l21 c21) ∧ (cell h b8 1 = some (.int .i64 n19) ∧ (cell h b8 0 = some (.int .i64 n18) ∧ (appendK Try.prog 57 h none 0 0 (.slice a21 l21 c21) fun a29 l29 c29 h =>
  cell h b8 1 = some (.int .i64 n19) ∧ (cell h b8 0 = some (.int .i64 n18) ∧ (stRow h b27 0 0 [.int .i64 n18, .int .i64 n19, .slice a28 l28 c28, .slice a29 l29 c29] fun h =>
  impl_SchedStep_j0 kr b8 b9 b10 b11 b27 h)))))))))))

theorem impl_SchedStep_j0_eq (K : Cont) (s_18 : Nat) (op_19 : Nat) (b20 : Nat) (b21 : Nat) (b22 : Nat) (h : H) :
  impl_SchedStep_j0 (curV [(4, .blk), (5, .blk)] (K .ret)) s_18 op_19 b20 b21 b22 h = evC Try.prog 42 [] [] (sub code8 [true, true, true]) [(2, .pointer (some ⟨s_18, 0, none⟩)), (3, .pointer (some ⟨op_19, 0, none⟩)), (4, .pointer (some ⟨b20, 0, none⟩)), (5, .pointer (some ⟨b21, 0, none⟩)), (6, .pointer (some ⟨b22, 0, none⟩))] h (outsOf none [] (some [(4, .blk), (5, .blk)]) K).K := by kernel_rfl

def impl_SchedStep_j0_F : PT := mkF [(2, .blk), (3, .blk), (4, .blk), (5, .blk), (6, .blk)] fun K => impl_SchedStep_j0 (curV [(4, .blk), (5, .blk)] (K .ret))

theorem impl_SchedStep_j0_V : Valid Try.prog 42 (sub code8 [true, true, true]) impl_SchedStep_j0_F :=
  piece mixed rows_nil (fun K => by intro s_18 op_19 b20 b21 b22 h hd; exact (impl_SchedStep_j0_eq K s_18 op_19 b20 b21 b22 h) ▸ hd)

theorem impl_SchedStep_eq (K : Cont) (s_1 : Int) (s_2 : Int) (s_3 : Option Addr) (s_l3 : Nat) (s_c3 : Nat) (s_4 : Option Addr) (s_l4 : Nat) (s_c4 : Nat) (op_5 : Int) (op_6 : Int) (op_7 : Int) (h : H) :
  impl_SchedStep (curV [(4, .blk), (5, .blk)] (K .ret)) s_1 s_2 s_3 s_l3 s_c3 s_4 s_l4 s_c4 op_5 op_6 op_7 h = evC Try.prog 42 [([true, true, true], impl_SchedStep_j0_F)] [] code8 [(0, .agg ⟨[.int .i64 s_1, .int .i64 s_2, .slice s_3 s_l3 s_c3, .slice s_4 s_l4 s_c4]⟩), (1, .agg ⟨[.int .i64 op_5, .int .i64 op_6, .int .i64 op_7]⟩)] h (outsOf none [] (some [(4, .blk), (5, .blk)]) K).K := by kernel_rfl

def impl_SchedStep_F : PT := mkF [(0, .agg [.int .i64, .int .i64, .slice, .slice]), (1, .agg [.int .i64, .int .i64, .int .i64])] fun K => impl_SchedStep (curV [(4, .blk), (5, .blk)] (K .ret))

theorem impl_SchedStep_V : Valid Try.prog 42 code8 impl_SchedStep_F :=
  piece mixed (rows_cons (q' := [true, true, true]) impl_SchedStep_j0_V rfl rows_nil) (fun K => by intro s_1 s_2 s_3 s_l3 s_c3 s_4 s_l4 s_c4 op_5 op_6 op_7 h hd; exact (impl_SchedStep_eq K s_1 s_2 s_3 s_l3 s_c3 s_4 s_l4 s_c4 op_5 op_6 op_7 h) ▸ hd)

theorem impl_SchedStep_c0 (s_1 : Int) (s_2 : Int) (s_3 : Option Addr) (s_l3 : Nat) (s_c3 : Nat) (s_4 : Option Addr) (s_l4 : Nat) (s_c4 : Nat) (op_5 : Int) (op_6 : Int) (op_7 : Int) (h : H) (K : Value → H → Prop) :
  impl_SchedStep (fun b100001 b100002 h =>
  ldRow h b100001 0 0 [.int .i64, .int .i64, .slice, .slice] fun n100003 n100004 a100005 l100005 c100005 a100006 l100006 c100006 =>
  ldRow h b100002 0 0 [.int .i64, .int .i64] fun n100007 n100008 =>
  K (.tuple ⟨[.agg ⟨[.int .i64 n100003, .int .i64 n100004, .slice a100005 l100005 c100005, .slice a100006 l100006 c100006]⟩, .agg ⟨[.int .i64 n100007, .int .i64 n100008]⟩]⟩) h) s_1 s_2 s_3 s_l3 s_c3 s_4 s_l4 s_c4 op_5 op_6 op_7 h = callF Try.prog Try.f8.results.toList impl_SchedStep_F [.agg ⟨[.int .i64 s_1, .int .i64 s_2, .slice s_3 s_l3 s_c3, .slice s_4 s_l4 s_c4]⟩, .agg ⟨[.int .i64 op_5, .int .i64 op_6, .int .i64 op_7]⟩] h K := by kernel_rfl

theorem impl_SchedStep_call {s_1 : Int} {s_2 : Int} {s_3 : Option Addr} {s_l3 : Nat} {s_c3 : Nat} {s_4 : Option Addr} {s_l4 : Nat} {s_c4 : Nat} {op_5 : Int} {op_6 : Int} {op_7 : Int} {h : H} {K : Value → H → Prop} (hs : impl_SchedStep (fun b100001 b100002 h =>
  ldRow h b100001 0 0 [.int .i64, .int .i64, .slice, .slice] fun n100003 n100004 a100005 l100005 c100005 a100006 l100006 c100006 =>
  ldRow h b100002 0 0 [.int .i64, .int .i64] fun n100007 n100008 =>
  K (.tuple ⟨[.agg ⟨[.int .i64 n100003, .int .i64 n100004, .slice a100005 l100005 c100005, .slice a100006 l100006 c100006]⟩, .agg ⟨[.int .i64 n100007, .int .i64 n100008]⟩]⟩) h) s_1 s_2 s_3 s_l3 s_c3 s_4 s_l4 s_c4 op_5 op_6 op_7 h) : callK Try.prog 8 ⟨[.agg ⟨[.int .i64 s_1, .int .i64 s_2, .slice s_3 s_l3 s_c3, .slice s_4 s_l4 s_c4]⟩, .agg ⟨[.int .i64 op_5, .int .i64 op_6, .int .i64 op_7]⟩]⟩ h K :=
  func_calls Try.func8 body8 impl_SchedStep_V (Nat.le_of_ble_eq_true (by kernel_rfl)) (impl_SchedStep_c0 s_1 s_2 s_3 s_l3 s_c3 s_4 s_l4 s_c4 op_5 op_6 op_7 h K ▸ hs)

theorem o_el_AI2E {n0 : Int} {n1 : Int} {K : Int → Int → Prop} (g : K n0 n1) : elF False (.agg [.int .i64, .int .i64]) (.agg ⟨[.int .i64 n0, .int .i64 n1]⟩) K := Eq.mpr (by kernel_rfl) g
theorem d_el_AI2E {v : Value} {K2 K1 : Int → Int → Prop} (f : ∀ n0 n1, K2 n0 n1 → K1 n0 n1) : elF False (.agg [.int .i64, .int .i64]) v K2 → elF False (.agg [.int .i64, .int .i64]) v K1 :=
  d_el (s := .agg [.int .i64, .int .i64]) (Eq.mpr (by kernel_rfl) f)
def impl_SchedStep_M_j0 (kr : Int → Int → Option Addr → Nat → Nat → Option Addr → Nat → Nat → Int → Int → H → Prop) (b10 : Nat) (n11 : Int) (n12 : Int) (a13 : Option Addr) (l13 : Nat) (c13 : Nat) (a14 : Option Addr) (l14 : Nat) (c14 : Nat) (n16 : Int) (n17 : Int) (n18 : Int) (h : H) : Prop :=
  callD Try.prog 21 ⟨[.pointer (some ⟨b10, 0, none⟩), .agg ⟨[.int .i64 n16, .int .i64 n17, .int .i64 n18]⟩]⟩ h fun v28 h =>
  elF False (.agg [.int .i64, .int .i64]) v28 fun n29 n30 =>
  ifB ((n29 : Int) != 0)
  (appendD Try.prog 60 h none 0 0 (.slice a13 l13 c13) fun a31 l31 c31 h =>
  appendD Try.prog 57 h none 0 0 (.slice a14 l14 c14) fun a32 l32 c32 h =>
  stRow h b10 0 0 [.int .i64 n11, .int .i64 n12, .slice a31 l31 c31, .slice a32 l32 c32] fun h =>
  ldRow h b10 0 0 [.int .i64, .int .i64, .slice, .slice] fun n33 n34 a35 l35 c35 a36 l36 c36 =>
  kr n33 n34 a35 l35 c35 a36 l36 c36 n29 n30 h)
  (ldRow h b10 0 0 [.int .i64, .int .i64, .slice, .slice] fun n37 n38 a39 l39 c39 a40 l40 c40 =>
  kr n37 n38 a39 l39 c39 a40 l40 c40 n29 n30 h)

def impl_SchedStep_M (kr : Int → Int → Option Addr → Nat → Nat → Option Addr → Nat → Nat → Int → Int → H → Prop) (s_1 : Int) (s_2 : Int) (s_3 : Option Addr) (s_l3 : Nat) (s_c3 : Nat) (s_4 : Option Addr) (s_l4 : Nat) (s_c4 : Nat) (op_5 : Int) (op_6 : Int) (op_7 : Int) (h : H) : Prop :=
  callD Try.prog 20 ⟨[.agg ⟨[.int .i64 s_1, .int .i64 s_2, .slice s_3 s_l3 s_c3, .slice s_4 s_l4 s_c4]⟩]⟩ h fun v8 h =>
  asB v8 fun t9 =>
  ifB (!t9)
  (kr 0 0 none 0 0 none 0 0 0 0 h)
  ((appendD Try.prog 60 h none 0 0 (.slice s_3 s_l3 s_c3) fun a10 l10 c10 h =>
  (appendD Try.prog 57 h none 0 0 (.slice s_4 s_l4 s_c4) fun a11 l11 c11 h =>
  newD h [.int .i64 0, .int .i64 0, .slice none 0 0, .slice none 0 0] 32 fun b12 h =>
  stRow h b12 0 0 [.int .i64 s_1, .int .i64 s_2, .slice a10 l10 c10, .slice a11 l11 c11] fun h =>
  impl_SchedStep_M_j0 kr b12 s_1 s_2 s_3 s_l3 s_c3 s_4 s_l4 s_c4 op_5 op_6 op_7 h) ∧ (newD h [.int .i64 0, .int .i64 0, .slice none 0 0, .slice none 0 0] 32 fun b11 h =>
  appendD Try.prog 57 h none 0 0 (.slice s_4 s_l4 s_c4) fun a12 l12 c12 h =>
  stRow h b11 0 0 [.int .i64 s_1, .int .i64 s_2, .slice a10 l10 c10, .slice a12 l12 c12] fun h =>
  impl_SchedStep_M_j0 kr b11 s_1 s_2 s_3 s_l3 s_c3 s_4 s_l4 s_c4 op_5 op_6 op_7 h)) ∧ (newD h [.int .i64 0, .int .i64 0, .slice none 0 0, .slice none 0 0] 32 fun b10 h =>
  appendD Try.prog 60 h none 0 0 (.slice s_3 s_l3 s_c3) fun a11 l11 c11 h =>
  appendD Try.prog 57 h none 0 0 (.slice s_4 s_l4 s_c4) fun a12 l12 c12 h =>
  stRow h b10 0 0 [.int .i64 s_1, .int .i64 s_2, .slice a11 l11 c11, .slice a12 l12 c12] fun h =>
  impl_SchedStep_M_j0 kr b10 s_1 s_2 s_3 s_l3 s_c3 s_4 s_l4 s_c4 op_5 op_6 op_7 h))

theorem impl_SchedStep_M_j0_D {g0 m0 : H} {kr_1 : Nat → Nat → H → Prop} {kr_2 : Int → Int → Option Addr → Nat → Nat → Option Addr → Nat → Nat → Int → Int → H → Prop} (Hkr : ∀ (n200001 : Int) (n200002 : Int) (a200003 : Option Addr) (l200003 : Nat) (c200003 : Nat) (a200004 : Option Addr) (l200004 : Nat) (c200004 : Nat) (n200006 : Int) (n200007 : Int) (p200005 : Nat) (p200008 : Nat) (g m : H), Md g0 m0 g m [lo p200005 [.int .i64 n200001, .int .i64 n200002, .slice a200003 l200003 c200003, .slice a200004 l200004 c200004], lo p200008 [.int .i64 n200006, .int .i64 n200007]] → kr_2 n200001 n200002 a200003 l200003 c200003 a200004 l200004 c200004 n200006 n200007 m → kr_1 p200005 p200008 g) : ∀ (b1010 : Nat) (n1011 : Int) (n1012 : Int) (a1013 : Option Addr) (l1013 : Nat) (c1013 : Nat) (a1014 : Option Addr) (l1014 : Nat) (c1014 : Nat) (n1016 : Int) (n1017 : Int) (n1018 : Int) (n1020 : Int) (n1021 : Int) (a1022 : Option Addr) (l1022 : Nat) (c1022 : Nat) (a1023 : Option Addr) (l1023 : Nat) (c1023 : Nat) (n1025 : Int) (n1026 : Int) (p1015 : Nat) (p1019 : Nat) (p1024 : Nat) (p1027 : Nat) (g m : H), Md g0 m0 g m [lo p1015 [.int .i64 n1011, .int .i64 n1012, .slice a1013 l1013 c1013, .slice a1014 l1014 c1014], lo p1019 [.int .i64 n1016, .int .i64 n1017, .int .i64 n1018], lo p1024 [.int .i64 n1020, .int .i64 n1021, .slice a1022 l1022 c1022, .slice a1023 l1023 c1023], lo p1027 [.int .i64 n1025, .int .i64 n1026]] → impl_SchedStep_M_j0 kr_2 b1010 n1011 n1012 a1013 l1013 c1013 a1014 l1014 c1014 n1016 n1017 n1018 m → impl_SchedStep_j0 kr_1 p1015 p1019 p1024 p1027 b1010 g := by
  intro b1010 n1011 n1012 a1013 l1013 c1013 a1014 l1014 c1014 n1016 n1017 n1018 n1020 n1021 a1022 l1022 c1022 a1023 l1023 c1023 n1025 n1026 p1015 p1019 p1024 p1027 g m R
  rw [impl_SchedStep_M_j0, impl_SchedStep_j0]
  exact (p_row_I3 R rfl rfl rfl (d_call R fun v1028 g m R =>
  (d_el_AI2E fun n1029 n1030 =>
  (p_new R fun p1031 g R =>
  (p_stRow R (cs' := [.int .i64 n1029, .int .i64 n1030]) ⟨rfl, rfl, rfl⟩ fun g R =>
  (p_ldI R rfl (d_if (p_ldI R rfl (p_ldI R rfl (p_ldL R rfl (p_ldL R rfl (d_append R fun a1032 l1032 c1032 g m R =>
  (p_cell R rfl (p_cell R rfl (p_cell R rfl (d_append R fun a1033 l1033 c1033 g m R =>
  (p_cell R rfl (p_cell R rfl (d_stRow R fun g m R =>
  (d_row_I2L2 R fun n1034 n1035 a1036 l1036 c1036 a1037 l1037 c1037 =>
  (p_row_I2 R rfl rfl (p_stRow R (cs' := [.int .i64 n1034, .int .i64 n1035, .slice a1036 l1036 c1036, .slice a1037 l1037 c1037]) ⟨rfl, rfl, rfl⟩ fun g R =>
  (p_held R rfl (p_stRow R (cs' := [.int .i64 n1029, .int .i64 n1030]) ⟨rfl, rfl, rfl⟩ fun g R =>
  (Hkr n1034 n1035 a1036 l1036 c1036 a1037 l1037 c1037 n1029 n1030 p1024 p1027 _ _ R.sub))))))))))))))))))
  (d_row_I2L2 R fun n1038 n1039 a1040 l1040 c1040 a1041 l1041 c1041 =>
  (p_row_I2 R rfl rfl (p_stRow R (cs' := [.int .i64 n1038, .int .i64 n1039, .slice a1040 l1040 c1040, .slice a1041 l1041 c1041]) ⟨rfl, rfl, rfl⟩ fun g R =>
  (p_held R rfl (p_stRow R (cs' := [.int .i64 n1029, .int .i64 n1030]) ⟨rfl, rfl, rfl⟩ fun g R =>
  (Hkr n1038 n1039 a1040 l1040 c1040 a1041 l1041 c1041 n1029 n1030 p1024 p1027 _ _ R.sub)))))))))))))

theorem impl_SchedStep_M_D {g0 m0 : H} {kr_1 : Nat → Nat → H → Prop} {kr_2 : Int → Int → Option Addr → Nat → Nat → Option Addr → Nat → Nat → Int → Int → H → Prop} (Hkr : ∀ (n200001 : Int) (n200002 : Int) (a200003 : Option Addr) (l200003 : Nat) (c200003 : Nat) (a200004 : Option Addr) (l200004 : Nat) (c200004 : Nat) (n200006 : Int) (n200007 : Int) (p200005 : Nat) (p200008 : Nat) (g m : H), Md g0 m0 g m [lo p200005 [.int .i64 n200001, .int .i64 n200002, .slice a200003 l200003 c200003, .slice a200004 l200004 c200004], lo p200008 [.int .i64 n200006, .int .i64 n200007]] → kr_2 n200001 n200002 a200003 l200003 c200003 a200004 l200004 c200004 n200006 n200007 m → kr_1 p200005 p200008 g) : ∀ (s_1001 : Int) (s_1002 : Int) (s_1003 : Option Addr) (s_l1003 : Nat) (s_c1003 : Nat) (s_1004 : Option Addr) (s_l1004 : Nat) (s_c1004 : Nat) (op_1005 : Int) (op_1006 : Int) (op_1007 : Int) (g m : H), Md g0 m0 g m [] → impl_SchedStep_M kr_2 s_1001 s_1002 s_1003 s_l1003 s_c1003 s_1004 s_l1004 s_c1004 op_1005 op_1006 op_1007 m → impl_SchedStep kr_1 s_1001 s_1002 s_1003 s_l1003 s_c1003 s_1004 s_l1004 s_c1004 op_1005 op_1006 op_1007 g := by
  intro s_1001 s_1002 s_1003 s_l1003 s_c1003 s_1004 s_l1004 s_c1004 op_1005 op_1006 op_1007 g m R
  rw [impl_SchedStep_M, impl_SchedStep]
  exact (p_new R fun p1008 g R =>
  (p_new R fun p1009 g R =>
  (p_new R fun p1010 g R =>
  (p_new R fun p1011 g R =>
  (p_row_I2L2 R rfl rfl rfl rfl (d_call R fun v1012 g m R =>
  (d_asB fun t1013 =>
  (d_if (p_stRow R (cs' := [.int .i64 0, .int .i64 0, .slice none 0 0, .slice none 0 0]) ⟨rfl, rfl, rfl⟩ fun g R =>
  (p_stRow R (cs' := [.int .i64 0, .int .i64 0]) ⟨rfl, rfl, rfl⟩ fun g R =>
  (Hkr 0 0 none 0 0 none 0 0 0 0 p1010 p1011 _ _ R.sub)))
  (p_ldI R rfl (p_ldI R rfl (p_ldL R rfl (p_ldL R rfl (d_dup (d_l (d_append R fun a1014 l1014 c1014 g m R =>
  (p_cell R rfl (p_cell R rfl (p_cell R rfl (d_dup (d_l (d_append R fun a1015 l1015 c1015 g m R =>
  (p_cell R rfl (p_cell R rfl (d_new R fun b1016 g m R =>
  (p_cell R rfl (p_cell R rfl (d_stRow R fun g m R =>
  (impl_SchedStep_M_j0_D (by exact fun n1017 n1018 a1019 l1019 c1019 a1020 l1020 c1020 n1022 n1023 p1021 p1024 g m R =>
  (Hkr n1017 n1018 a1019 l1019 c1019 a1020 l1020 c1020 n1022 n1023 p1021 p1024 _ _ R.sub)) b1016 s_1001 s_1002 s_1003 s_l1003 s_c1003 s_1004 s_l1004 s_c1004 op_1005 op_1006 op_1007 0 0 none 0 0 none 0 0 0 0 p1008 p1009 p1010 p1011 _ _ R.sub)))))))))
  (d_r (d_new R fun b1015 g m R =>
  (p_cell R rfl (p_cell R rfl (p_cell R rfl (d_append R fun a1016 l1016 c1016 g m R =>
  (p_cell R rfl (p_cell R rfl (d_stRow R fun g m R =>
  (impl_SchedStep_M_j0_D (by exact fun n1017 n1018 a1019 l1019 c1019 a1020 l1020 c1020 n1022 n1023 p1021 p1024 g m R =>
  (Hkr n1017 n1018 a1019 l1019 c1019 a1020 l1020 c1020 n1022 n1023 p1021 p1024 _ _ R.sub)) b1015 s_1001 s_1002 s_1003 s_l1003 s_c1003 s_1004 s_l1004 s_c1004 op_1005 op_1006 op_1007 0 0 none 0 0 none 0 0 0 0 p1008 p1009 p1010 p1011 _ _ R.sub))))))))))))))))
  (d_r (d_new R fun b1014 g m R =>
  (p_cell R rfl (p_cell R rfl (p_cell R rfl (p_cell R rfl (d_append R fun a1015 l1015 c1015 g m R =>
  (p_cell R rfl (p_cell R rfl (p_cell R rfl (d_append R fun a1016 l1016 c1016 g m R =>
  (p_cell R rfl (p_cell R rfl (d_stRow R fun g m R =>
  (impl_SchedStep_M_j0_D (by exact fun n1017 n1018 a1019 l1019 c1019 a1020 l1020 c1020 n1022 n1023 p1021 p1024 g m R =>
  (Hkr n1017 n1018 a1019 l1019 c1019 a1020 l1020 c1020 n1022 n1023 p1021 p1024 _ _ R.sub)) b1014 s_1001 s_1002 s_1003 s_l1003 s_c1003 s_1004 s_l1004 s_c1004 op_1005 op_1006 op_1007 0 0 none 0 0 none 0 0 0 0 p1008 p1009 p1010 p1011 _ _ R.sub))))))))))))))))))))))))))))

theorem impl_SchedStep_M_call {s_1 : Int} {s_2 : Int} {s_3 : Option Addr} {s_l3 : Nat} {s_c3 : Nat} {s_4 : Option Addr} {s_l4 : Nat} {s_c4 : Nat} {op_5 : Int} {op_6 : Int} {op_7 : Int} {h : H} {K : Value → H → Prop} (hs : impl_SchedStep_M (fun n300001 n300002 a300003 l300003 c300003 a300004 l300004 c300004 n300006 n300007 h =>
  K (.tuple ⟨[.agg ⟨[.int .i64 n300001, .int .i64 n300002, .slice a300003 l300003 c300003, .slice a300004 l300004 c300004]⟩, .agg ⟨[.int .i64 n300006, .int .i64 n300007]⟩]⟩) h) s_1 s_2 s_3 s_l3 s_c3 s_4 s_l4 s_c4 op_5 op_6 op_7 h) : callD Try.prog 8 ⟨[.agg ⟨[.int .i64 s_1, .int .i64 s_2, .slice s_3 s_l3 s_c3, .slice s_4 s_l4 s_c4]⟩, .agg ⟨[.int .i64 op_5, .int .i64 op_6, .int .i64 op_7]⟩]⟩ h K :=
  fun g r => impl_SchedStep_call (impl_SchedStep_M_D (by exact fun n300001 n300002 a300003 l300003 c300003 a300004 l300004 c300004 n300006 n300007 p300005 p300008 g m R =>
(p_row_I2L2 R rfl rfl rfl rfl (p_row_I2 R rfl rfl (fun h => ⟨m, R.af, h⟩)))) _ _ _ _ _ _ _ _ _ _ _ _ _ (Md.start r) hs)

noncomputable def code9 : Code := codeOf Try.f9
theorem body9 : Try.f9.body = some code9 := by kernel_rfl
def laws_eqSched (kr : Bool → H → Prop) (a_1 : Int) (a_2 : Int) (a_3 : Option Addr) (a_l3 : Nat) (a_c3 : Nat) (a_4 : Option Addr) (a_l4 : Nat) (a_c4 : Nat) (b_5 : Int) (b_6 : Int) (b_7 : Option Addr) (b_l7 : Nat) (b_c7 : Nat) (b_8 : Option Addr) (b_l8 : Nat) (b_c8 : Nat) (h : H) : Prop :=
  new h [.int .i64 a_1, .int .i64 a_2, .slice a_3 a_l3 a_c3, .slice a_4 a_l4 a_c4] 32 fun b9 h =>
  new h [.int .i64 b_5, .int .i64 b_6, .slice b_7 b_l7 b_c7, .slice b_8 b_l8 b_c8] 32 fun b10 h =>
  ldI .i64 h b9 0 fun n11 =>
  ldI .i64 h b10 0 fun n12 =>
  ifB ((n11 : Int) != n12)
  (kr false h)
  (ldI .i64 h b9 1 fun n13 =>
  ldI .i64 h b10 1 fun n14 =>
  ifB ((n13 : Int) != n14)
  (kr false h)
  (ldL h b9 2 fun a15 l15 c15 =>
  ldL h b10 2 fun a16 l16 c16 =>
  callK Try.prog 22 ⟨[.slice a15 l15 c15, .slice a16 l16 c16]⟩ h fun v17 h =>
  asB v17 fun t18 =>
  ifB (!t18)
  (kr false h)
  (ldL h b9 3 fun a19 l19 c19 =>
  ldL h b10 3 fun a20 l20 c20 =>
  callK Try.prog 23 ⟨[.slice a19 l19 c19, .slice a20 l20 c20]⟩ h fun v21 h =>
  asB v21 fun t22 =>
  ifB (!t22)
  (kr false h)
  (kr true h))))

theorem laws_eqSched_eq (K : Cont) (a_1 : Int) (a_2 : Int) (a_3 : Option Addr) (a_l3 : Nat) (a_c3 : Nat) (a_4 : Option Addr) (a_l4 : Nat) (a_c4 : Nat) (b_5 : Int) (b_6 : Int) (b_7 : Option Addr) (b_l7 : Nat) (b_c7 : Nat) (b_8 : Option Addr) (b_l8 : Nat) (b_c8 : Nat) (h : H) :
  laws_eqSched (curV [(4, .bool)] (K .ret)) a_1 a_2 a_3 a_l3 a_c3 a_4 a_l4 a_c4 b_5 b_6 b_7 b_l7 b_c7 b_8 b_l8 b_c8 h = evC Try.prog 27 [] [] code9 [(0, .agg ⟨[.int .i64 a_1, .int .i64 a_2, .slice a_3 a_l3 a_c3, .slice a_4 a_l4 a_c4]⟩), (1, .agg ⟨[.int .i64 b_5, .int .i64 b_6, .slice b_7 b_l7 b_c7, .slice b_8 b_l8 b_c8]⟩)] h (outsOf none [] (some [(4, .bool)]) K).K := by kernel_rfl

def laws_eqSched_F : PT := mkF [(0, .agg [.int .i64, .int .i64, .slice, .slice]), (1, .agg [.int .i64, .int .i64, .slice, .slice])] fun K => laws_eqSched (curV [(4, .bool)] (K .ret))

theorem laws_eqSched_V : Valid Try.prog 27 code9 laws_eqSched_F :=
  piece mixed rows_nil (fun K => by intro a_1 a_2 a_3 a_l3 a_c3 a_4 a_l4 a_c4 b_5 b_6 b_7 b_l7 b_c7 b_8 b_l8 b_c8 h hd; exact (laws_eqSched_eq K a_1 a_2 a_3 a_l3 a_c3 a_4 a_l4 a_c4 b_5 b_6 b_7 b_l7 b_c7 b_8 b_l8 b_c8 h) ▸ hd)

theorem laws_eqSched_c0 (a_1 : Int) (a_2 : Int) (a_3 : Option Addr) (a_l3 : Nat) (a_c3 : Nat) (a_4 : Option Addr) (a_l4 : Nat) (a_c4 : Nat) (b_5 : Int) (b_6 : Int) (b_7 : Option Addr) (b_l7 : Nat) (b_c7 : Nat) (b_8 : Option Addr) (b_l8 : Nat) (b_c8 : Nat) (h : H) (K : Value → H → Prop) :
  laws_eqSched (fun t100001 h =>
  K (.bool t100001) h) a_1 a_2 a_3 a_l3 a_c3 a_4 a_l4 a_c4 b_5 b_6 b_7 b_l7 b_c7 b_8 b_l8 b_c8 h = callF Try.prog Try.f9.results.toList laws_eqSched_F [.agg ⟨[.int .i64 a_1, .int .i64 a_2, .slice a_3 a_l3 a_c3, .slice a_4 a_l4 a_c4]⟩, .agg ⟨[.int .i64 b_5, .int .i64 b_6, .slice b_7 b_l7 b_c7, .slice b_8 b_l8 b_c8]⟩] h K := by kernel_rfl

theorem laws_eqSched_call {a_1 : Int} {a_2 : Int} {a_3 : Option Addr} {a_l3 : Nat} {a_c3 : Nat} {a_4 : Option Addr} {a_l4 : Nat} {a_c4 : Nat} {b_5 : Int} {b_6 : Int} {b_7 : Option Addr} {b_l7 : Nat} {b_c7 : Nat} {b_8 : Option Addr} {b_l8 : Nat} {b_c8 : Nat} {h : H} {K : Value → H → Prop} (hs : laws_eqSched (fun t100001 h =>
  K (.bool t100001) h) a_1 a_2 a_3 a_l3 a_c3 a_4 a_l4 a_c4 b_5 b_6 b_7 b_l7 b_c7 b_8 b_l8 b_c8 h) : callK Try.prog 9 ⟨[.agg ⟨[.int .i64 a_1, .int .i64 a_2, .slice a_3 a_l3 a_c3, .slice a_4 a_l4 a_c4]⟩, .agg ⟨[.int .i64 b_5, .int .i64 b_6, .slice b_7 b_l7 b_c7, .slice b_8 b_l8 b_c8]⟩]⟩ h K :=
  func_calls Try.func9 body9 laws_eqSched_V (Nat.le_of_ble_eq_true (by kernel_rfl)) (laws_eqSched_c0 a_1 a_2 a_3 a_l3 a_c3 a_4 a_l4 a_c4 b_5 b_6 b_7 b_l7 b_c7 b_8 b_l8 b_c8 h K ▸ hs)

def laws_eqSched_M (kr : Bool → H → Prop) (a_1 : Int) (a_2 : Int) (a_3 : Option Addr) (a_l3 : Nat) (a_c3 : Nat) (a_4 : Option Addr) (a_l4 : Nat) (a_c4 : Nat) (b_5 : Int) (b_6 : Int) (b_7 : Option Addr) (b_l7 : Nat) (b_c7 : Nat) (b_8 : Option Addr) (b_l8 : Nat) (b_c8 : Nat) (h : H) : Prop :=
  ifB ((a_1 : Int) != b_5)
  (kr false h)
  (ifB ((a_2 : Int) != b_6)
  (kr false h)
  (callD Try.prog 22 ⟨[.slice a_3 a_l3 a_c3, .slice b_7 b_l7 b_c7]⟩ h fun v9 h =>
  asB v9 fun t10 =>
  ifB (!t10)
  (kr false h)
  (callD Try.prog 23 ⟨[.slice a_4 a_l4 a_c4, .slice b_8 b_l8 b_c8]⟩ h fun v11 h =>
  asB v11 fun t12 =>
  ifB (!t12)
  (kr false h)
  (kr true h))))

theorem laws_eqSched_M_D {g0 m0 : H} {kr_1 : Bool → H → Prop} {kr_2 : Bool → H → Prop} (Hkr : ∀ (t200001 : Bool) (g m : H), Md g0 m0 g m [] → kr_2 t200001 m → kr_1 t200001 g) : ∀ (a_1001 : Int) (a_1002 : Int) (a_1003 : Option Addr) (a_l1003 : Nat) (a_c1003 : Nat) (a_1004 : Option Addr) (a_l1004 : Nat) (a_c1004 : Nat) (b_1005 : Int) (b_1006 : Int) (b_1007 : Option Addr) (b_l1007 : Nat) (b_c1007 : Nat) (b_1008 : Option Addr) (b_l1008 : Nat) (b_c1008 : Nat) (g m : H), Md g0 m0 g m [] → laws_eqSched_M kr_2 a_1001 a_1002 a_1003 a_l1003 a_c1003 a_1004 a_l1004 a_c1004 b_1005 b_1006 b_1007 b_l1007 b_c1007 b_1008 b_l1008 b_c1008 m → laws_eqSched kr_1 a_1001 a_1002 a_1003 a_l1003 a_c1003 a_1004 a_l1004 a_c1004 b_1005 b_1006 b_1007 b_l1007 b_c1007 b_1008 b_l1008 b_c1008 g := by
  intro a_1001 a_1002 a_1003 a_l1003 a_c1003 a_1004 a_l1004 a_c1004 b_1005 b_1006 b_1007 b_l1007 b_c1007 b_1008 b_l1008 b_c1008 g m R
  rw [laws_eqSched_M, laws_eqSched]
  exact (p_new R fun p1009 g R =>
  (p_new R fun p1010 g R =>
  (p_ldI R rfl (p_ldI R rfl (d_if (Hkr false _ _ R.sub)
  (p_ldI R rfl (p_ldI R rfl (d_if (Hkr false _ _ R.sub)
  (p_ldL R rfl (p_ldL R rfl (d_call R fun v1011 g m R =>
  (d_asB fun t1012 =>
  (d_if (Hkr false _ _ R.sub)
  (p_ldL R rfl (p_ldL R rfl (d_call R fun v1013 g m R =>
  (d_asB fun t1014 =>
  (d_if (Hkr false _ _ R.sub)
  (Hkr true _ _ R.sub)))))))))))))))))))

theorem laws_eqSched_M_call {a_1 : Int} {a_2 : Int} {a_3 : Option Addr} {a_l3 : Nat} {a_c3 : Nat} {a_4 : Option Addr} {a_l4 : Nat} {a_c4 : Nat} {b_5 : Int} {b_6 : Int} {b_7 : Option Addr} {b_l7 : Nat} {b_c7 : Nat} {b_8 : Option Addr} {b_l8 : Nat} {b_c8 : Nat} {h : H} {K : Value → H → Prop} (hs : laws_eqSched_M (fun t300001 h =>
  K (.bool t300001) h) a_1 a_2 a_3 a_l3 a_c3 a_4 a_l4 a_c4 b_5 b_6 b_7 b_l7 b_c7 b_8 b_l8 b_c8 h) : callD Try.prog 9 ⟨[.agg ⟨[.int .i64 a_1, .int .i64 a_2, .slice a_3 a_l3 a_c3, .slice a_4 a_l4 a_c4]⟩, .agg ⟨[.int .i64 b_5, .int .i64 b_6, .slice b_7 b_l7 b_c7, .slice b_8 b_l8 b_c8]⟩]⟩ h K :=
  fun g r => laws_eqSched_call (laws_eqSched_M_D (by exact fun t300001 g m R =>
(fun h => ⟨m, R.af, h⟩)) _ _ _ _ _ _ _ _ _ _ _ _ _ _ _ _ _ _ (Md.start r) hs)

noncomputable def code10 : Code := codeOf Try.f10
theorem body10 : Try.f10.body = some code10 := by kernel_rfl
def laws_eqSchedRes (kr : Bool → H → Prop) (a_1 : Int) (a_2 : Int) (b_3 : Int) (b_4 : Int) (h : H) : Prop :=
  new h [.int .i64 a_1, .int .i64 a_2] 34 fun b5 h =>
  new h [.int .i64 b_3, .int .i64 b_4] 34 fun b6 h =>
  ldI .i64 h b5 0 fun n7 =>
  ldI .i64 h b6 0 fun n8 =>
  ifB ((n7 : Int) != n8)
  (kr false h)
  (ldI .i64 h b5 1 fun n9 =>
  ldI .i64 h b6 1 fun n10 =>
  ifB ((n9 : Int) != n10)
  (kr false h)
  (kr true h))

theorem laws_eqSchedRes_eq (K : Cont) (a_1 : Int) (a_2 : Int) (b_3 : Int) (b_4 : Int) (h : H) :
  laws_eqSchedRes (curV [(4, .bool)] (K .ret)) a_1 a_2 b_3 b_4 h = evC Try.prog 15 [] [] code10 [(0, .agg ⟨[.int .i64 a_1, .int .i64 a_2]⟩), (1, .agg ⟨[.int .i64 b_3, .int .i64 b_4]⟩)] h (outsOf none [] (some [(4, .bool)]) K).K := by kernel_rfl

def laws_eqSchedRes_F : PT := mkF [(0, .agg [.int .i64, .int .i64]), (1, .agg [.int .i64, .int .i64])] fun K => laws_eqSchedRes (curV [(4, .bool)] (K .ret))

theorem laws_eqSchedRes_V : Valid Try.prog 15 code10 laws_eqSchedRes_F :=
  piece mixed rows_nil (fun K => by intro a_1 a_2 b_3 b_4 h hd; exact (laws_eqSchedRes_eq K a_1 a_2 b_3 b_4 h) ▸ hd)

theorem laws_eqSchedRes_c0 (a_1 : Int) (a_2 : Int) (b_3 : Int) (b_4 : Int) (h : H) (K : Value → H → Prop) :
  laws_eqSchedRes (fun t100001 h =>
  K (.bool t100001) h) a_1 a_2 b_3 b_4 h = callF Try.prog Try.f10.results.toList laws_eqSchedRes_F [.agg ⟨[.int .i64 a_1, .int .i64 a_2]⟩, .agg ⟨[.int .i64 b_3, .int .i64 b_4]⟩] h K := by kernel_rfl

theorem laws_eqSchedRes_call {a_1 : Int} {a_2 : Int} {b_3 : Int} {b_4 : Int} {h : H} {K : Value → H → Prop} (hs : laws_eqSchedRes (fun t100001 h =>
  K (.bool t100001) h) a_1 a_2 b_3 b_4 h) : callK Try.prog 10 ⟨[.agg ⟨[.int .i64 a_1, .int .i64 a_2]⟩, .agg ⟨[.int .i64 b_3, .int .i64 b_4]⟩]⟩ h K :=
  func_calls Try.func10 body10 laws_eqSchedRes_V (Nat.le_of_ble_eq_true (by kernel_rfl)) (laws_eqSchedRes_c0 a_1 a_2 b_3 b_4 h K ▸ hs)

def laws_eqSchedRes_M (kr : Bool → H → Prop) (a_1 : Int) (a_2 : Int) (b_3 : Int) (b_4 : Int) (h : H) : Prop :=
  ifB ((a_1 : Int) != b_3)
  (kr false h)
  (ifB ((a_2 : Int) != b_4)
  (kr false h)
  (kr true h))

theorem laws_eqSchedRes_M_D {g0 m0 : H} {kr_1 : Bool → H → Prop} {kr_2 : Bool → H → Prop} (Hkr : ∀ (t200001 : Bool) (g m : H), Md g0 m0 g m [] → kr_2 t200001 m → kr_1 t200001 g) : ∀ (a_1001 : Int) (a_1002 : Int) (b_1003 : Int) (b_1004 : Int) (g m : H), Md g0 m0 g m [] → laws_eqSchedRes_M kr_2 a_1001 a_1002 b_1003 b_1004 m → laws_eqSchedRes kr_1 a_1001 a_1002 b_1003 b_1004 g := by
  intro a_1001 a_1002 b_1003 b_1004 g m R
  rw [laws_eqSchedRes_M, laws_eqSchedRes]
  exact (p_new R fun p1005 g R =>
  (p_new R fun p1006 g R =>
  (p_ldI R rfl (p_ldI R rfl (d_if (Hkr false _ _ R.sub)
  (p_ldI R rfl (p_ldI R rfl (d_if (Hkr false _ _ R.sub)
  (Hkr true _ _ R.sub)))))))))

theorem laws_eqSchedRes_M_call {a_1 : Int} {a_2 : Int} {b_3 : Int} {b_4 : Int} {h : H} {K : Value → H → Prop} (hs : laws_eqSchedRes_M (fun t300001 h =>
  K (.bool t300001) h) a_1 a_2 b_3 b_4 h) : callD Try.prog 10 ⟨[.agg ⟨[.int .i64 a_1, .int .i64 a_2]⟩, .agg ⟨[.int .i64 b_3, .int .i64 b_4]⟩]⟩ h K :=
  fun g r => laws_eqSchedRes_call (laws_eqSchedRes_M_D (by exact fun t300001 g m R =>
(fun h => ⟨m, R.af, h⟩)) _ _ _ _ _ _ (Md.start r) hs)

noncomputable def code11 : Code := codeOf Try.f11
theorem body11 : Try.f11.body = some code11 := by kernel_rfl
def laws_markSched (kr : Int → H → Prop) (a_1 : Int) (a_2 : Int) (a_3 : Option Addr) (a_l3 : Nat) (a_c3 : Nat) (a_4 : Option Addr) (a_l4 : Nat) (a_c4 : Nat) (k_5 : Int) (h : H) : Prop :=
  new h [.int .i64 a_1, .int .i64 a_2, .slice a_3 a_l3 a_c3, .slice a_4 a_l4 a_c4] 32 fun b6 h =>
  ldL h b6 2 fun a7 l7 c7 =>
  callK Try.prog 24 ⟨[.slice a7 l7 c7, .int .i64 k_5]⟩ h fun v8 h =>
  asI .i64 v8 fun n9 =>
  ldL h b6 3 fun a10 l10 c10 =>
  callK Try.prog 25 ⟨[.slice a10 l10 c10, .int .i64 n9]⟩ h fun v11 h =>
  asI .i64 v11 fun n12 =>
  kr n12 h

theorem laws_markSched_eq (K : Cont) (a_1 : Int) (a_2 : Int) (a_3 : Option Addr) (a_l3 : Nat) (a_c3 : Nat) (a_4 : Option Addr) (a_l4 : Nat) (a_c4 : Nat) (k_5 : Int) (h : H) :
  laws_markSched (curV [(4, .int .i64)] (K .ret)) a_1 a_2 a_3 a_l3 a_c3 a_4 a_l4 a_c4 k_5 h = evC Try.prog 14 [] [] code11 [(0, .agg ⟨[.int .i64 a_1, .int .i64 a_2, .slice a_3 a_l3 a_c3, .slice a_4 a_l4 a_c4]⟩), (1, .int .i64 k_5)] h (outsOf none [] (some [(4, .int .i64)]) K).K := by kernel_rfl

def laws_markSched_F : PT := mkF [(0, .agg [.int .i64, .int .i64, .slice, .slice]), (1, .int .i64)] fun K => laws_markSched (curV [(4, .int .i64)] (K .ret))

theorem laws_markSched_V : Valid Try.prog 14 code11 laws_markSched_F :=
  piece mixed rows_nil (fun K => by intro a_1 a_2 a_3 a_l3 a_c3 a_4 a_l4 a_c4 k_5 h hd; exact (laws_markSched_eq K a_1 a_2 a_3 a_l3 a_c3 a_4 a_l4 a_c4 k_5 h) ▸ hd)

theorem laws_markSched_c0 (a_1 : Int) (a_2 : Int) (a_3 : Option Addr) (a_l3 : Nat) (a_c3 : Nat) (a_4 : Option Addr) (a_l4 : Nat) (a_c4 : Nat) (k_5 : Int) (h : H) (K : Value → H → Prop) :
  laws_markSched (fun n100001 h =>
  K (.int .i64 n100001) h) a_1 a_2 a_3 a_l3 a_c3 a_4 a_l4 a_c4 k_5 h = callF Try.prog Try.f11.results.toList laws_markSched_F [.agg ⟨[.int .i64 a_1, .int .i64 a_2, .slice a_3 a_l3 a_c3, .slice a_4 a_l4 a_c4]⟩, .int .i64 k_5] h K := by kernel_rfl

theorem laws_markSched_call {a_1 : Int} {a_2 : Int} {a_3 : Option Addr} {a_l3 : Nat} {a_c3 : Nat} {a_4 : Option Addr} {a_l4 : Nat} {a_c4 : Nat} {k_5 : Int} {h : H} {K : Value → H → Prop} (hs : laws_markSched (fun n100001 h =>
  K (.int .i64 n100001) h) a_1 a_2 a_3 a_l3 a_c3 a_4 a_l4 a_c4 k_5 h) : callK Try.prog 11 ⟨[.agg ⟨[.int .i64 a_1, .int .i64 a_2, .slice a_3 a_l3 a_c3, .slice a_4 a_l4 a_c4]⟩, .int .i64 k_5]⟩ h K :=
  func_calls Try.func11 body11 laws_markSched_V (Nat.le_of_ble_eq_true (by kernel_rfl)) (laws_markSched_c0 a_1 a_2 a_3 a_l3 a_c3 a_4 a_l4 a_c4 k_5 h K ▸ hs)

def laws_markSched_M (kr : Int → H → Prop) (a_1 : Int) (a_2 : Int) (a_3 : Option Addr) (a_l3 : Nat) (a_c3 : Nat) (a_4 : Option Addr) (a_l4 : Nat) (a_c4 : Nat) (k_5 : Int) (h : H) : Prop :=
  callD Try.prog 24 ⟨[.slice a_3 a_l3 a_c3, .int .i64 k_5]⟩ h fun v6 h =>
  asI .i64 v6 fun n7 =>
  callD Try.prog 25 ⟨[.slice a_4 a_l4 a_c4, .int .i64 n7]⟩ h fun v8 h =>
  asI .i64 v8 fun n9 =>
  kr n9 h

theorem laws_markSched_M_D {g0 m0 : H} {kr_1 : Int → H → Prop} {kr_2 : Int → H → Prop} (Hkr : ∀ (n200001 : Int) (g m : H), Md g0 m0 g m [] → kr_2 n200001 m → kr_1 n200001 g) : ∀ (a_1001 : Int) (a_1002 : Int) (a_1003 : Option Addr) (a_l1003 : Nat) (a_c1003 : Nat) (a_1004 : Option Addr) (a_l1004 : Nat) (a_c1004 : Nat) (k_1005 : Int) (g m : H), Md g0 m0 g m [] → laws_markSched_M kr_2 a_1001 a_1002 a_1003 a_l1003 a_c1003 a_1004 a_l1004 a_c1004 k_1005 m → laws_markSched kr_1 a_1001 a_1002 a_1003 a_l1003 a_c1003 a_1004 a_l1004 a_c1004 k_1005 g := by
  intro a_1001 a_1002 a_1003 a_l1003 a_c1003 a_1004 a_l1004 a_c1004 k_1005 g m R
  rw [laws_markSched_M, laws_markSched]
  exact (p_new R fun p1006 g R =>
  (p_ldL R rfl (d_call R fun v1007 g m R =>
  (d_asI fun n1008 =>
  (p_ldL R rfl (d_call R fun v1009 g m R =>
  (d_asI fun n1010 =>
  (Hkr n1010 _ _ R.sub))))))))

theorem laws_markSched_M_call {a_1 : Int} {a_2 : Int} {a_3 : Option Addr} {a_l3 : Nat} {a_c3 : Nat} {a_4 : Option Addr} {a_l4 : Nat} {a_c4 : Nat} {k_5 : Int} {h : H} {K : Value → H → Prop} (hs : laws_markSched_M (fun n300001 h =>
  K (.int .i64 n300001) h) a_1 a_2 a_3 a_l3 a_c3 a_4 a_l4 a_c4 k_5 h) : callD Try.prog 11 ⟨[.agg ⟨[.int .i64 a_1, .int .i64 a_2, .slice a_3 a_l3 a_c3, .slice a_4 a_l4 a_c4]⟩, .int .i64 k_5]⟩ h K :=
  fun g r => laws_markSched_call (laws_markSched_M_D (by exact fun n300001 g m R =>
(fun h => ⟨m, R.af, h⟩)) _ _ _ _ _ _ _ _ _ _ _ (Md.start r) hs)

noncomputable def code12 : Code := codeOf Try.f12
theorem body12 : Try.f12.body = some code12 := by kernel_rfl
def laws_heldSched (kr : Int → H → Prop) (a_1 : Int) (a_2 : Int) (a_3 : Option Addr) (a_l3 : Nat) (a_c3 : Nat) (a_4 : Option Addr) (a_l4 : Nat) (a_c4 : Nat) (k_5 : Int) (h : H) : Prop :=
  new h [.int .i64 a_1, .int .i64 a_2, .slice a_3 a_l3 a_c3, .slice a_4 a_l4 a_c4] 32 fun b6 h =>
  ldL h b6 2 fun a7 l7 c7 =>
  callK Try.prog 26 ⟨[.slice a7 l7 c7, .int .i64 k_5]⟩ h fun v8 h =>
  asI .i64 v8 fun n9 =>
  ifB (decide ((n9 : Int) < 0))
  (kr (-1) h)
  (ldL h b6 3 fun a10 l10 c10 =>
  callK Try.prog 27 ⟨[.slice a10 l10 c10, .int .i64 n9]⟩ h fun v11 h =>
  asI .i64 v11 fun n12 =>
  ifB (decide ((n12 : Int) < 0))
  (kr (-1) h)
  (kr n12 h))

theorem laws_heldSched_eq (K : Cont) (a_1 : Int) (a_2 : Int) (a_3 : Option Addr) (a_l3 : Nat) (a_c3 : Nat) (a_4 : Option Addr) (a_l4 : Nat) (a_c4 : Nat) (k_5 : Int) (h : H) :
  laws_heldSched (curV [(4, .int .i64)] (K .ret)) a_1 a_2 a_3 a_l3 a_c3 a_4 a_l4 a_c4 k_5 h = evC Try.prog 18 [] [] code12 [(0, .agg ⟨[.int .i64 a_1, .int .i64 a_2, .slice a_3 a_l3 a_c3, .slice a_4 a_l4 a_c4]⟩), (1, .int .i64 k_5)] h (outsOf none [] (some [(4, .int .i64)]) K).K := by kernel_rfl

def laws_heldSched_F : PT := mkF [(0, .agg [.int .i64, .int .i64, .slice, .slice]), (1, .int .i64)] fun K => laws_heldSched (curV [(4, .int .i64)] (K .ret))

theorem laws_heldSched_V : Valid Try.prog 18 code12 laws_heldSched_F :=
  piece mixed rows_nil (fun K => by intro a_1 a_2 a_3 a_l3 a_c3 a_4 a_l4 a_c4 k_5 h hd; exact (laws_heldSched_eq K a_1 a_2 a_3 a_l3 a_c3 a_4 a_l4 a_c4 k_5 h) ▸ hd)

theorem laws_heldSched_c0 (a_1 : Int) (a_2 : Int) (a_3 : Option Addr) (a_l3 : Nat) (a_c3 : Nat) (a_4 : Option Addr) (a_l4 : Nat) (a_c4 : Nat) (k_5 : Int) (h : H) (K : Value → H → Prop) :
  laws_heldSched (fun n100001 h =>
  K (.int .i64 n100001) h) a_1 a_2 a_3 a_l3 a_c3 a_4 a_l4 a_c4 k_5 h = callF Try.prog Try.f12.results.toList laws_heldSched_F [.agg ⟨[.int .i64 a_1, .int .i64 a_2, .slice a_3 a_l3 a_c3, .slice a_4 a_l4 a_c4]⟩, .int .i64 k_5] h K := by kernel_rfl

theorem laws_heldSched_call {a_1 : Int} {a_2 : Int} {a_3 : Option Addr} {a_l3 : Nat} {a_c3 : Nat} {a_4 : Option Addr} {a_l4 : Nat} {a_c4 : Nat} {k_5 : Int} {h : H} {K : Value → H → Prop} (hs : laws_heldSched (fun n100001 h =>
  K (.int .i64 n100001) h) a_1 a_2 a_3 a_l3 a_c3 a_4 a_l4 a_c4 k_5 h) : callK Try.prog 12 ⟨[.agg ⟨[.int .i64 a_1, .int .i64 a_2, .slice a_3 a_l3 a_c3, .slice a_4 a_l4 a_c4]⟩, .int .i64 k_5]⟩ h K :=
  func_calls Try.func12 body12 laws_heldSched_V (Nat.le_of_ble_eq_true (by kernel_rfl)) (laws_heldSched_c0 a_1 a_2 a_3 a_l3 a_c3 a_4 a_l4 a_c4 k_5 h K ▸ hs)

def laws_heldSched_M (kr : Int → H → Prop) (a_1 : Int) (a_2 : Int) (a_3 : Option Addr) (a_l3 : Nat) (a_c3 : Nat) (a_4 : Option Addr) (a_l4 : Nat) (a_c4 : Nat) (k_5 : Int) (h : H) : Prop :=
  callD Try.prog 26 ⟨[.slice a_3 a_l3 a_c3, .int .i64 k_5]⟩ h fun v6 h =>
  asI .i64 v6 fun n7 =>
  ifB (decide ((n7 : Int) < 0))
  (kr (-1) h)
  (callD Try.prog 27 ⟨[.slice a_4 a_l4 a_c4, .int .i64 n7]⟩ h fun v8 h =>
  asI .i64 v8 fun n9 =>
  ifB (decide ((n9 : Int) < 0))
  (kr (-1) h)
  (kr n9 h))

theorem laws_heldSched_M_D {g0 m0 : H} {kr_1 : Int → H → Prop} {kr_2 : Int → H → Prop} (Hkr : ∀ (n200001 : Int) (g m : H), Md g0 m0 g m [] → kr_2 n200001 m → kr_1 n200001 g) : ∀ (a_1001 : Int) (a_1002 : Int) (a_1003 : Option Addr) (a_l1003 : Nat) (a_c1003 : Nat) (a_1004 : Option Addr) (a_l1004 : Nat) (a_c1004 : Nat) (k_1005 : Int) (g m : H), Md g0 m0 g m [] → laws_heldSched_M kr_2 a_1001 a_1002 a_1003 a_l1003 a_c1003 a_1004 a_l1004 a_c1004 k_1005 m → laws_heldSched kr_1 a_1001 a_1002 a_1003 a_l1003 a_c1003 a_1004 a_l1004 a_c1004 k_1005 g := by
  intro a_1001 a_1002 a_1003 a_l1003 a_c1003 a_1004 a_l1004 a_c1004 k_1005 g m R
  rw [laws_heldSched_M, laws_heldSched]
  exact (p_new R fun p1006 g R =>
  (p_ldL R rfl (d_call R fun v1007 g m R =>
  (d_asI fun n1008 =>
  (d_if (Hkr (-1) _ _ R.sub)
  (p_ldL R rfl (d_call R fun v1009 g m R =>
  (d_asI fun n1010 =>
  (d_if (Hkr (-1) _ _ R.sub)
  (Hkr n1010 _ _ R.sub))))))))))

theorem laws_heldSched_M_call {a_1 : Int} {a_2 : Int} {a_3 : Option Addr} {a_l3 : Nat} {a_c3 : Nat} {a_4 : Option Addr} {a_l4 : Nat} {a_c4 : Nat} {k_5 : Int} {h : H} {K : Value → H → Prop} (hs : laws_heldSched_M (fun n300001 h =>
  K (.int .i64 n300001) h) a_1 a_2 a_3 a_l3 a_c3 a_4 a_l4 a_c4 k_5 h) : callD Try.prog 12 ⟨[.agg ⟨[.int .i64 a_1, .int .i64 a_2, .slice a_3 a_l3 a_c3, .slice a_4 a_l4 a_c4]⟩, .int .i64 k_5]⟩ h K :=
  fun g r => laws_heldSched_call (laws_heldSched_M_D (by exact fun n300001 g m R =>
(fun h => ⟨m, R.af, h⟩)) _ _ _ _ _ _ _ _ _ _ _ (Md.start r) hs)

noncomputable def code13 : Code := codeOf Try.f13
theorem body13 : Try.f13.body = some code13 := by kernel_rfl
def laws_szThreadS (kr : Int → H → Prop) (a_1 : Option Addr) (a_l1 : Nat) (a_c1 : Nat) (left_2 : Int) (h : H) : Prop :=
  ifB (decide ((IntKind.i64.wrap (left_2 - (a_l1 : Nat)) : Int) < 0))
  (kr (-1) h)
  (kr (IntKind.i64.wrap (left_2 - (a_l1 : Nat))) h)

theorem laws_szThreadS_eq (K : Cont) (a_1 : Option Addr) (a_l1 : Nat) (a_c1 : Nat) (left_2 : Int) (h : H) :
  laws_szThreadS (curV [(4, .int .i64)] (K .ret)) a_1 a_l1 a_c1 left_2 h = evC Try.prog 12 [] [] code13 [(0, .slice a_1 a_l1 a_c1), (1, .int .i64 left_2)] h (outsOf none [] (some [(4, .int .i64)]) K).K := by kernel_rfl

def laws_szThreadS_F : PT := mkF [(0, .slice), (1, .int .i64)] fun K => laws_szThreadS (curV [(4, .int .i64)] (K .ret))

theorem laws_szThreadS_V : Valid Try.prog 12 code13 laws_szThreadS_F :=
  piece mixed rows_nil (fun K => by intro a_1 a_l1 a_c1 left_2 h hd; exact (laws_szThreadS_eq K a_1 a_l1 a_c1 left_2 h) ▸ hd)

theorem laws_szThreadS_c0 (a_1 : Option Addr) (a_l1 : Nat) (a_c1 : Nat) (left_2 : Int) (h : H) (K : Value → H → Prop) :
  laws_szThreadS (fun n100001 h =>
  K (.int .i64 n100001) h) a_1 a_l1 a_c1 left_2 h = callF Try.prog Try.f13.results.toList laws_szThreadS_F [.slice a_1 a_l1 a_c1, .int .i64 left_2] h K := by kernel_rfl

theorem laws_szThreadS_call {a_1 : Option Addr} {a_l1 : Nat} {a_c1 : Nat} {left_2 : Int} {h : H} {K : Value → H → Prop} (hs : laws_szThreadS (fun n100001 h =>
  K (.int .i64 n100001) h) a_1 a_l1 a_c1 left_2 h) : callK Try.prog 13 ⟨[.slice a_1 a_l1 a_c1, .int .i64 left_2]⟩ h K :=
  func_calls Try.func13 body13 laws_szThreadS_V (Nat.le_of_ble_eq_true (by kernel_rfl)) (laws_szThreadS_c0 a_1 a_l1 a_c1 left_2 h K ▸ hs)

def laws_szThreadS_M (kr : Int → H → Prop) (a_1 : Option Addr) (a_l1 : Nat) (a_c1 : Nat) (left_2 : Int) (h : H) : Prop :=
  ifB (decide ((IntKind.i64.wrap (left_2 - (a_l1 : Nat)) : Int) < 0))
  (kr (-1) h)
  (kr (IntKind.i64.wrap (left_2 - (a_l1 : Nat))) h)

theorem laws_szThreadS_M_D {g0 m0 : H} {kr_1 : Int → H → Prop} {kr_2 : Int → H → Prop} (Hkr : ∀ (n200001 : Int) (g m : H), Md g0 m0 g m [] → kr_2 n200001 m → kr_1 n200001 g) : ∀ (a_1001 : Option Addr) (a_l1001 : Nat) (a_c1001 : Nat) (left_1002 : Int) (g m : H), Md g0 m0 g m [] → laws_szThreadS_M kr_2 a_1001 a_l1001 a_c1001 left_1002 m → laws_szThreadS kr_1 a_1001 a_l1001 a_c1001 left_1002 g := by
  intro a_1001 a_l1001 a_c1001 left_1002 g m R
  rw [laws_szThreadS_M, laws_szThreadS]
  exact (d_if (Hkr (-1) _ _ R.sub)
  (Hkr (IntKind.i64.wrap (left_1002 - (a_l1001 : Nat))) _ _ R.sub))

theorem laws_szThreadS_M_call {a_1 : Option Addr} {a_l1 : Nat} {a_c1 : Nat} {left_2 : Int} {h : H} {K : Value → H → Prop} (hs : laws_szThreadS_M (fun n300001 h =>
  K (.int .i64 n300001) h) a_1 a_l1 a_c1 left_2 h) : callD Try.prog 13 ⟨[.slice a_1 a_l1 a_c1, .int .i64 left_2]⟩ h K :=
  fun g r => laws_szThreadS_call (laws_szThreadS_M_D (by exact fun n300001 g m R =>
(fun h => ⟨m, R.af, h⟩)) _ _ _ _ _ _ (Md.start r) hs)

noncomputable def code14 : Code := codeOf Try.f14
theorem body14 : Try.f14.body = some code14 := by kernel_rfl
def laws_szLockS (kr : Int → H → Prop) (a_1 : Option Addr) (a_l1 : Nat) (a_c1 : Nat) (left_2 : Int) (h : H) : Prop :=
  ifB (decide ((IntKind.i64.wrap (left_2 - (a_l1 : Nat)) : Int) < 0))
  (kr (-1) h)
  (kr (IntKind.i64.wrap (left_2 - (a_l1 : Nat))) h)

theorem laws_szLockS_eq (K : Cont) (a_1 : Option Addr) (a_l1 : Nat) (a_c1 : Nat) (left_2 : Int) (h : H) :
  laws_szLockS (curV [(4, .int .i64)] (K .ret)) a_1 a_l1 a_c1 left_2 h = evC Try.prog 12 [] [] code14 [(0, .slice a_1 a_l1 a_c1), (1, .int .i64 left_2)] h (outsOf none [] (some [(4, .int .i64)]) K).K := by kernel_rfl

def laws_szLockS_F : PT := mkF [(0, .slice), (1, .int .i64)] fun K => laws_szLockS (curV [(4, .int .i64)] (K .ret))

theorem laws_szLockS_V : Valid Try.prog 12 code14 laws_szLockS_F :=
  piece mixed rows_nil (fun K => by intro a_1 a_l1 a_c1 left_2 h hd; exact (laws_szLockS_eq K a_1 a_l1 a_c1 left_2 h) ▸ hd)

theorem laws_szLockS_c0 (a_1 : Option Addr) (a_l1 : Nat) (a_c1 : Nat) (left_2 : Int) (h : H) (K : Value → H → Prop) :
  laws_szLockS (fun n100001 h =>
  K (.int .i64 n100001) h) a_1 a_l1 a_c1 left_2 h = callF Try.prog Try.f14.results.toList laws_szLockS_F [.slice a_1 a_l1 a_c1, .int .i64 left_2] h K := by kernel_rfl

theorem laws_szLockS_call {a_1 : Option Addr} {a_l1 : Nat} {a_c1 : Nat} {left_2 : Int} {h : H} {K : Value → H → Prop} (hs : laws_szLockS (fun n100001 h =>
  K (.int .i64 n100001) h) a_1 a_l1 a_c1 left_2 h) : callK Try.prog 14 ⟨[.slice a_1 a_l1 a_c1, .int .i64 left_2]⟩ h K :=
  func_calls Try.func14 body14 laws_szLockS_V (Nat.le_of_ble_eq_true (by kernel_rfl)) (laws_szLockS_c0 a_1 a_l1 a_c1 left_2 h K ▸ hs)

def laws_szLockS_M (kr : Int → H → Prop) (a_1 : Option Addr) (a_l1 : Nat) (a_c1 : Nat) (left_2 : Int) (h : H) : Prop :=
  ifB (decide ((IntKind.i64.wrap (left_2 - (a_l1 : Nat)) : Int) < 0))
  (kr (-1) h)
  (kr (IntKind.i64.wrap (left_2 - (a_l1 : Nat))) h)

theorem laws_szLockS_M_D {g0 m0 : H} {kr_1 : Int → H → Prop} {kr_2 : Int → H → Prop} (Hkr : ∀ (n200001 : Int) (g m : H), Md g0 m0 g m [] → kr_2 n200001 m → kr_1 n200001 g) : ∀ (a_1001 : Option Addr) (a_l1001 : Nat) (a_c1001 : Nat) (left_1002 : Int) (g m : H), Md g0 m0 g m [] → laws_szLockS_M kr_2 a_1001 a_l1001 a_c1001 left_1002 m → laws_szLockS kr_1 a_1001 a_l1001 a_c1001 left_1002 g := by
  intro a_1001 a_l1001 a_c1001 left_1002 g m R
  rw [laws_szLockS_M, laws_szLockS]
  exact (d_if (Hkr (-1) _ _ R.sub)
  (Hkr (IntKind.i64.wrap (left_1002 - (a_l1001 : Nat))) _ _ R.sub))

theorem laws_szLockS_M_call {a_1 : Option Addr} {a_l1 : Nat} {a_c1 : Nat} {left_2 : Int} {h : H} {K : Value → H → Prop} (hs : laws_szLockS_M (fun n300001 h =>
  K (.int .i64 n300001) h) a_1 a_l1 a_c1 left_2 h) : callD Try.prog 14 ⟨[.slice a_1 a_l1 a_c1, .int .i64 left_2]⟩ h K :=
  fun g r => laws_szLockS_call (laws_szLockS_M_D (by exact fun n300001 g m R =>
(fun h => ⟨m, R.af, h⟩)) _ _ _ _ _ _ (Md.start r) hs)

noncomputable def code15 : Code := codeOf Try.f15
theorem body15 : Try.f15.body = some code15 := by kernel_rfl
def spec_SchedOk_l0 (kx0 : Nat → H → Prop) (kr : Bool → H → Prop) : Nat → Nat → Int → H → Prop
 | 0, _, _, _ => False
 | N + 1, b14, n15, h =>
  ldL h b14 3 fun a16 l16 c16 =>
  ifB (decide ((n15 : Int) < (l16 : Nat)))
  (ldL h b14 3 fun a17 l17 c17 =>
  req (0 ≤ (n15 : Int) ∧ (n15 : Int) < (l17 : Nat))
  (nz a17 fun b18 o19 =>
  ldRow h b18 (o19 + n15.toNat * 2) 0 [.int .i64, .int .i64] fun n20 n21 =>
  new h [.int .i64 0, .int .i64 0] 57 fun b22 h =>
  stRow h b22 0 0 [.int .i64 n20, .int .i64 n21] fun h =>
  ldI .i64 h b22 0 fun n23 =>
  ifB (decide ((n23 : Int) < 0))
  (kr false h)
  (ldI .i64 h b22 0 fun n24 =>
  ifB (decide ((n24 : Int) ≥ 16))
  (kr false h)
  (ifB (decide ((n15 : Int) > 0))
  (ldL h b14 3 fun a25 l25 c25 =>
  req (0 ≤ (IntKind.i64.wrap (n15 - 1) : Int) ∧ (IntKind.i64.wrap (n15 - 1) : Int) < (l25 : Nat))
  (nz a25 fun b26 o27 =>
  ldI .i64 h b26 (o27 + (IntKind.i64.wrap (n15 - 1)).toNat * 2) fun n28 =>
  ldI .i64 h b22 0 fun n29 =>
  ifB (decide ((n28 : Int) ≥ n29))
  (kr false h)
  (ldRow h b14 0 0 [.int .i64, .int .i64, .slice, .slice] fun n30 n31 a32 l32 c32 a33 l33 c33 =>
  ldI .i64 h b22 1 fun n34 =>
  callK Try.prog 29 ⟨[.agg ⟨[.int .i64 n30, .int .i64 n31, .slice a32 l32 c32, .slice a33 l33 c33]⟩, .int .i64 n34]⟩ h fun v35 h =>
  asI .i64 v35 fun n36 =>
  ifB (decide ((n36 : Int) < 0))
  (kr false h)
  (spec_SchedOk_l0 kx0 kr N b14 (IntKind.i64.wrap (n15 + 1)) h))))
  (ldRow h b14 0 0 [.int .i64, .int .i64, .slice, .slice] fun n37 n38 a39 l39 c39 a40 l40 c40 =>
  ldI .i64 h b22 1 fun n41 =>
  callK Try.prog 29 ⟨[.agg ⟨[.int .i64 n37, .int .i64 n38, .slice a39 l39 c39, .slice a40 l40 c40]⟩, .int .i64 n41]⟩ h fun v42 h =>
  asI .i64 v42 fun n43 =>
  ifB (decide ((n43 : Int) < 0))
  (kr false h)
  (spec_SchedOk_l0 kx0 kr N b14 (IntKind.i64.wrap (n15 + 1)) h))))))
  (kx0 b14 h)

def spec_SchedOk_l3 (kx4 : Nat → Int → H → Prop) (kr : Bool → H → Prop) : Nat → Nat → Int → Nat → Int → H → Prop
 | 0, _, _, _, _, _ => False
 | N + 1, b63, n64, b65, n66, h =>
  ifB (decide ((n66 : Int) < n64))
  (ldL h b63 2 fun a67 l67 c67 =>
  req (0 ≤ (n66 : Int) ∧ (n66 : Int) < (l67 : Nat))
  (nz a67 fun b68 o69 =>
  ldI .i64 h b68 ((o69 + n66.toNat * 8) + 3) fun n70 =>
  ldI .i64 h b65 3 fun n71 =>
  ifB ((n70 : Int) == n71)
  (kr false h)
  (spec_SchedOk_l3 kx4 kr N b63 n64 b65 (IntKind.i64.wrap (n66 + 1)) h)))
  (kx4 b63 n64 h)

def spec_SchedOk_j2 (kn : Nat → Int → H → Prop) (kr : Bool → H → Prop) (b60 : Nat) (n61 : Int) (b62 : Nat) (h : H) : Prop :=
  ∃ M63, spec_SchedOk_l3 kn kr M63 b60 n61 b62 0 h

def spec_SchedOk_l1 (kx2 : H → Prop) (kr : Bool → H → Prop) : Nat → Nat → Int → H → Prop
 | 0, _, _, _ => False
 | N + 1, b45, n46, h =>
  ldL h b45 2 fun a47 l47 c47 =>
  ifB (decide ((n46 : Int) < (l47 : Nat)))
  (ldL h b45 2 fun a48 l48 c48 =>
  req (0 ≤ (n46 : Int) ∧ (n46 : Int) < (l48 : Nat))
  (nz a48 fun b49 o50 =>
  ldRow h b49 (o50 + n46.toNat * 8) 0 [.int .i64, .int .i64, .int .i64, .int .i64, .int .i64, .int .i64, .int .i64, .int .i64] fun n51 n52 n53 n54 n55 n56 n57 n58 =>
  new h [.int .i64 0, .int .i64 0, .int .i64 0, .int .i64 0, .int .i64 0, .int .i64 0, .int .i64 0, .int .i64 0] 60 fun b59 h =>
  stRow h b59 0 0 [.int .i64 n51, .int .i64 n52, .int .i64 n53, .int .i64 n54, .int .i64 n55, .int .i64 n56, .int .i64 n57, .int .i64 n58] fun h =>
  ifB (decide ((n46 : Int) > 0))
  (ldL h b45 2 fun a60 l60 c60 =>
  req (0 ≤ (IntKind.i64.wrap (n46 - 1) : Int) ∧ (IntKind.i64.wrap (n46 - 1) : Int) < (l60 : Nat))
  (nz a60 fun b61 o62 =>
  ldI .i64 h b61 (o62 + (IntKind.i64.wrap (n46 - 1)).toNat * 8) fun n63 =>
  ldI .i64 h b59 0 fun n64 =>
  ifB (decide ((n63 : Int) ≥ n64))
  (kr false h)
  (ldRow h b45 0 0 [.int .i64, .int .i64, .slice, .slice] fun n65 n66 a67 l67 c67 a68 l68 c68 =>
  ldRow h b59 0 0 [.int .i64, .int .i64, .int .i64, .int .i64, .int .i64, .int .i64, .int .i64, .int .i64] fun n69 n70 n71 n72 n73 n74 n75 n76 =>
  callK Try.prog 30 ⟨[.agg ⟨[.int .i64 n65, .int .i64 n66, .slice a67 l67 c67, .slice a68 l68 c68]⟩, .agg ⟨[.int .i64 n69, .int .i64 n70, .int .i64 n71, .int .i64 n72, .int .i64 n73, .int .i64 n74, .int .i64 n75, .int .i64 n76]⟩]⟩ h fun v77 h =>
  asB v77 fun t78 =>
  ifB (!t78)
  (kr false h)
  (ldRow h b45 0 0 [.int .i64, .int .i64, .slice, .slice] fun n79 n80 a81 l81 c81 a82 l82 c82 =>
  ldI .i64 h b59 0 fun n83 =>
  ldI .i64 h b59 0 fun n84 =>
  callK Try.prog 31 ⟨[.agg ⟨[.int .i64 n79, .int .i64 n80, .slice a81 l81 c81, .slice a82 l82 c82]⟩, .int .i64 n83, .int .i64 n84]⟩ h fun v85 h =>
  asB v85 fun t86 =>
  ifB t86
  (kr false h)
  (spec_SchedOk_j2 (fun b87 n88 h =>
  spec_SchedOk_l1 kx2 kr N b87 (IntKind.i64.wrap (n88 + 1)) h) kr b45 n46 b59 h)))))
  (ldRow h b45 0 0 [.int .i64, .int .i64, .slice, .slice] fun n89 n90 a91 l91 c91 a92 l92 c92 =>
  ldRow h b59 0 0 [.int .i64, .int .i64, .int .i64, .int .i64, .int .i64, .int .i64, .int .i64, .int .i64] fun n93 n94 n95 n96 n97 n98 n99 n100 =>
  callK Try.prog 30 ⟨[.agg ⟨[.int .i64 n89, .int .i64 n90, .slice a91 l91 c91, .slice a92 l92 c92]⟩, .agg ⟨[.int .i64 n93, .int .i64 n94, .int .i64 n95, .int .i64 n96, .int .i64 n97, .int .i64 n98, .int .i64 n99, .int .i64 n100]⟩]⟩ h fun v101 h =>
  asB v101 fun t102 =>
  ifB (!t102)
  (kr false h)
  (ldRow h b45 0 0 [.int .i64, .int .i64, .slice, .slice] fun n103 n104 a105 l105 c105 a106 l106 c106 =>
  ldI .i64 h b59 0 fun n107 =>
  ldI .i64 h b59 0 fun n108 =>
  callK Try.prog 31 ⟨[.agg ⟨[.int .i64 n103, .int .i64 n104, .slice a105 l105 c105, .slice a106 l106 c106]⟩, .int .i64 n107, .int .i64 n108]⟩ h fun v109 h =>
  asB v109 fun t110 =>
  ifB t110
  (kr false h)
  (spec_SchedOk_j2 (fun b111 n112 h =>
  spec_SchedOk_l1 kx2 kr N b111 (IntKind.i64.wrap (n112 + 1)) h) kr b45 n46 b59 h)))))
  (kx2 h)

def spec_SchedOk (kr : Bool → H → Prop) (n1 : Int) (n2 : Int) (a3 : Option Addr) (l3 : Nat) (c3 : Nat) (a4 : Option Addr) (l4 : Nat) (c4 : Nat) (h : H) : Prop :=
  new h [.int .i64 n1, .int .i64 n2, .slice a3 l3 c3, .slice a4 l4 c4] 32 fun b5 h =>
  ldI .i64 h b5 0 fun n6 =>
  callK Try.prog 28 ⟨[.int .i64 n6]⟩ h fun v7 h =>
  asB v7 fun t8 =>
  ifB (!t8)
  (kr false h)
  (ldI .i64 h b5 1 fun n9 =>
  callK Try.prog 28 ⟨[.int .i64 n9]⟩ h fun v10 h =>
  asB v10 fun t11 =>
  ifB (!t11)
  (kr false h)
  (ldL h b5 2 fun a12 l12 c12 =>
  ifB (decide (((l12 : Nat) : Int) > 32))
  (kr false h)
  (ldL h b5 3 fun a13 l13 c13 =>
  ifB (decide (((l13 : Nat) : Int) > 16))
  (kr false h)
  (∃ M16, spec_SchedOk_l0 (fun b14 h =>
  ∃ M15, spec_SchedOk_l1 (fun h =>
  kr true h) kr M15 b14 0 h) kr M16 b5 0 h))))

theorem spec_SchedOk_l0_eq (K : Cont) (N : Nat) (b14 : Nat) (n15 : Int) (h : H) :
  spec_SchedOk_l0 (curV [(1, .blk)] (K (.exit 0))) (curV [(2, .bool)] (K .ret)) (N + 1) b14 n15 h = evC Try.prog 127 [] [] (sub code15 [true, true, false, true, false, false]) [(1, .pointer (some ⟨b14, 0, none⟩)), (3, .int .i64 n15)] h ((outsOf none [(0, [(1, .blk)])] (some [(2, .bool)]) K).loop [(1, .blk), (3, .int .i64)] (spec_SchedOk_l0 (curV [(1, .blk)] (K (.exit 0))) (curV [(2, .bool)] (K .ret)) N)).K := by kernel_rfl

def spec_SchedOk_l0_F : PT := mkL [(1, .blk), (3, .int .i64)] fun K N => spec_SchedOk_l0 (curV [(1, .blk)] (K (.exit 0))) (curV [(2, .bool)] (K .ret)) N

theorem spec_SchedOk_l0_V : Valid Try.prog 127 (sub code15 [true, true, false, true, false]) spec_SchedOk_l0_F :=
  loop_at (code15) [true, true, false, true, false] (loop_piece (c := (sub code15 [true, true, false, true, false, false])) mixed rows_nil (fun K => by intro b14 n15 h hd; exact hd) (fun K N => by intro b14 n15 h hd; exact (spec_SchedOk_l0_eq K N b14 n15 h) ▸ hd))

theorem spec_SchedOk_l3_eq (K : Cont) (N : Nat) (b63 : Nat) (n64 : Int) (b65 : Nat) (n66 : Int) (h : H) :
  spec_SchedOk_l3 (curV [(1, .blk), (5, .int .i64)] (K (.exit 4))) (curV [(2, .bool)] (K .ret)) (N + 1) b63 n64 b65 n66 h = evC Try.prog 127 [] [] (sub code15 [true, true, true, false, true, false, false, true, false, false, true, true, true, false, false]) [(1, .pointer (some ⟨b63, 0, none⟩)), (5, .int .i64 n64), (6, .pointer (some ⟨b65, 0, none⟩)), (7, .int .i64 n66)] h ((outsOf none [(4, [(1, .blk), (5, .int .i64)])] (some [(2, .bool)]) K).loop [(1, .blk), (5, .int .i64), (6, .blk), (7, .int .i64)] (spec_SchedOk_l3 (curV [(1, .blk), (5, .int .i64)] (K (.exit 4))) (curV [(2, .bool)] (K .ret)) N)).K := by kernel_rfl

def spec_SchedOk_l3_F : PT := mkL [(1, .blk), (5, .int .i64), (6, .blk), (7, .int .i64)] fun K N => spec_SchedOk_l3 (curV [(1, .blk), (5, .int .i64)] (K (.exit 4))) (curV [(2, .bool)] (K .ret)) N

theorem spec_SchedOk_l3_V : Valid Try.prog 127 (sub code15 [true, true, true, false, true, false, false, true, false, false, true, true, true, false]) spec_SchedOk_l3_F :=
  loop_at (code15) [true, true, true, false, true, false, false, true, false, false, true, true, true, false] (loop_piece (c := (sub code15 [true, true, true, false, true, false, false, true, false, false, true, true, true, false, false])) mixed rows_nil (fun K => by intro b63 n64 b65 n66 h hd; exact hd) (fun K N => by intro b63 n64 b65 n66 h hd; exact (spec_SchedOk_l3_eq K N b63 n64 b65 n66 h) ▸ hd))

theorem spec_SchedOk_j2_eq (K : Cont) (b60 : Nat) (n61 : Int) (b62 : Nat) (h : H) :
  spec_SchedOk_j2 (curV [(1, .blk), (5, .int .i64)] (K .normal)) (curV [(2, .bool)] (K .ret)) b60 n61 b62 h = evC Try.prog 127 [([false, false, true], spec_SchedOk_l3_F)] [] (sub code15 [true, true, true, false, true, false, false, true, false, false, true, true]) [(1, .pointer (some ⟨b60, 0, none⟩)), (5, .int .i64 n61), (6, .pointer (some ⟨b62, 0, none⟩))] h (outsOf (some [(1, .blk), (5, .int .i64)]) [] (some [(2, .bool)]) K).K := by kernel_rfl

def spec_SchedOk_j2_F : PT := mkF [(1, .blk), (5, .int .i64), (6, .blk)] fun K => spec_SchedOk_j2 (curV [(1, .blk), (5, .int .i64)] (K .normal)) (curV [(2, .bool)] (K .ret))

theorem spec_SchedOk_j2_V : Valid Try.prog 127 (sub code15 [true, true, true, false, true, false, false, true, false, false, true, true]) spec_SchedOk_j2_F :=
  piece mixed (rows_cons (q' := [true, false]) (valid_at (p := [true, true, true, false, true, false, false, true, false, false, true, true]) spec_SchedOk_l3_V rfl) rfl rows_nil) (fun K => by intro b60 n61 b62 h hd; exact (spec_SchedOk_j2_eq K b60 n61 b62 h) ▸ hd)

theorem spec_SchedOk_l1_eq (K : Cont) (N : Nat) (b45 : Nat) (n46 : Int) (h : H) :
  spec_SchedOk_l1 (curV [] (K (.exit 2))) (curV [(2, .bool)] (K .ret)) (N + 1) b45 n46 h = evC Try.prog 127 [([true, true, false, false, true], spec_SchedOk_j2_F)] [] (sub code15 [true, true, true, false, true, false, false]) [(1, .pointer (some ⟨b45, 0, none⟩)), (5, .int .i64 n46)] h ((outsOf none [(2, [])] (some [(2, .bool)]) K).loop [(1, .blk), (5, .int .i64)] (spec_SchedOk_l1 (curV [] (K (.exit 2))) (curV [(2, .bool)] (K .ret)) N)).K := by kernel_rfl

def spec_SchedOk_l1_F : PT := mkL [(1, .blk), (5, .int .i64)] fun K N => spec_SchedOk_l1 (curV [] (K (.exit 2))) (curV [(2, .bool)] (K .ret)) N

theorem spec_SchedOk_l1_V : Valid Try.prog 127 (sub code15 [true, true, true, false, true, false]) spec_SchedOk_l1_F :=
  loop_at (code15) [true, true, true, false, true, false] (loop_piece (c := (sub code15 [true, true, true, false, true, false, false])) mixed (rows_cons (q' := [true, false, false, true, true]) (valid_at (p := [true, true, true, false, true, false, false]) spec_SchedOk_j2_V rfl) rfl rows_nil) (fun K => by intro b45 n46 h hd; exact hd) (fun K N => by intro b45 n46 h hd; exact (spec_SchedOk_l1_eq K N b45 n46 h) ▸ hd))

theorem spec_SchedOk_eq (K : Cont) (n1 : Int) (n2 : Int) (a3 : Option Addr) (l3 : Nat) (c3 : Nat) (a4 : Option Addr) (l4 : Nat) (c4 : Nat) (h : H) :
  spec_SchedOk (curV [(2, .bool)] (K .ret)) n1 n2 a3 l3 c3 a4 l4 c4 h = evC Try.prog 127 [([false, false, true, false, true, true], spec_SchedOk_l0_F), ([false, false, true, false, true, true, true], spec_SchedOk_l1_F)] [] code15 [(0, .agg ⟨[.int .i64 n1, .int .i64 n2, .slice a3 l3 c3, .slice a4 l4 c4]⟩)] h (outsOf none [] (some [(2, .bool)]) K).K := by kernel_rfl

def spec_SchedOk_F : PT := mkF [(0, .agg [.int .i64, .int .i64, .slice, .slice])] fun K => spec_SchedOk (curV [(2, .bool)] (K .ret))

theorem spec_SchedOk_V : Valid Try.prog 127 code15 spec_SchedOk_F :=
  piece mixed (rows_cons (q' := [true, true, false, true, false]) spec_SchedOk_l0_V rfl (rows_cons (q' := [true, true, true, false, true, false]) spec_SchedOk_l1_V rfl rows_nil)) (fun K => by intro n1 n2 a3 l3 c3 a4 l4 c4 h hd; exact (spec_SchedOk_eq K n1 n2 a3 l3 c3 a4 l4 c4 h) ▸ hd)

theorem spec_SchedOk_c0 (n1 : Int) (n2 : Int) (a3 : Option Addr) (l3 : Nat) (c3 : Nat) (a4 : Option Addr) (l4 : Nat) (c4 : Nat) (h : H) (K : Value → H → Prop) :
  spec_SchedOk (fun t100001 h =>
  K (.bool t100001) h) n1 n2 a3 l3 c3 a4 l4 c4 h = callF Try.prog Try.f15.results.toList spec_SchedOk_F [.agg ⟨[.int .i64 n1, .int .i64 n2, .slice a3 l3 c3, .slice a4 l4 c4]⟩] h K := by kernel_rfl

theorem spec_SchedOk_call {n1 : Int} {n2 : Int} {a3 : Option Addr} {l3 : Nat} {c3 : Nat} {a4 : Option Addr} {l4 : Nat} {c4 : Nat} {h : H} {K : Value → H → Prop} (hs : spec_SchedOk (fun t100001 h =>
  K (.bool t100001) h) n1 n2 a3 l3 c3 a4 l4 c4 h) : callK Try.prog 15 ⟨[.agg ⟨[.int .i64 n1, .int .i64 n2, .slice a3 l3 c3, .slice a4 l4 c4]⟩]⟩ h K :=
  func_calls Try.func15 body15 spec_SchedOk_V (Nat.le_of_ble_eq_true (by kernel_rfl)) (spec_SchedOk_c0 n1 n2 a3 l3 c3 a4 l4 c4 h K ▸ hs)

theorem row_I8 (h : H) (b o : Nat) (K : Int → Int → Int → Int → Int → Int → Int → Int → Prop) : ldRow h b o 0 [.int .i64, .int .i64, .int .i64, .int .i64, .int .i64, .int .i64, .int .i64, .int .i64] K = ldI .i64 h b (o + 0) fun n0 => ldI .i64 h b (o + 1) fun n1 => ldI .i64 h b (o + 2) fun n2 => ldI .i64 h b (o + 3) fun n3 => ldI .i64 h b (o + 4) fun n4 => ldI .i64 h b (o + 5) fun n5 => ldI .i64 h b (o + 6) fun n6 => ldI .i64 h b (o + 7) fun n7 => K n0 n1 n2 n3 n4 n5 n6 n7 := by kernel_rfl
theorem d_row_I8 {g0 m0 g m : H} {L : List As} {b o : Nat} {K2 K1 : Int → Int → Int → Int → Int → Int → Int → Int → Prop} (R : Md g0 m0 g m L) (f : ∀ n0 n1 n2 n3 n4 n5 n6 n7, K2 n0 n1 n2 n3 n4 n5 n6 n7 → K1 n0 n1 n2 n3 n4 n5 n6 n7) : ldRow m b o 0 [.int .i64, .int .i64, .int .i64, .int .i64, .int .i64, .int .i64, .int .i64, .int .i64] K2 → ldRow g b o 0 [.int .i64, .int .i64, .int .i64, .int .i64, .int .i64, .int .i64, .int .i64, .int .i64] K1 := by
  rw [row_I8, row_I8]; exact d_ldI R fun n0 => d_ldI R fun n1 => d_ldI R fun n2 => d_ldI R fun n3 => d_ldI R fun n4 => d_ldI R fun n5 => d_ldI R fun n6 => d_ldI R fun n7 => f n0 n1 n2 n3 n4 n5 n6 n7
theorem p_row_I8 {g0 m0 g m : H} {L : List As} {b o : Nat} {cs : List Value} {G : Prop} [LoIn L b cs] {K1 : Int → Int → Int → Int → Int → Int → Int → Int → Prop} {n0 : Int} {n1 : Int} {n2 : Int} {n3 : Int} {n4 : Int} {n5 : Int} {n6 : Int} {n7 : Int} (R : Md g0 m0 g m L) (e0 : cs[o + 0]? = some (.int .i64 n0)) (e1 : cs[o + 1]? = some (.int .i64 n1)) (e2 : cs[o + 2]? = some (.int .i64 n2)) (e3 : cs[o + 3]? = some (.int .i64 n3)) (e4 : cs[o + 4]? = some (.int .i64 n4)) (e5 : cs[o + 5]? = some (.int .i64 n5)) (e6 : cs[o + 6]? = some (.int .i64 n6)) (e7 : cs[o + 7]? = some (.int .i64 n7)) (f : G → K1 n0 n1 n2 n3 n4 n5 n6 n7) : G → ldRow g b o 0 [.int .i64, .int .i64, .int .i64, .int .i64, .int .i64, .int .i64, .int .i64, .int .i64] K1 := by
  rw [row_I8]; exact p_ldI R e0 (p_ldI R e1 (p_ldI R e2 (p_ldI R e3 (p_ldI R e4 (p_ldI R e5 (p_ldI R e6 (p_ldI R e7 (f))))))))
def spec_SchedOk_M_l0 (kx0 : Int → Int → Option Addr → Nat → Nat → Option Addr → Nat → Nat → H → Prop) (kr : Bool → H → Prop) : Nat → Int → Int → Int → Option Addr → Nat → Nat → Option Addr → Nat → Nat → H → Prop
 | 0, _, _, _, _, _, _, _, _, _, _ => False
 | N + 1, n9, n10, n11, a12, l12, c12, a13, l13, c13, h =>
  ifB (decide ((n9 : Int) < (l13 : Nat)))
  (req (0 ≤ (n9 : Int) ∧ (n9 : Int) < (l13 : Nat))
  (nz a13 fun b15 o16 =>
  ldRow h b15 (o16 + n9.toNat * 2) 0 [.int .i64, .int .i64] fun n17 n18 =>
  ifB (decide ((n17 : Int) < 0))
  (kr false h)
  (ifB (decide ((n17 : Int) ≥ 16))
  (kr false h)
  (ifB (decide ((n9 : Int) > 0))
  (req (0 ≤ (IntKind.i64.wrap (n9 - 1) : Int) ∧ (IntKind.i64.wrap (n9 - 1) : Int) < (l13 : Nat))
  (nz a13 fun b19 o20 =>
  ldI .i64 h b19 (o20 + (IntKind.i64.wrap (n9 - 1)).toNat * 2) fun n21 =>
  ifB (decide ((n21 : Int) ≥ n17))
  (kr false h)
  (callD Try.prog 29 ⟨[.agg ⟨[.int .i64 n10, .int .i64 n11, .slice a12 l12 c12, .slice a13 l13 c13]⟩, .int .i64 n18]⟩ h fun v22 h =>
  asI .i64 v22 fun n23 =>
  ifB (decide ((n23 : Int) < 0))
  (kr false h)
  (spec_SchedOk_M_l0 kx0 kr N (IntKind.i64.wrap (n9 + 1)) n10 n11 a12 l12 c12 a13 l13 c13 h))))
  (callD Try.prog 29 ⟨[.agg ⟨[.int .i64 n10, .int .i64 n11, .slice a12 l12 c12, .slice a13 l13 c13]⟩, .int .i64 n18]⟩ h fun v24 h =>
  asI .i64 v24 fun n25 =>
  ifB (decide ((n25 : Int) < 0))
  (kr false h)
  (spec_SchedOk_M_l0 kx0 kr N (IntKind.i64.wrap (n9 + 1)) n10 n11 a12 l12 c12 a13 l13 c13 h))))))
  (kx0 n10 n11 a12 l12 c12 a13 l13 c13 h)

def spec_SchedOk_M_l3 (kx4 : Int → Int → Int → Option Addr → Nat → Nat → Option Addr → Nat → Nat → H → Prop) (kr : Bool → H → Prop) : Nat → Int → Int → Int → Int → Option Addr → Nat → Nat → Option Addr → Nat → Nat → Int → H → Prop
 | 0, _, _, _, _, _, _, _, _, _, _, _, _ => False
 | N + 1, n1063, n1064, n1065, n1066, a1067, l1067, c1067, a1068, l1068, c1068, n1073, h =>
  ifB (decide ((n1064 : Int) < n1063))
  (req (0 ≤ (n1064 : Int) ∧ (n1064 : Int) < (l1067 : Nat))
  (nz a1067 fun b1079 o1080 =>
  ldI .i64 h b1079 ((o1080 + n1064.toNat * 8) + 3) fun n1081 =>
  ifB ((n1081 : Int) == n1073)
  (kr false h)
  (spec_SchedOk_M_l3 kx4 kr N n1063 (IntKind.i64.wrap (n1064 + 1)) n1065 n1066 a1067 l1067 c1067 a1068 l1068 c1068 n1073 h)))
  (kx4 n1063 n1065 n1066 a1067 l1067 c1067 a1068 l1068 c1068 h)

def spec_SchedOk_M_j2 (kn : Int → Int → Int → Option Addr → Nat → Nat → Option Addr → Nat → Nat → H → Prop) (kr : Bool → H → Prop) (n1048 : Int) (n1049 : Int) (n1050 : Int) (a1051 : Option Addr) (l1051 : Nat) (c1051 : Nat) (a1052 : Option Addr) (l1052 : Nat) (c1052 : Nat) (n1057 : Int) (h : H) : Prop :=
  ∃ M1063, spec_SchedOk_M_l3 kn kr M1063 n1048 0 n1049 n1050 a1051 l1051 c1051 a1052 l1052 c1052 n1057 h

def spec_SchedOk_M_l1 (kx2 : H → Prop) (kr : Bool → H → Prop) : Nat → Int → Int → Int → Option Addr → Nat → Nat → Option Addr → Nat → Nat → H → Prop
 | 0, _, _, _, _, _, _, _, _, _, _ => False
 | N + 1, n1032, n1033, n1034, a1035, l1035, c1035, a1036, l1036, c1036, h =>
  ifB (decide ((n1032 : Int) < (l1035 : Nat)))
  (req (0 ≤ (n1032 : Int) ∧ (n1032 : Int) < (l1035 : Nat))
  (nz a1035 fun b1038 o1039 =>
  ldRow h b1038 (o1039 + n1032.toNat * 8) 0 [.int .i64, .int .i64, .int .i64, .int .i64, .int .i64, .int .i64, .int .i64, .int .i64] fun n1040 n1041 n1042 n1043 n1044 n1045 n1046 n1047 =>
  ifB (decide ((n1032 : Int) > 0))
  (req (0 ≤ (IntKind.i64.wrap (n1032 - 1) : Int) ∧ (IntKind.i64.wrap (n1032 - 1) : Int) < (l1035 : Nat))
  (nz a1035 fun b1048 o1049 =>
  ldI .i64 h b1048 (o1049 + (IntKind.i64.wrap (n1032 - 1)).toNat * 8) fun n1050 =>
  ifB (decide ((n1050 : Int) ≥ n1040))
  (kr false h)
  (callD Try.prog 30 ⟨[.agg ⟨[.int .i64 n1033, .int .i64 n1034, .slice a1035 l1035 c1035, .slice a1036 l1036 c1036]⟩, .agg ⟨[.int .i64 n1040, .int .i64 n1041, .int .i64 n1042, .int .i64 n1043, .int .i64 n1044, .int .i64 n1045, .int .i64 n1046, .int .i64 n1047]⟩]⟩ h fun v1051 h =>
  asB v1051 fun t1052 =>
  ifB (!t1052)
  (kr false h)
  (callD Try.prog 31 ⟨[.agg ⟨[.int .i64 n1033, .int .i64 n1034, .slice a1035 l1035 c1035, .slice a1036 l1036 c1036]⟩, .int .i64 n1040, .int .i64 n1040]⟩ h fun v1053 h =>
  asB v1053 fun t1054 =>
  ifB t1054
  (kr false h)
  (spec_SchedOk_M_j2 (fun n1055 n1056 n1057 a1058 l1058 c1058 a1059 l1059 c1059 h =>
  spec_SchedOk_M_l1 kx2 kr N (IntKind.i64.wrap (n1055 + 1)) n1056 n1057 a1058 l1058 c1058 a1059 l1059 c1059 h) kr n1032 n1033 n1034 a1035 l1035 c1035 a1036 l1036 c1036 n1043 h)))))
  (callD Try.prog 30 ⟨[.agg ⟨[.int .i64 n1033, .int .i64 n1034, .slice a1035 l1035 c1035, .slice a1036 l1036 c1036]⟩, .agg ⟨[.int .i64 n1040, .int .i64 n1041, .int .i64 n1042, .int .i64 n1043, .int .i64 n1044, .int .i64 n1045, .int .i64 n1046, .int .i64 n1047]⟩]⟩ h fun v1061 h =>
  asB v1061 fun t1062 =>
  ifB (!t1062)
  (kr false h)
  (callD Try.prog 31 ⟨[.agg ⟨[.int .i64 n1033, .int .i64 n1034, .slice a1035 l1035 c1035, .slice a1036 l1036 c1036]⟩, .int .i64 n1040, .int .i64 n1040]⟩ h fun v1063 h =>
  asB v1063 fun t1064 =>
  ifB t1064
  (kr false h)
  (spec_SchedOk_M_j2 (fun n1065 n1066 n1067 a1068 l1068 c1068 a1069 l1069 c1069 h =>
  spec_SchedOk_M_l1 kx2 kr N (IntKind.i64.wrap (n1065 + 1)) n1066 n1067 a1068 l1068 c1068 a1069 l1069 c1069 h) kr n1032 n1033 n1034 a1035 l1035 c1035 a1036 l1036 c1036 n1043 h)))))
  (kx2 h)

def spec_SchedOk_M (kr : Bool → H → Prop) (n1 : Int) (n2 : Int) (a3 : Option Addr) (l3 : Nat) (c3 : Nat) (a4 : Option Addr) (l4 : Nat) (c4 : Nat) (h : H) : Prop :=
  callD Try.prog 28 ⟨[.int .i64 n1]⟩ h fun v5 h =>
  asB v5 fun t6 =>
  ifB (!t6)
  (kr false h)
  (callD Try.prog 28 ⟨[.int .i64 n2]⟩ h fun v7 h =>
  asB v7 fun t8 =>
  ifB (!t8)
  (kr false h)
  (ifB (decide (((l3 : Nat) : Int) > 32))
  (kr false h)
  (ifB (decide (((l4 : Nat) : Int) > 16))
  (kr false h)
  (∃ M15, spec_SchedOk_M_l0 (fun n9 n10 a11 l11 c11 a12 l12 c12 h =>
  ∃ M14, spec_SchedOk_M_l1 (fun h =>
  kr true h) kr M14 0 n9 n10 a11 l11 c11 a12 l12 c12 h) kr M15 0 n1 n2 a3 l3 c3 a4 l4 c4 h))))

theorem spec_SchedOk_M_l0_D {g0 m0 : H} {kx0_1 : Nat → H → Prop} {kx0_2 : Int → Int → Option Addr → Nat → Nat → Option Addr → Nat → Nat → H → Prop} (Hkx0 : ∀ (n200001 : Int) (n200002 : Int) (a200003 : Option Addr) (l200003 : Nat) (c200003 : Nat) (a200004 : Option Addr) (l200004 : Nat) (c200004 : Nat) (p200005 : Nat) (g m : H), Md g0 m0 g m [lo p200005 [.int .i64 n200001, .int .i64 n200002, .slice a200003 l200003 c200003, .slice a200004 l200004 c200004]] → kx0_2 n200001 n200002 a200003 l200003 c200003 a200004 l200004 c200004 m → kx0_1 p200005 g)
  {kr_1 : Bool → H → Prop} {kr_2 : Bool → H → Prop} (Hkr : ∀ (t200001 : Bool) (g m : H), Md g0 m0 g m [] → kr_2 t200001 m → kr_1 t200001 g) : ∀ (N : Nat) (n1009 : Int) (n1010 : Int) (n1011 : Int) (a1012 : Option Addr) (l1012 : Nat) (c1012 : Nat) (a1013 : Option Addr) (l1013 : Nat) (c1013 : Nat) (p1014 : Nat) (g m : H), Md g0 m0 g m [lo p1014 [.int .i64 n1010, .int .i64 n1011, .slice a1012 l1012 c1012, .slice a1013 l1013 c1013]] → spec_SchedOk_M_l0 kx0_2 kr_2 N n1009 n1010 n1011 a1012 l1012 c1012 a1013 l1013 c1013 m → spec_SchedOk_l0 kx0_1 kr_1 N p1014 n1009 g := by
  intro N
  induction N with
  | zero => intro n1009 n1010 n1011 a1012 l1012 c1012 a1013 l1013 c1013 p1014 g m R h0; exact h0.elim
  | succ N ih =>
    intro n1009 n1010 n1011 a1012 l1012 c1012 a1013 l1013 c1013 p1014 g m R
    rw [spec_SchedOk_M_l0, spec_SchedOk_l0]
    exact (p_ldL R rfl (d_if (p_ldL R rfl (d_req (d_nz fun b1015 o1016 =>
  (d_row_I2 R fun n1017 n1018 =>
  (p_new R fun p1019 g R =>
  (p_stRow R (cs' := [.int .i64 n1017, .int .i64 n1018]) ⟨rfl, rfl, rfl⟩ fun g R =>
  (p_ldI R rfl (d_if (Hkr false _ _ R.sub)
  (p_ldI R rfl (d_if (Hkr false _ _ R.sub)
  (d_if (p_ldL R rfl (d_req (d_nz fun b1020 o1021 =>
  (d_ldI R fun n1022 =>
  (p_ldI R rfl (d_if (Hkr false _ _ R.sub)
  (p_row_I2L2 R rfl rfl rfl rfl (p_ldI R rfl (d_call R fun v1023 g m R =>
  (d_asI fun n1024 =>
  (d_if (Hkr false _ _ R.sub)
  (ih (IntKind.i64.wrap (n1009 + 1)) n1010 n1011 a1012 l1012 c1012 a1013 l1013 c1013 p1014 _ _ R.sub))))))))))))
  (p_row_I2L2 R rfl rfl rfl rfl (p_ldI R rfl (d_call R fun v1025 g m R =>
  (d_asI fun n1026 =>
  (d_if (Hkr false _ _ R.sub)
  (ih (IntKind.i64.wrap (n1009 + 1)) n1010 n1011 a1012 l1012 c1012 a1013 l1013 c1013 p1014 _ _ R.sub)))))))))))))))))
  (Hkx0 n1010 n1011 a1012 l1012 c1012 a1013 l1013 c1013 p1014 _ _ R.sub)))

theorem spec_SchedOk_M_l3_D {g0 m0 : H} {kx4_1 : Nat → Int → H → Prop} {kx4_2 : Int → Int → Int → Option Addr → Nat → Nat → Option Addr → Nat → Nat → H → Prop} (Hkx4 : ∀ (n200001 : Int) (n200002 : Int) (n200003 : Int) (a200004 : Option Addr) (l200004 : Nat) (c200004 : Nat) (a200005 : Option Addr) (l200005 : Nat) (c200005 : Nat) (p200006 : Nat) (g m : H), Md g0 m0 g m [lo p200006 [.int .i64 n200002, .int .i64 n200003, .slice a200004 l200004 c200004, .slice a200005 l200005 c200005]] → kx4_2 n200001 n200002 n200003 a200004 l200004 c200004 a200005 l200005 c200005 m → kx4_1 p200006 n200001 g)
  {kr_1 : Bool → H → Prop} {kr_2 : Bool → H → Prop} (Hkr : ∀ (t200001 : Bool) (g m : H), Md g0 m0 g m [] → kr_2 t200001 m → kr_1 t200001 g) : ∀ (N : Nat) (n2063 : Int) (n2064 : Int) (n2065 : Int) (n2066 : Int) (a2067 : Option Addr) (l2067 : Nat) (c2067 : Nat) (a2068 : Option Addr) (l2068 : Nat) (c2068 : Nat) (n2070 : Int) (n2071 : Int) (n2072 : Int) (n2073 : Int) (n2074 : Int) (n2075 : Int) (n2076 : Int) (n2077 : Int) (p2069 : Nat) (p2078 : Nat) (g m : H), Md g0 m0 g m [lo p2069 [.int .i64 n2065, .int .i64 n2066, .slice a2067 l2067 c2067, .slice a2068 l2068 c2068], lo p2078 [.int .i64 n2070, .int .i64 n2071, .int .i64 n2072, .int .i64 n2073, .int .i64 n2074, .int .i64 n2075, .int .i64 n2076, .int .i64 n2077]] → spec_SchedOk_M_l3 kx4_2 kr_2 N n2063 n2064 n2065 n2066 a2067 l2067 c2067 a2068 l2068 c2068 n2073 m → spec_SchedOk_l3 kx4_1 kr_1 N p2069 n2063 p2078 n2064 g := by
  intro N
  induction N with
  | zero => intro n2063 n2064 n2065 n2066 a2067 l2067 c2067 a2068 l2068 c2068 n2070 n2071 n2072 n2073 n2074 n2075 n2076 n2077 p2069 p2078 g m R h0; exact h0.elim
  | succ N ih =>
    intro n2063 n2064 n2065 n2066 a2067 l2067 c2067 a2068 l2068 c2068 n2070 n2071 n2072 n2073 n2074 n2075 n2076 n2077 p2069 p2078 g m R
    rw [spec_SchedOk_M_l3, spec_SchedOk_l3]
    exact (d_if (p_ldL R rfl (d_req (d_nz fun b2079 o2080 =>
  (d_ldI R fun n2081 =>
  (p_ldI R rfl (d_if (Hkr false _ _ R.sub)
  (ih n2063 (IntKind.i64.wrap (n2064 + 1)) n2065 n2066 a2067 l2067 c2067 a2068 l2068 c2068 n2070 n2071 n2072 n2073 n2074 n2075 n2076 n2077 p2069 p2078 _ _ R.sub)))))))
  (Hkx4 n2063 n2065 n2066 a2067 l2067 c2067 a2068 l2068 c2068 p2069 _ _ R.sub))

theorem spec_SchedOk_M_j2_D {g0 m0 : H} {kn_1 : Nat → Int → H → Prop} {kn_2 : Int → Int → Int → Option Addr → Nat → Nat → Option Addr → Nat → Nat → H → Prop} (Hkn : ∀ (n200001 : Int) (n200002 : Int) (n200003 : Int) (a200004 : Option Addr) (l200004 : Nat) (c200004 : Nat) (a200005 : Option Addr) (l200005 : Nat) (c200005 : Nat) (p200006 : Nat) (g m : H), Md g0 m0 g m [lo p200006 [.int .i64 n200002, .int .i64 n200003, .slice a200004 l200004 c200004, .slice a200005 l200005 c200005]] → kn_2 n200001 n200002 n200003 a200004 l200004 c200004 a200005 l200005 c200005 m → kn_1 p200006 n200001 g)
  {kr_1 : Bool → H → Prop} {kr_2 : Bool → H → Prop} (Hkr : ∀ (t200001 : Bool) (g m : H), Md g0 m0 g m [] → kr_2 t200001 m → kr_1 t200001 g) : ∀ (n2048 : Int) (n2049 : Int) (n2050 : Int) (a2051 : Option Addr) (l2051 : Nat) (c2051 : Nat) (a2052 : Option Addr) (l2052 : Nat) (c2052 : Nat) (n2054 : Int) (n2055 : Int) (n2056 : Int) (n2057 : Int) (n2058 : Int) (n2059 : Int) (n2060 : Int) (n2061 : Int) (p2053 : Nat) (p2062 : Nat) (g m : H), Md g0 m0 g m [lo p2053 [.int .i64 n2049, .int .i64 n2050, .slice a2051 l2051 c2051, .slice a2052 l2052 c2052], lo p2062 [.int .i64 n2054, .int .i64 n2055, .int .i64 n2056, .int .i64 n2057, .int .i64 n2058, .int .i64 n2059, .int .i64 n2060, .int .i64 n2061]] → spec_SchedOk_M_j2 kn_2 kr_2 n2048 n2049 n2050 a2051 l2051 c2051 a2052 l2052 c2052 n2057 m → spec_SchedOk_j2 kn_1 kr_1 p2053 n2048 p2062 g := by
  intro n2048 n2049 n2050 a2051 l2051 c2051 a2052 l2052 c2052 n2054 n2055 n2056 n2057 n2058 n2059 n2060 n2061 p2053 p2062 g m R
  rw [spec_SchedOk_M_j2, spec_SchedOk_j2]
  exact (d_ex fun N => spec_SchedOk_M_l3_D (by exact fun n2063 n2064 n2065 a2066 l2066 c2066 a2067 l2067 c2067 p2068 g m R =>
  (Hkn n2063 n2064 n2065 a2066 l2066 c2066 a2067 l2067 c2067 p2068 _ _ R.sub))
  (by exact fun t2069 g m R =>
  (Hkr t2069 _ _ R.sub)) N n2048 0 n2049 n2050 a2051 l2051 c2051 a2052 l2052 c2052 n2054 n2055 n2056 n2057 n2058 n2059 n2060 n2061 p2053 p2062 _ _ R.sub)

theorem spec_SchedOk_M_l1_D {g0 m0 : H} {kx2_1 : H → Prop} {kx2_2 : H → Prop} (Hkx2 : ∀ (g m : H), Md g0 m0 g m [] → kx2_2 m → kx2_1 g)
  {kr_1 : Bool → H → Prop} {kr_2 : Bool → H → Prop} (Hkr : ∀ (t200001 : Bool) (g m : H), Md g0 m0 g m [] → kr_2 t200001 m → kr_1 t200001 g) : ∀ (N : Nat) (n2032 : Int) (n2033 : Int) (n2034 : Int) (a2035 : Option Addr) (l2035 : Nat) (c2035 : Nat) (a2036 : Option Addr) (l2036 : Nat) (c2036 : Nat) (p2037 : Nat) (g m : H), Md g0 m0 g m [lo p2037 [.int .i64 n2033, .int .i64 n2034, .slice a2035 l2035 c2035, .slice a2036 l2036 c2036]] → spec_SchedOk_M_l1 kx2_2 kr_2 N n2032 n2033 n2034 a2035 l2035 c2035 a2036 l2036 c2036 m → spec_SchedOk_l1 kx2_1 kr_1 N p2037 n2032 g := by
  intro N
  induction N with
  | zero => intro n2032 n2033 n2034 a2035 l2035 c2035 a2036 l2036 c2036 p2037 g m R h0; exact h0.elim
  | succ N ih =>
    intro n2032 n2033 n2034 a2035 l2035 c2035 a2036 l2036 c2036 p2037 g m R
    rw [spec_SchedOk_M_l1, spec_SchedOk_l1]
    exact (p_ldL R rfl (d_if (p_ldL R rfl (d_req (d_nz fun b2038 o2039 =>
  (d_row_I8 R fun n2040 n2041 n2042 n2043 n2044 n2045 n2046 n2047 =>
  (p_new R fun p2048 g R =>
  (p_stRow R (cs' := [.int .i64 n2040, .int .i64 n2041, .int .i64 n2042, .int .i64 n2043, .int .i64 n2044, .int .i64 n2045, .int .i64 n2046, .int .i64 n2047]) ⟨rfl, rfl, rfl⟩ fun g R =>
  (d_if (p_ldL R rfl (d_req (d_nz fun b2049 o2050 =>
  (d_ldI R fun n2051 =>
  (p_ldI R rfl (d_if (Hkr false _ _ R.sub)
  (p_row_I2L2 R rfl rfl rfl rfl (p_row_I8 R rfl rfl rfl rfl rfl rfl rfl rfl (d_call R fun v2052 g m R =>
  (d_asB fun t2053 =>
  (d_if (Hkr false _ _ R.sub)
  (p_row_I2L2 R rfl rfl rfl rfl (p_ldI R rfl (p_ldI R rfl (d_call R fun v2054 g m R =>
  (d_asB fun t2055 =>
  (d_if (Hkr false _ _ R.sub)
  (spec_SchedOk_M_j2_D (by exact fun n2056 n2057 n2058 a2059 l2059 c2059 a2060 l2060 c2060 p2061 g m R =>
  (ih (IntKind.i64.wrap (n2056 + 1)) n2057 n2058 a2059 l2059 c2059 a2060 l2060 c2060 p2061 _ _ R.sub))
  (by exact fun t2062 g m R =>
  (Hkr t2062 _ _ R.sub)) n2032 n2033 n2034 a2035 l2035 c2035 a2036 l2036 c2036 n2040 n2041 n2042 n2043 n2044 n2045 n2046 n2047 p2037 p2048 _ _ R.sub))))))))))))))))))
  (p_row_I2L2 R rfl rfl rfl rfl (p_row_I8 R rfl rfl rfl rfl rfl rfl rfl rfl (d_call R fun v2063 g m R =>
  (d_asB fun t2064 =>
  (d_if (Hkr false _ _ R.sub)
  (p_row_I2L2 R rfl rfl rfl rfl (p_ldI R rfl (p_ldI R rfl (d_call R fun v2065 g m R =>
  (d_asB fun t2066 =>
  (d_if (Hkr false _ _ R.sub)
  (spec_SchedOk_M_j2_D (by exact fun n2067 n2068 n2069 a2070 l2070 c2070 a2071 l2071 c2071 p2072 g m R =>
  (ih (IntKind.i64.wrap (n2067 + 1)) n2068 n2069 a2070 l2070 c2070 a2071 l2071 c2071 p2072 _ _ R.sub))
  (by exact fun t2073 g m R =>
  (Hkr t2073 _ _ R.sub)) n2032 n2033 n2034 a2035 l2035 c2035 a2036 l2036 c2036 n2040 n2041 n2042 n2043 n2044 n2045 n2046 n2047 p2037 p2048 _ _ R.sub)))))))))))))))))))
  (Hkx2 _ _ R.sub)))

theorem spec_SchedOk_M_D {g0 m0 : H} {kr_1 : Bool → H → Prop} {kr_2 : Bool → H → Prop} (Hkr : ∀ (t200001 : Bool) (g m : H), Md g0 m0 g m [] → kr_2 t200001 m → kr_1 t200001 g) : ∀ (n1001 : Int) (n1002 : Int) (a1003 : Option Addr) (l1003 : Nat) (c1003 : Nat) (a1004 : Option Addr) (l1004 : Nat) (c1004 : Nat) (g m : H), Md g0 m0 g m [] → spec_SchedOk_M kr_2 n1001 n1002 a1003 l1003 c1003 a1004 l1004 c1004 m → spec_SchedOk kr_1 n1001 n1002 a1003 l1003 c1003 a1004 l1004 c1004 g := by
  intro n1001 n1002 a1003 l1003 c1003 a1004 l1004 c1004 g m R
  rw [spec_SchedOk_M, spec_SchedOk]
  exact (p_new R fun p1005 g R =>
  (p_ldI R rfl (d_call R fun v1006 g m R =>
  (d_asB fun t1007 =>
  (d_if (Hkr false _ _ R.sub)
  (p_ldI R rfl (d_call R fun v1008 g m R =>
  (d_asB fun t1009 =>
  (d_if (Hkr false _ _ R.sub)
  (p_ldL R rfl (d_if (Hkr false _ _ R.sub)
  (p_ldL R rfl (d_if (Hkr false _ _ R.sub)
  (d_ex fun N => spec_SchedOk_M_l0_D (by exact fun n1010 n1011 a1012 l1012 c1012 a1013 l1013 c1013 p1014 g m R =>
  (d_ex fun N => spec_SchedOk_M_l1_D (by exact fun g m R =>
  (Hkr true _ _ R.sub))
  (by exact fun t1015 g m R =>
  (Hkr t1015 _ _ R.sub)) N 0 n1010 n1011 a1012 l1012 c1012 a1013 l1013 c1013 p1014 _ _ R.sub))
  (by exact fun t1016 g m R =>
  (Hkr t1016 _ _ R.sub)) N 0 n1001 n1002 a1003 l1003 c1003 a1004 l1004 c1004 p1005 _ _ R.sub))))))))))))))

theorem spec_SchedOk_M_call {n1 : Int} {n2 : Int} {a3 : Option Addr} {l3 : Nat} {c3 : Nat} {a4 : Option Addr} {l4 : Nat} {c4 : Nat} {h : H} {K : Value → H → Prop} (hs : spec_SchedOk_M (fun t300001 h =>
  K (.bool t300001) h) n1 n2 a3 l3 c3 a4 l4 c4 h) : callD Try.prog 15 ⟨[.agg ⟨[.int .i64 n1, .int .i64 n2, .slice a3 l3 c3, .slice a4 l4 c4]⟩]⟩ h K :=
  fun g r => spec_SchedOk_call (spec_SchedOk_M_D (by exact fun t300001 g m R =>
(fun h => ⟨m, R.af, h⟩)) _ _ _ _ _ _ _ _ _ _ (Md.start r) hs)

noncomputable def code16 : Code := codeOf Try.f16
theorem body16 : Try.f16.body = some code16 := by kernel_rfl
def spec_l11Step_j0 (kn : Nat → Nat → Nat → Nat → Int → H → Prop) (kr : Nat → Nat → H → Prop) (b68 : Nat) (b69 : Nat) (b70 : Nat) (b71 : Nat) (n72 : Int) (n73 : Int) (t74 : Bool) (h : H) : Prop :=
  ifB t74
  (ldRow h b68 0 0 [.int .i64, .int .i64, .slice, .slice] fun n75 n76 a77 l77 c77 a78 l78 c78 =>
  ldRow h b69 0 0 [.int .i64, .int .i64, .int .i64] fun n79 n80 n81 =>
  callK Try.prog 35 ⟨[.agg ⟨[.int .i64 n75, .int .i64 n76, .slice a77 l77 c77, .slice a78 l78 c78]⟩, .int .i64 n72, .agg ⟨[.int .i64 n79, .int .i64 n80, .int .i64 n81]⟩]⟩ h fun v82 h =>
  elF False (.tuple [.agg [.int .i64, .int .i64, .slice, .slice], .agg [.int .i64, .int .i64]]) v82 fun n83 n84 a85 l85 c85 a86 l86 c86 n87 n88 =>
  stRow h b70 0 0 [.int .i64 n83, .int .i64 n84, .slice a85 l85 c85, .slice a86 l86 c86] fun h =>
  stRow h b71 0 0 [.int .i64 n87, .int .i64 n88] fun h =>
  kr b70 b71 h)
  (ifB ((n73 : Int) == 6)
  (ldI .i64 h b69 2 fun n89 =>
  ifB (decide ((n89 : Int) < 1))
  (ldRow h b68 0 0 [.int .i64, .int .i64, .slice, .slice] fun n90 n91 a92 l92 c92 a93 l93 c93 =>
  stRow h b70 0 0 [.int .i64 n90, .int .i64 n91, .slice a92 l92 c92, .slice a93 l93 c93] fun h =>
  stRow h b71 0 0 [.int .i64 1, .int .i64 0] fun h =>
  kr b70 b71 h)
  (ldI .i64 h b69 2 fun n94 =>
  ifB (decide ((n94 : Int) > 1000))
  (ldRow h b68 0 0 [.int .i64, .int .i64, .slice, .slice] fun n95 n96 a97 l97 c97 a98 l98 c98 =>
  stRow h b70 0 0 [.int .i64 n95, .int .i64 n96, .slice a97 l97 c97, .slice a98 l98 c98] fun h =>
  stRow h b71 0 0 [.int .i64 1, .int .i64 0] fun h =>
  kr b70 b71 h)
  (ldL h b68 2 fun a99 l99 c99 =>
  req (0 ≤ (n72 : Int) ∧ (n72 : Int) < (l99 : Nat))
  (nz a99 fun b100 o101 =>
  ldI .i64 h b100 ((o101 + n72.toNat * 8) + 2) fun n102 =>
  ifB ((n102 : Int) != 1)
  (ldRow h b68 0 0 [.int .i64, .int .i64, .slice, .slice] fun n103 n104 a105 l105 c105 a106 l106 c106 =>
  stRow h b70 0 0 [.int .i64 n103, .int .i64 n104, .slice a105 l105 c105, .slice a106 l106 c106] fun h =>
  stRow h b71 0 0 [.int .i64 21, .int .i64 0] fun h =>
  kr b70 b71 h)
  (ldL h b68 2 fun a107 l107 c107 =>
  req (0 ≤ (n72 : Int) ∧ (n72 : Int) < (l107 : Nat))
  (nz a107 fun b108 o109 =>
  st h b108 ((o109 + n72.toNat * 8) + 2) (.int .i64 3) fun h =>
  ldL h b68 2 fun a110 l110 c110 =>
  ldI .i64 h b68 0 fun n111 =>
  ldI .i64 h b69 2 fun n112 =>
  req (0 ≤ (n72 : Int) ∧ (n72 : Int) < (l110 : Nat))
  (nz a110 fun b113 o114 =>
  st h b113 ((o114 + n72.toNat * 8) + 6) (.int .i64 (IntKind.i64.wrap (n111 + n112))) fun h =>
  ldRow h b68 0 0 [.int .i64, .int .i64, .slice, .slice] fun n115 n116 a117 l117 c117 a118 l118 c118 =>
  stRow h b70 0 0 [.int .i64 n115, .int .i64 n116, .slice a117 l117 c117, .slice a118 l118 c118] fun h =>
  stRow h b71 0 0 [.int .i64 0, .int .i64 0] fun h =>
  kr b70 b71 h)))))))
  (ifB ((n73 : Int) == 7)
  (ldL h b68 2 fun a119 l119 c119 =>
  req (0 ≤ (n72 : Int) ∧ (n72 : Int) < (l119 : Nat))
  (nz a119 fun b120 o121 =>
  ldI .i64 h b120 ((o121 + n72.toNat * 8) + 2) fun n122 =>
  ifB ((n122 : Int) != 3)
  (ldRow h b68 0 0 [.int .i64, .int .i64, .slice, .slice] fun n123 n124 a125 l125 c125 a126 l126 c126 =>
  stRow h b70 0 0 [.int .i64 n123, .int .i64 n124, .slice a125 l125 c125, .slice a126 l126 c126] fun h =>
  stRow h b71 0 0 [.int .i64 21, .int .i64 0] fun h =>
  kr b70 b71 h)
  (ldRow h b68 0 0 [.int .i64, .int .i64, .slice, .slice] fun n127 n128 a129 l129 c129 a130 l130 c130 =>
  ldI .i64 h b68 0 fun n131 =>
  callK Try.prog 36 ⟨[.agg ⟨[.int .i64 n127, .int .i64 n128, .slice a129 l129 c129, .slice a130 l130 c130]⟩, .int .i64 n72, .int .i64 n131]⟩ h fun v132 h =>
  elF False (.agg [.int .i64, .int .i64, .slice, .slice]) v132 fun n133 n134 a135 l135 c135 a136 l136 c136 =>
  stRow h b70 0 0 [.int .i64 n133, .int .i64 n134, .slice a135 l135 c135, .slice a136 l136 c136] fun h =>
  stRow h b71 0 0 [.int .i64 0, .int .i64 0] fun h =>
  kr b70 b71 h)))
  (kn b68 b69 b70 b71 n72 h)))

def spec_l11Step_j1 (kr : Nat → Nat → H → Prop) (b58 : Nat) (b59 : Nat) (b60 : Nat) (b61 : Nat) (n62 : Int) (h : H) : Prop :=
  ldI .i64 h b59 2 fun n63 =>
  ifB (decide ((n63 : Int) < 0))
  (ldRow h b58 0 0 [.int .i64, .int .i64, .slice, .slice] fun n64 n65 a66 l66 c66 a67 l67 c67 =>
  stRow h b60 0 0 [.int .i64 n64, .int .i64 n65, .slice a66 l66 c66, .slice a67 l67 c67] fun h =>
  stRow h b61 0 0 [.int .i64 1, .int .i64 0] fun h =>
  kr b60 b61 h)
  (ldI .i64 h b59 2 fun n68 =>
  ifB (decide ((n68 : Int) > 7))
  (ldRow h b58 0 0 [.int .i64, .int .i64, .slice, .slice] fun n69 n70 a71 l71 c71 a72 l72 c72 =>
  stRow h b60 0 0 [.int .i64 n69, .int .i64 n70, .slice a71 l71 c71, .slice a72 l72 c72] fun h =>
  stRow h b61 0 0 [.int .i64 1, .int .i64 0] fun h =>
  kr b60 b61 h)
  (ldL h b58 2 fun a73 l73 c73 =>
  ldI .i64 h b59 2 fun n74 =>
  req (0 ≤ (n62 : Int) ∧ (n62 : Int) < (l73 : Nat))
  (nz a73 fun b75 o76 =>
  st h b75 ((o76 + n62.toNat * 8) + 1) (.int .i64 n74) fun h =>
  ldRow h b58 0 0 [.int .i64, .int .i64, .slice, .slice] fun n77 n78 a79 l79 c79 a80 l80 c80 =>
  stRow h b60 0 0 [.int .i64 n77, .int .i64 n78, .slice a79 l79 c79, .slice a80 l80 c80] fun h =>
  stRow h b61 0 0 [.int .i64 0, .int .i64 0] fun h =>
  kr b60 b61 h)))

def spec_l11Step (kr : Nat → Nat → H → Prop) (n1 : Int) (n2 : Int) (a3 : Option Addr) (l3 : Nat) (c3 : Nat) (a4 : Option Addr) (l4 : Nat) (c4 : Nat) (n5 : Int) (n6 : Int) (n7 : Int) (h : H) : Prop :=
  new h [.int .i64 n1, .int .i64 n2, .slice a3 l3 c3, .slice a4 l4 c4] 32 fun b8 h =>
  new h [.int .i64 n5, .int .i64 n6, .int .i64 n7] 38 fun b9 h =>
  new h [.int .i64 0, .int .i64 0, .slice none 0 0, .slice none 0 0] 32 fun b10 h =>
  new h [.int .i64 0, .int .i64 0] 34 fun b11 h =>
  ldI .i64 h b9 0 fun n12 =>
  ifB ((n12 : Int) == 1)
  (ldRow h b8 0 0 [.int .i64, .int .i64, .slice, .slice] fun n13 n14 a15 l15 c15 a16 l16 c16 =>
  ldI .i64 h b9 2 fun n17 =>
  callK Try.prog 32 ⟨[.agg ⟨[.int .i64 n13, .int .i64 n14, .slice a15 l15 c15, .slice a16 l16 c16]⟩, .int .i64 n17]⟩ h fun v18 h =>
  elF False (.tuple [.agg [.int .i64, .int .i64, .slice, .slice], .agg [.int .i64, .int .i64]]) v18 fun n19 n20 a21 l21 c21 a22 l22 c22 n23 n24 =>
  stRow h b10 0 0 [.int .i64 n19, .int .i64 n20, .slice a21 l21 c21, .slice a22 l22 c22] fun h =>
  stRow h b11 0 0 [.int .i64 n23, .int .i64 n24] fun h =>
  kr b10 b11 h)
  (ldI .i64 h b9 0 fun n25 =>
  ifB ((n25 : Int) == 3)
  (ldRow h b8 0 0 [.int .i64, .int .i64, .slice, .slice] fun n26 n27 a28 l28 c28 a29 l29 c29 =>
  callK Try.prog 33 ⟨[.agg ⟨[.int .i64 n26, .int .i64 n27, .slice a28 l28 c28, .slice a29 l29 c29]⟩]⟩ h fun v30 h =>
  elF False (.tuple [.agg [.int .i64, .int .i64, .slice, .slice], .agg [.int .i64, .int .i64]]) v30 fun n31 n32 a33 l33 c33 a34 l34 c34 n35 n36 =>
  stRow h b10 0 0 [.int .i64 n31, .int .i64 n32, .slice a33 l33 c33, .slice a34 l34 c34] fun h =>
  stRow h b11 0 0 [.int .i64 n35, .int .i64 n36] fun h =>
  kr b10 b11 h)
  (ldI .i64 h b9 0 fun n37 =>
  ifB (decide ((n37 : Int) < 1))
  (ldRow h b8 0 0 [.int .i64, .int .i64, .slice, .slice] fun n38 n39 a40 l40 c40 a41 l41 c41 =>
  stRow h b10 0 0 [.int .i64 n38, .int .i64 n39, .slice a40 l40 c40, .slice a41 l41 c41] fun h =>
  stRow h b11 0 0 [.int .i64 1, .int .i64 0] fun h =>
  kr b10 b11 h)
  (ldI .i64 h b9 0 fun n42 =>
  ifB (decide ((n42 : Int) > 8))
  (ldRow h b8 0 0 [.int .i64, .int .i64, .slice, .slice] fun n43 n44 a45 l45 c45 a46 l46 c46 =>
  stRow h b10 0 0 [.int .i64 n43, .int .i64 n44, .slice a45 l45 c45, .slice a46 l46 c46] fun h =>
  stRow h b11 0 0 [.int .i64 1, .int .i64 0] fun h =>
  kr b10 b11 h)
  (ldRow h b8 0 0 [.int .i64, .int .i64, .slice, .slice] fun n47 n48 a49 l49 c49 a50 l50 c50 =>
  ldI .i64 h b9 1 fun n51 =>
  callK Try.prog 29 ⟨[.agg ⟨[.int .i64 n47, .int .i64 n48, .slice a49 l49 c49, .slice a50 l50 c50]⟩, .int .i64 n51]⟩ h fun v52 h =>
  asI .i64 v52 fun n53 =>
  ifB (decide ((n53 : Int) < 0))
  (ldRow h b8 0 0 [.int .i64, .int .i64, .slice, .slice] fun n54 n55 a56 l56 c56 a57 l57 c57 =>
  stRow h b10 0 0 [.int .i64 n54, .int .i64 n55, .slice a56 l56 c56, .slice a57 l57 c57] fun h =>
  stRow h b11 0 0 [.int .i64 3, .int .i64 0] fun h =>
  kr b10 b11 h)
  (ldI .i64 h b9 0 fun n58 =>
  ifB ((n58 : Int) == 2)
  (ldRow h b8 0 0 [.int .i64, .int .i64, .slice, .slice] fun n59 n60 a61 l61 c61 a62 l62 c62 =>
  callK Try.prog 34 ⟨[.agg ⟨[.int .i64 n59, .int .i64 n60, .slice a61 l61 c61, .slice a62 l62 c62]⟩, .int .i64 n53]⟩ h fun v63 h =>
  elF False (.agg [.int .i64, .int .i64, .slice, .slice]) v63 fun n64 n65 a66 l66 c66 a67 l67 c67 =>
  stRow h b10 0 0 [.int .i64 n64, .int .i64 n65, .slice a66 l66 c66, .slice a67 l67 c67] fun h =>
  stRow h b11 0 0 [.int .i64 0, .int .i64 0] fun h =>
  kr b10 b11 h)
  (ifB ((n58 : Int) == 4)
  (spec_l11Step_j0 (fun b68 b69 b70 b71 n72 h =>
  spec_l11Step_j1 kr b68 b69 b70 b71 n72 h) kr b8 b9 b10 b11 n53 n58 ((n58 : Int) == 4) h)
  (spec_l11Step_j0 (fun b73 b74 b75 b76 n77 h =>
  spec_l11Step_j1 kr b73 b74 b75 b76 n77 h) kr b8 b9 b10 b11 n53 n58 ((n58 : Int) == 5) h)))))))

theorem spec_l11Step_j0_eq (K : Cont) (b68 : Nat) (b69 : Nat) (b70 : Nat) (b71 : Nat) (n72 : Int) (n73 : Int) (t74 : Bool) (h : H) :
  spec_l11Step_j0 (curV [(2, .blk), (3, .blk), (4, .blk), (5, .blk), (6, .int .i64)] (K .normal)) (curV [(4, .blk), (5, .blk)] (K .ret)) b68 b69 b70 b71 n72 n73 t74 h = evC Try.prog 132 [] [] (sub code16 [true, true, true, true, true, true, false, true, false, true, true, true]) [(2, .pointer (some ⟨b68, 0, none⟩)), (3, .pointer (some ⟨b69, 0, none⟩)), (4, .pointer (some ⟨b70, 0, none⟩)), (5, .pointer (some ⟨b71, 0, none⟩)), (6, .int .i64 n72), (42, .int .i64 n73), (49, .bool t74)] h (outsOf (some [(2, .blk), (3, .blk), (4, .blk), (5, .blk), (6, .int .i64)]) [] (some [(4, .blk), (5, .blk)]) K).K := by kernel_rfl

def spec_l11Step_j0_F : PT := mkF [(2, .blk), (3, .blk), (4, .blk), (5, .blk), (6, .int .i64), (42, .int .i64), (49, .bool)] fun K => spec_l11Step_j0 (curV [(2, .blk), (3, .blk), (4, .blk), (5, .blk), (6, .int .i64)] (K .normal)) (curV [(4, .blk), (5, .blk)] (K .ret))

theorem spec_l11Step_j0_V : Valid Try.prog 132 (sub code16 [true, true, true, true, true, true, false, true, false, true, true, true]) spec_l11Step_j0_F :=
  piece mixed rows_nil (fun K => by intro b68 b69 b70 b71 n72 n73 t74 h hd; exact (spec_l11Step_j0_eq K b68 b69 b70 b71 n72 n73 t74 h) ▸ hd)

theorem spec_l11Step_j1_eq (K : Cont) (b58 : Nat) (b59 : Nat) (b60 : Nat) (b61 : Nat) (n62 : Int) (h : H) :
  spec_l11Step_j1 (curV [(4, .blk), (5, .blk)] (K .ret)) b58 b59 b60 b61 n62 h = evC Try.prog 132 [] [] (sub code16 [true, true, true, true, true, true, true]) [(2, .pointer (some ⟨b58, 0, none⟩)), (3, .pointer (some ⟨b59, 0, none⟩)), (4, .pointer (some ⟨b60, 0, none⟩)), (5, .pointer (some ⟨b61, 0, none⟩)), (6, .int .i64 n62)] h (outsOf none [] (some [(4, .blk), (5, .blk)]) K).K := by kernel_rfl

def spec_l11Step_j1_F : PT := mkF [(2, .blk), (3, .blk), (4, .blk), (5, .blk), (6, .int .i64)] fun K => spec_l11Step_j1 (curV [(4, .blk), (5, .blk)] (K .ret))

theorem spec_l11Step_j1_V : Valid Try.prog 132 (sub code16 [true, true, true, true, true, true, true]) spec_l11Step_j1_F :=
  piece mixed rows_nil (fun K => by intro b58 b59 b60 b61 n62 h hd; exact (spec_l11Step_j1_eq K b58 b59 b60 b61 n62 h) ▸ hd)

theorem spec_l11Step_eq (K : Cont) (n1 : Int) (n2 : Int) (a3 : Option Addr) (l3 : Nat) (c3 : Nat) (a4 : Option Addr) (l4 : Nat) (c4 : Nat) (n5 : Int) (n6 : Int) (n7 : Int) (h : H) :
  spec_l11Step (curV [(4, .blk), (5, .blk)] (K .ret)) n1 n2 a3 l3 c3 a4 l4 c4 n5 n6 n7 h = evC Try.prog 132 [([true, true, true, true, true, true, true], spec_l11Step_j1_F), ([true, true, true, false, true, false, true, true, true, true, true, true], spec_l11Step_j0_F)] [] code16 [(0, .agg ⟨[.int .i64 n1, .int .i64 n2, .slice a3 l3 c3, .slice a4 l4 c4]⟩), (1, .agg ⟨[.int .i64 n5, .int .i64 n6, .int .i64 n7]⟩)] h (outsOf none [] (some [(4, .blk), (5, .blk)]) K).K := by kernel_rfl

def spec_l11Step_F : PT := mkF [(0, .agg [.int .i64, .int .i64, .slice, .slice]), (1, .agg [.int .i64, .int .i64, .int .i64])] fun K => spec_l11Step (curV [(4, .blk), (5, .blk)] (K .ret))

theorem spec_l11Step_V : Valid Try.prog 132 code16 spec_l11Step_F :=
  piece mixed (rows_cons (q' := [true, true, true, true, true, true, true]) spec_l11Step_j1_V rfl (rows_cons (q' := [true, true, true, true, true, true, false, true, false, true, true, true]) spec_l11Step_j0_V rfl rows_nil)) (fun K => by intro n1 n2 a3 l3 c3 a4 l4 c4 n5 n6 n7 h hd; exact (spec_l11Step_eq K n1 n2 a3 l3 c3 a4 l4 c4 n5 n6 n7 h) ▸ hd)

theorem spec_l11Step_c0 (n1 : Int) (n2 : Int) (a3 : Option Addr) (l3 : Nat) (c3 : Nat) (a4 : Option Addr) (l4 : Nat) (c4 : Nat) (n5 : Int) (n6 : Int) (n7 : Int) (h : H) (K : Value → H → Prop) :
  spec_l11Step (fun b100001 b100002 h =>
  ldRow h b100001 0 0 [.int .i64, .int .i64, .slice, .slice] fun n100003 n100004 a100005 l100005 c100005 a100006 l100006 c100006 =>
  ldRow h b100002 0 0 [.int .i64, .int .i64] fun n100007 n100008 =>
  K (.tuple ⟨[.agg ⟨[.int .i64 n100003, .int .i64 n100004, .slice a100005 l100005 c100005, .slice a100006 l100006 c100006]⟩, .agg ⟨[.int .i64 n100007, .int .i64 n100008]⟩]⟩) h) n1 n2 a3 l3 c3 a4 l4 c4 n5 n6 n7 h = callF Try.prog Try.f16.results.toList spec_l11Step_F [.agg ⟨[.int .i64 n1, .int .i64 n2, .slice a3 l3 c3, .slice a4 l4 c4]⟩, .agg ⟨[.int .i64 n5, .int .i64 n6, .int .i64 n7]⟩] h K := by kernel_rfl

theorem spec_l11Step_call {n1 : Int} {n2 : Int} {a3 : Option Addr} {l3 : Nat} {c3 : Nat} {a4 : Option Addr} {l4 : Nat} {c4 : Nat} {n5 : Int} {n6 : Int} {n7 : Int} {h : H} {K : Value → H → Prop} (hs : spec_l11Step (fun b100001 b100002 h =>
  ldRow h b100001 0 0 [.int .i64, .int .i64, .slice, .slice] fun n100003 n100004 a100005 l100005 c100005 a100006 l100006 c100006 =>
  ldRow h b100002 0 0 [.int .i64, .int .i64] fun n100007 n100008 =>
  K (.tuple ⟨[.agg ⟨[.int .i64 n100003, .int .i64 n100004, .slice a100005 l100005 c100005, .slice a100006 l100006 c100006]⟩, .agg ⟨[.int .i64 n100007, .int .i64 n100008]⟩]⟩) h) n1 n2 a3 l3 c3 a4 l4 c4 n5 n6 n7 h) : callK Try.prog 16 ⟨[.agg ⟨[.int .i64 n1, .int .i64 n2, .slice a3 l3 c3, .slice a4 l4 c4]⟩, .agg ⟨[.int .i64 n5, .int .i64 n6, .int .i64 n7]⟩]⟩ h K :=
  func_calls Try.func16 body16 spec_l11Step_V (Nat.le_of_ble_eq_true (by kernel_rfl)) (spec_l11Step_c0 n1 n2 a3 l3 c3 a4 l4 c4 n5 n6 n7 h K ▸ hs)

def spec_l11Step_M_j0 (kn : Int → Int → Int → Option Addr → Nat → Nat → Option Addr → Nat → Nat → Int → H → Prop) (kr : Int → Int → Option Addr → Nat → Nat → Option Addr → Nat → Nat → Int → Int → H → Prop) (n29 : Int) (n30 : Int) (t31 : Bool) (n32 : Int) (n33 : Int) (a34 : Option Addr) (l34 : Nat) (c34 : Nat) (a35 : Option Addr) (l35 : Nat) (c35 : Nat) (n37 : Int) (n38 : Int) (n39 : Int) (h : H) : Prop :=
  ifB t31
  (callD Try.prog 35 ⟨[.agg ⟨[.int .i64 n32, .int .i64 n33, .slice a34 l34 c34, .slice a35 l35 c35]⟩, .int .i64 n29, .agg ⟨[.int .i64 n37, .int .i64 n38, .int .i64 n39]⟩]⟩ h fun v49 h =>
  elF False (.tuple [.agg [.int .i64, .int .i64, .slice, .slice], .agg [.int .i64, .int .i64]]) v49 fun n50 n51 a52 l52 c52 a53 l53 c53 n54 n55 =>
  kr n50 n51 a52 l52 c52 a53 l53 c53 n54 n55 h)
  (ifB ((n30 : Int) == 6)
  (ifB (decide ((n39 : Int) < 1))
  (kr n32 n33 a34 l34 c34 a35 l35 c35 1 0 h)
  (ifB (decide ((n39 : Int) > 1000))
  (kr n32 n33 a34 l34 c34 a35 l35 c35 1 0 h)
  (req (0 ≤ (n29 : Int) ∧ (n29 : Int) < (l34 : Nat))
  (nz a34 fun b56 o57 =>
  ldI .i64 h b56 ((o57 + n29.toNat * 8) + 2) fun n58 =>
  ifB ((n58 : Int) != 1)
  (kr n32 n33 a34 l34 c34 a35 l35 c35 21 0 h)
  (req (0 ≤ (n29 : Int) ∧ (n29 : Int) < (l34 : Nat))
  (nz a34 fun b59 o60 =>
  st h b59 ((o60 + n29.toNat * 8) + 2) (.int .i64 3) fun h =>
  req (0 ≤ (n29 : Int) ∧ (n29 : Int) < (l34 : Nat))
  (nz a34 fun b61 o62 =>
  st h b61 ((o62 + n29.toNat * 8) + 6) (.int .i64 (IntKind.i64.wrap (n32 + n39))) fun h =>
  kr n32 n33 a34 l34 c34 a35 l35 c35 0 0 h)))))))
  (ifB ((n30 : Int) == 7)
  (req (0 ≤ (n29 : Int) ∧ (n29 : Int) < (l34 : Nat))
  (nz a34 fun b63 o64 =>
  ldI .i64 h b63 ((o64 + n29.toNat * 8) + 2) fun n65 =>
  ifB ((n65 : Int) != 3)
  (kr n32 n33 a34 l34 c34 a35 l35 c35 21 0 h)
  (callD Try.prog 36 ⟨[.agg ⟨[.int .i64 n32, .int .i64 n33, .slice a34 l34 c34, .slice a35 l35 c35]⟩, .int .i64 n29, .int .i64 n32]⟩ h fun v66 h =>
  elF False (.agg [.int .i64, .int .i64, .slice, .slice]) v66 fun n67 n68 a69 l69 c69 a70 l70 c70 =>
  kr n67 n68 a69 l69 c69 a70 l70 c70 0 0 h)))
  (kn n29 n32 n33 a34 l34 c34 a35 l35 c35 n39 h)))

def spec_l11Step_M_j1 (kr : Int → Int → Option Addr → Nat → Nat → Option Addr → Nat → Nat → Int → Int → H → Prop) (n24 : Int) (n25 : Int) (n26 : Int) (a27 : Option Addr) (l27 : Nat) (c27 : Nat) (a28 : Option Addr) (l28 : Nat) (c28 : Nat) (n32 : Int) (h : H) : Prop :=
  ifB (decide ((n32 : Int) < 0))
  (kr n25 n26 a27 l27 c27 a28 l28 c28 1 0 h)
  (ifB (decide ((n32 : Int) > 7))
  (kr n25 n26 a27 l27 c27 a28 l28 c28 1 0 h)
  (req (0 ≤ (n24 : Int) ∧ (n24 : Int) < (l27 : Nat))
  (nz a27 fun b42 o43 =>
  st h b42 ((o43 + n24.toNat * 8) + 1) (.int .i64 n32) fun h =>
  kr n25 n26 a27 l27 c27 a28 l28 c28 0 0 h)))

def spec_l11Step_M (kr : Int → Int → Option Addr → Nat → Nat → Option Addr → Nat → Nat → Int → Int → H → Prop) (n1 : Int) (n2 : Int) (a3 : Option Addr) (l3 : Nat) (c3 : Nat) (a4 : Option Addr) (l4 : Nat) (c4 : Nat) (n5 : Int) (n6 : Int) (n7 : Int) (h : H) : Prop :=
  ifB ((n5 : Int) == 1)
  (callD Try.prog 32 ⟨[.agg ⟨[.int .i64 n1, .int .i64 n2, .slice a3 l3 c3, .slice a4 l4 c4]⟩, .int .i64 n7]⟩ h fun v8 h =>
  elF False (.tuple [.agg [.int .i64, .int .i64, .slice, .slice], .agg [.int .i64, .int .i64]]) v8 fun n9 n10 a11 l11 c11 a12 l12 c12 n13 n14 =>
  kr n9 n10 a11 l11 c11 a12 l12 c12 n13 n14 h)
  (ifB ((n5 : Int) == 3)
  (callD Try.prog 33 ⟨[.agg ⟨[.int .i64 n1, .int .i64 n2, .slice a3 l3 c3, .slice a4 l4 c4]⟩]⟩ h fun v15 h =>
  elF False (.tuple [.agg [.int .i64, .int .i64, .slice, .slice], .agg [.int .i64, .int .i64]]) v15 fun n16 n17 a18 l18 c18 a19 l19 c19 n20 n21 =>
  kr n16 n17 a18 l18 c18 a19 l19 c19 n20 n21 h)
  (ifB (decide ((n5 : Int) < 1))
  (kr n1 n2 a3 l3 c3 a4 l4 c4 1 0 h)
  (ifB (decide ((n5 : Int) > 8))
  (kr n1 n2 a3 l3 c3 a4 l4 c4 1 0 h)
  (callD Try.prog 29 ⟨[.agg ⟨[.int .i64 n1, .int .i64 n2, .slice a3 l3 c3, .slice a4 l4 c4]⟩, .int .i64 n6]⟩ h fun v22 h =>
  asI .i64 v22 fun n23 =>
  ifB (decide ((n23 : Int) < 0))
  (kr n1 n2 a3 l3 c3 a4 l4 c4 3 0 h)
  (ifB ((n5 : Int) == 2)
  (callD Try.prog 34 ⟨[.agg ⟨[.int .i64 n1, .int .i64 n2, .slice a3 l3 c3, .slice a4 l4 c4]⟩, .int .i64 n23]⟩ h fun v24 h =>
  elF False (.agg [.int .i64, .int .i64, .slice, .slice]) v24 fun n25 n26 a27 l27 c27 a28 l28 c28 =>
  kr n25 n26 a27 l27 c27 a28 l28 c28 0 0 h)
  (ifB ((n5 : Int) == 4)
  (spec_l11Step_M_j0 (fun n29 n30 n31 a32 l32 c32 a33 l33 c33 n37 h =>
  spec_l11Step_M_j1 kr n29 n30 n31 a32 l32 c32 a33 l33 c33 n37 h) kr n23 n5 ((n5 : Int) == 4) n1 n2 a3 l3 c3 a4 l4 c4 n5 n6 n7 h)
  (spec_l11Step_M_j0 (fun n47 n48 n49 a50 l50 c50 a51 l51 c51 n55 h =>
  spec_l11Step_M_j1 kr n47 n48 n49 a50 l50 c50 a51 l51 c51 n55 h) kr n23 n5 ((n5 : Int) == 5) n1 n2 a3 l3 c3 a4 l4 c4 n5 n6 n7 h)))))))

theorem spec_l11Step_M_j0_D {g0 m0 : H} {kn_1 : Nat → Nat → Nat → Nat → Int → H → Prop} {kn_2 : Int → Int → Int → Option Addr → Nat → Nat → Option Addr → Nat → Nat → Int → H → Prop} (Hkn : ∀ (n200001 : Int) (n200002 : Int) (n200003 : Int) (a200004 : Option Addr) (l200004 : Nat) (c200004 : Nat) (a200005 : Option Addr) (l200005 : Nat) (c200005 : Nat) (n200007 : Int) (n200008 : Int) (n200009 : Int) (n200011 : Int) (n200012 : Int) (a200013 : Option Addr) (l200013 : Nat) (c200013 : Nat) (a200014 : Option Addr) (l200014 : Nat) (c200014 : Nat) (n200016 : Int) (n200017 : Int) (p200006 : Nat) (p200010 : Nat) (p200015 : Nat) (p200018 : Nat) (g m : H), Md g0 m0 g m [lo p200006 [.int .i64 n200002, .int .i64 n200003, .slice a200004 l200004 c200004, .slice a200005 l200005 c200005], lo p200010 [.int .i64 n200007, .int .i64 n200008, .int .i64 n200009], lo p200015 [.int .i64 n200011, .int .i64 n200012, .slice a200013 l200013 c200013, .slice a200014 l200014 c200014], lo p200018 [.int .i64 n200016, .int .i64 n200017]] → kn_2 n200001 n200002 n200003 a200004 l200004 c200004 a200005 l200005 c200005 n200009 m → kn_1 p200006 p200010 p200015 p200018 n200001 g)
  {kr_1 : Nat → Nat → H → Prop} {kr_2 : Int → Int → Option Addr → Nat → Nat → Option Addr → Nat → Nat → Int → Int → H → Prop} (Hkr : ∀ (n200001 : Int) (n200002 : Int) (a200003 : Option Addr) (l200003 : Nat) (c200003 : Nat) (a200004 : Option Addr) (l200004 : Nat) (c200004 : Nat) (n200006 : Int) (n200007 : Int) (p200005 : Nat) (p200008 : Nat) (g m : H), Md g0 m0 g m [lo p200005 [.int .i64 n200001, .int .i64 n200002, .slice a200003 l200003 c200003, .slice a200004 l200004 c200004], lo p200008 [.int .i64 n200006, .int .i64 n200007]] → kr_2 n200001 n200002 a200003 l200003 c200003 a200004 l200004 c200004 n200006 n200007 m → kr_1 p200005 p200008 g) : ∀ (n1029 : Int) (n1030 : Int) (t1031 : Bool) (n1032 : Int) (n1033 : Int) (a1034 : Option Addr) (l1034 : Nat) (c1034 : Nat) (a1035 : Option Addr) (l1035 : Nat) (c1035 : Nat) (n1037 : Int) (n1038 : Int) (n1039 : Int) (n1041 : Int) (n1042 : Int) (a1043 : Option Addr) (l1043 : Nat) (c1043 : Nat) (a1044 : Option Addr) (l1044 : Nat) (c1044 : Nat) (n1046 : Int) (n1047 : Int) (p1036 : Nat) (p1040 : Nat) (p1045 : Nat) (p1048 : Nat) (g m : H), Md g0 m0 g m [lo p1036 [.int .i64 n1032, .int .i64 n1033, .slice a1034 l1034 c1034, .slice a1035 l1035 c1035], lo p1040 [.int .i64 n1037, .int .i64 n1038, .int .i64 n1039], lo p1045 [.int .i64 n1041, .int .i64 n1042, .slice a1043 l1043 c1043, .slice a1044 l1044 c1044], lo p1048 [.int .i64 n1046, .int .i64 n1047]] → spec_l11Step_M_j0 kn_2 kr_2 n1029 n1030 t1031 n1032 n1033 a1034 l1034 c1034 a1035 l1035 c1035 n1037 n1038 n1039 m → spec_l11Step_j0 kn_1 kr_1 p1036 p1040 p1045 p1048 n1029 n1030 t1031 g := by
  intro n1029 n1030 t1031 n1032 n1033 a1034 l1034 c1034 a1035 l1035 c1035 n1037 n1038 n1039 n1041 n1042 a1043 l1043 c1043 a1044 l1044 c1044 n1046 n1047 p1036 p1040 p1045 p1048 g m R
  rw [spec_l11Step_M_j0, spec_l11Step_j0]
  exact (d_if (p_row_I2L2 R rfl rfl rfl rfl (p_row_I3 R rfl rfl rfl (d_call R fun v1049 g m R =>
  (d_el_TAI2L2EAI2EE fun n1050 n1051 a1052 l1052 c1052 a1053 l1053 c1053 n1054 n1055 =>
  (p_stRow R (cs' := [.int .i64 n1050, .int .i64 n1051, .slice a1052 l1052 c1052, .slice a1053 l1053 c1053]) ⟨rfl, rfl, rfl⟩ fun g R =>
  (p_stRow R (cs' := [.int .i64 n1054, .int .i64 n1055]) ⟨rfl, rfl, rfl⟩ fun g R =>
  (Hkr n1050 n1051 a1052 l1052 c1052 a1053 l1053 c1053 n1054 n1055 p1045 p1048 _ _ R.sub)))))))
  (d_if (p_ldI R rfl (d_if (p_row_I2L2 R rfl rfl rfl rfl (p_stRow R (cs' := [.int .i64 n1032, .int .i64 n1033, .slice a1034 l1034 c1034, .slice a1035 l1035 c1035]) ⟨rfl, rfl, rfl⟩ fun g R =>
  (p_stRow R (cs' := [.int .i64 1, .int .i64 0]) ⟨rfl, rfl, rfl⟩ fun g R =>
  (Hkr n1032 n1033 a1034 l1034 c1034 a1035 l1035 c1035 1 0 p1045 p1048 _ _ R.sub))))
  (p_ldI R rfl (d_if (p_row_I2L2 R rfl rfl rfl rfl (p_stRow R (cs' := [.int .i64 n1032, .int .i64 n1033, .slice a1034 l1034 c1034, .slice a1035 l1035 c1035]) ⟨rfl, rfl, rfl⟩ fun g R =>
  (p_stRow R (cs' := [.int .i64 1, .int .i64 0]) ⟨rfl, rfl, rfl⟩ fun g R =>
  (Hkr n1032 n1033 a1034 l1034 c1034 a1035 l1035 c1035 1 0 p1045 p1048 _ _ R.sub))))
  (p_ldL R rfl (d_req (d_nz fun b1056 o1057 =>
  (d_ldI R fun n1058 =>
  (d_if (p_row_I2L2 R rfl rfl rfl rfl (p_stRow R (cs' := [.int .i64 n1032, .int .i64 n1033, .slice a1034 l1034 c1034, .slice a1035 l1035 c1035]) ⟨rfl, rfl, rfl⟩ fun g R =>
  (p_stRow R (cs' := [.int .i64 21, .int .i64 0]) ⟨rfl, rfl, rfl⟩ fun g R =>
  (Hkr n1032 n1033 a1034 l1034 c1034 a1035 l1035 c1035 21 0 p1045 p1048 _ _ R.sub))))
  (p_ldL R rfl (d_req (d_nz fun b1059 o1060 =>
  (d_st R fun g m R =>
  (p_ldL R rfl (p_ldI R rfl (p_ldI R rfl (d_req (d_nz fun b1061 o1062 =>
  (d_st R fun g m R =>
  (p_row_I2L2 R rfl rfl rfl rfl (p_stRow R (cs' := [.int .i64 n1032, .int .i64 n1033, .slice a1034 l1034 c1034, .slice a1035 l1035 c1035]) ⟨rfl, rfl, rfl⟩ fun g R =>
  (p_stRow R (cs' := [.int .i64 0, .int .i64 0]) ⟨rfl, rfl, rfl⟩ fun g R =>
  (Hkr n1032 n1033 a1034 l1034 c1034 a1035 l1035 c1035 0 0 p1045 p1048 _ _ R.sub)))))))))))))))))))))))
  (d_if (p_ldL R rfl (d_req (d_nz fun b1063 o1064 =>
  (d_ldI R fun n1065 =>
  (d_if (p_row_I2L2 R rfl rfl rfl rfl (p_stRow R (cs' := [.int .i64 n1032, .int .i64 n1033, .slice a1034 l1034 c1034, .slice a1035 l1035 c1035]) ⟨rfl, rfl, rfl⟩ fun g R =>
  (p_stRow R (cs' := [.int .i64 21, .int .i64 0]) ⟨rfl, rfl, rfl⟩ fun g R =>
  (Hkr n1032 n1033 a1034 l1034 c1034 a1035 l1035 c1035 21 0 p1045 p1048 _ _ R.sub))))
  (p_row_I2L2 R rfl rfl rfl rfl (p_ldI R rfl (d_call R fun v1066 g m R =>
  (d_el_AI2L2E fun n1067 n1068 a1069 l1069 c1069 a1070 l1070 c1070 =>
  (p_stRow R (cs' := [.int .i64 n1067, .int .i64 n1068, .slice a1069 l1069 c1069, .slice a1070 l1070 c1070]) ⟨rfl, rfl, rfl⟩ fun g R =>
  (p_stRow R (cs' := [.int .i64 0, .int .i64 0]) ⟨rfl, rfl, rfl⟩ fun g R =>
  (Hkr n1067 n1068 a1069 l1069 c1069 a1070 l1070 c1070 0 0 p1045 p1048 _ _ R.sub))))))))))))
  (Hkn n1029 n1032 n1033 a1034 l1034 c1034 a1035 l1035 c1035 n1037 n1038 n1039 n1041 n1042 a1043 l1043 c1043 a1044 l1044 c1044 n1046 n1047 p1036 p1040 p1045 p1048 _ _ R.sub))))

theorem spec_l11Step_M_j1_D {g0 m0 : H} {kr_1 : Nat → Nat → H → Prop} {kr_2 : Int → Int → Option Addr → Nat → Nat → Option Addr → Nat → Nat → Int → Int → H → Prop} (Hkr : ∀ (n200001 : Int) (n200002 : Int) (a200003 : Option Addr) (l200003 : Nat) (c200003 : Nat) (a200004 : Option Addr) (l200004 : Nat) (c200004 : Nat) (n200006 : Int) (n200007 : Int) (p200005 : Nat) (p200008 : Nat) (g m : H), Md g0 m0 g m [lo p200005 [.int .i64 n200001, .int .i64 n200002, .slice a200003 l200003 c200003, .slice a200004 l200004 c200004], lo p200008 [.int .i64 n200006, .int .i64 n200007]] → kr_2 n200001 n200002 a200003 l200003 c200003 a200004 l200004 c200004 n200006 n200007 m → kr_1 p200005 p200008 g) : ∀ (n1024 : Int) (n1025 : Int) (n1026 : Int) (a1027 : Option Addr) (l1027 : Nat) (c1027 : Nat) (a1028 : Option Addr) (l1028 : Nat) (c1028 : Nat) (n1030 : Int) (n1031 : Int) (n1032 : Int) (n1034 : Int) (n1035 : Int) (a1036 : Option Addr) (l1036 : Nat) (c1036 : Nat) (a1037 : Option Addr) (l1037 : Nat) (c1037 : Nat) (n1039 : Int) (n1040 : Int) (p1029 : Nat) (p1033 : Nat) (p1038 : Nat) (p1041 : Nat) (g m : H), Md g0 m0 g m [lo p1029 [.int .i64 n1025, .int .i64 n1026, .slice a1027 l1027 c1027, .slice a1028 l1028 c1028], lo p1033 [.int .i64 n1030, .int .i64 n1031, .int .i64 n1032], lo p1038 [.int .i64 n1034, .int .i64 n1035, .slice a1036 l1036 c1036, .slice a1037 l1037 c1037], lo p1041 [.int .i64 n1039, .int .i64 n1040]] → spec_l11Step_M_j1 kr_2 n1024 n1025 n1026 a1027 l1027 c1027 a1028 l1028 c1028 n1032 m → spec_l11Step_j1 kr_1 p1029 p1033 p1038 p1041 n1024 g := by
  intro n1024 n1025 n1026 a1027 l1027 c1027 a1028 l1028 c1028 n1030 n1031 n1032 n1034 n1035 a1036 l1036 c1036 a1037 l1037 c1037 n1039 n1040 p1029 p1033 p1038 p1041 g m R
  rw [spec_l11Step_M_j1, spec_l11Step_j1]
  exact (p_ldI R rfl (d_if (p_row_I2L2 R rfl rfl rfl rfl (p_stRow R (cs' := [.int .i64 n1025, .int .i64 n1026, .slice a1027 l1027 c1027, .slice a1028 l1028 c1028]) ⟨rfl, rfl, rfl⟩ fun g R =>
  (p_stRow R (cs' := [.int .i64 1, .int .i64 0]) ⟨rfl, rfl, rfl⟩ fun g R =>
  (Hkr n1025 n1026 a1027 l1027 c1027 a1028 l1028 c1028 1 0 p1038 p1041 _ _ R.sub))))
  (p_ldI R rfl (d_if (p_row_I2L2 R rfl rfl rfl rfl (p_stRow R (cs' := [.int .i64 n1025, .int .i64 n1026, .slice a1027 l1027 c1027, .slice a1028 l1028 c1028]) ⟨rfl, rfl, rfl⟩ fun g R =>
  (p_stRow R (cs' := [.int .i64 1, .int .i64 0]) ⟨rfl, rfl, rfl⟩ fun g R =>
  (Hkr n1025 n1026 a1027 l1027 c1027 a1028 l1028 c1028 1 0 p1038 p1041 _ _ R.sub))))
  (p_ldL R rfl (p_ldI R rfl (d_req (d_nz fun b1042 o1043 =>
  (d_st R fun g m R =>
  (p_row_I2L2 R rfl rfl rfl rfl (p_stRow R (cs' := [.int .i64 n1025, .int .i64 n1026, .slice a1027 l1027 c1027, .slice a1028 l1028 c1028]) ⟨rfl, rfl, rfl⟩ fun g R =>
  (p_stRow R (cs' := [.int .i64 0, .int .i64 0]) ⟨rfl, rfl, rfl⟩ fun g R =>
  (Hkr n1025 n1026 a1027 l1027 c1027 a1028 l1028 c1028 0 0 p1038 p1041 _ _ R.sub)))))))))))))

theorem spec_l11Step_M_D {g0 m0 : H} {kr_1 : Nat → Nat → H → Prop} {kr_2 : Int → Int → Option Addr → Nat → Nat → Option Addr → Nat → Nat → Int → Int → H → Prop} (Hkr : ∀ (n200001 : Int) (n200002 : Int) (a200003 : Option Addr) (l200003 : Nat) (c200003 : Nat) (a200004 : Option Addr) (l200004 : Nat) (c200004 : Nat) (n200006 : Int) (n200007 : Int) (p200005 : Nat) (p200008 : Nat) (g m : H), Md g0 m0 g m [lo p200005 [.int .i64 n200001, .int .i64 n200002, .slice a200003 l200003 c200003, .slice a200004 l200004 c200004], lo p200008 [.int .i64 n200006, .int .i64 n200007]] → kr_2 n200001 n200002 a200003 l200003 c200003 a200004 l200004 c200004 n200006 n200007 m → kr_1 p200005 p200008 g) : ∀ (n1001 : Int) (n1002 : Int) (a1003 : Option Addr) (l1003 : Nat) (c1003 : Nat) (a1004 : Option Addr) (l1004 : Nat) (c1004 : Nat) (n1005 : Int) (n1006 : Int) (n1007 : Int) (g m : H), Md g0 m0 g m [] → spec_l11Step_M kr_2 n1001 n1002 a1003 l1003 c1003 a1004 l1004 c1004 n1005 n1006 n1007 m → spec_l11Step kr_1 n1001 n1002 a1003 l1003 c1003 a1004 l1004 c1004 n1005 n1006 n1007 g := by
  intro n1001 n1002 a1003 l1003 c1003 a1004 l1004 c1004 n1005 n1006 n1007 g m R
  rw [spec_l11Step_M, spec_l11Step]
  exact (p_new R fun p1008 g R =>
  (p_new R fun p1009 g R =>
  (p_new R fun p1010 g R =>
  (p_new R fun p1011 g R =>
  (p_ldI R rfl (d_if (p_row_I2L2 R rfl rfl rfl rfl (p_ldI R rfl (d_call R fun v1012 g m R =>
  (d_el_TAI2L2EAI2EE fun n1013 n1014 a1015 l1015 c1015 a1016 l1016 c1016 n1017 n1018 =>
  (p_stRow R (cs' := [.int .i64 n1013, .int .i64 n1014, .slice a1015 l1015 c1015, .slice a1016 l1016 c1016]) ⟨rfl, rfl, rfl⟩ fun g R =>
  (p_stRow R (cs' := [.int .i64 n1017, .int .i64 n1018]) ⟨rfl, rfl, rfl⟩ fun g R =>
  (Hkr n1013 n1014 a1015 l1015 c1015 a1016 l1016 c1016 n1017 n1018 p1010 p1011 _ _ R.sub)))))))
  (p_ldI R rfl (d_if (p_row_I2L2 R rfl rfl rfl rfl (d_call R fun v1019 g m R =>
  (d_el_TAI2L2EAI2EE fun n1020 n1021 a1022 l1022 c1022 a1023 l1023 c1023 n1024 n1025 =>
  (p_stRow R (cs' := [.int .i64 n1020, .int .i64 n1021, .slice a1022 l1022 c1022, .slice a1023 l1023 c1023]) ⟨rfl, rfl, rfl⟩ fun g R =>
  (p_stRow R (cs' := [.int .i64 n1024, .int .i64 n1025]) ⟨rfl, rfl, rfl⟩ fun g R =>
  (Hkr n1020 n1021 a1022 l1022 c1022 a1023 l1023 c1023 n1024 n1025 p1010 p1011 _ _ R.sub))))))
  (p_ldI R rfl (d_if (p_row_I2L2 R rfl rfl rfl rfl (p_stRow R (cs' := [.int .i64 n1001, .int .i64 n1002, .slice a1003 l1003 c1003, .slice a1004 l1004 c1004]) ⟨rfl, rfl, rfl⟩ fun g R =>
  (p_stRow R (cs' := [.int .i64 1, .int .i64 0]) ⟨rfl, rfl, rfl⟩ fun g R =>
  (Hkr n1001 n1002 a1003 l1003 c1003 a1004 l1004 c1004 1 0 p1010 p1011 _ _ R.sub))))
  (p_ldI R rfl (d_if (p_row_I2L2 R rfl rfl rfl rfl (p_stRow R (cs' := [.int .i64 n1001, .int .i64 n1002, .slice a1003 l1003 c1003, .slice a1004 l1004 c1004]) ⟨rfl, rfl, rfl⟩ fun g R =>
  (p_stRow R (cs' := [.int .i64 1, .int .i64 0]) ⟨rfl, rfl, rfl⟩ fun g R =>
  (Hkr n1001 n1002 a1003 l1003 c1003 a1004 l1004 c1004 1 0 p1010 p1011 _ _ R.sub))))
  (p_row_I2L2 R rfl rfl rfl rfl (p_ldI R rfl (d_call R fun v1026 g m R =>
  (d_asI fun n1027 =>
  (d_if (p_row_I2L2 R rfl rfl rfl rfl (p_stRow R (cs' := [.int .i64 n1001, .int .i64 n1002, .slice a1003 l1003 c1003, .slice a1004 l1004 c1004]) ⟨rfl, rfl, rfl⟩ fun g R =>
  (p_stRow R (cs' := [.int .i64 3, .int .i64 0]) ⟨rfl, rfl, rfl⟩ fun g R =>
  (Hkr n1001 n1002 a1003 l1003 c1003 a1004 l1004 c1004 3 0 p1010 p1011 _ _ R.sub))))
  (p_ldI R rfl (d_if (p_row_I2L2 R rfl rfl rfl rfl (d_call R fun v1028 g m R =>
  (d_el_AI2L2E fun n1029 n1030 a1031 l1031 c1031 a1032 l1032 c1032 =>
  (p_stRow R (cs' := [.int .i64 n1029, .int .i64 n1030, .slice a1031 l1031 c1031, .slice a1032 l1032 c1032]) ⟨rfl, rfl, rfl⟩ fun g R =>
  (p_stRow R (cs' := [.int .i64 0, .int .i64 0]) ⟨rfl, rfl, rfl⟩ fun g R =>
  (Hkr n1029 n1030 a1031 l1031 c1031 a1032 l1032 c1032 0 0 p1010 p1011 _ _ R.sub))))))
  (d_if (spec_l11Step_M_j0_D (by exact fun n1033 n1034 n1035 a1036 l1036 c1036 a1037 l1037 c1037 n1039 n1040 n1041 n1043 n1044 a1045 l1045 c1045 a1046 l1046 c1046 n1048 n1049 p1038 p1042 p1047 p1050 g m R =>
  (spec_l11Step_M_j1_D (by exact fun n1051 n1052 a1053 l1053 c1053 a1054 l1054 c1054 n1056 n1057 p1055 p1058 g m R =>
  (Hkr n1051 n1052 a1053 l1053 c1053 a1054 l1054 c1054 n1056 n1057 p1055 p1058 _ _ R.sub)) n1033 n1034 n1035 a1036 l1036 c1036 a1037 l1037 c1037 n1039 n1040 n1041 n1043 n1044 a1045 l1045 c1045 a1046 l1046 c1046 n1048 n1049 p1038 p1042 p1047 p1050 _ _ R.sub))
  (by exact fun n1059 n1060 a1061 l1061 c1061 a1062 l1062 c1062 n1064 n1065 p1063 p1066 g m R =>
  (Hkr n1059 n1060 a1061 l1061 c1061 a1062 l1062 c1062 n1064 n1065 p1063 p1066 _ _ R.sub)) n1027 n1005 ((n1005 : Int) == 4) n1001 n1002 a1003 l1003 c1003 a1004 l1004 c1004 n1005 n1006 n1007 0 0 none 0 0 none 0 0 0 0 p1008 p1009 p1010 p1011 _ _ R.sub)
  (spec_l11Step_M_j0_D (by exact fun n1067 n1068 n1069 a1070 l1070 c1070 a1071 l1071 c1071 n1073 n1074 n1075 n1077 n1078 a1079 l1079 c1079 a1080 l1080 c1080 n1082 n1083 p1072 p1076 p1081 p1084 g m R =>
  (spec_l11Step_M_j1_D (by exact fun n1085 n1086 a1087 l1087 c1087 a1088 l1088 c1088 n1090 n1091 p1089 p1092 g m R =>
  (Hkr n1085 n1086 a1087 l1087 c1087 a1088 l1088 c1088 n1090 n1091 p1089 p1092 _ _ R.sub)) n1067 n1068 n1069 a1070 l1070 c1070 a1071 l1071 c1071 n1073 n1074 n1075 n1077 n1078 a1079 l1079 c1079 a1080 l1080 c1080 n1082 n1083 p1072 p1076 p1081 p1084 _ _ R.sub))
  (by exact fun n1093 n1094 a1095 l1095 c1095 a1096 l1096 c1096 n1098 n1099 p1097 p1100 g m R =>
  (Hkr n1093 n1094 a1095 l1095 c1095 a1096 l1096 c1096 n1098 n1099 p1097 p1100 _ _ R.sub)) n1027 n1005 ((n1005 : Int) == 5) n1001 n1002 a1003 l1003 c1003 a1004 l1004 c1004 n1005 n1006 n1007 0 0 none 0 0 none 0 0 0 0 p1008 p1009 p1010 p1011 _ _ R.sub)))))))))))))))))))))

theorem spec_l11Step_M_call {n1 : Int} {n2 : Int} {a3 : Option Addr} {l3 : Nat} {c3 : Nat} {a4 : Option Addr} {l4 : Nat} {c4 : Nat} {n5 : Int} {n6 : Int} {n7 : Int} {h : H} {K : Value → H → Prop} (hs : spec_l11Step_M (fun n300001 n300002 a300003 l300003 c300003 a300004 l300004 c300004 n300006 n300007 h =>
  K (.tuple ⟨[.agg ⟨[.int .i64 n300001, .int .i64 n300002, .slice a300003 l300003 c300003, .slice a300004 l300004 c300004]⟩, .agg ⟨[.int .i64 n300006, .int .i64 n300007]⟩]⟩) h) n1 n2 a3 l3 c3 a4 l4 c4 n5 n6 n7 h) : callD Try.prog 16 ⟨[.agg ⟨[.int .i64 n1, .int .i64 n2, .slice a3 l3 c3, .slice a4 l4 c4]⟩, .agg ⟨[.int .i64 n5, .int .i64 n6, .int .i64 n7]⟩]⟩ h K :=
  fun g r => spec_l11Step_call (spec_l11Step_M_D (by exact fun n300001 n300002 a300003 l300003 c300003 a300004 l300004 c300004 n300006 n300007 p300005 p300008 g m R =>
(p_row_I2L2 R rfl rfl rfl rfl (p_row_I2 R rfl rfl (fun h => ⟨m, R.af, h⟩)))) _ _ _ _ _ _ _ _ _ _ _ _ _ (Md.start r) hs)

noncomputable def code17 : Code := codeOf Try.f17
theorem body17 : Try.f17.body = some code17 := by kernel_rfl
def spec_l11Copy (kr : Nat → H → Prop) (s_1 : Int) (s_2 : Int) (s_3 : Option Addr) (s_l3 : Nat) (s_c3 : Nat) (s_4 : Option Addr) (s_l4 : Nat) (s_c4 : Nat) (h : H) : Prop :=
  new h [.int .i64 s_1, .int .i64 s_2, .slice s_3 s_l3 s_c3, .slice s_4 s_l4 s_c4] 32 fun b5 h =>
  new h [.int .i64 0, .int .i64 0, .slice none 0 0, .slice none 0 0] 32 fun b6 h =>
  ldI .i64 h b5 0 fun n7 =>
  ldI .i64 h b5 1 fun n8 =>
  ldL h b5 2 fun a9 l9 c9 =>
  ldL h b5 3 fun a10 l10 c10 =>
  (new h [] 60 fun b11 h =>
  cell h b5 3 = some (.slice a10 l10 c10) ∧ (cell h b5 2 = some (.slice a9 l9 c9) ∧ (cell h b5 1 = some (.int .i64 n8) ∧ (cell h b5 0 = some (.int .i64 n7) ∧ ((appendK Try.prog 60 h (some ⟨b11, 0, none⟩) 0 0 (.slice a9 l9 c9) fun a12 l12 c12 h =>
  cell h b5 3 = some (.slice a10 l10 c10) ∧ (cell h b5 1 = some (.int .i64 n8) ∧ (cell h b5 0 = some (.int .i64 n7) ∧ (new h [] 57 fun b13 h =>
  cell h b5 3 = some (.slice a10 l10 c10) ∧ (cell h b5 1 = some (.int .i64 n8) ∧ (cell h b5 0 = some (.int .i64 n7) ∧ (appendK Try.prog 57 h (some ⟨b13, 0, none⟩) 0 0 (.slice a10 l10 c10) fun a14 l14 c14 h =>
  cell h b5 1 = some (.int .i64 n8) ∧ (cell h b5 0 = some (.int .i64 n7) ∧ (stRow h b6 0 0 [.int .i64 n7, .int .i64 n8, .slice a12 l12 c12, .slice a14 l14 c14] fun h =>
  kr b6 h))))))))) ∧ (new h [] 57 fun b15 h =>
  cell h b5 3 = some (.slice a10 l10 c10) ∧ (cell h b5 2 = some (.slice a9 l9 c9) ∧ (cell h b5 1 = some (.int .i64 n8) ∧ (cell h b5 0 = some (.int .i64 n7) ∧ (appendK Try.prog 60 h (some ⟨b11, 0, none⟩) 0 0 (.slice a9 l9 c9) fun a16 l16 c16 h =>
  cell h b5 3 = some (.slice a10 l10 c10) ∧ (cell h b5 1 = some (.int .i64 n8) ∧ (cell h b5 0 = some (.int .i64 n7) ∧ (appendK Try.prog 57 h (some ⟨b15, 0, none⟩) 0 0 (.slice a10 l10 c10) fun a17 l17 c17 h =>
  cell h b5 1 = some (.int .i64 n8) ∧ (cell h b5 0 = some (.int .i64 n7) ∧ (stRow h b6 0 0 [.int .i64 n7, .int .i64 n8, .slice a16 l16 c16, .slice a17 l17 c17] fun h =>
  kr b6 h))))))))))))))) ∧ (new h [] 57 fun b18 h =>
  cell h b5 3 = some (.slice a10 l10 c10) ∧ (cell h b5 2 = some (.slice a9 l9 c9) ∧ (cell h b5 1 = some (.int .i64 n8) ∧ (cell h b5 0 = some (.int .i64 n7) ∧ (new h [] 60 fun b19 h =>
  cell h b5 3 = some (.slice a10 l10 c10) ∧ (cell h b5 2 = some (.slice a9 l9 c9) ∧ (cell h b5 1 = some (.int .i64 n8) ∧ (cell h b5 0 = some (.int .i64 n7) ∧ (appendK Try.prog 60 h (some ⟨b19, 0, none⟩) 0 0 (.slice a9 l9 c9) fun a20 l20 c20 h =>
  cell h b5 3 = some (.slice a10 l10 c10) ∧ (cell h b5 1 = some (.int .i64 n8) ∧ (cell h b5 0 = some (.int .i64 n7) ∧ (appendK Try.prog 57 h (some ⟨b18, 0, none⟩) 0 0 (.slice a10 l10 c10) fun a21 l21 c21 h =>
  cell h b5 1 = some (.int .i64 n8) ∧ (cell h b5 0 = some (.int .i64 n7) ∧ (stRow h b6 0 0 [.int .i64 n7, .int .i64 n8, .slice a20 l20 c20, .slice a21 l21 c21] fun h =>
  kr b6 h))))))))))))))

theorem spec_l11Copy_eq (K : Cont) (s_1 : Int) (s_2 : Int) (s_3 : Option Addr) (s_l3 : Nat) (s_c3 : Nat) (s_4 : Option Addr) (s_l4 : Nat) (s_c4 : Nat) (h : H) :
  spec_l11Copy (curV [(2, .blk)] (K .ret)) s_1 s_2 s_3 s_l3 s_c3 s_4 s_l4 s_c4 h = evC Try.prog 16 [] [] code17 [(0, .agg ⟨[.int .i64 s_1, .int .i64 s_2, .slice s_3 s_l3 s_c3, .slice s_4 s_l4 s_c4]⟩)] h (outsOf none [] (some [(2, .blk)]) K).K := by kernel_rfl

def spec_l11Copy_F : PT := mkF [(0, .agg [.int .i64, .int .i64, .slice, .slice])] fun K => spec_l11Copy (curV [(2, .blk)] (K .ret))

theorem spec_l11Copy_V : Valid Try.prog 16 code17 spec_l11Copy_F :=
  piece mixed rows_nil (fun K => by intro s_1 s_2 s_3 s_l3 s_c3 s_4 s_l4 s_c4 h hd; exact (spec_l11Copy_eq K s_1 s_2 s_3 s_l3 s_c3 s_4 s_l4 s_c4 h) ▸ hd)

theorem spec_l11Copy_c0 (s_1 : Int) (s_2 : Int) (s_3 : Option Addr) (s_l3 : Nat) (s_c3 : Nat) (s_4 : Option Addr) (s_l4 : Nat) (s_c4 : Nat) (h : H) (K : Value → H → Prop) :
  spec_l11Copy (fun b100001 h =>
  ldRow h b100001 0 0 [.int .i64, .int .i64, .slice, .slice] fun n100002 n100003 a100004 l100004 c100004 a100005 l100005 c100005 =>
  K (.agg ⟨[.int .i64 n100002, .int .i64 n100003, .slice a100004 l100004 c100004, .slice a100005 l100005 c100005]⟩) h) s_1 s_2 s_3 s_l3 s_c3 s_4 s_l4 s_c4 h = callF Try.prog Try.f17.results.toList spec_l11Copy_F [.agg ⟨[.int .i64 s_1, .int .i64 s_2, .slice s_3 s_l3 s_c3, .slice s_4 s_l4 s_c4]⟩] h K := by kernel_rfl

theorem spec_l11Copy_call {s_1 : Int} {s_2 : Int} {s_3 : Option Addr} {s_l3 : Nat} {s_c3 : Nat} {s_4 : Option Addr} {s_l4 : Nat} {s_c4 : Nat} {h : H} {K : Value → H → Prop} (hs : spec_l11Copy (fun b100001 h =>
  ldRow h b100001 0 0 [.int .i64, .int .i64, .slice, .slice] fun n100002 n100003 a100004 l100004 c100004 a100005 l100005 c100005 =>
  K (.agg ⟨[.int .i64 n100002, .int .i64 n100003, .slice a100004 l100004 c100004, .slice a100005 l100005 c100005]⟩) h) s_1 s_2 s_3 s_l3 s_c3 s_4 s_l4 s_c4 h) : callK Try.prog 17 ⟨[.agg ⟨[.int .i64 s_1, .int .i64 s_2, .slice s_3 s_l3 s_c3, .slice s_4 s_l4 s_c4]⟩]⟩ h K :=
  func_calls Try.func17 body17 spec_l11Copy_V (Nat.le_of_ble_eq_true (by kernel_rfl)) (spec_l11Copy_c0 s_1 s_2 s_3 s_l3 s_c3 s_4 s_l4 s_c4 h K ▸ hs)

def spec_l11Copy_M (kr : Int → Int → Option Addr → Nat → Nat → Option Addr → Nat → Nat → H → Prop) (s_1 : Int) (s_2 : Int) (s_3 : Option Addr) (s_l3 : Nat) (s_c3 : Nat) (s_4 : Option Addr) (s_l4 : Nat) (s_c4 : Nat) (h : H) : Prop :=
  (newD h [] 60 fun b5 h =>
  (appendD Try.prog 60 h (some ⟨b5, 0, none⟩) 0 0 (.slice s_3 s_l3 s_c3) fun a6 l6 c6 h =>
  newD h [] 57 fun b7 h =>
  appendD Try.prog 57 h (some ⟨b7, 0, none⟩) 0 0 (.slice s_4 s_l4 s_c4) fun a8 l8 c8 h =>
  kr s_1 s_2 a6 l6 c6 a8 l8 c8 h) ∧ (newD h [] 57 fun b6 h =>
  appendD Try.prog 60 h (some ⟨b5, 0, none⟩) 0 0 (.slice s_3 s_l3 s_c3) fun a7 l7 c7 h =>
  appendD Try.prog 57 h (some ⟨b6, 0, none⟩) 0 0 (.slice s_4 s_l4 s_c4) fun a8 l8 c8 h =>
  kr s_1 s_2 a7 l7 c7 a8 l8 c8 h)) ∧ (newD h [] 57 fun b5 h =>
  newD h [] 60 fun b6 h =>
  appendD Try.prog 60 h (some ⟨b6, 0, none⟩) 0 0 (.slice s_3 s_l3 s_c3) fun a7 l7 c7 h =>
  appendD Try.prog 57 h (some ⟨b5, 0, none⟩) 0 0 (.slice s_4 s_l4 s_c4) fun a8 l8 c8 h =>
  kr s_1 s_2 a7 l7 c7 a8 l8 c8 h)

theorem spec_l11Copy_M_D {g0 m0 : H} {kr_1 : Nat → H → Prop} {kr_2 : Int → Int → Option Addr → Nat → Nat → Option Addr → Nat → Nat → H → Prop} (Hkr : ∀ (n200001 : Int) (n200002 : Int) (a200003 : Option Addr) (l200003 : Nat) (c200003 : Nat) (a200004 : Option Addr) (l200004 : Nat) (c200004 : Nat) (p200005 : Nat) (g m : H), Md g0 m0 g m [lo p200005 [.int .i64 n200001, .int .i64 n200002, .slice a200003 l200003 c200003, .slice a200004 l200004 c200004]] → kr_2 n200001 n200002 a200003 l200003 c200003 a200004 l200004 c200004 m → kr_1 p200005 g) : ∀ (s_1001 : Int) (s_1002 : Int) (s_1003 : Option Addr) (s_l1003 : Nat) (s_c1003 : Nat) (s_1004 : Option Addr) (s_l1004 : Nat) (s_c1004 : Nat) (g m : H), Md g0 m0 g m [] → spec_l11Copy_M kr_2 s_1001 s_1002 s_1003 s_l1003 s_c1003 s_1004 s_l1004 s_c1004 m → spec_l11Copy kr_1 s_1001 s_1002 s_1003 s_l1003 s_c1003 s_1004 s_l1004 s_c1004 g := by
  intro s_1001 s_1002 s_1003 s_l1003 s_c1003 s_1004 s_l1004 s_c1004 g m R
  rw [spec_l11Copy_M, spec_l11Copy]
  exact (p_new R fun p1005 g R =>
  (p_new R fun p1006 g R =>
  (p_ldI R rfl (p_ldI R rfl (p_ldL R rfl (p_ldL R rfl (d_dup (d_l (d_new R fun b1007 g m R =>
  (p_cell R rfl (p_cell R rfl (p_cell R rfl (p_cell R rfl (d_dup (d_l (d_append R fun a1008 l1008 c1008 g m R =>
  (p_cell R rfl (p_cell R rfl (p_cell R rfl (d_new R fun b1009 g m R =>
  (p_cell R rfl (p_cell R rfl (p_cell R rfl (d_append R fun a1010 l1010 c1010 g m R =>
  (p_cell R rfl (p_cell R rfl (p_stRow R (cs' := [.int .i64 s_1001, .int .i64 s_1002, .slice a1008 l1008 c1008, .slice a1010 l1010 c1010]) ⟨rfl, rfl, rfl⟩ fun g R =>
  (Hkr s_1001 s_1002 a1008 l1008 c1008 a1010 l1010 c1010 p1006 _ _ R.sub))))))))))))))
  (d_r (d_new R fun b1008 g m R =>
  (p_cell R rfl (p_cell R rfl (p_cell R rfl (p_cell R rfl (d_append R fun a1009 l1009 c1009 g m R =>
  (p_cell R rfl (p_cell R rfl (p_cell R rfl (d_append R fun a1010 l1010 c1010 g m R =>
  (p_cell R rfl (p_cell R rfl (p_stRow R (cs' := [.int .i64 s_1001, .int .i64 s_1002, .slice a1009 l1009 c1009, .slice a1010 l1010 c1010]) ⟨rfl, rfl, rfl⟩ fun g R =>
  (Hkr s_1001 s_1002 a1009 l1009 c1009 a1010 l1010 c1010 p1006 _ _ R.sub))))))))))))))))))))))
  (d_r (d_new R fun b1007 g m R =>
  (p_cell R rfl (p_cell R rfl (p_cell R rfl (p_cell R rfl (d_new R fun b1008 g m R =>
  (p_cell R rfl (p_cell R rfl (p_cell R rfl (p_cell R rfl (d_append R fun a1009 l1009 c1009 g m R =>
  (p_cell R rfl (p_cell R rfl (p_cell R rfl (d_append R fun a1010 l1010 c1010 g m R =>
  (p_cell R rfl (p_cell R rfl (p_stRow R (cs' := [.int .i64 s_1001, .int .i64 s_1002, .slice a1009 l1009 c1009, .slice a1010 l1010 c1010]) ⟨rfl, rfl, rfl⟩ fun g R =>
  (Hkr s_1001 s_1002 a1009 l1009 c1009 a1010 l1010 c1010 p1006 _ _ R.sub)))))))))))))))))))))))))))

theorem spec_l11Copy_M_call {s_1 : Int} {s_2 : Int} {s_3 : Option Addr} {s_l3 : Nat} {s_c3 : Nat} {s_4 : Option Addr} {s_l4 : Nat} {s_c4 : Nat} {h : H} {K : Value → H → Prop} (hs : spec_l11Copy_M (fun n300001 n300002 a300003 l300003 c300003 a300004 l300004 c300004 h =>
  K (.agg ⟨[.int .i64 n300001, .int .i64 n300002, .slice a300003 l300003 c300003, .slice a300004 l300004 c300004]⟩) h) s_1 s_2 s_3 s_l3 s_c3 s_4 s_l4 s_c4 h) : callD Try.prog 17 ⟨[.agg ⟨[.int .i64 s_1, .int .i64 s_2, .slice s_3 s_l3 s_c3, .slice s_4 s_l4 s_c4]⟩]⟩ h K :=
  fun g r => spec_l11Copy_call (spec_l11Copy_M_D (by exact fun n300001 n300002 a300003 l300003 c300003 a300004 l300004 c300004 p300005 g m R =>
(p_row_I2L2 R rfl rfl rfl rfl (fun h => ⟨m, R.af, h⟩))) _ _ _ _ _ _ _ _ _ _ (Md.start r) hs)

noncomputable def code18 : Code := codeOf Try.f18
theorem body18 : Try.f18.body = some code18 := by kernel_rfl
def laws_toThreadS_l0 (kx0 : Option Addr → Nat → Nat → H → Prop) : Nat → Option Addr → Nat → Nat → Option Addr → Nat → Nat → Int → H → Prop
 | 0, _, _, _, _, _, _, _, _ => False
 | N + 1, a_3, a_l3, a_c3, out_4, out_l4, out_c4, i_5, h =>
  ifB (decide ((i_5 : Int) < (a_l3 : Nat)))
  (req (0 ≤ (i_5 : Int) ∧ (i_5 : Int) < (a_l3 : Nat))
  (nz a_3 fun b6 o7 =>
  ldRow h b6 (o7 + i_5.toNat * 8) 0 [.int .i64, .int .i64, .int .i64, .int .i64, .int .i64, .int .i64, .int .i64, .int .i64] fun n8 n9 n10 n11 n12 n13 n14 n15 =>
  callK Try.prog 37 ⟨[.agg ⟨[.int .i64 n8, .int .i64 n9, .int .i64 n10, .int .i64 n11, .int .i64 n12, .int .i64 n13, .int .i64 n14, .int .i64 n15]⟩]⟩ h fun v16 h =>
  elF False (.agg [.int .i64, .int .i64, .int .i64, .int .i64, .int .i64, .int .i64, .int .i64, .int .i64]) v16 fun n17 n18 n19 n20 n21 n22 n23 n24 =>
  req (0 ≤ (i_5 : Int) ∧ (i_5 : Int) < (out_l4 : Nat))
  (nz out_4 fun b25 o26 =>
  stRow h b25 (o26 + i_5.toNat * 8) 0 [.int .i64 n17, .int .i64 n18, .int .i64 n19, .int .i64 n20, .int .i64 n21, .int .i64 n22, .int .i64 n23, .int .i64 n24] fun h =>
  laws_toThreadS_l0 kx0 N a_3 a_l3 a_c3 out_4 out_l4 out_c4 (IntKind.i64.wrap (i_5 + 1)) h)))
  (kx0 out_4 out_l4 out_c4 h)

def laws_toThreadS (kr : Option Addr → Nat → Nat → H → Prop) (a_1 : Option Addr) (a_l1 : Nat) (a_c1 : Nat) (h : H) : Prop :=
  req (0 ≤ ((a_l1 : Nat) : Int) ∧ ((a_l1 : Nat) : Int) ≤ ((a_l1 : Nat) : Int) ∧ ((a_l1 : Nat) : Int) * (64 : Nat) ≤ 140737488355328 ∧ ((a_l1 : Nat) : Int) ≤ 4611686018427387904)
  (new h (zerosL (.agg ⟨[.int .i64 0, .int .i64 0, .int .i64 0, .int .i64 0, .int .i64 0, .int .i64 0, .int .i64 0, .int .i64 0]⟩ : Value) ((a_l1 : Nat) : Int).toNat) 60 fun b2 h =>
  ∃ M4, laws_toThreadS_l0 (fun out_3 out_l3 out_c3 h =>
  kr out_3 out_l3 out_c3 h) M4 a_1 a_l1 a_c1 (some ⟨b2, 0, none⟩) (((a_l1 : Nat) : Int).toNat) (((a_l1 : Nat) : Int).toNat) 0 h)

theorem laws_toThreadS_l0_eq (K : Cont) (N : Nat) (a_3 : Option Addr) (a_l3 : Nat) (a_c3 : Nat) (out_4 : Option Addr) (out_l4 : Nat) (out_c4 : Nat) (i_5 : Int) (h : H) :
  laws_toThreadS_l0 (curV [(3, .slice)] (K (.exit 0))) (N + 1) a_3 a_l3 a_c3 out_4 out_l4 out_c4 i_5 h = evC Try.prog 23 [] [] (sub code18 [true, true, false, true, false, false]) [(0, .slice a_3 a_l3 a_c3), (3, .slice out_4 out_l4 out_c4), (4, .int .i64 i_5)] h ((outsOf none [(0, [(3, .slice)])] none K).loop [(0, .slice), (3, .slice), (4, .int .i64)] (laws_toThreadS_l0 (curV [(3, .slice)] (K (.exit 0))) N)).K := by kernel_rfl

def laws_toThreadS_l0_F : PT := mkL [(0, .slice), (3, .slice), (4, .int .i64)] fun K N => laws_toThreadS_l0 (curV [(3, .slice)] (K (.exit 0))) N

theorem laws_toThreadS_l0_V : Valid Try.prog 23 (sub code18 [true, true, false, true, false]) laws_toThreadS_l0_F :=
  loop_at (code18) [true, true, false, true, false] (loop_piece (c := (sub code18 [true, true, false, true, false, false])) mixed rows_nil (fun K => by intro a_3 a_l3 a_c3 out_4 out_l4 out_c4 i_5 h hd; exact hd) (fun K N => by intro a_3 a_l3 a_c3 out_4 out_l4 out_c4 i_5 h hd; exact (laws_toThreadS_l0_eq K N a_3 a_l3 a_c3 out_4 out_l4 out_c4 i_5 h) ▸ hd))

theorem laws_toThreadS_eq (K : Cont) (a_1 : Option Addr) (a_l1 : Nat) (a_c1 : Nat) (h : H) :
  laws_toThreadS (curV [(2, .slice)] (K .ret)) a_1 a_l1 a_c1 h = evC Try.prog 23 [([false, false, true, false, true, true], laws_toThreadS_l0_F)] [] code18 [(0, .slice a_1 a_l1 a_c1)] h (outsOf none [] (some [(2, .slice)]) K).K := by kernel_rfl

def laws_toThreadS_F : PT := mkF [(0, .slice)] fun K => laws_toThreadS (curV [(2, .slice)] (K .ret))

theorem laws_toThreadS_V : Valid Try.prog 23 code18 laws_toThreadS_F :=
  piece mixed (rows_cons (q' := [true, true, false, true, false]) laws_toThreadS_l0_V rfl rows_nil) (fun K => by intro a_1 a_l1 a_c1 h hd; exact (laws_toThreadS_eq K a_1 a_l1 a_c1 h) ▸ hd)

theorem laws_toThreadS_c0 (a_1 : Option Addr) (a_l1 : Nat) (a_c1 : Nat) (h : H) (K : Value → H → Prop) :
  laws_toThreadS (fun a100001 l100001 c100001 h =>
  K (.slice a100001 l100001 c100001) h) a_1 a_l1 a_c1 h = callF Try.prog Try.f18.results.toList laws_toThreadS_F [.slice a_1 a_l1 a_c1] h K := by kernel_rfl

theorem laws_toThreadS_call {a_1 : Option Addr} {a_l1 : Nat} {a_c1 : Nat} {h : H} {K : Value → H → Prop} (hs : laws_toThreadS (fun a100001 l100001 c100001 h =>
  K (.slice a100001 l100001 c100001) h) a_1 a_l1 a_c1 h) : callK Try.prog 18 ⟨[.slice a_1 a_l1 a_c1]⟩ h K :=
  func_calls Try.func18 body18 laws_toThreadS_V (Nat.le_of_ble_eq_true (by kernel_rfl)) (laws_toThreadS_c0 a_1 a_l1 a_c1 h K ▸ hs)

theorem o_el_AI8E {n0 : Int} {n1 : Int} {n2 : Int} {n3 : Int} {n4 : Int} {n5 : Int} {n6 : Int} {n7 : Int} {K : Int → Int → Int → Int → Int → Int → Int → Int → Prop} (g : K n0 n1 n2 n3 n4 n5 n6 n7) : elF False (.agg [.int .i64, .int .i64, .int .i64, .int .i64, .int .i64, .int .i64, .int .i64, .int .i64]) (.agg ⟨[.int .i64 n0, .int .i64 n1, .int .i64 n2, .int .i64 n3, .int .i64 n4, .int .i64 n5, .int .i64 n6, .int .i64 n7]⟩) K := Eq.mpr (by kernel_rfl) g
theorem d_el_AI8E {v : Value} {K2 K1 : Int → Int → Int → Int → Int → Int → Int → Int → Prop} (f : ∀ n0 n1 n2 n3 n4 n5 n6 n7, K2 n0 n1 n2 n3 n4 n5 n6 n7 → K1 n0 n1 n2 n3 n4 n5 n6 n7) : elF False (.agg [.int .i64, .int .i64, .int .i64, .int .i64, .int .i64, .int .i64, .int .i64, .int .i64]) v K2 → elF False (.agg [.int .i64, .int .i64, .int .i64, .int .i64, .int .i64, .int .i64, .int .i64, .int .i64]) v K1 :=
  d_el (s := .agg [.int .i64, .int .i64, .int .i64, .int .i64, .int .i64, .int .i64, .int .i64, .int .i64]) (Eq.mpr (by kernel_rfl) f)
def laws_toThreadS_M_l0 (kx0 : Option Addr → Nat → Nat → H → Prop) : Nat → Option Addr → Nat → Option Addr → Nat → Nat → Int → H → Prop
 | 0, _, _, _, _, _, _, _ => False
 | N + 1, a_3, a_l3, out_4, out_l4, out_c4, i_5, h =>
  ifB (decide ((i_5 : Int) < (a_l3 : Nat)))
  (req (0 ≤ (i_5 : Int) ∧ (i_5 : Int) < (a_l3 : Nat))
  (nz a_3 fun b6 o7 =>
  ldRow h b6 (o7 + i_5.toNat * 8) 0 [.int .i64, .int .i64, .int .i64, .int .i64, .int .i64, .int .i64, .int .i64, .int .i64] fun n8 n9 n10 n11 n12 n13 n14 n15 =>
  callD Try.prog 37 ⟨[.agg ⟨[.int .i64 n8, .int .i64 n9, .int .i64 n10, .int .i64 n11, .int .i64 n12, .int .i64 n13, .int .i64 n14, .int .i64 n15]⟩]⟩ h fun v16 h =>
  elF False (.agg [.int .i64, .int .i64, .int .i64, .int .i64, .int .i64, .int .i64, .int .i64, .int .i64]) v16 fun n17 n18 n19 n20 n21 n22 n23 n24 =>
  req (0 ≤ (i_5 : Int) ∧ (i_5 : Int) < (out_l4 : Nat))
  (nz out_4 fun b25 o26 =>
  stRow h b25 (o26 + i_5.toNat * 8) 0 [.int .i64 n17, .int .i64 n18, .int .i64 n19, .int .i64 n20, .int .i64 n21, .int .i64 n22, .int .i64 n23, .int .i64 n24] fun h =>
  laws_toThreadS_M_l0 kx0 N a_3 a_l3 out_4 out_l4 out_c4 (IntKind.i64.wrap (i_5 + 1)) h)))
  (kx0 out_4 out_l4 out_c4 h)

def laws_toThreadS_M (kr : Option Addr → Nat → Nat → H → Prop) (a_1 : Option Addr) (a_l1 : Nat) (a_c1 : Nat) (h : H) : Prop :=
  req (0 ≤ ((a_l1 : Nat) : Int) ∧ ((a_l1 : Nat) : Int) ≤ ((a_l1 : Nat) : Int) ∧ ((a_l1 : Nat) : Int) * (64 : Nat) ≤ 140737488355328 ∧ ((a_l1 : Nat) : Int) ≤ 4611686018427387904)
  (newD h (zerosL (.agg ⟨[.int .i64 0, .int .i64 0, .int .i64 0, .int .i64 0, .int .i64 0, .int .i64 0, .int .i64 0, .int .i64 0]⟩ : Value) ((a_l1 : Nat) : Int).toNat) 60 fun b2 h =>
  ∃ M4, laws_toThreadS_M_l0 (fun out_3 out_l3 out_c3 h =>
  kr out_3 out_l3 out_c3 h) M4 a_1 a_l1 (some ⟨b2, 0, none⟩) (((a_l1 : Nat) : Int).toNat) (((a_l1 : Nat) : Int).toNat) 0 h)

theorem laws_toThreadS_M_l0_D {g0 m0 : H} {kx0_1 : Option Addr → Nat → Nat → H → Prop} {kx0_2 : Option Addr → Nat → Nat → H → Prop} (Hkx0 : ∀ (out_200001 : Option Addr) (out_l200001 : Nat) (out_c200001 : Nat) (g m : H), Md g0 m0 g m [] → kx0_2 out_200001 out_l200001 out_c200001 m → kx0_1 out_200001 out_l200001 out_c200001 g) : ∀ (N : Nat) (a_1003 : Option Addr) (a_l1003 : Nat) (a_c1003 : Nat) (out_1004 : Option Addr) (out_l1004 : Nat) (out_c1004 : Nat) (i_1005 : Int) (g m : H), Md g0 m0 g m [] → laws_toThreadS_M_l0 kx0_2 N a_1003 a_l1003 out_1004 out_l1004 out_c1004 i_1005 m → laws_toThreadS_l0 kx0_1 N a_1003 a_l1003 a_c1003 out_1004 out_l1004 out_c1004 i_1005 g := by
  intro N
  induction N with
  | zero => intro a_1003 a_l1003 a_c1003 out_1004 out_l1004 out_c1004 i_1005 g m R h0; exact h0.elim
  | succ N ih =>
    intro a_1003 a_l1003 a_c1003 out_1004 out_l1004 out_c1004 i_1005 g m R
    rw [laws_toThreadS_M_l0, laws_toThreadS_l0]
    exact (d_if (d_req (d_nz fun b1006 o1007 =>
  (d_row_I8 R fun n1008 n1009 n1010 n1011 n1012 n1013 n1014 n1015 =>
  (d_call R fun v1016 g m R =>
  (d_el_AI8E fun n1017 n1018 n1019 n1020 n1021 n1022 n1023 n1024 =>
  (d_req (d_nz fun b1025 o1026 =>
  (d_stRow R fun g m R =>
  (ih a_1003 a_l1003 a_c1003 out_1004 out_l1004 out_c1004 (IntKind.i64.wrap (i_1005 + 1)) _ _ R.sub)))))))))
  (Hkx0 out_1004 out_l1004 out_c1004 _ _ R.sub))

theorem laws_toThreadS_M_D {g0 m0 : H} {kr_1 : Option Addr → Nat → Nat → H → Prop} {kr_2 : Option Addr → Nat → Nat → H → Prop} (Hkr : ∀ (a200001 : Option Addr) (l200001 : Nat) (c200001 : Nat) (g m : H), Md g0 m0 g m [] → kr_2 a200001 l200001 c200001 m → kr_1 a200001 l200001 c200001 g) : ∀ (a_1001 : Option Addr) (a_l1001 : Nat) (a_c1001 : Nat) (g m : H), Md g0 m0 g m [] → laws_toThreadS_M kr_2 a_1001 a_l1001 a_c1001 m → laws_toThreadS kr_1 a_1001 a_l1001 a_c1001 g := by
  intro a_1001 a_l1001 a_c1001 g m R
  rw [laws_toThreadS_M, laws_toThreadS]
  exact (d_req (d_new R fun b1002 g m R =>
  (d_ex fun N => laws_toThreadS_M_l0_D (by exact fun out_1003 out_l1003 out_c1003 g m R =>
  (Hkr out_1003 out_l1003 out_c1003 _ _ R.sub)) N a_1001 a_l1001 a_c1001 (some ⟨b1002, 0, none⟩) (((a_l1001 : Nat) : Int).toNat) (((a_l1001 : Nat) : Int).toNat) 0 _ _ R.sub)))

theorem laws_toThreadS_M_call {a_1 : Option Addr} {a_l1 : Nat} {a_c1 : Nat} {h : H} {K : Value → H → Prop} (hs : laws_toThreadS_M (fun a300001 l300001 c300001 h =>
  K (.slice a300001 l300001 c300001) h) a_1 a_l1 a_c1 h) : callD Try.prog 18 ⟨[.slice a_1 a_l1 a_c1]⟩ h K :=
  fun g r => laws_toThreadS_call (laws_toThreadS_M_D (by exact fun a300001 l300001 c300001 g m R =>
(fun h => ⟨m, R.af, h⟩)) _ _ _ _ _ (Md.start r) hs)

noncomputable def code19 : Code := codeOf Try.f19
theorem body19 : Try.f19.body = some code19 := by kernel_rfl
def laws_toLockS_l0 (kx0 : Option Addr → Nat → Nat → H → Prop) : Nat → Option Addr → Nat → Nat → Option Addr → Nat → Nat → Int → H → Prop
 | 0, _, _, _, _, _, _, _, _ => False
 | N + 1, a_3, a_l3, a_c3, out_4, out_l4, out_c4, i_5, h =>
  ifB (decide ((i_5 : Int) < (a_l3 : Nat)))
  (req (0 ≤ (i_5 : Int) ∧ (i_5 : Int) < (a_l3 : Nat))
  (nz a_3 fun b6 o7 =>
  ldRow h b6 (o7 + i_5.toNat * 2) 0 [.int .i64, .int .i64] fun n8 n9 =>
  callK Try.prog 38 ⟨[.agg ⟨[.int .i64 n8, .int .i64 n9]⟩]⟩ h fun v10 h =>
  elF False (.agg [.int .i64, .int .i64]) v10 fun n11 n12 =>
  req (0 ≤ (i_5 : Int) ∧ (i_5 : Int) < (out_l4 : Nat))
  (nz out_4 fun b13 o14 =>
  stRow h b13 (o14 + i_5.toNat * 2) 0 [.int .i64 n11, .int .i64 n12] fun h =>
  laws_toLockS_l0 kx0 N a_3 a_l3 a_c3 out_4 out_l4 out_c4 (IntKind.i64.wrap (i_5 + 1)) h)))
  (kx0 out_4 out_l4 out_c4 h)

def laws_toLockS (kr : Option Addr → Nat → Nat → H → Prop) (a_1 : Option Addr) (a_l1 : Nat) (a_c1 : Nat) (h : H) : Prop :=
  req (0 ≤ ((a_l1 : Nat) : Int) ∧ ((a_l1 : Nat) : Int) ≤ ((a_l1 : Nat) : Int) ∧ ((a_l1 : Nat) : Int) * (16 : Nat) ≤ 140737488355328 ∧ ((a_l1 : Nat) : Int) ≤ 4611686018427387904)
  (new h (zerosL (.agg ⟨[.int .i64 0, .int .i64 0]⟩ : Value) ((a_l1 : Nat) : Int).toNat) 57 fun b2 h =>
  ∃ M4, laws_toLockS_l0 (fun out_3 out_l3 out_c3 h =>
  kr out_3 out_l3 out_c3 h) M4 a_1 a_l1 a_c1 (some ⟨b2, 0, none⟩) (((a_l1 : Nat) : Int).toNat) (((a_l1 : Nat) : Int).toNat) 0 h)

theorem laws_toLockS_l0_eq (K : Cont) (N : Nat) (a_3 : Option Addr) (a_l3 : Nat) (a_c3 : Nat) (out_4 : Option Addr) (out_l4 : Nat) (out_c4 : Nat) (i_5 : Int) (h : H) :
  laws_toLockS_l0 (curV [(3, .slice)] (K (.exit 0))) (N + 1) a_3 a_l3 a_c3 out_4 out_l4 out_c4 i_5 h = evC Try.prog 23 [] [] (sub code19 [true, true, false, true, false, false]) [(0, .slice a_3 a_l3 a_c3), (3, .slice out_4 out_l4 out_c4), (4, .int .i64 i_5)] h ((outsOf none [(0, [(3, .slice)])] none K).loop [(0, .slice), (3, .slice), (4, .int .i64)] (laws_toLockS_l0 (curV [(3, .slice)] (K (.exit 0))) N)).K := by kernel_rfl

def laws_toLockS_l0_F : PT := mkL [(0, .slice), (3, .slice), (4, .int .i64)] fun K N => laws_toLockS_l0 (curV [(3, .slice)] (K (.exit 0))) N

theorem laws_toLockS_l0_V : Valid Try.prog 23 (sub code19 [true, true, false, true, false]) laws_toLockS_l0_F :=
  loop_at (code19) [true, true, false, true, false] (loop_piece (c := (sub code19 [true, true, false, true, false, false])) mixed rows_nil (fun K => by intro a_3 a_l3 a_c3 out_4 out_l4 out_c4 i_5 h hd; exact hd) (fun K N => by intro a_3 a_l3 a_c3 out_4 out_l4 out_c4 i_5 h hd; exact (laws_toLockS_l0_eq K N a_3 a_l3 a_c3 out_4 out_l4 out_c4 i_5 h) ▸ hd))

theorem laws_toLockS_eq (K : Cont) (a_1 : Option Addr) (a_l1 : Nat) (a_c1 : Nat) (h : H) :
  laws_toLockS (curV [(2, .slice)] (K .ret)) a_1 a_l1 a_c1 h = evC Try.prog 23 [([false, false, true, false, true, true], laws_toLockS_l0_F)] [] code19 [(0, .slice a_1 a_l1 a_c1)] h (outsOf none [] (some [(2, .slice)]) K).K := by kernel_rfl

def laws_toLockS_F : PT := mkF [(0, .slice)] fun K => laws_toLockS (curV [(2, .slice)] (K .ret))

theorem laws_toLockS_V : Valid Try.prog 23 code19 laws_toLockS_F :=
  piece mixed (rows_cons (q' := [true, true, false, true, false]) laws_toLockS_l0_V rfl rows_nil) (fun K => by intro a_1 a_l1 a_c1 h hd; exact (laws_toLockS_eq K a_1 a_l1 a_c1 h) ▸ hd)

theorem laws_toLockS_c0 (a_1 : Option Addr) (a_l1 : Nat) (a_c1 : Nat) (h : H) (K : Value → H → Prop) :
  laws_toLockS (fun a100001 l100001 c100001 h =>
  K (.slice a100001 l100001 c100001) h) a_1 a_l1 a_c1 h = callF Try.prog Try.f19.results.toList laws_toLockS_F [.slice a_1 a_l1 a_c1] h K := by kernel_rfl

theorem laws_toLockS_call {a_1 : Option Addr} {a_l1 : Nat} {a_c1 : Nat} {h : H} {K : Value → H → Prop} (hs : laws_toLockS (fun a100001 l100001 c100001 h =>
  K (.slice a100001 l100001 c100001) h) a_1 a_l1 a_c1 h) : callK Try.prog 19 ⟨[.slice a_1 a_l1 a_c1]⟩ h K :=
  func_calls Try.func19 body19 laws_toLockS_V (Nat.le_of_ble_eq_true (by kernel_rfl)) (laws_toLockS_c0 a_1 a_l1 a_c1 h K ▸ hs)

def laws_toLockS_M_l0 (kx0 : Option Addr → Nat → Nat → H → Prop) : Nat → Option Addr → Nat → Option Addr → Nat → Nat → Int → H → Prop
 | 0, _, _, _, _, _, _, _ => False
 | N + 1, a_3, a_l3, out_4, out_l4, out_c4, i_5, h =>
  ifB (decide ((i_5 : Int) < (a_l3 : Nat)))
  (req (0 ≤ (i_5 : Int) ∧ (i_5 : Int) < (a_l3 : Nat))
  (nz a_3 fun b6 o7 =>
  ldRow h b6 (o7 + i_5.toNat * 2) 0 [.int .i64, .int .i64] fun n8 n9 =>
  callD Try.prog 38 ⟨[.agg ⟨[.int .i64 n8, .int .i64 n9]⟩]⟩ h fun v10 h =>
  elF False (.agg [.int .i64, .int .i64]) v10 fun n11 n12 =>
  req (0 ≤ (i_5 : Int) ∧ (i_5 : Int) < (out_l4 : Nat))
  (nz out_4 fun b13 o14 =>
  stRow h b13 (o14 + i_5.toNat * 2) 0 [.int .i64 n11, .int .i64 n12] fun h =>
  laws_toLockS_M_l0 kx0 N a_3 a_l3 out_4 out_l4 out_c4 (IntKind.i64.wrap (i_5 + 1)) h)))
  (kx0 out_4 out_l4 out_c4 h)

def laws_toLockS_M (kr : Option Addr → Nat → Nat → H → Prop) (a_1 : Option Addr) (a_l1 : Nat) (a_c1 : Nat) (h : H) : Prop :=
  req (0 ≤ ((a_l1 : Nat) : Int) ∧ ((a_l1 : Nat) : Int) ≤ ((a_l1 : Nat) : Int) ∧ ((a_l1 : Nat) : Int) * (16 : Nat) ≤ 140737488355328 ∧ ((a_l1 : Nat) : Int) ≤ 4611686018427387904)
  (newD h (zerosL (.agg ⟨[.int .i64 0, .int .i64 0]⟩ : Value) ((a_l1 : Nat) : Int).toNat) 57 fun b2 h =>
  ∃ M4, laws_toLockS_M_l0 (fun out_3 out_l3 out_c3 h =>
  kr out_3 out_l3 out_c3 h) M4 a_1 a_l1 (some ⟨b2, 0, none⟩) (((a_l1 : Nat) : Int).toNat) (((a_l1 : Nat) : Int).toNat) 0 h)

theorem laws_toLockS_M_l0_D {g0 m0 : H} {kx0_1 : Option Addr → Nat → Nat → H → Prop} {kx0_2 : Option Addr → Nat → Nat → H → Prop} (Hkx0 : ∀ (out_200001 : Option Addr) (out_l200001 : Nat) (out_c200001 : Nat) (g m : H), Md g0 m0 g m [] → kx0_2 out_200001 out_l200001 out_c200001 m → kx0_1 out_200001 out_l200001 out_c200001 g) : ∀ (N : Nat) (a_1003 : Option Addr) (a_l1003 : Nat) (a_c1003 : Nat) (out_1004 : Option Addr) (out_l1004 : Nat) (out_c1004 : Nat) (i_1005 : Int) (g m : H), Md g0 m0 g m [] → laws_toLockS_M_l0 kx0_2 N a_1003 a_l1003 out_1004 out_l1004 out_c1004 i_1005 m → laws_toLockS_l0 kx0_1 N a_1003 a_l1003 a_c1003 out_1004 out_l1004 out_c1004 i_1005 g := by
  intro N
  induction N with
  | zero => intro a_1003 a_l1003 a_c1003 out_1004 out_l1004 out_c1004 i_1005 g m R h0; exact h0.elim
  | succ N ih =>
    intro a_1003 a_l1003 a_c1003 out_1004 out_l1004 out_c1004 i_1005 g m R
    rw [laws_toLockS_M_l0, laws_toLockS_l0]
    exact (d_if (d_req (d_nz fun b1006 o1007 =>
  (d_row_I2 R fun n1008 n1009 =>
  (d_call R fun v1010 g m R =>
  (d_el_AI2E fun n1011 n1012 =>
  (d_req (d_nz fun b1013 o1014 =>
  (d_stRow R fun g m R =>
  (ih a_1003 a_l1003 a_c1003 out_1004 out_l1004 out_c1004 (IntKind.i64.wrap (i_1005 + 1)) _ _ R.sub)))))))))
  (Hkx0 out_1004 out_l1004 out_c1004 _ _ R.sub))

theorem laws_toLockS_M_D {g0 m0 : H} {kr_1 : Option Addr → Nat → Nat → H → Prop} {kr_2 : Option Addr → Nat → Nat → H → Prop} (Hkr : ∀ (a200001 : Option Addr) (l200001 : Nat) (c200001 : Nat) (g m : H), Md g0 m0 g m [] → kr_2 a200001 l200001 c200001 m → kr_1 a200001 l200001 c200001 g) : ∀ (a_1001 : Option Addr) (a_l1001 : Nat) (a_c1001 : Nat) (g m : H), Md g0 m0 g m [] → laws_toLockS_M kr_2 a_1001 a_l1001 a_c1001 m → laws_toLockS kr_1 a_1001 a_l1001 a_c1001 g := by
  intro a_1001 a_l1001 a_c1001 g m R
  rw [laws_toLockS_M, laws_toLockS]
  exact (d_req (d_new R fun b1002 g m R =>
  (d_ex fun N => laws_toLockS_M_l0_D (by exact fun out_1003 out_l1003 out_c1003 g m R =>
  (Hkr out_1003 out_l1003 out_c1003 _ _ R.sub)) N a_1001 a_l1001 a_c1001 (some ⟨b1002, 0, none⟩) (((a_l1001 : Nat) : Int).toNat) (((a_l1001 : Nat) : Int).toNat) 0 _ _ R.sub)))

theorem laws_toLockS_M_call {a_1 : Option Addr} {a_l1 : Nat} {a_c1 : Nat} {h : H} {K : Value → H → Prop} (hs : laws_toLockS_M (fun a300001 l300001 c300001 h =>
  K (.slice a300001 l300001 c300001) h) a_1 a_l1 a_c1 h) : callD Try.prog 19 ⟨[.slice a_1 a_l1 a_c1]⟩ h K :=
  fun g r => laws_toLockS_call (laws_toLockS_M_D (by exact fun a300001 l300001 c300001 g m R =>
(fun h => ⟨m, R.af, h⟩)) _ _ _ _ _ (Md.start r) hs)

end Go.Proofs.Yteeinamngmmlbaa
