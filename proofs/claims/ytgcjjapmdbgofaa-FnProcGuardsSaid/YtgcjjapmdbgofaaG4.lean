import Derived.Test.YtgcjjapmdbgofaaProg
import Derived.Test.YtgcjjapmdbgofaaG3
set_option linter.unusedVariables false
set_option maxRecDepth 100000
namespace Go.Proofs.Ytgcjjapmdbgofaa
open Go.Eng

noncomputable def code54 : Code := codeOf Try.f54
theorem body54 : Try.f54.body = some code54 := by kernel_rfl
def spec_l16Take_l0 (kx0 : Int → Nat → Nat → Nat → Nat → Int → H → Prop) : Nat → Int → Nat → Nat → Nat → Nat → Int → Int → H → Prop
 | 0, _, _, _, _, _, _, _, _ => False
 | N + 1, n20, b21, b22, b23, b24, n25, n26, h =>
  ifB (decide ((n26 : Int) ≥ 1))
  (ldI .i64 h b24 6 fun n27 =>
  callK Try.prog 40 ⟨[.int .i64 n27, .int .i64 n26]⟩ h fun v28 h =>
  asB v28 fun t29 =>
  ifB t29
  (ldI .i64 h b24 7 fun n30 =>
  callK Try.prog 40 ⟨[.int .i64 n30, .int .i64 n26]⟩ h fun v31 h =>
  asB v31 fun t32 =>
  ifB (!t32)
  (spec_l16Take_l0 kx0 N n20 b21 b22 b23 b24 n26 (IntKind.i64.wrap (n26 - 1)) h)
  (spec_l16Take_l0 kx0 N n20 b21 b22 b23 b24 n25 (IntKind.i64.wrap (n26 - 1)) h))
  (spec_l16Take_l0 kx0 N n20 b21 b22 b23 b24 n25 (IntKind.i64.wrap (n26 - 1)) h))
  (kx0 n20 b21 b22 b23 b24 n25 h)

def spec_l16Take_j1 (kr : Nat → Nat → H → Prop) (n39 : Int) (b40 : Nat) (b41 : Nat) (b42 : Nat) (b43 : Nat) (n44 : Int) (h : H) : Prop :=
  ifB ((n44 : Int) == 0)
  (ldRow h b40 0 0 [.slice] fun a45 l45 c45 =>
  stRow h b41 0 0 [.slice a45 l45 c45] fun h =>
  stRow h b42 0 0 [.int .i64 9, .int .i64 0, .int .i64 0] fun h =>
  kr b41 b42 h)
  (ldL h b40 0 fun a46 l46 c46 =>
  ldI .i64 h b43 6 fun n47 =>
  callK Try.prog 52 ⟨[.int .i64 n47, .int .i64 n44]⟩ h fun v48 h =>
  asI .i64 v48 fun n49 =>
  cell h b40 0 = some (.slice a46 l46 c46) ∧ (req (0 ≤ (n39 : Int) ∧ (n39 : Int) < (l46 : Nat))
  (nz a46 fun b50 o51 =>
  st h b50 ((o51 + n39.toNat * 10) + 6) (.int .i64 n49) fun h =>
  ldI .i64 h b43 9 fun n52 =>
  callK Try.prog 40 ⟨[.int .i64 n52, .int .i64 n44]⟩ h fun v53 h =>
  asB v53 fun t54 =>
  ifB t54
  (ldL h b40 0 fun a55 l55 c55 =>
  ldI .i64 h b43 7 fun n56 =>
  callK Try.prog 63 ⟨[.int .i64 n56, .int .i64 n44]⟩ h fun v57 h =>
  asI .i64 v57 fun n58 =>
  cell h b40 0 = some (.slice a55 l55 c55) ∧ (req (0 ≤ (n39 : Int) ∧ (n39 : Int) < (l55 : Nat))
  (nz a55 fun b59 o60 =>
  st h b59 ((o60 + n39.toNat * 10) + 7) (.int .i64 n58) fun h =>
  ldRow h b40 0 0 [.slice] fun a61 l61 c61 =>
  stRow h b41 0 0 [.slice a61 l61 c61] fun h =>
  stRow h b42 0 0 [.int .i64 0, .int .i64 n44, .int .i64 2] fun h =>
  kr b41 b42 h)))
  (new h [.int .i64 0, .int .i64 0, .int .i64 0] 34 fun b62 h =>
  stRow h b62 0 0 [.int .i64 0, .int .i64 n44, .int .i64 1] fun h =>
  ifB ((n44 : Int) == 12)
  (ldL h b40 0 fun a63 l63 c63 =>
  req (0 ≤ (n39 : Int) ∧ (n39 : Int) < (l63 : Nat))
  (nz a63 fun b64 o65 =>
  st h b64 ((o65 + n39.toNat * 10) + 4) (.int .i64 2) fun h =>
  ldRow h b40 0 0 [.slice] fun a66 l66 c66 =>
  ldRow h b62 0 0 [.int .i64, .int .i64, .int .i64] fun n67 n68 n69 =>
  stRow h b41 0 0 [.slice a66 l66 c66] fun h =>
  heldRow h b62 0 0 [.int .i64 n67, .int .i64 n68, .int .i64 n69] (stRow h b42 0 0 [.int .i64 n67, .int .i64 n68, .int .i64 n69] fun h =>
  kr b41 b42 h)))
  (ifB ((n44 : Int) == 14)
  (ldRow h b40 0 0 [.slice] fun a70 l70 c70 =>
  ldRow h b62 0 0 [.int .i64, .int .i64, .int .i64] fun n71 n72 n73 =>
  stRow h b41 0 0 [.slice a70 l70 c70] fun h =>
  heldRow h b62 0 0 [.int .i64 n71, .int .i64 n72, .int .i64 n73] (stRow h b42 0 0 [.int .i64 n71, .int .i64 n72, .int .i64 n73] fun h =>
  kr b41 b42 h))
  (ifB ((n44 : Int) == 13)
  (ldRow h b40 0 0 [.slice] fun a74 l74 c74 =>
  ldRow h b62 0 0 [.int .i64, .int .i64, .int .i64] fun n75 n76 n77 =>
  stRow h b41 0 0 [.slice a74 l74 c74] fun h =>
  heldRow h b62 0 0 [.int .i64 n75, .int .i64 n76, .int .i64 n77] (stRow h b42 0 0 [.int .i64 n75, .int .i64 n76, .int .i64 n77] fun h =>
  kr b41 b42 h))
  (ldI .i64 h b43 0 fun n78 =>
  ifB ((n78 : Int) == 1)
  (ldRow h b40 0 0 [.slice] fun a79 l79 c79 =>
  ldRow h b62 0 0 [.int .i64, .int .i64, .int .i64] fun n80 n81 n82 =>
  stRow h b41 0 0 [.slice a79 l79 c79] fun h =>
  heldRow h b62 0 0 [.int .i64 n80, .int .i64 n81, .int .i64 n82] (stRow h b42 0 0 [.int .i64 n80, .int .i64 n81, .int .i64 n82] fun h =>
  kr b41 b42 h))
  (ldRow h b40 0 0 [.slice] fun a83 l83 c83 =>
  ldI .i64 h b43 0 fun n84 =>
  ldRow h b62 0 0 [.int .i64, .int .i64, .int .i64] fun n85 n86 n87 =>
  callK Try.prog 49 ⟨[.agg ⟨[.slice a83 l83 c83]⟩, .int .i64 n84, .int .i64 (IntKind.i64.wrap (128 + n44))]⟩ h fun v88 h =>
  elF False (.agg [.slice]) v88 fun a89 l89 c89 =>
  heldRow h b62 0 0 [.int .i64 n85, .int .i64 n86, .int .i64 n87] (stRow h b41 0 0 [.slice a89 l89 c89] fun h =>
  heldRow h b62 0 0 [.int .i64 n85, .int .i64 n86, .int .i64 n87] (stRow h b42 0 0 [.int .i64 n85, .int .i64 n86, .int .i64 n87] fun h =>
  kr b41 b42 h))))))))))

def spec_l16Take (kr : Nat → Nat → H → Prop) (a1 : Option Addr) (l1 : Nat) (c1 : Nat) (n2 : Int) (h : H) : Prop :=
  new h [.slice a1 l1 c1] 27 fun b3 h =>
  new h [.slice none 0 0] 27 fun b4 h =>
  new h [.int .i64 0, .int .i64 0, .int .i64 0] 34 fun b5 h =>
  ldL h b3 0 fun a6 l6 c6 =>
  req (0 ≤ (n2 : Int) ∧ (n2 : Int) < (l6 : Nat))
  (nz a6 fun b7 o8 =>
  ldRow h b7 (o8 + n2.toNat * 10) 0 [.int .i64, .int .i64, .int .i64, .int .i64, .int .i64, .int .i64, .int .i64, .int .i64, .int .i64, .int .i64] fun n9 n10 n11 n12 n13 n14 n15 n16 n17 n18 =>
  new h [.int .i64 0, .int .i64 0, .int .i64 0, .int .i64 0, .int .i64 0, .int .i64 0, .int .i64 0, .int .i64 0, .int .i64 0, .int .i64 0] 38 fun b19 h =>
  stRow h b19 0 0 [.int .i64 n9, .int .i64 n10, .int .i64 n11, .int .i64 n12, .int .i64 n13, .int .i64 n14, .int .i64 n15, .int .i64 n16, .int .i64 n17, .int .i64 n18] fun h =>
  ∃ M30, spec_l16Take_l0 (fun n20 b21 b22 b23 b24 n25 h =>
  ldI .i64 h b24 6 fun n26 =>
  callK Try.prog 40 ⟨[.int .i64 n26, .int .i64 9]⟩ h fun v27 h =>
  asB v27 fun t28 =>
  ifB t28
  (spec_l16Take_j1 kr n20 b21 b22 b23 b24 9 h)
  (ldI .i64 h b24 4 fun n29 =>
  ifB ((n29 : Int) == 2)
  (spec_l16Take_j1 kr n20 b21 b22 b23 b24 0 h)
  (spec_l16Take_j1 kr n20 b21 b22 b23 b24 n25 h))) M30 n2 b3 b4 b5 b19 0 15 h)

theorem spec_l16Take_l0_eq (K : Cont) (N : Nat) (n20 : Int) (b21 : Nat) (b22 : Nat) (b23 : Nat) (b24 : Nat) (n25 : Int) (n26 : Int) (h : H) :
  spec_l16Take_l0 (curV [(1, .int .i64), (2, .blk), (4, .blk), (5, .blk), (6, .blk), (7, .int .i64)] (K (.exit 0))) (N + 1) n20 b21 b22 b23 b24 n25 n26 h = evC Try.prog 97 [] [] (sub code54 [true, true, true, false, true, false, false]) [(1, .int .i64 n20), (2, .pointer (some ⟨b21, 0, none⟩)), (4, .pointer (some ⟨b22, 0, none⟩)), (5, .pointer (some ⟨b23, 0, none⟩)), (6, .pointer (some ⟨b24, 0, none⟩)), (7, .int .i64 n25), (8, .int .i64 n26)] h ((outsOf none [(0, [(1, .int .i64), (2, .blk), (4, .blk), (5, .blk), (6, .blk), (7, .int .i64)])] none K).loop [(1, .int .i64), (2, .blk), (4, .blk), (5, .blk), (6, .blk), (7, .int .i64), (8, .int .i64)] (spec_l16Take_l0 (curV [(1, .int .i64), (2, .blk), (4, .blk), (5, .blk), (6, .blk), (7, .int .i64)] (K (.exit 0))) N)).K := by kernel_rfl

def spec_l16Take_l0_F : PT := mkL [(1, .int .i64), (2, .blk), (4, .blk), (5, .blk), (6, .blk), (7, .int .i64), (8, .int .i64)] fun K N => spec_l16Take_l0 (curV [(1, .int .i64), (2, .blk), (4, .blk), (5, .blk), (6, .blk), (7, .int .i64)] (K (.exit 0))) N

theorem spec_l16Take_l0_V : Valid Try.prog 97 (sub code54 [true, true, true, false, true, false]) spec_l16Take_l0_F :=
  loop_at (code54) [true, true, true, false, true, false] (loop_piece (c := (sub code54 [true, true, true, false, true, false, false])) mixed rows_nil (fun K => by intro n20 b21 b22 b23 b24 n25 n26 h hd; exact hd) (fun K N => by intro n20 b21 b22 b23 b24 n25 n26 h hd; exact (spec_l16Take_l0_eq K N n20 b21 b22 b23 b24 n25 n26 h) ▸ hd))

theorem spec_l16Take_j1_eq (K : Cont) (n39 : Int) (b40 : Nat) (b41 : Nat) (b42 : Nat) (b43 : Nat) (n44 : Int) (h : H) :
  spec_l16Take_j1 (curV [(4, .blk), (5, .blk)] (K .ret)) n39 b40 b41 b42 b43 n44 h = evC Try.prog 97 [] [] (sub code54 [true, true, true, true, true]) [(1, .int .i64 n39), (2, .pointer (some ⟨b40, 0, none⟩)), (4, .pointer (some ⟨b41, 0, none⟩)), (5, .pointer (some ⟨b42, 0, none⟩)), (6, .pointer (some ⟨b43, 0, none⟩)), (7, .int .i64 n44)] h (outsOf none [] (some [(4, .blk), (5, .blk)]) K).K := by kernel_rfl

def spec_l16Take_j1_F : PT := mkF [(1, .int .i64), (2, .blk), (4, .blk), (5, .blk), (6, .blk), (7, .int .i64)] fun K => spec_l16Take_j1 (curV [(4, .blk), (5, .blk)] (K .ret))

theorem spec_l16Take_j1_V : Valid Try.prog 97 (sub code54 [true, true, true, true, true]) spec_l16Take_j1_F :=
  piece mixed rows_nil (fun K => by intro n39 b40 b41 b42 b43 n44 h hd; exact (spec_l16Take_j1_eq K n39 b40 b41 b42 b43 n44 h) ▸ hd)

theorem spec_l16Take_eq (K : Cont) (a1 : Option Addr) (l1 : Nat) (c1 : Nat) (n2 : Int) (h : H) :
  spec_l16Take (curV [(4, .blk), (5, .blk)] (K .ret)) a1 l1 c1 n2 h = evC Try.prog 97 [([false, false, true, false, true, true, true], spec_l16Take_l0_F), ([true, true, true, true, true], spec_l16Take_j1_F)] [] code54 [(0, .agg ⟨[.slice a1 l1 c1]⟩), (1, .int .i64 n2)] h (outsOf none [] (some [(4, .blk), (5, .blk)]) K).K := by kernel_rfl

def spec_l16Take_F : PT := mkF [(0, .agg [.slice]), (1, .int .i64)] fun K => spec_l16Take (curV [(4, .blk), (5, .blk)] (K .ret))

theorem spec_l16Take_V : Valid Try.prog 97 code54 spec_l16Take_F :=
  piece mixed (rows_cons (q' := [true, true, true, false, true, false]) spec_l16Take_l0_V rfl (rows_cons (q' := [true, true, true, true, true]) spec_l16Take_j1_V rfl rows_nil)) (fun K => by intro a1 l1 c1 n2 h hd; exact (spec_l16Take_eq K a1 l1 c1 n2 h) ▸ hd)

theorem spec_l16Take_c0 (a1 : Option Addr) (l1 : Nat) (c1 : Nat) (n2 : Int) (h : H) (K : Value → H → Prop) :
  spec_l16Take (fun b100001 b100002 h =>
  ldRow h b100001 0 0 [.slice] fun a100003 l100003 c100003 =>
  ldRow h b100002 0 0 [.int .i64, .int .i64, .int .i64] fun n100004 n100005 n100006 =>
  K (.tuple ⟨[.agg ⟨[.slice a100003 l100003 c100003]⟩, .agg ⟨[.int .i64 n100004, .int .i64 n100005, .int .i64 n100006]⟩]⟩) h) a1 l1 c1 n2 h = callF Try.prog Try.f54.results.toList spec_l16Take_F [.agg ⟨[.slice a1 l1 c1]⟩, .int .i64 n2] h K := by kernel_rfl

theorem spec_l16Take_call {a1 : Option Addr} {l1 : Nat} {c1 : Nat} {n2 : Int} {h : H} {K : Value → H → Prop} (hs : spec_l16Take (fun b100001 b100002 h =>
  ldRow h b100001 0 0 [.slice] fun a100003 l100003 c100003 =>
  ldRow h b100002 0 0 [.int .i64, .int .i64, .int .i64] fun n100004 n100005 n100006 =>
  K (.tuple ⟨[.agg ⟨[.slice a100003 l100003 c100003]⟩, .agg ⟨[.int .i64 n100004, .int .i64 n100005, .int .i64 n100006]⟩]⟩) h) a1 l1 c1 n2 h) : callK Try.prog 54 ⟨[.agg ⟨[.slice a1 l1 c1]⟩, .int .i64 n2]⟩ h K :=
  func_calls Try.func54 body54 spec_l16Take_V (Nat.le_of_ble_eq_true (by kernel_rfl)) (spec_l16Take_c0 a1 l1 c1 n2 h K ▸ hs)

def spec_l16Take_M_l0 (kx0 : Int → Int → Option Addr → Nat → Nat → Int → Int → Int → Int → Int → H → Prop) : Nat → Int → Int → Int → Option Addr → Nat → Nat → Int → Int → Int → Int → Int → H → Prop
 | 0, _, _, _, _, _, _, _, _, _, _, _, _ => False
 | N + 1, n15, n16, n17, a18, l18, c18, n26, n30, n32, n33, n35, h =>
  ifB (decide ((n17 : Int) ≥ 1))
  (callD Try.prog 40 ⟨[.int .i64 n32, .int .i64 n17]⟩ h fun v37 h =>
  asB v37 fun t38 =>
  ifB t38
  (callD Try.prog 40 ⟨[.int .i64 n33, .int .i64 n17]⟩ h fun v39 h =>
  asB v39 fun t40 =>
  ifB (!t40)
  (spec_l16Take_M_l0 kx0 N n15 n17 (IntKind.i64.wrap (n17 - 1)) a18 l18 c18 n26 n30 n32 n33 n35 h)
  (spec_l16Take_M_l0 kx0 N n15 n16 (IntKind.i64.wrap (n17 - 1)) a18 l18 c18 n26 n30 n32 n33 n35 h))
  (spec_l16Take_M_l0 kx0 N n15 n16 (IntKind.i64.wrap (n17 - 1)) a18 l18 c18 n26 n30 n32 n33 n35 h))
  (kx0 n15 n16 a18 l18 c18 n26 n30 n32 n33 n35 h)

def spec_l16Take_M_j1 (kr : Option Addr → Nat → Nat → Int → Int → Int → H → Prop) (n1062 : Int) (n1063 : Int) (a1064 : Option Addr) (l1064 : Nat) (c1064 : Nat) (n1072 : Int) (n1078 : Int) (n1079 : Int) (n1081 : Int) (h : H) : Prop :=
  ifB ((n1063 : Int) == 0)
  (kr a1064 l1064 c1064 9 0 0 h)
  (callD Try.prog 52 ⟨[.int .i64 n1078, .int .i64 n1063]⟩ h fun v1083 h =>
  asI .i64 v1083 fun n1084 =>
  req (0 ≤ (n1062 : Int) ∧ (n1062 : Int) < (l1064 : Nat))
  (nz a1064 fun b1085 o1086 =>
  st h b1085 ((o1086 + n1062.toNat * 10) + 6) (.int .i64 n1084) fun h =>
  callD Try.prog 40 ⟨[.int .i64 n1081, .int .i64 n1063]⟩ h fun v1087 h =>
  asB v1087 fun t1088 =>
  ifB t1088
  (callD Try.prog 63 ⟨[.int .i64 n1079, .int .i64 n1063]⟩ h fun v1089 h =>
  asI .i64 v1089 fun n1090 =>
  req (0 ≤ (n1062 : Int) ∧ (n1062 : Int) < (l1064 : Nat))
  (nz a1064 fun b1091 o1092 =>
  st h b1091 ((o1092 + n1062.toNat * 10) + 7) (.int .i64 n1090) fun h =>
  kr a1064 l1064 c1064 0 n1063 2 h))
  (ifB ((n1063 : Int) == 12)
  (req (0 ≤ (n1062 : Int) ∧ (n1062 : Int) < (l1064 : Nat))
  (nz a1064 fun b1093 o1094 =>
  st h b1093 ((o1094 + n1062.toNat * 10) + 4) (.int .i64 2) fun h =>
  kr a1064 l1064 c1064 0 n1063 1 h))
  (ifB ((n1063 : Int) == 14)
  (kr a1064 l1064 c1064 0 n1063 1 h)
  (ifB ((n1063 : Int) == 13)
  (kr a1064 l1064 c1064 0 n1063 1 h)
  (ifB ((n1072 : Int) == 1)
  (kr a1064 l1064 c1064 0 n1063 1 h)
  (callD Try.prog 49 ⟨[.agg ⟨[.slice a1064 l1064 c1064]⟩, .int .i64 n1072, .int .i64 (IntKind.i64.wrap (128 + n1063))]⟩ h fun v1095 h =>
  elF False (.agg [.slice]) v1095 fun a1096 l1096 c1096 =>
  kr a1096 l1096 c1096 0 n1063 1 h)))))))

def spec_l16Take_M (kr : Option Addr → Nat → Nat → Int → Int → Int → H → Prop) (a1 : Option Addr) (l1 : Nat) (c1 : Nat) (n2 : Int) (h : H) : Prop :=
  req (0 ≤ (n2 : Int) ∧ (n2 : Int) < (l1 : Nat))
  (nz a1 fun b3 o4 =>
  ldRow h b3 (o4 + n2.toNat * 10) 0 [.int .i64, .int .i64, .int .i64, .int .i64, .int .i64, .int .i64, .int .i64, .int .i64, .int .i64, .int .i64] fun n5 n6 n7 n8 n9 n10 n11 n12 n13 n14 =>
  ∃ M38, spec_l16Take_M_l0 (fun n15 n16 a17 l17 c17 n25 n29 n31 n32 n34 h =>
  callD Try.prog 40 ⟨[.int .i64 n31, .int .i64 9]⟩ h fun v36 h =>
  asB v36 fun t37 =>
  ifB t37
  (spec_l16Take_M_j1 kr n15 9 a17 l17 c17 n25 n31 n32 n34 h)
  (ifB ((n29 : Int) == 2)
  (spec_l16Take_M_j1 kr n15 0 a17 l17 c17 n25 n31 n32 n34 h)
  (spec_l16Take_M_j1 kr n15 n16 a17 l17 c17 n25 n31 n32 n34 h))) M38 n2 0 15 a1 l1 c1 n5 n9 n11 n12 n14 h)

theorem spec_l16Take_M_l0_D {g0 m0 : H} {kx0_1 : Int → Nat → Nat → Nat → Nat → Int → H → Prop} {kx0_2 : Int → Int → Option Addr → Nat → Nat → Int → Int → Int → Int → Int → H → Prop} (Hkx0 : ∀ (n200001 : Int) (n200002 : Int) (a200003 : Option Addr) (l200003 : Nat) (c200003 : Nat) (a200005 : Option Addr) (l200005 : Nat) (c200005 : Nat) (n200007 : Int) (n200008 : Int) (n200009 : Int) (n200011 : Int) (n200012 : Int) (n200013 : Int) (n200014 : Int) (n200015 : Int) (n200016 : Int) (n200017 : Int) (n200018 : Int) (n200019 : Int) (n200020 : Int) (p200004 : Nat) (p200006 : Nat) (p200010 : Nat) (p200021 : Nat) (g m : H), Md g0 m0 g m [lo p200004 [.slice a200003 l200003 c200003], lo p200006 [.slice a200005 l200005 c200005], lo p200010 [.int .i64 n200007, .int .i64 n200008, .int .i64 n200009], lo p200021 [.int .i64 n200011, .int .i64 n200012, .int .i64 n200013, .int .i64 n200014, .int .i64 n200015, .int .i64 n200016, .int .i64 n200017, .int .i64 n200018, .int .i64 n200019, .int .i64 n200020]] → kx0_2 n200001 n200002 a200003 l200003 c200003 n200011 n200015 n200017 n200018 n200020 m → kx0_1 n200001 p200004 p200006 p200010 p200021 n200002 g) : ∀ (N : Nat) (n1015 : Int) (n1016 : Int) (n1017 : Int) (a1018 : Option Addr) (l1018 : Nat) (c1018 : Nat) (a1020 : Option Addr) (l1020 : Nat) (c1020 : Nat) (n1022 : Int) (n1023 : Int) (n1024 : Int) (n1026 : Int) (n1027 : Int) (n1028 : Int) (n1029 : Int) (n1030 : Int) (n1031 : Int) (n1032 : Int) (n1033 : Int) (n1034 : Int) (n1035 : Int) (p1019 : Nat) (p1021 : Nat) (p1025 : Nat) (p1036 : Nat) (g m : H), Md g0 m0 g m [lo p1019 [.slice a1018 l1018 c1018], lo p1021 [.slice a1020 l1020 c1020], lo p1025 [.int .i64 n1022, .int .i64 n1023, .int .i64 n1024], lo p1036 [.int .i64 n1026, .int .i64 n1027, .int .i64 n1028, .int .i64 n1029, .int .i64 n1030, .int .i64 n1031, .int .i64 n1032, .int .i64 n1033, .int .i64 n1034, .int .i64 n1035]] → spec_l16Take_M_l0 kx0_2 N n1015 n1016 n1017 a1018 l1018 c1018 n1026 n1030 n1032 n1033 n1035 m → spec_l16Take_l0 kx0_1 N n1015 p1019 p1021 p1025 p1036 n1016 n1017 g := by
  intro N
  induction N with
  | zero => intro n1015 n1016 n1017 a1018 l1018 c1018 a1020 l1020 c1020 n1022 n1023 n1024 n1026 n1027 n1028 n1029 n1030 n1031 n1032 n1033 n1034 n1035 p1019 p1021 p1025 p1036 g m R h0; exact h0.elim
  | succ N ih =>
    intro n1015 n1016 n1017 a1018 l1018 c1018 a1020 l1020 c1020 n1022 n1023 n1024 n1026 n1027 n1028 n1029 n1030 n1031 n1032 n1033 n1034 n1035 p1019 p1021 p1025 p1036 g m R
    rw [spec_l16Take_M_l0, spec_l16Take_l0]
    exact (d_if (p_ldI R rfl (d_call R fun v1037 g m R =>
  (d_asB fun t1038 =>
  (d_if (p_ldI R rfl (d_call R fun v1039 g m R =>
  (d_asB fun t1040 =>
  (d_if (ih n1015 n1017 (IntKind.i64.wrap (n1017 - 1)) a1018 l1018 c1018 a1020 l1020 c1020 n1022 n1023 n1024 n1026 n1027 n1028 n1029 n1030 n1031 n1032 n1033 n1034 n1035 p1019 p1021 p1025 p1036 _ _ R.sub)
  (ih n1015 n1016 (IntKind.i64.wrap (n1017 - 1)) a1018 l1018 c1018 a1020 l1020 c1020 n1022 n1023 n1024 n1026 n1027 n1028 n1029 n1030 n1031 n1032 n1033 n1034 n1035 p1019 p1021 p1025 p1036 _ _ R.sub)))))
  (ih n1015 n1016 (IntKind.i64.wrap (n1017 - 1)) a1018 l1018 c1018 a1020 l1020 c1020 n1022 n1023 n1024 n1026 n1027 n1028 n1029 n1030 n1031 n1032 n1033 n1034 n1035 p1019 p1021 p1025 p1036 _ _ R.sub)))))
  (Hkx0 n1015 n1016 a1018 l1018 c1018 a1020 l1020 c1020 n1022 n1023 n1024 n1026 n1027 n1028 n1029 n1030 n1031 n1032 n1033 n1034 n1035 p1019 p1021 p1025 p1036 _ _ R.sub))

theorem spec_l16Take_M_j1_D {g0 m0 : H} {kr_1 : Nat → Nat → H → Prop} {kr_2 : Option Addr → Nat → Nat → Int → Int → Int → H → Prop} (Hkr : ∀ (a200001 : Option Addr) (l200001 : Nat) (c200001 : Nat) (n200003 : Int) (n200004 : Int) (n200005 : Int) (p200002 : Nat) (p200006 : Nat) (g m : H), Md g0 m0 g m [lo p200002 [.slice a200001 l200001 c200001], lo p200006 [.int .i64 n200003, .int .i64 n200004, .int .i64 n200005]] → kr_2 a200001 l200001 c200001 n200003 n200004 n200005 m → kr_1 p200002 p200006 g) : ∀ (n2062 : Int) (n2063 : Int) (a2064 : Option Addr) (l2064 : Nat) (c2064 : Nat) (a2066 : Option Addr) (l2066 : Nat) (c2066 : Nat) (n2068 : Int) (n2069 : Int) (n2070 : Int) (n2072 : Int) (n2073 : Int) (n2074 : Int) (n2075 : Int) (n2076 : Int) (n2077 : Int) (n2078 : Int) (n2079 : Int) (n2080 : Int) (n2081 : Int) (p2065 : Nat) (p2067 : Nat) (p2071 : Nat) (p2082 : Nat) (g m : H), Md g0 m0 g m [lo p2065 [.slice a2064 l2064 c2064], lo p2067 [.slice a2066 l2066 c2066], lo p2071 [.int .i64 n2068, .int .i64 n2069, .int .i64 n2070], lo p2082 [.int .i64 n2072, .int .i64 n2073, .int .i64 n2074, .int .i64 n2075, .int .i64 n2076, .int .i64 n2077, .int .i64 n2078, .int .i64 n2079, .int .i64 n2080, .int .i64 n2081]] → spec_l16Take_M_j1 kr_2 n2062 n2063 a2064 l2064 c2064 n2072 n2078 n2079 n2081 m → spec_l16Take_j1 kr_1 n2062 p2065 p2067 p2071 p2082 n2063 g := by
  intro n2062 n2063 a2064 l2064 c2064 a2066 l2066 c2066 n2068 n2069 n2070 n2072 n2073 n2074 n2075 n2076 n2077 n2078 n2079 n2080 n2081 p2065 p2067 p2071 p2082 g m R
  rw [spec_l16Take_M_j1, spec_l16Take_j1]
  exact (d_if (p_row_L R rfl (p_stRow R (cs' := [.slice a2064 l2064 c2064]) ⟨rfl, rfl, rfl⟩ fun g R =>
  (p_stRow R (cs' := [.int .i64 9, .int .i64 0, .int .i64 0]) ⟨rfl, rfl, rfl⟩ fun g R =>
  (Hkr a2064 l2064 c2064 9 0 0 p2067 p2071 _ _ R.sub))))
  (p_ldL R rfl (p_ldI R rfl (d_call R fun v2083 g m R =>
  (d_asI fun n2084 =>
  (p_cell R rfl (d_req (d_nz fun b2085 o2086 =>
  (d_st R fun g m R =>
  (p_ldI R rfl (d_call R fun v2087 g m R =>
  (d_asB fun t2088 =>
  (d_if (p_ldL R rfl (p_ldI R rfl (d_call R fun v2089 g m R =>
  (d_asI fun n2090 =>
  (p_cell R rfl (d_req (d_nz fun b2091 o2092 =>
  (d_st R fun g m R =>
  (p_row_L R rfl (p_stRow R (cs' := [.slice a2064 l2064 c2064]) ⟨rfl, rfl, rfl⟩ fun g R =>
  (p_stRow R (cs' := [.int .i64 0, .int .i64 n2063, .int .i64 2]) ⟨rfl, rfl, rfl⟩ fun g R =>
  (Hkr a2064 l2064 c2064 0 n2063 2 p2067 p2071 _ _ R.sub))))))))))))
  (p_new R fun p2093 g R =>
  (p_stRow R (cs' := [.int .i64 0, .int .i64 n2063, .int .i64 1]) ⟨rfl, rfl, rfl⟩ fun g R =>
  (d_if (p_ldL R rfl (d_req (d_nz fun b2094 o2095 =>
  (d_st R fun g m R =>
  (p_row_L R rfl (p_row_I3 R rfl rfl rfl (p_stRow R (cs' := [.slice a2064 l2064 c2064]) ⟨rfl, rfl, rfl⟩ fun g R =>
  (p_held R rfl (p_stRow R (cs' := [.int .i64 0, .int .i64 n2063, .int .i64 1]) ⟨rfl, rfl, rfl⟩ fun g R =>
  (Hkr a2064 l2064 c2064 0 n2063 1 p2067 p2071 _ _ R.sub))))))))))
  (d_if (p_row_L R rfl (p_row_I3 R rfl rfl rfl (p_stRow R (cs' := [.slice a2064 l2064 c2064]) ⟨rfl, rfl, rfl⟩ fun g R =>
  (p_held R rfl (p_stRow R (cs' := [.int .i64 0, .int .i64 n2063, .int .i64 1]) ⟨rfl, rfl, rfl⟩ fun g R =>
  (Hkr a2064 l2064 c2064 0 n2063 1 p2067 p2071 _ _ R.sub))))))
  (d_if (p_row_L R rfl (p_row_I3 R rfl rfl rfl (p_stRow R (cs' := [.slice a2064 l2064 c2064]) ⟨rfl, rfl, rfl⟩ fun g R =>
  (p_held R rfl (p_stRow R (cs' := [.int .i64 0, .int .i64 n2063, .int .i64 1]) ⟨rfl, rfl, rfl⟩ fun g R =>
  (Hkr a2064 l2064 c2064 0 n2063 1 p2067 p2071 _ _ R.sub))))))
  (p_ldI R rfl (d_if (p_row_L R rfl (p_row_I3 R rfl rfl rfl (p_stRow R (cs' := [.slice a2064 l2064 c2064]) ⟨rfl, rfl, rfl⟩ fun g R =>
  (p_held R rfl (p_stRow R (cs' := [.int .i64 0, .int .i64 n2063, .int .i64 1]) ⟨rfl, rfl, rfl⟩ fun g R =>
  (Hkr a2064 l2064 c2064 0 n2063 1 p2067 p2071 _ _ R.sub))))))
  (p_row_L R rfl (p_ldI R rfl (p_row_I3 R rfl rfl rfl (d_call R fun v2096 g m R =>
  (d_el_ALE fun a2097 l2097 c2097 =>
  (p_held R rfl (p_stRow R (cs' := [.slice a2097 l2097 c2097]) ⟨rfl, rfl, rfl⟩ fun g R =>
  (p_held R rfl (p_stRow R (cs' := [.int .i64 0, .int .i64 n2063, .int .i64 1]) ⟨rfl, rfl, rfl⟩ fun g R =>
  (Hkr a2097 l2097 c2097 0 n2063 1 p2067 p2071 _ _ R.sub))))))))))))))))))))))))))))))

theorem spec_l16Take_M_D {g0 m0 : H} {kr_1 : Nat → Nat → H → Prop} {kr_2 : Option Addr → Nat → Nat → Int → Int → Int → H → Prop} (Hkr : ∀ (a200001 : Option Addr) (l200001 : Nat) (c200001 : Nat) (n200003 : Int) (n200004 : Int) (n200005 : Int) (p200002 : Nat) (p200006 : Nat) (g m : H), Md g0 m0 g m [lo p200002 [.slice a200001 l200001 c200001], lo p200006 [.int .i64 n200003, .int .i64 n200004, .int .i64 n200005]] → kr_2 a200001 l200001 c200001 n200003 n200004 n200005 m → kr_1 p200002 p200006 g) : ∀ (a1001 : Option Addr) (l1001 : Nat) (c1001 : Nat) (n1002 : Int) (g m : H), Md g0 m0 g m [] → spec_l16Take_M kr_2 a1001 l1001 c1001 n1002 m → spec_l16Take kr_1 a1001 l1001 c1001 n1002 g := by
  intro a1001 l1001 c1001 n1002 g m R
  rw [spec_l16Take_M, spec_l16Take]
  exact (p_new R fun p1003 g R =>
  (p_new R fun p1004 g R =>
  (p_new R fun p1005 g R =>
  (p_ldL R rfl (d_req (d_nz fun b1006 o1007 =>
  (d_row_I10 R fun n1008 n1009 n1010 n1011 n1012 n1013 n1014 n1015 n1016 n1017 =>
  (p_new R fun p1018 g R =>
  (p_stRow R (cs' := [.int .i64 n1008, .int .i64 n1009, .int .i64 n1010, .int .i64 n1011, .int .i64 n1012, .int .i64 n1013, .int .i64 n1014, .int .i64 n1015, .int .i64 n1016, .int .i64 n1017]) ⟨rfl, rfl, rfl⟩ fun g R =>
  (d_ex fun N => spec_l16Take_M_l0_D (by exact fun n1019 n1020 a1021 l1021 c1021 a1023 l1023 c1023 n1025 n1026 n1027 n1029 n1030 n1031 n1032 n1033 n1034 n1035 n1036 n1037 n1038 p1022 p1024 p1028 p1039 g m R =>
  (p_ldI R rfl (d_call R fun v1040 g m R =>
  (d_asB fun t1041 =>
  (d_if (spec_l16Take_M_j1_D (by exact fun a1042 l1042 c1042 n1044 n1045 n1046 p1043 p1047 g m R =>
  (Hkr a1042 l1042 c1042 n1044 n1045 n1046 p1043 p1047 _ _ R.sub)) n1019 9 a1021 l1021 c1021 a1023 l1023 c1023 n1025 n1026 n1027 n1029 n1030 n1031 n1032 n1033 n1034 n1035 n1036 n1037 n1038 p1022 p1024 p1028 p1039 _ _ R.sub)
  (p_ldI R rfl (d_if (spec_l16Take_M_j1_D (by exact fun a1048 l1048 c1048 n1050 n1051 n1052 p1049 p1053 g m R =>
  (Hkr a1048 l1048 c1048 n1050 n1051 n1052 p1049 p1053 _ _ R.sub)) n1019 0 a1021 l1021 c1021 a1023 l1023 c1023 n1025 n1026 n1027 n1029 n1030 n1031 n1032 n1033 n1034 n1035 n1036 n1037 n1038 p1022 p1024 p1028 p1039 _ _ R.sub)
  (spec_l16Take_M_j1_D (by exact fun a1054 l1054 c1054 n1056 n1057 n1058 p1055 p1059 g m R =>
  (Hkr a1054 l1054 c1054 n1056 n1057 n1058 p1055 p1059 _ _ R.sub)) n1019 n1020 a1021 l1021 c1021 a1023 l1023 c1023 n1025 n1026 n1027 n1029 n1030 n1031 n1032 n1033 n1034 n1035 n1036 n1037 n1038 p1022 p1024 p1028 p1039 _ _ R.sub)))))))) N n1002 0 15 a1001 l1001 c1001 none 0 0 0 0 0 n1008 n1009 n1010 n1011 n1012 n1013 n1014 n1015 n1016 n1017 p1003 p1004 p1005 p1018 _ _ R.sub))))))))))

theorem spec_l16Take_M_call {a1 : Option Addr} {l1 : Nat} {c1 : Nat} {n2 : Int} {h : H} {K : Value → H → Prop} (hs : spec_l16Take_M (fun a300001 l300001 c300001 n300003 n300004 n300005 h =>
  K (.tuple ⟨[.agg ⟨[.slice a300001 l300001 c300001]⟩, .agg ⟨[.int .i64 n300003, .int .i64 n300004, .int .i64 n300005]⟩]⟩) h) a1 l1 c1 n2 h) : callD Try.prog 54 ⟨[.agg ⟨[.slice a1 l1 c1]⟩, .int .i64 n2]⟩ h K :=
  fun g r => spec_l16Take_call (spec_l16Take_M_D (by exact fun a300001 l300001 c300001 n300003 n300004 n300005 p300002 p300006 g m R =>
(p_row_L R rfl (p_row_I3 R rfl rfl rfl (fun h => ⟨m, R.af, h⟩)))) _ _ _ _ _ _ (Md.start r) hs)

noncomputable def code55 : Code := codeOf Try.f55
theorem body55 : Try.f55.body = some code55 := by kernel_rfl
def spec_l16Group_l1 (kx0 : Nat → Nat → Nat → Nat → Int → Bool → H → Prop) : Nat → Nat → Nat → Nat → Nat → Int → Bool → Int → H → Prop
 | 0, _, _, _, _, _, _, _, _ => False
 | N + 1, b26, b27, b28, b29, n30, t31, n32, h =>
  ldL h b26 0 fun a33 l33 c33 =>
  ifB (decide ((n32 : Int) < (l33 : Nat)))
  (ifB t31
  (spec_l16Group_l1 kx0 N b26 b27 b28 b29 n30 true (IntKind.i64.wrap (n32 + 1)) h)
  (ldL h b26 0 fun a34 l34 c34 =>
  req (0 ≤ (n32 : Int) ∧ (n32 : Int) < (l34 : Nat))
  (nz a34 fun b35 o36 =>
  ldI .i64 h b35 (o36 + n32.toNat * 10) fun n37 =>
  ldI .i64 h b27 2 fun n38 =>
  ifB ((n37 : Int) != n38)
  (ldL h b26 0 fun a39 l39 c39 =>
  req (0 ≤ (n32 : Int) ∧ (n32 : Int) < (l39 : Nat))
  (nz a39 fun b40 o41 =>
  ldI .i64 h b40 ((o41 + n32.toNat * 10) + 2) fun n42 =>
  ldI .i64 h b27 3 fun n43 =>
  spec_l16Group_l1 kx0 N b26 b27 b28 b29 n30 ((n42 : Int) == n43) (IntKind.i64.wrap (n32 + 1)) h))
  (spec_l16Group_l1 kx0 N b26 b27 b28 b29 n30 false (IntKind.i64.wrap (n32 + 1)) h))))
  (kx0 b26 b27 b28 b29 n30 t31 h)

def spec_l16Group_j0 (kr : Nat → Nat → H → Prop) (b15 : Nat) (b16 : Nat) (b17 : Nat) (b18 : Nat) (n19 : Int) (h : H) : Prop :=
  ldI .i64 h b16 3 fun n20 =>
  ifB (decide ((n20 : Int) < 1))
  (ldRow h b15 0 0 [.slice] fun a21 l21 c21 =>
  stRow h b17 0 0 [.slice a21 l21 c21] fun h =>
  stRow h b18 0 0 [.int .i64 1, .int .i64 0, .int .i64 0] fun h =>
  kr b17 b18 h)
  (ldI .i64 h b16 3 fun n22 =>
  ifB (decide ((n22 : Int) > 32))
  (ldRow h b15 0 0 [.slice] fun a23 l23 c23 =>
  stRow h b17 0 0 [.slice a23 l23 c23] fun h =>
  stRow h b18 0 0 [.int .i64 1, .int .i64 0, .int .i64 0] fun h =>
  kr b17 b18 h)
  (ldI .i64 h b16 3 fun n24 =>
  ldI .i64 h b16 2 fun n25 =>
  ∃ M38, spec_l16Group_l1 (fun b26 b27 b28 b29 n30 t31 h =>
  ifB (!t31)
  (ldRow h b26 0 0 [.slice] fun a32 l32 c32 =>
  stRow h b28 0 0 [.slice a32 l32 c32] fun h =>
  stRow h b29 0 0 [.int .i64 2, .int .i64 0, .int .i64 0] fun h =>
  kr b28 b29 h)
  (ldL h b26 0 fun a33 l33 c33 =>
  ldI .i64 h b27 3 fun n34 =>
  req (0 ≤ (n30 : Int) ∧ (n30 : Int) < (l33 : Nat))
  (nz a33 fun b35 o36 =>
  st h b35 ((o36 + n30.toNat * 10) + 2) (.int .i64 n34) fun h =>
  ldRow h b26 0 0 [.slice] fun a37 l37 c37 =>
  stRow h b28 0 0 [.slice a37 l37 c37] fun h =>
  stRow h b29 0 0 [.int .i64 0, .int .i64 0, .int .i64 0] fun h =>
  kr b28 b29 h))) M38 b15 b16 b17 b18 n19 ((n24 : Int) == n25) 0 h))

def spec_l16Group (kr : Nat → Nat → H → Prop) (a1 : Option Addr) (l1 : Nat) (c1 : Nat) (n2 : Int) (n3 : Int) (n4 : Int) (n5 : Int) (n6 : Int) (h : H) : Prop :=
  new h [.slice a1 l1 c1] 27 fun b7 h =>
  new h [.int .i64 n3, .int .i64 n4, .int .i64 n5, .int .i64 n6] 30 fun b8 h =>
  new h [.slice none 0 0] 27 fun b9 h =>
  new h [.int .i64 0, .int .i64 0, .int .i64 0] 34 fun b10 h =>
  ldRow h b7 0 0 [.slice] fun a11 l11 c11 =>
  ldI .i64 h b8 2 fun n12 =>
  callK Try.prog 25 ⟨[.agg ⟨[.slice a11 l11 c11]⟩, .int .i64 n12]⟩ h fun v13 h =>
  asI .i64 v13 fun n14 =>
  ifB (decide ((n14 : Int) < 0))
  (ldRow h b7 0 0 [.slice] fun a15 l15 c15 =>
  stRow h b9 0 0 [.slice a15 l15 c15] fun h =>
  stRow h b10 0 0 [.int .i64 3, .int .i64 0, .int .i64 0] fun h =>
  kr b9 b10 h)
  (ldI .i64 h b8 2 fun n16 =>
  ldI .i64 h b8 1 fun n17 =>
  ifB ((n16 : Int) != n17)
  (ldL h b7 0 fun a18 l18 c18 =>
  req (0 ≤ (n14 : Int) ∧ (n14 : Int) < (l18 : Nat))
  (nz a18 fun b19 o20 =>
  ldI .i64 h b19 ((o20 + n14.toNat * 10) + 1) fun n21 =>
  ldI .i64 h b8 1 fun n22 =>
  ifB ((n21 : Int) != n22)
  (ldRow h b7 0 0 [.slice] fun a23 l23 c23 =>
  stRow h b9 0 0 [.slice a23 l23 c23] fun h =>
  stRow h b10 0 0 [.int .i64 3, .int .i64 0, .int .i64 0] fun h =>
  kr b9 b10 h)
  (ldL h b7 0 fun a24 l24 c24 =>
  req (0 ≤ (n14 : Int) ∧ (n14 : Int) < (l24 : Nat))
  (nz a24 fun b25 o26 =>
  ldI .i64 h b25 ((o26 + n14.toNat * 10) + 4) fun n27 =>
  ifB ((n27 : Int) == 3)
  (ldRow h b7 0 0 [.slice] fun a28 l28 c28 =>
  stRow h b9 0 0 [.slice a28 l28 c28] fun h =>
  stRow h b10 0 0 [.int .i64 3, .int .i64 0, .int .i64 0] fun h =>
  kr b9 b10 h)
  (spec_l16Group_j0 kr b7 b8 b9 b10 n14 h)))))
  (ldL h b7 0 fun a29 l29 c29 =>
  req (0 ≤ (n14 : Int) ∧ (n14 : Int) < (l29 : Nat))
  (nz a29 fun b30 o31 =>
  ldI .i64 h b30 ((o31 + n14.toNat * 10) + 4) fun n32 =>
  ifB ((n32 : Int) == 3)
  (ldRow h b7 0 0 [.slice] fun a33 l33 c33 =>
  stRow h b9 0 0 [.slice a33 l33 c33] fun h =>
  stRow h b10 0 0 [.int .i64 3, .int .i64 0, .int .i64 0] fun h =>
  kr b9 b10 h)
  (spec_l16Group_j0 kr b7 b8 b9 b10 n14 h))))

theorem spec_l16Group_l1_eq (K : Cont) (N : Nat) (b26 : Nat) (b27 : Nat) (b28 : Nat) (b29 : Nat) (n30 : Int) (t31 : Bool) (n32 : Int) (h : H) :
  spec_l16Group_l1 (curV [(3, .blk), (5, .blk), (6, .blk), (7, .blk), (8, .int .i64), (9, .bool)] (K (.exit 0))) (N + 1) b26 b27 b28 b29 n30 t31 n32 h = evC Try.prog 104 [] [] (sub code55 [true, true, true, true, true, false, true, false, false]) [(3, .pointer (some ⟨b26, 0, none⟩)), (5, .pointer (some ⟨b27, 0, none⟩)), (6, .pointer (some ⟨b28, 0, none⟩)), (7, .pointer (some ⟨b29, 0, none⟩)), (8, .int .i64 n30), (9, .bool t31), (10, .int .i64 n32)] h ((outsOf none [(0, [(3, .blk), (5, .blk), (6, .blk), (7, .blk), (8, .int .i64), (9, .bool)])] none K).loop [(3, .blk), (5, .blk), (6, .blk), (7, .blk), (8, .int .i64), (9, .bool), (10, .int .i64)] (spec_l16Group_l1 (curV [(3, .blk), (5, .blk), (6, .blk), (7, .blk), (8, .int .i64), (9, .bool)] (K (.exit 0))) N)).K := by kernel_rfl

def spec_l16Group_l1_F : PT := mkL [(3, .blk), (5, .blk), (6, .blk), (7, .blk), (8, .int .i64), (9, .bool), (10, .int .i64)] fun K N => spec_l16Group_l1 (curV [(3, .blk), (5, .blk), (6, .blk), (7, .blk), (8, .int .i64), (9, .bool)] (K (.exit 0))) N

theorem spec_l16Group_l1_V : Valid Try.prog 104 (sub code55 [true, true, true, true, true, false, true, false]) spec_l16Group_l1_F :=
  loop_at (code55) [true, true, true, true, true, false, true, false] (loop_piece (c := (sub code55 [true, true, true, true, true, false, true, false, false])) mixed rows_nil (fun K => by intro b26 b27 b28 b29 n30 t31 n32 h hd; exact hd) (fun K N => by intro b26 b27 b28 b29 n30 t31 n32 h hd; exact (spec_l16Group_l1_eq K N b26 b27 b28 b29 n30 t31 n32 h) ▸ hd))

theorem spec_l16Group_j0_eq (K : Cont) (b15 : Nat) (b16 : Nat) (b17 : Nat) (b18 : Nat) (n19 : Int) (h : H) :
  spec_l16Group_j0 (curV [(6, .blk), (7, .blk)] (K .ret)) b15 b16 b17 b18 n19 h = evC Try.prog 104 [([false, false, true, false, true, true], spec_l16Group_l1_F)] [] (sub code55 [true, true, true]) [(3, .pointer (some ⟨b15, 0, none⟩)), (5, .pointer (some ⟨b16, 0, none⟩)), (6, .pointer (some ⟨b17, 0, none⟩)), (7, .pointer (some ⟨b18, 0, none⟩)), (8, .int .i64 n19)] h (outsOf none [] (some [(6, .blk), (7, .blk)]) K).K := by kernel_rfl

def spec_l16Group_j0_F : PT := mkF [(3, .blk), (5, .blk), (6, .blk), (7, .blk), (8, .int .i64)] fun K => spec_l16Group_j0 (curV [(6, .blk), (7, .blk)] (K .ret))

theorem spec_l16Group_j0_V : Valid Try.prog 104 (sub code55 [true, true, true]) spec_l16Group_j0_F :=
  piece mixed (rows_cons (q' := [true, true, false, true, false]) (valid_at (p := [true, true, true]) spec_l16Group_l1_V rfl) rfl rows_nil) (fun K => by intro b15 b16 b17 b18 n19 h hd; exact (spec_l16Group_j0_eq K b15 b16 b17 b18 n19 h) ▸ hd)

theorem spec_l16Group_eq (K : Cont) (a1 : Option Addr) (l1 : Nat) (c1 : Nat) (n2 : Int) (n3 : Int) (n4 : Int) (n5 : Int) (n6 : Int) (h : H) :
  spec_l16Group (curV [(6, .blk), (7, .blk)] (K .ret)) a1 l1 c1 n2 n3 n4 n5 n6 h = evC Try.prog 104 [([true, true, true], spec_l16Group_j0_F)] [] code55 [(0, .agg ⟨[.slice a1 l1 c1]⟩), (1, .int .i64 n2), (2, .agg ⟨[.int .i64 n3, .int .i64 n4, .int .i64 n5, .int .i64 n6]⟩)] h (outsOf none [] (some [(6, .blk), (7, .blk)]) K).K := by kernel_rfl

def spec_l16Group_F : PT := mkF [(0, .agg [.slice]), (1, .int .i64), (2, .agg [.int .i64, .int .i64, .int .i64, .int .i64])] fun K => spec_l16Group (curV [(6, .blk), (7, .blk)] (K .ret))

theorem spec_l16Group_V : Valid Try.prog 104 code55 spec_l16Group_F :=
  piece mixed (rows_cons (q' := [true, true, true]) spec_l16Group_j0_V rfl rows_nil) (fun K => by intro a1 l1 c1 n2 n3 n4 n5 n6 h hd; exact (spec_l16Group_eq K a1 l1 c1 n2 n3 n4 n5 n6 h) ▸ hd)

theorem spec_l16Group_c0 (a1 : Option Addr) (l1 : Nat) (c1 : Nat) (n2 : Int) (n3 : Int) (n4 : Int) (n5 : Int) (n6 : Int) (h : H) (K : Value → H → Prop) :
  spec_l16Group (fun b100001 b100002 h =>
  ldRow h b100001 0 0 [.slice] fun a100003 l100003 c100003 =>
  ldRow h b100002 0 0 [.int .i64, .int .i64, .int .i64] fun n100004 n100005 n100006 =>
  K (.tuple ⟨[.agg ⟨[.slice a100003 l100003 c100003]⟩, .agg ⟨[.int .i64 n100004, .int .i64 n100005, .int .i64 n100006]⟩]⟩) h) a1 l1 c1 n2 n3 n4 n5 n6 h = callF Try.prog Try.f55.results.toList spec_l16Group_F [.agg ⟨[.slice a1 l1 c1]⟩, .int .i64 n2, .agg ⟨[.int .i64 n3, .int .i64 n4, .int .i64 n5, .int .i64 n6]⟩] h K := by kernel_rfl

theorem spec_l16Group_call {a1 : Option Addr} {l1 : Nat} {c1 : Nat} {n2 : Int} {n3 : Int} {n4 : Int} {n5 : Int} {n6 : Int} {h : H} {K : Value → H → Prop} (hs : spec_l16Group (fun b100001 b100002 h =>
  ldRow h b100001 0 0 [.slice] fun a100003 l100003 c100003 =>
  ldRow h b100002 0 0 [.int .i64, .int .i64, .int .i64] fun n100004 n100005 n100006 =>
  K (.tuple ⟨[.agg ⟨[.slice a100003 l100003 c100003]⟩, .agg ⟨[.int .i64 n100004, .int .i64 n100005, .int .i64 n100006]⟩]⟩) h) a1 l1 c1 n2 n3 n4 n5 n6 h) : callK Try.prog 55 ⟨[.agg ⟨[.slice a1 l1 c1]⟩, .int .i64 n2, .agg ⟨[.int .i64 n3, .int .i64 n4, .int .i64 n5, .int .i64 n6]⟩]⟩ h K :=
  func_calls Try.func55 body55 spec_l16Group_V (Nat.le_of_ble_eq_true (by kernel_rfl)) (spec_l16Group_c0 a1 l1 c1 n2 n3 n4 n5 n6 h K ▸ hs)

def spec_l16Group_M_l1 (kx0 : Int → Bool → Option Addr → Nat → Nat → Int → H → Prop) : Nat → Int → Bool → Int → Option Addr → Nat → Nat → Int → Int → H → Prop
 | 0, _, _, _, _, _, _, _, _, _ => False
 | N + 1, n23, t24, n25, a26, l26, c26, n30, n31, h =>
  ifB (decide ((n25 : Int) < (l26 : Nat)))
  (ifB t24
  (spec_l16Group_M_l1 kx0 N n23 true (IntKind.i64.wrap (n25 + 1)) a26 l26 c26 n30 n31 h)
  (req (0 ≤ (n25 : Int) ∧ (n25 : Int) < (l26 : Nat))
  (nz a26 fun b39 o40 =>
  ldI .i64 h b39 (o40 + n25.toNat * 10) fun n41 =>
  ifB ((n41 : Int) != n30)
  (req (0 ≤ (n25 : Int) ∧ (n25 : Int) < (l26 : Nat))
  (nz a26 fun b42 o43 =>
  ldI .i64 h b42 ((o43 + n25.toNat * 10) + 2) fun n44 =>
  spec_l16Group_M_l1 kx0 N n23 ((n44 : Int) == n31) (IntKind.i64.wrap (n25 + 1)) a26 l26 c26 n30 n31 h))
  (spec_l16Group_M_l1 kx0 N n23 false (IntKind.i64.wrap (n25 + 1)) a26 l26 c26 n30 n31 h))))
  (kx0 n23 t24 a26 l26 c26 n31 h)

def spec_l16Group_M_j0 (kr : Option Addr → Nat → Nat → Int → Int → Int → H → Prop) (n9 : Int) (a10 : Option Addr) (l10 : Nat) (c10 : Nat) (n14 : Int) (n15 : Int) (h : H) : Prop :=
  ifB (decide ((n15 : Int) < 1))
  (kr a10 l10 c10 1 0 0 h)
  (ifB (decide ((n15 : Int) > 32))
  (kr a10 l10 c10 1 0 0 h)
  (∃ M40, spec_l16Group_M_l1 (fun n23 t24 a25 l25 c25 n30 h =>
  ifB (!t24)
  (kr a25 l25 c25 2 0 0 h)
  (req (0 ≤ (n23 : Int) ∧ (n23 : Int) < (l25 : Nat))
  (nz a25 fun b38 o39 =>
  st h b38 ((o39 + n23.toNat * 10) + 2) (.int .i64 n30) fun h =>
  kr a25 l25 c25 0 0 0 h))) M40 n9 ((n15 : Int) == n14) 0 a10 l10 c10 n14 n15 h))

def spec_l16Group_M (kr : Option Addr → Nat → Nat → Int → Int → Int → H → Prop) (a1 : Option Addr) (l1 : Nat) (c1 : Nat) (n2 : Int) (n3 : Int) (n4 : Int) (n5 : Int) (n6 : Int) (h : H) : Prop :=
  callD Try.prog 25 ⟨[.agg ⟨[.slice a1 l1 c1]⟩, .int .i64 n5]⟩ h fun v7 h =>
  asI .i64 v7 fun n8 =>
  ifB (decide ((n8 : Int) < 0))
  (kr a1 l1 c1 3 0 0 h)
  (ifB ((n5 : Int) != n4)
  (req (0 ≤ (n8 : Int) ∧ (n8 : Int) < (l1 : Nat))
  (nz a1 fun b9 o10 =>
  ldI .i64 h b9 ((o10 + n8.toNat * 10) + 1) fun n11 =>
  ifB ((n11 : Int) != n4)
  (kr a1 l1 c1 3 0 0 h)
  (req (0 ≤ (n8 : Int) ∧ (n8 : Int) < (l1 : Nat))
  (nz a1 fun b12 o13 =>
  ldI .i64 h b12 ((o13 + n8.toNat * 10) + 4) fun n14 =>
  ifB ((n14 : Int) == 3)
  (kr a1 l1 c1 3 0 0 h)
  (spec_l16Group_M_j0 kr n8 a1 l1 c1 n5 n6 h)))))
  (req (0 ≤ (n8 : Int) ∧ (n8 : Int) < (l1 : Nat))
  (nz a1 fun b15 o16 =>
  ldI .i64 h b15 ((o16 + n8.toNat * 10) + 4) fun n17 =>
  ifB ((n17 : Int) == 3)
  (kr a1 l1 c1 3 0 0 h)
  (spec_l16Group_M_j0 kr n8 a1 l1 c1 n5 n6 h))))

theorem spec_l16Group_M_l1_D {g0 m0 : H} {kx0_1 : Nat → Nat → Nat → Nat → Int → Bool → H → Prop} {kx0_2 : Int → Bool → Option Addr → Nat → Nat → Int → H → Prop} (Hkx0 : ∀ (n200001 : Int) (t200002 : Bool) (a200003 : Option Addr) (l200003 : Nat) (c200003 : Nat) (n200005 : Int) (n200006 : Int) (n200007 : Int) (n200008 : Int) (a200010 : Option Addr) (l200010 : Nat) (c200010 : Nat) (n200012 : Int) (n200013 : Int) (n200014 : Int) (p200004 : Nat) (p200009 : Nat) (p200011 : Nat) (p200015 : Nat) (g m : H), Md g0 m0 g m [lo p200004 [.slice a200003 l200003 c200003], lo p200009 [.int .i64 n200005, .int .i64 n200006, .int .i64 n200007, .int .i64 n200008], lo p200011 [.slice a200010 l200010 c200010], lo p200015 [.int .i64 n200012, .int .i64 n200013, .int .i64 n200014]] → kx0_2 n200001 t200002 a200003 l200003 c200003 n200008 m → kx0_1 p200004 p200009 p200011 p200015 n200001 t200002 g) : ∀ (N : Nat) (n1023 : Int) (t1024 : Bool) (n1025 : Int) (a1026 : Option Addr) (l1026 : Nat) (c1026 : Nat) (n1028 : Int) (n1029 : Int) (n1030 : Int) (n1031 : Int) (a1033 : Option Addr) (l1033 : Nat) (c1033 : Nat) (n1035 : Int) (n1036 : Int) (n1037 : Int) (p1027 : Nat) (p1032 : Nat) (p1034 : Nat) (p1038 : Nat) (g m : H), Md g0 m0 g m [lo p1027 [.slice a1026 l1026 c1026], lo p1032 [.int .i64 n1028, .int .i64 n1029, .int .i64 n1030, .int .i64 n1031], lo p1034 [.slice a1033 l1033 c1033], lo p1038 [.int .i64 n1035, .int .i64 n1036, .int .i64 n1037]] → spec_l16Group_M_l1 kx0_2 N n1023 t1024 n1025 a1026 l1026 c1026 n1030 n1031 m → spec_l16Group_l1 kx0_1 N p1027 p1032 p1034 p1038 n1023 t1024 n1025 g := by
  intro N
  induction N with
  | zero => intro n1023 t1024 n1025 a1026 l1026 c1026 n1028 n1029 n1030 n1031 a1033 l1033 c1033 n1035 n1036 n1037 p1027 p1032 p1034 p1038 g m R h0; exact h0.elim
  | succ N ih =>
    intro n1023 t1024 n1025 a1026 l1026 c1026 n1028 n1029 n1030 n1031 a1033 l1033 c1033 n1035 n1036 n1037 p1027 p1032 p1034 p1038 g m R
    rw [spec_l16Group_M_l1, spec_l16Group_l1]
    exact (p_ldL R rfl (d_if (d_if (ih n1023 true (IntKind.i64.wrap (n1025 + 1)) a1026 l1026 c1026 n1028 n1029 n1030 n1031 a1033 l1033 c1033 n1035 n1036 n1037 p1027 p1032 p1034 p1038 _ _ R.sub)
  (p_ldL R rfl (d_req (d_nz fun b1039 o1040 =>
  (d_ldI R fun n1041 =>
  (p_ldI R rfl (d_if (p_ldL R rfl (d_req (d_nz fun b1042 o1043 =>
  (d_ldI R fun n1044 =>
  (p_ldI R rfl (ih n1023 ((n1044 : Int) == n1031) (IntKind.i64.wrap (n1025 + 1)) a1026 l1026 c1026 n1028 n1029 n1030 n1031 a1033 l1033 c1033 n1035 n1036 n1037 p1027 p1032 p1034 p1038 _ _ R.sub))))))
  (ih n1023 false (IntKind.i64.wrap (n1025 + 1)) a1026 l1026 c1026 n1028 n1029 n1030 n1031 a1033 l1033 c1033 n1035 n1036 n1037 p1027 p1032 p1034 p1038 _ _ R.sub))))))))
  (Hkx0 n1023 t1024 a1026 l1026 c1026 n1028 n1029 n1030 n1031 a1033 l1033 c1033 n1035 n1036 n1037 p1027 p1032 p1034 p1038 _ _ R.sub)))

theorem spec_l16Group_M_j0_D {g0 m0 : H} {kr_1 : Nat → Nat → H → Prop} {kr_2 : Option Addr → Nat → Nat → Int → Int → Int → H → Prop} (Hkr : ∀ (a200001 : Option Addr) (l200001 : Nat) (c200001 : Nat) (n200003 : Int) (n200004 : Int) (n200005 : Int) (p200002 : Nat) (p200006 : Nat) (g m : H), Md g0 m0 g m [lo p200002 [.slice a200001 l200001 c200001], lo p200006 [.int .i64 n200003, .int .i64 n200004, .int .i64 n200005]] → kr_2 a200001 l200001 c200001 n200003 n200004 n200005 m → kr_1 p200002 p200006 g) : ∀ (n1009 : Int) (a1010 : Option Addr) (l1010 : Nat) (c1010 : Nat) (n1012 : Int) (n1013 : Int) (n1014 : Int) (n1015 : Int) (a1017 : Option Addr) (l1017 : Nat) (c1017 : Nat) (n1019 : Int) (n1020 : Int) (n1021 : Int) (p1011 : Nat) (p1016 : Nat) (p1018 : Nat) (p1022 : Nat) (g m : H), Md g0 m0 g m [lo p1011 [.slice a1010 l1010 c1010], lo p1016 [.int .i64 n1012, .int .i64 n1013, .int .i64 n1014, .int .i64 n1015], lo p1018 [.slice a1017 l1017 c1017], lo p1022 [.int .i64 n1019, .int .i64 n1020, .int .i64 n1021]] → spec_l16Group_M_j0 kr_2 n1009 a1010 l1010 c1010 n1014 n1015 m → spec_l16Group_j0 kr_1 p1011 p1016 p1018 p1022 n1009 g := by
  intro n1009 a1010 l1010 c1010 n1012 n1013 n1014 n1015 a1017 l1017 c1017 n1019 n1020 n1021 p1011 p1016 p1018 p1022 g m R
  rw [spec_l16Group_M_j0, spec_l16Group_j0]
  exact (p_ldI R rfl (d_if (p_row_L R rfl (p_stRow R (cs' := [.slice a1010 l1010 c1010]) ⟨rfl, rfl, rfl⟩ fun g R =>
  (p_stRow R (cs' := [.int .i64 1, .int .i64 0, .int .i64 0]) ⟨rfl, rfl, rfl⟩ fun g R =>
  (Hkr a1010 l1010 c1010 1 0 0 p1018 p1022 _ _ R.sub))))
  (p_ldI R rfl (d_if (p_row_L R rfl (p_stRow R (cs' := [.slice a1010 l1010 c1010]) ⟨rfl, rfl, rfl⟩ fun g R =>
  (p_stRow R (cs' := [.int .i64 1, .int .i64 0, .int .i64 0]) ⟨rfl, rfl, rfl⟩ fun g R =>
  (Hkr a1010 l1010 c1010 1 0 0 p1018 p1022 _ _ R.sub))))
  (p_ldI R rfl (p_ldI R rfl (d_ex fun N => spec_l16Group_M_l1_D (by exact fun n1023 t1024 a1025 l1025 c1025 n1027 n1028 n1029 n1030 a1032 l1032 c1032 n1034 n1035 n1036 p1026 p1031 p1033 p1037 g m R =>
  (d_if (p_row_L R rfl (p_stRow R (cs' := [.slice a1025 l1025 c1025]) ⟨rfl, rfl, rfl⟩ fun g R =>
  (p_stRow R (cs' := [.int .i64 2, .int .i64 0, .int .i64 0]) ⟨rfl, rfl, rfl⟩ fun g R =>
  (Hkr a1025 l1025 c1025 2 0 0 p1033 p1037 _ _ R.sub))))
  (p_ldL R rfl (p_ldI R rfl (d_req (d_nz fun b1038 o1039 =>
  (d_st R fun g m R =>
  (p_row_L R rfl (p_stRow R (cs' := [.slice a1025 l1025 c1025]) ⟨rfl, rfl, rfl⟩ fun g R =>
  (p_stRow R (cs' := [.int .i64 0, .int .i64 0, .int .i64 0]) ⟨rfl, rfl, rfl⟩ fun g R =>
  (Hkr a1025 l1025 c1025 0 0 0 p1033 p1037 _ _ R.sub))))))))))) N n1009 ((n1015 : Int) == n1014) 0 a1010 l1010 c1010 n1012 n1013 n1014 n1015 a1017 l1017 c1017 n1019 n1020 n1021 p1011 p1016 p1018 p1022 _ _ R.sub)))))))

theorem spec_l16Group_M_D {g0 m0 : H} {kr_1 : Nat → Nat → H → Prop} {kr_2 : Option Addr → Nat → Nat → Int → Int → Int → H → Prop} (Hkr : ∀ (a200001 : Option Addr) (l200001 : Nat) (c200001 : Nat) (n200003 : Int) (n200004 : Int) (n200005 : Int) (p200002 : Nat) (p200006 : Nat) (g m : H), Md g0 m0 g m [lo p200002 [.slice a200001 l200001 c200001], lo p200006 [.int .i64 n200003, .int .i64 n200004, .int .i64 n200005]] → kr_2 a200001 l200001 c200001 n200003 n200004 n200005 m → kr_1 p200002 p200006 g) : ∀ (a1001 : Option Addr) (l1001 : Nat) (c1001 : Nat) (n1002 : Int) (n1003 : Int) (n1004 : Int) (n1005 : Int) (n1006 : Int) (g m : H), Md g0 m0 g m [] → spec_l16Group_M kr_2 a1001 l1001 c1001 n1002 n1003 n1004 n1005 n1006 m → spec_l16Group kr_1 a1001 l1001 c1001 n1002 n1003 n1004 n1005 n1006 g := by
  intro a1001 l1001 c1001 n1002 n1003 n1004 n1005 n1006 g m R
  rw [spec_l16Group_M, spec_l16Group]
  exact (p_new R fun p1007 g R =>
  (p_new R fun p1008 g R =>
  (p_new R fun p1009 g R =>
  (p_new R fun p1010 g R =>
  (p_row_L R rfl (p_ldI R rfl (d_call R fun v1011 g m R =>
  (d_asI fun n1012 =>
  (d_if (p_row_L R rfl (p_stRow R (cs' := [.slice a1001 l1001 c1001]) ⟨rfl, rfl, rfl⟩ fun g R =>
  (p_stRow R (cs' := [.int .i64 3, .int .i64 0, .int .i64 0]) ⟨rfl, rfl, rfl⟩ fun g R =>
  (Hkr a1001 l1001 c1001 3 0 0 p1009 p1010 _ _ R.sub))))
  (p_ldI R rfl (p_ldI R rfl (d_if (p_ldL R rfl (d_req (d_nz fun b1013 o1014 =>
  (d_ldI R fun n1015 =>
  (p_ldI R rfl (d_if (p_row_L R rfl (p_stRow R (cs' := [.slice a1001 l1001 c1001]) ⟨rfl, rfl, rfl⟩ fun g R =>
  (p_stRow R (cs' := [.int .i64 3, .int .i64 0, .int .i64 0]) ⟨rfl, rfl, rfl⟩ fun g R =>
  (Hkr a1001 l1001 c1001 3 0 0 p1009 p1010 _ _ R.sub))))
  (p_ldL R rfl (d_req (d_nz fun b1016 o1017 =>
  (d_ldI R fun n1018 =>
  (d_if (p_row_L R rfl (p_stRow R (cs' := [.slice a1001 l1001 c1001]) ⟨rfl, rfl, rfl⟩ fun g R =>
  (p_stRow R (cs' := [.int .i64 3, .int .i64 0, .int .i64 0]) ⟨rfl, rfl, rfl⟩ fun g R =>
  (Hkr a1001 l1001 c1001 3 0 0 p1009 p1010 _ _ R.sub))))
  (spec_l16Group_M_j0_D (by exact fun a1019 l1019 c1019 n1021 n1022 n1023 p1020 p1024 g m R =>
  (Hkr a1019 l1019 c1019 n1021 n1022 n1023 p1020 p1024 _ _ R.sub)) n1012 a1001 l1001 c1001 n1003 n1004 n1005 n1006 none 0 0 0 0 0 p1007 p1008 p1009 p1010 _ _ R.sub))))))))))))
  (p_ldL R rfl (d_req (d_nz fun b1025 o1026 =>
  (d_ldI R fun n1027 =>
  (d_if (p_row_L R rfl (p_stRow R (cs' := [.slice a1001 l1001 c1001]) ⟨rfl, rfl, rfl⟩ fun g R =>
  (p_stRow R (cs' := [.int .i64 3, .int .i64 0, .int .i64 0]) ⟨rfl, rfl, rfl⟩ fun g R =>
  (Hkr a1001 l1001 c1001 3 0 0 p1009 p1010 _ _ R.sub))))
  (spec_l16Group_M_j0_D (by exact fun a1028 l1028 c1028 n1030 n1031 n1032 p1029 p1033 g m R =>
  (Hkr a1028 l1028 c1028 n1030 n1031 n1032 p1029 p1033 _ _ R.sub)) n1012 a1001 l1001 c1001 n1003 n1004 n1005 n1006 none 0 0 0 0 0 p1007 p1008 p1009 p1010 _ _ R.sub))))))))))))))))))

theorem spec_l16Group_M_call {a1 : Option Addr} {l1 : Nat} {c1 : Nat} {n2 : Int} {n3 : Int} {n4 : Int} {n5 : Int} {n6 : Int} {h : H} {K : Value → H → Prop} (hs : spec_l16Group_M (fun a300001 l300001 c300001 n300003 n300004 n300005 h =>
  K (.tuple ⟨[.agg ⟨[.slice a300001 l300001 c300001]⟩, .agg ⟨[.int .i64 n300003, .int .i64 n300004, .int .i64 n300005]⟩]⟩) h) a1 l1 c1 n2 n3 n4 n5 n6 h) : callD Try.prog 55 ⟨[.agg ⟨[.slice a1 l1 c1]⟩, .int .i64 n2, .agg ⟨[.int .i64 n3, .int .i64 n4, .int .i64 n5, .int .i64 n6]⟩]⟩ h K :=
  fun g r => spec_l16Group_call (spec_l16Group_M_D (by exact fun a300001 l300001 c300001 n300003 n300004 n300005 p300002 p300006 g m R =>
(p_row_L R rfl (p_row_I3 R rfl rfl rfl (fun h => ⟨m, R.af, h⟩)))) _ _ _ _ _ _ _ _ _ _ (Md.start r) hs)

noncomputable def code58 : Code := codeOf Try.f58
theorem body58 : Try.f58.body = some code58 := by kernel_rfl
def spec_NewProcs (kr : Nat → H → Prop) (h : H) : Prop :=
  new h [.slice none 0 0] 27 fun b1 h =>
  new h [.int .i64 1, .int .i64 0, .int .i64 1, .int .i64 0, .int .i64 1, .int .i64 0, .int .i64 0, .int .i64 0, .int .i64 0, .int .i64 0] 38 fun b2 h =>
  stRow h b1 0 0 [.slice (some ⟨b2, 0, none⟩) 1 1] fun h =>
  kr b1 h

theorem spec_NewProcs_eq (K : Cont)  (h : H) :
  spec_NewProcs (curV [(0, .blk)] (K .ret)) h = evC Try.prog 4 [] [] code58 [] h (outsOf none [] (some [(0, .blk)]) K).K := by kernel_rfl

def spec_NewProcs_F : PT := mkF [] fun K => spec_NewProcs (curV [(0, .blk)] (K .ret))

theorem spec_NewProcs_V : Valid Try.prog 4 code58 spec_NewProcs_F :=
  piece mixed rows_nil (fun K => by intro  h hd; exact (spec_NewProcs_eq K  h) ▸ hd)

theorem spec_NewProcs_c0  (h : H) (K : Value → H → Prop) :
  spec_NewProcs (fun b100001 h =>
  ldRow h b100001 0 0 [.slice] fun a100002 l100002 c100002 =>
  K (.agg ⟨[.slice a100002 l100002 c100002]⟩) h) h = callF Try.prog Try.f58.results.toList spec_NewProcs_F [] h K := by kernel_rfl

theorem spec_NewProcs_call {h : H} {K : Value → H → Prop} (hs : spec_NewProcs (fun b100001 h =>
  ldRow h b100001 0 0 [.slice] fun a100002 l100002 c100002 =>
  K (.agg ⟨[.slice a100002 l100002 c100002]⟩) h) h) : callK Try.prog 58 ⟨[]⟩ h K :=
  func_calls Try.func58 body58 spec_NewProcs_V (Nat.le_of_ble_eq_true (by kernel_rfl)) (spec_NewProcs_c0  h K ▸ hs)

def spec_NewProcs_M (kr : Option Addr → Nat → Nat → H → Prop) (h : H) : Prop :=
  newD h [.int .i64 1, .int .i64 0, .int .i64 1, .int .i64 0, .int .i64 1, .int .i64 0, .int .i64 0, .int .i64 0, .int .i64 0, .int .i64 0] 38 fun b1 h =>
  kr (some ⟨b1, 0, none⟩) 1 1 h

theorem spec_NewProcs_M_D {g0 m0 : H} {kr_1 : Nat → H → Prop} {kr_2 : Option Addr → Nat → Nat → H → Prop} (Hkr : ∀ (a200001 : Option Addr) (l200001 : Nat) (c200001 : Nat) (p200002 : Nat) (g m : H), Md g0 m0 g m [lo p200002 [.slice a200001 l200001 c200001]] → kr_2 a200001 l200001 c200001 m → kr_1 p200002 g) : ∀ (g m : H), Md g0 m0 g m [] → spec_NewProcs_M kr_2  m → spec_NewProcs kr_1  g := by
  intro g m R
  rw [spec_NewProcs_M, spec_NewProcs]
  exact (p_new R fun p1001 g R =>
  (d_new R fun b1002 g m R =>
  (p_stRow R (cs' := [.slice (some ⟨b1002, 0, none⟩) 1 1]) ⟨rfl, rfl, rfl⟩ fun g R =>
  (Hkr (some ⟨b1002, 0, none⟩) 1 1 p1001 _ _ R.sub))))

theorem spec_NewProcs_M_call {h : H} {K : Value → H → Prop} (hs : spec_NewProcs_M (fun a300001 l300001 c300001 h =>
  K (.agg ⟨[.slice a300001 l300001 c300001]⟩) h) h) : callD Try.prog 58 ⟨[]⟩ h K :=
  fun g r => spec_NewProcs_call (spec_NewProcs_M_D (by exact fun a300001 l300001 c300001 p300002 g m R =>
(p_row_L R rfl (fun h => ⟨m, R.af, h⟩)))  _ _ (Md.start r) hs)

noncomputable def code59 : Code := codeOf Try.f59
theorem body59 : Try.f59.body = some code59 := by kernel_rfl
def spec_l1Byte (kr : Int → H → Prop) (c_1 : Option Addr) (h : H) : Prop :=
  nz c_1 fun b2 o3 =>
  ldI .i64 h b2 (o3 + 2) fun n4 =>
  nz c_1 fun b5 o6 =>
  st h b5 (o6 + 2) (.int .i64 (IntKind.i64.wrap ((IntKind.i64.wrap (n4 * 6364136223846793005)) + 1442695040888963407))) fun h =>
  nz c_1 fun b7 o8 =>
  ldI .i64 h b7 (o8 + 2) fun n9 =>
  nz c_1 fun b10 o11 =>
  ldI .i64 h b10 (o11 + 2) fun n12 =>
  nz c_1 fun b13 o14 =>
  ldI .i64 h b13 (o14 + 1) fun n15 =>
  nz c_1 fun b16 o17 =>
  ldL h b16 o17 fun a18 l18 c18 =>
  ifB (decide ((n15 : Int) < (l18 : Nat)))
  (nz c_1 fun b19 o20 =>
  ldL h b19 o20 fun a21 l21 c21 =>
  nz c_1 fun b22 o23 =>
  ldI .i64 h b22 (o23 + 1) fun n24 =>
  req (0 ≤ (n24 : Int) ∧ (n24 : Int) < (l21 : Nat))
  (nz a21 fun b25 o26 =>
  ldI .u8 h b25 (o26 + n24.toNat * 1) fun n27 =>
  nz c_1 fun b28 o29 =>
  ldI .i64 h b28 (o29 + 1) fun n30 =>
  nz c_1 fun b31 o32 =>
  st h b31 (o32 + 1) (.int .i64 (IntKind.i64.wrap (n30 + 1))) fun h =>
  kr (bAnd .i64 (IntKind.i64.wrap ((bAnd .i64 (bXor .i64 (sShr .i64 n9 33) (sShr .i64 n12 45)) 255) + (IntKind.i64.wrap n27))) 255) h))
  (kr (bAnd .i64 (bXor .i64 (sShr .i64 n9 33) (sShr .i64 n12 45)) 255) h)

theorem spec_l1Byte_eq (K : Cont) (c_1 : Option Addr) (h : H) :
  spec_l1Byte (curV [(2, .int .i64)] (K .ret)) c_1 h = evC Try.prog 58 [] [] code59 [(0, .pointer c_1)] h (outsOf none [] (some [(2, .int .i64)]) K).K := by kernel_rfl

def spec_l1Byte_F : PT := mkF [(0, .ptr)] fun K => spec_l1Byte (curV [(2, .int .i64)] (K .ret))

theorem spec_l1Byte_V : Valid Try.prog 58 code59 spec_l1Byte_F :=
  piece mixed rows_nil (fun K => by intro c_1 h hd; exact (spec_l1Byte_eq K c_1 h) ▸ hd)

theorem spec_l1Byte_c0 (c_1 : Option Addr) (h : H) (K : Value → H → Prop) :
  spec_l1Byte (fun n100001 h =>
  K (.int .i64 n100001) h) c_1 h = callF Try.prog Try.f59.results.toList spec_l1Byte_F [.pointer c_1] h K := by kernel_rfl

theorem spec_l1Byte_call {c_1 : Option Addr} {h : H} {K : Value → H → Prop} (hs : spec_l1Byte (fun n100001 h =>
  K (.int .i64 n100001) h) c_1 h) : callK Try.prog 59 ⟨[.pointer c_1]⟩ h K :=
  func_calls Try.func59 body59 spec_l1Byte_V (Nat.le_of_ble_eq_true (by kernel_rfl)) (spec_l1Byte_c0 c_1 h K ▸ hs)

def spec_l1Byte_M (kr : Int → H → Prop) (c_1 : Option Addr) (h : H) : Prop :=
  nz c_1 fun b2 o3 =>
  ldI .i64 h b2 (o3 + 2) fun n4 =>
  nz c_1 fun b5 o6 =>
  st h b5 (o6 + 2) (.int .i64 (IntKind.i64.wrap ((IntKind.i64.wrap (n4 * 6364136223846793005)) + 1442695040888963407))) fun h =>
  nz c_1 fun b7 o8 =>
  ldI .i64 h b7 (o8 + 2) fun n9 =>
  nz c_1 fun b10 o11 =>
  ldI .i64 h b10 (o11 + 2) fun n12 =>
  nz c_1 fun b13 o14 =>
  ldI .i64 h b13 (o14 + 1) fun n15 =>
  nz c_1 fun b16 o17 =>
  ldL h b16 o17 fun a18 l18 c18 =>
  ifB (decide ((n15 : Int) < (l18 : Nat)))
  (nz c_1 fun b19 o20 =>
  ldL h b19 o20 fun a21 l21 c21 =>
  nz c_1 fun b22 o23 =>
  ldI .i64 h b22 (o23 + 1) fun n24 =>
  req (0 ≤ (n24 : Int) ∧ (n24 : Int) < (l21 : Nat))
  (nz a21 fun b25 o26 =>
  ldI .u8 h b25 (o26 + n24.toNat * 1) fun n27 =>
  nz c_1 fun b28 o29 =>
  ldI .i64 h b28 (o29 + 1) fun n30 =>
  nz c_1 fun b31 o32 =>
  st h b31 (o32 + 1) (.int .i64 (IntKind.i64.wrap (n30 + 1))) fun h =>
  kr (bAnd .i64 (IntKind.i64.wrap ((bAnd .i64 (bXor .i64 (sShr .i64 n9 33) (sShr .i64 n12 45)) 255) + (IntKind.i64.wrap n27))) 255) h))
  (kr (bAnd .i64 (bXor .i64 (sShr .i64 n9 33) (sShr .i64 n12 45)) 255) h)

theorem spec_l1Byte_M_D {g0 m0 : H} {kr_1 : Int → H → Prop} {kr_2 : Int → H → Prop} (Hkr : ∀ (n200001 : Int) (g m : H), Md g0 m0 g m [] → kr_2 n200001 m → kr_1 n200001 g) : ∀ (c_1001 : Option Addr) (g m : H), Md g0 m0 g m [] → spec_l1Byte_M kr_2 c_1001 m → spec_l1Byte kr_1 c_1001 g := by
  intro c_1001 g m R
  rw [spec_l1Byte_M, spec_l1Byte]
  exact (d_nz fun b1002 o1003 =>
  (d_ldI R fun n1004 =>
  (d_nz fun b1005 o1006 =>
  (d_st R fun g m R =>
  (d_nz fun b1007 o1008 =>
  (d_ldI R fun n1009 =>
  (d_nz fun b1010 o1011 =>
  (d_ldI R fun n1012 =>
  (d_nz fun b1013 o1014 =>
  (d_ldI R fun n1015 =>
  (d_nz fun b1016 o1017 =>
  (d_ldL R fun a1018 l1018 c1018 =>
  (d_if (d_nz fun b1019 o1020 =>
  (d_ldL R fun a1021 l1021 c1021 =>
  (d_nz fun b1022 o1023 =>
  (d_ldI R fun n1024 =>
  (d_req (d_nz fun b1025 o1026 =>
  (d_ldI R fun n1027 =>
  (d_nz fun b1028 o1029 =>
  (d_ldI R fun n1030 =>
  (d_nz fun b1031 o1032 =>
  (d_st R fun g m R =>
  (Hkr (bAnd .i64 (IntKind.i64.wrap ((bAnd .i64 (bXor .i64 (sShr .i64 n1009 33) (sShr .i64 n1012 45)) 255) + (IntKind.i64.wrap n1027))) 255) _ _ R.sub))))))))))))
  (Hkr (bAnd .i64 (bXor .i64 (sShr .i64 n1009 33) (sShr .i64 n1012 45)) 255) _ _ R.sub))))))))))))))

theorem spec_l1Byte_M_call {c_1 : Option Addr} {h : H} {K : Value → H → Prop} (hs : spec_l1Byte_M (fun n300001 h =>
  K (.int .i64 n300001) h) c_1 h) : callD Try.prog 59 ⟨[.pointer c_1]⟩ h K :=
  fun g r => spec_l1Byte_call (spec_l1Byte_M_D (by exact fun n300001 g m R =>
(fun h => ⟨m, R.af, h⟩)) _ _ _ (Md.start r) hs)

noncomputable def code60 : Code := codeOf Try.f60
theorem body60 : Try.f60.body = some code60 := by kernel_rfl
def spec_l16Pow (kr : Int → H → Prop) (n1 : Int) (h : H) : Prop :=
  callK Try.prog 64 ⟨[.int .i64 n1]⟩ h fun v2 h =>
  asI .u64 v2 fun n3 =>
  kr (IntKind.i64.wrap n3) h

theorem spec_l16Pow_eq (K : Cont) (n1 : Int) (h : H) :
  spec_l16Pow (curV [(2, .int .i64)] (K .ret)) n1 h = evC Try.prog 6 [] [] code60 [(0, .int .i64 n1)] h (outsOf none [] (some [(2, .int .i64)]) K).K := by kernel_rfl

def spec_l16Pow_F : PT := mkF [(0, .int .i64)] fun K => spec_l16Pow (curV [(2, .int .i64)] (K .ret))

theorem spec_l16Pow_V : Valid Try.prog 6 code60 spec_l16Pow_F :=
  piece mixed rows_nil (fun K => by intro n1 h hd; exact (spec_l16Pow_eq K n1 h) ▸ hd)

theorem spec_l16Pow_c0 (n1 : Int) (h : H) (K : Value → H → Prop) :
  spec_l16Pow (fun n100001 h =>
  K (.int .i64 n100001) h) n1 h = callF Try.prog Try.f60.results.toList spec_l16Pow_F [.int .i64 n1] h K := by kernel_rfl

theorem spec_l16Pow_call {n1 : Int} {h : H} {K : Value → H → Prop} (hs : spec_l16Pow (fun n100001 h =>
  K (.int .i64 n100001) h) n1 h) : callK Try.prog 60 ⟨[.int .i64 n1]⟩ h K :=
  func_calls Try.func60 body60 spec_l16Pow_V (Nat.le_of_ble_eq_true (by kernel_rfl)) (spec_l16Pow_c0 n1 h K ▸ hs)

def spec_l16Pow_M (kr : Int → H → Prop) (n1 : Int) (h : H) : Prop :=
  callD Try.prog 64 ⟨[.int .i64 n1]⟩ h fun v2 h =>
  asI .u64 v2 fun n3 =>
  kr (IntKind.i64.wrap n3) h

theorem spec_l16Pow_M_D {g0 m0 : H} {kr_1 : Int → H → Prop} {kr_2 : Int → H → Prop} (Hkr : ∀ (n200001 : Int) (g m : H), Md g0 m0 g m [] → kr_2 n200001 m → kr_1 n200001 g) : ∀ (n1001 : Int) (g m : H), Md g0 m0 g m [] → spec_l16Pow_M kr_2 n1001 m → spec_l16Pow kr_1 n1001 g := by
  intro n1001 g m R
  rw [spec_l16Pow_M, spec_l16Pow]
  exact (d_call R fun v1002 g m R =>
  (d_asI fun n1003 =>
  (Hkr (IntKind.i64.wrap n1003) _ _ R.sub)))

theorem spec_l16Pow_M_call {n1 : Int} {h : H} {K : Value → H → Prop} (hs : spec_l16Pow_M (fun n300001 h =>
  K (.int .i64 n300001) h) n1 h) : callD Try.prog 60 ⟨[.int .i64 n1]⟩ h K :=
  fun g r => spec_l16Pow_call (spec_l16Pow_M_D (by exact fun n300001 g m R =>
(fun h => ⟨m, R.af, h⟩)) _ _ _ (Md.start r) hs)

noncomputable def code61 : Code := codeOf Try.f61
theorem body61 : Try.f61.body = some code61 := by kernel_rfl
def spec_l16Send_j1 (kn : H → Prop) (i_24 : Int) (sig_25 : Int) (p_26 : Nat) (x_27 : Nat) (h : H) : Prop :=
  ldI .i64 h x_27 8 fun n28 =>
  callK Try.prog 40 ⟨[.int .i64 n28, .int .i64 sig_25]⟩ h fun v29 h =>
  asB v29 fun t30 =>
  ifB (!t30)
  (ldI .i64 h x_27 6 fun n31 =>
  callK Try.prog 63 ⟨[.int .i64 n31, .int .i64 sig_25]⟩ h fun v32 h =>
  asI .i64 v32 fun n33 =>
  st h x_27 6 (.int .i64 n33) fun h =>
  ldL h p_26 0 fun a34 l34 c34 =>
  ldRow h x_27 0 0 [.int .i64, .int .i64, .int .i64, .int .i64, .int .i64, .int .i64, .int .i64, .int .i64, .int .i64, .int .i64] fun n35 n36 n37 n38 n39 n40 n41 n42 n43 n44 =>
  req (0 ≤ (i_24 : Int) ∧ (i_24 : Int) < (l34 : Nat))
  (nz a34 fun b45 o46 =>
  stRow h b45 (o46 + i_24.toNat * 10) 0 [.int .i64 n35, .int .i64 n36, .int .i64 n37, .int .i64 n38, .int .i64 n39, .int .i64 n40, .int .i64 n41, .int .i64 n42, .int .i64 n43, .int .i64 n44] fun h =>
  kn h))
  (ldL h p_26 0 fun a47 l47 c47 =>
  ldRow h x_27 0 0 [.int .i64, .int .i64, .int .i64, .int .i64, .int .i64, .int .i64, .int .i64, .int .i64, .int .i64, .int .i64] fun n48 n49 n50 n51 n52 n53 n54 n55 n56 n57 =>
  req (0 ≤ (i_24 : Int) ∧ (i_24 : Int) < (l47 : Nat))
  (nz a47 fun b58 o59 =>
  stRow h b58 (o59 + i_24.toNat * 10) 0 [.int .i64 n48, .int .i64 n49, .int .i64 n50, .int .i64 n51, .int .i64 n52, .int .i64 n53, .int .i64 n54, .int .i64 n55, .int .i64 n56, .int .i64 n57] fun h =>
  kn h))

def spec_l16Send_j0 (kn : H → Prop) (i_20 : Int) (sig_21 : Int) (p_22 : Nat) (x_23 : Nat) (h : H) : Prop :=
  ifB ((sig_21 : Int) == 12)
  (ldI .i64 h x_23 6 fun n24 =>
  callK Try.prog 52 ⟨[.int .i64 n24, .int .i64 13]⟩ h fun v25 h =>
  asI .i64 v25 fun n26 =>
  st h x_23 6 (.int .i64 n26) fun h =>
  spec_l16Send_j1 kn i_20 sig_21 p_22 x_23 h)
  (spec_l16Send_j1 kn i_20 sig_21 p_22 x_23 h)

def spec_l16Send (kn : H → Prop) (kr : H → Prop) (p_1 : Option Addr) (p_l1 : Nat) (p_c1 : Nat) (i_2 : Int) (sig_3 : Int) (h : H) : Prop :=
  new h [.slice p_1 p_l1 p_c1] 27 fun b4 h =>
  ldL h b4 0 fun a5 l5 c5 =>
  req (0 ≤ (i_2 : Int) ∧ (i_2 : Int) < (l5 : Nat))
  (nz a5 fun b6 o7 =>
  ldRow h b6 (o7 + i_2.toNat * 10) 0 [.int .i64, .int .i64, .int .i64, .int .i64, .int .i64, .int .i64, .int .i64, .int .i64, .int .i64, .int .i64] fun n8 n9 n10 n11 n12 n13 n14 n15 n16 n17 =>
  new h [.int .i64 0, .int .i64 0, .int .i64 0, .int .i64 0, .int .i64 0, .int .i64 0, .int .i64 0, .int .i64 0, .int .i64 0, .int .i64 0] 38 fun b18 h =>
  stRow h b18 0 0 [.int .i64 n8, .int .i64 n9, .int .i64 n10, .int .i64 n11, .int .i64 n12, .int .i64 n13, .int .i64 n14, .int .i64 n15, .int .i64 n16, .int .i64 n17] fun h =>
  ldI .i64 h b18 4 fun n19 =>
  ifB ((n19 : Int) == 3)
  (kr h)
  (ifB ((sig_3 : Int) == 13)
  (st h b18 4 (.int .i64 1) fun h =>
  ldI .i64 h b18 6 fun n20 =>
  callK Try.prog 52 ⟨[.int .i64 n20, .int .i64 12]⟩ h fun v21 h =>
  asI .i64 v21 fun n22 =>
  st h b18 6 (.int .i64 n22) fun h =>
  spec_l16Send_j0 kn i_2 sig_3 b4 b18 h)
  (spec_l16Send_j0 kn i_2 sig_3 b4 b18 h)))

theorem spec_l16Send_j1_eq (K : Cont) (i_24 : Int) (sig_25 : Int) (p_26 : Nat) (x_27 : Nat) (h : H) :
  spec_l16Send_j1 (curV [] (K .normal)) i_24 sig_25 p_26 x_27 h = evC Try.prog 43 [] [] (sub code61 [true, true, true, true, true]) [(1, .int .i64 i_24), (2, .int .i64 sig_25), (3, .pointer (some ⟨p_26, 0, none⟩)), (6, .pointer (some ⟨x_27, 0, none⟩))] h (outsOf (some []) [] none K).K := by kernel_rfl

def spec_l16Send_j1_F : PT := mkF [(1, .int .i64), (2, .int .i64), (3, .blk), (6, .blk)] fun K => spec_l16Send_j1 (curV [] (K .normal))

theorem spec_l16Send_j1_V : Valid Try.prog 43 (sub code61 [true, true, true, true, true]) spec_l16Send_j1_F :=
  piece mixed rows_nil (fun K => by intro i_24 sig_25 p_26 x_27 h hd; exact (spec_l16Send_j1_eq K i_24 sig_25 p_26 x_27 h) ▸ hd)

theorem spec_l16Send_j0_eq (K : Cont) (i_20 : Int) (sig_21 : Int) (p_22 : Nat) (x_23 : Nat) (h : H) :
  spec_l16Send_j0 (curV [] (K .normal)) i_20 sig_21 p_22 x_23 h = evC Try.prog 43 [([true], spec_l16Send_j1_F)] [] (sub code61 [true, true, true, true]) [(1, .int .i64 i_20), (2, .int .i64 sig_21), (3, .pointer (some ⟨p_22, 0, none⟩)), (6, .pointer (some ⟨x_23, 0, none⟩))] h (outsOf (some []) [] none K).K := by kernel_rfl

def spec_l16Send_j0_F : PT := mkF [(1, .int .i64), (2, .int .i64), (3, .blk), (6, .blk)] fun K => spec_l16Send_j0 (curV [] (K .normal))

theorem spec_l16Send_j0_V : Valid Try.prog 43 (sub code61 [true, true, true, true]) spec_l16Send_j0_F :=
  piece mixed (rows_cons (q' := [true]) (valid_at (p := [true, true, true, true]) spec_l16Send_j1_V rfl) rfl rows_nil) (fun K => by intro i_20 sig_21 p_22 x_23 h hd; exact (spec_l16Send_j0_eq K i_20 sig_21 p_22 x_23 h) ▸ hd)

theorem spec_l16Send_eq (K : Cont) (p_1 : Option Addr) (p_l1 : Nat) (p_c1 : Nat) (i_2 : Int) (sig_3 : Int) (h : H) :
  spec_l16Send (curV [] (K .normal)) (curV [] (K .ret)) p_1 p_l1 p_c1 i_2 sig_3 h = evC Try.prog 43 [([true, true, true, true], spec_l16Send_j0_F)] [] code61 [(0, .agg ⟨[.slice p_1 p_l1 p_c1]⟩), (1, .int .i64 i_2), (2, .int .i64 sig_3)] h (outsOf (some []) [] (some []) K).K := by kernel_rfl

def spec_l16Send_F : PT := mkF [(0, .agg [.slice]), (1, .int .i64), (2, .int .i64)] fun K => spec_l16Send (curV [] (K .normal)) (curV [] (K .ret))

theorem spec_l16Send_V : Valid Try.prog 43 code61 spec_l16Send_F :=
  piece mixed (rows_cons (q' := [true, true, true, true]) spec_l16Send_j0_V rfl rows_nil) (fun K => by intro p_1 p_l1 p_c1 i_2 sig_3 h hd; exact (spec_l16Send_eq K p_1 p_l1 p_c1 i_2 sig_3 h) ▸ hd)

theorem spec_l16Send_c0 (p_1 : Option Addr) (p_l1 : Nat) (p_c1 : Nat) (i_2 : Int) (sig_3 : Int) (h : H) (K : Value → H → Prop) :
  spec_l16Send (fun h =>
  K (.tuple ⟨[]⟩) h) (fun h =>
  K (.tuple ⟨[]⟩) h) p_1 p_l1 p_c1 i_2 sig_3 h = callF Try.prog Try.f61.results.toList spec_l16Send_F [.agg ⟨[.slice p_1 p_l1 p_c1]⟩, .int .i64 i_2, .int .i64 sig_3] h K := by kernel_rfl

theorem spec_l16Send_call {p_1 : Option Addr} {p_l1 : Nat} {p_c1 : Nat} {i_2 : Int} {sig_3 : Int} {h : H} {K : Value → H → Prop} (hs : spec_l16Send (fun h =>
  K (.tuple ⟨[]⟩) h) (fun h =>
  K (.tuple ⟨[]⟩) h) p_1 p_l1 p_c1 i_2 sig_3 h) : callK Try.prog 61 ⟨[.agg ⟨[.slice p_1 p_l1 p_c1]⟩, .int .i64 i_2, .int .i64 sig_3]⟩ h K :=
  func_calls Try.func61 body61 spec_l16Send_V (Nat.le_of_ble_eq_true (by kernel_rfl)) (spec_l16Send_c0 p_1 p_l1 p_c1 i_2 sig_3 h K ▸ hs)

def spec_l16Send_M_j1 (kn : H → Prop) (i_31 : Int) (sig_32 : Int) (a33 : Option Addr) (l33 : Nat) (n35 : Int) (n36 : Int) (n37 : Int) (n38 : Int) (n39 : Int) (n40 : Int) (n41 : Int) (n42 : Int) (n43 : Int) (n44 : Int) (h : H) : Prop :=
  callD Try.prog 40 ⟨[.int .i64 n43, .int .i64 sig_32]⟩ h fun v46 h =>
  asB v46 fun t47 =>
  ifB (!t47)
  (callD Try.prog 63 ⟨[.int .i64 n41, .int .i64 sig_32]⟩ h fun v48 h =>
  asI .i64 v48 fun n49 =>
  req (0 ≤ (i_31 : Int) ∧ (i_31 : Int) < (l33 : Nat))
  (nz a33 fun b50 o51 =>
  stRow h b50 (o51 + i_31.toNat * 10) 0 [.int .i64 n35, .int .i64 n36, .int .i64 n37, .int .i64 n38, .int .i64 n39, .int .i64 n40, .int .i64 n49, .int .i64 n42, .int .i64 n43, .int .i64 n44] fun h =>
  kn h))
  (req (0 ≤ (i_31 : Int) ∧ (i_31 : Int) < (l33 : Nat))
  (nz a33 fun b52 o53 =>
  stRow h b52 (o53 + i_31.toNat * 10) 0 [.int .i64 n35, .int .i64 n36, .int .i64 n37, .int .i64 n38, .int .i64 n39, .int .i64 n40, .int .i64 n41, .int .i64 n42, .int .i64 n43, .int .i64 n44] fun h =>
  kn h))

def spec_l16Send_M_j0 (kn : H → Prop) (i_16 : Int) (sig_17 : Int) (a18 : Option Addr) (l18 : Nat) (n20 : Int) (n21 : Int) (n22 : Int) (n23 : Int) (n24 : Int) (n25 : Int) (n26 : Int) (n27 : Int) (n28 : Int) (n29 : Int) (h : H) : Prop :=
  ifB ((sig_17 : Int) == 12)
  (callD Try.prog 52 ⟨[.int .i64 n26, .int .i64 13]⟩ h fun v31 h =>
  asI .i64 v31 fun n32 =>
  spec_l16Send_M_j1 kn i_16 sig_17 a18 l18 n20 n21 n22 n23 n24 n25 n32 n27 n28 n29 h)
  (spec_l16Send_M_j1 kn i_16 sig_17 a18 l18 n20 n21 n22 n23 n24 n25 n26 n27 n28 n29 h)

def spec_l16Send_M (kn : H → Prop) (kr : H → Prop) (p_1 : Option Addr) (p_l1 : Nat) (p_c1 : Nat) (i_2 : Int) (sig_3 : Int) (h : H) : Prop :=
  req (0 ≤ (i_2 : Int) ∧ (i_2 : Int) < (p_l1 : Nat))
  (nz p_1 fun b4 o5 =>
  ldRow h b4 (o5 + i_2.toNat * 10) 0 [.int .i64, .int .i64, .int .i64, .int .i64, .int .i64, .int .i64, .int .i64, .int .i64, .int .i64, .int .i64] fun n6 n7 n8 n9 n10 n11 n12 n13 n14 n15 =>
  ifB ((n10 : Int) == 3)
  (kr h)
  (ifB ((sig_3 : Int) == 13)
  (callD Try.prog 52 ⟨[.int .i64 n12, .int .i64 12]⟩ h fun v16 h =>
  asI .i64 v16 fun n17 =>
  spec_l16Send_M_j0 kn i_2 sig_3 p_1 p_l1 n6 n7 n8 n9 1 n11 n17 n13 n14 n15 h)
  (spec_l16Send_M_j0 kn i_2 sig_3 p_1 p_l1 n6 n7 n8 n9 n10 n11 n12 n13 n14 n15 h)))

theorem spec_l16Send_M_j1_D {g0 m0 : H} {kn_1 : H → Prop} {kn_2 : H → Prop} (Hkn : ∀ (g m : H), Md g0 m0 g m [] → kn_2 m → kn_1 g) : ∀ (i_1031 : Int) (sig_1032 : Int) (a1033 : Option Addr) (l1033 : Nat) (c1033 : Nat) (n1035 : Int) (n1036 : Int) (n1037 : Int) (n1038 : Int) (n1039 : Int) (n1040 : Int) (n1041 : Int) (n1042 : Int) (n1043 : Int) (n1044 : Int) (p1034 : Nat) (p1045 : Nat) (g m : H), Md g0 m0 g m [lo p1034 [.slice a1033 l1033 c1033], lo p1045 [.int .i64 n1035, .int .i64 n1036, .int .i64 n1037, .int .i64 n1038, .int .i64 n1039, .int .i64 n1040, .int .i64 n1041, .int .i64 n1042, .int .i64 n1043, .int .i64 n1044]] → spec_l16Send_M_j1 kn_2 i_1031 sig_1032 a1033 l1033 n1035 n1036 n1037 n1038 n1039 n1040 n1041 n1042 n1043 n1044 m → spec_l16Send_j1 kn_1 i_1031 sig_1032 p1034 p1045 g := by
  intro i_1031 sig_1032 a1033 l1033 c1033 n1035 n1036 n1037 n1038 n1039 n1040 n1041 n1042 n1043 n1044 p1034 p1045 g m R
  rw [spec_l16Send_M_j1, spec_l16Send_j1]
  exact (p_ldI R rfl (d_call R fun v1046 g m R =>
  (d_asB fun t1047 =>
  (d_if (p_ldI R rfl (d_call R fun v1048 g m R =>
  (d_asI fun n1049 =>
  (p_st R (cs' := [.int .i64 n1035, .int .i64 n1036, .int .i64 n1037, .int .i64 n1038, .int .i64 n1039, .int .i64 n1040, .int .i64 n1049, .int .i64 n1042, .int .i64 n1043, .int .i64 n1044]) ⟨rfl, rfl⟩ fun g R =>
  (p_ldL R rfl (p_row_I10 R rfl rfl rfl rfl rfl rfl rfl rfl rfl rfl (d_req (d_nz fun b1050 o1051 =>
  (d_stRow R fun g m R =>
  (Hkn _ _ R.sub))))))))))
  (p_ldL R rfl (p_row_I10 R rfl rfl rfl rfl rfl rfl rfl rfl rfl rfl (d_req (d_nz fun b1052 o1053 =>
  (d_stRow R fun g m R =>
  (Hkn _ _ R.sub))))))))))

theorem spec_l16Send_M_j0_D {g0 m0 : H} {kn_1 : H → Prop} {kn_2 : H → Prop} (Hkn : ∀ (g m : H), Md g0 m0 g m [] → kn_2 m → kn_1 g) : ∀ (i_1016 : Int) (sig_1017 : Int) (a1018 : Option Addr) (l1018 : Nat) (c1018 : Nat) (n1020 : Int) (n1021 : Int) (n1022 : Int) (n1023 : Int) (n1024 : Int) (n1025 : Int) (n1026 : Int) (n1027 : Int) (n1028 : Int) (n1029 : Int) (p1019 : Nat) (p1030 : Nat) (g m : H), Md g0 m0 g m [lo p1019 [.slice a1018 l1018 c1018], lo p1030 [.int .i64 n1020, .int .i64 n1021, .int .i64 n1022, .int .i64 n1023, .int .i64 n1024, .int .i64 n1025, .int .i64 n1026, .int .i64 n1027, .int .i64 n1028, .int .i64 n1029]] → spec_l16Send_M_j0 kn_2 i_1016 sig_1017 a1018 l1018 n1020 n1021 n1022 n1023 n1024 n1025 n1026 n1027 n1028 n1029 m → spec_l16Send_j0 kn_1 i_1016 sig_1017 p1019 p1030 g := by
  intro i_1016 sig_1017 a1018 l1018 c1018 n1020 n1021 n1022 n1023 n1024 n1025 n1026 n1027 n1028 n1029 p1019 p1030 g m R
  rw [spec_l16Send_M_j0, spec_l16Send_j0]
  exact (d_if (p_ldI R rfl (d_call R fun v1031 g m R =>
  (d_asI fun n1032 =>
  (p_st R (cs' := [.int .i64 n1020, .int .i64 n1021, .int .i64 n1022, .int .i64 n1023, .int .i64 n1024, .int .i64 n1025, .int .i64 n1032, .int .i64 n1027, .int .i64 n1028, .int .i64 n1029]) ⟨rfl, rfl⟩ fun g R =>
  (spec_l16Send_M_j1_D (by exact fun g m R =>
  (Hkn _ _ R.sub)) i_1016 sig_1017 a1018 l1018 c1018 n1020 n1021 n1022 n1023 n1024 n1025 n1032 n1027 n1028 n1029 p1019 p1030 _ _ R.sub)))))
  (spec_l16Send_M_j1_D (by exact fun g m R =>
  (Hkn _ _ R.sub)) i_1016 sig_1017 a1018 l1018 c1018 n1020 n1021 n1022 n1023 n1024 n1025 n1026 n1027 n1028 n1029 p1019 p1030 _ _ R.sub))

theorem spec_l16Send_M_D {g0 m0 : H} {kn_1 : H → Prop} {kn_2 : H → Prop} (Hkn : ∀ (g m : H), Md g0 m0 g m [] → kn_2 m → kn_1 g)
  {kr_1 : H → Prop} {kr_2 : H → Prop} (Hkr : ∀ (g m : H), Md g0 m0 g m [] → kr_2 m → kr_1 g) : ∀ (p_1001 : Option Addr) (p_l1001 : Nat) (p_c1001 : Nat) (i_1002 : Int) (sig_1003 : Int) (g m : H), Md g0 m0 g m [] → spec_l16Send_M kn_2 kr_2 p_1001 p_l1001 p_c1001 i_1002 sig_1003 m → spec_l16Send kn_1 kr_1 p_1001 p_l1001 p_c1001 i_1002 sig_1003 g := by
  intro p_1001 p_l1001 p_c1001 i_1002 sig_1003 g m R
  rw [spec_l16Send_M, spec_l16Send]
  exact (p_new R fun p1004 g R =>
  (p_ldL R rfl (d_req (d_nz fun b1005 o1006 =>
  (d_row_I10 R fun n1007 n1008 n1009 n1010 n1011 n1012 n1013 n1014 n1015 n1016 =>
  (p_new R fun p1017 g R =>
  (p_stRow R (cs' := [.int .i64 n1007, .int .i64 n1008, .int .i64 n1009, .int .i64 n1010, .int .i64 n1011, .int .i64 n1012, .int .i64 n1013, .int .i64 n1014, .int .i64 n1015, .int .i64 n1016]) ⟨rfl, rfl, rfl⟩ fun g R =>
  (p_ldI R rfl (d_if (Hkr _ _ R.sub)
  (d_if (p_st R (cs' := [.int .i64 n1007, .int .i64 n1008, .int .i64 n1009, .int .i64 n1010, .int .i64 1, .int .i64 n1012, .int .i64 n1013, .int .i64 n1014, .int .i64 n1015, .int .i64 n1016]) ⟨rfl, rfl⟩ fun g R =>
  (p_ldI R rfl (d_call R fun v1018 g m R =>
  (d_asI fun n1019 =>
  (p_st R (cs' := [.int .i64 n1007, .int .i64 n1008, .int .i64 n1009, .int .i64 n1010, .int .i64 1, .int .i64 n1012, .int .i64 n1019, .int .i64 n1014, .int .i64 n1015, .int .i64 n1016]) ⟨rfl, rfl⟩ fun g R =>
  (spec_l16Send_M_j0_D (by exact fun g m R =>
  (Hkn _ _ R.sub)) i_1002 sig_1003 p_1001 p_l1001 p_c1001 n1007 n1008 n1009 n1010 1 n1012 n1019 n1014 n1015 n1016 p1004 p1017 _ _ R.sub))))))
  (spec_l16Send_M_j0_D (by exact fun g m R =>
  (Hkn _ _ R.sub)) i_1002 sig_1003 p_1001 p_l1001 p_c1001 n1007 n1008 n1009 n1010 n1011 n1012 n1013 n1014 n1015 n1016 p1004 p1017 _ _ R.sub)))))))))))

theorem spec_l16Send_M_call {p_1 : Option Addr} {p_l1 : Nat} {p_c1 : Nat} {i_2 : Int} {sig_3 : Int} {h : H} {K : Value → H → Prop} (hs : spec_l16Send_M (fun h =>
  K (.tuple ⟨[]⟩) h) (fun h =>
  K (.tuple ⟨[]⟩) h) p_1 p_l1 p_c1 i_2 sig_3 h) : callD Try.prog 61 ⟨[.agg ⟨[.slice p_1 p_l1 p_c1]⟩, .int .i64 i_2, .int .i64 sig_3]⟩ h K :=
  fun g r => spec_l16Send_call (spec_l16Send_M_D (by exact fun g m R =>
(fun h => ⟨m, R.af, h⟩))
(by exact fun g m R =>
(fun h => ⟨m, R.af, h⟩)) _ _ _ _ _ _ _ (Md.start r) hs)

noncomputable def code62 : Code := codeOf Try.f62
theorem body62 : Try.f62.body = some code62 := by kernel_rfl
def spec_l16Cut (kr : Nat → H → Prop) (p_1 : Option Addr) (p_l1 : Nat) (p_c1 : Nat) (i_2 : Int) (h : H) : Prop :=
  new h [.slice p_1 p_l1 p_c1] 27 fun b3 h =>
  new h [.slice none 0 0] 27 fun b4 h =>
  ldL h b3 0 fun a5 l5 c5 =>
  req (0 ≤ (i_2 : Int) ∧ (i_2 : Int) ≤ (c5 : Nat))
  (req (plainA a5 = true)
  (ldL h b3 0 fun a6 l6 c6 =>
  req (0 ≤ (IntKind.i64.wrap (i_2 + 1) : Int) ∧ (IntKind.i64.wrap (i_2 + 1) : Int) ≤ (l6 : Nat))
  (req (plainA a6 = true)
  (new h [] 38 fun b7 h =>
  cell h b3 0 = some (.slice a6 l6 c6) ∧ (cell h b3 0 = some (.slice a5 l5 c5) ∧ (appendK Try.prog 38 h (some ⟨b7, 0, none⟩) 0 0 (.slice (slB a5 0 c5 10) (i_2.toNat - 0) (c5 - 0)) fun a8 l8 c8 h =>
  cell h b3 0 = some (.slice a6 l6 c6) ∧ (appendK Try.prog 38 h a8 l8 c8 (.slice (slB a6 ((IntKind.i64.wrap (i_2 + 1)).toNat) c6 10) (l6 - (IntKind.i64.wrap (i_2 + 1)).toNat) (c6 - (IntKind.i64.wrap (i_2 + 1)).toNat)) fun a9 l9 c9 h =>
  st h b3 0 (.slice a9 l9 c9) fun h =>
  ldRow h b3 0 0 [.slice] fun a10 l10 c10 =>
  stRow h b4 0 0 [.slice a10 l10 c10] fun h =>
  kr b4 h)))))))

theorem spec_l16Cut_eq (K : Cont) (p_1 : Option Addr) (p_l1 : Nat) (p_c1 : Nat) (i_2 : Int) (h : H) :
  spec_l16Cut (curV [(4, .blk)] (K .ret)) p_1 p_l1 p_c1 i_2 h = evC Try.prog 19 [] [] code62 [(0, .agg ⟨[.slice p_1 p_l1 p_c1]⟩), (1, .int .i64 i_2)] h (outsOf none [] (some [(4, .blk)]) K).K := by kernel_rfl

def spec_l16Cut_F : PT := mkF [(0, .agg [.slice]), (1, .int .i64)] fun K => spec_l16Cut (curV [(4, .blk)] (K .ret))

theorem spec_l16Cut_V : Valid Try.prog 19 code62 spec_l16Cut_F :=
  piece mixed rows_nil (fun K => by intro p_1 p_l1 p_c1 i_2 h hd; exact (spec_l16Cut_eq K p_1 p_l1 p_c1 i_2 h) ▸ hd)

theorem spec_l16Cut_c0 (p_1 : Option Addr) (p_l1 : Nat) (p_c1 : Nat) (i_2 : Int) (h : H) (K : Value → H → Prop) :
  spec_l16Cut (fun b100001 h =>
  ldRow h b100001 0 0 [.slice] fun a100002 l100002 c100002 =>
  K (.agg ⟨[.slice a100002 l100002 c100002]⟩) h) p_1 p_l1 p_c1 i_2 h = callF Try.prog Try.f62.results.toList spec_l16Cut_F [.agg ⟨[.slice p_1 p_l1 p_c1]⟩, .int .i64 i_2] h K := by kernel_rfl

theorem spec_l16Cut_call {p_1 : Option Addr} {p_l1 : Nat} {p_c1 : Nat} {i_2 : Int} {h : H} {K : Value → H → Prop} (hs : spec_l16Cut (fun b100001 h =>
  ldRow h b100001 0 0 [.slice] fun a100002 l100002 c100002 =>
  K (.agg ⟨[.slice a100002 l100002 c100002]⟩) h) p_1 p_l1 p_c1 i_2 h) : callK Try.prog 62 ⟨[.agg ⟨[.slice p_1 p_l1 p_c1]⟩, .int .i64 i_2]⟩ h K :=
  func_calls Try.func62 body62 spec_l16Cut_V (Nat.le_of_ble_eq_true (by kernel_rfl)) (spec_l16Cut_c0 p_1 p_l1 p_c1 i_2 h K ▸ hs)

def spec_l16Cut_M (kr : Option Addr → Nat → Nat → H → Prop) (p_1 : Option Addr) (p_l1 : Nat) (p_c1 : Nat) (i_2 : Int) (h : H) : Prop :=
  req (0 ≤ (i_2 : Int) ∧ (i_2 : Int) ≤ (p_c1 : Nat))
  (req (plainA p_1 = true)
  (req (0 ≤ (IntKind.i64.wrap (i_2 + 1) : Int) ∧ (IntKind.i64.wrap (i_2 + 1) : Int) ≤ (p_l1 : Nat))
  (req (plainA p_1 = true)
  (newD h [] 38 fun b3 h =>
  appendD Try.prog 38 h (some ⟨b3, 0, none⟩) 0 0 (.slice (slB p_1 0 p_c1 10) (i_2.toNat - 0) (p_c1 - 0)) fun a4 l4 c4 h =>
  appendD Try.prog 38 h a4 l4 c4 (.slice (slB p_1 ((IntKind.i64.wrap (i_2 + 1)).toNat) p_c1 10) (p_l1 - (IntKind.i64.wrap (i_2 + 1)).toNat) (p_c1 - (IntKind.i64.wrap (i_2 + 1)).toNat)) fun a5 l5 c5 h =>
  kr a5 l5 c5 h))))

theorem spec_l16Cut_M_D {g0 m0 : H} {kr_1 : Nat → H → Prop} {kr_2 : Option Addr → Nat → Nat → H → Prop} (Hkr : ∀ (a200001 : Option Addr) (l200001 : Nat) (c200001 : Nat) (p200002 : Nat) (g m : H), Md g0 m0 g m [lo p200002 [.slice a200001 l200001 c200001]] → kr_2 a200001 l200001 c200001 m → kr_1 p200002 g) : ∀ (p_1001 : Option Addr) (p_l1001 : Nat) (p_c1001 : Nat) (i_1002 : Int) (g m : H), Md g0 m0 g m [] → spec_l16Cut_M kr_2 p_1001 p_l1001 p_c1001 i_1002 m → spec_l16Cut kr_1 p_1001 p_l1001 p_c1001 i_1002 g := by
  intro p_1001 p_l1001 p_c1001 i_1002 g m R
  rw [spec_l16Cut_M, spec_l16Cut]
  exact (p_new R fun p1003 g R =>
  (p_new R fun p1004 g R =>
  (p_ldL R rfl (d_req (d_req (p_ldL R rfl (d_req (d_req (d_new R fun b1005 g m R =>
  (p_cell R rfl (p_cell R rfl (d_append R fun a1006 l1006 c1006 g m R =>
  (p_cell R rfl (d_append R fun a1007 l1007 c1007 g m R =>
  (p_st R (cs' := [.slice a1007 l1007 c1007]) ⟨rfl, rfl⟩ fun g R =>
  (p_row_L R rfl (p_stRow R (cs' := [.slice a1007 l1007 c1007]) ⟨rfl, rfl, rfl⟩ fun g R =>
  (Hkr a1007 l1007 c1007 p1004 _ _ R.sub))))))))))))))))))

theorem spec_l16Cut_M_call {p_1 : Option Addr} {p_l1 : Nat} {p_c1 : Nat} {i_2 : Int} {h : H} {K : Value → H → Prop} (hs : spec_l16Cut_M (fun a300001 l300001 c300001 h =>
  K (.agg ⟨[.slice a300001 l300001 c300001]⟩) h) p_1 p_l1 p_c1 i_2 h) : callD Try.prog 62 ⟨[.agg ⟨[.slice p_1 p_l1 p_c1]⟩, .int .i64 i_2]⟩ h K :=
  fun g r => spec_l16Cut_call (spec_l16Cut_M_D (by exact fun a300001 l300001 c300001 p300002 g m R =>
(p_row_L R rfl (fun h => ⟨m, R.af, h⟩))) _ _ _ _ _ _ (Md.start r) hs)

noncomputable def code63 : Code := codeOf Try.f63
theorem body63 : Try.f63.body = some code63 := by kernel_rfl
def spec_l16With (kr : Int → H → Prop) (n1 : Int) (sig_2 : Int) (h : H) : Prop :=
  callK Try.prog 40 ⟨[.int .i64 n1, .int .i64 sig_2]⟩ h fun v3 h =>
  asB v3 fun t4 =>
  ifB t4
  (kr n1 h)
  (callK Try.prog 60 ⟨[.int .i64 sig_2]⟩ h fun v5 h =>
  asI .i64 v5 fun n6 =>
  kr (IntKind.i64.wrap (n1 + n6)) h)

theorem spec_l16With_eq (K : Cont) (n1 : Int) (sig_2 : Int) (h : H) :
  spec_l16With (curV [(4, .int .i64)] (K .ret)) n1 sig_2 h = evC Try.prog 13 [] [] code63 [(0, .int .i64 n1), (1, .int .i64 sig_2)] h (outsOf none [] (some [(4, .int .i64)]) K).K := by kernel_rfl

def spec_l16With_F : PT := mkF [(0, .int .i64), (1, .int .i64)] fun K => spec_l16With (curV [(4, .int .i64)] (K .ret))

theorem spec_l16With_V : Valid Try.prog 13 code63 spec_l16With_F :=
  piece mixed rows_nil (fun K => by intro n1 sig_2 h hd; exact (spec_l16With_eq K n1 sig_2 h) ▸ hd)

theorem spec_l16With_c0 (n1 : Int) (sig_2 : Int) (h : H) (K : Value → H → Prop) :
  spec_l16With (fun n100001 h =>
  K (.int .i64 n100001) h) n1 sig_2 h = callF Try.prog Try.f63.results.toList spec_l16With_F [.int .i64 n1, .int .i64 sig_2] h K := by kernel_rfl

theorem spec_l16With_call {n1 : Int} {sig_2 : Int} {h : H} {K : Value → H → Prop} (hs : spec_l16With (fun n100001 h =>
  K (.int .i64 n100001) h) n1 sig_2 h) : callK Try.prog 63 ⟨[.int .i64 n1, .int .i64 sig_2]⟩ h K :=
  func_calls Try.func63 body63 spec_l16With_V (Nat.le_of_ble_eq_true (by kernel_rfl)) (spec_l16With_c0 n1 sig_2 h K ▸ hs)

def spec_l16With_M (kr : Int → H → Prop) (n1 : Int) (sig_2 : Int) (h : H) : Prop :=
  callD Try.prog 40 ⟨[.int .i64 n1, .int .i64 sig_2]⟩ h fun v3 h =>
  asB v3 fun t4 =>
  ifB t4
  (kr n1 h)
  (callD Try.prog 60 ⟨[.int .i64 sig_2]⟩ h fun v5 h =>
  asI .i64 v5 fun n6 =>
  kr (IntKind.i64.wrap (n1 + n6)) h)

theorem spec_l16With_M_D {g0 m0 : H} {kr_1 : Int → H → Prop} {kr_2 : Int → H → Prop} (Hkr : ∀ (n200001 : Int) (g m : H), Md g0 m0 g m [] → kr_2 n200001 m → kr_1 n200001 g) : ∀ (n1001 : Int) (sig_1002 : Int) (g m : H), Md g0 m0 g m [] → spec_l16With_M kr_2 n1001 sig_1002 m → spec_l16With kr_1 n1001 sig_1002 g := by
  intro n1001 sig_1002 g m R
  rw [spec_l16With_M, spec_l16With]
  exact (d_call R fun v1003 g m R =>
  (d_asB fun t1004 =>
  (d_if (Hkr n1001 _ _ R.sub)
  (d_call R fun v1005 g m R =>
  (d_asI fun n1006 =>
  (Hkr (IntKind.i64.wrap (n1001 + n1006)) _ _ R.sub))))))

theorem spec_l16With_M_call {n1 : Int} {sig_2 : Int} {h : H} {K : Value → H → Prop} (hs : spec_l16With_M (fun n300001 h =>
  K (.int .i64 n300001) h) n1 sig_2 h) : callD Try.prog 63 ⟨[.int .i64 n1, .int .i64 sig_2]⟩ h K :=
  fun g r => spec_l16With_call (spec_l16With_M_D (by exact fun n300001 g m R =>
(fun h => ⟨m, R.af, h⟩)) _ _ _ _ (Md.start r) hs)

noncomputable def code64 : Code := codeOf Try.f64
theorem body64 : Try.f64.body = some code64 := by kernel_rfl
def spec_l1Pow_l0 (kx0 : Int → H → Prop) : Nat → Int → Int → Int → H → Prop
 | 0, _, _, _, _ => False
 | N + 1, n2, x_3, i_4, h =>
  ifB (decide ((i_4 : Int) < n2))
  (spec_l1Pow_l0 kx0 N n2 (IntKind.u64.wrap (x_3 * 2)) (IntKind.i64.wrap (i_4 + 1)) h)
  (kx0 x_3 h)

def spec_l1Pow (kr : Int → H → Prop) (n1 : Int) (h : H) : Prop :=
  ∃ M3, spec_l1Pow_l0 (fun x_2 h =>
  kr x_2 h) M3 n1 1 0 h

theorem spec_l1Pow_l0_eq (K : Cont) (N : Nat) (n2 : Int) (x_3 : Int) (i_4 : Int) (h : H) :
  spec_l1Pow_l0 (curV [(3, .int .u64)] (K (.exit 0))) (N + 1) n2 x_3 i_4 h = evC Try.prog 13 [] [] (sub code64 [true, true, false, true, false, false]) [(0, .int .i64 n2), (3, .int .u64 x_3), (4, .int .i64 i_4)] h ((outsOf none [(0, [(3, .int .u64)])] none K).loop [(0, .int .i64), (3, .int .u64), (4, .int .i64)] (spec_l1Pow_l0 (curV [(3, .int .u64)] (K (.exit 0))) N)).K := by kernel_rfl

def spec_l1Pow_l0_F : PT := mkL [(0, .int .i64), (3, .int .u64), (4, .int .i64)] fun K N => spec_l1Pow_l0 (curV [(3, .int .u64)] (K (.exit 0))) N

theorem spec_l1Pow_l0_V : Valid Try.prog 13 (sub code64 [true, true, false, true, false]) spec_l1Pow_l0_F :=
  loop_at (code64) [true, true, false, true, false] (loop_piece (c := (sub code64 [true, true, false, true, false, false])) mixed rows_nil (fun K => by intro n2 x_3 i_4 h hd; exact hd) (fun K N => by intro n2 x_3 i_4 h hd; exact (spec_l1Pow_l0_eq K N n2 x_3 i_4 h) ▸ hd))

theorem spec_l1Pow_eq (K : Cont) (n1 : Int) (h : H) :
  spec_l1Pow (curV [(2, .int .u64)] (K .ret)) n1 h = evC Try.prog 13 [([false, false, true, false, true, true], spec_l1Pow_l0_F)] [] code64 [(0, .int .i64 n1)] h (outsOf none [] (some [(2, .int .u64)]) K).K := by kernel_rfl

def spec_l1Pow_F : PT := mkF [(0, .int .i64)] fun K => spec_l1Pow (curV [(2, .int .u64)] (K .ret))

theorem spec_l1Pow_V : Valid Try.prog 13 code64 spec_l1Pow_F :=
  piece mixed (rows_cons (q' := [true, true, false, true, false]) spec_l1Pow_l0_V rfl rows_nil) (fun K => by intro n1 h hd; exact (spec_l1Pow_eq K n1 h) ▸ hd)

theorem spec_l1Pow_c0 (n1 : Int) (h : H) (K : Value → H → Prop) :
  spec_l1Pow (fun n100001 h =>
  K (.int .u64 n100001) h) n1 h = callF Try.prog Try.f64.results.toList spec_l1Pow_F [.int .i64 n1] h K := by kernel_rfl

theorem spec_l1Pow_call {n1 : Int} {h : H} {K : Value → H → Prop} (hs : spec_l1Pow (fun n100001 h =>
  K (.int .u64 n100001) h) n1 h) : callK Try.prog 64 ⟨[.int .i64 n1]⟩ h K :=
  func_calls Try.func64 body64 spec_l1Pow_V (Nat.le_of_ble_eq_true (by kernel_rfl)) (spec_l1Pow_c0 n1 h K ▸ hs)

def spec_l1Pow_M_l0 (kx0 : Int → H → Prop) : Nat → Int → Int → Int → H → Prop
 | 0, _, _, _, _ => False
 | N + 1, n2, x_3, i_4, h =>
  ifB (decide ((i_4 : Int) < n2))
  (spec_l1Pow_M_l0 kx0 N n2 (IntKind.u64.wrap (x_3 * 2)) (IntKind.i64.wrap (i_4 + 1)) h)
  (kx0 x_3 h)

def spec_l1Pow_M (kr : Int → H → Prop) (n1 : Int) (h : H) : Prop :=
  ∃ M3, spec_l1Pow_M_l0 (fun x_2 h =>
  kr x_2 h) M3 n1 1 0 h

theorem spec_l1Pow_M_l0_D {g0 m0 : H} {kx0_1 : Int → H → Prop} {kx0_2 : Int → H → Prop} (Hkx0 : ∀ (x_200001 : Int) (g m : H), Md g0 m0 g m [] → kx0_2 x_200001 m → kx0_1 x_200001 g) : ∀ (N : Nat) (n1002 : Int) (x_1003 : Int) (i_1004 : Int) (g m : H), Md g0 m0 g m [] → spec_l1Pow_M_l0 kx0_2 N n1002 x_1003 i_1004 m → spec_l1Pow_l0 kx0_1 N n1002 x_1003 i_1004 g := by
  intro N
  induction N with
  | zero => intro n1002 x_1003 i_1004 g m R h0; exact h0.elim
  | succ N ih =>
    intro n1002 x_1003 i_1004 g m R
    rw [spec_l1Pow_M_l0, spec_l1Pow_l0]
    exact (d_if (ih n1002 (IntKind.u64.wrap (x_1003 * 2)) (IntKind.i64.wrap (i_1004 + 1)) _ _ R.sub)
  (Hkx0 x_1003 _ _ R.sub))

theorem spec_l1Pow_M_D {g0 m0 : H} {kr_1 : Int → H → Prop} {kr_2 : Int → H → Prop} (Hkr : ∀ (n200001 : Int) (g m : H), Md g0 m0 g m [] → kr_2 n200001 m → kr_1 n200001 g) : ∀ (n1001 : Int) (g m : H), Md g0 m0 g m [] → spec_l1Pow_M kr_2 n1001 m → spec_l1Pow kr_1 n1001 g := by
  intro n1001 g m R
  rw [spec_l1Pow_M, spec_l1Pow]
  exact (d_ex fun N => spec_l1Pow_M_l0_D (by exact fun x_1002 g m R =>
  (Hkr x_1002 _ _ R.sub)) N n1001 1 0 _ _ R.sub)

theorem spec_l1Pow_M_call {n1 : Int} {h : H} {K : Value → H → Prop} (hs : spec_l1Pow_M (fun n300001 h =>
  K (.int .u64 n300001) h) n1 h) : callD Try.prog 64 ⟨[.int .i64 n1]⟩ h K :=
  fun g r => spec_l1Pow_call (spec_l1Pow_M_D (by exact fun n300001 g m R =>
(fun h => ⟨m, R.af, h⟩)) _ _ _ (Md.start r) hs)

end Go.Proofs.Ytgcjjapmdbgofaa
