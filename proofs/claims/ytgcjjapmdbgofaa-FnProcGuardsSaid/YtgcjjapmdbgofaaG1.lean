import Derived.Test.YtgcjjapmdbgofaaProg
import Derived.Test.YtgcjjapmdbgofaaG0
set_option linter.unusedVariables false
set_option maxRecDepth 100000
namespace Go.Proofs.Ytgcjjapmdbgofaa
open Go.Eng

noncomputable def code22 : Code := codeOf Try.f22
theorem body22 : Try.f22.body = some code22 := by kernel_rfl
def spec_l16DrawOp_j2 (kn : Option Addr → Nat → Nat → H → Prop) (p24 : Option Addr) (b25 : Nat) (b26 : Nat) (h : H) : Prop :=
  callK Try.prog 36 ⟨[.pointer p24, .int .i64 20]⟩ h fun v27 h =>
  asB v27 fun t28 =>
  ifB t28
  (new h [.int .i64 (-1), .int .i64 255, .int .i64 256] 2 fun b29 h =>
  callK Try.prog 35 ⟨[.pointer p24, .int .i64 3]⟩ h fun v30 h =>
  asI .i64 v30 fun n31 =>
  req (0 ≤ (n31 : Int) ∧ (n31 : Int) < (3 : Nat))
  (ldI .i64 h b29 (0 + n31.toNat * 1) fun n32 =>
  st h b26 3 (.int .i64 n32) fun h =>
  kn p24 b25 b26 h))
  (kn p24 b25 b26 h)

def spec_l16DrawOp_j4 (kn : Option Addr → Nat → Nat → H → Prop) (p63 : Option Addr) (b64 : Nat) (b65 : Nat) (b66 : Nat) (t67 : Bool) (h : H) : Prop :=
  ifB t67
  (ldI .i64 h b66 0 fun n68 =>
  st h b65 2 (.int .i64 n68) fun h =>
  st h b65 3 (.int .i64 12) fun h =>
  ldI .i64 h b66 6 fun n69 =>
  callK Try.prog 40 ⟨[.int .i64 n69, .int .i64 12]⟩ h fun v70 h =>
  asB v70 fun t71 =>
  ifB t71
  (st h b65 3 (.int .i64 13) fun h =>
  kn p63 b64 b65 h)
  (kn p63 b64 b65 h))
  (kn p63 b64 b65 h)

def spec_l16DrawOp_j3 (kn : Option Addr → Nat → Nat → H → Prop) (p57 : Option Addr) (b58 : Nat) (b59 : Nat) (b60 : Nat) (h : H) : Prop :=
  callK Try.prog 39 ⟨[.pointer p57]⟩ h fun v61 h =>
  asI .i64 v61 fun n62 =>
  st h b59 3 (.int .i64 n62) fun h =>
  callK Try.prog 36 ⟨[.pointer p57, .int .i64 2]⟩ h fun v63 h =>
  asB v63 fun t64 =>
  ifB t64
  (ldI .i64 h b60 6 fun n65 =>
  callK Try.prog 40 ⟨[.int .i64 n65, .int .i64 13]⟩ h fun v66 h =>
  asB v66 fun t67 =>
  ifB t67
  (spec_l16DrawOp_j4 kn p57 b58 b59 b60 true h)
  (ldI .i64 h b60 6 fun n68 =>
  callK Try.prog 40 ⟨[.int .i64 n68, .int .i64 12]⟩ h fun v69 h =>
  asB v69 fun t70 =>
  spec_l16DrawOp_j4 kn p57 b58 b59 b60 t70 h))
  (spec_l16DrawOp_j4 kn p57 b58 b59 b60 false h)

def spec_l16DrawOp_j6 (kn : Option Addr → Nat → Nat → H → Prop) (p106 : Option Addr) (b107 : Nat) (b108 : Nat) (b109 : Nat) (b110 : Nat) (h : H) : Prop :=
  ldI .i64 h b108 2 fun n111 =>
  ldI .i64 h b109 2 fun n112 =>
  ldI .i64 h b110 2 fun n113 =>
  callK Try.prog 35 ⟨[.pointer p106, .int .i64 34]⟩ h fun v114 h =>
  asI .i64 v114 fun n115 =>
  cell h b110 2 = some (.int .i64 n113) ∧ (cell h b109 2 = some (.int .i64 n112) ∧ (cell h b108 2 = some (.int .i64 n111) ∧ ((new h [.int .i64 n111, .int .i64 n112, .int .i64 n113, .int .i64 n115] 2 fun b116 h =>
  callK Try.prog 35 ⟨[.pointer p106, .int .i64 4]⟩ h fun v117 h =>
  asI .i64 v117 fun n118 =>
  req (0 ≤ (n118 : Int) ∧ (n118 : Int) < (4 : Nat))
  (ldI .i64 h b116 (0 + n118.toNat * 1) fun n119 =>
  st h b108 3 (.int .i64 n119) fun h =>
  kn p106 b107 b108 h)) ∧ (callK Try.prog 35 ⟨[.pointer p106, .int .i64 4]⟩ h fun v120 h =>
  asI .i64 v120 fun n121 =>
  cell h b110 2 = some (.int .i64 n113) ∧ (cell h b109 2 = some (.int .i64 n112) ∧ (cell h b108 2 = some (.int .i64 n111) ∧ (new h [.int .i64 n111, .int .i64 n112, .int .i64 n113, .int .i64 n115] 2 fun b122 h =>
  req (0 ≤ (n121 : Int) ∧ (n121 : Int) < (4 : Nat))
  (ldI .i64 h b122 (0 + n121.toNat * 1) fun n123 =>
  st h b108 3 (.int .i64 n123) fun h =>
  kn p106 b107 b108 h))))))))

def spec_l16DrawOp_j5 (kn : Option Addr → Nat → Nat → H → Prop) (p101 : Option Addr) (b102 : Nat) (b103 : Nat) (b104 : Nat) (b105 : Nat) (h : H) : Prop :=
  callK Try.prog 36 ⟨[.pointer p101, .int .i64 2]⟩ h fun v106 h =>
  asB v106 fun t107 =>
  ifB t107
  (ldI .i64 h b105 1 fun n108 =>
  st h b103 1 (.int .i64 n108) fun h =>
  ldI .i64 h b105 0 fun n109 =>
  st h b103 2 (.int .i64 n109) fun h =>
  spec_l16DrawOp_j6 kn p101 b102 b103 b104 b105 h)
  (spec_l16DrawOp_j6 kn p101 b102 b103 b104 b105 h)

def spec_l16DrawOp_j9 (kr : Nat → H → Prop) (p27 : Option Addr) (b28 : Nat) (b29 : Nat) (h : H) : Prop :=
  callK Try.prog 36 ⟨[.pointer p27, .int .i64 60]⟩ h fun v30 h =>
  asB v30 fun t31 =>
  ifB t31
  (new h [.int .i64 (-4611686018427387904), .int .i64 4611686018427387904, .int .i64 (-2), .int .i64 5] 2 fun b32 h =>
  callK Try.prog 35 ⟨[.pointer p27, .int .i64 4]⟩ h fun v33 h =>
  asI .i64 v33 fun n34 =>
  req (0 ≤ (n34 : Int) ∧ (n34 : Int) < (4 : Nat))
  (ldI .i64 h b32 (0 + n34.toNat * 1) fun n35 =>
  st h b29 2 (.int .i64 n35) fun h =>
  ldRow h b29 0 0 [.int .i64, .int .i64, .int .i64, .int .i64] fun n36 n37 n38 n39 =>
  stRow h b28 0 0 [.int .i64 n36, .int .i64 n37, .int .i64 n38, .int .i64 n39] fun h =>
  kr b28 h))
  (ldRow h b29 0 0 [.int .i64, .int .i64, .int .i64, .int .i64] fun n40 n41 n42 n43 =>
  stRow h b28 0 0 [.int .i64 n40, .int .i64 n41, .int .i64 n42, .int .i64 n43] fun h =>
  kr b28 h)

def spec_l16DrawOp_j8 (kr : Nat → H → Prop) (p24 : Option Addr) (b25 : Nat) (b26 : Nat) (h : H) : Prop :=
  callK Try.prog 36 ⟨[.pointer p24, .int .i64 60]⟩ h fun v27 h =>
  asB v27 fun t28 =>
  ifB t28
  (new h [.int .i64 0, .int .i64 10, .int .i64 (-1)] 2 fun b29 h =>
  callK Try.prog 35 ⟨[.pointer p24, .int .i64 3]⟩ h fun v30 h =>
  asI .i64 v30 fun n31 =>
  req (0 ≤ (n31 : Int) ∧ (n31 : Int) < (3 : Nat))
  (ldI .i64 h b29 (0 + n31.toNat * 1) fun n32 =>
  st h b26 0 (.int .i64 n32) fun h =>
  spec_l16DrawOp_j9 kr p24 b25 b26 h))
  (spec_l16DrawOp_j9 kr p24 b25 b26 h)

def spec_l16DrawOp_j7 (kr : Nat → H → Prop) (p21 : Option Addr) (b22 : Nat) (b23 : Nat) (h : H) : Prop :=
  callK Try.prog 36 ⟨[.pointer p21, .int .i64 50]⟩ h fun v24 h =>
  asB v24 fun t25 =>
  ifB t25
  (new h [.int .i64 0, .int .i64 (-1), .int .i64 32, .int .i64 33, .int .i64 4611686018427387904] 2 fun b26 h =>
  callK Try.prog 35 ⟨[.pointer p21, .int .i64 5]⟩ h fun v27 h =>
  asI .i64 v27 fun n28 =>
  req (0 ≤ (n28 : Int) ∧ (n28 : Int) < (5 : Nat))
  (ldI .i64 h b26 (0 + n28.toNat * 1) fun n29 =>
  st h b23 1 (.int .i64 n29) fun h =>
  spec_l16DrawOp_j8 kr p21 b22 b23 h))
  (spec_l16DrawOp_j8 kr p21 b22 b23 h)

def spec_l16DrawOp_j1 (kr : Nat → H → Prop) (p16 : Option Addr) (b17 : Nat) (b18 : Nat) (b19 : Nat) (b20 : Nat) (h : H) : Prop :=
  ldI .i64 h b18 0 fun n21 =>
  ifB ((n21 : Int) == 2)
  (callK Try.prog 35 ⟨[.pointer p16, .int .i64 4]⟩ h fun v22 h =>
  asI .i64 v22 fun n23 =>
  st h b18 3 (.int .i64 n23) fun h =>
  ldI .i64 h b20 4 fun n24 =>
  ifB ((n24 : Int) == 3)
  (ldI .i64 h b20 1 fun n25 =>
  st h b18 1 (.int .i64 n25) fun h =>
  spec_l16DrawOp_j2 (fun p26 b27 b28 h =>
  spec_l16DrawOp_j7 kr p26 b27 b28 h) p16 b17 b18 h)
  (spec_l16DrawOp_j2 (fun p29 b30 b31 h =>
  spec_l16DrawOp_j7 kr p29 b30 b31 h) p16 b17 b18 h))
  (ifB ((n21 : Int) == 3)
  (ldI .i64 h b20 0 fun n32 =>
  ldI .i64 h b20 2 fun n33 =>
  (new h [.int .i64 (-1), .int .i64 (-1), .int .i64 0, .int .i64 n32, .int .i64 (IntKind.i64.wrap (0 - n33))] 2 fun b34 h =>
  callK Try.prog 35 ⟨[.pointer p16, .int .i64 5]⟩ h fun v35 h =>
  asI .i64 v35 fun n36 =>
  req (0 ≤ (n36 : Int) ∧ (n36 : Int) < (5 : Nat))
  (ldI .i64 h b34 (0 + n36.toNat * 1) fun n37 =>
  st h b18 2 (.int .i64 n37) fun h =>
  callK Try.prog 36 ⟨[.pointer p16, .int .i64 3]⟩ h fun v38 h =>
  asB v38 fun t39 =>
  ifB t39
  (ldI .i64 h b20 1 fun n40 =>
  st h b18 1 (.int .i64 n40) fun h =>
  spec_l16DrawOp_j7 kr p16 b17 b18 h)
  (spec_l16DrawOp_j7 kr p16 b17 b18 h))) ∧ (callK Try.prog 35 ⟨[.pointer p16, .int .i64 5]⟩ h fun v41 h =>
  asI .i64 v41 fun n42 =>
  cell h b20 2 = some (.int .i64 n33) ∧ (cell h b20 0 = some (.int .i64 n32) ∧ (new h [.int .i64 (-1), .int .i64 (-1), .int .i64 0, .int .i64 n32, .int .i64 (IntKind.i64.wrap (0 - n33))] 2 fun b43 h =>
  req (0 ≤ (n42 : Int) ∧ (n42 : Int) < (5 : Nat))
  (ldI .i64 h b43 (0 + n42.toNat * 1) fun n44 =>
  st h b18 2 (.int .i64 n44) fun h =>
  callK Try.prog 36 ⟨[.pointer p16, .int .i64 3]⟩ h fun v45 h =>
  asB v45 fun t46 =>
  ifB t46
  (ldI .i64 h b20 1 fun n47 =>
  st h b18 1 (.int .i64 n47) fun h =>
  spec_l16DrawOp_j7 kr p16 b17 b18 h)
  (spec_l16DrawOp_j7 kr p16 b17 b18 h))))))
  (ifB ((n21 : Int) == 4)
  (ldI .i64 h b20 0 fun n48 =>
  ldI .i64 h b20 0 fun n49 =>
  ldI .i64 h b20 0 fun n50 =>
  ldI .i64 h b20 2 fun n51 =>
  (new h [.int .i64 n48, .int .i64 n49, .int .i64 n50, .int .i64 0, .int .i64 (-1), .int .i64 (IntKind.i64.wrap (0 - n51))] 2 fun b52 h =>
  callK Try.prog 35 ⟨[.pointer p16, .int .i64 6]⟩ h fun v53 h =>
  asI .i64 v53 fun n54 =>
  req (0 ≤ (n54 : Int) ∧ (n54 : Int) < (6 : Nat))
  (ldI .i64 h b52 (0 + n54.toNat * 1) fun n55 =>
  st h b18 2 (.int .i64 n55) fun h =>
  spec_l16DrawOp_j3 (fun p56 b57 b58 h =>
  spec_l16DrawOp_j7 kr p56 b57 b58 h) p16 b17 b18 b20 h)) ∧ (callK Try.prog 35 ⟨[.pointer p16, .int .i64 6]⟩ h fun v59 h =>
  asI .i64 v59 fun n60 =>
  cell h b20 2 = some (.int .i64 n51) ∧ (cell h b20 0 = some (.int .i64 n50) ∧ (cell h b20 0 = some (.int .i64 n49) ∧ (cell h b20 0 = some (.int .i64 n48) ∧ (new h [.int .i64 n48, .int .i64 n49, .int .i64 n50, .int .i64 0, .int .i64 (-1), .int .i64 (IntKind.i64.wrap (0 - n51))] 2 fun b61 h =>
  req (0 ≤ (n60 : Int) ∧ (n60 : Int) < (6 : Nat))
  (ldI .i64 h b61 (0 + n60.toNat * 1) fun n62 =>
  st h b18 2 (.int .i64 n62) fun h =>
  spec_l16DrawOp_j3 (fun p63 b64 b65 h =>
  spec_l16DrawOp_j7 kr p63 b64 b65 h) p16 b17 b18 b20 h)))))))
  (ifB ((n21 : Int) == 5)
  (callK Try.prog 41 ⟨[.pointer p16]⟩ h fun v66 h =>
  asI .i64 v66 fun n67 =>
  st h b18 2 (.int .i64 n67) fun h =>
  spec_l16DrawOp_j7 kr p16 b17 b18 h)
  (ifB ((n21 : Int) == 6)
  (callK Try.prog 39 ⟨[.pointer p16]⟩ h fun v68 h =>
  asI .i64 v68 fun n69 =>
  st h b18 2 (.int .i64 n69) fun h =>
  callK Try.prog 35 ⟨[.pointer p16, .int .i64 3]⟩ h fun v70 h =>
  asI .i64 v70 fun n71 =>
  st h b18 3 (.int .i64 n71) fun h =>
  callK Try.prog 36 ⟨[.pointer p16, .int .i64 30]⟩ h fun v72 h =>
  asB v72 fun t73 =>
  ifB t73
  (new h [.int .i64 (-1), .int .i64 3] 2 fun b74 h =>
  callK Try.prog 35 ⟨[.pointer p16, .int .i64 2]⟩ h fun v75 h =>
  asI .i64 v75 fun n76 =>
  req (0 ≤ (n76 : Int) ∧ (n76 : Int) < (2 : Nat))
  (ldI .i64 h b74 (0 + n76.toNat * 1) fun n77 =>
  st h b18 3 (.int .i64 n77) fun h =>
  spec_l16DrawOp_j7 kr p16 b17 b18 h))
  (spec_l16DrawOp_j7 kr p16 b17 b18 h))
  (ifB ((n21 : Int) == 8)
  (ldI .i64 h b19 0 fun n78 =>
  ldI .i64 h b20 0 fun n79 =>
  (new h [.int .i64 n78, .int .i64 n79] 2 fun b80 h =>
  callK Try.prog 35 ⟨[.pointer p16, .int .i64 2]⟩ h fun v81 h =>
  asI .i64 v81 fun n82 =>
  req (0 ≤ (n82 : Int) ∧ (n82 : Int) < (2 : Nat))
  (ldI .i64 h b80 (0 + n82.toNat * 1) fun n83 =>
  st h b18 2 (.int .i64 n83) fun h =>
  spec_l16DrawOp_j5 (fun p84 b85 b86 h =>
  spec_l16DrawOp_j7 kr p84 b85 b86 h) p16 b17 b18 b19 b20 h)) ∧ (callK Try.prog 35 ⟨[.pointer p16, .int .i64 2]⟩ h fun v87 h =>
  asI .i64 v87 fun n88 =>
  cell h b20 0 = some (.int .i64 n79) ∧ (cell h b19 0 = some (.int .i64 n78) ∧ (new h [.int .i64 n78, .int .i64 n79] 2 fun b89 h =>
  req (0 ≤ (n88 : Int) ∧ (n88 : Int) < (2 : Nat))
  (ldI .i64 h b89 (0 + n88.toNat * 1) fun n90 =>
  st h b18 2 (.int .i64 n90) fun h =>
  spec_l16DrawOp_j5 (fun p91 b92 b93 h =>
  spec_l16DrawOp_j7 kr p91 b92 b93 h) p16 b17 b18 b19 b20 h)))))
  (ifB ((n21 : Int) == 9)
  (callK Try.prog 35 ⟨[.pointer p16, .int .i64 3]⟩ h fun v94 h =>
  asI .i64 v94 fun n95 =>
  st h b18 3 (.int .i64 n95) fun h =>
  callK Try.prog 36 ⟨[.pointer p16, .int .i64 20]⟩ h fun v96 h =>
  asB v96 fun t97 =>
  ifB t97
  (new h [.int .i64 (-1), .int .i64 255, .int .i64 256] 2 fun b98 h =>
  callK Try.prog 35 ⟨[.pointer p16, .int .i64 3]⟩ h fun v99 h =>
  asI .i64 v99 fun n100 =>
  req (0 ≤ (n100 : Int) ∧ (n100 : Int) < (3 : Nat))
  (ldI .i64 h b98 (0 + n100.toNat * 1) fun n101 =>
  st h b18 3 (.int .i64 n101) fun h =>
  spec_l16DrawOp_j7 kr p16 b17 b18 h))
  (spec_l16DrawOp_j7 kr p16 b17 b18 h))
  (spec_l16DrawOp_j7 kr p16 b17 b18 h)))))))

def spec_l16DrawOp_j0 (kr : Nat → H → Prop) (p10 : Option Addr) (b11 : Nat) (b12 : Nat) (b13 : Nat) (b14 : Nat) (h : H) : Prop :=
  ldI .i64 h b14 0 fun n15 =>
  st h b13 1 (.int .i64 n15) fun h =>
  ldL h b11 0 fun a16 l16 c16 =>
  ldL h b11 0 fun a17 l17 c17 =>
  (callK Try.prog 35 ⟨[.pointer p10, .int .i64 (l17 : Nat)]⟩ h fun v18 h =>
  asI .i64 v18 fun n19 =>
  cell h b11 0 = some (.slice a16 l16 c16) ∧ (req (0 ≤ (n19 : Int) ∧ (n19 : Int) < (l16 : Nat))
  (nz a16 fun b20 o21 =>
  ldRow h b20 (o21 + n19.toNat * 10) 0 [.int .i64, .int .i64, .int .i64, .int .i64, .int .i64, .int .i64, .int .i64, .int .i64, .int .i64, .int .i64] fun n22 n23 n24 n25 n26 n27 n28 n29 n30 n31 =>
  new h [.int .i64 0, .int .i64 0, .int .i64 0, .int .i64 0, .int .i64 0, .int .i64 0, .int .i64 0, .int .i64 0, .int .i64 0, .int .i64 0] 38 fun b32 h =>
  heldRow h b20 (o21 + n19.toNat * 10) 0 [.int .i64 n22, .int .i64 n23, .int .i64 n24, .int .i64 n25, .int .i64 n26, .int .i64 n27, .int .i64 n28, .int .i64 n29, .int .i64 n30, .int .i64 n31] (cell h b11 0 = some (.slice a16 l16 c16) ∧ (stRow h b32 0 0 [.int .i64 n22, .int .i64 n23, .int .i64 n24, .int .i64 n25, .int .i64 n26, .int .i64 n27, .int .i64 n28, .int .i64 n29, .int .i64 n30, .int .i64 n31] fun h =>
  spec_l16DrawOp_j1 kr p10 b12 b13 b14 b32 h))))) ∧ (new h [.int .i64 0, .int .i64 0, .int .i64 0, .int .i64 0, .int .i64 0, .int .i64 0, .int .i64 0, .int .i64 0, .int .i64 0, .int .i64 0] 38 fun b33 h =>
  cell h b11 0 = some (.slice a17 l17 c17) ∧ (cell h b11 0 = some (.slice a16 l16 c16) ∧ (callK Try.prog 35 ⟨[.pointer p10, .int .i64 (l17 : Nat)]⟩ h fun v34 h =>
  asI .i64 v34 fun n35 =>
  cell h b11 0 = some (.slice a16 l16 c16) ∧ (req (0 ≤ (n35 : Int) ∧ (n35 : Int) < (l16 : Nat))
  (nz a16 fun b36 o37 =>
  ldRow h b36 (o37 + n35.toNat * 10) 0 [.int .i64, .int .i64, .int .i64, .int .i64, .int .i64, .int .i64, .int .i64, .int .i64, .int .i64, .int .i64] fun n38 n39 n40 n41 n42 n43 n44 n45 n46 n47 =>
  stRow h b33 0 0 [.int .i64 n38, .int .i64 n39, .int .i64 n40, .int .i64 n41, .int .i64 n42, .int .i64 n43, .int .i64 n44, .int .i64 n45, .int .i64 n46, .int .i64 n47] fun h =>
  spec_l16DrawOp_j1 kr p10 b12 b13 b14 b33 h)))))

def spec_l16DrawOp (kr : Nat → H → Prop) (p1 : Option Addr) (a2 : Option Addr) (l2 : Nat) (c2 : Nat) (h : H) : Prop :=
  new h [.slice a2 l2 c2] 27 fun b3 h =>
  new h [.int .i64 0, .int .i64 0, .int .i64 0, .int .i64 0] 30 fun b4 h =>
  new h [.int .i64 1, .int .i64 1, .int .i64 1, .int .i64 1, .int .i64 2, .int .i64 2, .int .i64 3, .int .i64 3, .int .i64 3, .int .i64 4, .int .i64 4, .int .i64 4, .int .i64 5, .int .i64 6, .int .i64 6, .int .i64 7, .int .i64 7, .int .i64 7, .int .i64 7, .int .i64 8, .int .i64 9] 2 fun b5 h =>
  callK Try.prog 35 ⟨[.pointer p1, .int .i64 21]⟩ h fun v6 h =>
  asI .i64 v6 fun n7 =>
  req (0 ≤ (n7 : Int) ∧ (n7 : Int) < (21 : Nat))
  (ldI .i64 h b5 (0 + n7.toNat * 1) fun n8 =>
  new h [.int .i64 0, .int .i64 0, .int .i64 0, .int .i64 0] 30 fun b9 h =>
  stRow h b9 0 0 [.int .i64 n8, .int .i64 0, .int .i64 0, .int .i64 0] fun h =>
  ldL h b3 0 fun a10 l10 c10 =>
  ldL h b3 0 fun a11 l11 c11 =>
  (callK Try.prog 35 ⟨[.pointer p1, .int .i64 (l11 : Nat)]⟩ h fun v12 h =>
  asI .i64 v12 fun n13 =>
  cell h b3 0 = some (.slice a10 l10 c10) ∧ (req (0 ≤ (n13 : Int) ∧ (n13 : Int) < (l10 : Nat))
  (nz a10 fun b14 o15 =>
  ldRow h b14 (o15 + n13.toNat * 10) 0 [.int .i64, .int .i64, .int .i64, .int .i64, .int .i64, .int .i64, .int .i64, .int .i64, .int .i64, .int .i64] fun n16 n17 n18 n19 n20 n21 n22 n23 n24 n25 =>
  new h [.int .i64 0, .int .i64 0, .int .i64 0, .int .i64 0, .int .i64 0, .int .i64 0, .int .i64 0, .int .i64 0, .int .i64 0, .int .i64 0] 38 fun b26 h =>
  heldRow h b14 (o15 + n13.toNat * 10) 0 [.int .i64 n16, .int .i64 n17, .int .i64 n18, .int .i64 n19, .int .i64 n20, .int .i64 n21, .int .i64 n22, .int .i64 n23, .int .i64 n24, .int .i64 n25] (cell h b3 0 = some (.slice a10 l10 c10) ∧ (stRow h b26 0 0 [.int .i64 n16, .int .i64 n17, .int .i64 n18, .int .i64 n19, .int .i64 n20, .int .i64 n21, .int .i64 n22, .int .i64 n23, .int .i64 n24, .int .i64 n25] fun h =>
  spec_l16DrawOp_j0 kr p1 b3 b4 b9 b26 h))))) ∧ (new h [.int .i64 0, .int .i64 0, .int .i64 0, .int .i64 0, .int .i64 0, .int .i64 0, .int .i64 0, .int .i64 0, .int .i64 0, .int .i64 0] 38 fun b27 h =>
  cell h b3 0 = some (.slice a11 l11 c11) ∧ (cell h b3 0 = some (.slice a10 l10 c10) ∧ (callK Try.prog 35 ⟨[.pointer p1, .int .i64 (l11 : Nat)]⟩ h fun v28 h =>
  asI .i64 v28 fun n29 =>
  cell h b3 0 = some (.slice a10 l10 c10) ∧ (req (0 ≤ (n29 : Int) ∧ (n29 : Int) < (l10 : Nat))
  (nz a10 fun b30 o31 =>
  ldRow h b30 (o31 + n29.toNat * 10) 0 [.int .i64, .int .i64, .int .i64, .int .i64, .int .i64, .int .i64, .int .i64, .int .i64, .int .i64, .int .i64] fun n32 n33 n34 n35 n36 n37 n38 n39 n40 n41 =>
  stRow h b27 0 0 [.int .i64 n32, .int .i64 n33, .int .i64 n34, .int .i64 n35, .int .i64 n36, .int .i64 n37, .int .i64 n38, .int .i64 n39, .int .i64 n40, .int .i64 n41] fun h =>
  spec_l16DrawOp_j0 kr p1 b3 b4 b9 b27 h))))))

theorem spec_l16DrawOp_j2_eq (K : Cont) (p24 : Option Addr) (b25 : Nat) (b26 : Nat) (h : H) :
  spec_l16DrawOp_j2 (curV [(0, .ptr), (4, .blk), (5, .blk)] (K .normal)) p24 b25 b26 h = evC Try.prog 207 [] [] (sub code22 [true, true, true, true, true, false, true, false, true, false, true, true]) [(0, .pointer p24), (4, .pointer (some ⟨b25, 0, none⟩)), (5, .pointer (some ⟨b26, 0, none⟩))] h (outsOf (some [(0, .ptr), (4, .blk), (5, .blk)]) [] none K).K := by kernel_rfl

def spec_l16DrawOp_j2_F : PT := mkF [(0, .ptr), (4, .blk), (5, .blk)] fun K => spec_l16DrawOp_j2 (curV [(0, .ptr), (4, .blk), (5, .blk)] (K .normal))

theorem spec_l16DrawOp_j2_V : Valid Try.prog 207 (sub code22 [true, true, true, true, true, false, true, false, true, false, true, true]) spec_l16DrawOp_j2_F :=
  piece mixed rows_nil (fun K => by intro p24 b25 b26 h hd; exact (spec_l16DrawOp_j2_eq K p24 b25 b26 h) ▸ hd)

theorem spec_l16DrawOp_j4_eq (K : Cont) (p63 : Option Addr) (b64 : Nat) (b65 : Nat) (b66 : Nat) (t67 : Bool) (h : H) :
  spec_l16DrawOp_j4 (curV [(0, .ptr), (4, .blk), (5, .blk)] (K .normal)) p63 b64 b65 b66 t67 h = evC Try.prog 207 [] [] (sub code22 [true, true, true, true, true, false, true, false, true, true, true, true, true, false, true, true, true]) [(0, .pointer p63), (4, .pointer (some ⟨b64, 0, none⟩)), (5, .pointer (some ⟨b65, 0, none⟩)), (7, .pointer (some ⟨b66, 0, none⟩)), (105, .bool t67)] h (outsOf (some [(0, .ptr), (4, .blk), (5, .blk)]) [] none K).K := by kernel_rfl

def spec_l16DrawOp_j4_F : PT := mkF [(0, .ptr), (4, .blk), (5, .blk), (7, .blk), (105, .bool)] fun K => spec_l16DrawOp_j4 (curV [(0, .ptr), (4, .blk), (5, .blk)] (K .normal))

theorem spec_l16DrawOp_j4_V : Valid Try.prog 207 (sub code22 [true, true, true, true, true, false, true, false, true, true, true, true, true, false, true, true, true]) spec_l16DrawOp_j4_F :=
  piece mixed rows_nil (fun K => by intro p63 b64 b65 b66 t67 h hd; exact (spec_l16DrawOp_j4_eq K p63 b64 b65 b66 t67 h) ▸ hd)

theorem spec_l16DrawOp_j3_eq (K : Cont) (p57 : Option Addr) (b58 : Nat) (b59 : Nat) (b60 : Nat) (h : H) :
  spec_l16DrawOp_j3 (curV [(0, .ptr), (4, .blk), (5, .blk)] (K .normal)) p57 b58 b59 b60 h = evC Try.prog 207 [([true, true], spec_l16DrawOp_j4_F)] [] (sub code22 [true, true, true, true, true, false, true, false, true, true, true, true, true, false, true]) [(0, .pointer p57), (4, .pointer (some ⟨b58, 0, none⟩)), (5, .pointer (some ⟨b59, 0, none⟩)), (7, .pointer (some ⟨b60, 0, none⟩))] h (outsOf (some [(0, .ptr), (4, .blk), (5, .blk)]) [] none K).K := by kernel_rfl

def spec_l16DrawOp_j3_F : PT := mkF [(0, .ptr), (4, .blk), (5, .blk), (7, .blk)] fun K => spec_l16DrawOp_j3 (curV [(0, .ptr), (4, .blk), (5, .blk)] (K .normal))

theorem spec_l16DrawOp_j3_V : Valid Try.prog 207 (sub code22 [true, true, true, true, true, false, true, false, true, true, true, true, true, false, true]) spec_l16DrawOp_j3_F :=
  piece mixed (rows_cons (q' := [true, true]) (valid_at (p := [true, true, true, true, true, false, true, false, true, true, true, true, true, false, true]) spec_l16DrawOp_j4_V rfl) rfl rows_nil) (fun K => by intro p57 b58 b59 b60 h hd; exact (spec_l16DrawOp_j3_eq K p57 b58 b59 b60 h) ▸ hd)

theorem spec_l16DrawOp_j6_eq (K : Cont) (p106 : Option Addr) (b107 : Nat) (b108 : Nat) (b109 : Nat) (b110 : Nat) (h : H) :
  spec_l16DrawOp_j6 (curV [(0, .ptr), (4, .blk), (5, .blk)] (K .normal)) p106 b107 b108 b109 b110 h = evC Try.prog 207 [] [] (sub code22 [true, true, true, true, true, false, true, false, true, true, true, true, true, true, true, true, true, true, true, false, true, true]) [(0, .pointer p106), (4, .pointer (some ⟨b107, 0, none⟩)), (5, .pointer (some ⟨b108, 0, none⟩)), (6, .pointer (some ⟨b109, 0, none⟩)), (7, .pointer (some ⟨b110, 0, none⟩))] h (outsOf (some [(0, .ptr), (4, .blk), (5, .blk)]) [] none K).K := by kernel_rfl

def spec_l16DrawOp_j6_F : PT := mkF [(0, .ptr), (4, .blk), (5, .blk), (6, .blk), (7, .blk)] fun K => spec_l16DrawOp_j6 (curV [(0, .ptr), (4, .blk), (5, .blk)] (K .normal))

theorem spec_l16DrawOp_j6_V : Valid Try.prog 207 (sub code22 [true, true, true, true, true, false, true, false, true, true, true, true, true, true, true, true, true, true, true, false, true, true]) spec_l16DrawOp_j6_F :=
  piece mixed rows_nil (fun K => by intro p106 b107 b108 b109 b110 h hd; exact (spec_l16DrawOp_j6_eq K p106 b107 b108 b109 b110 h) ▸ hd)

theorem spec_l16DrawOp_j5_eq (K : Cont) (p101 : Option Addr) (b102 : Nat) (b103 : Nat) (b104 : Nat) (b105 : Nat) (h : H) :
  spec_l16DrawOp_j5 (curV [(0, .ptr), (4, .blk), (5, .blk)] (K .normal)) p101 b102 b103 b104 b105 h = evC Try.prog 207 [([true], spec_l16DrawOp_j6_F)] [] (sub code22 [true, true, true, true, true, false, true, false, true, true, true, true, true, true, true, true, true, true, true, false, true]) [(0, .pointer p101), (4, .pointer (some ⟨b102, 0, none⟩)), (5, .pointer (some ⟨b103, 0, none⟩)), (6, .pointer (some ⟨b104, 0, none⟩)), (7, .pointer (some ⟨b105, 0, none⟩))] h (outsOf (some [(0, .ptr), (4, .blk), (5, .blk)]) [] none K).K := by kernel_rfl

def spec_l16DrawOp_j5_F : PT := mkF [(0, .ptr), (4, .blk), (5, .blk), (6, .blk), (7, .blk)] fun K => spec_l16DrawOp_j5 (curV [(0, .ptr), (4, .blk), (5, .blk)] (K .normal))

theorem spec_l16DrawOp_j5_V : Valid Try.prog 207 (sub code22 [true, true, true, true, true, false, true, false, true, true, true, true, true, true, true, true, true, true, true, false, true]) spec_l16DrawOp_j5_F :=
  piece mixed (rows_cons (q' := [true]) (valid_at (p := [true, true, true, true, true, false, true, false, true, true, true, true, true, true, true, true, true, true, true, false, true]) spec_l16DrawOp_j6_V rfl) rfl rows_nil) (fun K => by intro p101 b102 b103 b104 b105 h hd; exact (spec_l16DrawOp_j5_eq K p101 b102 b103 b104 b105 h) ▸ hd)

theorem spec_l16DrawOp_j9_eq (K : Cont) (p27 : Option Addr) (b28 : Nat) (b29 : Nat) (h : H) :
  spec_l16DrawOp_j9 (curV [(4, .blk)] (K .ret)) p27 b28 b29 h = evC Try.prog 207 [] [] (sub code22 [true, true, true, true, true, true, true, true]) [(0, .pointer p27), (4, .pointer (some ⟨b28, 0, none⟩)), (5, .pointer (some ⟨b29, 0, none⟩))] h (outsOf none [] (some [(4, .blk)]) K).K := by kernel_rfl

def spec_l16DrawOp_j9_F : PT := mkF [(0, .ptr), (4, .blk), (5, .blk)] fun K => spec_l16DrawOp_j9 (curV [(4, .blk)] (K .ret))

theorem spec_l16DrawOp_j9_V : Valid Try.prog 207 (sub code22 [true, true, true, true, true, true, true, true]) spec_l16DrawOp_j9_F :=
  piece mixed rows_nil (fun K => by intro p27 b28 b29 h hd; exact (spec_l16DrawOp_j9_eq K p27 b28 b29 h) ▸ hd)

theorem spec_l16DrawOp_j8_eq (K : Cont) (p24 : Option Addr) (b25 : Nat) (b26 : Nat) (h : H) :
  spec_l16DrawOp_j8 (curV [(4, .blk)] (K .ret)) p24 b25 b26 h = evC Try.prog 207 [([true], spec_l16DrawOp_j9_F)] [] (sub code22 [true, true, true, true, true, true, true]) [(0, .pointer p24), (4, .pointer (some ⟨b25, 0, none⟩)), (5, .pointer (some ⟨b26, 0, none⟩))] h (outsOf none [] (some [(4, .blk)]) K).K := by kernel_rfl

def spec_l16DrawOp_j8_F : PT := mkF [(0, .ptr), (4, .blk), (5, .blk)] fun K => spec_l16DrawOp_j8 (curV [(4, .blk)] (K .ret))

theorem spec_l16DrawOp_j8_V : Valid Try.prog 207 (sub code22 [true, true, true, true, true, true, true]) spec_l16DrawOp_j8_F :=
  piece mixed (rows_cons (q' := [true]) (valid_at (p := [true, true, true, true, true, true, true]) spec_l16DrawOp_j9_V rfl) rfl rows_nil) (fun K => by intro p24 b25 b26 h hd; exact (spec_l16DrawOp_j8_eq K p24 b25 b26 h) ▸ hd)

theorem spec_l16DrawOp_j7_eq (K : Cont) (p21 : Option Addr) (b22 : Nat) (b23 : Nat) (h : H) :
  spec_l16DrawOp_j7 (curV [(4, .blk)] (K .ret)) p21 b22 b23 h = evC Try.prog 207 [([true], spec_l16DrawOp_j8_F)] [] (sub code22 [true, true, true, true, true, true]) [(0, .pointer p21), (4, .pointer (some ⟨b22, 0, none⟩)), (5, .pointer (some ⟨b23, 0, none⟩))] h (outsOf none [] (some [(4, .blk)]) K).K := by kernel_rfl

def spec_l16DrawOp_j7_F : PT := mkF [(0, .ptr), (4, .blk), (5, .blk)] fun K => spec_l16DrawOp_j7 (curV [(4, .blk)] (K .ret))

theorem spec_l16DrawOp_j7_V : Valid Try.prog 207 (sub code22 [true, true, true, true, true, true]) spec_l16DrawOp_j7_F :=
  piece mixed (rows_cons (q' := [true]) (valid_at (p := [true, true, true, true, true, true]) spec_l16DrawOp_j8_V rfl) rfl rows_nil) (fun K => by intro p21 b22 b23 h hd; exact (spec_l16DrawOp_j7_eq K p21 b22 b23 h) ▸ hd)

theorem spec_l16DrawOp_j1_eq (K : Cont) (p16 : Option Addr) (b17 : Nat) (b18 : Nat) (b19 : Nat) (b20 : Nat) (h : H) :
  spec_l16DrawOp_j1 (curV [(4, .blk)] (K .ret)) p16 b17 b18 b19 b20 h = evC Try.prog 207 [([true], spec_l16DrawOp_j7_F), ([true, true, false, true, false, true, false], spec_l16DrawOp_j2_F), ([true, false, true, true, true, true, true, false, true, false], spec_l16DrawOp_j3_F), ([true, false, true, true, true, true, true, true, true, true, true, true, true, false, true, false], spec_l16DrawOp_j5_F)] [] (sub code22 [true, true, true, true, true]) [(0, .pointer p16), (4, .pointer (some ⟨b17, 0, none⟩)), (5, .pointer (some ⟨b18, 0, none⟩)), (6, .pointer (some ⟨b19, 0, none⟩)), (7, .pointer (some ⟨b20, 0, none⟩))] h (outsOf none [] (some [(4, .blk)]) K).K := by kernel_rfl

def spec_l16DrawOp_j1_F : PT := mkF [(0, .ptr), (4, .blk), (5, .blk), (6, .blk), (7, .blk)] fun K => spec_l16DrawOp_j1 (curV [(4, .blk)] (K .ret))

theorem spec_l16DrawOp_j1_V : Valid Try.prog 207 (sub code22 [true, true, true, true, true]) spec_l16DrawOp_j1_F :=
  piece mixed (rows_cons (q' := [true]) (valid_at (p := [true, true, true, true, true]) spec_l16DrawOp_j7_V rfl) rfl (rows_cons (q' := [false, true, false, true, false, true, true]) (valid_at (p := [true, true, true, true, true]) spec_l16DrawOp_j2_V rfl) rfl (rows_cons (q' := [false, true, false, true, true, true, true, true, false, true]) (valid_at (p := [true, true, true, true, true]) spec_l16DrawOp_j3_V rfl) rfl (rows_cons (q' := [false, true, false, true, true, true, true, true, true, true, true, true, true, true, false, true]) (valid_at (p := [true, true, true, true, true]) spec_l16DrawOp_j5_V rfl) rfl rows_nil)))) (fun K => by intro p16 b17 b18 b19 b20 h hd; exact (spec_l16DrawOp_j1_eq K p16 b17 b18 b19 b20 h) ▸ hd)

theorem spec_l16DrawOp_j0_eq (K : Cont) (p10 : Option Addr) (b11 : Nat) (b12 : Nat) (b13 : Nat) (b14 : Nat) (h : H) :
  spec_l16DrawOp_j0 (curV [(4, .blk)] (K .ret)) p10 b11 b12 b13 b14 h = evC Try.prog 207 [([true, true], spec_l16DrawOp_j1_F)] [] (sub code22 [true, true, true]) [(0, .pointer p10), (3, .pointer (some ⟨b11, 0, none⟩)), (4, .pointer (some ⟨b12, 0, none⟩)), (5, .pointer (some ⟨b13, 0, none⟩)), (6, .pointer (some ⟨b14, 0, none⟩))] h (outsOf none [] (some [(4, .blk)]) K).K := by kernel_rfl

def spec_l16DrawOp_j0_F : PT := mkF [(0, .ptr), (3, .blk), (4, .blk), (5, .blk), (6, .blk)] fun K => spec_l16DrawOp_j0 (curV [(4, .blk)] (K .ret))

theorem spec_l16DrawOp_j0_V : Valid Try.prog 207 (sub code22 [true, true, true]) spec_l16DrawOp_j0_F :=
  piece mixed (rows_cons (q' := [true, true]) (valid_at (p := [true, true, true]) spec_l16DrawOp_j1_V rfl) rfl rows_nil) (fun K => by intro p10 b11 b12 b13 b14 h hd; exact (spec_l16DrawOp_j0_eq K p10 b11 b12 b13 b14 h) ▸ hd)

theorem spec_l16DrawOp_eq (K : Cont) (p1 : Option Addr) (a2 : Option Addr) (l2 : Nat) (c2 : Nat) (h : H) :
  spec_l16DrawOp (curV [(4, .blk)] (K .ret)) p1 a2 l2 c2 h = evC Try.prog 207 [([true, true, true], spec_l16DrawOp_j0_F)] [] code22 [(0, .pointer p1), (1, .agg ⟨[.slice a2 l2 c2]⟩)] h (outsOf none [] (some [(4, .blk)]) K).K := by kernel_rfl

def spec_l16DrawOp_F : PT := mkF [(0, .ptr), (1, .agg [.slice])] fun K => spec_l16DrawOp (curV [(4, .blk)] (K .ret))

theorem spec_l16DrawOp_V : Valid Try.prog 207 code22 spec_l16DrawOp_F :=
  piece mixed (rows_cons (q' := [true, true, true]) spec_l16DrawOp_j0_V rfl rows_nil) (fun K => by intro p1 a2 l2 c2 h hd; exact (spec_l16DrawOp_eq K p1 a2 l2 c2 h) ▸ hd)

theorem spec_l16DrawOp_c0 (p1 : Option Addr) (a2 : Option Addr) (l2 : Nat) (c2 : Nat) (h : H) (K : Value → H → Prop) :
  spec_l16DrawOp (fun b100001 h =>
  ldRow h b100001 0 0 [.int .i64, .int .i64, .int .i64, .int .i64] fun n100002 n100003 n100004 n100005 =>
  K (.agg ⟨[.int .i64 n100002, .int .i64 n100003, .int .i64 n100004, .int .i64 n100005]⟩) h) p1 a2 l2 c2 h = callF Try.prog Try.f22.results.toList spec_l16DrawOp_F [.pointer p1, .agg ⟨[.slice a2 l2 c2]⟩] h K := by kernel_rfl

theorem spec_l16DrawOp_call {p1 : Option Addr} {a2 : Option Addr} {l2 : Nat} {c2 : Nat} {h : H} {K : Value → H → Prop} (hs : spec_l16DrawOp (fun b100001 h =>
  ldRow h b100001 0 0 [.int .i64, .int .i64, .int .i64, .int .i64] fun n100002 n100003 n100004 n100005 =>
  K (.agg ⟨[.int .i64 n100002, .int .i64 n100003, .int .i64 n100004, .int .i64 n100005]⟩) h) p1 a2 l2 c2 h) : callK Try.prog 22 ⟨[.pointer p1, .agg ⟨[.slice a2 l2 c2]⟩]⟩ h K :=
  func_calls Try.func22 body22 spec_l16DrawOp_V (Nat.le_of_ble_eq_true (by kernel_rfl)) (spec_l16DrawOp_c0 p1 a2 l2 c2 h K ▸ hs)

def spec_l16DrawOp_M_j2 (kn : Option Addr → Int → Int → Int → Int → H → Prop) (p66 : Option Addr) (n72 : Int) (n73 : Int) (n74 : Int) (n75 : Int) (h : H) : Prop :=
  callD Try.prog 36 ⟨[.pointer p66, .int .i64 20]⟩ h fun v77 h =>
  asB v77 fun t78 =>
  ifB t78
  (newD h [.int .i64 (-1), .int .i64 255, .int .i64 256] 2 fun b79 h =>
  callD Try.prog 35 ⟨[.pointer p66, .int .i64 3]⟩ h fun v80 h =>
  asI .i64 v80 fun n81 =>
  req (0 ≤ (n81 : Int) ∧ (n81 : Int) < (3 : Nat))
  (ldI .i64 h b79 (0 + n81.toNat * 1) fun n82 =>
  kn p66 n72 n73 n74 n82 h))
  (kn p66 n72 n73 n74 n75 h)

def spec_l16DrawOp_M_j4 (kn : Option Addr → Int → Int → Int → Int → H → Prop) (p1135 : Option Addr) (t1136 : Bool) (n1142 : Int) (n1143 : Int) (n1144 : Int) (n1145 : Int) (n1147 : Int) (n1153 : Int) (h : H) : Prop :=
  ifB t1136
  (callD Try.prog 40 ⟨[.int .i64 n1153, .int .i64 12]⟩ h fun v1158 h =>
  asB v1158 fun t1159 =>
  ifB t1159
  (kn p1135 n1142 n1143 n1147 13 h)
  (kn p1135 n1142 n1143 n1147 12 h))
  (kn p1135 n1142 n1143 n1144 n1145 h)

def spec_l16DrawOp_M_j3 (kn : Option Addr → Int → Int → Int → Int → H → Prop) (p1111 : Option Addr) (n1117 : Int) (n1118 : Int) (n1119 : Int) (n1122 : Int) (n1128 : Int) (h : H) : Prop :=
  callD Try.prog 39 ⟨[.pointer p1111]⟩ h fun v1133 h =>
  asI .i64 v1133 fun n1134 =>
  callD Try.prog 36 ⟨[.pointer p1111, .int .i64 2]⟩ h fun v1135 h =>
  asB v1135 fun t1136 =>
  ifB t1136
  (callD Try.prog 40 ⟨[.int .i64 n1128, .int .i64 13]⟩ h fun v1137 h =>
  asB v1137 fun t1138 =>
  ifB t1138
  (spec_l16DrawOp_M_j4 kn p1111 true n1117 n1118 n1119 n1134 n1122 n1128 h)
  (callD Try.prog 40 ⟨[.int .i64 n1128, .int .i64 12]⟩ h fun v1139 h =>
  asB v1139 fun t1140 =>
  spec_l16DrawOp_M_j4 kn p1111 t1140 n1117 n1118 n1119 n1134 n1122 n1128 h))
  (spec_l16DrawOp_M_j4 kn p1111 false n1117 n1118 n1119 n1134 n1122 n1128 h)

def spec_l16DrawOp_M_j6 (kn : Option Addr → Int → Int → Int → Int → H → Prop) (p2234 : Option Addr) (n2240 : Int) (n2241 : Int) (n2242 : Int) (n2247 : Int) (n2258 : Int) (h : H) : Prop :=
  callD Try.prog 35 ⟨[.pointer p2234, .int .i64 34]⟩ h fun v2267 h =>
  asI .i64 v2267 fun n2268 =>
  (newD h [.int .i64 n2242, .int .i64 n2247, .int .i64 n2258, .int .i64 n2268] 2 fun b2269 h =>
  callD Try.prog 35 ⟨[.pointer p2234, .int .i64 4]⟩ h fun v2270 h =>
  asI .i64 v2270 fun n2271 =>
  req (0 ≤ (n2271 : Int) ∧ (n2271 : Int) < (4 : Nat))
  (ldI .i64 h b2269 (0 + n2271.toNat * 1) fun n2272 =>
  kn p2234 n2240 n2241 n2242 n2272 h)) ∧ (callD Try.prog 35 ⟨[.pointer p2234, .int .i64 4]⟩ h fun v2269 h =>
  asI .i64 v2269 fun n2270 =>
  newD h [.int .i64 n2242, .int .i64 n2247, .int .i64 n2258, .int .i64 n2268] 2 fun b2271 h =>
  req (0 ≤ (n2270 : Int) ∧ (n2270 : Int) < (4 : Nat))
  (ldI .i64 h b2271 (0 + n2270.toNat * 1) fun n2272 =>
  kn p2234 n2240 n2241 n2242 n2272 h))

def spec_l16DrawOp_M_j5 (kn : Option Addr → Int → Int → Int → Int → H → Prop) (p2201 : Option Addr) (n2207 : Int) (n2208 : Int) (n2209 : Int) (n2214 : Int) (n2223 : Int) (n2224 : Int) (n2225 : Int) (h : H) : Prop :=
  callD Try.prog 36 ⟨[.pointer p2201, .int .i64 2]⟩ h fun v2234 h =>
  asB v2234 fun t2235 =>
  ifB t2235
  (spec_l16DrawOp_M_j6 kn p2201 n2207 n2224 n2223 n2214 n2225 h)
  (spec_l16DrawOp_M_j6 kn p2201 n2207 n2208 n2209 n2214 n2225 h)

def spec_l16DrawOp_M_j9 (kr : Int → Int → Int → Int → H → Prop) (p86 : Option Addr) (n92 : Int) (n93 : Int) (n94 : Int) (n95 : Int) (h : H) : Prop :=
  callD Try.prog 36 ⟨[.pointer p86, .int .i64 60]⟩ h fun v97 h =>
  asB v97 fun t98 =>
  ifB t98
  (newD h [.int .i64 (-4611686018427387904), .int .i64 4611686018427387904, .int .i64 (-2), .int .i64 5] 2 fun b99 h =>
  callD Try.prog 35 ⟨[.pointer p86, .int .i64 4]⟩ h fun v100 h =>
  asI .i64 v100 fun n101 =>
  req (0 ≤ (n101 : Int) ∧ (n101 : Int) < (4 : Nat))
  (ldI .i64 h b99 (0 + n101.toNat * 1) fun n102 =>
  kr n92 n93 n102 n95 h))
  (kr n92 n93 n94 n95 h)

def spec_l16DrawOp_M_j8 (kr : Int → Int → Int → Int → H → Prop) (p75 : Option Addr) (n81 : Int) (n82 : Int) (n83 : Int) (n84 : Int) (h : H) : Prop :=
  callD Try.prog 36 ⟨[.pointer p75, .int .i64 60]⟩ h fun v86 h =>
  asB v86 fun t87 =>
  ifB t87
  (newD h [.int .i64 0, .int .i64 10, .int .i64 (-1)] 2 fun b88 h =>
  callD Try.prog 35 ⟨[.pointer p75, .int .i64 3]⟩ h fun v89 h =>
  asI .i64 v89 fun n90 =>
  req (0 ≤ (n90 : Int) ∧ (n90 : Int) < (3 : Nat))
  (ldI .i64 h b88 (0 + n90.toNat * 1) fun n91 =>
  spec_l16DrawOp_M_j9 kr p75 n91 n82 n83 n84 h))
  (spec_l16DrawOp_M_j9 kr p75 n81 n82 n83 n84 h)

def spec_l16DrawOp_M_j7 (kr : Int → Int → Int → Int → H → Prop) (p64 : Option Addr) (n70 : Int) (n71 : Int) (n72 : Int) (n73 : Int) (h : H) : Prop :=
  callD Try.prog 36 ⟨[.pointer p64, .int .i64 50]⟩ h fun v75 h =>
  asB v75 fun t76 =>
  ifB t76
  (newD h [.int .i64 0, .int .i64 (-1), .int .i64 32, .int .i64 33, .int .i64 4611686018427387904] 2 fun b77 h =>
  callD Try.prog 35 ⟨[.pointer p64, .int .i64 5]⟩ h fun v78 h =>
  asI .i64 v78 fun n79 =>
  req (0 ≤ (n79 : Int) ∧ (n79 : Int) < (5 : Nat))
  (ldI .i64 h b77 (0 + n79.toNat * 1) fun n80 =>
  spec_l16DrawOp_M_j8 kr p64 n70 n80 n72 n73 h))
  (spec_l16DrawOp_M_j8 kr p64 n70 n71 n72 n73 h)

def spec_l16DrawOp_M_j1 (kr : Int → Int → Int → Int → H → Prop) (p31 : Option Addr) (n37 : Int) (n38 : Int) (n39 : Int) (n40 : Int) (n42 : Int) (n44 : Int) (n53 : Int) (n54 : Int) (n55 : Int) (n57 : Int) (n59 : Int) (h : H) : Prop :=
  ifB ((n37 : Int) == 2)
  (callD Try.prog 35 ⟨[.pointer p31, .int .i64 4]⟩ h fun v64 h =>
  asI .i64 v64 fun n65 =>
  ifB ((n57 : Int) == 3)
  (spec_l16DrawOp_M_j2 (fun p66 n72 n73 n74 n75 h =>
  spec_l16DrawOp_M_j7 kr p66 n72 n73 n74 n75 h) p31 n37 n54 n39 n65 h)
  (spec_l16DrawOp_M_j2 (fun p77 n83 n84 n85 n86 h =>
  spec_l16DrawOp_M_j7 kr p77 n83 n84 n85 n86 h) p31 n37 n38 n39 n65 h))
  (ifB ((n37 : Int) == 3)
  ((newD h [.int .i64 (-1), .int .i64 (-1), .int .i64 0, .int .i64 n53, .int .i64 (IntKind.i64.wrap (0 - n55))] 2 fun b88 h =>
  callD Try.prog 35 ⟨[.pointer p31, .int .i64 5]⟩ h fun v89 h =>
  asI .i64 v89 fun n90 =>
  req (0 ≤ (n90 : Int) ∧ (n90 : Int) < (5 : Nat))
  (ldI .i64 h b88 (0 + n90.toNat * 1) fun n91 =>
  callD Try.prog 36 ⟨[.pointer p31, .int .i64 3]⟩ h fun v92 h =>
  asB v92 fun t93 =>
  ifB t93
  (spec_l16DrawOp_M_j7 kr p31 n37 n54 n91 n40 h)
  (spec_l16DrawOp_M_j7 kr p31 n37 n38 n91 n40 h))) ∧ (callD Try.prog 35 ⟨[.pointer p31, .int .i64 5]⟩ h fun v88 h =>
  asI .i64 v88 fun n89 =>
  newD h [.int .i64 (-1), .int .i64 (-1), .int .i64 0, .int .i64 n53, .int .i64 (IntKind.i64.wrap (0 - n55))] 2 fun b90 h =>
  req (0 ≤ (n89 : Int) ∧ (n89 : Int) < (5 : Nat))
  (ldI .i64 h b90 (0 + n89.toNat * 1) fun n91 =>
  callD Try.prog 36 ⟨[.pointer p31, .int .i64 3]⟩ h fun v92 h =>
  asB v92 fun t93 =>
  ifB t93
  (spec_l16DrawOp_M_j7 kr p31 n37 n54 n91 n40 h)
  (spec_l16DrawOp_M_j7 kr p31 n37 n38 n91 n40 h))))
  (ifB ((n37 : Int) == 4)
  ((newD h [.int .i64 n53, .int .i64 n53, .int .i64 n53, .int .i64 0, .int .i64 (-1), .int .i64 (IntKind.i64.wrap (0 - n55))] 2 fun b94 h =>
  callD Try.prog 35 ⟨[.pointer p31, .int .i64 6]⟩ h fun v95 h =>
  asI .i64 v95 fun n96 =>
  req (0 ≤ (n96 : Int) ∧ (n96 : Int) < (6 : Nat))
  (ldI .i64 h b94 (0 + n96.toNat * 1) fun n97 =>
  spec_l16DrawOp_M_j3 (fun p98 n104 n105 n106 n107 h =>
  spec_l16DrawOp_M_j7 kr p98 n104 n105 n106 n107 h) p31 n37 n38 n97 n53 n59 h)) ∧ (callD Try.prog 35 ⟨[.pointer p31, .int .i64 6]⟩ h fun v94 h =>
  asI .i64 v94 fun n95 =>
  newD h [.int .i64 n53, .int .i64 n53, .int .i64 n53, .int .i64 0, .int .i64 (-1), .int .i64 (IntKind.i64.wrap (0 - n55))] 2 fun b96 h =>
  req (0 ≤ (n95 : Int) ∧ (n95 : Int) < (6 : Nat))
  (ldI .i64 h b96 (0 + n95.toNat * 1) fun n97 =>
  spec_l16DrawOp_M_j3 (fun p98 n104 n105 n106 n107 h =>
  spec_l16DrawOp_M_j7 kr p98 n104 n105 n106 n107 h) p31 n37 n38 n97 n53 n59 h)))
  (ifB ((n37 : Int) == 5)
  (callD Try.prog 41 ⟨[.pointer p31]⟩ h fun v109 h =>
  asI .i64 v109 fun n110 =>
  spec_l16DrawOp_M_j7 kr p31 n37 n38 n110 n40 h)
  (ifB ((n37 : Int) == 6)
  (callD Try.prog 39 ⟨[.pointer p31]⟩ h fun v111 h =>
  asI .i64 v111 fun n112 =>
  callD Try.prog 35 ⟨[.pointer p31, .int .i64 3]⟩ h fun v113 h =>
  asI .i64 v113 fun n114 =>
  callD Try.prog 36 ⟨[.pointer p31, .int .i64 30]⟩ h fun v115 h =>
  asB v115 fun t116 =>
  ifB t116
  (newD h [.int .i64 (-1), .int .i64 3] 2 fun b117 h =>
  callD Try.prog 35 ⟨[.pointer p31, .int .i64 2]⟩ h fun v118 h =>
  asI .i64 v118 fun n119 =>
  req (0 ≤ (n119 : Int) ∧ (n119 : Int) < (2 : Nat))
  (ldI .i64 h b117 (0 + n119.toNat * 1) fun n120 =>
  spec_l16DrawOp_M_j7 kr p31 n37 n38 n112 n120 h))
  (spec_l16DrawOp_M_j7 kr p31 n37 n38 n112 n114 h))
  (ifB ((n37 : Int) == 8)
  ((newD h [.int .i64 n42, .int .i64 n53] 2 fun b121 h =>
  callD Try.prog 35 ⟨[.pointer p31, .int .i64 2]⟩ h fun v122 h =>
  asI .i64 v122 fun n123 =>
  req (0 ≤ (n123 : Int) ∧ (n123 : Int) < (2 : Nat))
  (ldI .i64 h b121 (0 + n123.toNat * 1) fun n124 =>
  spec_l16DrawOp_M_j5 (fun p125 n131 n132 n133 n134 h =>
  spec_l16DrawOp_M_j7 kr p125 n131 n132 n133 n134 h) p31 n37 n38 n124 n44 n53 n54 n55 h)) ∧ (callD Try.prog 35 ⟨[.pointer p31, .int .i64 2]⟩ h fun v121 h =>
  asI .i64 v121 fun n122 =>
  newD h [.int .i64 n42, .int .i64 n53] 2 fun b123 h =>
  req (0 ≤ (n122 : Int) ∧ (n122 : Int) < (2 : Nat))
  (ldI .i64 h b123 (0 + n122.toNat * 1) fun n124 =>
  spec_l16DrawOp_M_j5 (fun p125 n131 n132 n133 n134 h =>
  spec_l16DrawOp_M_j7 kr p125 n131 n132 n133 n134 h) p31 n37 n38 n124 n44 n53 n54 n55 h)))
  (ifB ((n37 : Int) == 9)
  (callD Try.prog 35 ⟨[.pointer p31, .int .i64 3]⟩ h fun v136 h =>
  asI .i64 v136 fun n137 =>
  callD Try.prog 36 ⟨[.pointer p31, .int .i64 20]⟩ h fun v138 h =>
  asB v138 fun t139 =>
  ifB t139
  (newD h [.int .i64 (-1), .int .i64 255, .int .i64 256] 2 fun b140 h =>
  callD Try.prog 35 ⟨[.pointer p31, .int .i64 3]⟩ h fun v141 h =>
  asI .i64 v141 fun n142 =>
  req (0 ≤ (n142 : Int) ∧ (n142 : Int) < (3 : Nat))
  (ldI .i64 h b140 (0 + n142.toNat * 1) fun n143 =>
  spec_l16DrawOp_M_j7 kr p31 n37 n38 n39 n143 h))
  (spec_l16DrawOp_M_j7 kr p31 n37 n38 n39 n137 h))
  (spec_l16DrawOp_M_j7 kr p31 n37 n38 n39 n40 h)))))))

def spec_l16DrawOp_M_j0 (kr : Int → Int → Int → Int → H → Prop) (p7 : Option Addr) (a8 : Option Addr) (l8 : Nat) (n15 : Int) (n17 : Int) (n18 : Int) (n20 : Int) (n22 : Int) (h : H) : Prop :=
  (callD Try.prog 35 ⟨[.pointer p7, .int .i64 (l8 : Nat)]⟩ h fun v31 h =>
  asI .i64 v31 fun n32 =>
  req (0 ≤ (n32 : Int) ∧ (n32 : Int) < (l8 : Nat))
  (nz a8 fun b33 o34 =>
  ldRow h b33 (o34 + n32.toNat * 10) 0 [.int .i64, .int .i64, .int .i64, .int .i64, .int .i64, .int .i64, .int .i64, .int .i64, .int .i64, .int .i64] fun n35 n36 n37 n38 n39 n40 n41 n42 n43 n44 =>
  heldRow h b33 (o34 + n32.toNat * 10) 0 [.int .i64 n35, .int .i64 n36, .int .i64 n37, .int .i64 n38, .int .i64 n39, .int .i64 n40, .int .i64 n41, .int .i64 n42, .int .i64 n43, .int .i64 n44] (spec_l16DrawOp_M_j1 kr p7 n15 n20 n17 n18 n20 n22 n35 n36 n37 n39 n41 h))) ∧ (callD Try.prog 35 ⟨[.pointer p7, .int .i64 (l8 : Nat)]⟩ h fun v31 h =>
  asI .i64 v31 fun n32 =>
  req (0 ≤ (n32 : Int) ∧ (n32 : Int) < (l8 : Nat))
  (nz a8 fun b33 o34 =>
  ldRow h b33 (o34 + n32.toNat * 10) 0 [.int .i64, .int .i64, .int .i64, .int .i64, .int .i64, .int .i64, .int .i64, .int .i64, .int .i64, .int .i64] fun n35 n36 n37 n38 n39 n40 n41 n42 n43 n44 =>
  spec_l16DrawOp_M_j1 kr p7 n15 n20 n17 n18 n20 n22 n35 n36 n37 n39 n41 h))

def spec_l16DrawOp_M (kr : Int → Int → Int → Int → H → Prop) (p1 : Option Addr) (a2 : Option Addr) (l2 : Nat) (c2 : Nat) (h : H) : Prop :=
  newD h [.int .i64 1, .int .i64 1, .int .i64 1, .int .i64 1, .int .i64 2, .int .i64 2, .int .i64 3, .int .i64 3, .int .i64 3, .int .i64 4, .int .i64 4, .int .i64 4, .int .i64 5, .int .i64 6, .int .i64 6, .int .i64 7, .int .i64 7, .int .i64 7, .int .i64 7, .int .i64 8, .int .i64 9] 2 fun b3 h =>
  callD Try.prog 35 ⟨[.pointer p1, .int .i64 21]⟩ h fun v4 h =>
  asI .i64 v4 fun n5 =>
  req (0 ≤ (n5 : Int) ∧ (n5 : Int) < (21 : Nat))
  (ldI .i64 h b3 (0 + n5.toNat * 1) fun n6 =>
  (callD Try.prog 35 ⟨[.pointer p1, .int .i64 (l2 : Nat)]⟩ h fun v7 h =>
  asI .i64 v7 fun n8 =>
  req (0 ≤ (n8 : Int) ∧ (n8 : Int) < (l2 : Nat))
  (nz a2 fun b9 o10 =>
  ldRow h b9 (o10 + n8.toNat * 10) 0 [.int .i64, .int .i64, .int .i64, .int .i64, .int .i64, .int .i64, .int .i64, .int .i64, .int .i64, .int .i64] fun n11 n12 n13 n14 n15 n16 n17 n18 n19 n20 =>
  heldRow h b9 (o10 + n8.toNat * 10) 0 [.int .i64 n11, .int .i64 n12, .int .i64 n13, .int .i64 n14, .int .i64 n15, .int .i64 n16, .int .i64 n17, .int .i64 n18, .int .i64 n19, .int .i64 n20] (spec_l16DrawOp_M_j0 kr p1 a2 l2 n6 0 0 n11 n13 h))) ∧ (callD Try.prog 35 ⟨[.pointer p1, .int .i64 (l2 : Nat)]⟩ h fun v7 h =>
  asI .i64 v7 fun n8 =>
  req (0 ≤ (n8 : Int) ∧ (n8 : Int) < (l2 : Nat))
  (nz a2 fun b9 o10 =>
  ldRow h b9 (o10 + n8.toNat * 10) 0 [.int .i64, .int .i64, .int .i64, .int .i64, .int .i64, .int .i64, .int .i64, .int .i64, .int .i64, .int .i64] fun n11 n12 n13 n14 n15 n16 n17 n18 n19 n20 =>
  spec_l16DrawOp_M_j0 kr p1 a2 l2 n6 0 0 n11 n13 h)))

theorem spec_l16DrawOp_M_j2_D {g0 m0 : H} {kn_1 : Option Addr → Nat → Nat → H → Prop} {kn_2 : Option Addr → Int → Int → Int → Int → H → Prop} (Hkn : ∀ (p200001 : Option Addr) (n200002 : Int) (n200003 : Int) (n200004 : Int) (n200005 : Int) (n200007 : Int) (n200008 : Int) (n200009 : Int) (n200010 : Int) (p200006 : Nat) (p200011 : Nat) (g m : H), Md g0 m0 g m [lo p200006 [.int .i64 n200002, .int .i64 n200003, .int .i64 n200004, .int .i64 n200005], lo p200011 [.int .i64 n200007, .int .i64 n200008, .int .i64 n200009, .int .i64 n200010]] → kn_2 p200001 n200007 n200008 n200009 n200010 m → kn_1 p200001 p200006 p200011 g) : ∀ (p1066 : Option Addr) (n1067 : Int) (n1068 : Int) (n1069 : Int) (n1070 : Int) (n1072 : Int) (n1073 : Int) (n1074 : Int) (n1075 : Int) (p1071 : Nat) (p1076 : Nat) (g m : H), Md g0 m0 g m [lo p1071 [.int .i64 n1067, .int .i64 n1068, .int .i64 n1069, .int .i64 n1070], lo p1076 [.int .i64 n1072, .int .i64 n1073, .int .i64 n1074, .int .i64 n1075]] → spec_l16DrawOp_M_j2 kn_2 p1066 n1072 n1073 n1074 n1075 m → spec_l16DrawOp_j2 kn_1 p1066 p1071 p1076 g := by
  intro p1066 n1067 n1068 n1069 n1070 n1072 n1073 n1074 n1075 p1071 p1076 g m R
  rw [spec_l16DrawOp_M_j2, spec_l16DrawOp_j2]
  exact (d_call R fun v1077 g m R =>
  (d_asB fun t1078 =>
  (d_if (d_new R fun b1079 g m R =>
  (d_call R fun v1080 g m R =>
  (d_asI fun n1081 =>
  (d_req (d_ldI R fun n1082 =>
  (p_st R (cs' := [.int .i64 n1072, .int .i64 n1073, .int .i64 n1074, .int .i64 n1082]) ⟨rfl, rfl⟩ fun g R =>
  (Hkn p1066 n1067 n1068 n1069 n1070 n1072 n1073 n1074 n1082 p1071 p1076 _ _ R.sub)))))))
  (Hkn p1066 n1067 n1068 n1069 n1070 n1072 n1073 n1074 n1075 p1071 p1076 _ _ R.sub))))

theorem spec_l16DrawOp_M_j4_D {g0 m0 : H} {kn_1 : Option Addr → Nat → Nat → H → Prop} {kn_2 : Option Addr → Int → Int → Int → Int → H → Prop} (Hkn : ∀ (p200001 : Option Addr) (n200002 : Int) (n200003 : Int) (n200004 : Int) (n200005 : Int) (n200007 : Int) (n200008 : Int) (n200009 : Int) (n200010 : Int) (p200006 : Nat) (p200011 : Nat) (g m : H), Md g0 m0 g m [lo p200006 [.int .i64 n200002, .int .i64 n200003, .int .i64 n200004, .int .i64 n200005], lo p200011 [.int .i64 n200007, .int .i64 n200008, .int .i64 n200009, .int .i64 n200010]] → kn_2 p200001 n200007 n200008 n200009 n200010 m → kn_1 p200001 p200006 p200011 g) : ∀ (p2135 : Option Addr) (t2136 : Bool) (n2137 : Int) (n2138 : Int) (n2139 : Int) (n2140 : Int) (n2142 : Int) (n2143 : Int) (n2144 : Int) (n2145 : Int) (n2147 : Int) (n2148 : Int) (n2149 : Int) (n2150 : Int) (n2151 : Int) (n2152 : Int) (n2153 : Int) (n2154 : Int) (n2155 : Int) (n2156 : Int) (p2141 : Nat) (p2146 : Nat) (p2157 : Nat) (g m : H), Md g0 m0 g m [lo p2141 [.int .i64 n2137, .int .i64 n2138, .int .i64 n2139, .int .i64 n2140], lo p2146 [.int .i64 n2142, .int .i64 n2143, .int .i64 n2144, .int .i64 n2145], lo p2157 [.int .i64 n2147, .int .i64 n2148, .int .i64 n2149, .int .i64 n2150, .int .i64 n2151, .int .i64 n2152, .int .i64 n2153, .int .i64 n2154, .int .i64 n2155, .int .i64 n2156]] → spec_l16DrawOp_M_j4 kn_2 p2135 t2136 n2142 n2143 n2144 n2145 n2147 n2153 m → spec_l16DrawOp_j4 kn_1 p2135 p2141 p2146 p2157 t2136 g := by
  intro p2135 t2136 n2137 n2138 n2139 n2140 n2142 n2143 n2144 n2145 n2147 n2148 n2149 n2150 n2151 n2152 n2153 n2154 n2155 n2156 p2141 p2146 p2157 g m R
  rw [spec_l16DrawOp_M_j4, spec_l16DrawOp_j4]
  exact (d_if (p_ldI R rfl (p_st R (cs' := [.int .i64 n2142, .int .i64 n2143, .int .i64 n2147, .int .i64 n2145]) ⟨rfl, rfl⟩ fun g R =>
  (p_st R (cs' := [.int .i64 n2142, .int .i64 n2143, .int .i64 n2147, .int .i64 12]) ⟨rfl, rfl⟩ fun g R =>
  (p_ldI R rfl (d_call R fun v2158 g m R =>
  (d_asB fun t2159 =>
  (d_if (p_st R (cs' := [.int .i64 n2142, .int .i64 n2143, .int .i64 n2147, .int .i64 13]) ⟨rfl, rfl⟩ fun g R =>
  (Hkn p2135 n2137 n2138 n2139 n2140 n2142 n2143 n2147 13 p2141 p2146 _ _ R.sub))
  (Hkn p2135 n2137 n2138 n2139 n2140 n2142 n2143 n2147 12 p2141 p2146 _ _ R.sub))))))))
  (Hkn p2135 n2137 n2138 n2139 n2140 n2142 n2143 n2144 n2145 p2141 p2146 _ _ R.sub))

theorem spec_l16DrawOp_M_j3_D {g0 m0 : H} {kn_1 : Option Addr → Nat → Nat → H → Prop} {kn_2 : Option Addr → Int → Int → Int → Int → H → Prop} (Hkn : ∀ (p200001 : Option Addr) (n200002 : Int) (n200003 : Int) (n200004 : Int) (n200005 : Int) (n200007 : Int) (n200008 : Int) (n200009 : Int) (n200010 : Int) (p200006 : Nat) (p200011 : Nat) (g m : H), Md g0 m0 g m [lo p200006 [.int .i64 n200002, .int .i64 n200003, .int .i64 n200004, .int .i64 n200005], lo p200011 [.int .i64 n200007, .int .i64 n200008, .int .i64 n200009, .int .i64 n200010]] → kn_2 p200001 n200007 n200008 n200009 n200010 m → kn_1 p200001 p200006 p200011 g) : ∀ (p2111 : Option Addr) (n2112 : Int) (n2113 : Int) (n2114 : Int) (n2115 : Int) (n2117 : Int) (n2118 : Int) (n2119 : Int) (n2120 : Int) (n2122 : Int) (n2123 : Int) (n2124 : Int) (n2125 : Int) (n2126 : Int) (n2127 : Int) (n2128 : Int) (n2129 : Int) (n2130 : Int) (n2131 : Int) (p2116 : Nat) (p2121 : Nat) (p2132 : Nat) (g m : H), Md g0 m0 g m [lo p2116 [.int .i64 n2112, .int .i64 n2113, .int .i64 n2114, .int .i64 n2115], lo p2121 [.int .i64 n2117, .int .i64 n2118, .int .i64 n2119, .int .i64 n2120], lo p2132 [.int .i64 n2122, .int .i64 n2123, .int .i64 n2124, .int .i64 n2125, .int .i64 n2126, .int .i64 n2127, .int .i64 n2128, .int .i64 n2129, .int .i64 n2130, .int .i64 n2131]] → spec_l16DrawOp_M_j3 kn_2 p2111 n2117 n2118 n2119 n2122 n2128 m → spec_l16DrawOp_j3 kn_1 p2111 p2116 p2121 p2132 g := by
  intro p2111 n2112 n2113 n2114 n2115 n2117 n2118 n2119 n2120 n2122 n2123 n2124 n2125 n2126 n2127 n2128 n2129 n2130 n2131 p2116 p2121 p2132 g m R
  rw [spec_l16DrawOp_M_j3, spec_l16DrawOp_j3]
  exact (d_call R fun v2133 g m R =>
  (d_asI fun n2134 =>
  (p_st R (cs' := [.int .i64 n2117, .int .i64 n2118, .int .i64 n2119, .int .i64 n2134]) ⟨rfl, rfl⟩ fun g R =>
  (d_call R fun v2135 g m R =>
  (d_asB fun t2136 =>
  (d_if (p_ldI R rfl (d_call R fun v2137 g m R =>
  (d_asB fun t2138 =>
  (d_if (spec_l16DrawOp_M_j4_D (by exact fun p2139 n2140 n2141 n2142 n2143 n2145 n2146 n2147 n2148 p2144 p2149 g m R =>
  (Hkn p2139 n2140 n2141 n2142 n2143 n2145 n2146 n2147 n2148 p2144 p2149 _ _ R.sub)) p2111 true n2112 n2113 n2114 n2115 n2117 n2118 n2119 n2134 n2122 n2123 n2124 n2125 n2126 n2127 n2128 n2129 n2130 n2131 p2116 p2121 p2132 _ _ R.sub)
  (p_ldI R rfl (d_call R fun v2150 g m R =>
  (d_asB fun t2151 =>
  (spec_l16DrawOp_M_j4_D (by exact fun p2152 n2153 n2154 n2155 n2156 n2158 n2159 n2160 n2161 p2157 p2162 g m R =>
  (Hkn p2152 n2153 n2154 n2155 n2156 n2158 n2159 n2160 n2161 p2157 p2162 _ _ R.sub)) p2111 t2151 n2112 n2113 n2114 n2115 n2117 n2118 n2119 n2134 n2122 n2123 n2124 n2125 n2126 n2127 n2128 n2129 n2130 n2131 p2116 p2121 p2132 _ _ R.sub))))))))
  (spec_l16DrawOp_M_j4_D (by exact fun p2163 n2164 n2165 n2166 n2167 n2169 n2170 n2171 n2172 p2168 p2173 g m R =>
  (Hkn p2163 n2164 n2165 n2166 n2167 n2169 n2170 n2171 n2172 p2168 p2173 _ _ R.sub)) p2111 false n2112 n2113 n2114 n2115 n2117 n2118 n2119 n2134 n2122 n2123 n2124 n2125 n2126 n2127 n2128 n2129 n2130 n2131 p2116 p2121 p2132 _ _ R.sub)))))))

theorem spec_l16DrawOp_M_j6_D {g0 m0 : H} {kn_1 : Option Addr → Nat → Nat → H → Prop} {kn_2 : Option Addr → Int → Int → Int → Int → H → Prop} (Hkn : ∀ (p200001 : Option Addr) (n200002 : Int) (n200003 : Int) (n200004 : Int) (n200005 : Int) (n200007 : Int) (n200008 : Int) (n200009 : Int) (n200010 : Int) (p200006 : Nat) (p200011 : Nat) (g m : H), Md g0 m0 g m [lo p200006 [.int .i64 n200002, .int .i64 n200003, .int .i64 n200004, .int .i64 n200005], lo p200011 [.int .i64 n200007, .int .i64 n200008, .int .i64 n200009, .int .i64 n200010]] → kn_2 p200001 n200007 n200008 n200009 n200010 m → kn_1 p200001 p200006 p200011 g) : ∀ (p3234 : Option Addr) (n3235 : Int) (n3236 : Int) (n3237 : Int) (n3238 : Int) (n3240 : Int) (n3241 : Int) (n3242 : Int) (n3243 : Int) (n3245 : Int) (n3246 : Int) (n3247 : Int) (n3248 : Int) (n3249 : Int) (n3250 : Int) (n3251 : Int) (n3252 : Int) (n3253 : Int) (n3254 : Int) (n3256 : Int) (n3257 : Int) (n3258 : Int) (n3259 : Int) (n3260 : Int) (n3261 : Int) (n3262 : Int) (n3263 : Int) (n3264 : Int) (n3265 : Int) (p3239 : Nat) (p3244 : Nat) (p3255 : Nat) (p3266 : Nat) (g m : H), Md g0 m0 g m [lo p3239 [.int .i64 n3235, .int .i64 n3236, .int .i64 n3237, .int .i64 n3238], lo p3244 [.int .i64 n3240, .int .i64 n3241, .int .i64 n3242, .int .i64 n3243], lo p3255 [.int .i64 n3245, .int .i64 n3246, .int .i64 n3247, .int .i64 n3248, .int .i64 n3249, .int .i64 n3250, .int .i64 n3251, .int .i64 n3252, .int .i64 n3253, .int .i64 n3254], lo p3266 [.int .i64 n3256, .int .i64 n3257, .int .i64 n3258, .int .i64 n3259, .int .i64 n3260, .int .i64 n3261, .int .i64 n3262, .int .i64 n3263, .int .i64 n3264, .int .i64 n3265]] → spec_l16DrawOp_M_j6 kn_2 p3234 n3240 n3241 n3242 n3247 n3258 m → spec_l16DrawOp_j6 kn_1 p3234 p3239 p3244 p3255 p3266 g := by
  intro p3234 n3235 n3236 n3237 n3238 n3240 n3241 n3242 n3243 n3245 n3246 n3247 n3248 n3249 n3250 n3251 n3252 n3253 n3254 n3256 n3257 n3258 n3259 n3260 n3261 n3262 n3263 n3264 n3265 p3239 p3244 p3255 p3266 g m R
  rw [spec_l16DrawOp_M_j6, spec_l16DrawOp_j6]
  exact (p_ldI R rfl (p_ldI R rfl (p_ldI R rfl (d_call R fun v3267 g m R =>
  (d_asI fun n3268 =>
  (p_cell R rfl (p_cell R rfl (p_cell R rfl (d_dup (d_l (d_new R fun b3269 g m R =>
  (d_call R fun v3270 g m R =>
  (d_asI fun n3271 =>
  (d_req (d_ldI R fun n3272 =>
  (p_st R (cs' := [.int .i64 n3240, .int .i64 n3241, .int .i64 n3242, .int .i64 n3272]) ⟨rfl, rfl⟩ fun g R =>
  (Hkn p3234 n3235 n3236 n3237 n3238 n3240 n3241 n3242 n3272 p3239 p3244 _ _ R.sub))))))))
  (d_r (d_call R fun v3269 g m R =>
  (d_asI fun n3270 =>
  (p_cell R rfl (p_cell R rfl (p_cell R rfl (d_new R fun b3271 g m R =>
  (d_req (d_ldI R fun n3272 =>
  (p_st R (cs' := [.int .i64 n3240, .int .i64 n3241, .int .i64 n3242, .int .i64 n3272]) ⟨rfl, rfl⟩ fun g R =>
  (Hkn p3234 n3235 n3236 n3237 n3238 n3240 n3241 n3242 n3272 p3239 p3244 _ _ R.sub))))))))))))))))))))

theorem spec_l16DrawOp_M_j5_D {g0 m0 : H} {kn_1 : Option Addr → Nat → Nat → H → Prop} {kn_2 : Option Addr → Int → Int → Int → Int → H → Prop} (Hkn : ∀ (p200001 : Option Addr) (n200002 : Int) (n200003 : Int) (n200004 : Int) (n200005 : Int) (n200007 : Int) (n200008 : Int) (n200009 : Int) (n200010 : Int) (p200006 : Nat) (p200011 : Nat) (g m : H), Md g0 m0 g m [lo p200006 [.int .i64 n200002, .int .i64 n200003, .int .i64 n200004, .int .i64 n200005], lo p200011 [.int .i64 n200007, .int .i64 n200008, .int .i64 n200009, .int .i64 n200010]] → kn_2 p200001 n200007 n200008 n200009 n200010 m → kn_1 p200001 p200006 p200011 g) : ∀ (p3201 : Option Addr) (n3202 : Int) (n3203 : Int) (n3204 : Int) (n3205 : Int) (n3207 : Int) (n3208 : Int) (n3209 : Int) (n3210 : Int) (n3212 : Int) (n3213 : Int) (n3214 : Int) (n3215 : Int) (n3216 : Int) (n3217 : Int) (n3218 : Int) (n3219 : Int) (n3220 : Int) (n3221 : Int) (n3223 : Int) (n3224 : Int) (n3225 : Int) (n3226 : Int) (n3227 : Int) (n3228 : Int) (n3229 : Int) (n3230 : Int) (n3231 : Int) (n3232 : Int) (p3206 : Nat) (p3211 : Nat) (p3222 : Nat) (p3233 : Nat) (g m : H), Md g0 m0 g m [lo p3206 [.int .i64 n3202, .int .i64 n3203, .int .i64 n3204, .int .i64 n3205], lo p3211 [.int .i64 n3207, .int .i64 n3208, .int .i64 n3209, .int .i64 n3210], lo p3222 [.int .i64 n3212, .int .i64 n3213, .int .i64 n3214, .int .i64 n3215, .int .i64 n3216, .int .i64 n3217, .int .i64 n3218, .int .i64 n3219, .int .i64 n3220, .int .i64 n3221], lo p3233 [.int .i64 n3223, .int .i64 n3224, .int .i64 n3225, .int .i64 n3226, .int .i64 n3227, .int .i64 n3228, .int .i64 n3229, .int .i64 n3230, .int .i64 n3231, .int .i64 n3232]] → spec_l16DrawOp_M_j5 kn_2 p3201 n3207 n3208 n3209 n3214 n3223 n3224 n3225 m → spec_l16DrawOp_j5 kn_1 p3201 p3206 p3211 p3222 p3233 g := by
  intro p3201 n3202 n3203 n3204 n3205 n3207 n3208 n3209 n3210 n3212 n3213 n3214 n3215 n3216 n3217 n3218 n3219 n3220 n3221 n3223 n3224 n3225 n3226 n3227 n3228 n3229 n3230 n3231 n3232 p3206 p3211 p3222 p3233 g m R
  rw [spec_l16DrawOp_M_j5, spec_l16DrawOp_j5]
  exact (d_call R fun v3234 g m R =>
  (d_asB fun t3235 =>
  (d_if (p_ldI R rfl (p_st R (cs' := [.int .i64 n3207, .int .i64 n3224, .int .i64 n3209, .int .i64 n3210]) ⟨rfl, rfl⟩ fun g R =>
  (p_ldI R rfl (p_st R (cs' := [.int .i64 n3207, .int .i64 n3224, .int .i64 n3223, .int .i64 n3210]) ⟨rfl, rfl⟩ fun g R =>
  (spec_l16DrawOp_M_j6_D (by exact fun p3236 n3237 n3238 n3239 n3240 n3242 n3243 n3244 n3245 p3241 p3246 g m R =>
  (Hkn p3236 n3237 n3238 n3239 n3240 n3242 n3243 n3244 n3245 p3241 p3246 _ _ R.sub)) p3201 n3202 n3203 n3204 n3205 n3207 n3224 n3223 n3210 n3212 n3213 n3214 n3215 n3216 n3217 n3218 n3219 n3220 n3221 n3223 n3224 n3225 n3226 n3227 n3228 n3229 n3230 n3231 n3232 p3206 p3211 p3222 p3233 _ _ R.sub)))))
  (spec_l16DrawOp_M_j6_D (by exact fun p3247 n3248 n3249 n3250 n3251 n3253 n3254 n3255 n3256 p3252 p3257 g m R =>
  (Hkn p3247 n3248 n3249 n3250 n3251 n3253 n3254 n3255 n3256 p3252 p3257 _ _ R.sub)) p3201 n3202 n3203 n3204 n3205 n3207 n3208 n3209 n3210 n3212 n3213 n3214 n3215 n3216 n3217 n3218 n3219 n3220 n3221 n3223 n3224 n3225 n3226 n3227 n3228 n3229 n3230 n3231 n3232 p3206 p3211 p3222 p3233 _ _ R.sub))))

theorem spec_l16DrawOp_M_j9_D {g0 m0 : H} {kr_1 : Nat → H → Prop} {kr_2 : Int → Int → Int → Int → H → Prop} (Hkr : ∀ (n200001 : Int) (n200002 : Int) (n200003 : Int) (n200004 : Int) (p200005 : Nat) (g m : H), Md g0 m0 g m [lo p200005 [.int .i64 n200001, .int .i64 n200002, .int .i64 n200003, .int .i64 n200004]] → kr_2 n200001 n200002 n200003 n200004 m → kr_1 p200005 g) : ∀ (p1086 : Option Addr) (n1087 : Int) (n1088 : Int) (n1089 : Int) (n1090 : Int) (n1092 : Int) (n1093 : Int) (n1094 : Int) (n1095 : Int) (p1091 : Nat) (p1096 : Nat) (g m : H), Md g0 m0 g m [lo p1091 [.int .i64 n1087, .int .i64 n1088, .int .i64 n1089, .int .i64 n1090], lo p1096 [.int .i64 n1092, .int .i64 n1093, .int .i64 n1094, .int .i64 n1095]] → spec_l16DrawOp_M_j9 kr_2 p1086 n1092 n1093 n1094 n1095 m → spec_l16DrawOp_j9 kr_1 p1086 p1091 p1096 g := by
  intro p1086 n1087 n1088 n1089 n1090 n1092 n1093 n1094 n1095 p1091 p1096 g m R
  rw [spec_l16DrawOp_M_j9, spec_l16DrawOp_j9]
  exact (d_call R fun v1097 g m R =>
  (d_asB fun t1098 =>
  (d_if (d_new R fun b1099 g m R =>
  (d_call R fun v1100 g m R =>
  (d_asI fun n1101 =>
  (d_req (d_ldI R fun n1102 =>
  (p_st R (cs' := [.int .i64 n1092, .int .i64 n1093, .int .i64 n1102, .int .i64 n1095]) ⟨rfl, rfl⟩ fun g R =>
  (p_row_I4 R rfl rfl rfl rfl (p_stRow R (cs' := [.int .i64 n1092, .int .i64 n1093, .int .i64 n1102, .int .i64 n1095]) ⟨rfl, rfl, rfl⟩ fun g R =>
  (Hkr n1092 n1093 n1102 n1095 p1091 _ _ R.sub)))))))))
  (p_row_I4 R rfl rfl rfl rfl (p_stRow R (cs' := [.int .i64 n1092, .int .i64 n1093, .int .i64 n1094, .int .i64 n1095]) ⟨rfl, rfl, rfl⟩ fun g R =>
  (Hkr n1092 n1093 n1094 n1095 p1091 _ _ R.sub))))))

theorem spec_l16DrawOp_M_j8_D {g0 m0 : H} {kr_1 : Nat → H → Prop} {kr_2 : Int → Int → Int → Int → H → Prop} (Hkr : ∀ (n200001 : Int) (n200002 : Int) (n200003 : Int) (n200004 : Int) (p200005 : Nat) (g m : H), Md g0 m0 g m [lo p200005 [.int .i64 n200001, .int .i64 n200002, .int .i64 n200003, .int .i64 n200004]] → kr_2 n200001 n200002 n200003 n200004 m → kr_1 p200005 g) : ∀ (p1075 : Option Addr) (n1076 : Int) (n1077 : Int) (n1078 : Int) (n1079 : Int) (n1081 : Int) (n1082 : Int) (n1083 : Int) (n1084 : Int) (p1080 : Nat) (p1085 : Nat) (g m : H), Md g0 m0 g m [lo p1080 [.int .i64 n1076, .int .i64 n1077, .int .i64 n1078, .int .i64 n1079], lo p1085 [.int .i64 n1081, .int .i64 n1082, .int .i64 n1083, .int .i64 n1084]] → spec_l16DrawOp_M_j8 kr_2 p1075 n1081 n1082 n1083 n1084 m → spec_l16DrawOp_j8 kr_1 p1075 p1080 p1085 g := by
  intro p1075 n1076 n1077 n1078 n1079 n1081 n1082 n1083 n1084 p1080 p1085 g m R
  rw [spec_l16DrawOp_M_j8, spec_l16DrawOp_j8]
  exact (d_call R fun v1086 g m R =>
  (d_asB fun t1087 =>
  (d_if (d_new R fun b1088 g m R =>
  (d_call R fun v1089 g m R =>
  (d_asI fun n1090 =>
  (d_req (d_ldI R fun n1091 =>
  (p_st R (cs' := [.int .i64 n1091, .int .i64 n1082, .int .i64 n1083, .int .i64 n1084]) ⟨rfl, rfl⟩ fun g R =>
  (spec_l16DrawOp_M_j9_D (by exact fun n1092 n1093 n1094 n1095 p1096 g m R =>
  (Hkr n1092 n1093 n1094 n1095 p1096 _ _ R.sub)) p1075 n1076 n1077 n1078 n1079 n1091 n1082 n1083 n1084 p1080 p1085 _ _ R.sub)))))))
  (spec_l16DrawOp_M_j9_D (by exact fun n1097 n1098 n1099 n1100 p1101 g m R =>
  (Hkr n1097 n1098 n1099 n1100 p1101 _ _ R.sub)) p1075 n1076 n1077 n1078 n1079 n1081 n1082 n1083 n1084 p1080 p1085 _ _ R.sub))))

theorem spec_l16DrawOp_M_j7_D {g0 m0 : H} {kr_1 : Nat → H → Prop} {kr_2 : Int → Int → Int → Int → H → Prop} (Hkr : ∀ (n200001 : Int) (n200002 : Int) (n200003 : Int) (n200004 : Int) (p200005 : Nat) (g m : H), Md g0 m0 g m [lo p200005 [.int .i64 n200001, .int .i64 n200002, .int .i64 n200003, .int .i64 n200004]] → kr_2 n200001 n200002 n200003 n200004 m → kr_1 p200005 g) : ∀ (p1064 : Option Addr) (n1065 : Int) (n1066 : Int) (n1067 : Int) (n1068 : Int) (n1070 : Int) (n1071 : Int) (n1072 : Int) (n1073 : Int) (p1069 : Nat) (p1074 : Nat) (g m : H), Md g0 m0 g m [lo p1069 [.int .i64 n1065, .int .i64 n1066, .int .i64 n1067, .int .i64 n1068], lo p1074 [.int .i64 n1070, .int .i64 n1071, .int .i64 n1072, .int .i64 n1073]] → spec_l16DrawOp_M_j7 kr_2 p1064 n1070 n1071 n1072 n1073 m → spec_l16DrawOp_j7 kr_1 p1064 p1069 p1074 g := by
  intro p1064 n1065 n1066 n1067 n1068 n1070 n1071 n1072 n1073 p1069 p1074 g m R
  rw [spec_l16DrawOp_M_j7, spec_l16DrawOp_j7]
  exact (d_call R fun v1075 g m R =>
  (d_asB fun t1076 =>
  (d_if (d_new R fun b1077 g m R =>
  (d_call R fun v1078 g m R =>
  (d_asI fun n1079 =>
  (d_req (d_ldI R fun n1080 =>
  (p_st R (cs' := [.int .i64 n1070, .int .i64 n1080, .int .i64 n1072, .int .i64 n1073]) ⟨rfl, rfl⟩ fun g R =>
  (spec_l16DrawOp_M_j8_D (by exact fun n1081 n1082 n1083 n1084 p1085 g m R =>
  (Hkr n1081 n1082 n1083 n1084 p1085 _ _ R.sub)) p1064 n1065 n1066 n1067 n1068 n1070 n1080 n1072 n1073 p1069 p1074 _ _ R.sub)))))))
  (spec_l16DrawOp_M_j8_D (by exact fun n1086 n1087 n1088 n1089 p1090 g m R =>
  (Hkr n1086 n1087 n1088 n1089 p1090 _ _ R.sub)) p1064 n1065 n1066 n1067 n1068 n1070 n1071 n1072 n1073 p1069 p1074 _ _ R.sub))))

theorem spec_l16DrawOp_M_j1_D {g0 m0 : H} {kr_1 : Nat → H → Prop} {kr_2 : Int → Int → Int → Int → H → Prop} (Hkr : ∀ (n200001 : Int) (n200002 : Int) (n200003 : Int) (n200004 : Int) (p200005 : Nat) (g m : H), Md g0 m0 g m [lo p200005 [.int .i64 n200001, .int .i64 n200002, .int .i64 n200003, .int .i64 n200004]] → kr_2 n200001 n200002 n200003 n200004 m → kr_1 p200005 g) : ∀ (p1031 : Option Addr) (n1032 : Int) (n1033 : Int) (n1034 : Int) (n1035 : Int) (n1037 : Int) (n1038 : Int) (n1039 : Int) (n1040 : Int) (n1042 : Int) (n1043 : Int) (n1044 : Int) (n1045 : Int) (n1046 : Int) (n1047 : Int) (n1048 : Int) (n1049 : Int) (n1050 : Int) (n1051 : Int) (n1053 : Int) (n1054 : Int) (n1055 : Int) (n1056 : Int) (n1057 : Int) (n1058 : Int) (n1059 : Int) (n1060 : Int) (n1061 : Int) (n1062 : Int) (p1036 : Nat) (p1041 : Nat) (p1052 : Nat) (p1063 : Nat) (g m : H), Md g0 m0 g m [lo p1036 [.int .i64 n1032, .int .i64 n1033, .int .i64 n1034, .int .i64 n1035], lo p1041 [.int .i64 n1037, .int .i64 n1038, .int .i64 n1039, .int .i64 n1040], lo p1052 [.int .i64 n1042, .int .i64 n1043, .int .i64 n1044, .int .i64 n1045, .int .i64 n1046, .int .i64 n1047, .int .i64 n1048, .int .i64 n1049, .int .i64 n1050, .int .i64 n1051], lo p1063 [.int .i64 n1053, .int .i64 n1054, .int .i64 n1055, .int .i64 n1056, .int .i64 n1057, .int .i64 n1058, .int .i64 n1059, .int .i64 n1060, .int .i64 n1061, .int .i64 n1062]] → spec_l16DrawOp_M_j1 kr_2 p1031 n1037 n1038 n1039 n1040 n1042 n1044 n1053 n1054 n1055 n1057 n1059 m → spec_l16DrawOp_j1 kr_1 p1031 p1036 p1041 p1052 p1063 g := by
  intro p1031 n1032 n1033 n1034 n1035 n1037 n1038 n1039 n1040 n1042 n1043 n1044 n1045 n1046 n1047 n1048 n1049 n1050 n1051 n1053 n1054 n1055 n1056 n1057 n1058 n1059 n1060 n1061 n1062 p1036 p1041 p1052 p1063 g m R
  rw [spec_l16DrawOp_M_j1, spec_l16DrawOp_j1]
  exact (p_ldI R rfl (d_if (d_call R fun v1064 g m R =>
  (d_asI fun n1065 =>
  (p_st R (cs' := [.int .i64 n1037, .int .i64 n1038, .int .i64 n1039, .int .i64 n1065]) ⟨rfl, rfl⟩ fun g R =>
  (p_ldI R rfl (d_if (p_ldI R rfl (p_st R (cs' := [.int .i64 n1037, .int .i64 n1054, .int .i64 n1039, .int .i64 n1065]) ⟨rfl, rfl⟩ fun g R =>
  (spec_l16DrawOp_M_j2_D (by exact fun p1066 n1067 n1068 n1069 n1070 n1072 n1073 n1074 n1075 p1071 p1076 g m R =>
  (spec_l16DrawOp_M_j7_D (by exact fun n1077 n1078 n1079 n1080 p1081 g m R =>
  (Hkr n1077 n1078 n1079 n1080 p1081 _ _ R.sub)) p1066 n1067 n1068 n1069 n1070 n1072 n1073 n1074 n1075 p1071 p1076 _ _ R.sub)) p1031 n1032 n1033 n1034 n1035 n1037 n1054 n1039 n1065 p1036 p1041 _ _ R.sub)))
  (spec_l16DrawOp_M_j2_D (by exact fun p1082 n1083 n1084 n1085 n1086 n1088 n1089 n1090 n1091 p1087 p1092 g m R =>
  (spec_l16DrawOp_M_j7_D (by exact fun n1093 n1094 n1095 n1096 p1097 g m R =>
  (Hkr n1093 n1094 n1095 n1096 p1097 _ _ R.sub)) p1082 n1083 n1084 n1085 n1086 n1088 n1089 n1090 n1091 p1087 p1092 _ _ R.sub)) p1031 n1032 n1033 n1034 n1035 n1037 n1038 n1039 n1065 p1036 p1041 _ _ R.sub))))))
  (d_if (p_ldI R rfl (p_ldI R rfl (d_dup (d_l (d_new R fun b1098 g m R =>
  (d_call R fun v1099 g m R =>
  (d_asI fun n1100 =>
  (d_req (d_ldI R fun n1101 =>
  (p_st R (cs' := [.int .i64 n1037, .int .i64 n1038, .int .i64 n1101, .int .i64 n1040]) ⟨rfl, rfl⟩ fun g R =>
  (d_call R fun v1102 g m R =>
  (d_asB fun t1103 =>
  (d_if (p_ldI R rfl (p_st R (cs' := [.int .i64 n1037, .int .i64 n1054, .int .i64 n1101, .int .i64 n1040]) ⟨rfl, rfl⟩ fun g R =>
  (spec_l16DrawOp_M_j7_D (by exact fun n1104 n1105 n1106 n1107 p1108 g m R =>
  (Hkr n1104 n1105 n1106 n1107 p1108 _ _ R.sub)) p1031 n1032 n1033 n1034 n1035 n1037 n1054 n1101 n1040 p1036 p1041 _ _ R.sub)))
  (spec_l16DrawOp_M_j7_D (by exact fun n1109 n1110 n1111 n1112 p1113 g m R =>
  (Hkr n1109 n1110 n1111 n1112 p1113 _ _ R.sub)) p1031 n1032 n1033 n1034 n1035 n1037 n1038 n1101 n1040 p1036 p1041 _ _ R.sub)))))))))))
  (d_r (d_call R fun v1098 g m R =>
  (d_asI fun n1099 =>
  (p_cell R rfl (p_cell R rfl (d_new R fun b1100 g m R =>
  (d_req (d_ldI R fun n1101 =>
  (p_st R (cs' := [.int .i64 n1037, .int .i64 n1038, .int .i64 n1101, .int .i64 n1040]) ⟨rfl, rfl⟩ fun g R =>
  (d_call R fun v1102 g m R =>
  (d_asB fun t1103 =>
  (d_if (p_ldI R rfl (p_st R (cs' := [.int .i64 n1037, .int .i64 n1054, .int .i64 n1101, .int .i64 n1040]) ⟨rfl, rfl⟩ fun g R =>
  (spec_l16DrawOp_M_j7_D (by exact fun n1104 n1105 n1106 n1107 p1108 g m R =>
  (Hkr n1104 n1105 n1106 n1107 p1108 _ _ R.sub)) p1031 n1032 n1033 n1034 n1035 n1037 n1054 n1101 n1040 p1036 p1041 _ _ R.sub)))
  (spec_l16DrawOp_M_j7_D (by exact fun n1109 n1110 n1111 n1112 p1113 g m R =>
  (Hkr n1109 n1110 n1111 n1112 p1113 _ _ R.sub)) p1031 n1032 n1033 n1034 n1035 n1037 n1038 n1101 n1040 p1036 p1041 _ _ R.sub))))))))))))))))
  (d_if (p_ldI R rfl (p_ldI R rfl (p_ldI R rfl (p_ldI R rfl (d_dup (d_l (d_new R fun b1114 g m R =>
  (d_call R fun v1115 g m R =>
  (d_asI fun n1116 =>
  (d_req (d_ldI R fun n1117 =>
  (p_st R (cs' := [.int .i64 n1037, .int .i64 n1038, .int .i64 n1117, .int .i64 n1040]) ⟨rfl, rfl⟩ fun g R =>
  (spec_l16DrawOp_M_j3_D (by exact fun p1118 n1119 n1120 n1121 n1122 n1124 n1125 n1126 n1127 p1123 p1128 g m R =>
  (spec_l16DrawOp_M_j7_D (by exact fun n1129 n1130 n1131 n1132 p1133 g m R =>
  (Hkr n1129 n1130 n1131 n1132 p1133 _ _ R.sub)) p1118 n1119 n1120 n1121 n1122 n1124 n1125 n1126 n1127 p1123 p1128 _ _ R.sub)) p1031 n1032 n1033 n1034 n1035 n1037 n1038 n1117 n1040 n1053 n1054 n1055 n1056 n1057 n1058 n1059 n1060 n1061 n1062 p1036 p1041 p1063 _ _ R.sub))))))))
  (d_r (d_call R fun v1114 g m R =>
  (d_asI fun n1115 =>
  (p_cell R rfl (p_cell R rfl (p_cell R rfl (p_cell R rfl (d_new R fun b1116 g m R =>
  (d_req (d_ldI R fun n1117 =>
  (p_st R (cs' := [.int .i64 n1037, .int .i64 n1038, .int .i64 n1117, .int .i64 n1040]) ⟨rfl, rfl⟩ fun g R =>
  (spec_l16DrawOp_M_j3_D (by exact fun p1118 n1119 n1120 n1121 n1122 n1124 n1125 n1126 n1127 p1123 p1128 g m R =>
  (spec_l16DrawOp_M_j7_D (by exact fun n1129 n1130 n1131 n1132 p1133 g m R =>
  (Hkr n1129 n1130 n1131 n1132 p1133 _ _ R.sub)) p1118 n1119 n1120 n1121 n1122 n1124 n1125 n1126 n1127 p1123 p1128 _ _ R.sub)) p1031 n1032 n1033 n1034 n1035 n1037 n1038 n1117 n1040 n1053 n1054 n1055 n1056 n1057 n1058 n1059 n1060 n1061 n1062 p1036 p1041 p1063 _ _ R.sub)))))))))))))))))
  (d_if (d_call R fun v1134 g m R =>
  (d_asI fun n1135 =>
  (p_st R (cs' := [.int .i64 n1037, .int .i64 n1038, .int .i64 n1135, .int .i64 n1040]) ⟨rfl, rfl⟩ fun g R =>
  (spec_l16DrawOp_M_j7_D (by exact fun n1136 n1137 n1138 n1139 p1140 g m R =>
  (Hkr n1136 n1137 n1138 n1139 p1140 _ _ R.sub)) p1031 n1032 n1033 n1034 n1035 n1037 n1038 n1135 n1040 p1036 p1041 _ _ R.sub))))
  (d_if (d_call R fun v1141 g m R =>
  (d_asI fun n1142 =>
  (p_st R (cs' := [.int .i64 n1037, .int .i64 n1038, .int .i64 n1142, .int .i64 n1040]) ⟨rfl, rfl⟩ fun g R =>
  (d_call R fun v1143 g m R =>
  (d_asI fun n1144 =>
  (p_st R (cs' := [.int .i64 n1037, .int .i64 n1038, .int .i64 n1142, .int .i64 n1144]) ⟨rfl, rfl⟩ fun g R =>
  (d_call R fun v1145 g m R =>
  (d_asB fun t1146 =>
  (d_if (d_new R fun b1147 g m R =>
  (d_call R fun v1148 g m R =>
  (d_asI fun n1149 =>
  (d_req (d_ldI R fun n1150 =>
  (p_st R (cs' := [.int .i64 n1037, .int .i64 n1038, .int .i64 n1142, .int .i64 n1150]) ⟨rfl, rfl⟩ fun g R =>
  (spec_l16DrawOp_M_j7_D (by exact fun n1151 n1152 n1153 n1154 p1155 g m R =>
  (Hkr n1151 n1152 n1153 n1154 p1155 _ _ R.sub)) p1031 n1032 n1033 n1034 n1035 n1037 n1038 n1142 n1150 p1036 p1041 _ _ R.sub)))))))
  (spec_l16DrawOp_M_j7_D (by exact fun n1156 n1157 n1158 n1159 p1160 g m R =>
  (Hkr n1156 n1157 n1158 n1159 p1160 _ _ R.sub)) p1031 n1032 n1033 n1034 n1035 n1037 n1038 n1142 n1144 p1036 p1041 _ _ R.sub))))))))))
  (d_if (p_ldI R rfl (p_ldI R rfl (d_dup (d_l (d_new R fun b1161 g m R =>
  (d_call R fun v1162 g m R =>
  (d_asI fun n1163 =>
  (d_req (d_ldI R fun n1164 =>
  (p_st R (cs' := [.int .i64 n1037, .int .i64 n1038, .int .i64 n1164, .int .i64 n1040]) ⟨rfl, rfl⟩ fun g R =>
  (spec_l16DrawOp_M_j5_D (by exact fun p1165 n1166 n1167 n1168 n1169 n1171 n1172 n1173 n1174 p1170 p1175 g m R =>
  (spec_l16DrawOp_M_j7_D (by exact fun n1176 n1177 n1178 n1179 p1180 g m R =>
  (Hkr n1176 n1177 n1178 n1179 p1180 _ _ R.sub)) p1165 n1166 n1167 n1168 n1169 n1171 n1172 n1173 n1174 p1170 p1175 _ _ R.sub)) p1031 n1032 n1033 n1034 n1035 n1037 n1038 n1164 n1040 n1042 n1043 n1044 n1045 n1046 n1047 n1048 n1049 n1050 n1051 n1053 n1054 n1055 n1056 n1057 n1058 n1059 n1060 n1061 n1062 p1036 p1041 p1052 p1063 _ _ R.sub))))))))
  (d_r (d_call R fun v1161 g m R =>
  (d_asI fun n1162 =>
  (p_cell R rfl (p_cell R rfl (d_new R fun b1163 g m R =>
  (d_req (d_ldI R fun n1164 =>
  (p_st R (cs' := [.int .i64 n1037, .int .i64 n1038, .int .i64 n1164, .int .i64 n1040]) ⟨rfl, rfl⟩ fun g R =>
  (spec_l16DrawOp_M_j5_D (by exact fun p1165 n1166 n1167 n1168 n1169 n1171 n1172 n1173 n1174 p1170 p1175 g m R =>
  (spec_l16DrawOp_M_j7_D (by exact fun n1176 n1177 n1178 n1179 p1180 g m R =>
  (Hkr n1176 n1177 n1178 n1179 p1180 _ _ R.sub)) p1165 n1166 n1167 n1168 n1169 n1171 n1172 n1173 n1174 p1170 p1175 _ _ R.sub)) p1031 n1032 n1033 n1034 n1035 n1037 n1038 n1164 n1040 n1042 n1043 n1044 n1045 n1046 n1047 n1048 n1049 n1050 n1051 n1053 n1054 n1055 n1056 n1057 n1058 n1059 n1060 n1061 n1062 p1036 p1041 p1052 p1063 _ _ R.sub)))))))))))))
  (d_if (d_call R fun v1181 g m R =>
  (d_asI fun n1182 =>
  (p_st R (cs' := [.int .i64 n1037, .int .i64 n1038, .int .i64 n1039, .int .i64 n1182]) ⟨rfl, rfl⟩ fun g R =>
  (d_call R fun v1183 g m R =>
  (d_asB fun t1184 =>
  (d_if (d_new R fun b1185 g m R =>
  (d_call R fun v1186 g m R =>
  (d_asI fun n1187 =>
  (d_req (d_ldI R fun n1188 =>
  (p_st R (cs' := [.int .i64 n1037, .int .i64 n1038, .int .i64 n1039, .int .i64 n1188]) ⟨rfl, rfl⟩ fun g R =>
  (spec_l16DrawOp_M_j7_D (by exact fun n1189 n1190 n1191 n1192 p1193 g m R =>
  (Hkr n1189 n1190 n1191 n1192 p1193 _ _ R.sub)) p1031 n1032 n1033 n1034 n1035 n1037 n1038 n1039 n1188 p1036 p1041 _ _ R.sub)))))))
  (spec_l16DrawOp_M_j7_D (by exact fun n1194 n1195 n1196 n1197 p1198 g m R =>
  (Hkr n1194 n1195 n1196 n1197 p1198 _ _ R.sub)) p1031 n1032 n1033 n1034 n1035 n1037 n1038 n1039 n1182 p1036 p1041 _ _ R.sub)))))))
  (spec_l16DrawOp_M_j7_D (by exact fun n1199 n1200 n1201 n1202 p1203 g m R =>
  (Hkr n1199 n1200 n1201 n1202 p1203 _ _ R.sub)) p1031 n1032 n1033 n1034 n1035 n1037 n1038 n1039 n1040 p1036 p1041 _ _ R.sub)))))))))

theorem spec_l16DrawOp_M_j0_D {g0 m0 : H} {kr_1 : Nat → H → Prop} {kr_2 : Int → Int → Int → Int → H → Prop} (Hkr : ∀ (n200001 : Int) (n200002 : Int) (n200003 : Int) (n200004 : Int) (p200005 : Nat) (g m : H), Md g0 m0 g m [lo p200005 [.int .i64 n200001, .int .i64 n200002, .int .i64 n200003, .int .i64 n200004]] → kr_2 n200001 n200002 n200003 n200004 m → kr_1 p200005 g) : ∀ (p1007 : Option Addr) (a1008 : Option Addr) (l1008 : Nat) (c1008 : Nat) (n1010 : Int) (n1011 : Int) (n1012 : Int) (n1013 : Int) (n1015 : Int) (n1016 : Int) (n1017 : Int) (n1018 : Int) (n1020 : Int) (n1021 : Int) (n1022 : Int) (n1023 : Int) (n1024 : Int) (n1025 : Int) (n1026 : Int) (n1027 : Int) (n1028 : Int) (n1029 : Int) (p1009 : Nat) (p1014 : Nat) (p1019 : Nat) (p1030 : Nat) (g m : H), Md g0 m0 g m [lo p1009 [.slice a1008 l1008 c1008], lo p1014 [.int .i64 n1010, .int .i64 n1011, .int .i64 n1012, .int .i64 n1013], lo p1019 [.int .i64 n1015, .int .i64 n1016, .int .i64 n1017, .int .i64 n1018], lo p1030 [.int .i64 n1020, .int .i64 n1021, .int .i64 n1022, .int .i64 n1023, .int .i64 n1024, .int .i64 n1025, .int .i64 n1026, .int .i64 n1027, .int .i64 n1028, .int .i64 n1029]] → spec_l16DrawOp_M_j0 kr_2 p1007 a1008 l1008 n1015 n1017 n1018 n1020 n1022 m → spec_l16DrawOp_j0 kr_1 p1007 p1009 p1014 p1019 p1030 g := by
  intro p1007 a1008 l1008 c1008 n1010 n1011 n1012 n1013 n1015 n1016 n1017 n1018 n1020 n1021 n1022 n1023 n1024 n1025 n1026 n1027 n1028 n1029 p1009 p1014 p1019 p1030 g m R
  rw [spec_l16DrawOp_M_j0, spec_l16DrawOp_j0]
  exact (p_ldI R rfl (p_st R (cs' := [.int .i64 n1015, .int .i64 n1020, .int .i64 n1017, .int .i64 n1018]) ⟨rfl, rfl⟩ fun g R =>
  (p_ldL R rfl (p_ldL R rfl (d_dup (d_l (d_call R fun v1031 g m R =>
  (d_asI fun n1032 =>
  (p_cell R rfl (d_req (d_nz fun b1033 o1034 =>
  (d_row_I10 R fun n1035 n1036 n1037 n1038 n1039 n1040 n1041 n1042 n1043 n1044 =>
  (p_new R fun p1045 g R =>
  (d_held R (p_cell R rfl (p_stRow R (cs' := [.int .i64 n1035, .int .i64 n1036, .int .i64 n1037, .int .i64 n1038, .int .i64 n1039, .int .i64 n1040, .int .i64 n1041, .int .i64 n1042, .int .i64 n1043, .int .i64 n1044]) ⟨rfl, rfl, rfl⟩ fun g R =>
  (spec_l16DrawOp_M_j1_D (by exact fun n1046 n1047 n1048 n1049 p1050 g m R =>
  (Hkr n1046 n1047 n1048 n1049 p1050 _ _ R.sub)) p1007 n1010 n1011 n1012 n1013 n1015 n1020 n1017 n1018 n1020 n1021 n1022 n1023 n1024 n1025 n1026 n1027 n1028 n1029 n1035 n1036 n1037 n1038 n1039 n1040 n1041 n1042 n1043 n1044 p1014 p1019 p1030 p1045 _ _ R.sub))))))))))))
  (d_r (p_new R fun p1031 g R =>
  (p_cell R rfl (p_cell R rfl (d_call R fun v1032 g m R =>
  (d_asI fun n1033 =>
  (p_cell R rfl (d_req (d_nz fun b1034 o1035 =>
  (d_row_I10 R fun n1036 n1037 n1038 n1039 n1040 n1041 n1042 n1043 n1044 n1045 =>
  (p_stRow R (cs' := [.int .i64 n1036, .int .i64 n1037, .int .i64 n1038, .int .i64 n1039, .int .i64 n1040, .int .i64 n1041, .int .i64 n1042, .int .i64 n1043, .int .i64 n1044, .int .i64 n1045]) ⟨rfl, rfl, rfl⟩ fun g R =>
  (spec_l16DrawOp_M_j1_D (by exact fun n1046 n1047 n1048 n1049 p1050 g m R =>
  (Hkr n1046 n1047 n1048 n1049 p1050 _ _ R.sub)) p1007 n1010 n1011 n1012 n1013 n1015 n1020 n1017 n1018 n1020 n1021 n1022 n1023 n1024 n1025 n1026 n1027 n1028 n1029 n1036 n1037 n1038 n1039 n1040 n1041 n1042 n1043 n1044 n1045 p1014 p1019 p1030 p1031 _ _ R.sub)))))))))))))))))

theorem spec_l16DrawOp_M_D {g0 m0 : H} {kr_1 : Nat → H → Prop} {kr_2 : Int → Int → Int → Int → H → Prop} (Hkr : ∀ (n200001 : Int) (n200002 : Int) (n200003 : Int) (n200004 : Int) (p200005 : Nat) (g m : H), Md g0 m0 g m [lo p200005 [.int .i64 n200001, .int .i64 n200002, .int .i64 n200003, .int .i64 n200004]] → kr_2 n200001 n200002 n200003 n200004 m → kr_1 p200005 g) : ∀ (p1001 : Option Addr) (a1002 : Option Addr) (l1002 : Nat) (c1002 : Nat) (g m : H), Md g0 m0 g m [] → spec_l16DrawOp_M kr_2 p1001 a1002 l1002 c1002 m → spec_l16DrawOp kr_1 p1001 a1002 l1002 c1002 g := by
  intro p1001 a1002 l1002 c1002 g m R
  rw [spec_l16DrawOp_M, spec_l16DrawOp]
  exact (p_new R fun p1003 g R =>
  (p_new R fun p1004 g R =>
  (d_new R fun b1005 g m R =>
  (d_call R fun v1006 g m R =>
  (d_asI fun n1007 =>
  (d_req (d_ldI R fun n1008 =>
  (p_new R fun p1009 g R =>
  (p_stRow R (cs' := [.int .i64 n1008, .int .i64 0, .int .i64 0, .int .i64 0]) ⟨rfl, rfl, rfl⟩ fun g R =>
  (p_ldL R rfl (p_ldL R rfl (d_dup (d_l (d_call R fun v1010 g m R =>
  (d_asI fun n1011 =>
  (p_cell R rfl (d_req (d_nz fun b1012 o1013 =>
  (d_row_I10 R fun n1014 n1015 n1016 n1017 n1018 n1019 n1020 n1021 n1022 n1023 =>
  (p_new R fun p1024 g R =>
  (d_held R (p_cell R rfl (p_stRow R (cs' := [.int .i64 n1014, .int .i64 n1015, .int .i64 n1016, .int .i64 n1017, .int .i64 n1018, .int .i64 n1019, .int .i64 n1020, .int .i64 n1021, .int .i64 n1022, .int .i64 n1023]) ⟨rfl, rfl, rfl⟩ fun g R =>
  (spec_l16DrawOp_M_j0_D (by exact fun n1025 n1026 n1027 n1028 p1029 g m R =>
  (Hkr n1025 n1026 n1027 n1028 p1029 _ _ R.sub)) p1001 a1002 l1002 c1002 0 0 0 0 n1008 0 0 0 n1014 n1015 n1016 n1017 n1018 n1019 n1020 n1021 n1022 n1023 p1003 p1004 p1009 p1024 _ _ R.sub))))))))))))
  (d_r (p_new R fun p1010 g R =>
  (p_cell R rfl (p_cell R rfl (d_call R fun v1011 g m R =>
  (d_asI fun n1012 =>
  (p_cell R rfl (d_req (d_nz fun b1013 o1014 =>
  (d_row_I10 R fun n1015 n1016 n1017 n1018 n1019 n1020 n1021 n1022 n1023 n1024 =>
  (p_stRow R (cs' := [.int .i64 n1015, .int .i64 n1016, .int .i64 n1017, .int .i64 n1018, .int .i64 n1019, .int .i64 n1020, .int .i64 n1021, .int .i64 n1022, .int .i64 n1023, .int .i64 n1024]) ⟨rfl, rfl, rfl⟩ fun g R =>
  (spec_l16DrawOp_M_j0_D (by exact fun n1025 n1026 n1027 n1028 p1029 g m R =>
  (Hkr n1025 n1026 n1027 n1028 p1029 _ _ R.sub)) p1001 a1002 l1002 c1002 0 0 0 0 n1008 0 0 0 n1015 n1016 n1017 n1018 n1019 n1020 n1021 n1022 n1023 n1024 p1003 p1004 p1009 p1010 _ _ R.sub))))))))))))))))))))))))

theorem spec_l16DrawOp_M_call {p1 : Option Addr} {a2 : Option Addr} {l2 : Nat} {c2 : Nat} {h : H} {K : Value → H → Prop} (hs : spec_l16DrawOp_M (fun n300001 n300002 n300003 n300004 h =>
  K (.agg ⟨[.int .i64 n300001, .int .i64 n300002, .int .i64 n300003, .int .i64 n300004]⟩) h) p1 a2 l2 c2 h) : callD Try.prog 22 ⟨[.pointer p1, .agg ⟨[.slice a2 l2 c2]⟩]⟩ h K :=
  fun g r => spec_l16DrawOp_call (spec_l16DrawOp_M_D (by exact fun n300001 n300002 n300003 n300004 p300005 g m R =>
(p_row_I4 R rfl rfl rfl rfl (fun h => ⟨m, R.af, h⟩))) _ _ _ _ _ _ (Md.start r) hs)

noncomputable def code23 : Code := codeOf Try.f23
theorem body23 : Try.f23.body = some code23 := by kernel_rfl
def spec_l16One_l2 (kx0 : Nat → H → Prop) (kr : Bool → H → Prop) : Nat → Nat → Int → H → Prop
 | 0, _, _, _ => False
 | N + 1, b32, n33, h =>
  ifB (decide ((n33 : Int) ≤ 15))
  (ldI .i64 h b32 8 fun n34 =>
  callK Try.prog 40 ⟨[.int .i64 n34, .int .i64 n33]⟩ h fun v35 h =>
  asB v35 fun t36 =>
  ifB t36
  (ldI .i64 h b32 9 fun n37 =>
  callK Try.prog 40 ⟨[.int .i64 n37, .int .i64 n33]⟩ h fun v38 h =>
  asB v38 fun t39 =>
  ifB t39
  (kr false h)
  (spec_l16One_l2 kx0 kr N b32 (IntKind.i64.wrap (n33 + 1)) h))
  (spec_l16One_l2 kx0 kr N b32 (IntKind.i64.wrap (n33 + 1)) h))
  (kx0 b32 h)

def spec_l16One_j1 (kr : Bool → H → Prop) (b19 : Nat) (h : H) : Prop :=
  ldI .i64 h b19 6 fun n20 =>
  callK Try.prog 42 ⟨[.int .i64 n20]⟩ h fun v21 h =>
  asB v21 fun t22 =>
  ifB (!t22)
  (kr false h)
  (ldI .i64 h b19 7 fun n23 =>
  callK Try.prog 43 ⟨[.int .i64 n23]⟩ h fun v24 h =>
  asB v24 fun t25 =>
  ifB (!t25)
  (kr false h)
  (ldI .i64 h b19 8 fun n26 =>
  callK Try.prog 43 ⟨[.int .i64 n26]⟩ h fun v27 h =>
  asB v27 fun t28 =>
  ifB (!t28)
  (kr false h)
  (ldI .i64 h b19 9 fun n29 =>
  callK Try.prog 43 ⟨[.int .i64 n29]⟩ h fun v30 h =>
  asB v30 fun t31 =>
  ifB (!t31)
  (kr false h)
  (∃ M38, spec_l16One_l2 (fun b32 h =>
  ldI .i64 h b32 4 fun n33 =>
  ifB ((n33 : Int) != 3)
  (kr true h)
  (ldI .i64 h b32 6 fun n34 =>
  ldI .i64 h b32 7 fun n35 =>
  ldI .i64 h b32 8 fun n36 =>
  ldI .i64 h b32 9 fun n37 =>
  kr ((IntKind.i64.wrap ((IntKind.i64.wrap ((IntKind.i64.wrap (n34 + n35)) + n36)) + n37) : Int) == 0) h)) kr M38 b19 1 h))))

def spec_l16One_j0 (kr : Bool → H → Prop) (b18 : Nat) (h : H) : Prop :=
  ldI .i64 h b18 4 fun n19 =>
  ifB (decide ((n19 : Int) < 1))
  (kr false h)
  (ldI .i64 h b18 4 fun n20 =>
  ifB (decide ((n20 : Int) > 3))
  (kr false h)
  (ldI .i64 h b18 5 fun n21 =>
  ifB (decide ((n21 : Int) < 0))
  (kr false h)
  (ldI .i64 h b18 5 fun n22 =>
  ifB (decide ((n22 : Int) > 255))
  (kr false h)
  (ldI .i64 h b18 4 fun n23 =>
  ifB ((n23 : Int) != 3)
  (ldI .i64 h b18 5 fun n24 =>
  ifB ((n24 : Int) != 0)
  (kr false h)
  (spec_l16One_j1 kr b18 h))
  (spec_l16One_j1 kr b18 h)))))

def spec_l16One (kr : Bool → H → Prop) (a1 : Option Addr) (l1 : Nat) (c1 : Nat) (n2 : Int) (h : H) : Prop :=
  new h [.slice a1 l1 c1] 27 fun b3 h =>
  ldL h b3 0 fun a4 l4 c4 =>
  req (0 ≤ (n2 : Int) ∧ (n2 : Int) < (l4 : Nat))
  (nz a4 fun b5 o6 =>
  ldRow h b5 (o6 + n2.toNat * 10) 0 [.int .i64, .int .i64, .int .i64, .int .i64, .int .i64, .int .i64, .int .i64, .int .i64, .int .i64, .int .i64] fun n7 n8 n9 n10 n11 n12 n13 n14 n15 n16 =>
  new h [.int .i64 0, .int .i64 0, .int .i64 0, .int .i64 0, .int .i64 0, .int .i64 0, .int .i64 0, .int .i64 0, .int .i64 0, .int .i64 0] 38 fun b17 h =>
  stRow h b17 0 0 [.int .i64 n7, .int .i64 n8, .int .i64 n9, .int .i64 n10, .int .i64 n11, .int .i64 n12, .int .i64 n13, .int .i64 n14, .int .i64 n15, .int .i64 n16] fun h =>
  ldI .i64 h b17 0 fun n18 =>
  ifB (decide ((n18 : Int) < 1))
  (kr false h)
  (ldI .i64 h b17 0 fun n19 =>
  ifB (decide ((n19 : Int) > 32))
  (kr false h)
  (ifB (decide ((n2 : Int) > 0))
  (ldL h b3 0 fun a20 l20 c20 =>
  req (0 ≤ (IntKind.i64.wrap (n2 - 1) : Int) ∧ (IntKind.i64.wrap (n2 - 1) : Int) < (l20 : Nat))
  (nz a20 fun b21 o22 =>
  ldI .i64 h b21 (o22 + (IntKind.i64.wrap (n2 - 1)).toNat * 10) fun n23 =>
  ldI .i64 h b17 0 fun n24 =>
  ifB (decide ((n23 : Int) ≥ n24))
  (kr false h)
  (ldI .i64 h b17 2 fun n25 =>
  ifB (decide ((n25 : Int) < 1))
  (kr false h)
  (ldI .i64 h b17 2 fun n26 =>
  ifB (decide ((n26 : Int) > 32))
  (kr false h)
  (ldI .i64 h b17 3 fun n27 =>
  ifB (decide ((n27 : Int) < 0))
  (kr false h)
  (ldI .i64 h b17 3 fun n28 =>
  ifB (decide ((n28 : Int) > 255))
  (kr false h)
  (spec_l16One_j0 kr b17 h)))))))
  (ldI .i64 h b17 2 fun n29 =>
  ifB (decide ((n29 : Int) < 1))
  (kr false h)
  (ldI .i64 h b17 2 fun n30 =>
  ifB (decide ((n30 : Int) > 32))
  (kr false h)
  (ldI .i64 h b17 3 fun n31 =>
  ifB (decide ((n31 : Int) < 0))
  (kr false h)
  (ldI .i64 h b17 3 fun n32 =>
  ifB (decide ((n32 : Int) > 255))
  (kr false h)
  (spec_l16One_j0 kr b17 h))))))))

theorem spec_l16One_l2_eq (K : Cont) (N : Nat) (b32 : Nat) (n33 : Int) (h : H) :
  spec_l16One_l2 (curV [(5, .blk)] (K (.exit 0))) (curV [(4, .bool)] (K .ret)) (N + 1) b32 n33 h = evC Try.prog 137 [] [] (sub code23 [true, true, true, true, true, false, true, false, false]) [(5, .pointer (some ⟨b32, 0, none⟩)), (6, .int .i64 n33)] h ((outsOf none [(0, [(5, .blk)])] (some [(4, .bool)]) K).loop [(5, .blk), (6, .int .i64)] (spec_l16One_l2 (curV [(5, .blk)] (K (.exit 0))) (curV [(4, .bool)] (K .ret)) N)).K := by kernel_rfl

def spec_l16One_l2_F : PT := mkL [(5, .blk), (6, .int .i64)] fun K N => spec_l16One_l2 (curV [(5, .blk)] (K (.exit 0))) (curV [(4, .bool)] (K .ret)) N

theorem spec_l16One_l2_V : Valid Try.prog 137 (sub code23 [true, true, true, true, true, false, true, false]) spec_l16One_l2_F :=
  loop_at (code23) [true, true, true, true, true, false, true, false] (loop_piece (c := (sub code23 [true, true, true, true, true, false, true, false, false])) mixed rows_nil (fun K => by intro b32 n33 h hd; exact hd) (fun K N => by intro b32 n33 h hd; exact (spec_l16One_l2_eq K N b32 n33 h) ▸ hd))

theorem spec_l16One_j1_eq (K : Cont) (b19 : Nat) (h : H) :
  spec_l16One_j1 (curV [(4, .bool)] (K .ret)) b19 h = evC Try.prog 137 [([false, false, true, false, true], spec_l16One_l2_F)] [] (sub code23 [true, true, true, true]) [(5, .pointer (some ⟨b19, 0, none⟩))] h (outsOf none [] (some [(4, .bool)]) K).K := by kernel_rfl

def spec_l16One_j1_F : PT := mkF [(5, .blk)] fun K => spec_l16One_j1 (curV [(4, .bool)] (K .ret))

theorem spec_l16One_j1_V : Valid Try.prog 137 (sub code23 [true, true, true, true]) spec_l16One_j1_F :=
  piece mixed (rows_cons (q' := [true, false, true, false]) (valid_at (p := [true, true, true, true]) spec_l16One_l2_V rfl) rfl rows_nil) (fun K => by intro b19 h hd; exact (spec_l16One_j1_eq K b19 h) ▸ hd)

theorem spec_l16One_j0_eq (K : Cont) (b18 : Nat) (h : H) :
  spec_l16One_j0 (curV [(4, .bool)] (K .ret)) b18 h = evC Try.prog 137 [([true], spec_l16One_j1_F)] [] (sub code23 [true, true, true]) [(5, .pointer (some ⟨b18, 0, none⟩))] h (outsOf none [] (some [(4, .bool)]) K).K := by kernel_rfl

def spec_l16One_j0_F : PT := mkF [(5, .blk)] fun K => spec_l16One_j0 (curV [(4, .bool)] (K .ret))

theorem spec_l16One_j0_V : Valid Try.prog 137 (sub code23 [true, true, true]) spec_l16One_j0_F :=
  piece mixed (rows_cons (q' := [true]) (valid_at (p := [true, true, true]) spec_l16One_j1_V rfl) rfl rows_nil) (fun K => by intro b18 h hd; exact (spec_l16One_j0_eq K b18 h) ▸ hd)

theorem spec_l16One_eq (K : Cont) (a1 : Option Addr) (l1 : Nat) (c1 : Nat) (n2 : Int) (h : H) :
  spec_l16One (curV [(4, .bool)] (K .ret)) a1 l1 c1 n2 h = evC Try.prog 137 [([true, true, true], spec_l16One_j0_F)] [] code23 [(0, .agg ⟨[.slice a1 l1 c1]⟩), (1, .int .i64 n2)] h (outsOf none [] (some [(4, .bool)]) K).K := by kernel_rfl

def spec_l16One_F : PT := mkF [(0, .agg [.slice]), (1, .int .i64)] fun K => spec_l16One (curV [(4, .bool)] (K .ret))

theorem spec_l16One_V : Valid Try.prog 137 code23 spec_l16One_F :=
  piece mixed (rows_cons (q' := [true, true, true]) spec_l16One_j0_V rfl rows_nil) (fun K => by intro a1 l1 c1 n2 h hd; exact (spec_l16One_eq K a1 l1 c1 n2 h) ▸ hd)

theorem spec_l16One_c0 (a1 : Option Addr) (l1 : Nat) (c1 : Nat) (n2 : Int) (h : H) (K : Value → H → Prop) :
  spec_l16One (fun t100001 h =>
  K (.bool t100001) h) a1 l1 c1 n2 h = callF Try.prog Try.f23.results.toList spec_l16One_F [.agg ⟨[.slice a1 l1 c1]⟩, .int .i64 n2] h K := by kernel_rfl

theorem spec_l16One_call {a1 : Option Addr} {l1 : Nat} {c1 : Nat} {n2 : Int} {h : H} {K : Value → H → Prop} (hs : spec_l16One (fun t100001 h =>
  K (.bool t100001) h) a1 l1 c1 n2 h) : callK Try.prog 23 ⟨[.agg ⟨[.slice a1 l1 c1]⟩, .int .i64 n2]⟩ h K :=
  func_calls Try.func23 body23 spec_l16One_V (Nat.le_of_ble_eq_true (by kernel_rfl)) (spec_l16One_c0 a1 l1 c1 n2 h K ▸ hs)

def spec_l16One_M_l2 (kx0 : Int → Int → Int → Int → Int → H → Prop) (kr : Bool → H → Prop) : Nat → Int → Int → Int → Int → Int → Int → H → Prop
 | 0, _, _, _, _, _, _, _ => False
 | N + 1, n45, n50, n52, n53, n54, n55, h =>
  ifB (decide ((n45 : Int) ≤ 15))
  (callD Try.prog 40 ⟨[.int .i64 n54, .int .i64 n45]⟩ h fun v57 h =>
  asB v57 fun t58 =>
  ifB t58
  (callD Try.prog 40 ⟨[.int .i64 n55, .int .i64 n45]⟩ h fun v59 h =>
  asB v59 fun t60 =>
  ifB t60
  (kr false h)
  (spec_l16One_M_l2 kx0 kr N (IntKind.i64.wrap (n45 + 1)) n50 n52 n53 n54 n55 h))
  (spec_l16One_M_l2 kx0 kr N (IntKind.i64.wrap (n45 + 1)) n50 n52 n53 n54 n55 h))
  (kx0 n50 n52 n53 n54 n55 h)

def spec_l16One_M_j1 (kr : Bool → H → Prop) (n30 : Int) (n32 : Int) (n33 : Int) (n34 : Int) (n35 : Int) (h : H) : Prop :=
  callD Try.prog 42 ⟨[.int .i64 n32]⟩ h fun v37 h =>
  asB v37 fun t38 =>
  ifB (!t38)
  (kr false h)
  (callD Try.prog 43 ⟨[.int .i64 n33]⟩ h fun v39 h =>
  asB v39 fun t40 =>
  ifB (!t40)
  (kr false h)
  (callD Try.prog 43 ⟨[.int .i64 n34]⟩ h fun v41 h =>
  asB v41 fun t42 =>
  ifB (!t42)
  (kr false h)
  (callD Try.prog 43 ⟨[.int .i64 n35]⟩ h fun v43 h =>
  asB v43 fun t44 =>
  ifB (!t44)
  (kr false h)
  (∃ M56, spec_l16One_M_l2 (fun n49 n51 n52 n53 n54 h =>
  ifB ((n49 : Int) != 3)
  (kr true h)
  (kr ((IntKind.i64.wrap ((IntKind.i64.wrap ((IntKind.i64.wrap (n51 + n52)) + n53)) + n54) : Int) == 0) h)) kr M56 1 n30 n32 n33 n34 n35 h))))

def spec_l16One_M_j0 (kr : Bool → H → Prop) (n19 : Int) (n20 : Int) (n21 : Int) (n22 : Int) (n23 : Int) (n24 : Int) (h : H) : Prop :=
  ifB (decide ((n19 : Int) < 1))
  (kr false h)
  (ifB (decide ((n19 : Int) > 3))
  (kr false h)
  (ifB (decide ((n20 : Int) < 0))
  (kr false h)
  (ifB (decide ((n20 : Int) > 255))
  (kr false h)
  (ifB ((n19 : Int) != 3)
  (ifB ((n20 : Int) != 0)
  (kr false h)
  (spec_l16One_M_j1 kr n19 n21 n22 n23 n24 h))
  (spec_l16One_M_j1 kr n19 n21 n22 n23 n24 h)))))

def spec_l16One_M (kr : Bool → H → Prop) (a1 : Option Addr) (l1 : Nat) (c1 : Nat) (n2 : Int) (h : H) : Prop :=
  req (0 ≤ (n2 : Int) ∧ (n2 : Int) < (l1 : Nat))
  (nz a1 fun b3 o4 =>
  ldRow h b3 (o4 + n2.toNat * 10) 0 [.int .i64, .int .i64, .int .i64, .int .i64, .int .i64, .int .i64, .int .i64, .int .i64, .int .i64, .int .i64] fun n5 n6 n7 n8 n9 n10 n11 n12 n13 n14 =>
  ifB (decide ((n5 : Int) < 1))
  (kr false h)
  (ifB (decide ((n5 : Int) > 32))
  (kr false h)
  (ifB (decide ((n2 : Int) > 0))
  (req (0 ≤ (IntKind.i64.wrap (n2 - 1) : Int) ∧ (IntKind.i64.wrap (n2 - 1) : Int) < (l1 : Nat))
  (nz a1 fun b15 o16 =>
  ldI .i64 h b15 (o16 + (IntKind.i64.wrap (n2 - 1)).toNat * 10) fun n17 =>
  ifB (decide ((n17 : Int) ≥ n5))
  (kr false h)
  (ifB (decide ((n7 : Int) < 1))
  (kr false h)
  (ifB (decide ((n7 : Int) > 32))
  (kr false h)
  (ifB (decide ((n8 : Int) < 0))
  (kr false h)
  (ifB (decide ((n8 : Int) > 255))
  (kr false h)
  (spec_l16One_M_j0 kr n9 n10 n11 n12 n13 n14 h)))))))
  (ifB (decide ((n7 : Int) < 1))
  (kr false h)
  (ifB (decide ((n7 : Int) > 32))
  (kr false h)
  (ifB (decide ((n8 : Int) < 0))
  (kr false h)
  (ifB (decide ((n8 : Int) > 255))
  (kr false h)
  (spec_l16One_M_j0 kr n9 n10 n11 n12 n13 n14 h))))))))

theorem spec_l16One_M_l2_D {g0 m0 : H} {kx0_1 : Nat → H → Prop} {kx0_2 : Int → Int → Int → Int → Int → H → Prop} (Hkx0 : ∀ (n200001 : Int) (n200002 : Int) (n200003 : Int) (n200004 : Int) (n200005 : Int) (n200006 : Int) (n200007 : Int) (n200008 : Int) (n200009 : Int) (n200010 : Int) (p200011 : Nat) (g m : H), Md g0 m0 g m [lo p200011 [.int .i64 n200001, .int .i64 n200002, .int .i64 n200003, .int .i64 n200004, .int .i64 n200005, .int .i64 n200006, .int .i64 n200007, .int .i64 n200008, .int .i64 n200009, .int .i64 n200010]] → kx0_2 n200005 n200007 n200008 n200009 n200010 m → kx0_1 p200011 g)
  {kr_1 : Bool → H → Prop} {kr_2 : Bool → H → Prop} (Hkr : ∀ (t200001 : Bool) (g m : H), Md g0 m0 g m [] → kr_2 t200001 m → kr_1 t200001 g) : ∀ (N : Nat) (n1045 : Int) (n1046 : Int) (n1047 : Int) (n1048 : Int) (n1049 : Int) (n1050 : Int) (n1051 : Int) (n1052 : Int) (n1053 : Int) (n1054 : Int) (n1055 : Int) (p1056 : Nat) (g m : H), Md g0 m0 g m [lo p1056 [.int .i64 n1046, .int .i64 n1047, .int .i64 n1048, .int .i64 n1049, .int .i64 n1050, .int .i64 n1051, .int .i64 n1052, .int .i64 n1053, .int .i64 n1054, .int .i64 n1055]] → spec_l16One_M_l2 kx0_2 kr_2 N n1045 n1050 n1052 n1053 n1054 n1055 m → spec_l16One_l2 kx0_1 kr_1 N p1056 n1045 g := by
  intro N
  induction N with
  | zero => intro n1045 n1046 n1047 n1048 n1049 n1050 n1051 n1052 n1053 n1054 n1055 p1056 g m R h0; exact h0.elim
  | succ N ih =>
    intro n1045 n1046 n1047 n1048 n1049 n1050 n1051 n1052 n1053 n1054 n1055 p1056 g m R
    rw [spec_l16One_M_l2, spec_l16One_l2]
    exact (d_if (p_ldI R rfl (d_call R fun v1057 g m R =>
  (d_asB fun t1058 =>
  (d_if (p_ldI R rfl (d_call R fun v1059 g m R =>
  (d_asB fun t1060 =>
  (d_if (Hkr false _ _ R.sub)
  (ih (IntKind.i64.wrap (n1045 + 1)) n1046 n1047 n1048 n1049 n1050 n1051 n1052 n1053 n1054 n1055 p1056 _ _ R.sub)))))
  (ih (IntKind.i64.wrap (n1045 + 1)) n1046 n1047 n1048 n1049 n1050 n1051 n1052 n1053 n1054 n1055 p1056 _ _ R.sub)))))
  (Hkx0 n1046 n1047 n1048 n1049 n1050 n1051 n1052 n1053 n1054 n1055 p1056 _ _ R.sub))

theorem spec_l16One_M_j1_D {g0 m0 : H} {kr_1 : Bool → H → Prop} {kr_2 : Bool → H → Prop} (Hkr : ∀ (t200001 : Bool) (g m : H), Md g0 m0 g m [] → kr_2 t200001 m → kr_1 t200001 g) : ∀ (n1026 : Int) (n1027 : Int) (n1028 : Int) (n1029 : Int) (n1030 : Int) (n1031 : Int) (n1032 : Int) (n1033 : Int) (n1034 : Int) (n1035 : Int) (p1036 : Nat) (g m : H), Md g0 m0 g m [lo p1036 [.int .i64 n1026, .int .i64 n1027, .int .i64 n1028, .int .i64 n1029, .int .i64 n1030, .int .i64 n1031, .int .i64 n1032, .int .i64 n1033, .int .i64 n1034, .int .i64 n1035]] → spec_l16One_M_j1 kr_2 n1030 n1032 n1033 n1034 n1035 m → spec_l16One_j1 kr_1 p1036 g := by
  intro n1026 n1027 n1028 n1029 n1030 n1031 n1032 n1033 n1034 n1035 p1036 g m R
  rw [spec_l16One_M_j1, spec_l16One_j1]
  exact (p_ldI R rfl (d_call R fun v1037 g m R =>
  (d_asB fun t1038 =>
  (d_if (Hkr false _ _ R.sub)
  (p_ldI R rfl (d_call R fun v1039 g m R =>
  (d_asB fun t1040 =>
  (d_if (Hkr false _ _ R.sub)
  (p_ldI R rfl (d_call R fun v1041 g m R =>
  (d_asB fun t1042 =>
  (d_if (Hkr false _ _ R.sub)
  (p_ldI R rfl (d_call R fun v1043 g m R =>
  (d_asB fun t1044 =>
  (d_if (Hkr false _ _ R.sub)
  (d_ex fun N => spec_l16One_M_l2_D (by exact fun n1045 n1046 n1047 n1048 n1049 n1050 n1051 n1052 n1053 n1054 p1055 g m R =>
  (p_ldI R rfl (d_if (Hkr true _ _ R.sub)
  (p_ldI R rfl (p_ldI R rfl (p_ldI R rfl (p_ldI R rfl (Hkr ((IntKind.i64.wrap ((IntKind.i64.wrap ((IntKind.i64.wrap (n1051 + n1052)) + n1053)) + n1054) : Int) == 0) _ _ R.sub))))))))
  (by exact fun t1056 g m R =>
  (Hkr t1056 _ _ R.sub)) N 1 n1026 n1027 n1028 n1029 n1030 n1031 n1032 n1033 n1034 n1035 p1036 _ _ R.sub)))))))))))))))))

theorem spec_l16One_M_j0_D {g0 m0 : H} {kr_1 : Bool → H → Prop} {kr_2 : Bool → H → Prop} (Hkr : ∀ (t200001 : Bool) (g m : H), Md g0 m0 g m [] → kr_2 t200001 m → kr_1 t200001 g) : ∀ (n1015 : Int) (n1016 : Int) (n1017 : Int) (n1018 : Int) (n1019 : Int) (n1020 : Int) (n1021 : Int) (n1022 : Int) (n1023 : Int) (n1024 : Int) (p1025 : Nat) (g m : H), Md g0 m0 g m [lo p1025 [.int .i64 n1015, .int .i64 n1016, .int .i64 n1017, .int .i64 n1018, .int .i64 n1019, .int .i64 n1020, .int .i64 n1021, .int .i64 n1022, .int .i64 n1023, .int .i64 n1024]] → spec_l16One_M_j0 kr_2 n1019 n1020 n1021 n1022 n1023 n1024 m → spec_l16One_j0 kr_1 p1025 g := by
  intro n1015 n1016 n1017 n1018 n1019 n1020 n1021 n1022 n1023 n1024 p1025 g m R
  rw [spec_l16One_M_j0, spec_l16One_j0]
  exact (p_ldI R rfl (d_if (Hkr false _ _ R.sub)
  (p_ldI R rfl (d_if (Hkr false _ _ R.sub)
  (p_ldI R rfl (d_if (Hkr false _ _ R.sub)
  (p_ldI R rfl (d_if (Hkr false _ _ R.sub)
  (p_ldI R rfl (d_if (p_ldI R rfl (d_if (Hkr false _ _ R.sub)
  (spec_l16One_M_j1_D (by exact fun t1026 g m R =>
  (Hkr t1026 _ _ R.sub)) n1015 n1016 n1017 n1018 n1019 n1020 n1021 n1022 n1023 n1024 p1025 _ _ R.sub)))
  (spec_l16One_M_j1_D (by exact fun t1027 g m R =>
  (Hkr t1027 _ _ R.sub)) n1015 n1016 n1017 n1018 n1019 n1020 n1021 n1022 n1023 n1024 p1025 _ _ R.sub)))))))))))

theorem spec_l16One_M_D {g0 m0 : H} {kr_1 : Bool → H → Prop} {kr_2 : Bool → H → Prop} (Hkr : ∀ (t200001 : Bool) (g m : H), Md g0 m0 g m [] → kr_2 t200001 m → kr_1 t200001 g) : ∀ (a1001 : Option Addr) (l1001 : Nat) (c1001 : Nat) (n1002 : Int) (g m : H), Md g0 m0 g m [] → spec_l16One_M kr_2 a1001 l1001 c1001 n1002 m → spec_l16One kr_1 a1001 l1001 c1001 n1002 g := by
  intro a1001 l1001 c1001 n1002 g m R
  rw [spec_l16One_M, spec_l16One]
  exact (p_new R fun p1003 g R =>
  (p_ldL R rfl (d_req (d_nz fun b1004 o1005 =>
  (d_row_I10 R fun n1006 n1007 n1008 n1009 n1010 n1011 n1012 n1013 n1014 n1015 =>
  (p_new R fun p1016 g R =>
  (p_stRow R (cs' := [.int .i64 n1006, .int .i64 n1007, .int .i64 n1008, .int .i64 n1009, .int .i64 n1010, .int .i64 n1011, .int .i64 n1012, .int .i64 n1013, .int .i64 n1014, .int .i64 n1015]) ⟨rfl, rfl, rfl⟩ fun g R =>
  (p_ldI R rfl (d_if (Hkr false _ _ R.sub)
  (p_ldI R rfl (d_if (Hkr false _ _ R.sub)
  (d_if (p_ldL R rfl (d_req (d_nz fun b1017 o1018 =>
  (d_ldI R fun n1019 =>
  (p_ldI R rfl (d_if (Hkr false _ _ R.sub)
  (p_ldI R rfl (d_if (Hkr false _ _ R.sub)
  (p_ldI R rfl (d_if (Hkr false _ _ R.sub)
  (p_ldI R rfl (d_if (Hkr false _ _ R.sub)
  (p_ldI R rfl (d_if (Hkr false _ _ R.sub)
  (spec_l16One_M_j0_D (by exact fun t1020 g m R =>
  (Hkr t1020 _ _ R.sub)) n1006 n1007 n1008 n1009 n1010 n1011 n1012 n1013 n1014 n1015 p1016 _ _ R.sub)))))))))))))))
  (p_ldI R rfl (d_if (Hkr false _ _ R.sub)
  (p_ldI R rfl (d_if (Hkr false _ _ R.sub)
  (p_ldI R rfl (d_if (Hkr false _ _ R.sub)
  (p_ldI R rfl (d_if (Hkr false _ _ R.sub)
  (spec_l16One_M_j0_D (by exact fun t1021 g m R =>
  (Hkr t1021 _ _ R.sub)) n1006 n1007 n1008 n1009 n1010 n1011 n1012 n1013 n1014 n1015 p1016 _ _ R.sub)))))))))))))))))))))

theorem spec_l16One_M_call {a1 : Option Addr} {l1 : Nat} {c1 : Nat} {n2 : Int} {h : H} {K : Value → H → Prop} (hs : spec_l16One_M (fun t300001 h =>
  K (.bool t300001) h) a1 l1 c1 n2 h) : callD Try.prog 23 ⟨[.agg ⟨[.slice a1 l1 c1]⟩, .int .i64 n2]⟩ h K :=
  fun g r => spec_l16One_call (spec_l16One_M_D (by exact fun t300001 g m R =>
(fun h => ⟨m, R.af, h⟩)) _ _ _ _ _ _ (Md.start r) hs)

noncomputable def code24 : Code := codeOf Try.f24
theorem body24 : Try.f24.body = some code24 := by kernel_rfl
def spec_l16Lives (kr : Bool → H → Prop) (p_1 : Option Addr) (p_l1 : Nat) (p_c1 : Nat) (id_2 : Int) (h : H) : Prop :=
  new h [.slice p_1 p_l1 p_c1] 27 fun b3 h =>
  ldRow h b3 0 0 [.slice] fun a4 l4 c4 =>
  callK Try.prog 25 ⟨[.agg ⟨[.slice a4 l4 c4]⟩, .int .i64 id_2]⟩ h fun v5 h =>
  asI .i64 v5 fun n6 =>
  ifB (decide ((n6 : Int) ≥ 0))
  (ldL h b3 0 fun a7 l7 c7 =>
  req (0 ≤ (n6 : Int) ∧ (n6 : Int) < (l7 : Nat))
  (nz a7 fun b8 o9 =>
  ldI .i64 h b8 ((o9 + n6.toNat * 10) + 4) fun n10 =>
  kr ((n10 : Int) != 3) h))
  (kr false h)

theorem spec_l16Lives_eq (K : Cont) (p_1 : Option Addr) (p_l1 : Nat) (p_c1 : Nat) (id_2 : Int) (h : H) :
  spec_l16Lives (curV [(4, .bool)] (K .ret)) p_1 p_l1 p_c1 id_2 h = evC Try.prog 20 [] [] code24 [(0, .agg ⟨[.slice p_1 p_l1 p_c1]⟩), (1, .int .i64 id_2)] h (outsOf none [] (some [(4, .bool)]) K).K := by kernel_rfl

def spec_l16Lives_F : PT := mkF [(0, .agg [.slice]), (1, .int .i64)] fun K => spec_l16Lives (curV [(4, .bool)] (K .ret))

theorem spec_l16Lives_V : Valid Try.prog 20 code24 spec_l16Lives_F :=
  piece mixed rows_nil (fun K => by intro p_1 p_l1 p_c1 id_2 h hd; exact (spec_l16Lives_eq K p_1 p_l1 p_c1 id_2 h) ▸ hd)

theorem spec_l16Lives_c0 (p_1 : Option Addr) (p_l1 : Nat) (p_c1 : Nat) (id_2 : Int) (h : H) (K : Value → H → Prop) :
  spec_l16Lives (fun t100001 h =>
  K (.bool t100001) h) p_1 p_l1 p_c1 id_2 h = callF Try.prog Try.f24.results.toList spec_l16Lives_F [.agg ⟨[.slice p_1 p_l1 p_c1]⟩, .int .i64 id_2] h K := by kernel_rfl

theorem spec_l16Lives_call {p_1 : Option Addr} {p_l1 : Nat} {p_c1 : Nat} {id_2 : Int} {h : H} {K : Value → H → Prop} (hs : spec_l16Lives (fun t100001 h =>
  K (.bool t100001) h) p_1 p_l1 p_c1 id_2 h) : callK Try.prog 24 ⟨[.agg ⟨[.slice p_1 p_l1 p_c1]⟩, .int .i64 id_2]⟩ h K :=
  func_calls Try.func24 body24 spec_l16Lives_V (Nat.le_of_ble_eq_true (by kernel_rfl)) (spec_l16Lives_c0 p_1 p_l1 p_c1 id_2 h K ▸ hs)

def spec_l16Lives_M (kr : Bool → H → Prop) (p_1 : Option Addr) (p_l1 : Nat) (p_c1 : Nat) (id_2 : Int) (h : H) : Prop :=
  callD Try.prog 25 ⟨[.agg ⟨[.slice p_1 p_l1 p_c1]⟩, .int .i64 id_2]⟩ h fun v3 h =>
  asI .i64 v3 fun n4 =>
  ifB (decide ((n4 : Int) ≥ 0))
  (req (0 ≤ (n4 : Int) ∧ (n4 : Int) < (p_l1 : Nat))
  (nz p_1 fun b5 o6 =>
  ldI .i64 h b5 ((o6 + n4.toNat * 10) + 4) fun n7 =>
  kr ((n7 : Int) != 3) h))
  (kr false h)

theorem spec_l16Lives_M_D {g0 m0 : H} {kr_1 : Bool → H → Prop} {kr_2 : Bool → H → Prop} (Hkr : ∀ (t200001 : Bool) (g m : H), Md g0 m0 g m [] → kr_2 t200001 m → kr_1 t200001 g) : ∀ (p_1001 : Option Addr) (p_l1001 : Nat) (p_c1001 : Nat) (id_1002 : Int) (g m : H), Md g0 m0 g m [] → spec_l16Lives_M kr_2 p_1001 p_l1001 p_c1001 id_1002 m → spec_l16Lives kr_1 p_1001 p_l1001 p_c1001 id_1002 g := by
  intro p_1001 p_l1001 p_c1001 id_1002 g m R
  rw [spec_l16Lives_M, spec_l16Lives]
  exact (p_new R fun p1003 g R =>
  (p_row_L R rfl (d_call R fun v1004 g m R =>
  (d_asI fun n1005 =>
  (d_if (p_ldL R rfl (d_req (d_nz fun b1006 o1007 =>
  (d_ldI R fun n1008 =>
  (Hkr ((n1008 : Int) != 3) _ _ R.sub)))))
  (Hkr false _ _ R.sub))))))

theorem spec_l16Lives_M_call {p_1 : Option Addr} {p_l1 : Nat} {p_c1 : Nat} {id_2 : Int} {h : H} {K : Value → H → Prop} (hs : spec_l16Lives_M (fun t300001 h =>
  K (.bool t300001) h) p_1 p_l1 p_c1 id_2 h) : callD Try.prog 24 ⟨[.agg ⟨[.slice p_1 p_l1 p_c1]⟩, .int .i64 id_2]⟩ h K :=
  fun g r => spec_l16Lives_call (spec_l16Lives_M_D (by exact fun t300001 g m R =>
(fun h => ⟨m, R.af, h⟩)) _ _ _ _ _ _ (Md.start r) hs)

noncomputable def code25 : Code := codeOf Try.f25
theorem body25 : Try.f25.body = some code25 := by kernel_rfl
def spec_l16Find_l0 (kx0 : H → Prop) (kr : Int → H → Prop) : Nat → Int → Nat → Int → H → Prop
 | 0, _, _, _, _ => False
 | N + 1, id_4, p_5, i_6, h =>
  ldL h p_5 0 fun a7 l7 c7 =>
  ifB (decide ((i_6 : Int) < (l7 : Nat)))
  (ldL h p_5 0 fun a8 l8 c8 =>
  req (0 ≤ (i_6 : Int) ∧ (i_6 : Int) < (l8 : Nat))
  (nz a8 fun b9 o10 =>
  ldI .i64 h b9 (o10 + i_6.toNat * 10) fun n11 =>
  ifB ((n11 : Int) == id_4)
  (kr i_6 h)
  (spec_l16Find_l0 kx0 kr N id_4 p_5 (IntKind.i64.wrap (i_6 + 1)) h)))
  (kx0 h)

def spec_l16Find (kr : Int → H → Prop) (p_1 : Option Addr) (p_l1 : Nat) (p_c1 : Nat) (id_2 : Int) (h : H) : Prop :=
  new h [.slice p_1 p_l1 p_c1] 27 fun b3 h =>
  ∃ M4, spec_l16Find_l0 (fun h =>
  kr (-1) h) kr M4 id_2 b3 0 h

theorem spec_l16Find_l0_eq (K : Cont) (N : Nat) (id_4 : Int) (p_5 : Nat) (i_6 : Int) (h : H) :
  spec_l16Find_l0 (curV [] (K (.exit 0))) (curV [(4, .int .i64)] (K .ret)) (N + 1) id_4 p_5 i_6 h = evC Try.prog 22 [] [] (sub code25 [true, false, true, false, false]) [(1, .int .i64 id_4), (2, .pointer (some ⟨p_5, 0, none⟩)), (5, .int .i64 i_6)] h ((outsOf none [(0, [])] (some [(4, .int .i64)]) K).loop [(1, .int .i64), (2, .blk), (5, .int .i64)] (spec_l16Find_l0 (curV [] (K (.exit 0))) (curV [(4, .int .i64)] (K .ret)) N)).K := by kernel_rfl

def spec_l16Find_l0_F : PT := mkL [(1, .int .i64), (2, .blk), (5, .int .i64)] fun K N => spec_l16Find_l0 (curV [] (K (.exit 0))) (curV [(4, .int .i64)] (K .ret)) N

theorem spec_l16Find_l0_V : Valid Try.prog 22 (sub code25 [true, false, true, false]) spec_l16Find_l0_F :=
  loop_at (code25) [true, false, true, false] (loop_piece (c := (sub code25 [true, false, true, false, false])) mixed rows_nil (fun K => by intro id_4 p_5 i_6 h hd; exact hd) (fun K N => by intro id_4 p_5 i_6 h hd; exact (spec_l16Find_l0_eq K N id_4 p_5 i_6 h) ▸ hd))

theorem spec_l16Find_eq (K : Cont) (p_1 : Option Addr) (p_l1 : Nat) (p_c1 : Nat) (id_2 : Int) (h : H) :
  spec_l16Find (curV [(4, .int .i64)] (K .ret)) p_1 p_l1 p_c1 id_2 h = evC Try.prog 22 [([false, false, true, false, true], spec_l16Find_l0_F)] [] code25 [(0, .agg ⟨[.slice p_1 p_l1 p_c1]⟩), (1, .int .i64 id_2)] h (outsOf none [] (some [(4, .int .i64)]) K).K := by kernel_rfl

def spec_l16Find_F : PT := mkF [(0, .agg [.slice]), (1, .int .i64)] fun K => spec_l16Find (curV [(4, .int .i64)] (K .ret))

theorem spec_l16Find_V : Valid Try.prog 22 code25 spec_l16Find_F :=
  piece mixed (rows_cons (q' := [true, false, true, false]) spec_l16Find_l0_V rfl rows_nil) (fun K => by intro p_1 p_l1 p_c1 id_2 h hd; exact (spec_l16Find_eq K p_1 p_l1 p_c1 id_2 h) ▸ hd)

theorem spec_l16Find_c0 (p_1 : Option Addr) (p_l1 : Nat) (p_c1 : Nat) (id_2 : Int) (h : H) (K : Value → H → Prop) :
  spec_l16Find (fun n100001 h =>
  K (.int .i64 n100001) h) p_1 p_l1 p_c1 id_2 h = callF Try.prog Try.f25.results.toList spec_l16Find_F [.agg ⟨[.slice p_1 p_l1 p_c1]⟩, .int .i64 id_2] h K := by kernel_rfl

theorem spec_l16Find_call {p_1 : Option Addr} {p_l1 : Nat} {p_c1 : Nat} {id_2 : Int} {h : H} {K : Value → H → Prop} (hs : spec_l16Find (fun n100001 h =>
  K (.int .i64 n100001) h) p_1 p_l1 p_c1 id_2 h) : callK Try.prog 25 ⟨[.agg ⟨[.slice p_1 p_l1 p_c1]⟩, .int .i64 id_2]⟩ h K :=
  func_calls Try.func25 body25 spec_l16Find_V (Nat.le_of_ble_eq_true (by kernel_rfl)) (spec_l16Find_c0 p_1 p_l1 p_c1 id_2 h K ▸ hs)

def spec_l16Find_M_l0 (kx0 : H → Prop) (kr : Int → H → Prop) : Nat → Int → Int → Option Addr → Nat → H → Prop
 | 0, _, _, _, _, _ => False
 | N + 1, id_3, i_4, a5, l5, h =>
  ifB (decide ((i_4 : Int) < (l5 : Nat)))
  (req (0 ≤ (i_4 : Int) ∧ (i_4 : Int) < (l5 : Nat))
  (nz a5 fun b7 o8 =>
  ldI .i64 h b7 (o8 + i_4.toNat * 10) fun n9 =>
  ifB ((n9 : Int) == id_3)
  (kr i_4 h)
  (spec_l16Find_M_l0 kx0 kr N id_3 (IntKind.i64.wrap (i_4 + 1)) a5 l5 h)))
  (kx0 h)

def spec_l16Find_M (kr : Int → H → Prop) (p_1 : Option Addr) (p_l1 : Nat) (p_c1 : Nat) (id_2 : Int) (h : H) : Prop :=
  ∃ M3, spec_l16Find_M_l0 (fun h =>
  kr (-1) h) kr M3 id_2 0 p_1 p_l1 h

theorem spec_l16Find_M_l0_D {g0 m0 : H} {kx0_1 : H → Prop} {kx0_2 : H → Prop} (Hkx0 : ∀ (g m : H), Md g0 m0 g m [] → kx0_2 m → kx0_1 g)
  {kr_1 : Int → H → Prop} {kr_2 : Int → H → Prop} (Hkr : ∀ (n200001 : Int) (g m : H), Md g0 m0 g m [] → kr_2 n200001 m → kr_1 n200001 g) : ∀ (N : Nat) (id_1003 : Int) (i_1004 : Int) (a1005 : Option Addr) (l1005 : Nat) (c1005 : Nat) (p1006 : Nat) (g m : H), Md g0 m0 g m [lo p1006 [.slice a1005 l1005 c1005]] → spec_l16Find_M_l0 kx0_2 kr_2 N id_1003 i_1004 a1005 l1005 m → spec_l16Find_l0 kx0_1 kr_1 N id_1003 p1006 i_1004 g := by
  intro N
  induction N with
  | zero => intro id_1003 i_1004 a1005 l1005 c1005 p1006 g m R h0; exact h0.elim
  | succ N ih =>
    intro id_1003 i_1004 a1005 l1005 c1005 p1006 g m R
    rw [spec_l16Find_M_l0, spec_l16Find_l0]
    exact (p_ldL R rfl (d_if (p_ldL R rfl (d_req (d_nz fun b1007 o1008 =>
  (d_ldI R fun n1009 =>
  (d_if (Hkr i_1004 _ _ R.sub)
  (ih id_1003 (IntKind.i64.wrap (i_1004 + 1)) a1005 l1005 c1005 p1006 _ _ R.sub))))))
  (Hkx0 _ _ R.sub)))

theorem spec_l16Find_M_D {g0 m0 : H} {kr_1 : Int → H → Prop} {kr_2 : Int → H → Prop} (Hkr : ∀ (n200001 : Int) (g m : H), Md g0 m0 g m [] → kr_2 n200001 m → kr_1 n200001 g) : ∀ (p_1001 : Option Addr) (p_l1001 : Nat) (p_c1001 : Nat) (id_1002 : Int) (g m : H), Md g0 m0 g m [] → spec_l16Find_M kr_2 p_1001 p_l1001 p_c1001 id_1002 m → spec_l16Find kr_1 p_1001 p_l1001 p_c1001 id_1002 g := by
  intro p_1001 p_l1001 p_c1001 id_1002 g m R
  rw [spec_l16Find_M, spec_l16Find]
  exact (p_new R fun p1003 g R =>
  (d_ex fun N => spec_l16Find_M_l0_D (by exact fun g m R =>
  (Hkr (-1) _ _ R.sub))
  (by exact fun n1004 g m R =>
  (Hkr n1004 _ _ R.sub)) N id_1002 0 p_1001 p_l1001 p_c1001 p1003 _ _ R.sub))

theorem spec_l16Find_M_call {p_1 : Option Addr} {p_l1 : Nat} {p_c1 : Nat} {id_2 : Int} {h : H} {K : Value → H → Prop} (hs : spec_l16Find_M (fun n300001 h =>
  K (.int .i64 n300001) h) p_1 p_l1 p_c1 id_2 h) : callD Try.prog 25 ⟨[.agg ⟨[.slice p_1 p_l1 p_c1]⟩, .int .i64 id_2]⟩ h K :=
  fun g r => spec_l16Find_call (spec_l16Find_M_D (by exact fun n300001 g m R =>
(fun h => ⟨m, R.af, h⟩)) _ _ _ _ _ _ (Md.start r) hs)

end Go.Proofs.Ytgcjjapmdbgofaa
