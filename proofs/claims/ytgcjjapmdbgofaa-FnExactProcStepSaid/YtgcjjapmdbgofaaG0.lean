import Derived.Test.YtgcjjapmdbgofaaProg
import Derived.Test.YtgcjjapmdbgofaaPm
set_option linter.unusedVariables false
set_option maxRecDepth 100000
namespace Go.Proofs.Ytgcjjapmdbgofaa
open Go.Eng

theorem mixed : Try.prog.follows .mixedOrders = true := by kernel_rfl
noncomputable def code4 : Code := codeOf Try.f4
theorem body4 : Try.f4.body = some code4 := by kernel_rfl
def laws_FnExactProcStep_j2 (kr : Bool → H → Prop) (b65 : Nat) (b66 : Nat) (b67 : Nat) (n68 : Int) (b69 : Nat) (b70 : Nat) (h : H) : Prop :=
  ldRow h b69 0 0 [.slice] fun a71 l71 c71 =>
  ldRow h b65 0 0 [.slice] fun a72 l72 c72 =>
  callK Try.prog 15 ⟨[.agg ⟨[.slice a71 l71 c71]⟩, .agg ⟨[.slice a72 l72 c72]⟩]⟩ h fun v73 h =>
  asB v73 fun t74 =>
  ifB (!t74)
  (kr false h)
  (ldRow h b70 0 0 [.int .i64, .int .i64, .int .i64] fun n75 n76 n77 =>
  ldRow h b66 0 0 [.int .i64, .int .i64, .int .i64] fun n78 n79 n80 =>
  callK Try.prog 16 ⟨[.agg ⟨[.int .i64 n75, .int .i64 n76, .int .i64 n77]⟩, .agg ⟨[.int .i64 n78, .int .i64 n79, .int .i64 n80]⟩]⟩ h fun v81 h =>
  asB v81 fun t82 =>
  ifB (!t82)
  (kr false h)
  (ldRow h b67 0 0 [.slice] fun a83 l83 c83 =>
  callK Try.prog 18 ⟨[.agg ⟨[.slice a83 l83 c83]⟩, .int .i64 1]⟩ h fun v84 h =>
  asI .i64 v84 fun n85 =>
  ifB (decide ((n85 : Int) < 0))
  (kr false h)
  (ifB ((n85 : Int) != n68)
  (kr false h)
  (kr true h))))

def laws_FnExactProcStep_j1 (kr : Bool → H → Prop) (b19 : Nat) (b20 : Nat) (b21 : Nat) (b22 : Nat) (b23 : Nat) (b24 : Nat) (b25 : Nat) (h : H) : Prop :=
  ldRow h b24 0 0 [.slice] fun a26 l26 c26 =>
  ldRow h b21 0 0 [.slice] fun a27 l27 c27 =>
  callK Try.prog 15 ⟨[.agg ⟨[.slice a26 l26 c26]⟩, .agg ⟨[.slice a27 l27 c27]⟩]⟩ h fun v28 h =>
  asB v28 fun t29 =>
  ifB (!t29)
  (kr false h)
  (ldRow h b25 0 0 [.int .i64, .int .i64, .int .i64] fun n30 n31 n32 =>
  ldRow h b22 0 0 [.int .i64, .int .i64, .int .i64] fun n33 n34 n35 =>
  callK Try.prog 16 ⟨[.agg ⟨[.int .i64 n30, .int .i64 n31, .int .i64 n32]⟩, .agg ⟨[.int .i64 n33, .int .i64 n34, .int .i64 n35]⟩]⟩ h fun v36 h =>
  asB v36 fun t37 =>
  ifB (!t37)
  (kr false h)
  (ldRow h b23 0 0 [.slice] fun a38 l38 c38 =>
  ldRow h b19 0 0 [.slice] fun a39 l39 c39 =>
  callK Try.prog 13 ⟨[.agg ⟨[.slice a39 l39 c39]⟩]⟩ h fun v40 h =>
  elF False (.agg [.slice]) v40 fun a41 l41 c41 =>
  cell h b23 0 = some (.slice a38 l38 c38) ∧ (callK Try.prog 15 ⟨[.agg ⟨[.slice a38 l38 c38]⟩, .agg ⟨[.slice a41 l41 c41]⟩]⟩ h fun v42 h =>
  asB v42 fun t43 =>
  ifB (!t43)
  (kr false h)
  (ldRow h b23 0 0 [.slice] fun a44 l44 c44 =>
  callK Try.prog 17 ⟨[.agg ⟨[.slice a44 l44 c44]⟩, .int .i64 1]⟩ h fun v45 h =>
  asI .i64 v45 fun n46 =>
  ifB (decide ((n46 : Int) < 0))
  (kr false h)
  (ldRow h b24 0 0 [.slice] fun a47 l47 c47 =>
  ldRow h b21 0 0 [.slice] fun a48 l48 c48 =>
  callK Try.prog 15 ⟨[.agg ⟨[.slice a47 l47 c47]⟩, .agg ⟨[.slice a48 l48 c48]⟩]⟩ h fun v49 h =>
  asB v49 fun t50 =>
  ifB (!t50)
  (kr false h)
  (ldRow h b25 0 0 [.int .i64, .int .i64, .int .i64] fun n51 n52 n53 =>
  ldRow h b22 0 0 [.int .i64, .int .i64, .int .i64] fun n54 n55 n56 =>
  callK Try.prog 16 ⟨[.agg ⟨[.int .i64 n51, .int .i64 n52, .int .i64 n53]⟩, .agg ⟨[.int .i64 n54, .int .i64 n55, .int .i64 n56]⟩]⟩ h fun v57 h =>
  asB v57 fun t58 =>
  ifB (!t58)
  (kr false h)
  (ldRow h b24 0 0 [.slice] fun a59 l59 c59 =>
  callK Try.prog 17 ⟨[.agg ⟨[.slice a59 l59 c59]⟩, .int .i64 1]⟩ h fun v60 h =>
  asI .i64 v60 fun n61 =>
  ldRow h b24 0 0 [.slice] fun a62 l62 c62 =>
  callK Try.prog 18 ⟨[.agg ⟨[.slice a62 l62 c62]⟩, .int .i64 1]⟩ h fun v63 h =>
  asI .i64 v63 fun n64 =>
  ifB (decide ((n64 : Int) < 0))
  (kr false h)
  (ifB ((n64 : Int) != n61)
  (kr false h)
  (ldRow h b19 0 0 [.slice] fun a65 l65 c65 =>
  ldRow h b20 0 0 [.int .i64, .int .i64, .int .i64, .int .i64] fun n66 n67 n68 n69 =>
  (callK Try.prog 13 ⟨[.agg ⟨[.slice a65 l65 c65]⟩]⟩ h fun v70 h =>
  elF False (.agg [.slice]) v70 fun a71 l71 c71 =>
  heldRow h b20 0 0 [.int .i64 n66, .int .i64 n67, .int .i64 n68, .int .i64 n69] ((callK Try.prog 14 ⟨[.agg ⟨[.int .i64 n66, .int .i64 n67, .int .i64 n68, .int .i64 n69]⟩]⟩ h fun v72 h =>
  elF False (.agg [.int .i64, .int .i64, .int .i64, .int .i64]) v72 fun n73 n74 n75 n76 =>
  (callK Try.prog 10 ⟨[.agg ⟨[.slice a71 l71 c71]⟩, .agg ⟨[.int .i64 n73, .int .i64 n74, .int .i64 n75, .int .i64 n76]⟩]⟩ h fun v77 h =>
  elF False (.tuple [.agg [.slice], .agg [.int .i64, .int .i64, .int .i64]]) v77 fun a78 l78 c78 n79 n80 n81 =>
  (new h [.slice none 0 0] 27 fun b82 h =>
  new h [.int .i64 0, .int .i64 0, .int .i64 0] 34 fun b83 h =>
  stRow h b82 0 0 [.slice a78 l78 c78] fun h =>
  stRow h b83 0 0 [.int .i64 n79, .int .i64 n80, .int .i64 n81] fun h =>
  laws_FnExactProcStep_j2 kr b21 b22 b24 n61 b82 b83 h) ∧ (new h [.int .i64 0, .int .i64 0, .int .i64 0] 34 fun b84 h =>
  new h [.slice none 0 0] 27 fun b85 h =>
  stRow h b85 0 0 [.slice a78 l78 c78] fun h =>
  stRow h b84 0 0 [.int .i64 n79, .int .i64 n80, .int .i64 n81] fun h =>
  laws_FnExactProcStep_j2 kr b21 b22 b24 n61 b85 b84 h)) ∧ (new h [.slice none 0 0] 27 fun b86 h =>
  (callK Try.prog 10 ⟨[.agg ⟨[.slice a71 l71 c71]⟩, .agg ⟨[.int .i64 n73, .int .i64 n74, .int .i64 n75, .int .i64 n76]⟩]⟩ h fun v87 h =>
  elF False (.tuple [.agg [.slice], .agg [.int .i64, .int .i64, .int .i64]]) v87 fun a88 l88 c88 n89 n90 n91 =>
  new h [.int .i64 0, .int .i64 0, .int .i64 0] 34 fun b92 h =>
  stRow h b86 0 0 [.slice a88 l88 c88] fun h =>
  stRow h b92 0 0 [.int .i64 n89, .int .i64 n90, .int .i64 n91] fun h =>
  laws_FnExactProcStep_j2 kr b21 b22 b24 n61 b86 b92 h) ∧ (new h [.int .i64 0, .int .i64 0, .int .i64 0] 34 fun b93 h =>
  callK Try.prog 10 ⟨[.agg ⟨[.slice a71 l71 c71]⟩, .agg ⟨[.int .i64 n73, .int .i64 n74, .int .i64 n75, .int .i64 n76]⟩]⟩ h fun v94 h =>
  elF False (.tuple [.agg [.slice], .agg [.int .i64, .int .i64, .int .i64]]) v94 fun a95 l95 c95 n96 n97 n98 =>
  stRow h b86 0 0 [.slice a95 l95 c95] fun h =>
  stRow h b93 0 0 [.int .i64 n96, .int .i64 n97, .int .i64 n98] fun h =>
  laws_FnExactProcStep_j2 kr b21 b22 b24 n61 b86 b93 h)) ∧ (new h [.int .i64 0, .int .i64 0, .int .i64 0] 34 fun b99 h =>
  (callK Try.prog 10 ⟨[.agg ⟨[.slice a71 l71 c71]⟩, .agg ⟨[.int .i64 n73, .int .i64 n74, .int .i64 n75, .int .i64 n76]⟩]⟩ h fun v100 h =>
  elF False (.tuple [.agg [.slice], .agg [.int .i64, .int .i64, .int .i64]]) v100 fun a101 l101 c101 n102 n103 n104 =>
  new h [.slice none 0 0] 27 fun b105 h =>
  stRow h b105 0 0 [.slice a101 l101 c101] fun h =>
  stRow h b99 0 0 [.int .i64 n102, .int .i64 n103, .int .i64 n104] fun h =>
  laws_FnExactProcStep_j2 kr b21 b22 b24 n61 b105 b99 h) ∧ (new h [.slice none 0 0] 27 fun b106 h =>
  callK Try.prog 10 ⟨[.agg ⟨[.slice a71 l71 c71]⟩, .agg ⟨[.int .i64 n73, .int .i64 n74, .int .i64 n75, .int .i64 n76]⟩]⟩ h fun v107 h =>
  elF False (.tuple [.agg [.slice], .agg [.int .i64, .int .i64, .int .i64]]) v107 fun a108 l108 c108 n109 n110 n111 =>
  stRow h b106 0 0 [.slice a108 l108 c108] fun h =>
  stRow h b99 0 0 [.int .i64 n109, .int .i64 n110, .int .i64 n111] fun h =>
  laws_FnExactProcStep_j2 kr b21 b22 b24 n61 b106 b99 h))) ∧ (new h [.slice none 0 0] 27 fun b112 h =>
  heldRow h b20 0 0 [.int .i64 n66, .int .i64 n67, .int .i64 n68, .int .i64 n69] ((callK Try.prog 14 ⟨[.agg ⟨[.int .i64 n66, .int .i64 n67, .int .i64 n68, .int .i64 n69]⟩]⟩ h fun v113 h =>
  elF False (.agg [.int .i64, .int .i64, .int .i64, .int .i64]) v113 fun n114 n115 n116 n117 =>
  (callK Try.prog 10 ⟨[.agg ⟨[.slice a71 l71 c71]⟩, .agg ⟨[.int .i64 n114, .int .i64 n115, .int .i64 n116, .int .i64 n117]⟩]⟩ h fun v118 h =>
  elF False (.tuple [.agg [.slice], .agg [.int .i64, .int .i64, .int .i64]]) v118 fun a119 l119 c119 n120 n121 n122 =>
  new h [.int .i64 0, .int .i64 0, .int .i64 0] 34 fun b123 h =>
  stRow h b112 0 0 [.slice a119 l119 c119] fun h =>
  stRow h b123 0 0 [.int .i64 n120, .int .i64 n121, .int .i64 n122] fun h =>
  laws_FnExactProcStep_j2 kr b21 b22 b24 n61 b112 b123 h) ∧ (new h [.int .i64 0, .int .i64 0, .int .i64 0] 34 fun b124 h =>
  callK Try.prog 10 ⟨[.agg ⟨[.slice a71 l71 c71]⟩, .agg ⟨[.int .i64 n114, .int .i64 n115, .int .i64 n116, .int .i64 n117]⟩]⟩ h fun v125 h =>
  elF False (.tuple [.agg [.slice], .agg [.int .i64, .int .i64, .int .i64]]) v125 fun a126 l126 c126 n127 n128 n129 =>
  stRow h b112 0 0 [.slice a126 l126 c126] fun h =>
  stRow h b124 0 0 [.int .i64 n127, .int .i64 n128, .int .i64 n129] fun h =>
  laws_FnExactProcStep_j2 kr b21 b22 b24 n61 b112 b124 h)) ∧ (new h [.int .i64 0, .int .i64 0, .int .i64 0] 34 fun b130 h =>
  heldRow h b20 0 0 [.int .i64 n66, .int .i64 n67, .int .i64 n68, .int .i64 n69] (callK Try.prog 14 ⟨[.agg ⟨[.int .i64 n66, .int .i64 n67, .int .i64 n68, .int .i64 n69]⟩]⟩ h fun v131 h =>
  elF False (.agg [.int .i64, .int .i64, .int .i64, .int .i64]) v131 fun n132 n133 n134 n135 =>
  callK Try.prog 10 ⟨[.agg ⟨[.slice a71 l71 c71]⟩, .agg ⟨[.int .i64 n132, .int .i64 n133, .int .i64 n134, .int .i64 n135]⟩]⟩ h fun v136 h =>
  elF False (.tuple [.agg [.slice], .agg [.int .i64, .int .i64, .int .i64]]) v136 fun a137 l137 c137 n138 n139 n140 =>
  stRow h b112 0 0 [.slice a137 l137 c137] fun h =>
  stRow h b130 0 0 [.int .i64 n138, .int .i64 n139, .int .i64 n140] fun h =>
  laws_FnExactProcStep_j2 kr b21 b22 b24 n61 b112 b130 h)))) ∧ (new h [.int .i64 0, .int .i64 0, .int .i64 0] 34 fun b141 h =>
  heldRow h b20 0 0 [.int .i64 n66, .int .i64 n67, .int .i64 n68, .int .i64 n69] ((callK Try.prog 14 ⟨[.agg ⟨[.int .i64 n66, .int .i64 n67, .int .i64 n68, .int .i64 n69]⟩]⟩ h fun v142 h =>
  elF False (.agg [.int .i64, .int .i64, .int .i64, .int .i64]) v142 fun n143 n144 n145 n146 =>
  (callK Try.prog 10 ⟨[.agg ⟨[.slice a71 l71 c71]⟩, .agg ⟨[.int .i64 n143, .int .i64 n144, .int .i64 n145, .int .i64 n146]⟩]⟩ h fun v147 h =>
  elF False (.tuple [.agg [.slice], .agg [.int .i64, .int .i64, .int .i64]]) v147 fun a148 l148 c148 n149 n150 n151 =>
  new h [.slice none 0 0] 27 fun b152 h =>
  stRow h b152 0 0 [.slice a148 l148 c148] fun h =>
  stRow h b141 0 0 [.int .i64 n149, .int .i64 n150, .int .i64 n151] fun h =>
  laws_FnExactProcStep_j2 kr b21 b22 b24 n61 b152 b141 h) ∧ (new h [.slice none 0 0] 27 fun b153 h =>
  callK Try.prog 10 ⟨[.agg ⟨[.slice a71 l71 c71]⟩, .agg ⟨[.int .i64 n143, .int .i64 n144, .int .i64 n145, .int .i64 n146]⟩]⟩ h fun v154 h =>
  elF False (.tuple [.agg [.slice], .agg [.int .i64, .int .i64, .int .i64]]) v154 fun a155 l155 c155 n156 n157 n158 =>
  stRow h b153 0 0 [.slice a155 l155 c155] fun h =>
  stRow h b141 0 0 [.int .i64 n156, .int .i64 n157, .int .i64 n158] fun h =>
  laws_FnExactProcStep_j2 kr b21 b22 b24 n61 b153 b141 h)) ∧ (new h [.slice none 0 0] 27 fun b159 h =>
  heldRow h b20 0 0 [.int .i64 n66, .int .i64 n67, .int .i64 n68, .int .i64 n69] (callK Try.prog 14 ⟨[.agg ⟨[.int .i64 n66, .int .i64 n67, .int .i64 n68, .int .i64 n69]⟩]⟩ h fun v160 h =>
  elF False (.agg [.int .i64, .int .i64, .int .i64, .int .i64]) v160 fun n161 n162 n163 n164 =>
  callK Try.prog 10 ⟨[.agg ⟨[.slice a71 l71 c71]⟩, .agg ⟨[.int .i64 n161, .int .i64 n162, .int .i64 n163, .int .i64 n164]⟩]⟩ h fun v165 h =>
  elF False (.tuple [.agg [.slice], .agg [.int .i64, .int .i64, .int .i64]]) v165 fun a166 l166 c166 n167 n168 n169 =>
  stRow h b159 0 0 [.slice a166 l166 c166] fun h =>
  stRow h b141 0 0 [.int .i64 n167, .int .i64 n168, .int .i64 n169] fun h =>
  laws_FnExactProcStep_j2 kr b21 b22 b24 n61 b159 b141 h)))))) ∧ (new h [.slice none 0 0] 27 fun b170 h =>
  heldRow h b20 0 0 [.int .i64 n66, .int .i64 n67, .int .i64 n68, .int .i64 n69] (cell h b19 0 = some (.slice a65 l65 c65) ∧ ((callK Try.prog 13 ⟨[.agg ⟨[.slice a65 l65 c65]⟩]⟩ h fun v171 h =>
  elF False (.agg [.slice]) v171 fun a172 l172 c172 =>
  heldRow h b20 0 0 [.int .i64 n66, .int .i64 n67, .int .i64 n68, .int .i64 n69] ((callK Try.prog 14 ⟨[.agg ⟨[.int .i64 n66, .int .i64 n67, .int .i64 n68, .int .i64 n69]⟩]⟩ h fun v173 h =>
  elF False (.agg [.int .i64, .int .i64, .int .i64, .int .i64]) v173 fun n174 n175 n176 n177 =>
  (callK Try.prog 10 ⟨[.agg ⟨[.slice a172 l172 c172]⟩, .agg ⟨[.int .i64 n174, .int .i64 n175, .int .i64 n176, .int .i64 n177]⟩]⟩ h fun v178 h =>
  elF False (.tuple [.agg [.slice], .agg [.int .i64, .int .i64, .int .i64]]) v178 fun a179 l179 c179 n180 n181 n182 =>
  new h [.int .i64 0, .int .i64 0, .int .i64 0] 34 fun b183 h =>
  stRow h b170 0 0 [.slice a179 l179 c179] fun h =>
  stRow h b183 0 0 [.int .i64 n180, .int .i64 n181, .int .i64 n182] fun h =>
  laws_FnExactProcStep_j2 kr b21 b22 b24 n61 b170 b183 h) ∧ (new h [.int .i64 0, .int .i64 0, .int .i64 0] 34 fun b184 h =>
  callK Try.prog 10 ⟨[.agg ⟨[.slice a172 l172 c172]⟩, .agg ⟨[.int .i64 n174, .int .i64 n175, .int .i64 n176, .int .i64 n177]⟩]⟩ h fun v185 h =>
  elF False (.tuple [.agg [.slice], .agg [.int .i64, .int .i64, .int .i64]]) v185 fun a186 l186 c186 n187 n188 n189 =>
  stRow h b170 0 0 [.slice a186 l186 c186] fun h =>
  stRow h b184 0 0 [.int .i64 n187, .int .i64 n188, .int .i64 n189] fun h =>
  laws_FnExactProcStep_j2 kr b21 b22 b24 n61 b170 b184 h)) ∧ (new h [.int .i64 0, .int .i64 0, .int .i64 0] 34 fun b190 h =>
  heldRow h b20 0 0 [.int .i64 n66, .int .i64 n67, .int .i64 n68, .int .i64 n69] (callK Try.prog 14 ⟨[.agg ⟨[.int .i64 n66, .int .i64 n67, .int .i64 n68, .int .i64 n69]⟩]⟩ h fun v191 h =>
  elF False (.agg [.int .i64, .int .i64, .int .i64, .int .i64]) v191 fun n192 n193 n194 n195 =>
  callK Try.prog 10 ⟨[.agg ⟨[.slice a172 l172 c172]⟩, .agg ⟨[.int .i64 n192, .int .i64 n193, .int .i64 n194, .int .i64 n195]⟩]⟩ h fun v196 h =>
  elF False (.tuple [.agg [.slice], .agg [.int .i64, .int .i64, .int .i64]]) v196 fun a197 l197 c197 n198 n199 n200 =>
  stRow h b170 0 0 [.slice a197 l197 c197] fun h =>
  stRow h b190 0 0 [.int .i64 n198, .int .i64 n199, .int .i64 n200] fun h =>
  laws_FnExactProcStep_j2 kr b21 b22 b24 n61 b170 b190 h)))) ∧ (new h [.int .i64 0, .int .i64 0, .int .i64 0] 34 fun b201 h =>
  heldRow h b20 0 0 [.int .i64 n66, .int .i64 n67, .int .i64 n68, .int .i64 n69] (cell h b19 0 = some (.slice a65 l65 c65) ∧ (callK Try.prog 13 ⟨[.agg ⟨[.slice a65 l65 c65]⟩]⟩ h fun v202 h =>
  elF False (.agg [.slice]) v202 fun a203 l203 c203 =>
  heldRow h b20 0 0 [.int .i64 n66, .int .i64 n67, .int .i64 n68, .int .i64 n69] (callK Try.prog 14 ⟨[.agg ⟨[.int .i64 n66, .int .i64 n67, .int .i64 n68, .int .i64 n69]⟩]⟩ h fun v204 h =>
  elF False (.agg [.int .i64, .int .i64, .int .i64, .int .i64]) v204 fun n205 n206 n207 n208 =>
  callK Try.prog 10 ⟨[.agg ⟨[.slice a203 l203 c203]⟩, .agg ⟨[.int .i64 n205, .int .i64 n206, .int .i64 n207, .int .i64 n208]⟩]⟩ h fun v209 h =>
  elF False (.tuple [.agg [.slice], .agg [.int .i64, .int .i64, .int .i64]]) v209 fun a210 l210 c210 n211 n212 n213 =>
  stRow h b170 0 0 [.slice a210 l210 c210] fun h =>
  stRow h b201 0 0 [.int .i64 n211, .int .i64 n212, .int .i64 n213] fun h =>
  laws_FnExactProcStep_j2 kr b21 b22 b24 n61 b170 b201 h))))))) ∧ (new h [.int .i64 0, .int .i64 0, .int .i64 0] 34 fun b214 h =>
  heldRow h b20 0 0 [.int .i64 n66, .int .i64 n67, .int .i64 n68, .int .i64 n69] (cell h b19 0 = some (.slice a65 l65 c65) ∧ ((callK Try.prog 13 ⟨[.agg ⟨[.slice a65 l65 c65]⟩]⟩ h fun v215 h =>
  elF False (.agg [.slice]) v215 fun a216 l216 c216 =>
  heldRow h b20 0 0 [.int .i64 n66, .int .i64 n67, .int .i64 n68, .int .i64 n69] ((callK Try.prog 14 ⟨[.agg ⟨[.int .i64 n66, .int .i64 n67, .int .i64 n68, .int .i64 n69]⟩]⟩ h fun v217 h =>
  elF False (.agg [.int .i64, .int .i64, .int .i64, .int .i64]) v217 fun n218 n219 n220 n221 =>
  (callK Try.prog 10 ⟨[.agg ⟨[.slice a216 l216 c216]⟩, .agg ⟨[.int .i64 n218, .int .i64 n219, .int .i64 n220, .int .i64 n221]⟩]⟩ h fun v222 h =>
  elF False (.tuple [.agg [.slice], .agg [.int .i64, .int .i64, .int .i64]]) v222 fun a223 l223 c223 n224 n225 n226 =>
  new h [.slice none 0 0] 27 fun b227 h =>
  stRow h b227 0 0 [.slice a223 l223 c223] fun h =>
  stRow h b214 0 0 [.int .i64 n224, .int .i64 n225, .int .i64 n226] fun h =>
  laws_FnExactProcStep_j2 kr b21 b22 b24 n61 b227 b214 h) ∧ (new h [.slice none 0 0] 27 fun b228 h =>
  callK Try.prog 10 ⟨[.agg ⟨[.slice a216 l216 c216]⟩, .agg ⟨[.int .i64 n218, .int .i64 n219, .int .i64 n220, .int .i64 n221]⟩]⟩ h fun v229 h =>
  elF False (.tuple [.agg [.slice], .agg [.int .i64, .int .i64, .int .i64]]) v229 fun a230 l230 c230 n231 n232 n233 =>
  stRow h b228 0 0 [.slice a230 l230 c230] fun h =>
  stRow h b214 0 0 [.int .i64 n231, .int .i64 n232, .int .i64 n233] fun h =>
  laws_FnExactProcStep_j2 kr b21 b22 b24 n61 b228 b214 h)) ∧ (new h [.slice none 0 0] 27 fun b234 h =>
  heldRow h b20 0 0 [.int .i64 n66, .int .i64 n67, .int .i64 n68, .int .i64 n69] (callK Try.prog 14 ⟨[.agg ⟨[.int .i64 n66, .int .i64 n67, .int .i64 n68, .int .i64 n69]⟩]⟩ h fun v235 h =>
  elF False (.agg [.int .i64, .int .i64, .int .i64, .int .i64]) v235 fun n236 n237 n238 n239 =>
  callK Try.prog 10 ⟨[.agg ⟨[.slice a216 l216 c216]⟩, .agg ⟨[.int .i64 n236, .int .i64 n237, .int .i64 n238, .int .i64 n239]⟩]⟩ h fun v240 h =>
  elF False (.tuple [.agg [.slice], .agg [.int .i64, .int .i64, .int .i64]]) v240 fun a241 l241 c241 n242 n243 n244 =>
  stRow h b234 0 0 [.slice a241 l241 c241] fun h =>
  stRow h b214 0 0 [.int .i64 n242, .int .i64 n243, .int .i64 n244] fun h =>
  laws_FnExactProcStep_j2 kr b21 b22 b24 n61 b234 b214 h)))) ∧ (new h [.slice none 0 0] 27 fun b245 h =>
  heldRow h b20 0 0 [.int .i64 n66, .int .i64 n67, .int .i64 n68, .int .i64 n69] (cell h b19 0 = some (.slice a65 l65 c65) ∧ (callK Try.prog 13 ⟨[.agg ⟨[.slice a65 l65 c65]⟩]⟩ h fun v246 h =>
  elF False (.agg [.slice]) v246 fun a247 l247 c247 =>
  heldRow h b20 0 0 [.int .i64 n66, .int .i64 n67, .int .i64 n68, .int .i64 n69] (callK Try.prog 14 ⟨[.agg ⟨[.int .i64 n66, .int .i64 n67, .int .i64 n68, .int .i64 n69]⟩]⟩ h fun v248 h =>
  elF False (.agg [.int .i64, .int .i64, .int .i64, .int .i64]) v248 fun n249 n250 n251 n252 =>
  callK Try.prog 10 ⟨[.agg ⟨[.slice a247 l247 c247]⟩, .agg ⟨[.int .i64 n249, .int .i64 n250, .int .i64 n251, .int .i64 n252]⟩]⟩ h fun v253 h =>
  elF False (.tuple [.agg [.slice], .agg [.int .i64, .int .i64, .int .i64]]) v253 fun a254 l254 c254 n255 n256 n257 =>
  stRow h b245 0 0 [.slice a254 l254 c254] fun h =>
  stRow h b214 0 0 [.int .i64 n255, .int .i64 n256, .int .i64 n257] fun h =>
  laws_FnExactProcStep_j2 kr b21 b22 b24 n61 b245 b214 h))))))))))))))))

def laws_FnExactProcStep_j0 (kr : Bool → H → Prop) (b11 : Nat) (b12 : Nat) (b13 : Nat) (b14 : Nat) (h : H) : Prop :=
  ldRow h b11 0 0 [.slice] fun a15 l15 c15 =>
  callK Try.prog 13 ⟨[.agg ⟨[.slice a15 l15 c15]⟩]⟩ h fun v16 h =>
  elF False (.agg [.slice]) v16 fun a17 l17 c17 =>
  new h [.slice none 0 0] 27 fun b18 h =>
  stRow h b18 0 0 [.slice a17 l17 c17] fun h =>
  ldRow h b18 0 0 [.slice] fun a19 l19 c19 =>
  ldRow h b12 0 0 [.int .i64, .int .i64, .int .i64, .int .i64] fun n20 n21 n22 n23 =>
  (callK Try.prog 14 ⟨[.agg ⟨[.int .i64 n20, .int .i64 n21, .int .i64 n22, .int .i64 n23]⟩]⟩ h fun v24 h =>
  elF False (.agg [.int .i64, .int .i64, .int .i64, .int .i64]) v24 fun n25 n26 n27 n28 =>
  cell h b18 0 = some (.slice a19 l19 c19) ∧ ((callK Try.prog 10 ⟨[.agg ⟨[.slice a19 l19 c19]⟩, .agg ⟨[.int .i64 n25, .int .i64 n26, .int .i64 n27, .int .i64 n28]⟩]⟩ h fun v29 h =>
  elF False (.tuple [.agg [.slice], .agg [.int .i64, .int .i64, .int .i64]]) v29 fun a30 l30 c30 n31 n32 n33 =>
  (new h [.slice none 0 0] 27 fun b34 h =>
  new h [.int .i64 0, .int .i64 0, .int .i64 0] 34 fun b35 h =>
  stRow h b34 0 0 [.slice a30 l30 c30] fun h =>
  stRow h b35 0 0 [.int .i64 n31, .int .i64 n32, .int .i64 n33] fun h =>
  laws_FnExactProcStep_j1 kr b11 b12 b13 b14 b18 b34 b35 h) ∧ (new h [.int .i64 0, .int .i64 0, .int .i64 0] 34 fun b36 h =>
  new h [.slice none 0 0] 27 fun b37 h =>
  stRow h b37 0 0 [.slice a30 l30 c30] fun h =>
  stRow h b36 0 0 [.int .i64 n31, .int .i64 n32, .int .i64 n33] fun h =>
  laws_FnExactProcStep_j1 kr b11 b12 b13 b14 b18 b37 b36 h)) ∧ (new h [.slice none 0 0] 27 fun b38 h =>
  cell h b18 0 = some (.slice a19 l19 c19) ∧ ((callK Try.prog 10 ⟨[.agg ⟨[.slice a19 l19 c19]⟩, .agg ⟨[.int .i64 n25, .int .i64 n26, .int .i64 n27, .int .i64 n28]⟩]⟩ h fun v39 h =>
  elF False (.tuple [.agg [.slice], .agg [.int .i64, .int .i64, .int .i64]]) v39 fun a40 l40 c40 n41 n42 n43 =>
  new h [.int .i64 0, .int .i64 0, .int .i64 0] 34 fun b44 h =>
  stRow h b38 0 0 [.slice a40 l40 c40] fun h =>
  stRow h b44 0 0 [.int .i64 n41, .int .i64 n42, .int .i64 n43] fun h =>
  laws_FnExactProcStep_j1 kr b11 b12 b13 b14 b18 b38 b44 h) ∧ (new h [.int .i64 0, .int .i64 0, .int .i64 0] 34 fun b45 h =>
  cell h b18 0 = some (.slice a19 l19 c19) ∧ (callK Try.prog 10 ⟨[.agg ⟨[.slice a19 l19 c19]⟩, .agg ⟨[.int .i64 n25, .int .i64 n26, .int .i64 n27, .int .i64 n28]⟩]⟩ h fun v46 h =>
  elF False (.tuple [.agg [.slice], .agg [.int .i64, .int .i64, .int .i64]]) v46 fun a47 l47 c47 n48 n49 n50 =>
  stRow h b38 0 0 [.slice a47 l47 c47] fun h =>
  stRow h b45 0 0 [.int .i64 n48, .int .i64 n49, .int .i64 n50] fun h =>
  laws_FnExactProcStep_j1 kr b11 b12 b13 b14 b18 b38 b45 h)))) ∧ (new h [.int .i64 0, .int .i64 0, .int .i64 0] 34 fun b51 h =>
  cell h b18 0 = some (.slice a19 l19 c19) ∧ ((callK Try.prog 10 ⟨[.agg ⟨[.slice a19 l19 c19]⟩, .agg ⟨[.int .i64 n25, .int .i64 n26, .int .i64 n27, .int .i64 n28]⟩]⟩ h fun v52 h =>
  elF False (.tuple [.agg [.slice], .agg [.int .i64, .int .i64, .int .i64]]) v52 fun a53 l53 c53 n54 n55 n56 =>
  new h [.slice none 0 0] 27 fun b57 h =>
  stRow h b57 0 0 [.slice a53 l53 c53] fun h =>
  stRow h b51 0 0 [.int .i64 n54, .int .i64 n55, .int .i64 n56] fun h =>
  laws_FnExactProcStep_j1 kr b11 b12 b13 b14 b18 b57 b51 h) ∧ (new h [.slice none 0 0] 27 fun b58 h =>
  cell h b18 0 = some (.slice a19 l19 c19) ∧ (callK Try.prog 10 ⟨[.agg ⟨[.slice a19 l19 c19]⟩, .agg ⟨[.int .i64 n25, .int .i64 n26, .int .i64 n27, .int .i64 n28]⟩]⟩ h fun v59 h =>
  elF False (.tuple [.agg [.slice], .agg [.int .i64, .int .i64, .int .i64]]) v59 fun a60 l60 c60 n61 n62 n63 =>
  stRow h b58 0 0 [.slice a60 l60 c60] fun h =>
  stRow h b51 0 0 [.int .i64 n61, .int .i64 n62, .int .i64 n63] fun h =>
  laws_FnExactProcStep_j1 kr b11 b12 b13 b14 b18 b58 b51 h)))))) ∧ (new h [.slice none 0 0] 27 fun b64 h =>
  heldRow h b12 0 0 [.int .i64 n20, .int .i64 n21, .int .i64 n22, .int .i64 n23] (cell h b18 0 = some (.slice a19 l19 c19) ∧ ((callK Try.prog 14 ⟨[.agg ⟨[.int .i64 n20, .int .i64 n21, .int .i64 n22, .int .i64 n23]⟩]⟩ h fun v65 h =>
  elF False (.agg [.int .i64, .int .i64, .int .i64, .int .i64]) v65 fun n66 n67 n68 n69 =>
  cell h b18 0 = some (.slice a19 l19 c19) ∧ ((callK Try.prog 10 ⟨[.agg ⟨[.slice a19 l19 c19]⟩, .agg ⟨[.int .i64 n66, .int .i64 n67, .int .i64 n68, .int .i64 n69]⟩]⟩ h fun v70 h =>
  elF False (.tuple [.agg [.slice], .agg [.int .i64, .int .i64, .int .i64]]) v70 fun a71 l71 c71 n72 n73 n74 =>
  new h [.int .i64 0, .int .i64 0, .int .i64 0] 34 fun b75 h =>
  stRow h b64 0 0 [.slice a71 l71 c71] fun h =>
  stRow h b75 0 0 [.int .i64 n72, .int .i64 n73, .int .i64 n74] fun h =>
  laws_FnExactProcStep_j1 kr b11 b12 b13 b14 b18 b64 b75 h) ∧ (new h [.int .i64 0, .int .i64 0, .int .i64 0] 34 fun b76 h =>
  cell h b18 0 = some (.slice a19 l19 c19) ∧ (callK Try.prog 10 ⟨[.agg ⟨[.slice a19 l19 c19]⟩, .agg ⟨[.int .i64 n66, .int .i64 n67, .int .i64 n68, .int .i64 n69]⟩]⟩ h fun v77 h =>
  elF False (.tuple [.agg [.slice], .agg [.int .i64, .int .i64, .int .i64]]) v77 fun a78 l78 c78 n79 n80 n81 =>
  stRow h b64 0 0 [.slice a78 l78 c78] fun h =>
  stRow h b76 0 0 [.int .i64 n79, .int .i64 n80, .int .i64 n81] fun h =>
  laws_FnExactProcStep_j1 kr b11 b12 b13 b14 b18 b64 b76 h)))) ∧ (new h [.int .i64 0, .int .i64 0, .int .i64 0] 34 fun b82 h =>
  heldRow h b12 0 0 [.int .i64 n20, .int .i64 n21, .int .i64 n22, .int .i64 n23] (cell h b18 0 = some (.slice a19 l19 c19) ∧ (callK Try.prog 14 ⟨[.agg ⟨[.int .i64 n20, .int .i64 n21, .int .i64 n22, .int .i64 n23]⟩]⟩ h fun v83 h =>
  elF False (.agg [.int .i64, .int .i64, .int .i64, .int .i64]) v83 fun n84 n85 n86 n87 =>
  cell h b18 0 = some (.slice a19 l19 c19) ∧ (callK Try.prog 10 ⟨[.agg ⟨[.slice a19 l19 c19]⟩, .agg ⟨[.int .i64 n84, .int .i64 n85, .int .i64 n86, .int .i64 n87]⟩]⟩ h fun v88 h =>
  elF False (.tuple [.agg [.slice], .agg [.int .i64, .int .i64, .int .i64]]) v88 fun a89 l89 c89 n90 n91 n92 =>
  stRow h b64 0 0 [.slice a89 l89 c89] fun h =>
  stRow h b82 0 0 [.int .i64 n90, .int .i64 n91, .int .i64 n92] fun h =>
  laws_FnExactProcStep_j1 kr b11 b12 b13 b14 b18 b64 b82 h))))))) ∧ (new h [.int .i64 0, .int .i64 0, .int .i64 0] 34 fun b93 h =>
  heldRow h b12 0 0 [.int .i64 n20, .int .i64 n21, .int .i64 n22, .int .i64 n23] (cell h b18 0 = some (.slice a19 l19 c19) ∧ ((callK Try.prog 14 ⟨[.agg ⟨[.int .i64 n20, .int .i64 n21, .int .i64 n22, .int .i64 n23]⟩]⟩ h fun v94 h =>
  elF False (.agg [.int .i64, .int .i64, .int .i64, .int .i64]) v94 fun n95 n96 n97 n98 =>
  cell h b18 0 = some (.slice a19 l19 c19) ∧ ((callK Try.prog 10 ⟨[.agg ⟨[.slice a19 l19 c19]⟩, .agg ⟨[.int .i64 n95, .int .i64 n96, .int .i64 n97, .int .i64 n98]⟩]⟩ h fun v99 h =>
  elF False (.tuple [.agg [.slice], .agg [.int .i64, .int .i64, .int .i64]]) v99 fun a100 l100 c100 n101 n102 n103 =>
  new h [.slice none 0 0] 27 fun b104 h =>
  stRow h b104 0 0 [.slice a100 l100 c100] fun h =>
  stRow h b93 0 0 [.int .i64 n101, .int .i64 n102, .int .i64 n103] fun h =>
  laws_FnExactProcStep_j1 kr b11 b12 b13 b14 b18 b104 b93 h) ∧ (new h [.slice none 0 0] 27 fun b105 h =>
  cell h b18 0 = some (.slice a19 l19 c19) ∧ (callK Try.prog 10 ⟨[.agg ⟨[.slice a19 l19 c19]⟩, .agg ⟨[.int .i64 n95, .int .i64 n96, .int .i64 n97, .int .i64 n98]⟩]⟩ h fun v106 h =>
  elF False (.tuple [.agg [.slice], .agg [.int .i64, .int .i64, .int .i64]]) v106 fun a107 l107 c107 n108 n109 n110 =>
  stRow h b105 0 0 [.slice a107 l107 c107] fun h =>
  stRow h b93 0 0 [.int .i64 n108, .int .i64 n109, .int .i64 n110] fun h =>
  laws_FnExactProcStep_j1 kr b11 b12 b13 b14 b18 b105 b93 h)))) ∧ (new h [.slice none 0 0] 27 fun b111 h =>
  heldRow h b12 0 0 [.int .i64 n20, .int .i64 n21, .int .i64 n22, .int .i64 n23] (cell h b18 0 = some (.slice a19 l19 c19) ∧ (callK Try.prog 14 ⟨[.agg ⟨[.int .i64 n20, .int .i64 n21, .int .i64 n22, .int .i64 n23]⟩]⟩ h fun v112 h =>
  elF False (.agg [.int .i64, .int .i64, .int .i64, .int .i64]) v112 fun n113 n114 n115 n116 =>
  cell h b18 0 = some (.slice a19 l19 c19) ∧ (callK Try.prog 10 ⟨[.agg ⟨[.slice a19 l19 c19]⟩, .agg ⟨[.int .i64 n113, .int .i64 n114, .int .i64 n115, .int .i64 n116]⟩]⟩ h fun v117 h =>
  elF False (.tuple [.agg [.slice], .agg [.int .i64, .int .i64, .int .i64]]) v117 fun a118 l118 c118 n119 n120 n121 =>
  stRow h b111 0 0 [.slice a118 l118 c118] fun h =>
  stRow h b93 0 0 [.int .i64 n119, .int .i64 n120, .int .i64 n121] fun h =>
  laws_FnExactProcStep_j1 kr b11 b12 b13 b14 b18 b111 b93 h)))))))

def laws_FnExactProcStep (kr : Bool → H → Prop) (a1 : Option Addr) (l1 : Nat) (c1 : Nat) (n2 : Int) (n3 : Int) (n4 : Int) (n5 : Int) (h : H) : Prop :=
  new h [.slice a1 l1 c1] 41 fun b6 h =>
  new h [.int .i64 n2, .int .i64 n3, .int .i64 n4, .int .i64 n5] 42 fun b7 h =>
  ldRow h b6 0 0 [.slice] fun a8 l8 c8 =>
  callK Try.prog 12 ⟨[.agg ⟨[.slice a8 l8 c8]⟩, .int .i64 1048576]⟩ h fun v9 h =>
  asI .i64 v9 fun n10 =>
  ifB (decide ((n10 : Int) < 0))
  (kr true h)
  (ldRow h b6 0 0 [.slice] fun a11 l11 c11 =>
  ldRow h b7 0 0 [.int .i64, .int .i64, .int .i64, .int .i64] fun n12 n13 n14 n15 =>
  (callK Try.prog 13 ⟨[.agg ⟨[.slice a11 l11 c11]⟩]⟩ h fun v16 h =>
  elF False (.agg [.slice]) v16 fun a17 l17 c17 =>
  heldRow h b7 0 0 [.int .i64 n12, .int .i64 n13, .int .i64 n14, .int .i64 n15] ((callK Try.prog 14 ⟨[.agg ⟨[.int .i64 n12, .int .i64 n13, .int .i64 n14, .int .i64 n15]⟩]⟩ h fun v18 h =>
  elF False (.agg [.int .i64, .int .i64, .int .i64, .int .i64]) v18 fun n19 n20 n21 n22 =>
  (callK Try.prog 11 ⟨[.agg ⟨[.slice a17 l17 c17]⟩, .agg ⟨[.int .i64 n19, .int .i64 n20, .int .i64 n21, .int .i64 n22]⟩]⟩ h fun v23 h =>
  elF False (.tuple [.agg [.slice], .agg [.int .i64, .int .i64, .int .i64]]) v23 fun a24 l24 c24 n25 n26 n27 =>
  (new h [.slice none 0 0] 27 fun b28 h =>
  new h [.int .i64 0, .int .i64 0, .int .i64 0] 34 fun b29 h =>
  stRow h b28 0 0 [.slice a24 l24 c24] fun h =>
  stRow h b29 0 0 [.int .i64 n25, .int .i64 n26, .int .i64 n27] fun h =>
  laws_FnExactProcStep_j0 kr b6 b7 b28 b29 h) ∧ (new h [.int .i64 0, .int .i64 0, .int .i64 0] 34 fun b30 h =>
  new h [.slice none 0 0] 27 fun b31 h =>
  stRow h b31 0 0 [.slice a24 l24 c24] fun h =>
  stRow h b30 0 0 [.int .i64 n25, .int .i64 n26, .int .i64 n27] fun h =>
  laws_FnExactProcStep_j0 kr b6 b7 b31 b30 h)) ∧ (new h [.slice none 0 0] 27 fun b32 h =>
  (callK Try.prog 11 ⟨[.agg ⟨[.slice a17 l17 c17]⟩, .agg ⟨[.int .i64 n19, .int .i64 n20, .int .i64 n21, .int .i64 n22]⟩]⟩ h fun v33 h =>
  elF False (.tuple [.agg [.slice], .agg [.int .i64, .int .i64, .int .i64]]) v33 fun a34 l34 c34 n35 n36 n37 =>
  new h [.int .i64 0, .int .i64 0, .int .i64 0] 34 fun b38 h =>
  stRow h b32 0 0 [.slice a34 l34 c34] fun h =>
  stRow h b38 0 0 [.int .i64 n35, .int .i64 n36, .int .i64 n37] fun h =>
  laws_FnExactProcStep_j0 kr b6 b7 b32 b38 h) ∧ (new h [.int .i64 0, .int .i64 0, .int .i64 0] 34 fun b39 h =>
  callK Try.prog 11 ⟨[.agg ⟨[.slice a17 l17 c17]⟩, .agg ⟨[.int .i64 n19, .int .i64 n20, .int .i64 n21, .int .i64 n22]⟩]⟩ h fun v40 h =>
  elF False (.tuple [.agg [.slice], .agg [.int .i64, .int .i64, .int .i64]]) v40 fun a41 l41 c41 n42 n43 n44 =>
  stRow h b32 0 0 [.slice a41 l41 c41] fun h =>
  stRow h b39 0 0 [.int .i64 n42, .int .i64 n43, .int .i64 n44] fun h =>
  laws_FnExactProcStep_j0 kr b6 b7 b32 b39 h)) ∧ (new h [.int .i64 0, .int .i64 0, .int .i64 0] 34 fun b45 h =>
  (callK Try.prog 11 ⟨[.agg ⟨[.slice a17 l17 c17]⟩, .agg ⟨[.int .i64 n19, .int .i64 n20, .int .i64 n21, .int .i64 n22]⟩]⟩ h fun v46 h =>
  elF False (.tuple [.agg [.slice], .agg [.int .i64, .int .i64, .int .i64]]) v46 fun a47 l47 c47 n48 n49 n50 =>
  new h [.slice none 0 0] 27 fun b51 h =>
  stRow h b51 0 0 [.slice a47 l47 c47] fun h =>
  stRow h b45 0 0 [.int .i64 n48, .int .i64 n49, .int .i64 n50] fun h =>
  laws_FnExactProcStep_j0 kr b6 b7 b51 b45 h) ∧ (new h [.slice none 0 0] 27 fun b52 h =>
  callK Try.prog 11 ⟨[.agg ⟨[.slice a17 l17 c17]⟩, .agg ⟨[.int .i64 n19, .int .i64 n20, .int .i64 n21, .int .i64 n22]⟩]⟩ h fun v53 h =>
  elF False (.tuple [.agg [.slice], .agg [.int .i64, .int .i64, .int .i64]]) v53 fun a54 l54 c54 n55 n56 n57 =>
  stRow h b52 0 0 [.slice a54 l54 c54] fun h =>
  stRow h b45 0 0 [.int .i64 n55, .int .i64 n56, .int .i64 n57] fun h =>
  laws_FnExactProcStep_j0 kr b6 b7 b52 b45 h))) ∧ (new h [.slice none 0 0] 27 fun b58 h =>
  heldRow h b7 0 0 [.int .i64 n12, .int .i64 n13, .int .i64 n14, .int .i64 n15] ((callK Try.prog 14 ⟨[.agg ⟨[.int .i64 n12, .int .i64 n13, .int .i64 n14, .int .i64 n15]⟩]⟩ h fun v59 h =>
  elF False (.agg [.int .i64, .int .i64, .int .i64, .int .i64]) v59 fun n60 n61 n62 n63 =>
  (callK Try.prog 11 ⟨[.agg ⟨[.slice a17 l17 c17]⟩, .agg ⟨[.int .i64 n60, .int .i64 n61, .int .i64 n62, .int .i64 n63]⟩]⟩ h fun v64 h =>
  elF False (.tuple [.agg [.slice], .agg [.int .i64, .int .i64, .int .i64]]) v64 fun a65 l65 c65 n66 n67 n68 =>
  new h [.int .i64 0, .int .i64 0, .int .i64 0] 34 fun b69 h =>
  stRow h b58 0 0 [.slice a65 l65 c65] fun h =>
  stRow h b69 0 0 [.int .i64 n66, .int .i64 n67, .int .i64 n68] fun h =>
  laws_FnExactProcStep_j0 kr b6 b7 b58 b69 h) ∧ (new h [.int .i64 0, .int .i64 0, .int .i64 0] 34 fun b70 h =>
  callK Try.prog 11 ⟨[.agg ⟨[.slice a17 l17 c17]⟩, .agg ⟨[.int .i64 n60, .int .i64 n61, .int .i64 n62, .int .i64 n63]⟩]⟩ h fun v71 h =>
  elF False (.tuple [.agg [.slice], .agg [.int .i64, .int .i64, .int .i64]]) v71 fun a72 l72 c72 n73 n74 n75 =>
  stRow h b58 0 0 [.slice a72 l72 c72] fun h =>
  stRow h b70 0 0 [.int .i64 n73, .int .i64 n74, .int .i64 n75] fun h =>
  laws_FnExactProcStep_j0 kr b6 b7 b58 b70 h)) ∧ (new h [.int .i64 0, .int .i64 0, .int .i64 0] 34 fun b76 h =>
  heldRow h b7 0 0 [.int .i64 n12, .int .i64 n13, .int .i64 n14, .int .i64 n15] (callK Try.prog 14 ⟨[.agg ⟨[.int .i64 n12, .int .i64 n13, .int .i64 n14, .int .i64 n15]⟩]⟩ h fun v77 h =>
  elF False (.agg [.int .i64, .int .i64, .int .i64, .int .i64]) v77 fun n78 n79 n80 n81 =>
  callK Try.prog 11 ⟨[.agg ⟨[.slice a17 l17 c17]⟩, .agg ⟨[.int .i64 n78, .int .i64 n79, .int .i64 n80, .int .i64 n81]⟩]⟩ h fun v82 h =>
  elF False (.tuple [.agg [.slice], .agg [.int .i64, .int .i64, .int .i64]]) v82 fun a83 l83 c83 n84 n85 n86 =>
  stRow h b58 0 0 [.slice a83 l83 c83] fun h =>
  stRow h b76 0 0 [.int .i64 n84, .int .i64 n85, .int .i64 n86] fun h =>
  laws_FnExactProcStep_j0 kr b6 b7 b58 b76 h)))) ∧ (new h [.int .i64 0, .int .i64 0, .int .i64 0] 34 fun b87 h =>
  heldRow h b7 0 0 [.int .i64 n12, .int .i64 n13, .int .i64 n14, .int .i64 n15] ((callK Try.prog 14 ⟨[.agg ⟨[.int .i64 n12, .int .i64 n13, .int .i64 n14, .int .i64 n15]⟩]⟩ h fun v88 h =>
  elF False (.agg [.int .i64, .int .i64, .int .i64, .int .i64]) v88 fun n89 n90 n91 n92 =>
  (callK Try.prog 11 ⟨[.agg ⟨[.slice a17 l17 c17]⟩, .agg ⟨[.int .i64 n89, .int .i64 n90, .int .i64 n91, .int .i64 n92]⟩]⟩ h fun v93 h =>
  elF False (.tuple [.agg [.slice], .agg [.int .i64, .int .i64, .int .i64]]) v93 fun a94 l94 c94 n95 n96 n97 =>
  new h [.slice none 0 0] 27 fun b98 h =>
  stRow h b98 0 0 [.slice a94 l94 c94] fun h =>
  stRow h b87 0 0 [.int .i64 n95, .int .i64 n96, .int .i64 n97] fun h =>
  laws_FnExactProcStep_j0 kr b6 b7 b98 b87 h) ∧ (new h [.slice none 0 0] 27 fun b99 h =>
  callK Try.prog 11 ⟨[.agg ⟨[.slice a17 l17 c17]⟩, .agg ⟨[.int .i64 n89, .int .i64 n90, .int .i64 n91, .int .i64 n92]⟩]⟩ h fun v100 h =>
  elF False (.tuple [.agg [.slice], .agg [.int .i64, .int .i64, .int .i64]]) v100 fun a101 l101 c101 n102 n103 n104 =>
  stRow h b99 0 0 [.slice a101 l101 c101] fun h =>
  stRow h b87 0 0 [.int .i64 n102, .int .i64 n103, .int .i64 n104] fun h =>
  laws_FnExactProcStep_j0 kr b6 b7 b99 b87 h)) ∧ (new h [.slice none 0 0] 27 fun b105 h =>
  heldRow h b7 0 0 [.int .i64 n12, .int .i64 n13, .int .i64 n14, .int .i64 n15] (callK Try.prog 14 ⟨[.agg ⟨[.int .i64 n12, .int .i64 n13, .int .i64 n14, .int .i64 n15]⟩]⟩ h fun v106 h =>
  elF False (.agg [.int .i64, .int .i64, .int .i64, .int .i64]) v106 fun n107 n108 n109 n110 =>
  callK Try.prog 11 ⟨[.agg ⟨[.slice a17 l17 c17]⟩, .agg ⟨[.int .i64 n107, .int .i64 n108, .int .i64 n109, .int .i64 n110]⟩]⟩ h fun v111 h =>
  elF False (.tuple [.agg [.slice], .agg [.int .i64, .int .i64, .int .i64]]) v111 fun a112 l112 c112 n113 n114 n115 =>
  stRow h b105 0 0 [.slice a112 l112 c112] fun h =>
  stRow h b87 0 0 [.int .i64 n113, .int .i64 n114, .int .i64 n115] fun h =>
  laws_FnExactProcStep_j0 kr b6 b7 b105 b87 h)))))) ∧ (new h [.slice none 0 0] 27 fun b116 h =>
  heldRow h b7 0 0 [.int .i64 n12, .int .i64 n13, .int .i64 n14, .int .i64 n15] (cell h b6 0 = some (.slice a11 l11 c11) ∧ ((callK Try.prog 13 ⟨[.agg ⟨[.slice a11 l11 c11]⟩]⟩ h fun v117 h =>
  elF False (.agg [.slice]) v117 fun a118 l118 c118 =>
  heldRow h b7 0 0 [.int .i64 n12, .int .i64 n13, .int .i64 n14, .int .i64 n15] ((callK Try.prog 14 ⟨[.agg ⟨[.int .i64 n12, .int .i64 n13, .int .i64 n14, .int .i64 n15]⟩]⟩ h fun v119 h =>
  elF False (.agg [.int .i64, .int .i64, .int .i64, .int .i64]) v119 fun n120 n121 n122 n123 =>
  (callK Try.prog 11 ⟨[.agg ⟨[.slice a118 l118 c118]⟩, .agg ⟨[.int .i64 n120, .int .i64 n121, .int .i64 n122, .int .i64 n123]⟩]⟩ h fun v124 h =>
  elF False (.tuple [.agg [.slice], .agg [.int .i64, .int .i64, .int .i64]]) v124 fun a125 l125 c125 n126 n127 n128 =>
  new h [.int .i64 0, .int .i64 0, .int .i64 0] 34 fun b129 h =>
  stRow h b116 0 0 [.slice a125 l125 c125] fun h =>
  stRow h b129 0 0 [.int .i64 n126, .int .i64 n127, .int .i64 n128] fun h =>
  laws_FnExactProcStep_j0 kr b6 b7 b116 b129 h) ∧ (new h [.int .i64 0, .int .i64 0, .int .i64 0] 34 fun b130 h =>
  callK Try.prog 11 ⟨[.agg ⟨[.slice a118 l118 c118]⟩, .agg ⟨[.int .i64 n120, .int .i64 n121, .int .i64 n122, .int .i64 n123]⟩]⟩ h fun v131 h =>
  elF False (.tuple [.agg [.slice], .agg [.int .i64, .int .i64, .int .i64]]) v131 fun a132 l132 c132 n133 n134 n135 =>
  stRow h b116 0 0 [.slice a132 l132 c132] fun h =>
  stRow h b130 0 0 [.int .i64 n133, .int .i64 n134, .int .i64 n135] fun h =>
  laws_FnExactProcStep_j0 kr b6 b7 b116 b130 h)) ∧ (new h [.int .i64 0, .int .i64 0, .int .i64 0] 34 fun b136 h =>
  heldRow h b7 0 0 [.int .i64 n12, .int .i64 n13, .int .i64 n14, .int .i64 n15] (callK Try.prog 14 ⟨[.agg ⟨[.int .i64 n12, .int .i64 n13, .int .i64 n14, .int .i64 n15]⟩]⟩ h fun v137 h =>
  elF False (.agg [.int .i64, .int .i64, .int .i64, .int .i64]) v137 fun n138 n139 n140 n141 =>
  callK Try.prog 11 ⟨[.agg ⟨[.slice a118 l118 c118]⟩, .agg ⟨[.int .i64 n138, .int .i64 n139, .int .i64 n140, .int .i64 n141]⟩]⟩ h fun v142 h =>
  elF False (.tuple [.agg [.slice], .agg [.int .i64, .int .i64, .int .i64]]) v142 fun a143 l143 c143 n144 n145 n146 =>
  stRow h b116 0 0 [.slice a143 l143 c143] fun h =>
  stRow h b136 0 0 [.int .i64 n144, .int .i64 n145, .int .i64 n146] fun h =>
  laws_FnExactProcStep_j0 kr b6 b7 b116 b136 h)))) ∧ (new h [.int .i64 0, .int .i64 0, .int .i64 0] 34 fun b147 h =>
  heldRow h b7 0 0 [.int .i64 n12, .int .i64 n13, .int .i64 n14, .int .i64 n15] (cell h b6 0 = some (.slice a11 l11 c11) ∧ (callK Try.prog 13 ⟨[.agg ⟨[.slice a11 l11 c11]⟩]⟩ h fun v148 h =>
  elF False (.agg [.slice]) v148 fun a149 l149 c149 =>
  heldRow h b7 0 0 [.int .i64 n12, .int .i64 n13, .int .i64 n14, .int .i64 n15] (callK Try.prog 14 ⟨[.agg ⟨[.int .i64 n12, .int .i64 n13, .int .i64 n14, .int .i64 n15]⟩]⟩ h fun v150 h =>
  elF False (.agg [.int .i64, .int .i64, .int .i64, .int .i64]) v150 fun n151 n152 n153 n154 =>
  callK Try.prog 11 ⟨[.agg ⟨[.slice a149 l149 c149]⟩, .agg ⟨[.int .i64 n151, .int .i64 n152, .int .i64 n153, .int .i64 n154]⟩]⟩ h fun v155 h =>
  elF False (.tuple [.agg [.slice], .agg [.int .i64, .int .i64, .int .i64]]) v155 fun a156 l156 c156 n157 n158 n159 =>
  stRow h b116 0 0 [.slice a156 l156 c156] fun h =>
  stRow h b147 0 0 [.int .i64 n157, .int .i64 n158, .int .i64 n159] fun h =>
  laws_FnExactProcStep_j0 kr b6 b7 b116 b147 h))))))) ∧ (new h [.int .i64 0, .int .i64 0, .int .i64 0] 34 fun b160 h =>
  heldRow h b7 0 0 [.int .i64 n12, .int .i64 n13, .int .i64 n14, .int .i64 n15] (cell h b6 0 = some (.slice a11 l11 c11) ∧ ((callK Try.prog 13 ⟨[.agg ⟨[.slice a11 l11 c11]⟩]⟩ h fun v161 h =>
  elF False (.agg [.slice]) v161 fun a162 l162 c162 =>
  heldRow h b7 0 0 [.int .i64 n12, .int .i64 n13, .int .i64 n14, .int .i64 n15] ((callK Try.prog 14 ⟨[.agg ⟨[.int .i64 n12, .int .i64 n13, .int .i64 n14, .int .i64 n15]⟩]⟩ h fun v163 h =>
  elF False (.agg [.int .i64, .int .i64, .int .i64, .int .i64]) v163 fun n164 n165 n166 n167 =>
  (callK Try.prog 11 ⟨[.agg ⟨[.slice a162 l162 c162]⟩, .agg ⟨[.int .i64 n164, .int .i64 n165, .int .i64 n166, .int .i64 n167]⟩]⟩ h fun v168 h =>
  elF False (.tuple [.agg [.slice], .agg [.int .i64, .int .i64, .int .i64]]) v168 fun a169 l169 c169 n170 n171 n172 =>
  new h [.slice none 0 0] 27 fun b173 h =>
  stRow h b173 0 0 [.slice a169 l169 c169] fun h =>
  stRow h b160 0 0 [.int .i64 n170, .int .i64 n171, .int .i64 n172] fun h =>
  laws_FnExactProcStep_j0 kr b6 b7 b173 b160 h) ∧ (new h [.slice none 0 0] 27 fun b174 h =>
  callK Try.prog 11 ⟨[.agg ⟨[.slice a162 l162 c162]⟩, .agg ⟨[.int .i64 n164, .int .i64 n165, .int .i64 n166, .int .i64 n167]⟩]⟩ h fun v175 h =>
  elF False (.tuple [.agg [.slice], .agg [.int .i64, .int .i64, .int .i64]]) v175 fun a176 l176 c176 n177 n178 n179 =>
  stRow h b174 0 0 [.slice a176 l176 c176] fun h =>
  stRow h b160 0 0 [.int .i64 n177, .int .i64 n178, .int .i64 n179] fun h =>
  laws_FnExactProcStep_j0 kr b6 b7 b174 b160 h)) ∧ (new h [.slice none 0 0] 27 fun b180 h =>
  heldRow h b7 0 0 [.int .i64 n12, .int .i64 n13, .int .i64 n14, .int .i64 n15] (callK Try.prog 14 ⟨[.agg ⟨[.int .i64 n12, .int .i64 n13, .int .i64 n14, .int .i64 n15]⟩]⟩ h fun v181 h =>
  elF False (.agg [.int .i64, .int .i64, .int .i64, .int .i64]) v181 fun n182 n183 n184 n185 =>
  callK Try.prog 11 ⟨[.agg ⟨[.slice a162 l162 c162]⟩, .agg ⟨[.int .i64 n182, .int .i64 n183, .int .i64 n184, .int .i64 n185]⟩]⟩ h fun v186 h =>
  elF False (.tuple [.agg [.slice], .agg [.int .i64, .int .i64, .int .i64]]) v186 fun a187 l187 c187 n188 n189 n190 =>
  stRow h b180 0 0 [.slice a187 l187 c187] fun h =>
  stRow h b160 0 0 [.int .i64 n188, .int .i64 n189, .int .i64 n190] fun h =>
  laws_FnExactProcStep_j0 kr b6 b7 b180 b160 h)))) ∧ (new h [.slice none 0 0] 27 fun b191 h =>
  heldRow h b7 0 0 [.int .i64 n12, .int .i64 n13, .int .i64 n14, .int .i64 n15] (cell h b6 0 = some (.slice a11 l11 c11) ∧ (callK Try.prog 13 ⟨[.agg ⟨[.slice a11 l11 c11]⟩]⟩ h fun v192 h =>
  elF False (.agg [.slice]) v192 fun a193 l193 c193 =>
  heldRow h b7 0 0 [.int .i64 n12, .int .i64 n13, .int .i64 n14, .int .i64 n15] (callK Try.prog 14 ⟨[.agg ⟨[.int .i64 n12, .int .i64 n13, .int .i64 n14, .int .i64 n15]⟩]⟩ h fun v194 h =>
  elF False (.agg [.int .i64, .int .i64, .int .i64, .int .i64]) v194 fun n195 n196 n197 n198 =>
  callK Try.prog 11 ⟨[.agg ⟨[.slice a193 l193 c193]⟩, .agg ⟨[.int .i64 n195, .int .i64 n196, .int .i64 n197, .int .i64 n198]⟩]⟩ h fun v199 h =>
  elF False (.tuple [.agg [.slice], .agg [.int .i64, .int .i64, .int .i64]]) v199 fun a200 l200 c200 n201 n202 n203 =>
  stRow h b191 0 0 [.slice a200 l200 c200] fun h =>
  stRow h b160 0 0 [.int .i64 n201, .int .i64 n202, .int .i64 n203] fun h =>
  laws_FnExactProcStep_j0 kr b6 b7 b191 b160 h))))))))

theorem laws_FnExactProcStep_j2_eq (K : Cont) (b65 : Nat) (b66 : Nat) (b67 : Nat) (n68 : Int) (b69 : Nat) (b70 : Nat) (h : H) :
  laws_FnExactProcStep_j2 (curV [(4, .bool)] (K .ret)) b65 b66 b67 n68 b69 b70 h = evC Try.prog 107 [] [] (sub code4 [true, true, true, true, true, true, true, true, true, true, true, true, true, true, true, true, true, true, true]) [(6, .pointer (some ⟨b65, 0, none⟩)), (7, .pointer (some ⟨b66, 0, none⟩)), (9, .pointer (some ⟨b67, 0, none⟩)), (12, .int .i64 n68), (14, .pointer (some ⟨b69, 0, none⟩)), (15, .pointer (some ⟨b70, 0, none⟩))] h (outsOf none [] (some [(4, .bool)]) K).K := by kernel_rfl

def laws_FnExactProcStep_j2_F : PT := mkF [(6, .blk), (7, .blk), (9, .blk), (12, .int .i64), (14, .blk), (15, .blk)] fun K => laws_FnExactProcStep_j2 (curV [(4, .bool)] (K .ret))

theorem laws_FnExactProcStep_j2_V : Valid Try.prog 107 (sub code4 [true, true, true, true, true, true, true, true, true, true, true, true, true, true, true, true, true, true, true]) laws_FnExactProcStep_j2_F :=
  piece mixed rows_nil (fun K => by intro b65 b66 b67 n68 b69 b70 h hd; exact (laws_FnExactProcStep_j2_eq K b65 b66 b67 n68 b69 b70 h) ▸ hd)

theorem laws_FnExactProcStep_j1_eq (K : Cont) (b19 : Nat) (b20 : Nat) (b21 : Nat) (b22 : Nat) (b23 : Nat) (b24 : Nat) (b25 : Nat) (h : H) :
  laws_FnExactProcStep_j1 (curV [(4, .bool)] (K .ret)) b19 b20 b21 b22 b23 b24 b25 h = evC Try.prog 107 [([true, true, true, true, true, true, true, true, true, true, true, true], laws_FnExactProcStep_j2_F)] [] (sub code4 [true, true, true, true, true, true, true]) [(2, .pointer (some ⟨b19, 0, none⟩)), (3, .pointer (some ⟨b20, 0, none⟩)), (6, .pointer (some ⟨b21, 0, none⟩)), (7, .pointer (some ⟨b22, 0, none⟩)), (8, .pointer (some ⟨b23, 0, none⟩)), (9, .pointer (some ⟨b24, 0, none⟩)), (10, .pointer (some ⟨b25, 0, none⟩))] h (outsOf none [] (some [(4, .bool)]) K).K := by kernel_rfl

def laws_FnExactProcStep_j1_F : PT := mkF [(2, .blk), (3, .blk), (6, .blk), (7, .blk), (8, .blk), (9, .blk), (10, .blk)] fun K => laws_FnExactProcStep_j1 (curV [(4, .bool)] (K .ret))

theorem laws_FnExactProcStep_j1_V : Valid Try.prog 107 (sub code4 [true, true, true, true, true, true, true]) laws_FnExactProcStep_j1_F :=
  piece mixed (rows_cons (q' := [true, true, true, true, true, true, true, true, true, true, true, true]) (valid_at (p := [true, true, true, true, true, true, true]) laws_FnExactProcStep_j2_V rfl) rfl rows_nil) (fun K => by intro b19 b20 b21 b22 b23 b24 b25 h hd; exact (laws_FnExactProcStep_j1_eq K b19 b20 b21 b22 b23 b24 b25 h) ▸ hd)

theorem laws_FnExactProcStep_j0_eq (K : Cont) (b11 : Nat) (b12 : Nat) (b13 : Nat) (b14 : Nat) (h : H) :
  laws_FnExactProcStep_j0 (curV [(4, .bool)] (K .ret)) b11 b12 b13 b14 h = evC Try.prog 107 [([true, true], laws_FnExactProcStep_j1_F)] [] (sub code4 [true, true, true, true, true]) [(2, .pointer (some ⟨b11, 0, none⟩)), (3, .pointer (some ⟨b12, 0, none⟩)), (6, .pointer (some ⟨b13, 0, none⟩)), (7, .pointer (some ⟨b14, 0, none⟩))] h (outsOf none [] (some [(4, .bool)]) K).K := by kernel_rfl

def laws_FnExactProcStep_j0_F : PT := mkF [(2, .blk), (3, .blk), (6, .blk), (7, .blk)] fun K => laws_FnExactProcStep_j0 (curV [(4, .bool)] (K .ret))

theorem laws_FnExactProcStep_j0_V : Valid Try.prog 107 (sub code4 [true, true, true, true, true]) laws_FnExactProcStep_j0_F :=
  piece mixed (rows_cons (q' := [true, true]) (valid_at (p := [true, true, true, true, true]) laws_FnExactProcStep_j1_V rfl) rfl rows_nil) (fun K => by intro b11 b12 b13 b14 h hd; exact (laws_FnExactProcStep_j0_eq K b11 b12 b13 b14 h) ▸ hd)

theorem laws_FnExactProcStep_eq (K : Cont) (a1 : Option Addr) (l1 : Nat) (c1 : Nat) (n2 : Int) (n3 : Int) (n4 : Int) (n5 : Int) (h : H) :
  laws_FnExactProcStep (curV [(4, .bool)] (K .ret)) a1 l1 c1 n2 n3 n4 n5 h = evC Try.prog 107 [([true, true, true, true, true], laws_FnExactProcStep_j0_F)] [] code4 [(0, .agg ⟨[.slice a1 l1 c1]⟩), (1, .agg ⟨[.int .i64 n2, .int .i64 n3, .int .i64 n4, .int .i64 n5]⟩)] h (outsOf none [] (some [(4, .bool)]) K).K := by kernel_rfl

def laws_FnExactProcStep_F : PT := mkF [(0, .agg [.slice]), (1, .agg [.int .i64, .int .i64, .int .i64, .int .i64])] fun K => laws_FnExactProcStep (curV [(4, .bool)] (K .ret))

theorem laws_FnExactProcStep_V : Valid Try.prog 107 code4 laws_FnExactProcStep_F :=
  piece mixed (rows_cons (q' := [true, true, true, true, true]) laws_FnExactProcStep_j0_V rfl rows_nil) (fun K => by intro a1 l1 c1 n2 n3 n4 n5 h hd; exact (laws_FnExactProcStep_eq K a1 l1 c1 n2 n3 n4 n5 h) ▸ hd)

theorem laws_FnExactProcStep_c0 (a1 : Option Addr) (l1 : Nat) (c1 : Nat) (n2 : Int) (n3 : Int) (n4 : Int) (n5 : Int) (h : H) (K : Value → H → Prop) :
  laws_FnExactProcStep (fun t100001 h =>
  K (.bool t100001) h) a1 l1 c1 n2 n3 n4 n5 h = callF Try.prog Try.f4.results.toList laws_FnExactProcStep_F [.agg ⟨[.slice a1 l1 c1]⟩, .agg ⟨[.int .i64 n2, .int .i64 n3, .int .i64 n4, .int .i64 n5]⟩] h K := by kernel_rfl

theorem laws_FnExactProcStep_call {a1 : Option Addr} {l1 : Nat} {c1 : Nat} {n2 : Int} {n3 : Int} {n4 : Int} {n5 : Int} {h : H} {K : Value → H → Prop} (hs : laws_FnExactProcStep (fun t100001 h =>
  K (.bool t100001) h) a1 l1 c1 n2 n3 n4 n5 h) : callK Try.prog 4 ⟨[.agg ⟨[.slice a1 l1 c1]⟩, .agg ⟨[.int .i64 n2, .int .i64 n3, .int .i64 n4, .int .i64 n5]⟩]⟩ h K :=
  func_calls Try.func4 body4 laws_FnExactProcStep_V (Nat.le_of_ble_eq_true (by kernel_rfl)) (laws_FnExactProcStep_c0 a1 l1 c1 n2 n3 n4 n5 h K ▸ hs)

theorem o_el_AI4E {n0 : Int} {n1 : Int} {n2 : Int} {n3 : Int} {K : Int → Int → Int → Int → Prop} (g : K n0 n1 n2 n3) : elF False (.agg [.int .i64, .int .i64, .int .i64, .int .i64]) (.agg ⟨[.int .i64 n0, .int .i64 n1, .int .i64 n2, .int .i64 n3]⟩) K := Eq.mpr (by kernel_rfl) g
theorem d_el_AI4E {v : Value} {K2 K1 : Int → Int → Int → Int → Prop} (f : ∀ n0 n1 n2 n3, K2 n0 n1 n2 n3 → K1 n0 n1 n2 n3) : elF False (.agg [.int .i64, .int .i64, .int .i64, .int .i64]) v K2 → elF False (.agg [.int .i64, .int .i64, .int .i64, .int .i64]) v K1 :=
  d_el (s := .agg [.int .i64, .int .i64, .int .i64, .int .i64]) (Eq.mpr (by kernel_rfl) f)
theorem o_el_ALE {n0 : Option Addr} {n1 : Nat} {n2 : Nat} {K : Option Addr → Nat → Nat → Prop} (g : K n0 n1 n2) : elF False (.agg [.slice]) (.agg ⟨[.slice n0 n1 n2]⟩) K := Eq.mpr (by kernel_rfl) g
theorem d_el_ALE {v : Value} {K2 K1 : Option Addr → Nat → Nat → Prop} (f : ∀ n0 n1 n2, K2 n0 n1 n2 → K1 n0 n1 n2) : elF False (.agg [.slice]) v K2 → elF False (.agg [.slice]) v K1 :=
  d_el (s := .agg [.slice]) (Eq.mpr (by kernel_rfl) f)
theorem o_el_TALEAI3EE {n0 : Option Addr} {n1 : Nat} {n2 : Nat} {n3 : Int} {n4 : Int} {n5 : Int} {K : Option Addr → Nat → Nat → Int → Int → Int → Prop} (g : K n0 n1 n2 n3 n4 n5) : elF False (.tuple [.agg [.slice], .agg [.int .i64, .int .i64, .int .i64]]) (.tuple ⟨[.agg ⟨[.slice n0 n1 n2]⟩, .agg ⟨[.int .i64 n3, .int .i64 n4, .int .i64 n5]⟩]⟩) K := Eq.mpr (by kernel_rfl) g
theorem d_el_TALEAI3EE {v : Value} {K2 K1 : Option Addr → Nat → Nat → Int → Int → Int → Prop} (f : ∀ n0 n1 n2 n3 n4 n5, K2 n0 n1 n2 n3 n4 n5 → K1 n0 n1 n2 n3 n4 n5) : elF False (.tuple [.agg [.slice], .agg [.int .i64, .int .i64, .int .i64]]) v K2 → elF False (.tuple [.agg [.slice], .agg [.int .i64, .int .i64, .int .i64]]) v K1 :=
  d_el (s := .tuple [.agg [.slice], .agg [.int .i64, .int .i64, .int .i64]]) (Eq.mpr (by kernel_rfl) f)
theorem row_I3 (h : H) (b o : Nat) (K : Int → Int → Int → Prop) : ldRow h b o 0 [.int .i64, .int .i64, .int .i64] K = ldI .i64 h b (o + 0) fun n0 => ldI .i64 h b (o + 1) fun n1 => ldI .i64 h b (o + 2) fun n2 => K n0 n1 n2 := by kernel_rfl
theorem d_row_I3 {g0 m0 g m : H} {L : List As} {b o : Nat} {K2 K1 : Int → Int → Int → Prop} (R : Md g0 m0 g m L) (f : ∀ n0 n1 n2, K2 n0 n1 n2 → K1 n0 n1 n2) : ldRow m b o 0 [.int .i64, .int .i64, .int .i64] K2 → ldRow g b o 0 [.int .i64, .int .i64, .int .i64] K1 := by
  rw [row_I3, row_I3]; exact d_ldI R fun n0 => d_ldI R fun n1 => d_ldI R fun n2 => f n0 n1 n2
theorem p_row_I3 {g0 m0 g m : H} {L : List As} {b o : Nat} {cs : List Value} {G : Prop} [LoIn L b cs] {K1 : Int → Int → Int → Prop} {n0 : Int} {n1 : Int} {n2 : Int} (R : Md g0 m0 g m L) (e0 : cs[o + 0]? = some (.int .i64 n0)) (e1 : cs[o + 1]? = some (.int .i64 n1)) (e2 : cs[o + 2]? = some (.int .i64 n2)) (f : G → K1 n0 n1 n2) : G → ldRow g b o 0 [.int .i64, .int .i64, .int .i64] K1 := by
  rw [row_I3]; exact p_ldI R e0 (p_ldI R e1 (p_ldI R e2 (f)))
theorem row_I4 (h : H) (b o : Nat) (K : Int → Int → Int → Int → Prop) : ldRow h b o 0 [.int .i64, .int .i64, .int .i64, .int .i64] K = ldI .i64 h b (o + 0) fun n0 => ldI .i64 h b (o + 1) fun n1 => ldI .i64 h b (o + 2) fun n2 => ldI .i64 h b (o + 3) fun n3 => K n0 n1 n2 n3 := by kernel_rfl
theorem d_row_I4 {g0 m0 g m : H} {L : List As} {b o : Nat} {K2 K1 : Int → Int → Int → Int → Prop} (R : Md g0 m0 g m L) (f : ∀ n0 n1 n2 n3, K2 n0 n1 n2 n3 → K1 n0 n1 n2 n3) : ldRow m b o 0 [.int .i64, .int .i64, .int .i64, .int .i64] K2 → ldRow g b o 0 [.int .i64, .int .i64, .int .i64, .int .i64] K1 := by
  rw [row_I4, row_I4]; exact d_ldI R fun n0 => d_ldI R fun n1 => d_ldI R fun n2 => d_ldI R fun n3 => f n0 n1 n2 n3
theorem p_row_I4 {g0 m0 g m : H} {L : List As} {b o : Nat} {cs : List Value} {G : Prop} [LoIn L b cs] {K1 : Int → Int → Int → Int → Prop} {n0 : Int} {n1 : Int} {n2 : Int} {n3 : Int} (R : Md g0 m0 g m L) (e0 : cs[o + 0]? = some (.int .i64 n0)) (e1 : cs[o + 1]? = some (.int .i64 n1)) (e2 : cs[o + 2]? = some (.int .i64 n2)) (e3 : cs[o + 3]? = some (.int .i64 n3)) (f : G → K1 n0 n1 n2 n3) : G → ldRow g b o 0 [.int .i64, .int .i64, .int .i64, .int .i64] K1 := by
  rw [row_I4]; exact p_ldI R e0 (p_ldI R e1 (p_ldI R e2 (p_ldI R e3 (f))))
theorem row_L (h : H) (b o : Nat) (K : Option Addr → Nat → Nat → Prop) : ldRow h b o 0 [.slice] K = ldL h b (o + 0) fun n0 n1 n2 => K n0 n1 n2 := by kernel_rfl
theorem d_row_L {g0 m0 g m : H} {L : List As} {b o : Nat} {K2 K1 : Option Addr → Nat → Nat → Prop} (R : Md g0 m0 g m L) (f : ∀ n0 n1 n2, K2 n0 n1 n2 → K1 n0 n1 n2) : ldRow m b o 0 [.slice] K2 → ldRow g b o 0 [.slice] K1 := by
  rw [row_L, row_L]; exact d_ldL R fun n0 n1 n2 => f n0 n1 n2
theorem p_row_L {g0 m0 g m : H} {L : List As} {b o : Nat} {cs : List Value} {G : Prop} [LoIn L b cs] {K1 : Option Addr → Nat → Nat → Prop} {n0 : Option Addr} {n1 : Nat} {n2 : Nat} (R : Md g0 m0 g m L) (e0 : cs[o + 0]? = some (.slice n0 n1 n2)) (f : G → K1 n0 n1 n2) : G → ldRow g b o 0 [.slice] K1 := by
  rw [row_L]; exact p_ldL R e0 (f)
def laws_FnExactProcStep_M_j2 (kr : Bool → H → Prop) (n62 : Int) (a63 : Option Addr) (l63 : Nat) (c63 : Nat) (n65 : Int) (n66 : Int) (n67 : Int) (a69 : Option Addr) (l69 : Nat) (c69 : Nat) (a71 : Option Addr) (l71 : Nat) (c71 : Nat) (n73 : Int) (n74 : Int) (n75 : Int) (h : H) : Prop :=
  callD Try.prog 15 ⟨[.agg ⟨[.slice a71 l71 c71]⟩, .agg ⟨[.slice a63 l63 c63]⟩]⟩ h fun v77 h =>
  asB v77 fun t78 =>
  ifB (!t78)
  (kr false h)
  (callD Try.prog 16 ⟨[.agg ⟨[.int .i64 n73, .int .i64 n74, .int .i64 n75]⟩, .agg ⟨[.int .i64 n65, .int .i64 n66, .int .i64 n67]⟩]⟩ h fun v79 h =>
  asB v79 fun t80 =>
  ifB (!t80)
  (kr false h)
  (callD Try.prog 18 ⟨[.agg ⟨[.slice a69 l69 c69]⟩, .int .i64 1]⟩ h fun v81 h =>
  asI .i64 v81 fun n82 =>
  ifB (decide ((n82 : Int) < 0))
  (kr false h)
  (ifB ((n82 : Int) != n62)
  (kr false h)
  (kr true h))))

def laws_FnExactProcStep_M_j1 (kr : Bool → H → Prop) (a23 : Option Addr) (l23 : Nat) (c23 : Nat) (n25 : Int) (n26 : Int) (n27 : Int) (n28 : Int) (a30 : Option Addr) (l30 : Nat) (c30 : Nat) (n32 : Int) (n33 : Int) (n34 : Int) (a36 : Option Addr) (l36 : Nat) (c36 : Nat) (a38 : Option Addr) (l38 : Nat) (c38 : Nat) (n40 : Int) (n41 : Int) (n42 : Int) (h : H) : Prop :=
  callD Try.prog 15 ⟨[.agg ⟨[.slice a38 l38 c38]⟩, .agg ⟨[.slice a30 l30 c30]⟩]⟩ h fun v44 h =>
  asB v44 fun t45 =>
  ifB (!t45)
  (kr false h)
  (callD Try.prog 16 ⟨[.agg ⟨[.int .i64 n40, .int .i64 n41, .int .i64 n42]⟩, .agg ⟨[.int .i64 n32, .int .i64 n33, .int .i64 n34]⟩]⟩ h fun v46 h =>
  asB v46 fun t47 =>
  ifB (!t47)
  (kr false h)
  (callD Try.prog 13 ⟨[.agg ⟨[.slice a23 l23 c23]⟩]⟩ h fun v48 h =>
  elF False (.agg [.slice]) v48 fun a49 l49 c49 =>
  callD Try.prog 15 ⟨[.agg ⟨[.slice a36 l36 c36]⟩, .agg ⟨[.slice a49 l49 c49]⟩]⟩ h fun v50 h =>
  asB v50 fun t51 =>
  ifB (!t51)
  (kr false h)
  (callD Try.prog 17 ⟨[.agg ⟨[.slice a36 l36 c36]⟩, .int .i64 1]⟩ h fun v52 h =>
  asI .i64 v52 fun n53 =>
  ifB (decide ((n53 : Int) < 0))
  (kr false h)
  (callD Try.prog 15 ⟨[.agg ⟨[.slice a38 l38 c38]⟩, .agg ⟨[.slice a30 l30 c30]⟩]⟩ h fun v54 h =>
  asB v54 fun t55 =>
  ifB (!t55)
  (kr false h)
  (callD Try.prog 16 ⟨[.agg ⟨[.int .i64 n40, .int .i64 n41, .int .i64 n42]⟩, .agg ⟨[.int .i64 n32, .int .i64 n33, .int .i64 n34]⟩]⟩ h fun v56 h =>
  asB v56 fun t57 =>
  ifB (!t57)
  (kr false h)
  (callD Try.prog 17 ⟨[.agg ⟨[.slice a38 l38 c38]⟩, .int .i64 1]⟩ h fun v58 h =>
  asI .i64 v58 fun n59 =>
  callD Try.prog 18 ⟨[.agg ⟨[.slice a38 l38 c38]⟩, .int .i64 1]⟩ h fun v60 h =>
  asI .i64 v60 fun n61 =>
  ifB (decide ((n61 : Int) < 0))
  (kr false h)
  (ifB ((n61 : Int) != n59)
  (kr false h)
  (callD Try.prog 13 ⟨[.agg ⟨[.slice a23 l23 c23]⟩]⟩ h fun v62 h =>
  elF False (.agg [.slice]) v62 fun a63 l63 c63 =>
  callD Try.prog 14 ⟨[.agg ⟨[.int .i64 n25, .int .i64 n26, .int .i64 n27, .int .i64 n28]⟩]⟩ h fun v64 h =>
  elF False (.agg [.int .i64, .int .i64, .int .i64, .int .i64]) v64 fun n65 n66 n67 n68 =>
  callD Try.prog 10 ⟨[.agg ⟨[.slice a63 l63 c63]⟩, .agg ⟨[.int .i64 n65, .int .i64 n66, .int .i64 n67, .int .i64 n68]⟩]⟩ h fun v69 h =>
  elF False (.tuple [.agg [.slice], .agg [.int .i64, .int .i64, .int .i64]]) v69 fun a70 l70 c70 n71 n72 n73 =>
  laws_FnExactProcStep_M_j2 kr n59 a30 l30 c30 n32 n33 n34 a38 l38 c38 a70 l70 c70 n71 n72 n73 h))))))))

def laws_FnExactProcStep_M_j0 (kr : Bool → H → Prop) (a8 : Option Addr) (l8 : Nat) (c8 : Nat) (n10 : Int) (n11 : Int) (n12 : Int) (n13 : Int) (a15 : Option Addr) (l15 : Nat) (c15 : Nat) (n17 : Int) (n18 : Int) (n19 : Int) (h : H) : Prop :=
  callD Try.prog 13 ⟨[.agg ⟨[.slice a8 l8 c8]⟩]⟩ h fun v21 h =>
  elF False (.agg [.slice]) v21 fun a22 l22 c22 =>
  callD Try.prog 14 ⟨[.agg ⟨[.int .i64 n10, .int .i64 n11, .int .i64 n12, .int .i64 n13]⟩]⟩ h fun v23 h =>
  elF False (.agg [.int .i64, .int .i64, .int .i64, .int .i64]) v23 fun n24 n25 n26 n27 =>
  callD Try.prog 10 ⟨[.agg ⟨[.slice a22 l22 c22]⟩, .agg ⟨[.int .i64 n24, .int .i64 n25, .int .i64 n26, .int .i64 n27]⟩]⟩ h fun v28 h =>
  elF False (.tuple [.agg [.slice], .agg [.int .i64, .int .i64, .int .i64]]) v28 fun a29 l29 c29 n30 n31 n32 =>
  laws_FnExactProcStep_M_j1 kr a8 l8 c8 n10 n11 n12 n13 a15 l15 c15 n17 n18 n19 a22 l22 c22 a29 l29 c29 n30 n31 n32 h

def laws_FnExactProcStep_M (kr : Bool → H → Prop) (a1 : Option Addr) (l1 : Nat) (c1 : Nat) (n2 : Int) (n3 : Int) (n4 : Int) (n5 : Int) (h : H) : Prop :=
  callD Try.prog 12 ⟨[.agg ⟨[.slice a1 l1 c1]⟩, .int .i64 1048576]⟩ h fun v6 h =>
  asI .i64 v6 fun n7 =>
  ifB (decide ((n7 : Int) < 0))
  (kr true h)
  (callD Try.prog 13 ⟨[.agg ⟨[.slice a1 l1 c1]⟩]⟩ h fun v8 h =>
  elF False (.agg [.slice]) v8 fun a9 l9 c9 =>
  callD Try.prog 14 ⟨[.agg ⟨[.int .i64 n2, .int .i64 n3, .int .i64 n4, .int .i64 n5]⟩]⟩ h fun v10 h =>
  elF False (.agg [.int .i64, .int .i64, .int .i64, .int .i64]) v10 fun n11 n12 n13 n14 =>
  callD Try.prog 11 ⟨[.agg ⟨[.slice a9 l9 c9]⟩, .agg ⟨[.int .i64 n11, .int .i64 n12, .int .i64 n13, .int .i64 n14]⟩]⟩ h fun v15 h =>
  elF False (.tuple [.agg [.slice], .agg [.int .i64, .int .i64, .int .i64]]) v15 fun a16 l16 c16 n17 n18 n19 =>
  laws_FnExactProcStep_M_j0 kr a1 l1 c1 n2 n3 n4 n5 a16 l16 c16 n17 n18 n19 h)

theorem laws_FnExactProcStep_M_j2_D {g0 m0 : H} {kr_1 : Bool → H → Prop} {kr_2 : Bool → H → Prop} (Hkr : ∀ (t200001 : Bool) (g m : H), Md g0 m0 g m [] → kr_2 t200001 m → kr_1 t200001 g) : ∀ (n1062 : Int) (a1063 : Option Addr) (l1063 : Nat) (c1063 : Nat) (n1065 : Int) (n1066 : Int) (n1067 : Int) (a1069 : Option Addr) (l1069 : Nat) (c1069 : Nat) (a1071 : Option Addr) (l1071 : Nat) (c1071 : Nat) (n1073 : Int) (n1074 : Int) (n1075 : Int) (p1064 : Nat) (p1068 : Nat) (p1070 : Nat) (p1072 : Nat) (p1076 : Nat) (g m : H), Md g0 m0 g m [lo p1064 [.slice a1063 l1063 c1063], lo p1068 [.int .i64 n1065, .int .i64 n1066, .int .i64 n1067], lo p1070 [.slice a1069 l1069 c1069], lo p1072 [.slice a1071 l1071 c1071], lo p1076 [.int .i64 n1073, .int .i64 n1074, .int .i64 n1075]] → laws_FnExactProcStep_M_j2 kr_2 n1062 a1063 l1063 c1063 n1065 n1066 n1067 a1069 l1069 c1069 a1071 l1071 c1071 n1073 n1074 n1075 m → laws_FnExactProcStep_j2 kr_1 p1064 p1068 p1070 n1062 p1072 p1076 g := by
  intro n1062 a1063 l1063 c1063 n1065 n1066 n1067 a1069 l1069 c1069 a1071 l1071 c1071 n1073 n1074 n1075 p1064 p1068 p1070 p1072 p1076 g m R
  rw [laws_FnExactProcStep_M_j2, laws_FnExactProcStep_j2]
  exact (p_row_L R rfl (p_row_L R rfl (d_call R fun v1077 g m R =>
  (d_asB fun t1078 =>
  (d_if (Hkr false _ _ R.sub)
  (p_row_I3 R rfl rfl rfl (p_row_I3 R rfl rfl rfl (d_call R fun v1079 g m R =>
  (d_asB fun t1080 =>
  (d_if (Hkr false _ _ R.sub)
  (p_row_L R rfl (d_call R fun v1081 g m R =>
  (d_asI fun n1082 =>
  (d_if (Hkr false _ _ R.sub)
  (d_if (Hkr false _ _ R.sub)
  (Hkr true _ _ R.sub))))))))))))))))

theorem laws_FnExactProcStep_M_j1_D {g0 m0 : H} {kr_1 : Bool → H → Prop} {kr_2 : Bool → H → Prop} (Hkr : ∀ (t200001 : Bool) (g m : H), Md g0 m0 g m [] → kr_2 t200001 m → kr_1 t200001 g) : ∀ (a1023 : Option Addr) (l1023 : Nat) (c1023 : Nat) (n1025 : Int) (n1026 : Int) (n1027 : Int) (n1028 : Int) (a1030 : Option Addr) (l1030 : Nat) (c1030 : Nat) (n1032 : Int) (n1033 : Int) (n1034 : Int) (a1036 : Option Addr) (l1036 : Nat) (c1036 : Nat) (a1038 : Option Addr) (l1038 : Nat) (c1038 : Nat) (n1040 : Int) (n1041 : Int) (n1042 : Int) (p1024 : Nat) (p1029 : Nat) (p1031 : Nat) (p1035 : Nat) (p1037 : Nat) (p1039 : Nat) (p1043 : Nat) (g m : H), Md g0 m0 g m [lo p1024 [.slice a1023 l1023 c1023], lo p1029 [.int .i64 n1025, .int .i64 n1026, .int .i64 n1027, .int .i64 n1028], lo p1031 [.slice a1030 l1030 c1030], lo p1035 [.int .i64 n1032, .int .i64 n1033, .int .i64 n1034], lo p1037 [.slice a1036 l1036 c1036], lo p1039 [.slice a1038 l1038 c1038], lo p1043 [.int .i64 n1040, .int .i64 n1041, .int .i64 n1042]] → laws_FnExactProcStep_M_j1 kr_2 a1023 l1023 c1023 n1025 n1026 n1027 n1028 a1030 l1030 c1030 n1032 n1033 n1034 a1036 l1036 c1036 a1038 l1038 c1038 n1040 n1041 n1042 m → laws_FnExactProcStep_j1 kr_1 p1024 p1029 p1031 p1035 p1037 p1039 p1043 g := by
  intro a1023 l1023 c1023 n1025 n1026 n1027 n1028 a1030 l1030 c1030 n1032 n1033 n1034 a1036 l1036 c1036 a1038 l1038 c1038 n1040 n1041 n1042 p1024 p1029 p1031 p1035 p1037 p1039 p1043 g m R
  rw [laws_FnExactProcStep_M_j1, laws_FnExactProcStep_j1]
  exact (p_row_L R rfl (p_row_L R rfl (d_call R fun v1044 g m R =>
  (d_asB fun t1045 =>
  (d_if (Hkr false _ _ R.sub)
  (p_row_I3 R rfl rfl rfl (p_row_I3 R rfl rfl rfl (d_call R fun v1046 g m R =>
  (d_asB fun t1047 =>
  (d_if (Hkr false _ _ R.sub)
  (p_row_L R rfl (p_row_L R rfl (d_call R fun v1048 g m R =>
  (d_el_ALE fun a1049 l1049 c1049 =>
  (p_cell R rfl (d_call R fun v1050 g m R =>
  (d_asB fun t1051 =>
  (d_if (Hkr false _ _ R.sub)
  (p_row_L R rfl (d_call R fun v1052 g m R =>
  (d_asI fun n1053 =>
  (d_if (Hkr false _ _ R.sub)
  (p_row_L R rfl (p_row_L R rfl (d_call R fun v1054 g m R =>
  (d_asB fun t1055 =>
  (d_if (Hkr false _ _ R.sub)
  (p_row_I3 R rfl rfl rfl (p_row_I3 R rfl rfl rfl (d_call R fun v1056 g m R =>
  (d_asB fun t1057 =>
  (d_if (Hkr false _ _ R.sub)
  (p_row_L R rfl (d_call R fun v1058 g m R =>
  (d_asI fun n1059 =>
  (p_row_L R rfl (d_call R fun v1060 g m R =>
  (d_asI fun n1061 =>
  (d_if (Hkr false _ _ R.sub)
  (d_if (Hkr false _ _ R.sub)
  (p_row_L R rfl (p_row_I4 R rfl rfl rfl rfl (d_dup (d_call R fun v1062 g m R =>
  (d_el_ALE fun a1063 l1063 c1063 =>
  (p_held R rfl (d_dup (d_call R fun v1064 g m R =>
  (d_el_AI4E fun n1065 n1066 n1067 n1068 =>
  (d_dup (d_call R fun v1069 g m R =>
  (d_el_TALEAI3EE fun a1070 l1070 c1070 n1071 n1072 n1073 =>
  (d_dup (p_new R fun p1074 g R =>
  (p_new R fun p1075 g R =>
  (p_stRow R (cs' := [.slice a1070 l1070 c1070]) ⟨rfl, rfl, rfl⟩ fun g R =>
  (p_stRow R (cs' := [.int .i64 n1071, .int .i64 n1072, .int .i64 n1073]) ⟨rfl, rfl, rfl⟩ fun g R =>
  (laws_FnExactProcStep_M_j2_D (by exact fun t1076 g m R =>
  (Hkr t1076 _ _ R.sub)) n1059 a1030 l1030 c1030 n1032 n1033 n1034 a1038 l1038 c1038 a1070 l1070 c1070 n1071 n1072 n1073 p1031 p1035 p1039 p1074 p1075 _ _ R.sub)))))
  (p_new R fun p1074 g R =>
  (p_new R fun p1075 g R =>
  (p_stRow R (cs' := [.slice a1070 l1070 c1070]) ⟨rfl, rfl, rfl⟩ fun g R =>
  (p_stRow R (cs' := [.int .i64 n1071, .int .i64 n1072, .int .i64 n1073]) ⟨rfl, rfl, rfl⟩ fun g R =>
  (laws_FnExactProcStep_M_j2_D (by exact fun t1076 g m R =>
  (Hkr t1076 _ _ R.sub)) n1059 a1030 l1030 c1030 n1032 n1033 n1034 a1038 l1038 c1038 a1070 l1070 c1070 n1071 n1072 n1073 p1031 p1035 p1039 p1075 p1074 _ _ R.sub))))))))
  (d_dup (p_new R fun p1069 g R =>
  (d_dup (d_call R fun v1070 g m R =>
  (d_el_TALEAI3EE fun a1071 l1071 c1071 n1072 n1073 n1074 =>
  (p_new R fun p1075 g R =>
  (p_stRow R (cs' := [.slice a1071 l1071 c1071]) ⟨rfl, rfl, rfl⟩ fun g R =>
  (p_stRow R (cs' := [.int .i64 n1072, .int .i64 n1073, .int .i64 n1074]) ⟨rfl, rfl, rfl⟩ fun g R =>
  (laws_FnExactProcStep_M_j2_D (by exact fun t1076 g m R =>
  (Hkr t1076 _ _ R.sub)) n1059 a1030 l1030 c1030 n1032 n1033 n1034 a1038 l1038 c1038 a1071 l1071 c1071 n1072 n1073 n1074 p1031 p1035 p1039 p1069 p1075 _ _ R.sub))))))
  (p_new R fun p1070 g R =>
  (d_call R fun v1071 g m R =>
  (d_el_TALEAI3EE fun a1072 l1072 c1072 n1073 n1074 n1075 =>
  (p_stRow R (cs' := [.slice a1072 l1072 c1072]) ⟨rfl, rfl, rfl⟩ fun g R =>
  (p_stRow R (cs' := [.int .i64 n1073, .int .i64 n1074, .int .i64 n1075]) ⟨rfl, rfl, rfl⟩ fun g R =>
  (laws_FnExactProcStep_M_j2_D (by exact fun t1076 g m R =>
  (Hkr t1076 _ _ R.sub)) n1059 a1030 l1030 c1030 n1032 n1033 n1034 a1038 l1038 c1038 a1072 l1072 c1072 n1073 n1074 n1075 p1031 p1035 p1039 p1069 p1070 _ _ R.sub))))))))
  (p_new R fun p1069 g R =>
  (d_dup (d_call R fun v1070 g m R =>
  (d_el_TALEAI3EE fun a1071 l1071 c1071 n1072 n1073 n1074 =>
  (p_new R fun p1075 g R =>
  (p_stRow R (cs' := [.slice a1071 l1071 c1071]) ⟨rfl, rfl, rfl⟩ fun g R =>
  (p_stRow R (cs' := [.int .i64 n1072, .int .i64 n1073, .int .i64 n1074]) ⟨rfl, rfl, rfl⟩ fun g R =>
  (laws_FnExactProcStep_M_j2_D (by exact fun t1076 g m R =>
  (Hkr t1076 _ _ R.sub)) n1059 a1030 l1030 c1030 n1032 n1033 n1034 a1038 l1038 c1038 a1071 l1071 c1071 n1072 n1073 n1074 p1031 p1035 p1039 p1075 p1069 _ _ R.sub))))))
  (p_new R fun p1070 g R =>
  (d_call R fun v1071 g m R =>
  (d_el_TALEAI3EE fun a1072 l1072 c1072 n1073 n1074 n1075 =>
  (p_stRow R (cs' := [.slice a1072 l1072 c1072]) ⟨rfl, rfl, rfl⟩ fun g R =>
  (p_stRow R (cs' := [.int .i64 n1073, .int .i64 n1074, .int .i64 n1075]) ⟨rfl, rfl, rfl⟩ fun g R =>
  (laws_FnExactProcStep_M_j2_D (by exact fun t1076 g m R =>
  (Hkr t1076 _ _ R.sub)) n1059 a1030 l1030 c1030 n1032 n1033 n1034 a1038 l1038 c1038 a1072 l1072 c1072 n1073 n1074 n1075 p1031 p1035 p1039 p1070 p1069 _ _ R.sub))))))))))))
  (d_dup (p_new R fun p1064 g R =>
  (p_held R rfl (d_dup (d_call R fun v1065 g m R =>
  (d_el_AI4E fun n1066 n1067 n1068 n1069 =>
  (d_dup (d_call R fun v1070 g m R =>
  (d_el_TALEAI3EE fun a1071 l1071 c1071 n1072 n1073 n1074 =>
  (p_new R fun p1075 g R =>
  (p_stRow R (cs' := [.slice a1071 l1071 c1071]) ⟨rfl, rfl, rfl⟩ fun g R =>
  (p_stRow R (cs' := [.int .i64 n1072, .int .i64 n1073, .int .i64 n1074]) ⟨rfl, rfl, rfl⟩ fun g R =>
  (laws_FnExactProcStep_M_j2_D (by exact fun t1076 g m R =>
  (Hkr t1076 _ _ R.sub)) n1059 a1030 l1030 c1030 n1032 n1033 n1034 a1038 l1038 c1038 a1071 l1071 c1071 n1072 n1073 n1074 p1031 p1035 p1039 p1064 p1075 _ _ R.sub))))))
  (p_new R fun p1070 g R =>
  (d_call R fun v1071 g m R =>
  (d_el_TALEAI3EE fun a1072 l1072 c1072 n1073 n1074 n1075 =>
  (p_stRow R (cs' := [.slice a1072 l1072 c1072]) ⟨rfl, rfl, rfl⟩ fun g R =>
  (p_stRow R (cs' := [.int .i64 n1073, .int .i64 n1074, .int .i64 n1075]) ⟨rfl, rfl, rfl⟩ fun g R =>
  (laws_FnExactProcStep_M_j2_D (by exact fun t1076 g m R =>
  (Hkr t1076 _ _ R.sub)) n1059 a1030 l1030 c1030 n1032 n1033 n1034 a1038 l1038 c1038 a1072 l1072 c1072 n1073 n1074 n1075 p1031 p1035 p1039 p1064 p1070 _ _ R.sub)))))))))
  (p_new R fun p1065 g R =>
  (p_held R rfl (d_call R fun v1066 g m R =>
  (d_el_AI4E fun n1067 n1068 n1069 n1070 =>
  (d_call R fun v1071 g m R =>
  (d_el_TALEAI3EE fun a1072 l1072 c1072 n1073 n1074 n1075 =>
  (p_stRow R (cs' := [.slice a1072 l1072 c1072]) ⟨rfl, rfl, rfl⟩ fun g R =>
  (p_stRow R (cs' := [.int .i64 n1073, .int .i64 n1074, .int .i64 n1075]) ⟨rfl, rfl, rfl⟩ fun g R =>
  (laws_FnExactProcStep_M_j2_D (by exact fun t1076 g m R =>
  (Hkr t1076 _ _ R.sub)) n1059 a1030 l1030 c1030 n1032 n1033 n1034 a1038 l1038 c1038 a1072 l1072 c1072 n1073 n1074 n1075 p1031 p1035 p1039 p1064 p1065 _ _ R.sub))))))))))))
  (p_new R fun p1064 g R =>
  (p_held R rfl (d_dup (d_call R fun v1065 g m R =>
  (d_el_AI4E fun n1066 n1067 n1068 n1069 =>
  (d_dup (d_call R fun v1070 g m R =>
  (d_el_TALEAI3EE fun a1071 l1071 c1071 n1072 n1073 n1074 =>
  (p_new R fun p1075 g R =>
  (p_stRow R (cs' := [.slice a1071 l1071 c1071]) ⟨rfl, rfl, rfl⟩ fun g R =>
  (p_stRow R (cs' := [.int .i64 n1072, .int .i64 n1073, .int .i64 n1074]) ⟨rfl, rfl, rfl⟩ fun g R =>
  (laws_FnExactProcStep_M_j2_D (by exact fun t1076 g m R =>
  (Hkr t1076 _ _ R.sub)) n1059 a1030 l1030 c1030 n1032 n1033 n1034 a1038 l1038 c1038 a1071 l1071 c1071 n1072 n1073 n1074 p1031 p1035 p1039 p1075 p1064 _ _ R.sub))))))
  (p_new R fun p1070 g R =>
  (d_call R fun v1071 g m R =>
  (d_el_TALEAI3EE fun a1072 l1072 c1072 n1073 n1074 n1075 =>
  (p_stRow R (cs' := [.slice a1072 l1072 c1072]) ⟨rfl, rfl, rfl⟩ fun g R =>
  (p_stRow R (cs' := [.int .i64 n1073, .int .i64 n1074, .int .i64 n1075]) ⟨rfl, rfl, rfl⟩ fun g R =>
  (laws_FnExactProcStep_M_j2_D (by exact fun t1076 g m R =>
  (Hkr t1076 _ _ R.sub)) n1059 a1030 l1030 c1030 n1032 n1033 n1034 a1038 l1038 c1038 a1072 l1072 c1072 n1073 n1074 n1075 p1031 p1035 p1039 p1070 p1064 _ _ R.sub)))))))))
  (p_new R fun p1065 g R =>
  (p_held R rfl (d_call R fun v1066 g m R =>
  (d_el_AI4E fun n1067 n1068 n1069 n1070 =>
  (d_call R fun v1071 g m R =>
  (d_el_TALEAI3EE fun a1072 l1072 c1072 n1073 n1074 n1075 =>
  (p_stRow R (cs' := [.slice a1072 l1072 c1072]) ⟨rfl, rfl, rfl⟩ fun g R =>
  (p_stRow R (cs' := [.int .i64 n1073, .int .i64 n1074, .int .i64 n1075]) ⟨rfl, rfl, rfl⟩ fun g R =>
  (laws_FnExactProcStep_M_j2_D (by exact fun t1076 g m R =>
  (Hkr t1076 _ _ R.sub)) n1059 a1030 l1030 c1030 n1032 n1033 n1034 a1038 l1038 c1038 a1072 l1072 c1072 n1073 n1074 n1075 p1031 p1035 p1039 p1065 p1064 _ _ R.sub)))))))))))))))))
  (d_dup (p_new R fun p1062 g R =>
  (p_held R rfl (p_cell R rfl (d_dup (d_call R fun v1063 g m R =>
  (d_el_ALE fun a1064 l1064 c1064 =>
  (p_held R rfl (d_dup (d_call R fun v1065 g m R =>
  (d_el_AI4E fun n1066 n1067 n1068 n1069 =>
  (d_dup (d_call R fun v1070 g m R =>
  (d_el_TALEAI3EE fun a1071 l1071 c1071 n1072 n1073 n1074 =>
  (p_new R fun p1075 g R =>
  (p_stRow R (cs' := [.slice a1071 l1071 c1071]) ⟨rfl, rfl, rfl⟩ fun g R =>
  (p_stRow R (cs' := [.int .i64 n1072, .int .i64 n1073, .int .i64 n1074]) ⟨rfl, rfl, rfl⟩ fun g R =>
  (laws_FnExactProcStep_M_j2_D (by exact fun t1076 g m R =>
  (Hkr t1076 _ _ R.sub)) n1059 a1030 l1030 c1030 n1032 n1033 n1034 a1038 l1038 c1038 a1071 l1071 c1071 n1072 n1073 n1074 p1031 p1035 p1039 p1062 p1075 _ _ R.sub))))))
  (p_new R fun p1070 g R =>
  (d_call R fun v1071 g m R =>
  (d_el_TALEAI3EE fun a1072 l1072 c1072 n1073 n1074 n1075 =>
  (p_stRow R (cs' := [.slice a1072 l1072 c1072]) ⟨rfl, rfl, rfl⟩ fun g R =>
  (p_stRow R (cs' := [.int .i64 n1073, .int .i64 n1074, .int .i64 n1075]) ⟨rfl, rfl, rfl⟩ fun g R =>
  (laws_FnExactProcStep_M_j2_D (by exact fun t1076 g m R =>
  (Hkr t1076 _ _ R.sub)) n1059 a1030 l1030 c1030 n1032 n1033 n1034 a1038 l1038 c1038 a1072 l1072 c1072 n1073 n1074 n1075 p1031 p1035 p1039 p1062 p1070 _ _ R.sub)))))))))
  (p_new R fun p1065 g R =>
  (p_held R rfl (d_call R fun v1066 g m R =>
  (d_el_AI4E fun n1067 n1068 n1069 n1070 =>
  (d_call R fun v1071 g m R =>
  (d_el_TALEAI3EE fun a1072 l1072 c1072 n1073 n1074 n1075 =>
  (p_stRow R (cs' := [.slice a1072 l1072 c1072]) ⟨rfl, rfl, rfl⟩ fun g R =>
  (p_stRow R (cs' := [.int .i64 n1073, .int .i64 n1074, .int .i64 n1075]) ⟨rfl, rfl, rfl⟩ fun g R =>
  (laws_FnExactProcStep_M_j2_D (by exact fun t1076 g m R =>
  (Hkr t1076 _ _ R.sub)) n1059 a1030 l1030 c1030 n1032 n1033 n1034 a1038 l1038 c1038 a1072 l1072 c1072 n1073 n1074 n1075 p1031 p1035 p1039 p1062 p1065 _ _ R.sub)))))))))))))
  (p_new R fun p1063 g R =>
  (p_held R rfl (p_cell R rfl (d_call R fun v1064 g m R =>
  (d_el_ALE fun a1065 l1065 c1065 =>
  (p_held R rfl (d_call R fun v1066 g m R =>
  (d_el_AI4E fun n1067 n1068 n1069 n1070 =>
  (d_call R fun v1071 g m R =>
  (d_el_TALEAI3EE fun a1072 l1072 c1072 n1073 n1074 n1075 =>
  (p_stRow R (cs' := [.slice a1072 l1072 c1072]) ⟨rfl, rfl, rfl⟩ fun g R =>
  (p_stRow R (cs' := [.int .i64 n1073, .int .i64 n1074, .int .i64 n1075]) ⟨rfl, rfl, rfl⟩ fun g R =>
  (laws_FnExactProcStep_M_j2_D (by exact fun t1076 g m R =>
  (Hkr t1076 _ _ R.sub)) n1059 a1030 l1030 c1030 n1032 n1033 n1034 a1038 l1038 c1038 a1072 l1072 c1072 n1073 n1074 n1075 p1031 p1035 p1039 p1062 p1063 _ _ R.sub)))))))))))))))))
  (p_new R fun p1062 g R =>
  (p_held R rfl (p_cell R rfl (d_dup (d_call R fun v1063 g m R =>
  (d_el_ALE fun a1064 l1064 c1064 =>
  (p_held R rfl (d_dup (d_call R fun v1065 g m R =>
  (d_el_AI4E fun n1066 n1067 n1068 n1069 =>
  (d_dup (d_call R fun v1070 g m R =>
  (d_el_TALEAI3EE fun a1071 l1071 c1071 n1072 n1073 n1074 =>
  (p_new R fun p1075 g R =>
  (p_stRow R (cs' := [.slice a1071 l1071 c1071]) ⟨rfl, rfl, rfl⟩ fun g R =>
  (p_stRow R (cs' := [.int .i64 n1072, .int .i64 n1073, .int .i64 n1074]) ⟨rfl, rfl, rfl⟩ fun g R =>
  (laws_FnExactProcStep_M_j2_D (by exact fun t1076 g m R =>
  (Hkr t1076 _ _ R.sub)) n1059 a1030 l1030 c1030 n1032 n1033 n1034 a1038 l1038 c1038 a1071 l1071 c1071 n1072 n1073 n1074 p1031 p1035 p1039 p1075 p1062 _ _ R.sub))))))
  (p_new R fun p1070 g R =>
  (d_call R fun v1071 g m R =>
  (d_el_TALEAI3EE fun a1072 l1072 c1072 n1073 n1074 n1075 =>
  (p_stRow R (cs' := [.slice a1072 l1072 c1072]) ⟨rfl, rfl, rfl⟩ fun g R =>
  (p_stRow R (cs' := [.int .i64 n1073, .int .i64 n1074, .int .i64 n1075]) ⟨rfl, rfl, rfl⟩ fun g R =>
  (laws_FnExactProcStep_M_j2_D (by exact fun t1076 g m R =>
  (Hkr t1076 _ _ R.sub)) n1059 a1030 l1030 c1030 n1032 n1033 n1034 a1038 l1038 c1038 a1072 l1072 c1072 n1073 n1074 n1075 p1031 p1035 p1039 p1070 p1062 _ _ R.sub)))))))))
  (p_new R fun p1065 g R =>
  (p_held R rfl (d_call R fun v1066 g m R =>
  (d_el_AI4E fun n1067 n1068 n1069 n1070 =>
  (d_call R fun v1071 g m R =>
  (d_el_TALEAI3EE fun a1072 l1072 c1072 n1073 n1074 n1075 =>
  (p_stRow R (cs' := [.slice a1072 l1072 c1072]) ⟨rfl, rfl, rfl⟩ fun g R =>
  (p_stRow R (cs' := [.int .i64 n1073, .int .i64 n1074, .int .i64 n1075]) ⟨rfl, rfl, rfl⟩ fun g R =>
  (laws_FnExactProcStep_M_j2_D (by exact fun t1076 g m R =>
  (Hkr t1076 _ _ R.sub)) n1059 a1030 l1030 c1030 n1032 n1033 n1034 a1038 l1038 c1038 a1072 l1072 c1072 n1073 n1074 n1075 p1031 p1035 p1039 p1065 p1062 _ _ R.sub)))))))))))))
  (p_new R fun p1063 g R =>
  (p_held R rfl (p_cell R rfl (d_call R fun v1064 g m R =>
  (d_el_ALE fun a1065 l1065 c1065 =>
  (p_held R rfl (d_call R fun v1066 g m R =>
  (d_el_AI4E fun n1067 n1068 n1069 n1070 =>
  (d_call R fun v1071 g m R =>
  (d_el_TALEAI3EE fun a1072 l1072 c1072 n1073 n1074 n1075 =>
  (p_stRow R (cs' := [.slice a1072 l1072 c1072]) ⟨rfl, rfl, rfl⟩ fun g R =>
  (p_stRow R (cs' := [.int .i64 n1073, .int .i64 n1074, .int .i64 n1075]) ⟨rfl, rfl, rfl⟩ fun g R =>
  (laws_FnExactProcStep_M_j2_D (by exact fun t1076 g m R =>
  (Hkr t1076 _ _ R.sub)) n1059 a1030 l1030 c1030 n1032 n1033 n1034 a1038 l1038 c1038 a1072 l1072 c1072 n1073 n1074 n1075 p1031 p1035 p1039 p1063 p1062 _ _ R.sub)))))))))))))))))))))))))))))))))))))))))))))))))))))))))))))

theorem laws_FnExactProcStep_M_j0_D {g0 m0 : H} {kr_1 : Bool → H → Prop} {kr_2 : Bool → H → Prop} (Hkr : ∀ (t200001 : Bool) (g m : H), Md g0 m0 g m [] → kr_2 t200001 m → kr_1 t200001 g) : ∀ (a1008 : Option Addr) (l1008 : Nat) (c1008 : Nat) (n1010 : Int) (n1011 : Int) (n1012 : Int) (n1013 : Int) (a1015 : Option Addr) (l1015 : Nat) (c1015 : Nat) (n1017 : Int) (n1018 : Int) (n1019 : Int) (p1009 : Nat) (p1014 : Nat) (p1016 : Nat) (p1020 : Nat) (g m : H), Md g0 m0 g m [lo p1009 [.slice a1008 l1008 c1008], lo p1014 [.int .i64 n1010, .int .i64 n1011, .int .i64 n1012, .int .i64 n1013], lo p1016 [.slice a1015 l1015 c1015], lo p1020 [.int .i64 n1017, .int .i64 n1018, .int .i64 n1019]] → laws_FnExactProcStep_M_j0 kr_2 a1008 l1008 c1008 n1010 n1011 n1012 n1013 a1015 l1015 c1015 n1017 n1018 n1019 m → laws_FnExactProcStep_j0 kr_1 p1009 p1014 p1016 p1020 g := by
  intro a1008 l1008 c1008 n1010 n1011 n1012 n1013 a1015 l1015 c1015 n1017 n1018 n1019 p1009 p1014 p1016 p1020 g m R
  rw [laws_FnExactProcStep_M_j0, laws_FnExactProcStep_j0]
  exact (p_row_L R rfl (d_call R fun v1021 g m R =>
  (d_el_ALE fun a1022 l1022 c1022 =>
  (p_new R fun p1023 g R =>
  (p_stRow R (cs' := [.slice a1022 l1022 c1022]) ⟨rfl, rfl, rfl⟩ fun g R =>
  (p_row_L R rfl (p_row_I4 R rfl rfl rfl rfl (d_dup (d_call R fun v1024 g m R =>
  (d_el_AI4E fun n1025 n1026 n1027 n1028 =>
  (p_cell R rfl (d_dup (d_call R fun v1029 g m R =>
  (d_el_TALEAI3EE fun a1030 l1030 c1030 n1031 n1032 n1033 =>
  (d_dup (p_new R fun p1034 g R =>
  (p_new R fun p1035 g R =>
  (p_stRow R (cs' := [.slice a1030 l1030 c1030]) ⟨rfl, rfl, rfl⟩ fun g R =>
  (p_stRow R (cs' := [.int .i64 n1031, .int .i64 n1032, .int .i64 n1033]) ⟨rfl, rfl, rfl⟩ fun g R =>
  (laws_FnExactProcStep_M_j1_D (by exact fun t1036 g m R =>
  (Hkr t1036 _ _ R.sub)) a1008 l1008 c1008 n1010 n1011 n1012 n1013 a1015 l1015 c1015 n1017 n1018 n1019 a1022 l1022 c1022 a1030 l1030 c1030 n1031 n1032 n1033 p1009 p1014 p1016 p1020 p1023 p1034 p1035 _ _ R.sub)))))
  (p_new R fun p1034 g R =>
  (p_new R fun p1035 g R =>
  (p_stRow R (cs' := [.slice a1030 l1030 c1030]) ⟨rfl, rfl, rfl⟩ fun g R =>
  (p_stRow R (cs' := [.int .i64 n1031, .int .i64 n1032, .int .i64 n1033]) ⟨rfl, rfl, rfl⟩ fun g R =>
  (laws_FnExactProcStep_M_j1_D (by exact fun t1036 g m R =>
  (Hkr t1036 _ _ R.sub)) a1008 l1008 c1008 n1010 n1011 n1012 n1013 a1015 l1015 c1015 n1017 n1018 n1019 a1022 l1022 c1022 a1030 l1030 c1030 n1031 n1032 n1033 p1009 p1014 p1016 p1020 p1023 p1035 p1034 _ _ R.sub))))))))
  (d_dup (p_new R fun p1029 g R =>
  (p_cell R rfl (d_dup (d_call R fun v1030 g m R =>
  (d_el_TALEAI3EE fun a1031 l1031 c1031 n1032 n1033 n1034 =>
  (p_new R fun p1035 g R =>
  (p_stRow R (cs' := [.slice a1031 l1031 c1031]) ⟨rfl, rfl, rfl⟩ fun g R =>
  (p_stRow R (cs' := [.int .i64 n1032, .int .i64 n1033, .int .i64 n1034]) ⟨rfl, rfl, rfl⟩ fun g R =>
  (laws_FnExactProcStep_M_j1_D (by exact fun t1036 g m R =>
  (Hkr t1036 _ _ R.sub)) a1008 l1008 c1008 n1010 n1011 n1012 n1013 a1015 l1015 c1015 n1017 n1018 n1019 a1022 l1022 c1022 a1031 l1031 c1031 n1032 n1033 n1034 p1009 p1014 p1016 p1020 p1023 p1029 p1035 _ _ R.sub))))))
  (p_new R fun p1030 g R =>
  (p_cell R rfl (d_call R fun v1031 g m R =>
  (d_el_TALEAI3EE fun a1032 l1032 c1032 n1033 n1034 n1035 =>
  (p_stRow R (cs' := [.slice a1032 l1032 c1032]) ⟨rfl, rfl, rfl⟩ fun g R =>
  (p_stRow R (cs' := [.int .i64 n1033, .int .i64 n1034, .int .i64 n1035]) ⟨rfl, rfl, rfl⟩ fun g R =>
  (laws_FnExactProcStep_M_j1_D (by exact fun t1036 g m R =>
  (Hkr t1036 _ _ R.sub)) a1008 l1008 c1008 n1010 n1011 n1012 n1013 a1015 l1015 c1015 n1017 n1018 n1019 a1022 l1022 c1022 a1032 l1032 c1032 n1033 n1034 n1035 p1009 p1014 p1016 p1020 p1023 p1029 p1030 _ _ R.sub))))))))))
  (p_new R fun p1029 g R =>
  (p_cell R rfl (d_dup (d_call R fun v1030 g m R =>
  (d_el_TALEAI3EE fun a1031 l1031 c1031 n1032 n1033 n1034 =>
  (p_new R fun p1035 g R =>
  (p_stRow R (cs' := [.slice a1031 l1031 c1031]) ⟨rfl, rfl, rfl⟩ fun g R =>
  (p_stRow R (cs' := [.int .i64 n1032, .int .i64 n1033, .int .i64 n1034]) ⟨rfl, rfl, rfl⟩ fun g R =>
  (laws_FnExactProcStep_M_j1_D (by exact fun t1036 g m R =>
  (Hkr t1036 _ _ R.sub)) a1008 l1008 c1008 n1010 n1011 n1012 n1013 a1015 l1015 c1015 n1017 n1018 n1019 a1022 l1022 c1022 a1031 l1031 c1031 n1032 n1033 n1034 p1009 p1014 p1016 p1020 p1023 p1035 p1029 _ _ R.sub))))))
  (p_new R fun p1030 g R =>
  (p_cell R rfl (d_call R fun v1031 g m R =>
  (d_el_TALEAI3EE fun a1032 l1032 c1032 n1033 n1034 n1035 =>
  (p_stRow R (cs' := [.slice a1032 l1032 c1032]) ⟨rfl, rfl, rfl⟩ fun g R =>
  (p_stRow R (cs' := [.int .i64 n1033, .int .i64 n1034, .int .i64 n1035]) ⟨rfl, rfl, rfl⟩ fun g R =>
  (laws_FnExactProcStep_M_j1_D (by exact fun t1036 g m R =>
  (Hkr t1036 _ _ R.sub)) a1008 l1008 c1008 n1010 n1011 n1012 n1013 a1015 l1015 c1015 n1017 n1018 n1019 a1022 l1022 c1022 a1032 l1032 c1032 n1033 n1034 n1035 p1009 p1014 p1016 p1020 p1023 p1030 p1029 _ _ R.sub)))))))))))))))
  (d_dup (p_new R fun p1024 g R =>
  (p_held R rfl (p_cell R rfl (d_dup (d_call R fun v1025 g m R =>
  (d_el_AI4E fun n1026 n1027 n1028 n1029 =>
  (p_cell R rfl (d_dup (d_call R fun v1030 g m R =>
  (d_el_TALEAI3EE fun a1031 l1031 c1031 n1032 n1033 n1034 =>
  (p_new R fun p1035 g R =>
  (p_stRow R (cs' := [.slice a1031 l1031 c1031]) ⟨rfl, rfl, rfl⟩ fun g R =>
  (p_stRow R (cs' := [.int .i64 n1032, .int .i64 n1033, .int .i64 n1034]) ⟨rfl, rfl, rfl⟩ fun g R =>
  (laws_FnExactProcStep_M_j1_D (by exact fun t1036 g m R =>
  (Hkr t1036 _ _ R.sub)) a1008 l1008 c1008 n1010 n1011 n1012 n1013 a1015 l1015 c1015 n1017 n1018 n1019 a1022 l1022 c1022 a1031 l1031 c1031 n1032 n1033 n1034 p1009 p1014 p1016 p1020 p1023 p1024 p1035 _ _ R.sub))))))
  (p_new R fun p1030 g R =>
  (p_cell R rfl (d_call R fun v1031 g m R =>
  (d_el_TALEAI3EE fun a1032 l1032 c1032 n1033 n1034 n1035 =>
  (p_stRow R (cs' := [.slice a1032 l1032 c1032]) ⟨rfl, rfl, rfl⟩ fun g R =>
  (p_stRow R (cs' := [.int .i64 n1033, .int .i64 n1034, .int .i64 n1035]) ⟨rfl, rfl, rfl⟩ fun g R =>
  (laws_FnExactProcStep_M_j1_D (by exact fun t1036 g m R =>
  (Hkr t1036 _ _ R.sub)) a1008 l1008 c1008 n1010 n1011 n1012 n1013 a1015 l1015 c1015 n1017 n1018 n1019 a1022 l1022 c1022 a1032 l1032 c1032 n1033 n1034 n1035 p1009 p1014 p1016 p1020 p1023 p1024 p1030 _ _ R.sub)))))))))))
  (p_new R fun p1025 g R =>
  (p_held R rfl (p_cell R rfl (d_call R fun v1026 g m R =>
  (d_el_AI4E fun n1027 n1028 n1029 n1030 =>
  (p_cell R rfl (d_call R fun v1031 g m R =>
  (d_el_TALEAI3EE fun a1032 l1032 c1032 n1033 n1034 n1035 =>
  (p_stRow R (cs' := [.slice a1032 l1032 c1032]) ⟨rfl, rfl, rfl⟩ fun g R =>
  (p_stRow R (cs' := [.int .i64 n1033, .int .i64 n1034, .int .i64 n1035]) ⟨rfl, rfl, rfl⟩ fun g R =>
  (laws_FnExactProcStep_M_j1_D (by exact fun t1036 g m R =>
  (Hkr t1036 _ _ R.sub)) a1008 l1008 c1008 n1010 n1011 n1012 n1013 a1015 l1015 c1015 n1017 n1018 n1019 a1022 l1022 c1022 a1032 l1032 c1032 n1033 n1034 n1035 p1009 p1014 p1016 p1020 p1023 p1024 p1025 _ _ R.sub)))))))))))))))
  (p_new R fun p1024 g R =>
  (p_held R rfl (p_cell R rfl (d_dup (d_call R fun v1025 g m R =>
  (d_el_AI4E fun n1026 n1027 n1028 n1029 =>
  (p_cell R rfl (d_dup (d_call R fun v1030 g m R =>
  (d_el_TALEAI3EE fun a1031 l1031 c1031 n1032 n1033 n1034 =>
  (p_new R fun p1035 g R =>
  (p_stRow R (cs' := [.slice a1031 l1031 c1031]) ⟨rfl, rfl, rfl⟩ fun g R =>
  (p_stRow R (cs' := [.int .i64 n1032, .int .i64 n1033, .int .i64 n1034]) ⟨rfl, rfl, rfl⟩ fun g R =>
  (laws_FnExactProcStep_M_j1_D (by exact fun t1036 g m R =>
  (Hkr t1036 _ _ R.sub)) a1008 l1008 c1008 n1010 n1011 n1012 n1013 a1015 l1015 c1015 n1017 n1018 n1019 a1022 l1022 c1022 a1031 l1031 c1031 n1032 n1033 n1034 p1009 p1014 p1016 p1020 p1023 p1035 p1024 _ _ R.sub))))))
  (p_new R fun p1030 g R =>
  (p_cell R rfl (d_call R fun v1031 g m R =>
  (d_el_TALEAI3EE fun a1032 l1032 c1032 n1033 n1034 n1035 =>
  (p_stRow R (cs' := [.slice a1032 l1032 c1032]) ⟨rfl, rfl, rfl⟩ fun g R =>
  (p_stRow R (cs' := [.int .i64 n1033, .int .i64 n1034, .int .i64 n1035]) ⟨rfl, rfl, rfl⟩ fun g R =>
  (laws_FnExactProcStep_M_j1_D (by exact fun t1036 g m R =>
  (Hkr t1036 _ _ R.sub)) a1008 l1008 c1008 n1010 n1011 n1012 n1013 a1015 l1015 c1015 n1017 n1018 n1019 a1022 l1022 c1022 a1032 l1032 c1032 n1033 n1034 n1035 p1009 p1014 p1016 p1020 p1023 p1030 p1024 _ _ R.sub)))))))))))
  (p_new R fun p1025 g R =>
  (p_held R rfl (p_cell R rfl (d_call R fun v1026 g m R =>
  (d_el_AI4E fun n1027 n1028 n1029 n1030 =>
  (p_cell R rfl (d_call R fun v1031 g m R =>
  (d_el_TALEAI3EE fun a1032 l1032 c1032 n1033 n1034 n1035 =>
  (p_stRow R (cs' := [.slice a1032 l1032 c1032]) ⟨rfl, rfl, rfl⟩ fun g R =>
  (p_stRow R (cs' := [.int .i64 n1033, .int .i64 n1034, .int .i64 n1035]) ⟨rfl, rfl, rfl⟩ fun g R =>
  (laws_FnExactProcStep_M_j1_D (by exact fun t1036 g m R =>
  (Hkr t1036 _ _ R.sub)) a1008 l1008 c1008 n1010 n1011 n1012 n1013 a1015 l1015 c1015 n1017 n1018 n1019 a1022 l1022 c1022 a1032 l1032 c1032 n1033 n1034 n1035 p1009 p1014 p1016 p1020 p1023 p1025 p1024 _ _ R.sub))))))))))))))))))))))))

theorem laws_FnExactProcStep_M_D {g0 m0 : H} {kr_1 : Bool → H → Prop} {kr_2 : Bool → H → Prop} (Hkr : ∀ (t200001 : Bool) (g m : H), Md g0 m0 g m [] → kr_2 t200001 m → kr_1 t200001 g) : ∀ (a1001 : Option Addr) (l1001 : Nat) (c1001 : Nat) (n1002 : Int) (n1003 : Int) (n1004 : Int) (n1005 : Int) (g m : H), Md g0 m0 g m [] → laws_FnExactProcStep_M kr_2 a1001 l1001 c1001 n1002 n1003 n1004 n1005 m → laws_FnExactProcStep kr_1 a1001 l1001 c1001 n1002 n1003 n1004 n1005 g := by
  intro a1001 l1001 c1001 n1002 n1003 n1004 n1005 g m R
  rw [laws_FnExactProcStep_M, laws_FnExactProcStep]
  exact (p_new R fun p1006 g R =>
  (p_new R fun p1007 g R =>
  (p_row_L R rfl (d_call R fun v1008 g m R =>
  (d_asI fun n1009 =>
  (d_if (Hkr true _ _ R.sub)
  (p_row_L R rfl (p_row_I4 R rfl rfl rfl rfl (d_dup (d_call R fun v1010 g m R =>
  (d_el_ALE fun a1011 l1011 c1011 =>
  (p_held R rfl (d_dup (d_call R fun v1012 g m R =>
  (d_el_AI4E fun n1013 n1014 n1015 n1016 =>
  (d_dup (d_call R fun v1017 g m R =>
  (d_el_TALEAI3EE fun a1018 l1018 c1018 n1019 n1020 n1021 =>
  (d_dup (p_new R fun p1022 g R =>
  (p_new R fun p1023 g R =>
  (p_stRow R (cs' := [.slice a1018 l1018 c1018]) ⟨rfl, rfl, rfl⟩ fun g R =>
  (p_stRow R (cs' := [.int .i64 n1019, .int .i64 n1020, .int .i64 n1021]) ⟨rfl, rfl, rfl⟩ fun g R =>
  (laws_FnExactProcStep_M_j0_D (by exact fun t1024 g m R =>
  (Hkr t1024 _ _ R.sub)) a1001 l1001 c1001 n1002 n1003 n1004 n1005 a1018 l1018 c1018 n1019 n1020 n1021 p1006 p1007 p1022 p1023 _ _ R.sub)))))
  (p_new R fun p1022 g R =>
  (p_new R fun p1023 g R =>
  (p_stRow R (cs' := [.slice a1018 l1018 c1018]) ⟨rfl, rfl, rfl⟩ fun g R =>
  (p_stRow R (cs' := [.int .i64 n1019, .int .i64 n1020, .int .i64 n1021]) ⟨rfl, rfl, rfl⟩ fun g R =>
  (laws_FnExactProcStep_M_j0_D (by exact fun t1024 g m R =>
  (Hkr t1024 _ _ R.sub)) a1001 l1001 c1001 n1002 n1003 n1004 n1005 a1018 l1018 c1018 n1019 n1020 n1021 p1006 p1007 p1023 p1022 _ _ R.sub))))))))
  (d_dup (p_new R fun p1017 g R =>
  (d_dup (d_call R fun v1018 g m R =>
  (d_el_TALEAI3EE fun a1019 l1019 c1019 n1020 n1021 n1022 =>
  (p_new R fun p1023 g R =>
  (p_stRow R (cs' := [.slice a1019 l1019 c1019]) ⟨rfl, rfl, rfl⟩ fun g R =>
  (p_stRow R (cs' := [.int .i64 n1020, .int .i64 n1021, .int .i64 n1022]) ⟨rfl, rfl, rfl⟩ fun g R =>
  (laws_FnExactProcStep_M_j0_D (by exact fun t1024 g m R =>
  (Hkr t1024 _ _ R.sub)) a1001 l1001 c1001 n1002 n1003 n1004 n1005 a1019 l1019 c1019 n1020 n1021 n1022 p1006 p1007 p1017 p1023 _ _ R.sub))))))
  (p_new R fun p1018 g R =>
  (d_call R fun v1019 g m R =>
  (d_el_TALEAI3EE fun a1020 l1020 c1020 n1021 n1022 n1023 =>
  (p_stRow R (cs' := [.slice a1020 l1020 c1020]) ⟨rfl, rfl, rfl⟩ fun g R =>
  (p_stRow R (cs' := [.int .i64 n1021, .int .i64 n1022, .int .i64 n1023]) ⟨rfl, rfl, rfl⟩ fun g R =>
  (laws_FnExactProcStep_M_j0_D (by exact fun t1024 g m R =>
  (Hkr t1024 _ _ R.sub)) a1001 l1001 c1001 n1002 n1003 n1004 n1005 a1020 l1020 c1020 n1021 n1022 n1023 p1006 p1007 p1017 p1018 _ _ R.sub))))))))
  (p_new R fun p1017 g R =>
  (d_dup (d_call R fun v1018 g m R =>
  (d_el_TALEAI3EE fun a1019 l1019 c1019 n1020 n1021 n1022 =>
  (p_new R fun p1023 g R =>
  (p_stRow R (cs' := [.slice a1019 l1019 c1019]) ⟨rfl, rfl, rfl⟩ fun g R =>
  (p_stRow R (cs' := [.int .i64 n1020, .int .i64 n1021, .int .i64 n1022]) ⟨rfl, rfl, rfl⟩ fun g R =>
  (laws_FnExactProcStep_M_j0_D (by exact fun t1024 g m R =>
  (Hkr t1024 _ _ R.sub)) a1001 l1001 c1001 n1002 n1003 n1004 n1005 a1019 l1019 c1019 n1020 n1021 n1022 p1006 p1007 p1023 p1017 _ _ R.sub))))))
  (p_new R fun p1018 g R =>
  (d_call R fun v1019 g m R =>
  (d_el_TALEAI3EE fun a1020 l1020 c1020 n1021 n1022 n1023 =>
  (p_stRow R (cs' := [.slice a1020 l1020 c1020]) ⟨rfl, rfl, rfl⟩ fun g R =>
  (p_stRow R (cs' := [.int .i64 n1021, .int .i64 n1022, .int .i64 n1023]) ⟨rfl, rfl, rfl⟩ fun g R =>
  (laws_FnExactProcStep_M_j0_D (by exact fun t1024 g m R =>
  (Hkr t1024 _ _ R.sub)) a1001 l1001 c1001 n1002 n1003 n1004 n1005 a1020 l1020 c1020 n1021 n1022 n1023 p1006 p1007 p1018 p1017 _ _ R.sub))))))))))))
  (d_dup (p_new R fun p1012 g R =>
  (p_held R rfl (d_dup (d_call R fun v1013 g m R =>
  (d_el_AI4E fun n1014 n1015 n1016 n1017 =>
  (d_dup (d_call R fun v1018 g m R =>
  (d_el_TALEAI3EE fun a1019 l1019 c1019 n1020 n1021 n1022 =>
  (p_new R fun p1023 g R =>
  (p_stRow R (cs' := [.slice a1019 l1019 c1019]) ⟨rfl, rfl, rfl⟩ fun g R =>
  (p_stRow R (cs' := [.int .i64 n1020, .int .i64 n1021, .int .i64 n1022]) ⟨rfl, rfl, rfl⟩ fun g R =>
  (laws_FnExactProcStep_M_j0_D (by exact fun t1024 g m R =>
  (Hkr t1024 _ _ R.sub)) a1001 l1001 c1001 n1002 n1003 n1004 n1005 a1019 l1019 c1019 n1020 n1021 n1022 p1006 p1007 p1012 p1023 _ _ R.sub))))))
  (p_new R fun p1018 g R =>
  (d_call R fun v1019 g m R =>
  (d_el_TALEAI3EE fun a1020 l1020 c1020 n1021 n1022 n1023 =>
  (p_stRow R (cs' := [.slice a1020 l1020 c1020]) ⟨rfl, rfl, rfl⟩ fun g R =>
  (p_stRow R (cs' := [.int .i64 n1021, .int .i64 n1022, .int .i64 n1023]) ⟨rfl, rfl, rfl⟩ fun g R =>
  (laws_FnExactProcStep_M_j0_D (by exact fun t1024 g m R =>
  (Hkr t1024 _ _ R.sub)) a1001 l1001 c1001 n1002 n1003 n1004 n1005 a1020 l1020 c1020 n1021 n1022 n1023 p1006 p1007 p1012 p1018 _ _ R.sub)))))))))
  (p_new R fun p1013 g R =>
  (p_held R rfl (d_call R fun v1014 g m R =>
  (d_el_AI4E fun n1015 n1016 n1017 n1018 =>
  (d_call R fun v1019 g m R =>
  (d_el_TALEAI3EE fun a1020 l1020 c1020 n1021 n1022 n1023 =>
  (p_stRow R (cs' := [.slice a1020 l1020 c1020]) ⟨rfl, rfl, rfl⟩ fun g R =>
  (p_stRow R (cs' := [.int .i64 n1021, .int .i64 n1022, .int .i64 n1023]) ⟨rfl, rfl, rfl⟩ fun g R =>
  (laws_FnExactProcStep_M_j0_D (by exact fun t1024 g m R =>
  (Hkr t1024 _ _ R.sub)) a1001 l1001 c1001 n1002 n1003 n1004 n1005 a1020 l1020 c1020 n1021 n1022 n1023 p1006 p1007 p1012 p1013 _ _ R.sub))))))))))))
  (p_new R fun p1012 g R =>
  (p_held R rfl (d_dup (d_call R fun v1013 g m R =>
  (d_el_AI4E fun n1014 n1015 n1016 n1017 =>
  (d_dup (d_call R fun v1018 g m R =>
  (d_el_TALEAI3EE fun a1019 l1019 c1019 n1020 n1021 n1022 =>
  (p_new R fun p1023 g R =>
  (p_stRow R (cs' := [.slice a1019 l1019 c1019]) ⟨rfl, rfl, rfl⟩ fun g R =>
  (p_stRow R (cs' := [.int .i64 n1020, .int .i64 n1021, .int .i64 n1022]) ⟨rfl, rfl, rfl⟩ fun g R =>
  (laws_FnExactProcStep_M_j0_D (by exact fun t1024 g m R =>
  (Hkr t1024 _ _ R.sub)) a1001 l1001 c1001 n1002 n1003 n1004 n1005 a1019 l1019 c1019 n1020 n1021 n1022 p1006 p1007 p1023 p1012 _ _ R.sub))))))
  (p_new R fun p1018 g R =>
  (d_call R fun v1019 g m R =>
  (d_el_TALEAI3EE fun a1020 l1020 c1020 n1021 n1022 n1023 =>
  (p_stRow R (cs' := [.slice a1020 l1020 c1020]) ⟨rfl, rfl, rfl⟩ fun g R =>
  (p_stRow R (cs' := [.int .i64 n1021, .int .i64 n1022, .int .i64 n1023]) ⟨rfl, rfl, rfl⟩ fun g R =>
  (laws_FnExactProcStep_M_j0_D (by exact fun t1024 g m R =>
  (Hkr t1024 _ _ R.sub)) a1001 l1001 c1001 n1002 n1003 n1004 n1005 a1020 l1020 c1020 n1021 n1022 n1023 p1006 p1007 p1018 p1012 _ _ R.sub)))))))))
  (p_new R fun p1013 g R =>
  (p_held R rfl (d_call R fun v1014 g m R =>
  (d_el_AI4E fun n1015 n1016 n1017 n1018 =>
  (d_call R fun v1019 g m R =>
  (d_el_TALEAI3EE fun a1020 l1020 c1020 n1021 n1022 n1023 =>
  (p_stRow R (cs' := [.slice a1020 l1020 c1020]) ⟨rfl, rfl, rfl⟩ fun g R =>
  (p_stRow R (cs' := [.int .i64 n1021, .int .i64 n1022, .int .i64 n1023]) ⟨rfl, rfl, rfl⟩ fun g R =>
  (laws_FnExactProcStep_M_j0_D (by exact fun t1024 g m R =>
  (Hkr t1024 _ _ R.sub)) a1001 l1001 c1001 n1002 n1003 n1004 n1005 a1020 l1020 c1020 n1021 n1022 n1023 p1006 p1007 p1013 p1012 _ _ R.sub)))))))))))))))))
  (d_dup (p_new R fun p1010 g R =>
  (p_held R rfl (p_cell R rfl (d_dup (d_call R fun v1011 g m R =>
  (d_el_ALE fun a1012 l1012 c1012 =>
  (p_held R rfl (d_dup (d_call R fun v1013 g m R =>
  (d_el_AI4E fun n1014 n1015 n1016 n1017 =>
  (d_dup (d_call R fun v1018 g m R =>
  (d_el_TALEAI3EE fun a1019 l1019 c1019 n1020 n1021 n1022 =>
  (p_new R fun p1023 g R =>
  (p_stRow R (cs' := [.slice a1019 l1019 c1019]) ⟨rfl, rfl, rfl⟩ fun g R =>
  (p_stRow R (cs' := [.int .i64 n1020, .int .i64 n1021, .int .i64 n1022]) ⟨rfl, rfl, rfl⟩ fun g R =>
  (laws_FnExactProcStep_M_j0_D (by exact fun t1024 g m R =>
  (Hkr t1024 _ _ R.sub)) a1001 l1001 c1001 n1002 n1003 n1004 n1005 a1019 l1019 c1019 n1020 n1021 n1022 p1006 p1007 p1010 p1023 _ _ R.sub))))))
  (p_new R fun p1018 g R =>
  (d_call R fun v1019 g m R =>
  (d_el_TALEAI3EE fun a1020 l1020 c1020 n1021 n1022 n1023 =>
  (p_stRow R (cs' := [.slice a1020 l1020 c1020]) ⟨rfl, rfl, rfl⟩ fun g R =>
  (p_stRow R (cs' := [.int .i64 n1021, .int .i64 n1022, .int .i64 n1023]) ⟨rfl, rfl, rfl⟩ fun g R =>
  (laws_FnExactProcStep_M_j0_D (by exact fun t1024 g m R =>
  (Hkr t1024 _ _ R.sub)) a1001 l1001 c1001 n1002 n1003 n1004 n1005 a1020 l1020 c1020 n1021 n1022 n1023 p1006 p1007 p1010 p1018 _ _ R.sub)))))))))
  (p_new R fun p1013 g R =>
  (p_held R rfl (d_call R fun v1014 g m R =>
  (d_el_AI4E fun n1015 n1016 n1017 n1018 =>
  (d_call R fun v1019 g m R =>
  (d_el_TALEAI3EE fun a1020 l1020 c1020 n1021 n1022 n1023 =>
  (p_stRow R (cs' := [.slice a1020 l1020 c1020]) ⟨rfl, rfl, rfl⟩ fun g R =>
  (p_stRow R (cs' := [.int .i64 n1021, .int .i64 n1022, .int .i64 n1023]) ⟨rfl, rfl, rfl⟩ fun g R =>
  (laws_FnExactProcStep_M_j0_D (by exact fun t1024 g m R =>
  (Hkr t1024 _ _ R.sub)) a1001 l1001 c1001 n1002 n1003 n1004 n1005 a1020 l1020 c1020 n1021 n1022 n1023 p1006 p1007 p1010 p1013 _ _ R.sub)))))))))))))
  (p_new R fun p1011 g R =>
  (p_held R rfl (p_cell R rfl (d_call R fun v1012 g m R =>
  (d_el_ALE fun a1013 l1013 c1013 =>
  (p_held R rfl (d_call R fun v1014 g m R =>
  (d_el_AI4E fun n1015 n1016 n1017 n1018 =>
  (d_call R fun v1019 g m R =>
  (d_el_TALEAI3EE fun a1020 l1020 c1020 n1021 n1022 n1023 =>
  (p_stRow R (cs' := [.slice a1020 l1020 c1020]) ⟨rfl, rfl, rfl⟩ fun g R =>
  (p_stRow R (cs' := [.int .i64 n1021, .int .i64 n1022, .int .i64 n1023]) ⟨rfl, rfl, rfl⟩ fun g R =>
  (laws_FnExactProcStep_M_j0_D (by exact fun t1024 g m R =>
  (Hkr t1024 _ _ R.sub)) a1001 l1001 c1001 n1002 n1003 n1004 n1005 a1020 l1020 c1020 n1021 n1022 n1023 p1006 p1007 p1010 p1011 _ _ R.sub)))))))))))))))))
  (p_new R fun p1010 g R =>
  (p_held R rfl (p_cell R rfl (d_dup (d_call R fun v1011 g m R =>
  (d_el_ALE fun a1012 l1012 c1012 =>
  (p_held R rfl (d_dup (d_call R fun v1013 g m R =>
  (d_el_AI4E fun n1014 n1015 n1016 n1017 =>
  (d_dup (d_call R fun v1018 g m R =>
  (d_el_TALEAI3EE fun a1019 l1019 c1019 n1020 n1021 n1022 =>
  (p_new R fun p1023 g R =>
  (p_stRow R (cs' := [.slice a1019 l1019 c1019]) ⟨rfl, rfl, rfl⟩ fun g R =>
  (p_stRow R (cs' := [.int .i64 n1020, .int .i64 n1021, .int .i64 n1022]) ⟨rfl, rfl, rfl⟩ fun g R =>
  (laws_FnExactProcStep_M_j0_D (by exact fun t1024 g m R =>
  (Hkr t1024 _ _ R.sub)) a1001 l1001 c1001 n1002 n1003 n1004 n1005 a1019 l1019 c1019 n1020 n1021 n1022 p1006 p1007 p1023 p1010 _ _ R.sub))))))
  (p_new R fun p1018 g R =>
  (d_call R fun v1019 g m R =>
  (d_el_TALEAI3EE fun a1020 l1020 c1020 n1021 n1022 n1023 =>
  (p_stRow R (cs' := [.slice a1020 l1020 c1020]) ⟨rfl, rfl, rfl⟩ fun g R =>
  (p_stRow R (cs' := [.int .i64 n1021, .int .i64 n1022, .int .i64 n1023]) ⟨rfl, rfl, rfl⟩ fun g R =>
  (laws_FnExactProcStep_M_j0_D (by exact fun t1024 g m R =>
  (Hkr t1024 _ _ R.sub)) a1001 l1001 c1001 n1002 n1003 n1004 n1005 a1020 l1020 c1020 n1021 n1022 n1023 p1006 p1007 p1018 p1010 _ _ R.sub)))))))))
  (p_new R fun p1013 g R =>
  (p_held R rfl (d_call R fun v1014 g m R =>
  (d_el_AI4E fun n1015 n1016 n1017 n1018 =>
  (d_call R fun v1019 g m R =>
  (d_el_TALEAI3EE fun a1020 l1020 c1020 n1021 n1022 n1023 =>
  (p_stRow R (cs' := [.slice a1020 l1020 c1020]) ⟨rfl, rfl, rfl⟩ fun g R =>
  (p_stRow R (cs' := [.int .i64 n1021, .int .i64 n1022, .int .i64 n1023]) ⟨rfl, rfl, rfl⟩ fun g R =>
  (laws_FnExactProcStep_M_j0_D (by exact fun t1024 g m R =>
  (Hkr t1024 _ _ R.sub)) a1001 l1001 c1001 n1002 n1003 n1004 n1005 a1020 l1020 c1020 n1021 n1022 n1023 p1006 p1007 p1013 p1010 _ _ R.sub)))))))))))))
  (p_new R fun p1011 g R =>
  (p_held R rfl (p_cell R rfl (d_call R fun v1012 g m R =>
  (d_el_ALE fun a1013 l1013 c1013 =>
  (p_held R rfl (d_call R fun v1014 g m R =>
  (d_el_AI4E fun n1015 n1016 n1017 n1018 =>
  (d_call R fun v1019 g m R =>
  (d_el_TALEAI3EE fun a1020 l1020 c1020 n1021 n1022 n1023 =>
  (p_stRow R (cs' := [.slice a1020 l1020 c1020]) ⟨rfl, rfl, rfl⟩ fun g R =>
  (p_stRow R (cs' := [.int .i64 n1021, .int .i64 n1022, .int .i64 n1023]) ⟨rfl, rfl, rfl⟩ fun g R =>
  (laws_FnExactProcStep_M_j0_D (by exact fun t1024 g m R =>
  (Hkr t1024 _ _ R.sub)) a1001 l1001 c1001 n1002 n1003 n1004 n1005 a1020 l1020 c1020 n1021 n1022 n1023 p1006 p1007 p1011 p1010 _ _ R.sub)))))))))))))))))))))))))))

theorem laws_FnExactProcStep_M_call {a1 : Option Addr} {l1 : Nat} {c1 : Nat} {n2 : Int} {n3 : Int} {n4 : Int} {n5 : Int} {h : H} {K : Value → H → Prop} (hs : laws_FnExactProcStep_M (fun t300001 h =>
  K (.bool t300001) h) a1 l1 c1 n2 n3 n4 n5 h) : callD Try.prog 4 ⟨[.agg ⟨[.slice a1 l1 c1]⟩, .agg ⟨[.int .i64 n2, .int .i64 n3, .int .i64 n4, .int .i64 n5]⟩]⟩ h K :=
  fun g r => laws_FnExactProcStep_call (laws_FnExactProcStep_M_D (by exact fun t300001 g m R =>
(fun h => ⟨m, R.af, h⟩)) _ _ _ _ _ _ _ _ _ (Md.start r) hs)

noncomputable def code6 : Code := codeOf Try.f6
theorem body6 : Try.f6.body = some code6 := by kernel_rfl
def impl_ProcsOk_j2 (kn : Nat → Int → Option Addr → Nat → Nat → Int → Int → H → Prop) (kx1 : Nat → Int → Option Addr → Nat → Nat → Int → Int → H → Prop) (kr : Bool → H → Prop) (b37 : Nat) (n38 : Int) (n39 : Int) (b40 : Nat) (a41 : Option Addr) (l41 : Nat) (c41 : Nat) (n42 : Int) (n43 : Int) (h : H) : Prop :=
  ifB ((n39 : Int) == 0)
  (ldI .i64 h b40 0 fun n44 =>
  ifB ((n44 : Int) != 1)
  (kr false h)
  (ldI .i64 h b40 4 fun n45 =>
  ifB ((n45 : Int) == 3)
  (kr false h)
  (ldI .i64 h b40 1 fun n46 =>
  ifB ((n46 : Int) != 0)
  (kr false h)
  (kx1 b37 n38 a41 l41 c41 n42 n43 h))))
  (ldI .i64 h b40 1 fun n47 =>
  callK Try.prog 19 ⟨[.pointer (some ⟨b37, 0, none⟩), .int .i64 n47]⟩ h fun v48 h =>
  asP v48 fun p49 =>
  ifB p49.isNone
  (kr false h)
  (nz p49 fun b50 o51 =>
  ldI .i64 h b50 o51 fun n52 =>
  ldI .i64 h b40 0 fun n53 =>
  ifB ((n52 : Int) == n53)
  (kr false h)
  (nz p49 fun b54 o55 =>
  ldI .i64 h b54 (o55 + 4) fun n56 =>
  ifB ((n56 : Int) == 3)
  (kr false h)
  (kn b37 n38 a41 l41 c41 n42 n43 h))))

def impl_ProcsOk_j1 (kn : Nat → Int → Option Addr → Nat → Nat → Int → Int → H → Prop) (kx1 : Nat → Int → Option Addr → Nat → Nat → Int → Int → H → Prop) (kr : Bool → H → Prop) (b24 : Nat) (n25 : Int) (b26 : Nat) (a27 : Option Addr) (l27 : Nat) (c27 : Nat) (n28 : Int) (n29 : Int) (h : H) : Prop :=
  ldI .i64 h b26 0 fun n30 =>
  ldI .i64 h b26 6 fun n31 =>
  ifB ((bAndNot .i64 n31 65534 : Int) != 0)
  (kr false h)
  (ldI .i64 h b26 7 fun n32 =>
  ldI .i64 h b26 8 fun n33 =>
  ldI .i64 h b26 9 fun n34 =>
  ifB ((bAndNot .i64 (bOr .i64 (bOr .i64 n32 n33) n34) 60926 : Int) != 0)
  (kr false h)
  (ldI .i64 h b26 8 fun n35 =>
  ldI .i64 h b26 9 fun n36 =>
  ifB ((bAnd .i64 n35 n36 : Int) != 0)
  (kr false h)
  (ldI .i64 h b26 4 fun n37 =>
  ifB ((n37 : Int) == 3)
  (ldI .i64 h b26 6 fun n38 =>
  ldI .i64 h b26 7 fun n39 =>
  ldI .i64 h b26 8 fun n40 =>
  ldI .i64 h b26 9 fun n41 =>
  ifB ((bOr .i64 (bOr .i64 (bOr .i64 n38 n39) n40) n41 : Int) != 0)
  (kr false h)
  (impl_ProcsOk_j2 kn kx1 kr b24 n30 n25 b26 a27 l27 c27 n28 n29 h))
  (impl_ProcsOk_j2 kn kx1 kr b24 n30 n25 b26 a27 l27 c27 n28 n29 h))))

def impl_ProcsOk_l0 (kx0 : Nat → H → Prop) (kr : Bool → H → Prop) : Nat → Nat → Int → Option Addr → Nat → Nat → Int → Int → H → Prop
 | 0, _, _, _, _, _, _, _, _ => False
 | N + 1, b6, n7, a8, l8, c8, n9, n10, h =>
  ifB (decide ((n10 : Int) < n9))
  (req (0 ≤ (n10 : Int) ∧ (n10 : Int) < (l8 : Nat))
  (nz a8 fun b11 o12 =>
  ldRow h b11 (o12 + n10.toNat * 10) 0 [.int .i64, .int .i64, .int .i64, .int .i64, .int .i64, .int .i64, .int .i64, .int .i64, .int .i64, .int .i64] fun n13 n14 n15 n16 n17 n18 n19 n20 n21 n22 =>
  new h [.int .i64 0, .int .i64 0, .int .i64 0, .int .i64 0, .int .i64 0, .int .i64 0, .int .i64 0, .int .i64 0, .int .i64 0, .int .i64 0] 38 fun b23 h =>
  stRow h b23 0 0 [.int .i64 n13, .int .i64 n14, .int .i64 n15, .int .i64 n16, .int .i64 n17, .int .i64 n18, .int .i64 n19, .int .i64 n20, .int .i64 n21, .int .i64 n22] fun h =>
  ldI .i64 h b23 0 fun n24 =>
  ifB (decide ((n24 : Int) ≤ n7))
  (kr false h)
  (ldI .i64 h b23 0 fun n25 =>
  ifB (decide ((n25 : Int) > 32))
  (kr false h)
  (ldI .i64 h b23 2 fun n26 =>
  ifB (decide ((n26 : Int) < 1))
  (kr false h)
  (ldI .i64 h b23 2 fun n27 =>
  ifB (decide ((n27 : Int) > 32))
  (kr false h)
  (ldI .i64 h b23 3 fun n28 =>
  ifB (decide ((n28 : Int) < 0))
  (kr false h)
  (ldI .i64 h b23 3 fun n29 =>
  ifB (decide ((n29 : Int) > 255))
  (kr false h)
  (ldI .i64 h b23 4 fun n30 =>
  ifB (decide ((n30 : Int) < 1))
  (kr false h)
  (ldI .i64 h b23 4 fun n31 =>
  ifB (decide ((n31 : Int) > 3))
  (kr false h)
  (ldI .i64 h b23 5 fun n32 =>
  ifB (decide ((n32 : Int) < 0))
  (kr false h)
  (ldI .i64 h b23 5 fun n33 =>
  ifB (decide ((n33 : Int) > 255))
  (kr false h)
  (ldI .i64 h b23 4 fun n34 =>
  ifB ((n34 : Int) != 3)
  (ldI .i64 h b23 5 fun n35 =>
  ifB ((n35 : Int) != 0)
  (kr false h)
  (impl_ProcsOk_j1 (fun b36 n37 a38 l38 c38 n39 n40 h =>
  impl_ProcsOk_l0 kx0 kr N b36 n37 a38 l38 c38 n39 (IntKind.i64.wrap (n40 + 1)) h) (fun b41 n42 a43 l43 c43 n44 n45 h =>
  impl_ProcsOk_l0 kx0 kr N b41 n42 a43 l43 c43 n44 (IntKind.i64.wrap (n45 + 1)) h) kr b6 n10 b23 a8 l8 c8 n9 n10 h))
  (impl_ProcsOk_j1 (fun b46 n47 a48 l48 c48 n49 n50 h =>
  impl_ProcsOk_l0 kx0 kr N b46 n47 a48 l48 c48 n49 (IntKind.i64.wrap (n50 + 1)) h) (fun b51 n52 a53 l53 c53 n54 n55 h =>
  impl_ProcsOk_l0 kx0 kr N b51 n52 a53 l53 c53 n54 (IntKind.i64.wrap (n55 + 1)) h) kr b6 n10 b23 a8 l8 c8 n9 n10 h)))))))))))))
  (kx0 b6 h)

def impl_ProcsOk_l4 (kx4 : Nat → Option Addr → Nat → Nat → Int → Int → H → Prop) (kr : Bool → H → Prop) : Nat → Nat → Option Addr → Int → Option Addr → Nat → Nat → Int → Int → H → Prop
 | 0, _, _, _, _, _, _, _, _, _ => False
 | N + 1, b75, p76, n77, a78, l78, c78, n79, n80, h =>
  nz p76 fun b81 o82 =>
  ldI .i64 h b81 o82 fun n83 =>
  ifB ((n83 : Int) != 1)
  (nz p76 fun b84 o85 =>
  ldI .i64 h b84 (o85 + 1) fun n86 =>
  callK Try.prog 19 ⟨[.pointer (some ⟨b75, 0, none⟩), .int .i64 n86]⟩ h fun v87 h =>
  asP v87 fun p88 =>
  ifB p88.isNone
  (kr false h)
  (ifB (decide ((n77 : Int) > 32))
  (kr false h)
  (impl_ProcsOk_l4 kx4 kr N b75 p88 (IntKind.i64.wrap (n77 + 1)) a78 l78 c78 n79 n80 h)))
  (kx4 b75 a78 l78 c78 n79 n80 h)

def impl_ProcsOk_l3 (kx2 : H → Prop) (kr : Bool → H → Prop) : Nat → Nat → Option Addr → Nat → Nat → Int → Int → H → Prop
 | 0, _, _, _, _, _, _, _ => False
 | N + 1, b58, a59, l59, c59, n60, n61, h =>
  ifB (decide ((n61 : Int) < n60))
  (req (0 ≤ (n61 : Int) ∧ (n61 : Int) < (l59 : Nat))
  (nz a59 fun b62 o63 =>
  ldRow h b62 (o63 + n61.toNat * 10) 0 [.int .i64, .int .i64, .int .i64, .int .i64, .int .i64, .int .i64, .int .i64, .int .i64, .int .i64, .int .i64] fun n64 n65 n66 n67 n68 n69 n70 n71 n72 n73 =>
  new h [.int .i64 0, .int .i64 0, .int .i64 0, .int .i64 0, .int .i64 0, .int .i64 0, .int .i64 0, .int .i64 0, .int .i64 0, .int .i64 0] 38 fun b74 h =>
  stRow h b74 0 0 [.int .i64 n64, .int .i64 n65, .int .i64 n66, .int .i64 n67, .int .i64 n68, .int .i64 n69, .int .i64 n70, .int .i64 n71, .int .i64 n72, .int .i64 n73] fun h =>
  ∃ M79, impl_ProcsOk_l4 (fun b75 a76 l76 c76 n77 n78 h =>
  impl_ProcsOk_l3 kx2 kr N b75 a76 l76 c76 n77 (IntKind.i64.wrap (n78 + 1)) h) kr M79 b58 (some ⟨b74, 0, none⟩) 0 a59 l59 c59 n60 n61 h))
  (kx2 h)

def impl_ProcsOk (kr : Bool → H → Prop) (a1 : Option Addr) (l1 : Nat) (c1 : Nat) (h : H) : Prop :=
  new h [.slice a1 l1 c1] 27 fun b2 h =>
  ldL h b2 0 fun a3 l3 c3 =>
  ifB (decide (((l3 : Nat) : Int) < 1))
  (kr false h)
  (ldL h b2 0 fun a4 l4 c4 =>
  ifB (decide (((l4 : Nat) : Int) > 32))
  (kr false h)
  (ldL h b2 0 fun a5 l5 c5 =>
  ∃ M9, impl_ProcsOk_l0 (fun b6 h =>
  ldL h b6 0 fun a7 l7 c7 =>
  ∃ M8, impl_ProcsOk_l3 (fun h =>
  kr true h) kr M8 b6 a7 l7 c7 (l7 : Nat) 0 h) kr M9 b2 0 a5 l5 c5 (l5 : Nat) 0 h))

theorem impl_ProcsOk_j2_eq (K : Cont) (b37 : Nat) (n38 : Int) (n39 : Int) (b40 : Nat) (a41 : Option Addr) (l41 : Nat) (c41 : Nat) (n42 : Int) (n43 : Int) (h : H) :
  impl_ProcsOk_j2 (curV [(1, .blk), (3, .int .i64), (22, .slice), (23, .int .i64), (24, .int .i64)] (K .normal)) (curV [(1, .blk), (3, .int .i64), (22, .slice), (23, .int .i64), (24, .int .i64)] (K (.exit 1))) (curV [(2, .bool)] (K .ret)) b37 n38 n39 b40 a41 l41 c41 n42 n43 h = evC Try.prog 194 [] [] (sub code6 [true, true, true, false, true, false, false, true, true, false, false, true, true, true, true, true]) [(1, .pointer (some ⟨b37, 0, none⟩)), (3, .int .i64 n38), (4, .int .i64 n39), (5, .pointer (some ⟨b40, 0, none⟩)), (22, .slice a41 l41 c41), (23, .int .i64 n42), (24, .int .i64 n43)] h (outsOf (some [(1, .blk), (3, .int .i64), (22, .slice), (23, .int .i64), (24, .int .i64)]) [(1, [(1, .blk), (3, .int .i64), (22, .slice), (23, .int .i64), (24, .int .i64)])] (some [(2, .bool)]) K).K := by kernel_rfl

def impl_ProcsOk_j2_F : PT := mkF [(1, .blk), (3, .int .i64), (4, .int .i64), (5, .blk), (22, .slice), (23, .int .i64), (24, .int .i64)] fun K => impl_ProcsOk_j2 (curV [(1, .blk), (3, .int .i64), (22, .slice), (23, .int .i64), (24, .int .i64)] (K .normal)) (curV [(1, .blk), (3, .int .i64), (22, .slice), (23, .int .i64), (24, .int .i64)] (K (.exit 1))) (curV [(2, .bool)] (K .ret))

theorem impl_ProcsOk_j2_V : Valid Try.prog 194 (sub code6 [true, true, true, false, true, false, false, true, true, false, false, true, true, true, true, true]) impl_ProcsOk_j2_F :=
  piece mixed rows_nil (fun K => by intro b37 n38 n39 b40 a41 l41 c41 n42 n43 h hd; exact (impl_ProcsOk_j2_eq K b37 n38 n39 b40 a41 l41 c41 n42 n43 h) ▸ hd)

theorem impl_ProcsOk_j1_eq (K : Cont) (b24 : Nat) (n25 : Int) (b26 : Nat) (a27 : Option Addr) (l27 : Nat) (c27 : Nat) (n28 : Int) (n29 : Int) (h : H) :
  impl_ProcsOk_j1 (curV [(1, .blk), (3, .int .i64), (22, .slice), (23, .int .i64), (24, .int .i64)] (K .normal)) (curV [(1, .blk), (3, .int .i64), (22, .slice), (23, .int .i64), (24, .int .i64)] (K (.exit 1))) (curV [(2, .bool)] (K .ret)) b24 n25 b26 a27 l27 c27 n28 n29 h = evC Try.prog 194 [([true, true, true], impl_ProcsOk_j2_F)] [] (sub code6 [true, true, true, false, true, false, false, true, true, false, false, true, true]) [(1, .pointer (some ⟨b24, 0, none⟩)), (4, .int .i64 n25), (5, .pointer (some ⟨b26, 0, none⟩)), (22, .slice a27 l27 c27), (23, .int .i64 n28), (24, .int .i64 n29)] h (outsOf (some [(1, .blk), (3, .int .i64), (22, .slice), (23, .int .i64), (24, .int .i64)]) [(1, [(1, .blk), (3, .int .i64), (22, .slice), (23, .int .i64), (24, .int .i64)])] (some [(2, .bool)]) K).K := by kernel_rfl

def impl_ProcsOk_j1_F : PT := mkF [(1, .blk), (4, .int .i64), (5, .blk), (22, .slice), (23, .int .i64), (24, .int .i64)] fun K => impl_ProcsOk_j1 (curV [(1, .blk), (3, .int .i64), (22, .slice), (23, .int .i64), (24, .int .i64)] (K .normal)) (curV [(1, .blk), (3, .int .i64), (22, .slice), (23, .int .i64), (24, .int .i64)] (K (.exit 1))) (curV [(2, .bool)] (K .ret))

theorem impl_ProcsOk_j1_V : Valid Try.prog 194 (sub code6 [true, true, true, false, true, false, false, true, true, false, false, true, true]) impl_ProcsOk_j1_F :=
  piece mixed (rows_cons (q' := [true, true, true]) (valid_at (p := [true, true, true, false, true, false, false, true, true, false, false, true, true]) impl_ProcsOk_j2_V rfl) rfl rows_nil) (fun K => by intro b24 n25 b26 a27 l27 c27 n28 n29 h hd; exact (impl_ProcsOk_j1_eq K b24 n25 b26 a27 l27 c27 n28 n29 h) ▸ hd)

theorem impl_ProcsOk_l0_eq (K : Cont) (N : Nat) (b6 : Nat) (n7 : Int) (a8 : Option Addr) (l8 : Nat) (c8 : Nat) (n9 : Int) (n10 : Int) (h : H) :
  impl_ProcsOk_l0 (curV [(1, .blk)] (K (.exit 0))) (curV [(2, .bool)] (K .ret)) (N + 1) b6 n7 a8 l8 c8 n9 n10 h = evC Try.prog 194 [([true, true, false, false, true, true], impl_ProcsOk_j1_F)] [] (sub code6 [true, true, true, false, true, false, false]) [(1, .pointer (some ⟨b6, 0, none⟩)), (3, .int .i64 n7), (22, .slice a8 l8 c8), (23, .int .i64 n9), (24, .int .i64 n10)] h ((outsOf none [(0, [(1, .blk)])] (some [(2, .bool)]) K).loop [(1, .blk), (3, .int .i64), (22, .slice), (23, .int .i64), (24, .int .i64)] (impl_ProcsOk_l0 (curV [(1, .blk)] (K (.exit 0))) (curV [(2, .bool)] (K .ret)) N)).K := by kernel_rfl

def impl_ProcsOk_l0_F : PT := mkL [(1, .blk), (3, .int .i64), (22, .slice), (23, .int .i64), (24, .int .i64)] fun K N => impl_ProcsOk_l0 (curV [(1, .blk)] (K (.exit 0))) (curV [(2, .bool)] (K .ret)) N

theorem impl_ProcsOk_l0_V : Valid Try.prog 194 (sub code6 [true, true, true, false, true, false]) impl_ProcsOk_l0_F :=
  loop_at (code6) [true, true, true, false, true, false] (loop_piece (c := (sub code6 [true, true, true, false, true, false, false])) mixed (rows_cons (q' := [true, true, false, false, true, true]) (valid_at (p := [true, true, true, false, true, false, false]) impl_ProcsOk_j1_V rfl) rfl rows_nil) (fun K => by intro b6 n7 a8 l8 c8 n9 n10 h hd; exact hd) (fun K N => by intro b6 n7 a8 l8 c8 n9 n10 h hd; exact (impl_ProcsOk_l0_eq K N b6 n7 a8 l8 c8 n9 n10 h) ▸ hd))

theorem impl_ProcsOk_l4_eq (K : Cont) (N : Nat) (b75 : Nat) (p76 : Option Addr) (n77 : Int) (a78 : Option Addr) (l78 : Nat) (c78 : Nat) (n79 : Int) (n80 : Int) (h : H) :
  impl_ProcsOk_l4 (curV [(1, .blk), (169, .slice), (170, .int .i64), (171, .int .i64)] (K (.exit 4))) (curV [(2, .bool)] (K .ret)) (N + 1) b75 p76 n77 a78 l78 c78 n79 n80 h = evC Try.prog 194 [] [] (sub code6 [true, true, true, true, false, true, false, false, true, true, false, false, true, true, true, false, false]) [(1, .pointer (some ⟨b75, 0, none⟩)), (9, .pointer p76), (10, .int .i64 n77), (169, .slice a78 l78 c78), (170, .int .i64 n79), (171, .int .i64 n80)] h ((outsOf none [(4, [(1, .blk), (169, .slice), (170, .int .i64), (171, .int .i64)])] (some [(2, .bool)]) K).loop [(1, .blk), (9, .ptr), (10, .int .i64), (169, .slice), (170, .int .i64), (171, .int .i64)] (impl_ProcsOk_l4 (curV [(1, .blk), (169, .slice), (170, .int .i64), (171, .int .i64)] (K (.exit 4))) (curV [(2, .bool)] (K .ret)) N)).K := by kernel_rfl

def impl_ProcsOk_l4_F : PT := mkL [(1, .blk), (9, .ptr), (10, .int .i64), (169, .slice), (170, .int .i64), (171, .int .i64)] fun K N => impl_ProcsOk_l4 (curV [(1, .blk), (169, .slice), (170, .int .i64), (171, .int .i64)] (K (.exit 4))) (curV [(2, .bool)] (K .ret)) N

theorem impl_ProcsOk_l4_V : Valid Try.prog 194 (sub code6 [true, true, true, true, false, true, false, false, true, true, false, false, true, true, true, false]) impl_ProcsOk_l4_F :=
  loop_at (code6) [true, true, true, true, false, true, false, false, true, true, false, false, true, true, true, false] (loop_piece (c := (sub code6 [true, true, true, true, false, true, false, false, true, true, false, false, true, true, true, false, false])) mixed rows_nil (fun K => by intro b75 p76 n77 a78 l78 c78 n79 n80 h hd; exact hd) (fun K N => by intro b75 p76 n77 a78 l78 c78 n79 n80 h hd; exact (impl_ProcsOk_l4_eq K N b75 p76 n77 a78 l78 c78 n79 n80 h) ▸ hd))

theorem impl_ProcsOk_l3_eq (K : Cont) (N : Nat) (b58 : Nat) (a59 : Option Addr) (l59 : Nat) (c59 : Nat) (n60 : Int) (n61 : Int) (h : H) :
  impl_ProcsOk_l3 (curV [] (K (.exit 2))) (curV [(2, .bool)] (K .ret)) (N + 1) b58 a59 l59 c59 n60 n61 h = evC Try.prog 194 [([false, false, true, true, true, false, false, true, true], impl_ProcsOk_l4_F)] [] (sub code6 [true, true, true, true, false, true, false, false]) [(1, .pointer (some ⟨b58, 0, none⟩)), (169, .slice a59 l59 c59), (170, .int .i64 n60), (171, .int .i64 n61)] h ((outsOf none [(2, [])] (some [(2, .bool)]) K).loop [(1, .blk), (169, .slice), (170, .int .i64), (171, .int .i64)] (impl_ProcsOk_l3 (curV [] (K (.exit 2))) (curV [(2, .bool)] (K .ret)) N)).K := by kernel_rfl

def impl_ProcsOk_l3_F : PT := mkL [(1, .blk), (169, .slice), (170, .int .i64), (171, .int .i64)] fun K N => impl_ProcsOk_l3 (curV [] (K (.exit 2))) (curV [(2, .bool)] (K .ret)) N

theorem impl_ProcsOk_l3_V : Valid Try.prog 194 (sub code6 [true, true, true, true, false, true, false]) impl_ProcsOk_l3_F :=
  loop_at (code6) [true, true, true, true, false, true, false] (loop_piece (c := (sub code6 [true, true, true, true, false, true, false, false])) mixed (rows_cons (q' := [true, true, false, false, true, true, true, false]) (valid_at (p := [true, true, true, true, false, true, false, false]) impl_ProcsOk_l4_V rfl) rfl rows_nil) (fun K => by intro b58 a59 l59 c59 n60 n61 h hd; exact hd) (fun K N => by intro b58 a59 l59 c59 n60 n61 h hd; exact (impl_ProcsOk_l3_eq K N b58 a59 l59 c59 n60 n61 h) ▸ hd))

theorem impl_ProcsOk_eq (K : Cont) (a1 : Option Addr) (l1 : Nat) (c1 : Nat) (h : H) :
  impl_ProcsOk (curV [(2, .bool)] (K .ret)) a1 l1 c1 h = evC Try.prog 194 [([false, false, true, false, true, true, true], impl_ProcsOk_l0_F), ([false, false, true, false, true, true, true, true], impl_ProcsOk_l3_F)] [] code6 [(0, .agg ⟨[.slice a1 l1 c1]⟩)] h (outsOf none [] (some [(2, .bool)]) K).K := by kernel_rfl

def impl_ProcsOk_F : PT := mkF [(0, .agg [.slice])] fun K => impl_ProcsOk (curV [(2, .bool)] (K .ret))

theorem impl_ProcsOk_V : Valid Try.prog 194 code6 impl_ProcsOk_F :=
  piece mixed (rows_cons (q' := [true, true, true, false, true, false]) impl_ProcsOk_l0_V rfl (rows_cons (q' := [true, true, true, true, false, true, false]) impl_ProcsOk_l3_V rfl rows_nil)) (fun K => by intro a1 l1 c1 h hd; exact (impl_ProcsOk_eq K a1 l1 c1 h) ▸ hd)

theorem impl_ProcsOk_c0 (a1 : Option Addr) (l1 : Nat) (c1 : Nat) (h : H) (K : Value → H → Prop) :
  impl_ProcsOk (fun t100001 h =>
  K (.bool t100001) h) a1 l1 c1 h = callF Try.prog Try.f6.results.toList impl_ProcsOk_F [.agg ⟨[.slice a1 l1 c1]⟩] h K := by kernel_rfl

theorem impl_ProcsOk_call {a1 : Option Addr} {l1 : Nat} {c1 : Nat} {h : H} {K : Value → H → Prop} (hs : impl_ProcsOk (fun t100001 h =>
  K (.bool t100001) h) a1 l1 c1 h) : callK Try.prog 6 ⟨[.agg ⟨[.slice a1 l1 c1]⟩]⟩ h K :=
  func_calls Try.func6 body6 impl_ProcsOk_V (Nat.le_of_ble_eq_true (by kernel_rfl)) (impl_ProcsOk_c0 a1 l1 c1 h K ▸ hs)

theorem row_I10 (h : H) (b o : Nat) (K : Int → Int → Int → Int → Int → Int → Int → Int → Int → Int → Prop) : ldRow h b o 0 [.int .i64, .int .i64, .int .i64, .int .i64, .int .i64, .int .i64, .int .i64, .int .i64, .int .i64, .int .i64] K = ldI .i64 h b (o + 0) fun n0 => ldI .i64 h b (o + 1) fun n1 => ldI .i64 h b (o + 2) fun n2 => ldI .i64 h b (o + 3) fun n3 => ldI .i64 h b (o + 4) fun n4 => ldI .i64 h b (o + 5) fun n5 => ldI .i64 h b (o + 6) fun n6 => ldI .i64 h b (o + 7) fun n7 => ldI .i64 h b (o + 8) fun n8 => ldI .i64 h b (o + 9) fun n9 => K n0 n1 n2 n3 n4 n5 n6 n7 n8 n9 := by kernel_rfl
theorem d_row_I10 {g0 m0 g m : H} {L : List As} {b o : Nat} {K2 K1 : Int → Int → Int → Int → Int → Int → Int → Int → Int → Int → Prop} (R : Md g0 m0 g m L) (f : ∀ n0 n1 n2 n3 n4 n5 n6 n7 n8 n9, K2 n0 n1 n2 n3 n4 n5 n6 n7 n8 n9 → K1 n0 n1 n2 n3 n4 n5 n6 n7 n8 n9) : ldRow m b o 0 [.int .i64, .int .i64, .int .i64, .int .i64, .int .i64, .int .i64, .int .i64, .int .i64, .int .i64, .int .i64] K2 → ldRow g b o 0 [.int .i64, .int .i64, .int .i64, .int .i64, .int .i64, .int .i64, .int .i64, .int .i64, .int .i64, .int .i64] K1 := by
  rw [row_I10, row_I10]; exact d_ldI R fun n0 => d_ldI R fun n1 => d_ldI R fun n2 => d_ldI R fun n3 => d_ldI R fun n4 => d_ldI R fun n5 => d_ldI R fun n6 => d_ldI R fun n7 => d_ldI R fun n8 => d_ldI R fun n9 => f n0 n1 n2 n3 n4 n5 n6 n7 n8 n9
theorem p_row_I10 {g0 m0 g m : H} {L : List As} {b o : Nat} {cs : List Value} {G : Prop} [LoIn L b cs] {K1 : Int → Int → Int → Int → Int → Int → Int → Int → Int → Int → Prop} {n0 : Int} {n1 : Int} {n2 : Int} {n3 : Int} {n4 : Int} {n5 : Int} {n6 : Int} {n7 : Int} {n8 : Int} {n9 : Int} (R : Md g0 m0 g m L) (e0 : cs[o + 0]? = some (.int .i64 n0)) (e1 : cs[o + 1]? = some (.int .i64 n1)) (e2 : cs[o + 2]? = some (.int .i64 n2)) (e3 : cs[o + 3]? = some (.int .i64 n3)) (e4 : cs[o + 4]? = some (.int .i64 n4)) (e5 : cs[o + 5]? = some (.int .i64 n5)) (e6 : cs[o + 6]? = some (.int .i64 n6)) (e7 : cs[o + 7]? = some (.int .i64 n7)) (e8 : cs[o + 8]? = some (.int .i64 n8)) (e9 : cs[o + 9]? = some (.int .i64 n9)) (f : G → K1 n0 n1 n2 n3 n4 n5 n6 n7 n8 n9) : G → ldRow g b o 0 [.int .i64, .int .i64, .int .i64, .int .i64, .int .i64, .int .i64, .int .i64, .int .i64, .int .i64, .int .i64] K1 := by
  rw [row_I10]; exact p_ldI R e0 (p_ldI R e1 (p_ldI R e2 (p_ldI R e3 (p_ldI R e4 (p_ldI R e5 (p_ldI R e6 (p_ldI R e7 (p_ldI R e8 (p_ldI R e9 (f))))))))))
def impl_ProcsOk_M_j2 (kn : Nat → Int → Option Addr → Nat → Int → Int → H → Prop) (kx1 : Nat → Int → Option Addr → Nat → Int → Int → H → Prop) (kr : Bool → H → Prop) (b39 : Nat) (n40 : Int) (n41 : Int) (a42 : Option Addr) (l42 : Nat) (n43 : Int) (n44 : Int) (n45 : Int) (n46 : Int) (n49 : Int) (h : H) : Prop :=
  ifB ((n41 : Int) == 0)
  (ifB ((n45 : Int) != 1)
  (kr false h)
  (ifB ((n49 : Int) == 3)
  (kr false h)
  (ifB ((n46 : Int) != 0)
  (kr false h)
  (kx1 b39 n40 a42 l42 n43 n44 h))))
  (callD Try.prog 19 ⟨[.pointer (some ⟨b39, 0, none⟩), .int .i64 n46]⟩ h fun v56 h =>
  asP v56 fun p57 =>
  ifB p57.isNone
  (kr false h)
  (nz p57 fun b58 o59 =>
  ldI .i64 h b58 o59 fun n60 =>
  ifB ((n60 : Int) == n45)
  (kr false h)
  (nz p57 fun b61 o62 =>
  ldI .i64 h b61 (o62 + 4) fun n63 =>
  ifB ((n63 : Int) == 3)
  (kr false h)
  (kn b39 n40 a42 l42 n43 n44 h))))

def impl_ProcsOk_M_j1 (kn : Nat → Int → Option Addr → Nat → Int → Int → H → Prop) (kx1 : Nat → Int → Option Addr → Nat → Int → Int → H → Prop) (kr : Bool → H → Prop) (b23 : Nat) (n24 : Int) (a25 : Option Addr) (l25 : Nat) (n26 : Int) (n27 : Int) (n28 : Int) (n29 : Int) (n32 : Int) (n34 : Int) (n35 : Int) (n36 : Int) (n37 : Int) (h : H) : Prop :=
  ifB ((bAndNot .i64 n34 65534 : Int) != 0)
  (kr false h)
  (ifB ((bAndNot .i64 (bOr .i64 (bOr .i64 n35 n36) n37) 60926 : Int) != 0)
  (kr false h)
  (ifB ((bAnd .i64 n36 n37 : Int) != 0)
  (kr false h)
  (ifB ((n32 : Int) == 3)
  (ifB ((bOr .i64 (bOr .i64 (bOr .i64 n34 n35) n36) n37 : Int) != 0)
  (kr false h)
  (impl_ProcsOk_M_j2 kn kx1 kr b23 n28 n24 a25 l25 n26 n27 n28 n29 n32 h))
  (impl_ProcsOk_M_j2 kn kx1 kr b23 n28 n24 a25 l25 n26 n27 n28 n29 n32 h))))

def impl_ProcsOk_M_l0 (kx0 : Nat → H → Prop) (kr : Bool → H → Prop) : Nat → Nat → Int → Option Addr → Nat → Int → Int → H → Prop
 | 0, _, _, _, _, _, _, _ => False
 | N + 1, b6, n7, a8, l8, n9, n10, h =>
  ifB (decide ((n10 : Int) < n9))
  (req (0 ≤ (n10 : Int) ∧ (n10 : Int) < (l8 : Nat))
  (nz a8 fun b11 o12 =>
  ldRow h b11 (o12 + n10.toNat * 10) 0 [.int .i64, .int .i64, .int .i64, .int .i64, .int .i64, .int .i64, .int .i64, .int .i64, .int .i64, .int .i64] fun n13 n14 n15 n16 n17 n18 n19 n20 n21 n22 =>
  ifB (decide ((n13 : Int) ≤ n7))
  (kr false h)
  (ifB (decide ((n13 : Int) > 32))
  (kr false h)
  (ifB (decide ((n15 : Int) < 1))
  (kr false h)
  (ifB (decide ((n15 : Int) > 32))
  (kr false h)
  (ifB (decide ((n16 : Int) < 0))
  (kr false h)
  (ifB (decide ((n16 : Int) > 255))
  (kr false h)
  (ifB (decide ((n17 : Int) < 1))
  (kr false h)
  (ifB (decide ((n17 : Int) > 3))
  (kr false h)
  (ifB (decide ((n18 : Int) < 0))
  (kr false h)
  (ifB (decide ((n18 : Int) > 255))
  (kr false h)
  (ifB ((n17 : Int) != 3)
  (ifB ((n18 : Int) != 0)
  (kr false h)
  (impl_ProcsOk_M_j1 (fun b23 n24 a25 l25 n26 n27 h =>
  impl_ProcsOk_M_l0 kx0 kr N b23 n24 a25 l25 n26 (IntKind.i64.wrap (n27 + 1)) h) (fun b28 n29 a30 l30 n31 n32 h =>
  impl_ProcsOk_M_l0 kx0 kr N b28 n29 a30 l30 n31 (IntKind.i64.wrap (n32 + 1)) h) kr b6 n10 a8 l8 n9 n10 n13 n14 n17 n19 n20 n21 n22 h))
  (impl_ProcsOk_M_j1 (fun b33 n34 a35 l35 n36 n37 h =>
  impl_ProcsOk_M_l0 kx0 kr N b33 n34 a35 l35 n36 (IntKind.i64.wrap (n37 + 1)) h) (fun b38 n39 a40 l40 n41 n42 h =>
  impl_ProcsOk_M_l0 kx0 kr N b38 n39 a40 l40 n41 (IntKind.i64.wrap (n42 + 1)) h) kr b6 n10 a8 l8 n9 n10 n13 n14 n17 n19 n20 n21 n22 h)))))))))))))
  (kx0 b6 h)

def impl_ProcsOk_M_l4 (kx4 : Nat → Option Addr → Nat → Int → Int → H → Prop) (kr : Bool → H → Prop) : Nat → Nat → Option Addr → Int → Option Addr → Nat → Int → Int → H → Prop
 | 0, _, _, _, _, _, _, _, _ => False
 | N + 1, b1065, p1066, n1067, a1068, l1068, n1069, n1070, h =>
  nz p1066 fun b1071 o1072 =>
  ldI .i64 h b1071 o1072 fun n1073 =>
  ifB ((n1073 : Int) != 1)
  (nz p1066 fun b1074 o1075 =>
  ldI .i64 h b1074 (o1075 + 1) fun n1076 =>
  callD Try.prog 19 ⟨[.pointer (some ⟨b1065, 0, none⟩), .int .i64 n1076]⟩ h fun v1077 h =>
  asP v1077 fun p1078 =>
  ifB p1078.isNone
  (kr false h)
  (ifB (decide ((n1067 : Int) > 32))
  (kr false h)
  (impl_ProcsOk_M_l4 kx4 kr N b1065 p1078 (IntKind.i64.wrap (n1067 + 1)) a1068 l1068 n1069 n1070 h)))
  (kx4 b1065 a1068 l1068 n1069 n1070 h)

def impl_ProcsOk_M_l3 (kx2 : H → Prop) (kr : Bool → H → Prop) : Nat → Nat → Option Addr → Nat → Int → Int → H → Prop
 | 0, _, _, _, _, _, _ => False
 | N + 1, b1048, a1049, l1049, n1050, n1051, h =>
  ifB (decide ((n1051 : Int) < n1050))
  (req (0 ≤ (n1051 : Int) ∧ (n1051 : Int) < (l1049 : Nat))
  (nz a1049 fun b1052 o1053 =>
  ldRow h b1052 (o1053 + n1051.toNat * 10) 0 [.int .i64, .int .i64, .int .i64, .int .i64, .int .i64, .int .i64, .int .i64, .int .i64, .int .i64, .int .i64] fun n1054 n1055 n1056 n1057 n1058 n1059 n1060 n1061 n1062 n1063 =>
  newD h [.int .i64 0, .int .i64 0, .int .i64 0, .int .i64 0, .int .i64 0, .int .i64 0, .int .i64 0, .int .i64 0, .int .i64 0, .int .i64 0] 38 fun b1064 h =>
  stRow h b1064 0 0 [.int .i64 n1054, .int .i64 n1055, .int .i64 n1056, .int .i64 n1057, .int .i64 n1058, .int .i64 n1059, .int .i64 n1060, .int .i64 n1061, .int .i64 n1062, .int .i64 n1063] fun h =>
  ∃ M1069, impl_ProcsOk_M_l4 (fun b1065 a1066 l1066 n1067 n1068 h =>
  impl_ProcsOk_M_l3 kx2 kr N b1065 a1066 l1066 n1067 (IntKind.i64.wrap (n1068 + 1)) h) kr M1069 b1048 (some ⟨b1064, 0, none⟩) 0 a1049 l1049 n1050 n1051 h))
  (kx2 h)

def impl_ProcsOk_M (kr : Bool → H → Prop) (a1 : Option Addr) (l1 : Nat) (c1 : Nat) (h : H) : Prop :=
  newD h [.slice a1 l1 c1] 27 fun b2 h =>
  ldL h b2 0 fun a3 l3 c3 =>
  ifB (decide (((l3 : Nat) : Int) < 1))
  (kr false h)
  (ldL h b2 0 fun a4 l4 c4 =>
  ifB (decide (((l4 : Nat) : Int) > 32))
  (kr false h)
  (ldL h b2 0 fun a5 l5 c5 =>
  ∃ M9, impl_ProcsOk_M_l0 (fun b6 h =>
  ldL h b6 0 fun a7 l7 c7 =>
  ∃ M8, impl_ProcsOk_M_l3 (fun h =>
  kr true h) kr M8 b6 a7 l7 (l7 : Nat) 0 h) kr M9 b2 0 a5 l5 (l5 : Nat) 0 h))

theorem impl_ProcsOk_M_j2_D {g0 m0 : H} {kn_1 : Nat → Int → Option Addr → Nat → Nat → Int → Int → H → Prop} {kn_2 : Nat → Int → Option Addr → Nat → Int → Int → H → Prop} (Hkn : ∀ (b200001 : Nat) (n200002 : Int) (a200003 : Option Addr) (l200003 : Nat) (c200003 : Nat) (n200004 : Int) (n200005 : Int) (g m : H), Md g0 m0 g m [] → kn_2 b200001 n200002 a200003 l200003 n200004 n200005 m → kn_1 b200001 n200002 a200003 l200003 c200003 n200004 n200005 g)
  {kx1_1 : Nat → Int → Option Addr → Nat → Nat → Int → Int → H → Prop} {kx1_2 : Nat → Int → Option Addr → Nat → Int → Int → H → Prop} (Hkx1 : ∀ (b200001 : Nat) (n200002 : Int) (a200003 : Option Addr) (l200003 : Nat) (c200003 : Nat) (n200004 : Int) (n200005 : Int) (g m : H), Md g0 m0 g m [] → kx1_2 b200001 n200002 a200003 l200003 n200004 n200005 m → kx1_1 b200001 n200002 a200003 l200003 c200003 n200004 n200005 g)
  {kr_1 : Bool → H → Prop} {kr_2 : Bool → H → Prop} (Hkr : ∀ (t200001 : Bool) (g m : H), Md g0 m0 g m [] → kr_2 t200001 m → kr_1 t200001 g) : ∀ (b1039 : Nat) (n1040 : Int) (n1041 : Int) (a1042 : Option Addr) (l1042 : Nat) (c1042 : Nat) (n1043 : Int) (n1044 : Int) (n1045 : Int) (n1046 : Int) (n1047 : Int) (n1048 : Int) (n1049 : Int) (n1050 : Int) (n1051 : Int) (n1052 : Int) (n1053 : Int) (n1054 : Int) (p1055 : Nat) (g m : H), Md g0 m0 g m [lo p1055 [.int .i64 n1045, .int .i64 n1046, .int .i64 n1047, .int .i64 n1048, .int .i64 n1049, .int .i64 n1050, .int .i64 n1051, .int .i64 n1052, .int .i64 n1053, .int .i64 n1054]] → impl_ProcsOk_M_j2 kn_2 kx1_2 kr_2 b1039 n1040 n1041 a1042 l1042 n1043 n1044 n1045 n1046 n1049 m → impl_ProcsOk_j2 kn_1 kx1_1 kr_1 b1039 n1040 n1041 p1055 a1042 l1042 c1042 n1043 n1044 g := by
  intro b1039 n1040 n1041 a1042 l1042 c1042 n1043 n1044 n1045 n1046 n1047 n1048 n1049 n1050 n1051 n1052 n1053 n1054 p1055 g m R
  rw [impl_ProcsOk_M_j2, impl_ProcsOk_j2]
  exact (d_if (p_ldI R rfl (d_if (Hkr false _ _ R.sub)
  (p_ldI R rfl (d_if (Hkr false _ _ R.sub)
  (p_ldI R rfl (d_if (Hkr false _ _ R.sub)
  (Hkx1 b1039 n1040 a1042 l1042 c1042 n1043 n1044 _ _ R.sub)))))))
  (p_ldI R rfl (d_call R fun v1056 g m R =>
  (d_asP fun p1057 =>
  (d_if (Hkr false _ _ R.sub)
  (d_nz fun b1058 o1059 =>
  (d_ldI R fun n1060 =>
  (p_ldI R rfl (d_if (Hkr false _ _ R.sub)
  (d_nz fun b1061 o1062 =>
  (d_ldI R fun n1063 =>
  (d_if (Hkr false _ _ R.sub)
  (Hkn b1039 n1040 a1042 l1042 c1042 n1043 n1044 _ _ R.sub)))))))))))))

theorem impl_ProcsOk_M_j1_D {g0 m0 : H} {kn_1 : Nat → Int → Option Addr → Nat → Nat → Int → Int → H → Prop} {kn_2 : Nat → Int → Option Addr → Nat → Int → Int → H → Prop} (Hkn : ∀ (b200001 : Nat) (n200002 : Int) (a200003 : Option Addr) (l200003 : Nat) (c200003 : Nat) (n200004 : Int) (n200005 : Int) (g m : H), Md g0 m0 g m [] → kn_2 b200001 n200002 a200003 l200003 n200004 n200005 m → kn_1 b200001 n200002 a200003 l200003 c200003 n200004 n200005 g)
  {kx1_1 : Nat → Int → Option Addr → Nat → Nat → Int → Int → H → Prop} {kx1_2 : Nat → Int → Option Addr → Nat → Int → Int → H → Prop} (Hkx1 : ∀ (b200001 : Nat) (n200002 : Int) (a200003 : Option Addr) (l200003 : Nat) (c200003 : Nat) (n200004 : Int) (n200005 : Int) (g m : H), Md g0 m0 g m [] → kx1_2 b200001 n200002 a200003 l200003 n200004 n200005 m → kx1_1 b200001 n200002 a200003 l200003 c200003 n200004 n200005 g)
  {kr_1 : Bool → H → Prop} {kr_2 : Bool → H → Prop} (Hkr : ∀ (t200001 : Bool) (g m : H), Md g0 m0 g m [] → kr_2 t200001 m → kr_1 t200001 g) : ∀ (b1023 : Nat) (n1024 : Int) (a1025 : Option Addr) (l1025 : Nat) (c1025 : Nat) (n1026 : Int) (n1027 : Int) (n1028 : Int) (n1029 : Int) (n1030 : Int) (n1031 : Int) (n1032 : Int) (n1033 : Int) (n1034 : Int) (n1035 : Int) (n1036 : Int) (n1037 : Int) (p1038 : Nat) (g m : H), Md g0 m0 g m [lo p1038 [.int .i64 n1028, .int .i64 n1029, .int .i64 n1030, .int .i64 n1031, .int .i64 n1032, .int .i64 n1033, .int .i64 n1034, .int .i64 n1035, .int .i64 n1036, .int .i64 n1037]] → impl_ProcsOk_M_j1 kn_2 kx1_2 kr_2 b1023 n1024 a1025 l1025 n1026 n1027 n1028 n1029 n1032 n1034 n1035 n1036 n1037 m → impl_ProcsOk_j1 kn_1 kx1_1 kr_1 b1023 n1024 p1038 a1025 l1025 c1025 n1026 n1027 g := by
  intro b1023 n1024 a1025 l1025 c1025 n1026 n1027 n1028 n1029 n1030 n1031 n1032 n1033 n1034 n1035 n1036 n1037 p1038 g m R
  rw [impl_ProcsOk_M_j1, impl_ProcsOk_j1]
  exact (p_ldI R rfl (p_ldI R rfl (d_if (Hkr false _ _ R.sub)
  (p_ldI R rfl (p_ldI R rfl (p_ldI R rfl (d_if (Hkr false _ _ R.sub)
  (p_ldI R rfl (p_ldI R rfl (d_if (Hkr false _ _ R.sub)
  (p_ldI R rfl (d_if (p_ldI R rfl (p_ldI R rfl (p_ldI R rfl (p_ldI R rfl (d_if (Hkr false _ _ R.sub)
  (impl_ProcsOk_M_j2_D (by exact fun b1039 n1040 a1041 l1041 c1041 n1042 n1043 g m R =>
  (Hkn b1039 n1040 a1041 l1041 c1041 n1042 n1043 _ _ R.sub))
  (by exact fun b1044 n1045 a1046 l1046 c1046 n1047 n1048 g m R =>
  (Hkx1 b1044 n1045 a1046 l1046 c1046 n1047 n1048 _ _ R.sub))
  (by exact fun t1049 g m R =>
  (Hkr t1049 _ _ R.sub)) b1023 n1028 n1024 a1025 l1025 c1025 n1026 n1027 n1028 n1029 n1030 n1031 n1032 n1033 n1034 n1035 n1036 n1037 p1038 _ _ R.sub))))))
  (impl_ProcsOk_M_j2_D (by exact fun b1050 n1051 a1052 l1052 c1052 n1053 n1054 g m R =>
  (Hkn b1050 n1051 a1052 l1052 c1052 n1053 n1054 _ _ R.sub))
  (by exact fun b1055 n1056 a1057 l1057 c1057 n1058 n1059 g m R =>
  (Hkx1 b1055 n1056 a1057 l1057 c1057 n1058 n1059 _ _ R.sub))
  (by exact fun t1060 g m R =>
  (Hkr t1060 _ _ R.sub)) b1023 n1028 n1024 a1025 l1025 c1025 n1026 n1027 n1028 n1029 n1030 n1031 n1032 n1033 n1034 n1035 n1036 n1037 p1038 _ _ R.sub)))))))))))))

theorem impl_ProcsOk_M_l0_D {g0 m0 : H} {kx0_1 : Nat → H → Prop} {kx0_2 : Nat → H → Prop} (Hkx0 : ∀ (b200001 : Nat) (g m : H), Md g0 m0 g m [] → kx0_2 b200001 m → kx0_1 b200001 g)
  {kr_1 : Bool → H → Prop} {kr_2 : Bool → H → Prop} (Hkr : ∀ (t200001 : Bool) (g m : H), Md g0 m0 g m [] → kr_2 t200001 m → kr_1 t200001 g) : ∀ (N : Nat) (b1006 : Nat) (n1007 : Int) (a1008 : Option Addr) (l1008 : Nat) (c1008 : Nat) (n1009 : Int) (n1010 : Int) (g m : H), Md g0 m0 g m [] → impl_ProcsOk_M_l0 kx0_2 kr_2 N b1006 n1007 a1008 l1008 n1009 n1010 m → impl_ProcsOk_l0 kx0_1 kr_1 N b1006 n1007 a1008 l1008 c1008 n1009 n1010 g := by
  intro N
  induction N with
  | zero => intro b1006 n1007 a1008 l1008 c1008 n1009 n1010 g m R h0; exact h0.elim
  | succ N ih =>
    intro b1006 n1007 a1008 l1008 c1008 n1009 n1010 g m R
    rw [impl_ProcsOk_M_l0, impl_ProcsOk_l0]
    exact (d_if (d_req (d_nz fun b1011 o1012 =>
  (d_row_I10 R fun n1013 n1014 n1015 n1016 n1017 n1018 n1019 n1020 n1021 n1022 =>
  (p_new R fun p1023 g R =>
  (p_stRow R (cs' := [.int .i64 n1013, .int .i64 n1014, .int .i64 n1015, .int .i64 n1016, .int .i64 n1017, .int .i64 n1018, .int .i64 n1019, .int .i64 n1020, .int .i64 n1021, .int .i64 n1022]) ⟨rfl, rfl, rfl⟩ fun g R =>
  (p_ldI R rfl (d_if (Hkr false _ _ R.sub)
  (p_ldI R rfl (d_if (Hkr false _ _ R.sub)
  (p_ldI R rfl (d_if (Hkr false _ _ R.sub)
  (p_ldI R rfl (d_if (Hkr false _ _ R.sub)
  (p_ldI R rfl (d_if (Hkr false _ _ R.sub)
  (p_ldI R rfl (d_if (Hkr false _ _ R.sub)
  (p_ldI R rfl (d_if (Hkr false _ _ R.sub)
  (p_ldI R rfl (d_if (Hkr false _ _ R.sub)
  (p_ldI R rfl (d_if (Hkr false _ _ R.sub)
  (p_ldI R rfl (d_if (Hkr false _ _ R.sub)
  (p_ldI R rfl (d_if (p_ldI R rfl (d_if (Hkr false _ _ R.sub)
  (impl_ProcsOk_M_j1_D (by exact fun b1024 n1025 a1026 l1026 c1026 n1027 n1028 g m R =>
  (ih b1024 n1025 a1026 l1026 c1026 n1027 (IntKind.i64.wrap (n1028 + 1)) _ _ R.sub))
  (by exact fun b1029 n1030 a1031 l1031 c1031 n1032 n1033 g m R =>
  (ih b1029 n1030 a1031 l1031 c1031 n1032 (IntKind.i64.wrap (n1033 + 1)) _ _ R.sub))
  (by exact fun t1034 g m R =>
  (Hkr t1034 _ _ R.sub)) b1006 n1010 a1008 l1008 c1008 n1009 n1010 n1013 n1014 n1015 n1016 n1017 n1018 n1019 n1020 n1021 n1022 p1023 _ _ R.sub)))
  (impl_ProcsOk_M_j1_D (by exact fun b1035 n1036 a1037 l1037 c1037 n1038 n1039 g m R =>
  (ih b1035 n1036 a1037 l1037 c1037 n1038 (IntKind.i64.wrap (n1039 + 1)) _ _ R.sub))
  (by exact fun b1040 n1041 a1042 l1042 c1042 n1043 n1044 g m R =>
  (ih b1040 n1041 a1042 l1042 c1042 n1043 (IntKind.i64.wrap (n1044 + 1)) _ _ R.sub))
  (by exact fun t1045 g m R =>
  (Hkr t1045 _ _ R.sub)) b1006 n1010 a1008 l1008 c1008 n1009 n1010 n1013 n1014 n1015 n1016 n1017 n1018 n1019 n1020 n1021 n1022 p1023 _ _ R.sub))))))))))))))))))))))))))))
  (Hkx0 b1006 _ _ R.sub))

theorem impl_ProcsOk_M_l4_D {g0 m0 : H} {kx4_1 : Nat → Option Addr → Nat → Nat → Int → Int → H → Prop} {kx4_2 : Nat → Option Addr → Nat → Int → Int → H → Prop} (Hkx4 : ∀ (b200001 : Nat) (a200002 : Option Addr) (l200002 : Nat) (c200002 : Nat) (n200003 : Int) (n200004 : Int) (g m : H), Md g0 m0 g m [] → kx4_2 b200001 a200002 l200002 n200003 n200004 m → kx4_1 b200001 a200002 l200002 c200002 n200003 n200004 g)
  {kr_1 : Bool → H → Prop} {kr_2 : Bool → H → Prop} (Hkr : ∀ (t200001 : Bool) (g m : H), Md g0 m0 g m [] → kr_2 t200001 m → kr_1 t200001 g) : ∀ (N : Nat) (b2065 : Nat) (p2066 : Option Addr) (n2067 : Int) (a2068 : Option Addr) (l2068 : Nat) (c2068 : Nat) (n2069 : Int) (n2070 : Int) (g m : H), Md g0 m0 g m [] → impl_ProcsOk_M_l4 kx4_2 kr_2 N b2065 p2066 n2067 a2068 l2068 n2069 n2070 m → impl_ProcsOk_l4 kx4_1 kr_1 N b2065 p2066 n2067 a2068 l2068 c2068 n2069 n2070 g := by
  intro N
  induction N with
  | zero => intro b2065 p2066 n2067 a2068 l2068 c2068 n2069 n2070 g m R h0; exact h0.elim
  | succ N ih =>
    intro b2065 p2066 n2067 a2068 l2068 c2068 n2069 n2070 g m R
    rw [impl_ProcsOk_M_l4, impl_ProcsOk_l4]
    exact (d_nz fun b2071 o2072 =>
  (d_ldI R fun n2073 =>
  (d_if (d_nz fun b2074 o2075 =>
  (d_ldI R fun n2076 =>
  (d_call R fun v2077 g m R =>
  (d_asP fun p2078 =>
  (d_if (Hkr false _ _ R.sub)
  (d_if (Hkr false _ _ R.sub)
  (ih b2065 p2078 (IntKind.i64.wrap (n2067 + 1)) a2068 l2068 c2068 n2069 n2070 _ _ R.sub)))))))
  (Hkx4 b2065 a2068 l2068 c2068 n2069 n2070 _ _ R.sub))))

theorem impl_ProcsOk_M_l3_D {g0 m0 : H} {kx2_1 : H → Prop} {kx2_2 : H → Prop} (Hkx2 : ∀ (g m : H), Md g0 m0 g m [] → kx2_2 m → kx2_1 g)
  {kr_1 : Bool → H → Prop} {kr_2 : Bool → H → Prop} (Hkr : ∀ (t200001 : Bool) (g m : H), Md g0 m0 g m [] → kr_2 t200001 m → kr_1 t200001 g) : ∀ (N : Nat) (b2048 : Nat) (a2049 : Option Addr) (l2049 : Nat) (c2049 : Nat) (n2050 : Int) (n2051 : Int) (g m : H), Md g0 m0 g m [] → impl_ProcsOk_M_l3 kx2_2 kr_2 N b2048 a2049 l2049 n2050 n2051 m → impl_ProcsOk_l3 kx2_1 kr_1 N b2048 a2049 l2049 c2049 n2050 n2051 g := by
  intro N
  induction N with
  | zero => intro b2048 a2049 l2049 c2049 n2050 n2051 g m R h0; exact h0.elim
  | succ N ih =>
    intro b2048 a2049 l2049 c2049 n2050 n2051 g m R
    rw [impl_ProcsOk_M_l3, impl_ProcsOk_l3]
    exact (d_if (d_req (d_nz fun b2052 o2053 =>
  (d_row_I10 R fun n2054 n2055 n2056 n2057 n2058 n2059 n2060 n2061 n2062 n2063 =>
  (d_new R fun b2064 g m R =>
  (d_stRow R fun g m R =>
  (d_ex fun N => impl_ProcsOk_M_l4_D (by exact fun b2065 a2066 l2066 c2066 n2067 n2068 g m R =>
  (ih b2065 a2066 l2066 c2066 n2067 (IntKind.i64.wrap (n2068 + 1)) _ _ R.sub))
  (by exact fun t2069 g m R =>
  (Hkr t2069 _ _ R.sub)) N b2048 (some ⟨b2064, 0, none⟩) 0 a2049 l2049 c2049 n2050 n2051 _ _ R.sub))))))
  (Hkx2 _ _ R.sub))

theorem impl_ProcsOk_M_D {g0 m0 : H} {kr_1 : Bool → H → Prop} {kr_2 : Bool → H → Prop} (Hkr : ∀ (t200001 : Bool) (g m : H), Md g0 m0 g m [] → kr_2 t200001 m → kr_1 t200001 g) : ∀ (a1001 : Option Addr) (l1001 : Nat) (c1001 : Nat) (g m : H), Md g0 m0 g m [] → impl_ProcsOk_M kr_2 a1001 l1001 c1001 m → impl_ProcsOk kr_1 a1001 l1001 c1001 g := by
  intro a1001 l1001 c1001 g m R
  rw [impl_ProcsOk_M, impl_ProcsOk]
  exact (d_new R fun b1002 g m R =>
  (d_ldL R fun a1003 l1003 c1003 =>
  (d_if (Hkr false _ _ R.sub)
  (d_ldL R fun a1004 l1004 c1004 =>
  (d_if (Hkr false _ _ R.sub)
  (d_ldL R fun a1005 l1005 c1005 =>
  (d_ex fun N => impl_ProcsOk_M_l0_D (by exact fun b1006 g m R =>
  (d_ldL R fun a1007 l1007 c1007 =>
  (d_ex fun N => impl_ProcsOk_M_l3_D (by exact fun g m R =>
  (Hkr true _ _ R.sub))
  (by exact fun t1008 g m R =>
  (Hkr t1008 _ _ R.sub)) N b1006 a1007 l1007 c1007 (l1007 : Nat) 0 _ _ R.sub)))
  (by exact fun t1009 g m R =>
  (Hkr t1009 _ _ R.sub)) N b1002 0 a1005 l1005 c1005 (l1005 : Nat) 0 _ _ R.sub)))))))

theorem impl_ProcsOk_M_call {a1 : Option Addr} {l1 : Nat} {c1 : Nat} {h : H} {K : Value → H → Prop} (hs : impl_ProcsOk_M (fun t300001 h =>
  K (.bool t300001) h) a1 l1 c1 h) : callD Try.prog 6 ⟨[.agg ⟨[.slice a1 l1 c1]⟩]⟩ h K :=
  fun g r => impl_ProcsOk_call (impl_ProcsOk_M_D (by exact fun t300001 g m R =>
(fun h => ⟨m, R.af, h⟩)) _ _ _ _ _ (Md.start r) hs)

noncomputable def code9 : Code := codeOf Try.f9
theorem body9 : Try.f9.body = some code9 := by kernel_rfl
def spec_ProcsOk_l0 (kx0 : Nat → H → Prop) (kr : Bool → H → Prop) : Nat → Nat → Int → H → Prop
 | 0, _, _, _ => False
 | N + 1, b17, n18, h =>
  ldL h b17 0 fun a19 l19 c19 =>
  ifB (decide ((n18 : Int) < (l19 : Nat)))
  (ldRow h b17 0 0 [.slice] fun a20 l20 c20 =>
  callK Try.prog 23 ⟨[.agg ⟨[.slice a20 l20 c20]⟩, .int .i64 n18]⟩ h fun v21 h =>
  asB v21 fun t22 =>
  ifB (!t22)
  (kr false h)
  (ifB (decide ((n18 : Int) > 0))
  (ldRow h b17 0 0 [.slice] fun a23 l23 c23 =>
  ldL h b17 0 fun a24 l24 c24 =>
  req (0 ≤ (n18 : Int) ∧ (n18 : Int) < (l24 : Nat))
  (nz a24 fun b25 o26 =>
  ldI .i64 h b25 ((o26 + n18.toNat * 10) + 1) fun n27 =>
  callK Try.prog 24 ⟨[.agg ⟨[.slice a23 l23 c23]⟩, .int .i64 n27]⟩ h fun v28 h =>
  asB v28 fun t29 =>
  ifB (!t29)
  (kr false h)
  (spec_ProcsOk_l0 kx0 kr N b17 (IntKind.i64.wrap (n18 + 1)) h)))
  (spec_ProcsOk_l0 kx0 kr N b17 (IntKind.i64.wrap (n18 + 1)) h)))
  (kx0 b17 h)

def spec_ProcsOk_l2 (kx4 : Nat → Int → Int → H → Prop) : Nat → Nat → Int → Int → Int → H → Prop
 | 0, _, _, _, _, _ => False
 | N + 1, b38, n39, n40, n41, h =>
  ldL h b38 0 fun a42 l42 c42 =>
  ifB (decide ((n41 : Int) ≤ (l42 : Nat)))
  (ifB ((n40 : Int) != 1)
  (ldL h b38 0 fun a43 l43 c43 =>
  ldRow h b38 0 0 [.slice] fun a44 l44 c44 =>
  callK Try.prog 25 ⟨[.agg ⟨[.slice a44 l44 c44]⟩, .int .i64 n40]⟩ h fun v45 h =>
  asI .i64 v45 fun n46 =>
  cell h b38 0 = some (.slice a43 l43 c43) ∧ (req (0 ≤ (n46 : Int) ∧ (n46 : Int) < (l43 : Nat))
  (nz a43 fun b47 o48 =>
  ldI .i64 h b47 ((o48 + n46.toNat * 10) + 1) fun n49 =>
  spec_ProcsOk_l2 kx4 N b38 n39 n49 (IntKind.i64.wrap (n41 + 1)) h)))
  (kx4 b38 n39 n40 h))
  (kx4 b38 n39 n40 h)

def spec_ProcsOk_l1 (kx2 : H → Prop) (kr : Bool → H → Prop) : Nat → Nat → Int → H → Prop
 | 0, _, _, _ => False
 | N + 1, b31, n32, h =>
  ldL h b31 0 fun a33 l33 c33 =>
  ifB (decide ((n32 : Int) < (l33 : Nat)))
  (ldL h b31 0 fun a34 l34 c34 =>
  req (0 ≤ (n32 : Int) ∧ (n32 : Int) < (l34 : Nat))
  (nz a34 fun b35 o36 =>
  ldI .i64 h b35 (o36 + n32.toNat * 10) fun n37 =>
  ∃ M41, spec_ProcsOk_l2 (fun b38 n39 n40 h =>
  ifB ((n40 : Int) != 1)
  (kr false h)
  (spec_ProcsOk_l1 kx2 kr N b38 (IntKind.i64.wrap (n39 + 1)) h)) M41 b31 n32 n37 0 h))
  (kx2 h)

def spec_ProcsOk (kr : Bool → H → Prop) (a1 : Option Addr) (l1 : Nat) (c1 : Nat) (h : H) : Prop :=
  new h [.slice a1 l1 c1] 27 fun b2 h =>
  ldL h b2 0 fun a3 l3 c3 =>
  ifB (((l3 : Nat) : Int) == 0)
  (kr false h)
  (ldL h b2 0 fun a4 l4 c4 =>
  ifB (decide (((l4 : Nat) : Int) > 32))
  (kr false h)
  (ldL h b2 0 fun a5 l5 c5 =>
  req (0 ≤ (0 : Int) ∧ (0 : Int) < (l5 : Nat))
  (nz a5 fun b6 o7 =>
  ldI .i64 h b6 (o7 + (0 : Int).toNat * 10) fun n8 =>
  ifB ((n8 : Int) != 1)
  (kr false h)
  (ldL h b2 0 fun a9 l9 c9 =>
  req (0 ≤ (0 : Int) ∧ (0 : Int) < (l9 : Nat))
  (nz a9 fun b10 o11 =>
  ldI .i64 h b10 ((o11 + (0 : Int).toNat * 10) + 1) fun n12 =>
  ifB ((n12 : Int) != 0)
  (kr false h)
  (ldL h b2 0 fun a13 l13 c13 =>
  req (0 ≤ (0 : Int) ∧ (0 : Int) < (l13 : Nat))
  (nz a13 fun b14 o15 =>
  ldI .i64 h b14 ((o15 + (0 : Int).toNat * 10) + 4) fun n16 =>
  ifB ((n16 : Int) == 3)
  (kr false h)
  (∃ M19, spec_ProcsOk_l0 (fun b17 h =>
  ∃ M18, spec_ProcsOk_l1 (fun h =>
  kr true h) kr M18 b17 0 h) kr M19 b2 0 h))))))))

theorem spec_ProcsOk_l0_eq (K : Cont) (N : Nat) (b17 : Nat) (n18 : Int) (h : H) :
  spec_ProcsOk_l0 (curV [(1, .blk)] (K (.exit 0))) (curV [(2, .bool)] (K .ret)) (N + 1) b17 n18 h = evC Try.prog 101 [] [] (sub code9 [true, true, false, true, false, false]) [(1, .pointer (some ⟨b17, 0, none⟩)), (3, .int .i64 n18)] h ((outsOf none [(0, [(1, .blk)])] (some [(2, .bool)]) K).loop [(1, .blk), (3, .int .i64)] (spec_ProcsOk_l0 (curV [(1, .blk)] (K (.exit 0))) (curV [(2, .bool)] (K .ret)) N)).K := by kernel_rfl

def spec_ProcsOk_l0_F : PT := mkL [(1, .blk), (3, .int .i64)] fun K N => spec_ProcsOk_l0 (curV [(1, .blk)] (K (.exit 0))) (curV [(2, .bool)] (K .ret)) N

theorem spec_ProcsOk_l0_V : Valid Try.prog 101 (sub code9 [true, true, false, true, false]) spec_ProcsOk_l0_F :=
  loop_at (code9) [true, true, false, true, false] (loop_piece (c := (sub code9 [true, true, false, true, false, false])) mixed rows_nil (fun K => by intro b17 n18 h hd; exact hd) (fun K N => by intro b17 n18 h hd; exact (spec_ProcsOk_l0_eq K N b17 n18 h) ▸ hd))

theorem spec_ProcsOk_l2_eq (K : Cont) (N : Nat) (b38 : Nat) (n39 : Int) (n40 : Int) (n41 : Int) (h : H) :
  spec_ProcsOk_l2 (curV [(1, .blk), (4, .int .i64), (5, .int .i64)] (K (.exit 4))) (N + 1) b38 n39 n40 n41 h = evC Try.prog 101 [] [] (sub code9 [true, true, true, false, true, false, false, true, false, false, true, false, true, false, false]) [(1, .pointer (some ⟨b38, 0, none⟩)), (4, .int .i64 n39), (5, .int .i64 n40), (6, .int .i64 n41)] h ((outsOf none [(4, [(1, .blk), (4, .int .i64), (5, .int .i64)])] none K).loop [(1, .blk), (4, .int .i64), (5, .int .i64), (6, .int .i64)] (spec_ProcsOk_l2 (curV [(1, .blk), (4, .int .i64), (5, .int .i64)] (K (.exit 4))) N)).K := by kernel_rfl

def spec_ProcsOk_l2_F : PT := mkL [(1, .blk), (4, .int .i64), (5, .int .i64), (6, .int .i64)] fun K N => spec_ProcsOk_l2 (curV [(1, .blk), (4, .int .i64), (5, .int .i64)] (K (.exit 4))) N

theorem spec_ProcsOk_l2_V : Valid Try.prog 101 (sub code9 [true, true, true, false, true, false, false, true, false, false, true, false, true, false]) spec_ProcsOk_l2_F :=
  loop_at (code9) [true, true, true, false, true, false, false, true, false, false, true, false, true, false] (loop_piece (c := (sub code9 [true, true, true, false, true, false, false, true, false, false, true, false, true, false, false])) mixed rows_nil (fun K => by intro b38 n39 n40 n41 h hd; exact hd) (fun K N => by intro b38 n39 n40 n41 h hd; exact (spec_ProcsOk_l2_eq K N b38 n39 n40 n41 h) ▸ hd))

theorem spec_ProcsOk_l1_eq (K : Cont) (N : Nat) (b31 : Nat) (n32 : Int) (h : H) :
  spec_ProcsOk_l1 (curV [] (K (.exit 2))) (curV [(2, .bool)] (K .ret)) (N + 1) b31 n32 h = evC Try.prog 101 [([false, false, true, false, true, false, false, true], spec_ProcsOk_l2_F)] [] (sub code9 [true, true, true, false, true, false, false]) [(1, .pointer (some ⟨b31, 0, none⟩)), (4, .int .i64 n32)] h ((outsOf none [(2, [])] (some [(2, .bool)]) K).loop [(1, .blk), (4, .int .i64)] (spec_ProcsOk_l1 (curV [] (K (.exit 2))) (curV [(2, .bool)] (K .ret)) N)).K := by kernel_rfl

def spec_ProcsOk_l1_F : PT := mkL [(1, .blk), (4, .int .i64)] fun K N => spec_ProcsOk_l1 (curV [] (K (.exit 2))) (curV [(2, .bool)] (K .ret)) N

theorem spec_ProcsOk_l1_V : Valid Try.prog 101 (sub code9 [true, true, true, false, true, false]) spec_ProcsOk_l1_F :=
  loop_at (code9) [true, true, true, false, true, false] (loop_piece (c := (sub code9 [true, true, true, false, true, false, false])) mixed (rows_cons (q' := [true, false, false, true, false, true, false]) (valid_at (p := [true, true, true, false, true, false, false]) spec_ProcsOk_l2_V rfl) rfl rows_nil) (fun K => by intro b31 n32 h hd; exact hd) (fun K N => by intro b31 n32 h hd; exact (spec_ProcsOk_l1_eq K N b31 n32 h) ▸ hd))

theorem spec_ProcsOk_eq (K : Cont) (a1 : Option Addr) (l1 : Nat) (c1 : Nat) (h : H) :
  spec_ProcsOk (curV [(2, .bool)] (K .ret)) a1 l1 c1 h = evC Try.prog 101 [([false, false, true, false, true, true], spec_ProcsOk_l0_F), ([false, false, true, false, true, true, true], spec_ProcsOk_l1_F)] [] code9 [(0, .agg ⟨[.slice a1 l1 c1]⟩)] h (outsOf none [] (some [(2, .bool)]) K).K := by kernel_rfl

def spec_ProcsOk_F : PT := mkF [(0, .agg [.slice])] fun K => spec_ProcsOk (curV [(2, .bool)] (K .ret))

theorem spec_ProcsOk_V : Valid Try.prog 101 code9 spec_ProcsOk_F :=
  piece mixed (rows_cons (q' := [true, true, false, true, false]) spec_ProcsOk_l0_V rfl (rows_cons (q' := [true, true, true, false, true, false]) spec_ProcsOk_l1_V rfl rows_nil)) (fun K => by intro a1 l1 c1 h hd; exact (spec_ProcsOk_eq K a1 l1 c1 h) ▸ hd)

theorem spec_ProcsOk_c0 (a1 : Option Addr) (l1 : Nat) (c1 : Nat) (h : H) (K : Value → H → Prop) :
  spec_ProcsOk (fun t100001 h =>
  K (.bool t100001) h) a1 l1 c1 h = callF Try.prog Try.f9.results.toList spec_ProcsOk_F [.agg ⟨[.slice a1 l1 c1]⟩] h K := by kernel_rfl

theorem spec_ProcsOk_call {a1 : Option Addr} {l1 : Nat} {c1 : Nat} {h : H} {K : Value → H → Prop} (hs : spec_ProcsOk (fun t100001 h =>
  K (.bool t100001) h) a1 l1 c1 h) : callK Try.prog 9 ⟨[.agg ⟨[.slice a1 l1 c1]⟩]⟩ h K :=
  func_calls Try.func9 body9 spec_ProcsOk_V (Nat.le_of_ble_eq_true (by kernel_rfl)) (spec_ProcsOk_c0 a1 l1 c1 h K ▸ hs)

def spec_ProcsOk_M_l0 (kx0 : Option Addr → Nat → Nat → H → Prop) (kr : Bool → H → Prop) : Nat → Int → Option Addr → Nat → Nat → H → Prop
 | 0, _, _, _, _, _ => False
 | N + 1, n11, a12, l12, c12, h =>
  ifB (decide ((n11 : Int) < (l12 : Nat)))
  (callD Try.prog 23 ⟨[.agg ⟨[.slice a12 l12 c12]⟩, .int .i64 n11]⟩ h fun v14 h =>
  asB v14 fun t15 =>
  ifB (!t15)
  (kr false h)
  (ifB (decide ((n11 : Int) > 0))
  (req (0 ≤ (n11 : Int) ∧ (n11 : Int) < (l12 : Nat))
  (nz a12 fun b16 o17 =>
  ldI .i64 h b16 ((o17 + n11.toNat * 10) + 1) fun n18 =>
  callD Try.prog 24 ⟨[.agg ⟨[.slice a12 l12 c12]⟩, .int .i64 n18]⟩ h fun v19 h =>
  asB v19 fun t20 =>
  ifB (!t20)
  (kr false h)
  (spec_ProcsOk_M_l0 kx0 kr N (IntKind.i64.wrap (n11 + 1)) a12 l12 c12 h)))
  (spec_ProcsOk_M_l0 kx0 kr N (IntKind.i64.wrap (n11 + 1)) a12 l12 c12 h)))
  (kx0 a12 l12 c12 h)

def spec_ProcsOk_M_l2 (kx4 : Int → Int → Option Addr → Nat → Nat → H → Prop) : Nat → Int → Int → Int → Option Addr → Nat → Nat → H → Prop
 | 0, _, _, _, _, _, _, _ => False
 | N + 1, n1029, n1030, n1031, a1032, l1032, c1032, h =>
  ifB (decide ((n1031 : Int) ≤ (l1032 : Nat)))
  (ifB ((n1030 : Int) != 1)
  (callD Try.prog 25 ⟨[.agg ⟨[.slice a1032 l1032 c1032]⟩, .int .i64 n1030]⟩ h fun v1034 h =>
  asI .i64 v1034 fun n1035 =>
  req (0 ≤ (n1035 : Int) ∧ (n1035 : Int) < (l1032 : Nat))
  (nz a1032 fun b1036 o1037 =>
  ldI .i64 h b1036 ((o1037 + n1035.toNat * 10) + 1) fun n1038 =>
  spec_ProcsOk_M_l2 kx4 N n1029 n1038 (IntKind.i64.wrap (n1031 + 1)) a1032 l1032 c1032 h))
  (kx4 n1029 n1030 a1032 l1032 c1032 h))
  (kx4 n1029 n1030 a1032 l1032 c1032 h)

def spec_ProcsOk_M_l1 (kx2 : H → Prop) (kr : Bool → H → Prop) : Nat → Int → Option Addr → Nat → Nat → H → Prop
 | 0, _, _, _, _, _ => False
 | N + 1, n1023, a1024, l1024, c1024, h =>
  ifB (decide ((n1023 : Int) < (l1024 : Nat)))
  (req (0 ≤ (n1023 : Int) ∧ (n1023 : Int) < (l1024 : Nat))
  (nz a1024 fun b1026 o1027 =>
  ldI .i64 h b1026 (o1027 + n1023.toNat * 10) fun n1028 =>
  ∃ M1033, spec_ProcsOk_M_l2 (fun n1029 n1030 a1031 l1031 c1031 h =>
  ifB ((n1030 : Int) != 1)
  (kr false h)
  (spec_ProcsOk_M_l1 kx2 kr N (IntKind.i64.wrap (n1029 + 1)) a1031 l1031 c1031 h)) M1033 n1023 n1028 0 a1024 l1024 c1024 h))
  (kx2 h)

def spec_ProcsOk_M (kr : Bool → H → Prop) (a1 : Option Addr) (l1 : Nat) (c1 : Nat) (h : H) : Prop :=
  ifB (((l1 : Nat) : Int) == 0)
  (kr false h)
  (ifB (decide (((l1 : Nat) : Int) > 32))
  (kr false h)
  (req (0 ≤ (0 : Int) ∧ (0 : Int) < (l1 : Nat))
  (nz a1 fun b2 o3 =>
  ldI .i64 h b2 (o3 + (0 : Int).toNat * 10) fun n4 =>
  ifB ((n4 : Int) != 1)
  (kr false h)
  (req (0 ≤ (0 : Int) ∧ (0 : Int) < (l1 : Nat))
  (nz a1 fun b5 o6 =>
  ldI .i64 h b5 ((o6 + (0 : Int).toNat * 10) + 1) fun n7 =>
  ifB ((n7 : Int) != 0)
  (kr false h)
  (req (0 ≤ (0 : Int) ∧ (0 : Int) < (l1 : Nat))
  (nz a1 fun b8 o9 =>
  ldI .i64 h b8 ((o9 + (0 : Int).toNat * 10) + 4) fun n10 =>
  ifB ((n10 : Int) == 3)
  (kr false h)
  (∃ M14, spec_ProcsOk_M_l0 (fun a11 l11 c11 h =>
  ∃ M13, spec_ProcsOk_M_l1 (fun h =>
  kr true h) kr M13 0 a11 l11 c11 h) kr M14 0 a1 l1 c1 h))))))))

theorem spec_ProcsOk_M_l0_D {g0 m0 : H} {kx0_1 : Nat → H → Prop} {kx0_2 : Option Addr → Nat → Nat → H → Prop} (Hkx0 : ∀ (a200001 : Option Addr) (l200001 : Nat) (c200001 : Nat) (p200002 : Nat) (g m : H), Md g0 m0 g m [lo p200002 [.slice a200001 l200001 c200001]] → kx0_2 a200001 l200001 c200001 m → kx0_1 p200002 g)
  {kr_1 : Bool → H → Prop} {kr_2 : Bool → H → Prop} (Hkr : ∀ (t200001 : Bool) (g m : H), Md g0 m0 g m [] → kr_2 t200001 m → kr_1 t200001 g) : ∀ (N : Nat) (n1011 : Int) (a1012 : Option Addr) (l1012 : Nat) (c1012 : Nat) (p1013 : Nat) (g m : H), Md g0 m0 g m [lo p1013 [.slice a1012 l1012 c1012]] → spec_ProcsOk_M_l0 kx0_2 kr_2 N n1011 a1012 l1012 c1012 m → spec_ProcsOk_l0 kx0_1 kr_1 N p1013 n1011 g := by
  intro N
  induction N with
  | zero => intro n1011 a1012 l1012 c1012 p1013 g m R h0; exact h0.elim
  | succ N ih =>
    intro n1011 a1012 l1012 c1012 p1013 g m R
    rw [spec_ProcsOk_M_l0, spec_ProcsOk_l0]
    exact (p_ldL R rfl (d_if (p_row_L R rfl (d_call R fun v1014 g m R =>
  (d_asB fun t1015 =>
  (d_if (Hkr false _ _ R.sub)
  (d_if (p_row_L R rfl (p_ldL R rfl (d_req (d_nz fun b1016 o1017 =>
  (d_ldI R fun n1018 =>
  (d_call R fun v1019 g m R =>
  (d_asB fun t1020 =>
  (d_if (Hkr false _ _ R.sub)
  (ih (IntKind.i64.wrap (n1011 + 1)) a1012 l1012 c1012 p1013 _ _ R.sub)))))))))
  (ih (IntKind.i64.wrap (n1011 + 1)) a1012 l1012 c1012 p1013 _ _ R.sub))))))
  (Hkx0 a1012 l1012 c1012 p1013 _ _ R.sub)))

theorem spec_ProcsOk_M_l2_D {g0 m0 : H} {kx4_1 : Nat → Int → Int → H → Prop} {kx4_2 : Int → Int → Option Addr → Nat → Nat → H → Prop} (Hkx4 : ∀ (n200001 : Int) (n200002 : Int) (a200003 : Option Addr) (l200003 : Nat) (c200003 : Nat) (p200004 : Nat) (g m : H), Md g0 m0 g m [lo p200004 [.slice a200003 l200003 c200003]] → kx4_2 n200001 n200002 a200003 l200003 c200003 m → kx4_1 p200004 n200001 n200002 g) : ∀ (N : Nat) (n2029 : Int) (n2030 : Int) (n2031 : Int) (a2032 : Option Addr) (l2032 : Nat) (c2032 : Nat) (p2033 : Nat) (g m : H), Md g0 m0 g m [lo p2033 [.slice a2032 l2032 c2032]] → spec_ProcsOk_M_l2 kx4_2 N n2029 n2030 n2031 a2032 l2032 c2032 m → spec_ProcsOk_l2 kx4_1 N p2033 n2029 n2030 n2031 g := by
  intro N
  induction N with
  | zero => intro n2029 n2030 n2031 a2032 l2032 c2032 p2033 g m R h0; exact h0.elim
  | succ N ih =>
    intro n2029 n2030 n2031 a2032 l2032 c2032 p2033 g m R
    rw [spec_ProcsOk_M_l2, spec_ProcsOk_l2]
    exact (p_ldL R rfl (d_if (d_if (p_ldL R rfl (p_row_L R rfl (d_call R fun v2034 g m R =>
  (d_asI fun n2035 =>
  (p_cell R rfl (d_req (d_nz fun b2036 o2037 =>
  (d_ldI R fun n2038 =>
  (ih n2029 n2038 (IntKind.i64.wrap (n2031 + 1)) a2032 l2032 c2032 p2033 _ _ R.sub)))))))))
  (Hkx4 n2029 n2030 a2032 l2032 c2032 p2033 _ _ R.sub))
  (Hkx4 n2029 n2030 a2032 l2032 c2032 p2033 _ _ R.sub)))

theorem spec_ProcsOk_M_l1_D {g0 m0 : H} {kx2_1 : H → Prop} {kx2_2 : H → Prop} (Hkx2 : ∀ (g m : H), Md g0 m0 g m [] → kx2_2 m → kx2_1 g)
  {kr_1 : Bool → H → Prop} {kr_2 : Bool → H → Prop} (Hkr : ∀ (t200001 : Bool) (g m : H), Md g0 m0 g m [] → kr_2 t200001 m → kr_1 t200001 g) : ∀ (N : Nat) (n2023 : Int) (a2024 : Option Addr) (l2024 : Nat) (c2024 : Nat) (p2025 : Nat) (g m : H), Md g0 m0 g m [lo p2025 [.slice a2024 l2024 c2024]] → spec_ProcsOk_M_l1 kx2_2 kr_2 N n2023 a2024 l2024 c2024 m → spec_ProcsOk_l1 kx2_1 kr_1 N p2025 n2023 g := by
  intro N
  induction N with
  | zero => intro n2023 a2024 l2024 c2024 p2025 g m R h0; exact h0.elim
  | succ N ih =>
    intro n2023 a2024 l2024 c2024 p2025 g m R
    rw [spec_ProcsOk_M_l1, spec_ProcsOk_l1]
    exact (p_ldL R rfl (d_if (p_ldL R rfl (d_req (d_nz fun b2026 o2027 =>
  (d_ldI R fun n2028 =>
  (d_ex fun N => spec_ProcsOk_M_l2_D (by exact fun n2029 n2030 a2031 l2031 c2031 p2032 g m R =>
  (d_if (Hkr false _ _ R.sub)
  (ih (IntKind.i64.wrap (n2029 + 1)) a2031 l2031 c2031 p2032 _ _ R.sub))) N n2023 n2028 0 a2024 l2024 c2024 p2025 _ _ R.sub)))))
  (Hkx2 _ _ R.sub)))

theorem spec_ProcsOk_M_D {g0 m0 : H} {kr_1 : Bool → H → Prop} {kr_2 : Bool → H → Prop} (Hkr : ∀ (t200001 : Bool) (g m : H), Md g0 m0 g m [] → kr_2 t200001 m → kr_1 t200001 g) : ∀ (a1001 : Option Addr) (l1001 : Nat) (c1001 : Nat) (g m : H), Md g0 m0 g m [] → spec_ProcsOk_M kr_2 a1001 l1001 c1001 m → spec_ProcsOk kr_1 a1001 l1001 c1001 g := by
  intro a1001 l1001 c1001 g m R
  rw [spec_ProcsOk_M, spec_ProcsOk]
  exact (p_new R fun p1002 g R =>
  (p_ldL R rfl (d_if (Hkr false _ _ R.sub)
  (p_ldL R rfl (d_if (Hkr false _ _ R.sub)
  (p_ldL R rfl (d_req (d_nz fun b1003 o1004 =>
  (d_ldI R fun n1005 =>
  (d_if (Hkr false _ _ R.sub)
  (p_ldL R rfl (d_req (d_nz fun b1006 o1007 =>
  (d_ldI R fun n1008 =>
  (d_if (Hkr false _ _ R.sub)
  (p_ldL R rfl (d_req (d_nz fun b1009 o1010 =>
  (d_ldI R fun n1011 =>
  (d_if (Hkr false _ _ R.sub)
  (d_ex fun N => spec_ProcsOk_M_l0_D (by exact fun a1012 l1012 c1012 p1013 g m R =>
  (d_ex fun N => spec_ProcsOk_M_l1_D (by exact fun g m R =>
  (Hkr true _ _ R.sub))
  (by exact fun t1014 g m R =>
  (Hkr t1014 _ _ R.sub)) N 0 a1012 l1012 c1012 p1013 _ _ R.sub))
  (by exact fun t1015 g m R =>
  (Hkr t1015 _ _ R.sub)) N 0 a1001 l1001 c1001 p1002 _ _ R.sub)))))))))))))))))))))

theorem spec_ProcsOk_M_call {a1 : Option Addr} {l1 : Nat} {c1 : Nat} {h : H} {K : Value → H → Prop} (hs : spec_ProcsOk_M (fun t300001 h =>
  K (.bool t300001) h) a1 l1 c1 h) : callD Try.prog 9 ⟨[.agg ⟨[.slice a1 l1 c1]⟩]⟩ h K :=
  fun g r => spec_ProcsOk_call (spec_ProcsOk_M_D (by exact fun t300001 g m R =>
(fun h => ⟨m, R.af, h⟩)) _ _ _ _ _ (Md.start r) hs)

noncomputable def code10 : Code := codeOf Try.f10
theorem body10 : Try.f10.body = some code10 := by kernel_rfl
def impl_ProcStep (kr : Nat → Nat → H → Prop) (p_1 : Option Addr) (p_l1 : Nat) (p_c1 : Nat) (op_2 : Int) (op_3 : Int) (op_4 : Int) (op_5 : Int) (h : H) : Prop :=
  new h [.slice p_1 p_l1 p_c1] 27 fun b6 h =>
  new h [.int .i64 op_2, .int .i64 op_3, .int .i64 op_4, .int .i64 op_5] 30 fun b7 h =>
  new h [.slice none 0 0] 27 fun b8 h =>
  new h [.int .i64 0, .int .i64 0, .int .i64 0] 34 fun b9 h =>
  ldRow h b6 0 0 [.slice] fun a10 l10 c10 =>
  callK Try.prog 6 ⟨[.agg ⟨[.slice a10 l10 c10]⟩]⟩ h fun v11 h =>
  asB v11 fun t12 =>
  ifB (!t12)
  (stRow h b8 0 0 [.slice none 0 0] fun h =>
  stRow h b9 0 0 [.int .i64 0, .int .i64 0, .int .i64 0] fun h =>
  kr b8 b9 h)
  (ldL h b6 0 fun a13 l13 c13 =>
  appendK Try.prog 38 h none 0 0 (.slice a13 l13 c13) fun a14 l14 c14 h =>
  new h [.slice none 0 0] 27 fun b15 h =>
  stRow h b15 0 0 [.slice a14 l14 c14] fun h =>
  ldRow h b7 0 0 [.int .i64, .int .i64, .int .i64, .int .i64] fun n16 n17 n18 n19 =>
  callK Try.prog 26 ⟨[.pointer (some ⟨b15, 0, none⟩), .agg ⟨[.int .i64 n16, .int .i64 n17, .int .i64 n18, .int .i64 n19]⟩]⟩ h fun v20 h =>
  elF False (.agg [.int .i64, .int .i64, .int .i64]) v20 fun n21 n22 n23 =>
  new h [.int .i64 0, .int .i64 0, .int .i64 0] 34 fun b24 h =>
  stRow h b24 0 0 [.int .i64 n21, .int .i64 n22, .int .i64 n23] fun h =>
  ldI .i64 h b24 0 fun n25 =>
  ifB ((n25 : Int) != 0)
  (ldL h b6 0 fun a26 l26 c26 =>
  ldI .i64 h b24 0 fun n27 =>
  appendK Try.prog 38 h none 0 0 (.slice a26 l26 c26) fun a28 l28 c28 h =>
  cell h b24 0 = some (.int .i64 n27) ∧ (stRow h b8 0 0 [.slice a28 l28 c28] fun h =>
  cell h b24 0 = some (.int .i64 n27) ∧ (stRow h b9 0 0 [.int .i64 n27, .int .i64 0, .int .i64 0] fun h =>
  kr b8 b9 h)))
  (ldRow h b15 0 0 [.slice] fun a29 l29 c29 =>
  ldRow h b24 0 0 [.int .i64, .int .i64, .int .i64] fun n30 n31 n32 =>
  stRow h b8 0 0 [.slice a29 l29 c29] fun h =>
  heldRow h b24 0 0 [.int .i64 n30, .int .i64 n31, .int .i64 n32] (stRow h b9 0 0 [.int .i64 n30, .int .i64 n31, .int .i64 n32] fun h =>
  kr b8 b9 h)))

theorem impl_ProcStep_eq (K : Cont) (p_1 : Option Addr) (p_l1 : Nat) (p_c1 : Nat) (op_2 : Int) (op_3 : Int) (op_4 : Int) (op_5 : Int) (h : H) :
  impl_ProcStep (curV [(4, .blk), (5, .blk)] (K .ret)) p_1 p_l1 p_c1 op_2 op_3 op_4 op_5 h = evC Try.prog 31 [] [] code10 [(0, .agg ⟨[.slice p_1 p_l1 p_c1]⟩), (1, .agg ⟨[.int .i64 op_2, .int .i64 op_3, .int .i64 op_4, .int .i64 op_5]⟩)] h (outsOf none [] (some [(4, .blk), (5, .blk)]) K).K := by kernel_rfl

def impl_ProcStep_F : PT := mkF [(0, .agg [.slice]), (1, .agg [.int .i64, .int .i64, .int .i64, .int .i64])] fun K => impl_ProcStep (curV [(4, .blk), (5, .blk)] (K .ret))

theorem impl_ProcStep_V : Valid Try.prog 31 code10 impl_ProcStep_F :=
  piece mixed rows_nil (fun K => by intro p_1 p_l1 p_c1 op_2 op_3 op_4 op_5 h hd; exact (impl_ProcStep_eq K p_1 p_l1 p_c1 op_2 op_3 op_4 op_5 h) ▸ hd)

theorem impl_ProcStep_c0 (p_1 : Option Addr) (p_l1 : Nat) (p_c1 : Nat) (op_2 : Int) (op_3 : Int) (op_4 : Int) (op_5 : Int) (h : H) (K : Value → H → Prop) :
  impl_ProcStep (fun b100001 b100002 h =>
  ldRow h b100001 0 0 [.slice] fun a100003 l100003 c100003 =>
  ldRow h b100002 0 0 [.int .i64, .int .i64, .int .i64] fun n100004 n100005 n100006 =>
  K (.tuple ⟨[.agg ⟨[.slice a100003 l100003 c100003]⟩, .agg ⟨[.int .i64 n100004, .int .i64 n100005, .int .i64 n100006]⟩]⟩) h) p_1 p_l1 p_c1 op_2 op_3 op_4 op_5 h = callF Try.prog Try.f10.results.toList impl_ProcStep_F [.agg ⟨[.slice p_1 p_l1 p_c1]⟩, .agg ⟨[.int .i64 op_2, .int .i64 op_3, .int .i64 op_4, .int .i64 op_5]⟩] h K := by kernel_rfl

theorem impl_ProcStep_call {p_1 : Option Addr} {p_l1 : Nat} {p_c1 : Nat} {op_2 : Int} {op_3 : Int} {op_4 : Int} {op_5 : Int} {h : H} {K : Value → H → Prop} (hs : impl_ProcStep (fun b100001 b100002 h =>
  ldRow h b100001 0 0 [.slice] fun a100003 l100003 c100003 =>
  ldRow h b100002 0 0 [.int .i64, .int .i64, .int .i64] fun n100004 n100005 n100006 =>
  K (.tuple ⟨[.agg ⟨[.slice a100003 l100003 c100003]⟩, .agg ⟨[.int .i64 n100004, .int .i64 n100005, .int .i64 n100006]⟩]⟩) h) p_1 p_l1 p_c1 op_2 op_3 op_4 op_5 h) : callK Try.prog 10 ⟨[.agg ⟨[.slice p_1 p_l1 p_c1]⟩, .agg ⟨[.int .i64 op_2, .int .i64 op_3, .int .i64 op_4, .int .i64 op_5]⟩]⟩ h K :=
  func_calls Try.func10 body10 impl_ProcStep_V (Nat.le_of_ble_eq_true (by kernel_rfl)) (impl_ProcStep_c0 p_1 p_l1 p_c1 op_2 op_3 op_4 op_5 h K ▸ hs)

theorem o_el_AI3E {n0 : Int} {n1 : Int} {n2 : Int} {K : Int → Int → Int → Prop} (g : K n0 n1 n2) : elF False (.agg [.int .i64, .int .i64, .int .i64]) (.agg ⟨[.int .i64 n0, .int .i64 n1, .int .i64 n2]⟩) K := Eq.mpr (by kernel_rfl) g
theorem d_el_AI3E {v : Value} {K2 K1 : Int → Int → Int → Prop} (f : ∀ n0 n1 n2, K2 n0 n1 n2 → K1 n0 n1 n2) : elF False (.agg [.int .i64, .int .i64, .int .i64]) v K2 → elF False (.agg [.int .i64, .int .i64, .int .i64]) v K1 :=
  d_el (s := .agg [.int .i64, .int .i64, .int .i64]) (Eq.mpr (by kernel_rfl) f)
def impl_ProcStep_M (kr : Option Addr → Nat → Nat → Int → Int → Int → H → Prop) (p_1 : Option Addr) (p_l1 : Nat) (p_c1 : Nat) (op_2 : Int) (op_3 : Int) (op_4 : Int) (op_5 : Int) (h : H) : Prop :=
  callD Try.prog 6 ⟨[.agg ⟨[.slice p_1 p_l1 p_c1]⟩]⟩ h fun v6 h =>
  asB v6 fun t7 =>
  ifB (!t7)
  (kr none 0 0 0 0 0 h)
  (appendD Try.prog 38 h none 0 0 (.slice p_1 p_l1 p_c1) fun a8 l8 c8 h =>
  newD h [.slice none 0 0] 27 fun b9 h =>
  stRow h b9 0 0 [.slice a8 l8 c8] fun h =>
  callD Try.prog 26 ⟨[.pointer (some ⟨b9, 0, none⟩), .agg ⟨[.int .i64 op_2, .int .i64 op_3, .int .i64 op_4, .int .i64 op_5]⟩]⟩ h fun v10 h =>
  elF False (.agg [.int .i64, .int .i64, .int .i64]) v10 fun n11 n12 n13 =>
  ifB ((n11 : Int) != 0)
  (appendD Try.prog 38 h none 0 0 (.slice p_1 p_l1 p_c1) fun a14 l14 c14 h =>
  kr a14 l14 c14 n11 0 0 h)
  (ldRow h b9 0 0 [.slice] fun a15 l15 c15 =>
  kr a15 l15 c15 n11 n12 n13 h))

theorem impl_ProcStep_M_D {g0 m0 : H} {kr_1 : Nat → Nat → H → Prop} {kr_2 : Option Addr → Nat → Nat → Int → Int → Int → H → Prop} (Hkr : ∀ (a200001 : Option Addr) (l200001 : Nat) (c200001 : Nat) (n200003 : Int) (n200004 : Int) (n200005 : Int) (p200002 : Nat) (p200006 : Nat) (g m : H), Md g0 m0 g m [lo p200002 [.slice a200001 l200001 c200001], lo p200006 [.int .i64 n200003, .int .i64 n200004, .int .i64 n200005]] → kr_2 a200001 l200001 c200001 n200003 n200004 n200005 m → kr_1 p200002 p200006 g) : ∀ (p_1001 : Option Addr) (p_l1001 : Nat) (p_c1001 : Nat) (op_1002 : Int) (op_1003 : Int) (op_1004 : Int) (op_1005 : Int) (g m : H), Md g0 m0 g m [] → impl_ProcStep_M kr_2 p_1001 p_l1001 p_c1001 op_1002 op_1003 op_1004 op_1005 m → impl_ProcStep kr_1 p_1001 p_l1001 p_c1001 op_1002 op_1003 op_1004 op_1005 g := by
  intro p_1001 p_l1001 p_c1001 op_1002 op_1003 op_1004 op_1005 g m R
  rw [impl_ProcStep_M, impl_ProcStep]
  exact (p_new R fun p1006 g R =>
  (p_new R fun p1007 g R =>
  (p_new R fun p1008 g R =>
  (p_new R fun p1009 g R =>
  (p_row_L R rfl (d_call R fun v1010 g m R =>
  (d_asB fun t1011 =>
  (d_if (p_stRow R (cs' := [.slice none 0 0]) ⟨rfl, rfl, rfl⟩ fun g R =>
  (p_stRow R (cs' := [.int .i64 0, .int .i64 0, .int .i64 0]) ⟨rfl, rfl, rfl⟩ fun g R =>
  (Hkr none 0 0 0 0 0 p1008 p1009 _ _ R.sub)))
  (p_ldL R rfl (d_append R fun a1012 l1012 c1012 g m R =>
  (d_new R fun b1013 g m R =>
  (d_stRow R fun g m R =>
  (p_row_I4 R rfl rfl rfl rfl (d_call R fun v1014 g m R =>
  (d_el_AI3E fun n1015 n1016 n1017 =>
  (p_new R fun p1018 g R =>
  (p_stRow R (cs' := [.int .i64 n1015, .int .i64 n1016, .int .i64 n1017]) ⟨rfl, rfl, rfl⟩ fun g R =>
  (p_ldI R rfl (d_if (p_ldL R rfl (p_ldI R rfl (d_append R fun a1019 l1019 c1019 g m R =>
  (p_cell R rfl (p_stRow R (cs' := [.slice a1019 l1019 c1019]) ⟨rfl, rfl, rfl⟩ fun g R =>
  (p_cell R rfl (p_stRow R (cs' := [.int .i64 n1015, .int .i64 0, .int .i64 0]) ⟨rfl, rfl, rfl⟩ fun g R =>
  (Hkr a1019 l1019 c1019 n1015 0 0 p1008 p1009 _ _ R.sub))))))))
  (d_row_L R fun a1020 l1020 c1020 =>
  (p_row_I3 R rfl rfl rfl (p_stRow R (cs' := [.slice a1020 l1020 c1020]) ⟨rfl, rfl, rfl⟩ fun g R =>
  (p_held R rfl (p_stRow R (cs' := [.int .i64 n1015, .int .i64 n1016, .int .i64 n1017]) ⟨rfl, rfl, rfl⟩ fun g R =>
  (Hkr a1020 l1020 c1020 n1015 n1016 n1017 p1008 p1009 _ _ R.sub)))))))))))))))))))))))))

theorem impl_ProcStep_M_call {p_1 : Option Addr} {p_l1 : Nat} {p_c1 : Nat} {op_2 : Int} {op_3 : Int} {op_4 : Int} {op_5 : Int} {h : H} {K : Value → H → Prop} (hs : impl_ProcStep_M (fun a300001 l300001 c300001 n300003 n300004 n300005 h =>
  K (.tuple ⟨[.agg ⟨[.slice a300001 l300001 c300001]⟩, .agg ⟨[.int .i64 n300003, .int .i64 n300004, .int .i64 n300005]⟩]⟩) h) p_1 p_l1 p_c1 op_2 op_3 op_4 op_5 h) : callD Try.prog 10 ⟨[.agg ⟨[.slice p_1 p_l1 p_c1]⟩, .agg ⟨[.int .i64 op_2, .int .i64 op_3, .int .i64 op_4, .int .i64 op_5]⟩]⟩ h K :=
  fun g r => impl_ProcStep_call (impl_ProcStep_M_D (by exact fun a300001 l300001 c300001 n300003 n300004 n300005 p300002 p300006 g m R =>
(p_row_L R rfl (p_row_I3 R rfl rfl rfl (fun h => ⟨m, R.af, h⟩)))) _ _ _ _ _ _ _ _ _ (Md.start r) hs)

noncomputable def code11 : Code := codeOf Try.f11
theorem body11 : Try.f11.body = some code11 := by kernel_rfl
def spec_ProcStep (kr : Nat → Nat → H → Prop) (p_1 : Option Addr) (p_l1 : Nat) (p_c1 : Nat) (op_2 : Int) (op_3 : Int) (op_4 : Int) (op_5 : Int) (h : H) : Prop :=
  new h [.slice p_1 p_l1 p_c1] 27 fun b6 h =>
  new h [.int .i64 op_2, .int .i64 op_3, .int .i64 op_4, .int .i64 op_5] 30 fun b7 h =>
  new h [.slice none 0 0] 27 fun b8 h =>
  new h [.int .i64 0, .int .i64 0, .int .i64 0] 34 fun b9 h =>
  ldRow h b6 0 0 [.slice] fun a10 l10 c10 =>
  callK Try.prog 9 ⟨[.agg ⟨[.slice a10 l10 c10]⟩]⟩ h fun v11 h =>
  asB v11 fun t12 =>
  ifB (!t12)
  (stRow h b8 0 0 [.slice none 0 0] fun h =>
  stRow h b9 0 0 [.int .i64 0, .int .i64 0, .int .i64 0] fun h =>
  kr b8 b9 h)
  (ldRow h b6 0 0 [.slice] fun a13 l13 c13 =>
  ldRow h b7 0 0 [.int .i64, .int .i64, .int .i64, .int .i64] fun n14 n15 n16 n17 =>
  callK Try.prog 28 ⟨[.agg ⟨[.slice a13 l13 c13]⟩]⟩ h fun v18 h =>
  elF False (.agg [.slice]) v18 fun a19 l19 c19 =>
  heldRow h b7 0 0 [.int .i64 n14, .int .i64 n15, .int .i64 n16, .int .i64 n17] (callK Try.prog 27 ⟨[.agg ⟨[.slice a19 l19 c19]⟩, .agg ⟨[.int .i64 n14, .int .i64 n15, .int .i64 n16, .int .i64 n17]⟩]⟩ h fun v20 h =>
  elF False (.tuple [.agg [.slice], .agg [.int .i64, .int .i64, .int .i64]]) v20 fun a21 l21 c21 n22 n23 n24 =>
  stRow h b8 0 0 [.slice a21 l21 c21] fun h =>
  stRow h b9 0 0 [.int .i64 n22, .int .i64 n23, .int .i64 n24] fun h =>
  kr b8 b9 h))

theorem spec_ProcStep_eq (K : Cont) (p_1 : Option Addr) (p_l1 : Nat) (p_c1 : Nat) (op_2 : Int) (op_3 : Int) (op_4 : Int) (op_5 : Int) (h : H) :
  spec_ProcStep (curV [(4, .blk), (5, .blk)] (K .ret)) p_1 p_l1 p_c1 op_2 op_3 op_4 op_5 h = evC Try.prog 17 [] [] code11 [(0, .agg ⟨[.slice p_1 p_l1 p_c1]⟩), (1, .agg ⟨[.int .i64 op_2, .int .i64 op_3, .int .i64 op_4, .int .i64 op_5]⟩)] h (outsOf none [] (some [(4, .blk), (5, .blk)]) K).K := by kernel_rfl

def spec_ProcStep_F : PT := mkF [(0, .agg [.slice]), (1, .agg [.int .i64, .int .i64, .int .i64, .int .i64])] fun K => spec_ProcStep (curV [(4, .blk), (5, .blk)] (K .ret))

theorem spec_ProcStep_V : Valid Try.prog 17 code11 spec_ProcStep_F :=
  piece mixed rows_nil (fun K => by intro p_1 p_l1 p_c1 op_2 op_3 op_4 op_5 h hd; exact (spec_ProcStep_eq K p_1 p_l1 p_c1 op_2 op_3 op_4 op_5 h) ▸ hd)

theorem spec_ProcStep_c0 (p_1 : Option Addr) (p_l1 : Nat) (p_c1 : Nat) (op_2 : Int) (op_3 : Int) (op_4 : Int) (op_5 : Int) (h : H) (K : Value → H → Prop) :
  spec_ProcStep (fun b100001 b100002 h =>
  ldRow h b100001 0 0 [.slice] fun a100003 l100003 c100003 =>
  ldRow h b100002 0 0 [.int .i64, .int .i64, .int .i64] fun n100004 n100005 n100006 =>
  K (.tuple ⟨[.agg ⟨[.slice a100003 l100003 c100003]⟩, .agg ⟨[.int .i64 n100004, .int .i64 n100005, .int .i64 n100006]⟩]⟩) h) p_1 p_l1 p_c1 op_2 op_3 op_4 op_5 h = callF Try.prog Try.f11.results.toList spec_ProcStep_F [.agg ⟨[.slice p_1 p_l1 p_c1]⟩, .agg ⟨[.int .i64 op_2, .int .i64 op_3, .int .i64 op_4, .int .i64 op_5]⟩] h K := by kernel_rfl

theorem spec_ProcStep_call {p_1 : Option Addr} {p_l1 : Nat} {p_c1 : Nat} {op_2 : Int} {op_3 : Int} {op_4 : Int} {op_5 : Int} {h : H} {K : Value → H → Prop} (hs : spec_ProcStep (fun b100001 b100002 h =>
  ldRow h b100001 0 0 [.slice] fun a100003 l100003 c100003 =>
  ldRow h b100002 0 0 [.int .i64, .int .i64, .int .i64] fun n100004 n100005 n100006 =>
  K (.tuple ⟨[.agg ⟨[.slice a100003 l100003 c100003]⟩, .agg ⟨[.int .i64 n100004, .int .i64 n100005, .int .i64 n100006]⟩]⟩) h) p_1 p_l1 p_c1 op_2 op_3 op_4 op_5 h) : callK Try.prog 11 ⟨[.agg ⟨[.slice p_1 p_l1 p_c1]⟩, .agg ⟨[.int .i64 op_2, .int .i64 op_3, .int .i64 op_4, .int .i64 op_5]⟩]⟩ h K :=
  func_calls Try.func11 body11 spec_ProcStep_V (Nat.le_of_ble_eq_true (by kernel_rfl)) (spec_ProcStep_c0 p_1 p_l1 p_c1 op_2 op_3 op_4 op_5 h K ▸ hs)

def spec_ProcStep_M (kr : Option Addr → Nat → Nat → Int → Int → Int → H → Prop) (p_1 : Option Addr) (p_l1 : Nat) (p_c1 : Nat) (op_2 : Int) (op_3 : Int) (op_4 : Int) (op_5 : Int) (h : H) : Prop :=
  callD Try.prog 9 ⟨[.agg ⟨[.slice p_1 p_l1 p_c1]⟩]⟩ h fun v6 h =>
  asB v6 fun t7 =>
  ifB (!t7)
  (kr none 0 0 0 0 0 h)
  (callD Try.prog 28 ⟨[.agg ⟨[.slice p_1 p_l1 p_c1]⟩]⟩ h fun v8 h =>
  elF False (.agg [.slice]) v8 fun a9 l9 c9 =>
  callD Try.prog 27 ⟨[.agg ⟨[.slice a9 l9 c9]⟩, .agg ⟨[.int .i64 op_2, .int .i64 op_3, .int .i64 op_4, .int .i64 op_5]⟩]⟩ h fun v10 h =>
  elF False (.tuple [.agg [.slice], .agg [.int .i64, .int .i64, .int .i64]]) v10 fun a11 l11 c11 n12 n13 n14 =>
  kr a11 l11 c11 n12 n13 n14 h)

theorem spec_ProcStep_M_D {g0 m0 : H} {kr_1 : Nat → Nat → H → Prop} {kr_2 : Option Addr → Nat → Nat → Int → Int → Int → H → Prop} (Hkr : ∀ (a200001 : Option Addr) (l200001 : Nat) (c200001 : Nat) (n200003 : Int) (n200004 : Int) (n200005 : Int) (p200002 : Nat) (p200006 : Nat) (g m : H), Md g0 m0 g m [lo p200002 [.slice a200001 l200001 c200001], lo p200006 [.int .i64 n200003, .int .i64 n200004, .int .i64 n200005]] → kr_2 a200001 l200001 c200001 n200003 n200004 n200005 m → kr_1 p200002 p200006 g) : ∀ (p_1001 : Option Addr) (p_l1001 : Nat) (p_c1001 : Nat) (op_1002 : Int) (op_1003 : Int) (op_1004 : Int) (op_1005 : Int) (g m : H), Md g0 m0 g m [] → spec_ProcStep_M kr_2 p_1001 p_l1001 p_c1001 op_1002 op_1003 op_1004 op_1005 m → spec_ProcStep kr_1 p_1001 p_l1001 p_c1001 op_1002 op_1003 op_1004 op_1005 g := by
  intro p_1001 p_l1001 p_c1001 op_1002 op_1003 op_1004 op_1005 g m R
  rw [spec_ProcStep_M, spec_ProcStep]
  exact (p_new R fun p1006 g R =>
  (p_new R fun p1007 g R =>
  (p_new R fun p1008 g R =>
  (p_new R fun p1009 g R =>
  (p_row_L R rfl (d_call R fun v1010 g m R =>
  (d_asB fun t1011 =>
  (d_if (p_stRow R (cs' := [.slice none 0 0]) ⟨rfl, rfl, rfl⟩ fun g R =>
  (p_stRow R (cs' := [.int .i64 0, .int .i64 0, .int .i64 0]) ⟨rfl, rfl, rfl⟩ fun g R =>
  (Hkr none 0 0 0 0 0 p1008 p1009 _ _ R.sub)))
  (p_row_L R rfl (p_row_I4 R rfl rfl rfl rfl (d_call R fun v1012 g m R =>
  (d_el_ALE fun a1013 l1013 c1013 =>
  (p_held R rfl (d_call R fun v1014 g m R =>
  (d_el_TALEAI3EE fun a1015 l1015 c1015 n1016 n1017 n1018 =>
  (p_stRow R (cs' := [.slice a1015 l1015 c1015]) ⟨rfl, rfl, rfl⟩ fun g R =>
  (p_stRow R (cs' := [.int .i64 n1016, .int .i64 n1017, .int .i64 n1018]) ⟨rfl, rfl, rfl⟩ fun g R =>
  (Hkr a1015 l1015 c1015 n1016 n1017 n1018 p1008 p1009 _ _ R.sub))))))))))))))))))

theorem spec_ProcStep_M_call {p_1 : Option Addr} {p_l1 : Nat} {p_c1 : Nat} {op_2 : Int} {op_3 : Int} {op_4 : Int} {op_5 : Int} {h : H} {K : Value → H → Prop} (hs : spec_ProcStep_M (fun a300001 l300001 c300001 n300003 n300004 n300005 h =>
  K (.tuple ⟨[.agg ⟨[.slice a300001 l300001 c300001]⟩, .agg ⟨[.int .i64 n300003, .int .i64 n300004, .int .i64 n300005]⟩]⟩) h) p_1 p_l1 p_c1 op_2 op_3 op_4 op_5 h) : callD Try.prog 11 ⟨[.agg ⟨[.slice p_1 p_l1 p_c1]⟩, .agg ⟨[.int .i64 op_2, .int .i64 op_3, .int .i64 op_4, .int .i64 op_5]⟩]⟩ h K :=
  fun g r => spec_ProcStep_call (spec_ProcStep_M_D (by exact fun a300001 l300001 c300001 n300003 n300004 n300005 p300002 p300006 g m R =>
(p_row_L R rfl (p_row_I3 R rfl rfl rfl (fun h => ⟨m, R.af, h⟩)))) _ _ _ _ _ _ _ _ _ (Md.start r) hs)

noncomputable def code12 : Code := codeOf Try.f12
theorem body12 : Try.f12.body = some code12 := by kernel_rfl
def laws_szProcs (kr : Int → H → Prop) (a_1 : Option Addr) (a_l1 : Nat) (a_c1 : Nat) (left_2 : Int) (h : H) : Prop :=
  new h [.slice a_1 a_l1 a_c1] 41 fun b3 h =>
  ldL h b3 0 fun a4 l4 c4 =>
  callK Try.prog 29 ⟨[.slice a4 l4 c4, .int .i64 left_2]⟩ h fun v5 h =>
  asI .i64 v5 fun n6 =>
  ifB (decide ((n6 : Int) < 0))
  (kr (-1) h)
  (kr n6 h)

theorem laws_szProcs_eq (K : Cont) (a_1 : Option Addr) (a_l1 : Nat) (a_c1 : Nat) (left_2 : Int) (h : H) :
  laws_szProcs (curV [(4, .int .i64)] (K .ret)) a_1 a_l1 a_c1 left_2 h = evC Try.prog 12 [] [] code12 [(0, .agg ⟨[.slice a_1 a_l1 a_c1]⟩), (1, .int .i64 left_2)] h (outsOf none [] (some [(4, .int .i64)]) K).K := by kernel_rfl

def laws_szProcs_F : PT := mkF [(0, .agg [.slice]), (1, .int .i64)] fun K => laws_szProcs (curV [(4, .int .i64)] (K .ret))

theorem laws_szProcs_V : Valid Try.prog 12 code12 laws_szProcs_F :=
  piece mixed rows_nil (fun K => by intro a_1 a_l1 a_c1 left_2 h hd; exact (laws_szProcs_eq K a_1 a_l1 a_c1 left_2 h) ▸ hd)

theorem laws_szProcs_c0 (a_1 : Option Addr) (a_l1 : Nat) (a_c1 : Nat) (left_2 : Int) (h : H) (K : Value → H → Prop) :
  laws_szProcs (fun n100001 h =>
  K (.int .i64 n100001) h) a_1 a_l1 a_c1 left_2 h = callF Try.prog Try.f12.results.toList laws_szProcs_F [.agg ⟨[.slice a_1 a_l1 a_c1]⟩, .int .i64 left_2] h K := by kernel_rfl

theorem laws_szProcs_call {a_1 : Option Addr} {a_l1 : Nat} {a_c1 : Nat} {left_2 : Int} {h : H} {K : Value → H → Prop} (hs : laws_szProcs (fun n100001 h =>
  K (.int .i64 n100001) h) a_1 a_l1 a_c1 left_2 h) : callK Try.prog 12 ⟨[.agg ⟨[.slice a_1 a_l1 a_c1]⟩, .int .i64 left_2]⟩ h K :=
  func_calls Try.func12 body12 laws_szProcs_V (Nat.le_of_ble_eq_true (by kernel_rfl)) (laws_szProcs_c0 a_1 a_l1 a_c1 left_2 h K ▸ hs)

def laws_szProcs_M (kr : Int → H → Prop) (a_1 : Option Addr) (a_l1 : Nat) (a_c1 : Nat) (left_2 : Int) (h : H) : Prop :=
  callD Try.prog 29 ⟨[.slice a_1 a_l1 a_c1, .int .i64 left_2]⟩ h fun v3 h =>
  asI .i64 v3 fun n4 =>
  ifB (decide ((n4 : Int) < 0))
  (kr (-1) h)
  (kr n4 h)

theorem laws_szProcs_M_D {g0 m0 : H} {kr_1 : Int → H → Prop} {kr_2 : Int → H → Prop} (Hkr : ∀ (n200001 : Int) (g m : H), Md g0 m0 g m [] → kr_2 n200001 m → kr_1 n200001 g) : ∀ (a_1001 : Option Addr) (a_l1001 : Nat) (a_c1001 : Nat) (left_1002 : Int) (g m : H), Md g0 m0 g m [] → laws_szProcs_M kr_2 a_1001 a_l1001 a_c1001 left_1002 m → laws_szProcs kr_1 a_1001 a_l1001 a_c1001 left_1002 g := by
  intro a_1001 a_l1001 a_c1001 left_1002 g m R
  rw [laws_szProcs_M, laws_szProcs]
  exact (p_new R fun p1003 g R =>
  (p_ldL R rfl (d_call R fun v1004 g m R =>
  (d_asI fun n1005 =>
  (d_if (Hkr (-1) _ _ R.sub)
  (Hkr n1005 _ _ R.sub))))))

theorem laws_szProcs_M_call {a_1 : Option Addr} {a_l1 : Nat} {a_c1 : Nat} {left_2 : Int} {h : H} {K : Value → H → Prop} (hs : laws_szProcs_M (fun n300001 h =>
  K (.int .i64 n300001) h) a_1 a_l1 a_c1 left_2 h) : callD Try.prog 12 ⟨[.agg ⟨[.slice a_1 a_l1 a_c1]⟩, .int .i64 left_2]⟩ h K :=
  fun g r => laws_szProcs_call (laws_szProcs_M_D (by exact fun n300001 g m R =>
(fun h => ⟨m, R.af, h⟩)) _ _ _ _ _ _ (Md.start r) hs)

noncomputable def code13 : Code := codeOf Try.f13
theorem body13 : Try.f13.body = some code13 := by kernel_rfl
def laws_toProcs (kr : Nat → H → Prop) (a_1 : Option Addr) (a_l1 : Nat) (a_c1 : Nat) (h : H) : Prop :=
  new h [.slice a_1 a_l1 a_c1] 41 fun b2 h =>
  new h [.slice none 0 0] 27 fun b3 h =>
  new h [.slice none 0 0] 27 fun b4 h =>
  ldL h b2 0 fun a5 l5 c5 =>
  callK Try.prog 30 ⟨[.slice a5 l5 c5]⟩ h fun v6 h =>
  asL v6 fun a7 l7 c7 =>
  st h b4 0 (.slice a7 l7 c7) fun h =>
  ldRow h b4 0 0 [.slice] fun a8 l8 c8 =>
  stRow h b3 0 0 [.slice a8 l8 c8] fun h =>
  kr b3 h

theorem laws_toProcs_eq (K : Cont) (a_1 : Option Addr) (a_l1 : Nat) (a_c1 : Nat) (h : H) :
  laws_toProcs (curV [(2, .blk)] (K .ret)) a_1 a_l1 a_c1 h = evC Try.prog 9 [] [] code13 [(0, .agg ⟨[.slice a_1 a_l1 a_c1]⟩)] h (outsOf none [] (some [(2, .blk)]) K).K := by kernel_rfl

def laws_toProcs_F : PT := mkF [(0, .agg [.slice])] fun K => laws_toProcs (curV [(2, .blk)] (K .ret))

theorem laws_toProcs_V : Valid Try.prog 9 code13 laws_toProcs_F :=
  piece mixed rows_nil (fun K => by intro a_1 a_l1 a_c1 h hd; exact (laws_toProcs_eq K a_1 a_l1 a_c1 h) ▸ hd)

theorem laws_toProcs_c0 (a_1 : Option Addr) (a_l1 : Nat) (a_c1 : Nat) (h : H) (K : Value → H → Prop) :
  laws_toProcs (fun b100001 h =>
  ldRow h b100001 0 0 [.slice] fun a100002 l100002 c100002 =>
  K (.agg ⟨[.slice a100002 l100002 c100002]⟩) h) a_1 a_l1 a_c1 h = callF Try.prog Try.f13.results.toList laws_toProcs_F [.agg ⟨[.slice a_1 a_l1 a_c1]⟩] h K := by kernel_rfl

theorem laws_toProcs_call {a_1 : Option Addr} {a_l1 : Nat} {a_c1 : Nat} {h : H} {K : Value → H → Prop} (hs : laws_toProcs (fun b100001 h =>
  ldRow h b100001 0 0 [.slice] fun a100002 l100002 c100002 =>
  K (.agg ⟨[.slice a100002 l100002 c100002]⟩) h) a_1 a_l1 a_c1 h) : callK Try.prog 13 ⟨[.agg ⟨[.slice a_1 a_l1 a_c1]⟩]⟩ h K :=
  func_calls Try.func13 body13 laws_toProcs_V (Nat.le_of_ble_eq_true (by kernel_rfl)) (laws_toProcs_c0 a_1 a_l1 a_c1 h K ▸ hs)

def laws_toProcs_M (kr : Option Addr → Nat → Nat → H → Prop) (a_1 : Option Addr) (a_l1 : Nat) (a_c1 : Nat) (h : H) : Prop :=
  callD Try.prog 30 ⟨[.slice a_1 a_l1 a_c1]⟩ h fun v2 h =>
  asL v2 fun a3 l3 c3 =>
  kr a3 l3 c3 h

theorem laws_toProcs_M_D {g0 m0 : H} {kr_1 : Nat → H → Prop} {kr_2 : Option Addr → Nat → Nat → H → Prop} (Hkr : ∀ (a200001 : Option Addr) (l200001 : Nat) (c200001 : Nat) (p200002 : Nat) (g m : H), Md g0 m0 g m [lo p200002 [.slice a200001 l200001 c200001]] → kr_2 a200001 l200001 c200001 m → kr_1 p200002 g) : ∀ (a_1001 : Option Addr) (a_l1001 : Nat) (a_c1001 : Nat) (g m : H), Md g0 m0 g m [] → laws_toProcs_M kr_2 a_1001 a_l1001 a_c1001 m → laws_toProcs kr_1 a_1001 a_l1001 a_c1001 g := by
  intro a_1001 a_l1001 a_c1001 g m R
  rw [laws_toProcs_M, laws_toProcs]
  exact (p_new R fun p1002 g R =>
  (p_new R fun p1003 g R =>
  (p_new R fun p1004 g R =>
  (p_ldL R rfl (d_call R fun v1005 g m R =>
  (d_asL fun a1006 l1006 c1006 =>
  (p_st R (cs' := [.slice a1006 l1006 c1006]) ⟨rfl, rfl⟩ fun g R =>
  (p_row_L R rfl (p_stRow R (cs' := [.slice a1006 l1006 c1006]) ⟨rfl, rfl, rfl⟩ fun g R =>
  (Hkr a1006 l1006 c1006 p1003 _ _ R.sub))))))))))

theorem laws_toProcs_M_call {a_1 : Option Addr} {a_l1 : Nat} {a_c1 : Nat} {h : H} {K : Value → H → Prop} (hs : laws_toProcs_M (fun a300001 l300001 c300001 h =>
  K (.agg ⟨[.slice a300001 l300001 c300001]⟩) h) a_1 a_l1 a_c1 h) : callD Try.prog 13 ⟨[.agg ⟨[.slice a_1 a_l1 a_c1]⟩]⟩ h K :=
  fun g r => laws_toProcs_call (laws_toProcs_M_D (by exact fun a300001 l300001 c300001 p300002 g m R =>
(p_row_L R rfl (fun h => ⟨m, R.af, h⟩))) _ _ _ _ _ (Md.start r) hs)

noncomputable def code14 : Code := codeOf Try.f14
theorem body14 : Try.f14.body = some code14 := by kernel_rfl
def laws_toProcOp (kr : Nat → H → Prop) (a_1 : Int) (a_2 : Int) (a_3 : Int) (a_4 : Int) (h : H) : Prop :=
  new h [.int .i64 a_1, .int .i64 a_2, .int .i64 a_3, .int .i64 a_4] 42 fun b5 h =>
  new h [.int .i64 0, .int .i64 0, .int .i64 0, .int .i64 0] 30 fun b6 h =>
  new h [.int .i64 0, .int .i64 0, .int .i64 0, .int .i64 0] 30 fun b7 h =>
  ldI .i64 h b5 0 fun n8 =>
  st h b7 0 (.int .i64 n8) fun h =>
  ldI .i64 h b5 1 fun n9 =>
  st h b7 1 (.int .i64 n9) fun h =>
  ldI .i64 h b5 2 fun n10 =>
  st h b7 2 (.int .i64 n10) fun h =>
  ldI .i64 h b5 3 fun n11 =>
  st h b7 3 (.int .i64 n11) fun h =>
  ldRow h b7 0 0 [.int .i64, .int .i64, .int .i64, .int .i64] fun n12 n13 n14 n15 =>
  stRow h b6 0 0 [.int .i64 n12, .int .i64 n13, .int .i64 n14, .int .i64 n15] fun h =>
  kr b6 h

theorem laws_toProcOp_eq (K : Cont) (a_1 : Int) (a_2 : Int) (a_3 : Int) (a_4 : Int) (h : H) :
  laws_toProcOp (curV [(2, .blk)] (K .ret)) a_1 a_2 a_3 a_4 h = evC Try.prog 17 [] [] code14 [(0, .agg ⟨[.int .i64 a_1, .int .i64 a_2, .int .i64 a_3, .int .i64 a_4]⟩)] h (outsOf none [] (some [(2, .blk)]) K).K := by kernel_rfl

def laws_toProcOp_F : PT := mkF [(0, .agg [.int .i64, .int .i64, .int .i64, .int .i64])] fun K => laws_toProcOp (curV [(2, .blk)] (K .ret))

theorem laws_toProcOp_V : Valid Try.prog 17 code14 laws_toProcOp_F :=
  piece mixed rows_nil (fun K => by intro a_1 a_2 a_3 a_4 h hd; exact (laws_toProcOp_eq K a_1 a_2 a_3 a_4 h) ▸ hd)

theorem laws_toProcOp_c0 (a_1 : Int) (a_2 : Int) (a_3 : Int) (a_4 : Int) (h : H) (K : Value → H → Prop) :
  laws_toProcOp (fun b100001 h =>
  ldRow h b100001 0 0 [.int .i64, .int .i64, .int .i64, .int .i64] fun n100002 n100003 n100004 n100005 =>
  K (.agg ⟨[.int .i64 n100002, .int .i64 n100003, .int .i64 n100004, .int .i64 n100005]⟩) h) a_1 a_2 a_3 a_4 h = callF Try.prog Try.f14.results.toList laws_toProcOp_F [.agg ⟨[.int .i64 a_1, .int .i64 a_2, .int .i64 a_3, .int .i64 a_4]⟩] h K := by kernel_rfl

theorem laws_toProcOp_call {a_1 : Int} {a_2 : Int} {a_3 : Int} {a_4 : Int} {h : H} {K : Value → H → Prop} (hs : laws_toProcOp (fun b100001 h =>
  ldRow h b100001 0 0 [.int .i64, .int .i64, .int .i64, .int .i64] fun n100002 n100003 n100004 n100005 =>
  K (.agg ⟨[.int .i64 n100002, .int .i64 n100003, .int .i64 n100004, .int .i64 n100005]⟩) h) a_1 a_2 a_3 a_4 h) : callK Try.prog 14 ⟨[.agg ⟨[.int .i64 a_1, .int .i64 a_2, .int .i64 a_3, .int .i64 a_4]⟩]⟩ h K :=
  func_calls Try.func14 body14 laws_toProcOp_V (Nat.le_of_ble_eq_true (by kernel_rfl)) (laws_toProcOp_c0 a_1 a_2 a_3 a_4 h K ▸ hs)

def laws_toProcOp_M (kr : Int → Int → Int → Int → H → Prop) (a_1 : Int) (a_2 : Int) (a_3 : Int) (a_4 : Int) (h : H) : Prop :=
  kr a_1 a_2 a_3 a_4 h

theorem laws_toProcOp_M_D {g0 m0 : H} {kr_1 : Nat → H → Prop} {kr_2 : Int → Int → Int → Int → H → Prop} (Hkr : ∀ (n200001 : Int) (n200002 : Int) (n200003 : Int) (n200004 : Int) (p200005 : Nat) (g m : H), Md g0 m0 g m [lo p200005 [.int .i64 n200001, .int .i64 n200002, .int .i64 n200003, .int .i64 n200004]] → kr_2 n200001 n200002 n200003 n200004 m → kr_1 p200005 g) : ∀ (a_1001 : Int) (a_1002 : Int) (a_1003 : Int) (a_1004 : Int) (g m : H), Md g0 m0 g m [] → laws_toProcOp_M kr_2 a_1001 a_1002 a_1003 a_1004 m → laws_toProcOp kr_1 a_1001 a_1002 a_1003 a_1004 g := by
  intro a_1001 a_1002 a_1003 a_1004 g m R
  rw [laws_toProcOp_M, laws_toProcOp]
  exact (p_new R fun p1005 g R =>
  (p_new R fun p1006 g R =>
  (p_new R fun p1007 g R =>
  (p_ldI R rfl (p_st R (cs' := [.int .i64 a_1001, .int .i64 0, .int .i64 0, .int .i64 0]) ⟨rfl, rfl⟩ fun g R =>
  (p_ldI R rfl (p_st R (cs' := [.int .i64 a_1001, .int .i64 a_1002, .int .i64 0, .int .i64 0]) ⟨rfl, rfl⟩ fun g R =>
  (p_ldI R rfl (p_st R (cs' := [.int .i64 a_1001, .int .i64 a_1002, .int .i64 a_1003, .int .i64 0]) ⟨rfl, rfl⟩ fun g R =>
  (p_ldI R rfl (p_st R (cs' := [.int .i64 a_1001, .int .i64 a_1002, .int .i64 a_1003, .int .i64 a_1004]) ⟨rfl, rfl⟩ fun g R =>
  (p_row_I4 R rfl rfl rfl rfl (p_stRow R (cs' := [.int .i64 a_1001, .int .i64 a_1002, .int .i64 a_1003, .int .i64 a_1004]) ⟨rfl, rfl, rfl⟩ fun g R =>
  (Hkr a_1001 a_1002 a_1003 a_1004 p1006 _ _ R.sub))))))))))))))

theorem laws_toProcOp_M_call {a_1 : Int} {a_2 : Int} {a_3 : Int} {a_4 : Int} {h : H} {K : Value → H → Prop} (hs : laws_toProcOp_M (fun n300001 n300002 n300003 n300004 h =>
  K (.agg ⟨[.int .i64 n300001, .int .i64 n300002, .int .i64 n300003, .int .i64 n300004]⟩) h) a_1 a_2 a_3 a_4 h) : callD Try.prog 14 ⟨[.agg ⟨[.int .i64 a_1, .int .i64 a_2, .int .i64 a_3, .int .i64 a_4]⟩]⟩ h K :=
  fun g r => laws_toProcOp_call (laws_toProcOp_M_D (by exact fun n300001 n300002 n300003 n300004 p300005 g m R =>
(p_row_I4 R rfl rfl rfl rfl (fun h => ⟨m, R.af, h⟩))) _ _ _ _ _ _ (Md.start r) hs)

noncomputable def code15 : Code := codeOf Try.f15
theorem body15 : Try.f15.body = some code15 := by kernel_rfl
def laws_eqProcs (kr : Bool → H → Prop) (a_1 : Option Addr) (a_l1 : Nat) (a_c1 : Nat) (b_2 : Option Addr) (b_l2 : Nat) (b_c2 : Nat) (h : H) : Prop :=
  new h [.slice a_1 a_l1 a_c1] 27 fun b3 h =>
  new h [.slice b_2 b_l2 b_c2] 27 fun b4 h =>
  ldL h b3 0 fun a5 l5 c5 =>
  ldL h b4 0 fun a6 l6 c6 =>
  callK Try.prog 31 ⟨[.slice a5 l5 c5, .slice a6 l6 c6]⟩ h fun v7 h =>
  asB v7 fun t8 =>
  ifB (!t8)
  (kr false h)
  (kr true h)

theorem laws_eqProcs_eq (K : Cont) (a_1 : Option Addr) (a_l1 : Nat) (a_c1 : Nat) (b_2 : Option Addr) (b_l2 : Nat) (b_c2 : Nat) (h : H) :
  laws_eqProcs (curV [(4, .bool)] (K .ret)) a_1 a_l1 a_c1 b_2 b_l2 b_c2 h = evC Try.prog 11 [] [] code15 [(0, .agg ⟨[.slice a_1 a_l1 a_c1]⟩), (1, .agg ⟨[.slice b_2 b_l2 b_c2]⟩)] h (outsOf none [] (some [(4, .bool)]) K).K := by kernel_rfl

def laws_eqProcs_F : PT := mkF [(0, .agg [.slice]), (1, .agg [.slice])] fun K => laws_eqProcs (curV [(4, .bool)] (K .ret))

theorem laws_eqProcs_V : Valid Try.prog 11 code15 laws_eqProcs_F :=
  piece mixed rows_nil (fun K => by intro a_1 a_l1 a_c1 b_2 b_l2 b_c2 h hd; exact (laws_eqProcs_eq K a_1 a_l1 a_c1 b_2 b_l2 b_c2 h) ▸ hd)

theorem laws_eqProcs_c0 (a_1 : Option Addr) (a_l1 : Nat) (a_c1 : Nat) (b_2 : Option Addr) (b_l2 : Nat) (b_c2 : Nat) (h : H) (K : Value → H → Prop) :
  laws_eqProcs (fun t100001 h =>
  K (.bool t100001) h) a_1 a_l1 a_c1 b_2 b_l2 b_c2 h = callF Try.prog Try.f15.results.toList laws_eqProcs_F [.agg ⟨[.slice a_1 a_l1 a_c1]⟩, .agg ⟨[.slice b_2 b_l2 b_c2]⟩] h K := by kernel_rfl

theorem laws_eqProcs_call {a_1 : Option Addr} {a_l1 : Nat} {a_c1 : Nat} {b_2 : Option Addr} {b_l2 : Nat} {b_c2 : Nat} {h : H} {K : Value → H → Prop} (hs : laws_eqProcs (fun t100001 h =>
  K (.bool t100001) h) a_1 a_l1 a_c1 b_2 b_l2 b_c2 h) : callK Try.prog 15 ⟨[.agg ⟨[.slice a_1 a_l1 a_c1]⟩, .agg ⟨[.slice b_2 b_l2 b_c2]⟩]⟩ h K :=
  func_calls Try.func15 body15 laws_eqProcs_V (Nat.le_of_ble_eq_true (by kernel_rfl)) (laws_eqProcs_c0 a_1 a_l1 a_c1 b_2 b_l2 b_c2 h K ▸ hs)

def laws_eqProcs_M (kr : Bool → H → Prop) (a_1 : Option Addr) (a_l1 : Nat) (a_c1 : Nat) (b_2 : Option Addr) (b_l2 : Nat) (b_c2 : Nat) (h : H) : Prop :=
  callD Try.prog 31 ⟨[.slice a_1 a_l1 a_c1, .slice b_2 b_l2 b_c2]⟩ h fun v3 h =>
  asB v3 fun t4 =>
  ifB (!t4)
  (kr false h)
  (kr true h)

theorem laws_eqProcs_M_D {g0 m0 : H} {kr_1 : Bool → H → Prop} {kr_2 : Bool → H → Prop} (Hkr : ∀ (t200001 : Bool) (g m : H), Md g0 m0 g m [] → kr_2 t200001 m → kr_1 t200001 g) : ∀ (a_1001 : Option Addr) (a_l1001 : Nat) (a_c1001 : Nat) (b_1002 : Option Addr) (b_l1002 : Nat) (b_c1002 : Nat) (g m : H), Md g0 m0 g m [] → laws_eqProcs_M kr_2 a_1001 a_l1001 a_c1001 b_1002 b_l1002 b_c1002 m → laws_eqProcs kr_1 a_1001 a_l1001 a_c1001 b_1002 b_l1002 b_c1002 g := by
  intro a_1001 a_l1001 a_c1001 b_1002 b_l1002 b_c1002 g m R
  rw [laws_eqProcs_M, laws_eqProcs]
  exact (p_new R fun p1003 g R =>
  (p_new R fun p1004 g R =>
  (p_ldL R rfl (p_ldL R rfl (d_call R fun v1005 g m R =>
  (d_asB fun t1006 =>
  (d_if (Hkr false _ _ R.sub)
  (Hkr true _ _ R.sub))))))))

theorem laws_eqProcs_M_call {a_1 : Option Addr} {a_l1 : Nat} {a_c1 : Nat} {b_2 : Option Addr} {b_l2 : Nat} {b_c2 : Nat} {h : H} {K : Value → H → Prop} (hs : laws_eqProcs_M (fun t300001 h =>
  K (.bool t300001) h) a_1 a_l1 a_c1 b_2 b_l2 b_c2 h) : callD Try.prog 15 ⟨[.agg ⟨[.slice a_1 a_l1 a_c1]⟩, .agg ⟨[.slice b_2 b_l2 b_c2]⟩]⟩ h K :=
  fun g r => laws_eqProcs_call (laws_eqProcs_M_D (by exact fun t300001 g m R =>
(fun h => ⟨m, R.af, h⟩)) _ _ _ _ _ _ _ _ (Md.start r) hs)

noncomputable def code16 : Code := codeOf Try.f16
theorem body16 : Try.f16.body = some code16 := by kernel_rfl
def laws_eqProcRes (kr : Bool → H → Prop) (a_1 : Int) (a_2 : Int) (a_3 : Int) (b_4 : Int) (b_5 : Int) (b_6 : Int) (h : H) : Prop :=
  new h [.int .i64 a_1, .int .i64 a_2, .int .i64 a_3] 34 fun b7 h =>
  new h [.int .i64 b_4, .int .i64 b_5, .int .i64 b_6] 34 fun b8 h =>
  ldI .i64 h b7 0 fun n9 =>
  ldI .i64 h b8 0 fun n10 =>
  ifB ((n9 : Int) != n10)
  (kr false h)
  (ldI .i64 h b7 1 fun n11 =>
  ldI .i64 h b8 1 fun n12 =>
  ifB ((n11 : Int) != n12)
  (kr false h)
  (ldI .i64 h b7 2 fun n13 =>
  ldI .i64 h b8 2 fun n14 =>
  ifB ((n13 : Int) != n14)
  (kr false h)
  (kr true h)))

theorem laws_eqProcRes_eq (K : Cont) (a_1 : Int) (a_2 : Int) (a_3 : Int) (b_4 : Int) (b_5 : Int) (b_6 : Int) (h : H) :
  laws_eqProcRes (curV [(4, .bool)] (K .ret)) a_1 a_2 a_3 b_4 b_5 b_6 h = evC Try.prog 20 [] [] code16 [(0, .agg ⟨[.int .i64 a_1, .int .i64 a_2, .int .i64 a_3]⟩), (1, .agg ⟨[.int .i64 b_4, .int .i64 b_5, .int .i64 b_6]⟩)] h (outsOf none [] (some [(4, .bool)]) K).K := by kernel_rfl

def laws_eqProcRes_F : PT := mkF [(0, .agg [.int .i64, .int .i64, .int .i64]), (1, .agg [.int .i64, .int .i64, .int .i64])] fun K => laws_eqProcRes (curV [(4, .bool)] (K .ret))

theorem laws_eqProcRes_V : Valid Try.prog 20 code16 laws_eqProcRes_F :=
  piece mixed rows_nil (fun K => by intro a_1 a_2 a_3 b_4 b_5 b_6 h hd; exact (laws_eqProcRes_eq K a_1 a_2 a_3 b_4 b_5 b_6 h) ▸ hd)

theorem laws_eqProcRes_c0 (a_1 : Int) (a_2 : Int) (a_3 : Int) (b_4 : Int) (b_5 : Int) (b_6 : Int) (h : H) (K : Value → H → Prop) :
  laws_eqProcRes (fun t100001 h =>
  K (.bool t100001) h) a_1 a_2 a_3 b_4 b_5 b_6 h = callF Try.prog Try.f16.results.toList laws_eqProcRes_F [.agg ⟨[.int .i64 a_1, .int .i64 a_2, .int .i64 a_3]⟩, .agg ⟨[.int .i64 b_4, .int .i64 b_5, .int .i64 b_6]⟩] h K := by kernel_rfl

theorem laws_eqProcRes_call {a_1 : Int} {a_2 : Int} {a_3 : Int} {b_4 : Int} {b_5 : Int} {b_6 : Int} {h : H} {K : Value → H → Prop} (hs : laws_eqProcRes (fun t100001 h =>
  K (.bool t100001) h) a_1 a_2 a_3 b_4 b_5 b_6 h) : callK Try.prog 16 ⟨[.agg ⟨[.int .i64 a_1, .int .i64 a_2, .int .i64 a_3]⟩, .agg ⟨[.int .i64 b_4, .int .i64 b_5, .int .i64 b_6]⟩]⟩ h K :=
  func_calls Try.func16 body16 laws_eqProcRes_V (Nat.le_of_ble_eq_true (by kernel_rfl)) (laws_eqProcRes_c0 a_1 a_2 a_3 b_4 b_5 b_6 h K ▸ hs)

def laws_eqProcRes_M (kr : Bool → H → Prop) (a_1 : Int) (a_2 : Int) (a_3 : Int) (b_4 : Int) (b_5 : Int) (b_6 : Int) (h : H) : Prop :=
  ifB ((a_1 : Int) != b_4)
  (kr false h)
  (ifB ((a_2 : Int) != b_5)
  (kr false h)
  (ifB ((a_3 : Int) != b_6)
  (kr false h)
  (kr true h)))

theorem laws_eqProcRes_M_D {g0 m0 : H} {kr_1 : Bool → H → Prop} {kr_2 : Bool → H → Prop} (Hkr : ∀ (t200001 : Bool) (g m : H), Md g0 m0 g m [] → kr_2 t200001 m → kr_1 t200001 g) : ∀ (a_1001 : Int) (a_1002 : Int) (a_1003 : Int) (b_1004 : Int) (b_1005 : Int) (b_1006 : Int) (g m : H), Md g0 m0 g m [] → laws_eqProcRes_M kr_2 a_1001 a_1002 a_1003 b_1004 b_1005 b_1006 m → laws_eqProcRes kr_1 a_1001 a_1002 a_1003 b_1004 b_1005 b_1006 g := by
  intro a_1001 a_1002 a_1003 b_1004 b_1005 b_1006 g m R
  rw [laws_eqProcRes_M, laws_eqProcRes]
  exact (p_new R fun p1007 g R =>
  (p_new R fun p1008 g R =>
  (p_ldI R rfl (p_ldI R rfl (d_if (Hkr false _ _ R.sub)
  (p_ldI R rfl (p_ldI R rfl (d_if (Hkr false _ _ R.sub)
  (p_ldI R rfl (p_ldI R rfl (d_if (Hkr false _ _ R.sub)
  (Hkr true _ _ R.sub))))))))))))

theorem laws_eqProcRes_M_call {a_1 : Int} {a_2 : Int} {a_3 : Int} {b_4 : Int} {b_5 : Int} {b_6 : Int} {h : H} {K : Value → H → Prop} (hs : laws_eqProcRes_M (fun t300001 h =>
  K (.bool t300001) h) a_1 a_2 a_3 b_4 b_5 b_6 h) : callD Try.prog 16 ⟨[.agg ⟨[.int .i64 a_1, .int .i64 a_2, .int .i64 a_3]⟩, .agg ⟨[.int .i64 b_4, .int .i64 b_5, .int .i64 b_6]⟩]⟩ h K :=
  fun g r => laws_eqProcRes_call (laws_eqProcRes_M_D (by exact fun t300001 g m R =>
(fun h => ⟨m, R.af, h⟩)) _ _ _ _ _ _ _ _ (Md.start r) hs)

noncomputable def code17 : Code := codeOf Try.f17
theorem body17 : Try.f17.body = some code17 := by kernel_rfl
def laws_markProcs (kr : Int → H → Prop) (a_1 : Option Addr) (a_l1 : Nat) (a_c1 : Nat) (k_2 : Int) (h : H) : Prop :=
  new h [.slice a_1 a_l1 a_c1] 27 fun b3 h =>
  ldL h b3 0 fun a4 l4 c4 =>
  callK Try.prog 32 ⟨[.slice a4 l4 c4, .int .i64 k_2]⟩ h fun v5 h =>
  asI .i64 v5 fun n6 =>
  kr n6 h

theorem laws_markProcs_eq (K : Cont) (a_1 : Option Addr) (a_l1 : Nat) (a_c1 : Nat) (k_2 : Int) (h : H) :
  laws_markProcs (curV [(4, .int .i64)] (K .ret)) a_1 a_l1 a_c1 k_2 h = evC Try.prog 10 [] [] code17 [(0, .agg ⟨[.slice a_1 a_l1 a_c1]⟩), (1, .int .i64 k_2)] h (outsOf none [] (some [(4, .int .i64)]) K).K := by kernel_rfl

def laws_markProcs_F : PT := mkF [(0, .agg [.slice]), (1, .int .i64)] fun K => laws_markProcs (curV [(4, .int .i64)] (K .ret))

theorem laws_markProcs_V : Valid Try.prog 10 code17 laws_markProcs_F :=
  piece mixed rows_nil (fun K => by intro a_1 a_l1 a_c1 k_2 h hd; exact (laws_markProcs_eq K a_1 a_l1 a_c1 k_2 h) ▸ hd)

theorem laws_markProcs_c0 (a_1 : Option Addr) (a_l1 : Nat) (a_c1 : Nat) (k_2 : Int) (h : H) (K : Value → H → Prop) :
  laws_markProcs (fun n100001 h =>
  K (.int .i64 n100001) h) a_1 a_l1 a_c1 k_2 h = callF Try.prog Try.f17.results.toList laws_markProcs_F [.agg ⟨[.slice a_1 a_l1 a_c1]⟩, .int .i64 k_2] h K := by kernel_rfl

theorem laws_markProcs_call {a_1 : Option Addr} {a_l1 : Nat} {a_c1 : Nat} {k_2 : Int} {h : H} {K : Value → H → Prop} (hs : laws_markProcs (fun n100001 h =>
  K (.int .i64 n100001) h) a_1 a_l1 a_c1 k_2 h) : callK Try.prog 17 ⟨[.agg ⟨[.slice a_1 a_l1 a_c1]⟩, .int .i64 k_2]⟩ h K :=
  func_calls Try.func17 body17 laws_markProcs_V (Nat.le_of_ble_eq_true (by kernel_rfl)) (laws_markProcs_c0 a_1 a_l1 a_c1 k_2 h K ▸ hs)

def laws_markProcs_M (kr : Int → H → Prop) (a_1 : Option Addr) (a_l1 : Nat) (a_c1 : Nat) (k_2 : Int) (h : H) : Prop :=
  callD Try.prog 32 ⟨[.slice a_1 a_l1 a_c1, .int .i64 k_2]⟩ h fun v3 h =>
  asI .i64 v3 fun n4 =>
  kr n4 h

theorem laws_markProcs_M_D {g0 m0 : H} {kr_1 : Int → H → Prop} {kr_2 : Int → H → Prop} (Hkr : ∀ (n200001 : Int) (g m : H), Md g0 m0 g m [] → kr_2 n200001 m → kr_1 n200001 g) : ∀ (a_1001 : Option Addr) (a_l1001 : Nat) (a_c1001 : Nat) (k_1002 : Int) (g m : H), Md g0 m0 g m [] → laws_markProcs_M kr_2 a_1001 a_l1001 a_c1001 k_1002 m → laws_markProcs kr_1 a_1001 a_l1001 a_c1001 k_1002 g := by
  intro a_1001 a_l1001 a_c1001 k_1002 g m R
  rw [laws_markProcs_M, laws_markProcs]
  exact (p_new R fun p1003 g R =>
  (p_ldL R rfl (d_call R fun v1004 g m R =>
  (d_asI fun n1005 =>
  (Hkr n1005 _ _ R.sub)))))

theorem laws_markProcs_M_call {a_1 : Option Addr} {a_l1 : Nat} {a_c1 : Nat} {k_2 : Int} {h : H} {K : Value → H → Prop} (hs : laws_markProcs_M (fun n300001 h =>
  K (.int .i64 n300001) h) a_1 a_l1 a_c1 k_2 h) : callD Try.prog 17 ⟨[.agg ⟨[.slice a_1 a_l1 a_c1]⟩, .int .i64 k_2]⟩ h K :=
  fun g r => laws_markProcs_call (laws_markProcs_M_D (by exact fun n300001 g m R =>
(fun h => ⟨m, R.af, h⟩)) _ _ _ _ _ _ (Md.start r) hs)

noncomputable def code18 : Code := codeOf Try.f18
theorem body18 : Try.f18.body = some code18 := by kernel_rfl
def laws_heldProcs (kr : Int → H → Prop) (a_1 : Option Addr) (a_l1 : Nat) (a_c1 : Nat) (k_2 : Int) (h : H) : Prop :=
  new h [.slice a_1 a_l1 a_c1] 27 fun b3 h =>
  ldL h b3 0 fun a4 l4 c4 =>
  callK Try.prog 33 ⟨[.slice a4 l4 c4, .int .i64 k_2]⟩ h fun v5 h =>
  asI .i64 v5 fun n6 =>
  ifB (decide ((n6 : Int) < 0))
  (kr (-1) h)
  (kr n6 h)

theorem laws_heldProcs_eq (K : Cont) (a_1 : Option Addr) (a_l1 : Nat) (a_c1 : Nat) (k_2 : Int) (h : H) :
  laws_heldProcs (curV [(4, .int .i64)] (K .ret)) a_1 a_l1 a_c1 k_2 h = evC Try.prog 12 [] [] code18 [(0, .agg ⟨[.slice a_1 a_l1 a_c1]⟩), (1, .int .i64 k_2)] h (outsOf none [] (some [(4, .int .i64)]) K).K := by kernel_rfl

def laws_heldProcs_F : PT := mkF [(0, .agg [.slice]), (1, .int .i64)] fun K => laws_heldProcs (curV [(4, .int .i64)] (K .ret))

theorem laws_heldProcs_V : Valid Try.prog 12 code18 laws_heldProcs_F :=
  piece mixed rows_nil (fun K => by intro a_1 a_l1 a_c1 k_2 h hd; exact (laws_heldProcs_eq K a_1 a_l1 a_c1 k_2 h) ▸ hd)

theorem laws_heldProcs_c0 (a_1 : Option Addr) (a_l1 : Nat) (a_c1 : Nat) (k_2 : Int) (h : H) (K : Value → H → Prop) :
  laws_heldProcs (fun n100001 h =>
  K (.int .i64 n100001) h) a_1 a_l1 a_c1 k_2 h = callF Try.prog Try.f18.results.toList laws_heldProcs_F [.agg ⟨[.slice a_1 a_l1 a_c1]⟩, .int .i64 k_2] h K := by kernel_rfl

theorem laws_heldProcs_call {a_1 : Option Addr} {a_l1 : Nat} {a_c1 : Nat} {k_2 : Int} {h : H} {K : Value → H → Prop} (hs : laws_heldProcs (fun n100001 h =>
  K (.int .i64 n100001) h) a_1 a_l1 a_c1 k_2 h) : callK Try.prog 18 ⟨[.agg ⟨[.slice a_1 a_l1 a_c1]⟩, .int .i64 k_2]⟩ h K :=
  func_calls Try.func18 body18 laws_heldProcs_V (Nat.le_of_ble_eq_true (by kernel_rfl)) (laws_heldProcs_c0 a_1 a_l1 a_c1 k_2 h K ▸ hs)

def laws_heldProcs_M (kr : Int → H → Prop) (a_1 : Option Addr) (a_l1 : Nat) (a_c1 : Nat) (k_2 : Int) (h : H) : Prop :=
  callD Try.prog 33 ⟨[.slice a_1 a_l1 a_c1, .int .i64 k_2]⟩ h fun v3 h =>
  asI .i64 v3 fun n4 =>
  ifB (decide ((n4 : Int) < 0))
  (kr (-1) h)
  (kr n4 h)

theorem laws_heldProcs_M_D {g0 m0 : H} {kr_1 : Int → H → Prop} {kr_2 : Int → H → Prop} (Hkr : ∀ (n200001 : Int) (g m : H), Md g0 m0 g m [] → kr_2 n200001 m → kr_1 n200001 g) : ∀ (a_1001 : Option Addr) (a_l1001 : Nat) (a_c1001 : Nat) (k_1002 : Int) (g m : H), Md g0 m0 g m [] → laws_heldProcs_M kr_2 a_1001 a_l1001 a_c1001 k_1002 m → laws_heldProcs kr_1 a_1001 a_l1001 a_c1001 k_1002 g := by
  intro a_1001 a_l1001 a_c1001 k_1002 g m R
  rw [laws_heldProcs_M, laws_heldProcs]
  exact (p_new R fun p1003 g R =>
  (p_ldL R rfl (d_call R fun v1004 g m R =>
  (d_asI fun n1005 =>
  (d_if (Hkr (-1) _ _ R.sub)
  (Hkr n1005 _ _ R.sub))))))

theorem laws_heldProcs_M_call {a_1 : Option Addr} {a_l1 : Nat} {a_c1 : Nat} {k_2 : Int} {h : H} {K : Value → H → Prop} (hs : laws_heldProcs_M (fun n300001 h =>
  K (.int .i64 n300001) h) a_1 a_l1 a_c1 k_2 h) : callD Try.prog 18 ⟨[.agg ⟨[.slice a_1 a_l1 a_c1]⟩, .int .i64 k_2]⟩ h K :=
  fun g r => laws_heldProcs_call (laws_heldProcs_M_D (by exact fun n300001 g m R =>
(fun h => ⟨m, R.af, h⟩)) _ _ _ _ _ _ (Md.start r) hs)

noncomputable def code19 : Code := codeOf Try.f19
theorem body19 : Try.f19.body = some code19 := by kernel_rfl
def impl_Procs_at_l0 (kx0 : H → Prop) (kr : Nat → Nat → H → Prop) : Nat → Option Addr → Int → Int → Int → H → Prop
 | 0, _, _, _, _, _ => False
 | N + 1, p_6, id_7, n8, n9, h =>
  ifB (decide ((n9 : Int) < n8))
  (nz p_6 fun b10 o11 =>
  ldL h b10 o11 fun a12 l12 c12 =>
  req (0 ≤ (n9 : Int) ∧ (n9 : Int) < (l12 : Nat))
  (nz a12 fun b13 o14 =>
  ldI .i64 h b13 (o14 + n9.toNat * 10) fun n15 =>
  ifB ((n15 : Int) == id_7)
  (nz p_6 fun b16 o17 =>
  ldL h b16 o17 fun a18 l18 c18 =>
  req (0 ≤ (n9 : Int) ∧ (n9 : Int) < (l18 : Nat))
  (nz a18 fun b19 o20 =>
  kr b19 (o20 + n9.toNat * 10) h))
  (impl_Procs_at_l0 kx0 kr N p_6 id_7 n8 (IntKind.i64.wrap (n9 + 1)) h)))
  (kx0 h)

def impl_Procs_at (kr : Option Addr → H → Prop) (p_1 : Option Addr) (id_2 : Int) (h : H) : Prop :=
  nz p_1 fun b3 o4 =>
  ldL h b3 o4 fun a5 l5 c5 =>
  ∃ M8, impl_Procs_at_l0 (fun h =>
  kr none h) (fun b6 o7 h =>
  kr (some ⟨b6, o7, none⟩) h) M8 p_1 id_2 (l5 : Nat) 0 h

theorem impl_Procs_at_l0_eq (K : Cont) (N : Nat) (p_6 : Option Addr) (id_7 : Int) (n8 : Int) (n9 : Int) (h : H) :
  impl_Procs_at_l0 (curV [] (K (.exit 0))) (curV [(4, .adr)] (K .ret)) (N + 1) p_6 id_7 n8 n9 h = evC Try.prog 31 [] [] (sub code19 [true, false, true, false, false]) [(0, .pointer p_6), (1, .int .i64 id_7), (10, .int .i64 n8), (11, .int .i64 n9)] h ((outsOf none [(0, [])] (some [(4, .adr)]) K).loop [(0, .ptr), (1, .int .i64), (10, .int .i64), (11, .int .i64)] (impl_Procs_at_l0 (curV [] (K (.exit 0))) (curV [(4, .adr)] (K .ret)) N)).K := by kernel_rfl

def impl_Procs_at_l0_F : PT := mkL [(0, .ptr), (1, .int .i64), (10, .int .i64), (11, .int .i64)] fun K N => impl_Procs_at_l0 (curV [] (K (.exit 0))) (curV [(4, .adr)] (K .ret)) N

theorem impl_Procs_at_l0_V : Valid Try.prog 31 (sub code19 [true, false, true, false]) impl_Procs_at_l0_F :=
  loop_at (code19) [true, false, true, false] (loop_piece (c := (sub code19 [true, false, true, false, false])) mixed rows_nil (fun K => by intro p_6 id_7 n8 n9 h hd; exact hd) (fun K N => by intro p_6 id_7 n8 n9 h hd; exact (impl_Procs_at_l0_eq K N p_6 id_7 n8 n9 h) ▸ hd))

theorem impl_Procs_at_eq (K : Cont) (p_1 : Option Addr) (id_2 : Int) (h : H) :
  impl_Procs_at (curV [(4, .ptr)] (K .ret)) p_1 id_2 h = evC Try.prog 31 [([false, false, true, false, true], impl_Procs_at_l0_F)] [] code19 [(0, .pointer p_1), (1, .int .i64 id_2)] h (outsOf none [] (some [(4, .ptr)]) K).K := by kernel_rfl

def impl_Procs_at_F : PT := mkF [(0, .ptr), (1, .int .i64)] fun K => impl_Procs_at (curV [(4, .ptr)] (K .ret))

theorem impl_Procs_at_V : Valid Try.prog 31 code19 impl_Procs_at_F :=
  piece mixed (rows_cons (q' := [true, false, true, false]) impl_Procs_at_l0_V rfl rows_nil) (fun K => by intro p_1 id_2 h hd; exact (impl_Procs_at_eq K p_1 id_2 h) ▸ hd)

theorem impl_Procs_at_c0 (p_1 : Option Addr) (id_2 : Int) (h : H) (K : Value → H → Prop) :
  impl_Procs_at (fun p100001 h =>
  K (.pointer p100001) h) p_1 id_2 h = callF Try.prog Try.f19.results.toList impl_Procs_at_F [.pointer p_1, .int .i64 id_2] h K := by kernel_rfl

theorem impl_Procs_at_call {p_1 : Option Addr} {id_2 : Int} {h : H} {K : Value → H → Prop} (hs : impl_Procs_at (fun p100001 h =>
  K (.pointer p100001) h) p_1 id_2 h) : callK Try.prog 19 ⟨[.pointer p_1, .int .i64 id_2]⟩ h K :=
  func_calls Try.func19 body19 impl_Procs_at_V (Nat.le_of_ble_eq_true (by kernel_rfl)) (impl_Procs_at_c0 p_1 id_2 h K ▸ hs)

def impl_Procs_at_M_l0 (kx0 : H → Prop) (kr : Nat → Nat → H → Prop) : Nat → Option Addr → Int → Int → Int → H → Prop
 | 0, _, _, _, _, _ => False
 | N + 1, p_6, id_7, n8, n9, h =>
  ifB (decide ((n9 : Int) < n8))
  (nz p_6 fun b10 o11 =>
  ldL h b10 o11 fun a12 l12 c12 =>
  req (0 ≤ (n9 : Int) ∧ (n9 : Int) < (l12 : Nat))
  (nz a12 fun b13 o14 =>
  ldI .i64 h b13 (o14 + n9.toNat * 10) fun n15 =>
  ifB ((n15 : Int) == id_7)
  (nz p_6 fun b16 o17 =>
  ldL h b16 o17 fun a18 l18 c18 =>
  req (0 ≤ (n9 : Int) ∧ (n9 : Int) < (l18 : Nat))
  (nz a18 fun b19 o20 =>
  kr b19 (o20 + n9.toNat * 10) h))
  (impl_Procs_at_M_l0 kx0 kr N p_6 id_7 n8 (IntKind.i64.wrap (n9 + 1)) h)))
  (kx0 h)

def impl_Procs_at_M (kr : Option Addr → H → Prop) (p_1 : Option Addr) (id_2 : Int) (h : H) : Prop :=
  nz p_1 fun b3 o4 =>
  ldL h b3 o4 fun a5 l5 c5 =>
  ∃ M8, impl_Procs_at_M_l0 (fun h =>
  kr none h) (fun b6 o7 h =>
  kr (some ⟨b6, o7, none⟩) h) M8 p_1 id_2 (l5 : Nat) 0 h

theorem impl_Procs_at_M_l0_D {g0 m0 : H} {kx0_1 : H → Prop} {kx0_2 : H → Prop} (Hkx0 : ∀ (g m : H), Md g0 m0 g m [] → kx0_2 m → kx0_1 g)
  {kr_1 : Nat → Nat → H → Prop} {kr_2 : Nat → Nat → H → Prop} (Hkr : ∀ (b200001 : Nat) (o200002 : Nat) (g m : H), Md g0 m0 g m [] → kr_2 b200001 o200002 m → kr_1 b200001 o200002 g) : ∀ (N : Nat) (p_1006 : Option Addr) (id_1007 : Int) (n1008 : Int) (n1009 : Int) (g m : H), Md g0 m0 g m [] → impl_Procs_at_M_l0 kx0_2 kr_2 N p_1006 id_1007 n1008 n1009 m → impl_Procs_at_l0 kx0_1 kr_1 N p_1006 id_1007 n1008 n1009 g := by
  intro N
  induction N with
  | zero => intro p_1006 id_1007 n1008 n1009 g m R h0; exact h0.elim
  | succ N ih =>
    intro p_1006 id_1007 n1008 n1009 g m R
    rw [impl_Procs_at_M_l0, impl_Procs_at_l0]
    exact (d_if (d_nz fun b1010 o1011 =>
  (d_ldL R fun a1012 l1012 c1012 =>
  (d_req (d_nz fun b1013 o1014 =>
  (d_ldI R fun n1015 =>
  (d_if (d_nz fun b1016 o1017 =>
  (d_ldL R fun a1018 l1018 c1018 =>
  (d_req (d_nz fun b1019 o1020 =>
  (Hkr b1019 (o1020 + n1009.toNat * 10) _ _ R.sub)))))
  (ih p_1006 id_1007 n1008 (IntKind.i64.wrap (n1009 + 1)) _ _ R.sub)))))))
  (Hkx0 _ _ R.sub))

theorem impl_Procs_at_M_D {g0 m0 : H} {kr_1 : Option Addr → H → Prop} {kr_2 : Option Addr → H → Prop} (Hkr : ∀ (p200001 : Option Addr) (g m : H), Md g0 m0 g m [] → kr_2 p200001 m → kr_1 p200001 g) : ∀ (p_1001 : Option Addr) (id_1002 : Int) (g m : H), Md g0 m0 g m [] → impl_Procs_at_M kr_2 p_1001 id_1002 m → impl_Procs_at kr_1 p_1001 id_1002 g := by
  intro p_1001 id_1002 g m R
  rw [impl_Procs_at_M, impl_Procs_at]
  exact (d_nz fun b1003 o1004 =>
  (d_ldL R fun a1005 l1005 c1005 =>
  (d_ex fun N => impl_Procs_at_M_l0_D (by exact fun g m R =>
  (Hkr none _ _ R.sub))
  (by exact fun b1006 o1007 g m R =>
  (Hkr (some ⟨b1006, o1007, none⟩) _ _ R.sub)) N p_1001 id_1002 (l1005 : Nat) 0 _ _ R.sub)))

theorem impl_Procs_at_M_call {p_1 : Option Addr} {id_2 : Int} {h : H} {K : Value → H → Prop} (hs : impl_Procs_at_M (fun p300001 h =>
  K (.pointer p300001) h) p_1 id_2 h) : callD Try.prog 19 ⟨[.pointer p_1, .int .i64 id_2]⟩ h K :=
  fun g r => impl_Procs_at_call (impl_Procs_at_M_D (by exact fun p300001 g m R =>
(fun h => ⟨m, R.af, h⟩)) _ _ _ _ (Md.start r) hs)

end Go.Proofs.Ytgcjjapmdbgofaa
