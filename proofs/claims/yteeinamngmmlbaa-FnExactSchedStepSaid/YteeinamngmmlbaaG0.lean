import Derived.Test.YteeinamngmmlbaaProg
import Derived.Test.YteeinamngmmlbaaPm
set_option linter.unusedVariables false
set_option maxRecDepth 100000
namespace Go.Proofs.Yteeinamngmmlbaa
open Go.Eng

theorem mixed : Try.prog.follows .mixedOrders = true := by kernel_rfl
noncomputable def code3 : Code := codeOf Try.f3
theorem body3 : Try.f3.body = some code3 := by kernel_rfl
def laws_FnExactSchedStep_j2 (kr : Bool → H → Prop) (b102 : Nat) (b103 : Nat) (b104 : Nat) (n105 : Int) (b106 : Nat) (b107 : Nat) (h : H) : Prop :=
  ldRow h b106 0 0 [.int .i64, .int .i64, .slice, .slice] fun n108 n109 a110 l110 c110 a111 l111 c111 =>
  ldRow h b102 0 0 [.int .i64, .int .i64, .slice, .slice] fun n112 n113 a114 l114 c114 a115 l115 c115 =>
  callK Try.prog 9 ⟨[.agg ⟨[.int .i64 n108, .int .i64 n109, .slice a110 l110 c110, .slice a111 l111 c111]⟩, .agg ⟨[.int .i64 n112, .int .i64 n113, .slice a114 l114 c114, .slice a115 l115 c115]⟩]⟩ h fun v116 h =>
  asB v116 fun t117 =>
  ifB (!t117)
  (kr false h)
  (ldRow h b107 0 0 [.int .i64, .int .i64] fun n118 n119 =>
  ldRow h b103 0 0 [.int .i64, .int .i64] fun n120 n121 =>
  callK Try.prog 10 ⟨[.agg ⟨[.int .i64 n118, .int .i64 n119]⟩, .agg ⟨[.int .i64 n120, .int .i64 n121]⟩]⟩ h fun v122 h =>
  asB v122 fun t123 =>
  ifB (!t123)
  (kr false h)
  (ldRow h b104 0 0 [.int .i64, .int .i64, .slice, .slice] fun n124 n125 a126 l126 c126 a127 l127 c127 =>
  callK Try.prog 12 ⟨[.agg ⟨[.int .i64 n124, .int .i64 n125, .slice a126 l126 c126, .slice a127 l127 c127]⟩, .int .i64 1]⟩ h fun v128 h =>
  asI .i64 v128 fun n129 =>
  ifB (decide ((n129 : Int) < 0))
  (kr false h)
  (ifB ((n129 : Int) != n105)
  (kr false h)
  (kr true h))))

def laws_FnExactSchedStep_j1 (kr : Bool → H → Prop) (b30 : Nat) (b31 : Nat) (b32 : Nat) (b33 : Nat) (b34 : Nat) (b35 : Nat) (b36 : Nat) (h : H) : Prop :=
  ldRow h b35 0 0 [.int .i64, .int .i64, .slice, .slice] fun n37 n38 a39 l39 c39 a40 l40 c40 =>
  ldRow h b32 0 0 [.int .i64, .int .i64, .slice, .slice] fun n41 n42 a43 l43 c43 a44 l44 c44 =>
  callK Try.prog 9 ⟨[.agg ⟨[.int .i64 n37, .int .i64 n38, .slice a39 l39 c39, .slice a40 l40 c40]⟩, .agg ⟨[.int .i64 n41, .int .i64 n42, .slice a43 l43 c43, .slice a44 l44 c44]⟩]⟩ h fun v45 h =>
  asB v45 fun t46 =>
  ifB (!t46)
  (kr false h)
  (ldRow h b36 0 0 [.int .i64, .int .i64] fun n47 n48 =>
  ldRow h b33 0 0 [.int .i64, .int .i64] fun n49 n50 =>
  callK Try.prog 10 ⟨[.agg ⟨[.int .i64 n47, .int .i64 n48]⟩, .agg ⟨[.int .i64 n49, .int .i64 n50]⟩]⟩ h fun v51 h =>
  asB v51 fun t52 =>
  ifB (!t52)
  (kr false h)
  (ldRow h b34 0 0 [.int .i64, .int .i64, .slice, .slice] fun n53 n54 a55 l55 c55 a56 l56 c56 =>
  ldRow h b30 0 0 [.int .i64, .int .i64, .slice, .slice] fun n57 n58 a59 l59 c59 a60 l60 c60 =>
  callK Try.prog 6 ⟨[.agg ⟨[.int .i64 n57, .int .i64 n58, .slice a59 l59 c59, .slice a60 l60 c60]⟩]⟩ h fun v61 h =>
  elF False (.agg [.int .i64, .int .i64, .slice, .slice]) v61 fun n62 n63 a64 l64 c64 a65 l65 c65 =>
  heldRow h b34 0 0 [.int .i64 n53, .int .i64 n54, .slice a55 l55 c55, .slice a56 l56 c56] (callK Try.prog 9 ⟨[.agg ⟨[.int .i64 n53, .int .i64 n54, .slice a55 l55 c55, .slice a56 l56 c56]⟩, .agg ⟨[.int .i64 n62, .int .i64 n63, .slice a64 l64 c64, .slice a65 l65 c65]⟩]⟩ h fun v66 h =>
  asB v66 fun t67 =>
  ifB (!t67)
  (kr false h)
  (ldRow h b34 0 0 [.int .i64, .int .i64, .slice, .slice] fun n68 n69 a70 l70 c70 a71 l71 c71 =>
  callK Try.prog 11 ⟨[.agg ⟨[.int .i64 n68, .int .i64 n69, .slice a70 l70 c70, .slice a71 l71 c71]⟩, .int .i64 1]⟩ h fun v72 h =>
  asI .i64 v72 fun n73 =>
  ifB (decide ((n73 : Int) < 0))
  (kr false h)
  (ldRow h b35 0 0 [.int .i64, .int .i64, .slice, .slice] fun n74 n75 a76 l76 c76 a77 l77 c77 =>
  ldRow h b32 0 0 [.int .i64, .int .i64, .slice, .slice] fun n78 n79 a80 l80 c80 a81 l81 c81 =>
  callK Try.prog 9 ⟨[.agg ⟨[.int .i64 n74, .int .i64 n75, .slice a76 l76 c76, .slice a77 l77 c77]⟩, .agg ⟨[.int .i64 n78, .int .i64 n79, .slice a80 l80 c80, .slice a81 l81 c81]⟩]⟩ h fun v82 h =>
  asB v82 fun t83 =>
  ifB (!t83)
  (kr false h)
  (ldRow h b36 0 0 [.int .i64, .int .i64] fun n84 n85 =>
  ldRow h b33 0 0 [.int .i64, .int .i64] fun n86 n87 =>
  callK Try.prog 10 ⟨[.agg ⟨[.int .i64 n84, .int .i64 n85]⟩, .agg ⟨[.int .i64 n86, .int .i64 n87]⟩]⟩ h fun v88 h =>
  asB v88 fun t89 =>
  ifB (!t89)
  (kr false h)
  (ldRow h b35 0 0 [.int .i64, .int .i64, .slice, .slice] fun n90 n91 a92 l92 c92 a93 l93 c93 =>
  callK Try.prog 11 ⟨[.agg ⟨[.int .i64 n90, .int .i64 n91, .slice a92 l92 c92, .slice a93 l93 c93]⟩, .int .i64 1]⟩ h fun v94 h =>
  asI .i64 v94 fun n95 =>
  ldRow h b35 0 0 [.int .i64, .int .i64, .slice, .slice] fun n96 n97 a98 l98 c98 a99 l99 c99 =>
  callK Try.prog 12 ⟨[.agg ⟨[.int .i64 n96, .int .i64 n97, .slice a98 l98 c98, .slice a99 l99 c99]⟩, .int .i64 1]⟩ h fun v100 h =>
  asI .i64 v100 fun n101 =>
  ifB (decide ((n101 : Int) < 0))
  (kr false h)
  (ifB ((n101 : Int) != n95)
  (kr false h)
  (ldRow h b30 0 0 [.int .i64, .int .i64, .slice, .slice] fun n102 n103 a104 l104 c104 a105 l105 c105 =>
  ldRow h b31 0 0 [.int .i64, .int .i64, .int .i64] fun n106 n107 n108 =>
  (callK Try.prog 6 ⟨[.agg ⟨[.int .i64 n102, .int .i64 n103, .slice a104 l104 c104, .slice a105 l105 c105]⟩]⟩ h fun v109 h =>
  elF False (.agg [.int .i64, .int .i64, .slice, .slice]) v109 fun n110 n111 a112 l112 c112 a113 l113 c113 =>
  heldRow h b31 0 0 [.int .i64 n106, .int .i64 n107, .int .i64 n108] ((callK Try.prog 7 ⟨[.agg ⟨[.int .i64 n106, .int .i64 n107, .int .i64 n108]⟩]⟩ h fun v114 h =>
  elF False (.agg [.int .i64, .int .i64, .int .i64]) v114 fun n115 n116 n117 =>
  (callK Try.prog 8 ⟨[.agg ⟨[.int .i64 n110, .int .i64 n111, .slice a112 l112 c112, .slice a113 l113 c113]⟩, .agg ⟨[.int .i64 n115, .int .i64 n116, .int .i64 n117]⟩]⟩ h fun v118 h =>
  elF False (.tuple [.agg [.int .i64, .int .i64, .slice, .slice], .agg [.int .i64, .int .i64]]) v118 fun n119 n120 a121 l121 c121 a122 l122 c122 n123 n124 =>
  (new h [.int .i64 0, .int .i64 0, .slice none 0 0, .slice none 0 0] 32 fun b125 h =>
  new h [.int .i64 0, .int .i64 0] 34 fun b126 h =>
  stRow h b125 0 0 [.int .i64 n119, .int .i64 n120, .slice a121 l121 c121, .slice a122 l122 c122] fun h =>
  stRow h b126 0 0 [.int .i64 n123, .int .i64 n124] fun h =>
  laws_FnExactSchedStep_j2 kr b32 b33 b35 n95 b125 b126 h) ∧ (new h [.int .i64 0, .int .i64 0] 34 fun b127 h =>
  new h [.int .i64 0, .int .i64 0, .slice none 0 0, .slice none 0 0] 32 fun b128 h =>
  stRow h b128 0 0 [.int .i64 n119, .int .i64 n120, .slice a121 l121 c121, .slice a122 l122 c122] fun h =>
  stRow h b127 0 0 [.int .i64 n123, .int .i64 n124] fun h =>
  laws_FnExactSchedStep_j2 kr b32 b33 b35 n95 b128 b127 h)) ∧ (new h [.int .i64 0, .int .i64 0, .slice none 0 0, .slice none 0 0] 32 fun b129 h =>
  (callK Try.prog 8 ⟨[.agg ⟨[.int .i64 n110, .int .i64 n111, .slice a112 l112 c112, .slice a113 l113 c113]⟩, .agg ⟨[.int .i64 n115, .int .i64 n116, .int .i64 n117]⟩]⟩ h fun v130 h =>
  elF False (.tuple [.agg [.int .i64, .int .i64, .slice, .slice], .agg [.int .i64, .int .i64]]) v130 fun n131 n132 a133 l133 c133 a134 l134 c134 n135 n136 =>
  new h [.int .i64 0, .int .i64 0] 34 fun b137 h =>
  stRow h b129 0 0 [.int .i64 n131, .int .i64 n132, .slice a133 l133 c133, .slice a134 l134 c134] fun h =>
  stRow h b137 0 0 [.int .i64 n135, .int .i64 n136] fun h =>
  laws_FnExactSchedStep_j2 kr b32 b33 b35 n95 b129 b137 h) ∧ (new h [.int .i64 0, .int .i64 0] 34 fun b138 h =>
  callK Try.prog 8 ⟨[.agg ⟨[.int .i64 n110, .int .i64 n111, .slice a112 l112 c112, .slice a113 l113 c113]⟩, .agg ⟨[.int .i64 n115, .int .i64 n116, .int .i64 n117]⟩]⟩ h fun v139 h =>
  elF False (.tuple [.agg [.int .i64, .int .i64, .slice, .slice], .agg [.int .i64, .int .i64]]) v139 fun n140 n141 a142 l142 c142 a143 l143 c143 n144 n145 =>
  stRow h b129 0 0 [.int .i64 n140, .int .i64 n141, .slice a142 l142 c142, .slice a143 l143 c143] fun h =>
  stRow h b138 0 0 [.int .i64 n144, .int .i64 n145] fun h =>
  laws_FnExactSchedStep_j2 kr b32 b33 b35 n95 b129 b138 h)) ∧ (new h [.int .i64 0, .int .i64 0] 34 fun b146 h =>
  (callK Try.prog 8 ⟨[.agg ⟨[.int .i64 n110, .int .i64 n111, .slice a112 l112 c112, .slice a113 l113 c113]⟩, .agg ⟨[.int .i64 n115, .int .i64 n116, .int .i64 n117]⟩]⟩ h fun v147 h =>
  elF False (.tuple [.agg [.int .i64, .int .i64, .slice, .slice], .agg [.int .i64, .int .i64]]) v147 fun n148 n149 a150 l150 c150 a151 l151 c151 n152 n153 =>
  new h [.int .i64 0, .int .i64 0, .slice none 0 0, .slice none 0 0] 32 fun b154 h =>
  stRow h b154 0 0 [.int .i64 n148, .int .i64 n149, .slice a150 l150 c150, .slice a151 l151 c151] fun h =>
  stRow h b146 0 0 [.int .i64 n152, .int .i64 n153] fun h =>
  laws_FnExactSchedStep_j2 kr b32 b33 b35 n95 b154 b146 h) ∧ (new h [.int .i64 0, .int .i64 0, .slice none 0 0, .slice none 0 0] 32 fun b155 h =>
  callK Try.prog 8 ⟨[.agg ⟨[.int .i64 n110, .int .i64 n111, .slice a112 l112 c112, .slice a113 l113 c113]⟩, .agg ⟨[.int .i64 n115, .int .i64 n116, .int .i64 n117]⟩]⟩ h fun v156 h =>
  elF False (.tuple [.agg [.int .i64, .int .i64, .slice, .slice], .agg [.int .i64, .int .i64]]) v156 fun n157 n158 a159 l159 c159 a160 l160 c160 n161 n162 =>
  stRow h b155 0 0 [.int .i64 n157, .int .i64 n158, .slice a159 l159 c159, .slice a160 l160 c160] fun h =>
  stRow h b146 0 0 [.int .i64 n161, .int .i64 n162] fun h =>
  laws_FnExactSchedStep_j2 kr b32 b33 b35 n95 b155 b146 h))) ∧ (new h [.int .i64 0, .int .i64 0, .slice none 0 0, .slice none 0 0] 32 fun b163 h =>
  heldRow h b31 0 0 [.int .i64 n106, .int .i64 n107, .int .i64 n108] ((callK Try.prog 7 ⟨[.agg ⟨[.int .i64 n106, .int .i64 n107, .int .i64 n108]⟩]⟩ h fun v164 h =>
  elF False (.agg [.int .i64, .int .i64, .int .i64]) v164 fun n165 n166 n167 =>
  (callK Try.prog 8 ⟨[.agg ⟨[.int .i64 n110, .int .i64 n111, .slice a112 l112 c112, .slice a113 l113 c113]⟩, .agg ⟨[.int .i64 n165, .int .i64 n166, .int .i64 n167]⟩]⟩ h fun v168 h =>
  elF False (.tuple [.agg [.int .i64, .int .i64, .slice, .slice], .agg [.int .i64, .int .i64]]) v168 fun n169 n170 a171 l171 c171 a172 l172 c172 n173 n174 =>
  new h [.int .i64 0, .int .i64 0] 34 fun b175 h =>
  stRow h b163 0 0 [.int .i64 n169, .int .i64 n170, .slice a171 l171 c171, .slice a172 l172 c172] fun h =>
  stRow h b175 0 0 [.int .i64 n173, .int .i64 n174] fun h =>
  laws_FnExactSchedStep_j2 kr b32 b33 b35 n95 b163 b175 h) ∧ (new h [.int .i64 0, .int .i64 0] 34 fun b176 h =>
  callK Try.prog 8 ⟨[.agg ⟨[.int .i64 n110, .int .i64 n111, .slice a112 l112 c112, .slice a113 l113 c113]⟩, .agg ⟨[.int .i64 n165, .int .i64 n166, .int .i64 n167]⟩]⟩ h fun v177 h =>
  elF False (.tuple [.agg [.int .i64, .int .i64, .slice, .slice], .agg [.int .i64, .int .i64]]) v177 fun n178 n179 a180 l180 c180 a181 l181 c181 n182 n183 =>
  stRow h b163 0 0 [.int .i64 n178, .int .i64 n179, .slice a180 l180 c180, .slice a181 l181 c181] fun h =>
  stRow h b176 0 0 [.int .i64 n182, .int .i64 n183] fun h =>
  laws_FnExactSchedStep_j2 kr b32 b33 b35 n95 b163 b176 h)) ∧ (new h [.int .i64 0, .int .i64 0] 34 fun b184 h =>
  heldRow h b31 0 0 [.int .i64 n106, .int .i64 n107, .int .i64 n108] (callK Try.prog 7 ⟨[.agg ⟨[.int .i64 n106, .int .i64 n107, .int .i64 n108]⟩]⟩ h fun v185 h =>
  elF False (.agg [.int .i64, .int .i64, .int .i64]) v185 fun n186 n187 n188 =>
  callK Try.prog 8 ⟨[.agg ⟨[.int .i64 n110, .int .i64 n111, .slice a112 l112 c112, .slice a113 l113 c113]⟩, .agg ⟨[.int .i64 n186, .int .i64 n187, .int .i64 n188]⟩]⟩ h fun v189 h =>
  elF False (.tuple [.agg [.int .i64, .int .i64, .slice, .slice], .agg [.int .i64, .int .i64]]) v189 fun n190 n191 a192 l192 c192 a193 l193 c193 n194 n195 =>
  stRow h b163 0 0 [.int .i64 n190, .int .i64 n191, .slice a192 l192 c192, .slice a193 l193 c193] fun h =>
  stRow h b184 0 0 [.int .i64 n194, .int .i64 n195] fun h =>
  laws_FnExactSchedStep_j2 kr b32 b33 b35 n95 b163 b184 h)))) ∧ (new h [.int .i64 0, .int .i64 0] 34 fun b196 h =>
  heldRow h b31 0 0 [.int .i64 n106, .int .i64 n107, .int .i64 n108] ((callK Try.prog 7 ⟨[.agg ⟨[.int .i64 n106, .int .i64 n107, .int .i64 n108]⟩]⟩ h fun v197 h =>
  elF False (.agg [.int .i64, .int .i64, .int .i64]) v197 fun n198 n199 n200 =>
  (callK Try.prog 8 ⟨[.agg ⟨[.int .i64 n110, .int .i64 n111, .slice a112 l112 c112, .slice a113 l113 c113]⟩, .agg ⟨[.int .i64 n198, .int .i64 n199, .int .i64 n200]⟩]⟩ h fun v201 h =>
  elF False (.tuple [.agg [.int .i64, .int .i64, .slice, .slice], .agg [.int .i64, .int .i64]]) v201 fun n202 n203 a204 l204 c204 a205 l205 c205 n206 n207 =>
  new h [.int .i64 0, .int .i64 0, .slice none 0 0, .slice none 0 0] 32 fun b208 h =>
  stRow h b208 0 0 [.int .i64 n202, .int .i64 n203, .slice a204 l204 c204, .slice a205 l205 c205] fun h =>
  stRow h b196 0 0 [.int .i64 n206, .int .i64 n207] fun h =>
  laws_FnExactSchedStep_j2 kr b32 b33 b35 n95 b208 b196 h) ∧ (new h [.int .i64 0, .int .i64 0, .slice none 0 0, .slice none 0 0] 32 fun b209 h =>
  callK Try.prog 8 ⟨[.agg ⟨[.int .i64 n110, .int .i64 n111, .slice a112 l112 c112, .slice a113 l113 c113]⟩, .agg ⟨[.int .i64 n198, .int .i64 n199, .int .i64 n200]⟩]⟩ h fun v210 h =>
  elF False (.tuple [.agg [.int .i64, .int .i64, .slice, .slice], .agg [.int .i64, .int .i64]]) v210 fun n211 n212 a213 l213 c213 a214 l214 c214 n215 n216 =>
  stRow h b209 0 0 [.int .i64 n211, .int .i64 n212, .slice a213 l213 c213, .slice a214 l214 c214] fun h =>
  stRow h b196 0 0 [.int .i64 n215, .int .i64 n216] fun h =>
  laws_FnExactSchedStep_j2 kr b32 b33 b35 n95 b209 b196 h)) ∧ (new h [.int .i64 0, .int .i64 0, .slice none 0 0, .slice none 0 0] 32 fun b217 h =>
  heldRow h b31 0 0 [.int .i64 n106, .int .i64 n107, .int .i64 n108] (callK Try.prog 7 ⟨[.agg ⟨[.int .i64 n106, .int .i64 n107, .int .i64 n108]⟩]⟩ h fun v218 h =>
  elF False (.agg [.int .i64, .int .i64, .int .i64]) v218 fun n219 n220 n221 =>
  callK Try.prog 8 ⟨[.agg ⟨[.int .i64 n110, .int .i64 n111, .slice a112 l112 c112, .slice a113 l113 c113]⟩, .agg ⟨[.int .i64 n219, .int .i64 n220, .int .i64 n221]⟩]⟩ h fun v222 h =>
  elF False (.tuple [.agg [.int .i64, .int .i64, .slice, .slice], .agg [.int .i64, .int .i64]]) v222 fun n223 n224 a225 l225 c225 a226 l226 c226 n227 n228 =>
  stRow h b217 0 0 [.int .i64 n223, .int .i64 n224, .slice a225 l225 c225, .slice a226 l226 c226] fun h =>
  stRow h b196 0 0 [.int .i64 n227, .int .i64 n228] fun h =>
  laws_FnExactSchedStep_j2 kr b32 b33 b35 n95 b217 b196 h)))))) ∧ (new h [.int .i64 0, .int .i64 0, .slice none 0 0, .slice none 0 0] 32 fun b229 h =>
  heldRow h b31 0 0 [.int .i64 n106, .int .i64 n107, .int .i64 n108] (heldRow h b30 0 0 [.int .i64 n102, .int .i64 n103, .slice a104 l104 c104, .slice a105 l105 c105] ((callK Try.prog 6 ⟨[.agg ⟨[.int .i64 n102, .int .i64 n103, .slice a104 l104 c104, .slice a105 l105 c105]⟩]⟩ h fun v230 h =>
  elF False (.agg [.int .i64, .int .i64, .slice, .slice]) v230 fun n231 n232 a233 l233 c233 a234 l234 c234 =>
  heldRow h b31 0 0 [.int .i64 n106, .int .i64 n107, .int .i64 n108] ((callK Try.prog 7 ⟨[.agg ⟨[.int .i64 n106, .int .i64 n107, .int .i64 n108]⟩]⟩ h fun v235 h =>
  elF False (.agg [.int .i64, .int .i64, .int .i64]) v235 fun n236 n237 n238 =>
  (callK Try.prog 8 ⟨[.agg ⟨[.int .i64 n231, .int .i64 n232, .slice a233 l233 c233, .slice a234 l234 c234]⟩, .agg ⟨[.int .i64 n236, .int .i64 n237, .int .i64 n238]⟩]⟩ h fun v239 h =>
  elF False (.tuple [.agg [.int .i64, .int .i64, .slice, .slice], .agg [.int .i64, .int .i64]]) v239 fun n240 n241 a242 l242 c242 a243 l243 c243 n244 n245 =>
  new h [.int .i64 0, .int .i64 0] 34 fun b246 h =>
  stRow h b229 0 0 [.int .i64 n240, .int .i64 n241, .slice a242 l242 c242, .slice a243 l243 c243] fun h =>
  stRow h b246 0 0 [.int .i64 n244, .int .i64 n245] fun h =>
  laws_FnExactSchedStep_j2 kr b32 b33 b35 n95 b229 b246 h) ∧ (new h [.int .i64 0, .int .i64 0] 34 fun b247 h =>
  callK Try.prog 8 ⟨[.agg ⟨[.int .i64 n231, .int .i64 n232, .slice a233 l233 c233, .slice a234 l234 c234]⟩, .agg ⟨[.int .i64 n236, .int .i64 n237, .int .i64 n238]⟩]⟩ h fun v248 h =>
  elF False (.tuple [.agg [.int .i64, .int .i64, .slice, .slice], .agg [.int .i64, .int .i64]]) v248 fun n249 n250 a251 l251 c251 a252 l252 c252 n253 n254 =>
  stRow h b229 0 0 [.int .i64 n249, .int .i64 n250, .slice a251 l251 c251, .slice a252 l252 c252] fun h =>
  stRow h b247 0 0 [.int .i64 n253, .int .i64 n254] fun h =>
  laws_FnExactSchedStep_j2 kr b32 b33 b35 n95 b229 b247 h)) ∧ (new h [.int .i64 0, .int .i64 0] 34 fun b255 h =>
  heldRow h b31 0 0 [.int .i64 n106, .int .i64 n107, .int .i64 n108] (callK Try.prog 7 ⟨[.agg ⟨[.int .i64 n106, .int .i64 n107, .int .i64 n108]⟩]⟩ h fun v256 h =>
  elF False (.agg [.int .i64, .int .i64, .int .i64]) v256 fun n257 n258 n259 =>
  callK Try.prog 8 ⟨[.agg ⟨[.int .i64 n231, .int .i64 n232, .slice a233 l233 c233, .slice a234 l234 c234]⟩, .agg ⟨[.int .i64 n257, .int .i64 n258, .int .i64 n259]⟩]⟩ h fun v260 h =>
  elF False (.tuple [.agg [.int .i64, .int .i64, .slice, .slice], .agg [.int .i64, .int .i64]]) v260 fun n261 n262 a263 l263 c263 a264 l264 c264 n265 n266 =>
  stRow h b229 0 0 [.int .i64 n261, .int .i64 n262, .slice a263 l263 c263, .slice a264 l264 c264] fun h =>
  stRow h b255 0 0 [.int .i64 n265, .int .i64 n266] fun h =>
  laws_FnExactSchedStep_j2 kr b32 b33 b35 n95 b229 b255 h)))) ∧ (new h [.int .i64 0, .int .i64 0] 34 fun b267 h =>
  heldRow h b31 0 0 [.int .i64 n106, .int .i64 n107, .int .i64 n108] (heldRow h b30 0 0 [.int .i64 n102, .int .i64 n103, .slice a104 l104 c104, .slice a105 l105 c105] (callK Try.prog 6 ⟨[.agg ⟨[.int .i64 n102, .int .i64 n103, .slice a104 l104 c104, .slice a105 l105 c105]⟩]⟩ h fun v268 h =>
  elF False (.agg [.int .i64, .int .i64, .slice, .slice]) v268 fun n269 n270 a271 l271 c271 a272 l272 c272 =>
  heldRow h b31 0 0 [.int .i64 n106, .int .i64 n107, .int .i64 n108] (callK Try.prog 7 ⟨[.agg ⟨[.int .i64 n106, .int .i64 n107, .int .i64 n108]⟩]⟩ h fun v273 h =>
  elF False (.agg [.int .i64, .int .i64, .int .i64]) v273 fun n274 n275 n276 =>
  callK Try.prog 8 ⟨[.agg ⟨[.int .i64 n269, .int .i64 n270, .slice a271 l271 c271, .slice a272 l272 c272]⟩, .agg ⟨[.int .i64 n274, .int .i64 n275, .int .i64 n276]⟩]⟩ h fun v277 h =>
  elF False (.tuple [.agg [.int .i64, .int .i64, .slice, .slice], .agg [.int .i64, .int .i64]]) v277 fun n278 n279 a280 l280 c280 a281 l281 c281 n282 n283 =>
  stRow h b229 0 0 [.int .i64 n278, .int .i64 n279, .slice a280 l280 c280, .slice a281 l281 c281] fun h =>
  stRow h b267 0 0 [.int .i64 n282, .int .i64 n283] fun h =>
  laws_FnExactSchedStep_j2 kr b32 b33 b35 n95 b229 b267 h))))))) ∧ (new h [.int .i64 0, .int .i64 0] 34 fun b284 h =>
  heldRow h b31 0 0 [.int .i64 n106, .int .i64 n107, .int .i64 n108] (heldRow h b30 0 0 [.int .i64 n102, .int .i64 n103, .slice a104 l104 c104, .slice a105 l105 c105] ((callK Try.prog 6 ⟨[.agg ⟨[.int .i64 n102, .int .i64 n103, .slice a104 l104 c104, .slice a105 l105 c105]⟩]⟩ h fun v285 h =>
  elF False (.agg [.int .i64, .int .i64, .slice, .slice]) v285 fun n286 n287 a288 l288 c288 a289 l289 c289 =>
  heldRow h b31 0 0 [.int .i64 n106, .int .i64 n107, .int .i64 n108] ((callK Try.prog 7 ⟨[.agg ⟨[.int .i64 n106, .int .i64 n107, .int .i64 n108]⟩]⟩ h fun v290 h =>
  elF False (.agg [.int .i64, .int .i64, .int .i64]) v290 fun n291 n292 n293 =>
  (callK Try.prog 8 ⟨[.agg ⟨[.int .i64 n286, .int .i64 n287, .slice a288 l288 c288, .slice a289 l289 c289]⟩, .agg ⟨[.int .i64 n291, .int .i64 n292, .int .i64 n293]⟩]⟩ h fun v294 h =>
  elF False (.tuple [.agg [.int .i64, .int .i64, .slice, .slice], .agg [.int .i64, .int .i64]]) v294 fun n295 n296 a297 l297 c297 a298 l298 c298 n299 n300 =>
  new h [.int .i64 0, .int .i64 0, .slice none 0 0, .slice none 0 0] 32 fun b301 h =>
  stRow h b301 0 0 [.int .i64 n295, .int .i64 n296, .slice a297 l297 c297, .slice a298 l298 c298] fun h =>
  stRow h b284 0 0 [.int .i64 n299, .int .i64 n300] fun h =>
  laws_FnExactSchedStep_j2 kr b32 b33 b35 n95 b301 b284 h) ∧ (new h [.int .i64 0, .int .i64 0, .slice none 0 0, .slice none 0 0] 32 fun b302 h =>
  callK Try.prog 8 ⟨[.agg ⟨[.int .i64 n286, .int .i64 n287, .slice a288 l288 c288, .slice a289 l289 c289]⟩, .agg ⟨[.int .i64 n291, .int .i64 n292, .int .i64 n293]⟩]⟩ h fun v303 h =>
  elF False (.tuple [.agg [.int .i64, .int .i64, .slice, .slice], .agg [.int .i64, .int .i64]]) v303 fun n304 n305 a306 l306 c306 a307 l307 c307 n308 n309 =>
  stRow h b302 0 0 [.int .i64 n304, .int .i64 n305, .slice a306 l306 c306, .slice a307 l307 c307] fun h =>
  stRow h b284 0 0 [.int .i64 n308, .int .i64 n309] fun h =>
  laws_FnExactSchedStep_j2 kr b32 b33 b35 n95 b302 b284 h)) ∧ (new h [.int .i64 0, .int .i64 0, .slice none 0 0, .slice none 0 0] 32 fun b310 h =>
  heldRow h b31 0 0 [.int .i64 n106, .int .i64 n107, .int .i64 n108] (callK Try.prog 7 ⟨[.agg ⟨[.int .i64 n106, .int .i64 n107, .int .i64 n108]⟩]⟩ h fun v311 h =>
  elF False (.agg [.int .i64, .int .i64, .int .i64]) v311 fun n312 n313 n314 =>
  callK Try.prog 8 ⟨[.agg ⟨[.int .i64 n286, .int .i64 n287, .slice a288 l288 c288, .slice a289 l289 c289]⟩, .agg ⟨[.int .i64 n312, .int .i64 n313, .int .i64 n314]⟩]⟩ h fun v315 h =>
  elF False (.tuple [.agg [.int .i64, .int .i64, .slice, .slice], .agg [.int .i64, .int .i64]]) v315 fun n316 n317 a318 l318 c318 a319 l319 c319 n320 n321 =>
  stRow h b310 0 0 [.int .i64 n316, .int .i64 n317, .slice a318 l318 c318, .slice a319 l319 c319] fun h =>
  stRow h b284 0 0 [.int .i64 n320, .int .i64 n321] fun h =>
  laws_FnExactSchedStep_j2 kr b32 b33 b35 n95 b310 b284 h)))) ∧ (new h [.int .i64 0, .int .i64 0, .slice none 0 0, .slice none 0 0] 32 fun b322 h =>
  heldRow h b31 0 0 [.int .i64 n106, .int .i64 n107, .int .i64 n108] (heldRow h b30 0 0 [.int .i64 n102, .int .i64 n103, .slice a104 l104 c104, .slice a105 l105 c105] (callK Try.prog 6 ⟨[.agg ⟨[.int .i64 n102, .int .i64 n103, .slice a104 l104 c104, .slice a105 l105 c105]⟩]⟩ h fun v323 h =>
  elF False (.agg [.int .i64, .int .i64, .slice, .slice]) v323 fun n324 n325 a326 l326 c326 a327 l327 c327 =>
  heldRow h b31 0 0 [.int .i64 n106, .int .i64 n107, .int .i64 n108] (callK Try.prog 7 ⟨[.agg ⟨[.int .i64 n106, .int .i64 n107, .int .i64 n108]⟩]⟩ h fun v328 h =>
  elF False (.agg [.int .i64, .int .i64, .int .i64]) v328 fun n329 n330 n331 =>
  callK Try.prog 8 ⟨[.agg ⟨[.int .i64 n324, .int .i64 n325, .slice a326 l326 c326, .slice a327 l327 c327]⟩, .agg ⟨[.int .i64 n329, .int .i64 n330, .int .i64 n331]⟩]⟩ h fun v332 h =>
  elF False (.tuple [.agg [.int .i64, .int .i64, .slice, .slice], .agg [.int .i64, .int .i64]]) v332 fun n333 n334 a335 l335 c335 a336 l336 c336 n337 n338 =>
  stRow h b322 0 0 [.int .i64 n333, .int .i64 n334, .slice a335 l335 c335, .slice a336 l336 c336] fun h =>
  stRow h b284 0 0 [.int .i64 n337, .int .i64 n338] fun h =>
  laws_FnExactSchedStep_j2 kr b32 b33 b35 n95 b322 b284 h))))))))))))))))

def laws_FnExactSchedStep_j0 (kr : Bool → H → Prop) (b16 : Nat) (b17 : Nat) (b18 : Nat) (b19 : Nat) (h : H) : Prop :=
  ldRow h b16 0 0 [.int .i64, .int .i64, .slice, .slice] fun n20 n21 a22 l22 c22 a23 l23 c23 =>
  callK Try.prog 6 ⟨[.agg ⟨[.int .i64 n20, .int .i64 n21, .slice a22 l22 c22, .slice a23 l23 c23]⟩]⟩ h fun v24 h =>
  elF False (.agg [.int .i64, .int .i64, .slice, .slice]) v24 fun n25 n26 a27 l27 c27 a28 l28 c28 =>
  new h [.int .i64 0, .int .i64 0, .slice none 0 0, .slice none 0 0] 32 fun b29 h =>
  stRow h b29 0 0 [.int .i64 n25, .int .i64 n26, .slice a27 l27 c27, .slice a28 l28 c28] fun h =>
  ldRow h b29 0 0 [.int .i64, .int .i64, .slice, .slice] fun n30 n31 a32 l32 c32 a33 l33 c33 =>
  ldRow h b17 0 0 [.int .i64, .int .i64, .int .i64] fun n34 n35 n36 =>
  (callK Try.prog 7 ⟨[.agg ⟨[.int .i64 n34, .int .i64 n35, .int .i64 n36]⟩]⟩ h fun v37 h =>
  elF False (.agg [.int .i64, .int .i64, .int .i64]) v37 fun n38 n39 n40 =>
  heldRow h b29 0 0 [.int .i64 n30, .int .i64 n31, .slice a32 l32 c32, .slice a33 l33 c33] ((callK Try.prog 8 ⟨[.agg ⟨[.int .i64 n30, .int .i64 n31, .slice a32 l32 c32, .slice a33 l33 c33]⟩, .agg ⟨[.int .i64 n38, .int .i64 n39, .int .i64 n40]⟩]⟩ h fun v41 h =>
  elF False (.tuple [.agg [.int .i64, .int .i64, .slice, .slice], .agg [.int .i64, .int .i64]]) v41 fun n42 n43 a44 l44 c44 a45 l45 c45 n46 n47 =>
  (new h [.int .i64 0, .int .i64 0, .slice none 0 0, .slice none 0 0] 32 fun b48 h =>
  new h [.int .i64 0, .int .i64 0] 34 fun b49 h =>
  stRow h b48 0 0 [.int .i64 n42, .int .i64 n43, .slice a44 l44 c44, .slice a45 l45 c45] fun h =>
  stRow h b49 0 0 [.int .i64 n46, .int .i64 n47] fun h =>
  laws_FnExactSchedStep_j1 kr b16 b17 b18 b19 b29 b48 b49 h) ∧ (new h [.int .i64 0, .int .i64 0] 34 fun b50 h =>
  new h [.int .i64 0, .int .i64 0, .slice none 0 0, .slice none 0 0] 32 fun b51 h =>
  stRow h b51 0 0 [.int .i64 n42, .int .i64 n43, .slice a44 l44 c44, .slice a45 l45 c45] fun h =>
  stRow h b50 0 0 [.int .i64 n46, .int .i64 n47] fun h =>
  laws_FnExactSchedStep_j1 kr b16 b17 b18 b19 b29 b51 b50 h)) ∧ (new h [.int .i64 0, .int .i64 0, .slice none 0 0, .slice none 0 0] 32 fun b52 h =>
  heldRow h b29 0 0 [.int .i64 n30, .int .i64 n31, .slice a32 l32 c32, .slice a33 l33 c33] ((callK Try.prog 8 ⟨[.agg ⟨[.int .i64 n30, .int .i64 n31, .slice a32 l32 c32, .slice a33 l33 c33]⟩, .agg ⟨[.int .i64 n38, .int .i64 n39, .int .i64 n40]⟩]⟩ h fun v53 h =>
  elF False (.tuple [.agg [.int .i64, .int .i64, .slice, .slice], .agg [.int .i64, .int .i64]]) v53 fun n54 n55 a56 l56 c56 a57 l57 c57 n58 n59 =>
  new h [.int .i64 0, .int .i64 0] 34 fun b60 h =>
  stRow h b52 0 0 [.int .i64 n54, .int .i64 n55, .slice a56 l56 c56, .slice a57 l57 c57] fun h =>
  stRow h b60 0 0 [.int .i64 n58, .int .i64 n59] fun h =>
  laws_FnExactSchedStep_j1 kr b16 b17 b18 b19 b29 b52 b60 h) ∧ (new h [.int .i64 0, .int .i64 0] 34 fun b61 h =>
  heldRow h b29 0 0 [.int .i64 n30, .int .i64 n31, .slice a32 l32 c32, .slice a33 l33 c33] (callK Try.prog 8 ⟨[.agg ⟨[.int .i64 n30, .int .i64 n31, .slice a32 l32 c32, .slice a33 l33 c33]⟩, .agg ⟨[.int .i64 n38, .int .i64 n39, .int .i64 n40]⟩]⟩ h fun v62 h =>
  elF False (.tuple [.agg [.int .i64, .int .i64, .slice, .slice], .agg [.int .i64, .int .i64]]) v62 fun n63 n64 a65 l65 c65 a66 l66 c66 n67 n68 =>
  stRow h b52 0 0 [.int .i64 n63, .int .i64 n64, .slice a65 l65 c65, .slice a66 l66 c66] fun h =>
  stRow h b61 0 0 [.int .i64 n67, .int .i64 n68] fun h =>
  laws_FnExactSchedStep_j1 kr b16 b17 b18 b19 b29 b52 b61 h)))) ∧ (new h [.int .i64 0, .int .i64 0] 34 fun b69 h =>
  heldRow h b29 0 0 [.int .i64 n30, .int .i64 n31, .slice a32 l32 c32, .slice a33 l33 c33] ((callK Try.prog 8 ⟨[.agg ⟨[.int .i64 n30, .int .i64 n31, .slice a32 l32 c32, .slice a33 l33 c33]⟩, .agg ⟨[.int .i64 n38, .int .i64 n39, .int .i64 n40]⟩]⟩ h fun v70 h =>
  elF False (.tuple [.agg [.int .i64, .int .i64, .slice, .slice], .agg [.int .i64, .int .i64]]) v70 fun n71 n72 a73 l73 c73 a74 l74 c74 n75 n76 =>
  new h [.int .i64 0, .int .i64 0, .slice none 0 0, .slice none 0 0] 32 fun b77 h =>
  stRow h b77 0 0 [.int .i64 n71, .int .i64 n72, .slice a73 l73 c73, .slice a74 l74 c74] fun h =>
  stRow h b69 0 0 [.int .i64 n75, .int .i64 n76] fun h =>
  laws_FnExactSchedStep_j1 kr b16 b17 b18 b19 b29 b77 b69 h) ∧ (new h [.int .i64 0, .int .i64 0, .slice none 0 0, .slice none 0 0] 32 fun b78 h =>
  heldRow h b29 0 0 [.int .i64 n30, .int .i64 n31, .slice a32 l32 c32, .slice a33 l33 c33] (callK Try.prog 8 ⟨[.agg ⟨[.int .i64 n30, .int .i64 n31, .slice a32 l32 c32, .slice a33 l33 c33]⟩, .agg ⟨[.int .i64 n38, .int .i64 n39, .int .i64 n40]⟩]⟩ h fun v79 h =>
  elF False (.tuple [.agg [.int .i64, .int .i64, .slice, .slice], .agg [.int .i64, .int .i64]]) v79 fun n80 n81 a82 l82 c82 a83 l83 c83 n84 n85 =>
  stRow h b78 0 0 [.int .i64 n80, .int .i64 n81, .slice a82 l82 c82, .slice a83 l83 c83] fun h =>
  stRow h b69 0 0 [.int .i64 n84, .int .i64 n85] fun h =>
  laws_FnExactSchedStep_j1 kr b16 b17 b18 b19 b29 b78 b69 h)))))) ∧ (new h [.int .i64 0, .int .i64 0, .slice none 0 0, .slice none 0 0] 32 fun b86 h =>
  heldRow h b17 0 0 [.int .i64 n34, .int .i64 n35, .int .i64 n36] (heldRow h b29 0 0 [.int .i64 n30, .int .i64 n31, .slice a32 l32 c32, .slice a33 l33 c33] ((callK Try.prog 7 ⟨[.agg ⟨[.int .i64 n34, .int .i64 n35, .int .i64 n36]⟩]⟩ h fun v87 h =>
  elF False (.agg [.int .i64, .int .i64, .int .i64]) v87 fun n88 n89 n90 =>
  heldRow h b29 0 0 [.int .i64 n30, .int .i64 n31, .slice a32 l32 c32, .slice a33 l33 c33] ((callK Try.prog 8 ⟨[.agg ⟨[.int .i64 n30, .int .i64 n31, .slice a32 l32 c32, .slice a33 l33 c33]⟩, .agg ⟨[.int .i64 n88, .int .i64 n89, .int .i64 n90]⟩]⟩ h fun v91 h =>
  elF False (.tuple [.agg [.int .i64, .int .i64, .slice, .slice], .agg [.int .i64, .int .i64]]) v91 fun n92 n93 a94 l94 c94 a95 l95 c95 n96 n97 =>
  new h [.int .i64 0, .int .i64 0] 34 fun b98 h =>
  stRow h b86 0 0 [.int .i64 n92, .int .i64 n93, .slice a94 l94 c94, .slice a95 l95 c95] fun h =>
  stRow h b98 0 0 [.int .i64 n96, .int .i64 n97] fun h =>
  laws_FnExactSchedStep_j1 kr b16 b17 b18 b19 b29 b86 b98 h) ∧ (new h [.int .i64 0, .int .i64 0] 34 fun b99 h =>
  heldRow h b29 0 0 [.int .i64 n30, .int .i64 n31, .slice a32 l32 c32, .slice a33 l33 c33] (callK Try.prog 8 ⟨[.agg ⟨[.int .i64 n30, .int .i64 n31, .slice a32 l32 c32, .slice a33 l33 c33]⟩, .agg ⟨[.int .i64 n88, .int .i64 n89, .int .i64 n90]⟩]⟩ h fun v100 h =>
  elF False (.tuple [.agg [.int .i64, .int .i64, .slice, .slice], .agg [.int .i64, .int .i64]]) v100 fun n101 n102 a103 l103 c103 a104 l104 c104 n105 n106 =>
  stRow h b86 0 0 [.int .i64 n101, .int .i64 n102, .slice a103 l103 c103, .slice a104 l104 c104] fun h =>
  stRow h b99 0 0 [.int .i64 n105, .int .i64 n106] fun h =>
  laws_FnExactSchedStep_j1 kr b16 b17 b18 b19 b29 b86 b99 h)))) ∧ (new h [.int .i64 0, .int .i64 0] 34 fun b107 h =>
  heldRow h b17 0 0 [.int .i64 n34, .int .i64 n35, .int .i64 n36] (heldRow h b29 0 0 [.int .i64 n30, .int .i64 n31, .slice a32 l32 c32, .slice a33 l33 c33] (callK Try.prog 7 ⟨[.agg ⟨[.int .i64 n34, .int .i64 n35, .int .i64 n36]⟩]⟩ h fun v108 h =>
  elF False (.agg [.int .i64, .int .i64, .int .i64]) v108 fun n109 n110 n111 =>
  heldRow h b29 0 0 [.int .i64 n30, .int .i64 n31, .slice a32 l32 c32, .slice a33 l33 c33] (callK Try.prog 8 ⟨[.agg ⟨[.int .i64 n30, .int .i64 n31, .slice a32 l32 c32, .slice a33 l33 c33]⟩, .agg ⟨[.int .i64 n109, .int .i64 n110, .int .i64 n111]⟩]⟩ h fun v112 h =>
  elF False (.tuple [.agg [.int .i64, .int .i64, .slice, .slice], .agg [.int .i64, .int .i64]]) v112 fun n113 n114 a115 l115 c115 a116 l116 c116 n117 n118 =>
  stRow h b86 0 0 [.int .i64 n113, .int .i64 n114, .slice a115 l115 c115, .slice a116 l116 c116] fun h =>
  stRow h b107 0 0 [.int .i64 n117, .int .i64 n118] fun h =>
  laws_FnExactSchedStep_j1 kr b16 b17 b18 b19 b29 b86 b107 h))))))) ∧ (new h [.int .i64 0, .int .i64 0] 34 fun b119 h =>
  heldRow h b17 0 0 [.int .i64 n34, .int .i64 n35, .int .i64 n36] (heldRow h b29 0 0 [.int .i64 n30, .int .i64 n31, .slice a32 l32 c32, .slice a33 l33 c33] ((callK Try.prog 7 ⟨[.agg ⟨[.int .i64 n34, .int .i64 n35, .int .i64 n36]⟩]⟩ h fun v120 h =>
  elF False (.agg [.int .i64, .int .i64, .int .i64]) v120 fun n121 n122 n123 =>
  heldRow h b29 0 0 [.int .i64 n30, .int .i64 n31, .slice a32 l32 c32, .slice a33 l33 c33] ((callK Try.prog 8 ⟨[.agg ⟨[.int .i64 n30, .int .i64 n31, .slice a32 l32 c32, .slice a33 l33 c33]⟩, .agg ⟨[.int .i64 n121, .int .i64 n122, .int .i64 n123]⟩]⟩ h fun v124 h =>
  elF False (.tuple [.agg [.int .i64, .int .i64, .slice, .slice], .agg [.int .i64, .int .i64]]) v124 fun n125 n126 a127 l127 c127 a128 l128 c128 n129 n130 =>
  new h [.int .i64 0, .int .i64 0, .slice none 0 0, .slice none 0 0] 32 fun b131 h =>
  stRow h b131 0 0 [.int .i64 n125, .int .i64 n126, .slice a127 l127 c127, .slice a128 l128 c128] fun h =>
  stRow h b119 0 0 [.int .i64 n129, .int .i64 n130] fun h =>
  laws_FnExactSchedStep_j1 kr b16 b17 b18 b19 b29 b131 b119 h) ∧ (new h [.int .i64 0, .int .i64 0, .slice none 0 0, .slice none 0 0] 32 fun b132 h =>
  heldRow h b29 0 0 [.int .i64 n30, .int .i64 n31, .slice a32 l32 c32, .slice a33 l33 c33] (callK Try.prog 8 ⟨[.agg ⟨[.int .i64 n30, .int .i64 n31, .slice a32 l32 c32, .slice a33 l33 c33]⟩, .agg ⟨[.int .i64 n121, .int .i64 n122, .int .i64 n123]⟩]⟩ h fun v133 h =>
  elF False (.tuple [.agg [.int .i64, .int .i64, .slice, .slice], .agg [.int .i64, .int .i64]]) v133 fun n134 n135 a136 l136 c136 a137 l137 c137 n138 n139 =>
  stRow h b132 0 0 [.int .i64 n134, .int .i64 n135, .slice a136 l136 c136, .slice a137 l137 c137] fun h =>
  stRow h b119 0 0 [.int .i64 n138, .int .i64 n139] fun h =>
  laws_FnExactSchedStep_j1 kr b16 b17 b18 b19 b29 b132 b119 h)))) ∧ (new h [.int .i64 0, .int .i64 0, .slice none 0 0, .slice none 0 0] 32 fun b140 h =>
  heldRow h b17 0 0 [.int .i64 n34, .int .i64 n35, .int .i64 n36] (heldRow h b29 0 0 [.int .i64 n30, .int .i64 n31, .slice a32 l32 c32, .slice a33 l33 c33] (callK Try.prog 7 ⟨[.agg ⟨[.int .i64 n34, .int .i64 n35, .int .i64 n36]⟩]⟩ h fun v141 h =>
  elF False (.agg [.int .i64, .int .i64, .int .i64]) v141 fun n142 n143 n144 =>
  heldRow h b29 0 0 [.int .i64 n30, .int .i64 n31, .slice a32 l32 c32, .slice a33 l33 c33] (callK Try.prog 8 ⟨[.agg ⟨[.int .i64 n30, .int .i64 n31, .slice a32 l32 c32, .slice a33 l33 c33]⟩, .agg ⟨[.int .i64 n142, .int .i64 n143, .int .i64 n144]⟩]⟩ h fun v145 h =>
  elF False (.tuple [.agg [.int .i64, .int .i64, .slice, .slice], .agg [.int .i64, .int .i64]]) v145 fun n146 n147 a148 l148 c148 a149 l149 c149 n150 n151 =>
  stRow h b140 0 0 [.int .i64 n146, .int .i64 n147, .slice a148 l148 c148, .slice a149 l149 c149] fun h =>
  stRow h b119 0 0 [.int .i64 n150, .int .i64 n151] fun h =>
  laws_FnExactSchedStep_j1 kr b16 b17 b18 b19 b29 b140 b119 h)))))))

def laws_FnExactSchedStep (kr : Bool → H → Prop) (n1 : Int) (n2 : Int) (a3 : Option Addr) (l3 : Nat) (c3 : Nat) (a4 : Option Addr) (l4 : Nat) (c4 : Nat) (n5 : Int) (n6 : Int) (n7 : Int) (h : H) : Prop :=
  new h [.int .i64 n1, .int .i64 n2, .slice a3 l3 c3, .slice a4 l4 c4] 25 fun b8 h =>
  new h [.int .i64 n5, .int .i64 n6, .int .i64 n7] 27 fun b9 h =>
  ldRow h b8 0 0 [.int .i64, .int .i64, .slice, .slice] fun n10 n11 a12 l12 c12 a13 l13 c13 =>
  callK Try.prog 4 ⟨[.agg ⟨[.int .i64 n10, .int .i64 n11, .slice a12 l12 c12, .slice a13 l13 c13]⟩, .int .i64 1048576]⟩ h fun v14 h =>
  asI .i64 v14 fun n15 =>
  ifB (decide ((n15 : Int) < 0))
  (kr true h)
  (ldRow h b8 0 0 [.int .i64, .int .i64, .slice, .slice] fun n16 n17 a18 l18 c18 a19 l19 c19 =>
  ldRow h b9 0 0 [.int .i64, .int .i64, .int .i64] fun n20 n21 n22 =>
  (callK Try.prog 6 ⟨[.agg ⟨[.int .i64 n16, .int .i64 n17, .slice a18 l18 c18, .slice a19 l19 c19]⟩]⟩ h fun v23 h =>
  elF False (.agg [.int .i64, .int .i64, .slice, .slice]) v23 fun n24 n25 a26 l26 c26 a27 l27 c27 =>
  heldRow h b9 0 0 [.int .i64 n20, .int .i64 n21, .int .i64 n22] ((callK Try.prog 7 ⟨[.agg ⟨[.int .i64 n20, .int .i64 n21, .int .i64 n22]⟩]⟩ h fun v28 h =>
  elF False (.agg [.int .i64, .int .i64, .int .i64]) v28 fun n29 n30 n31 =>
  (callK Try.prog 5 ⟨[.agg ⟨[.int .i64 n24, .int .i64 n25, .slice a26 l26 c26, .slice a27 l27 c27]⟩, .agg ⟨[.int .i64 n29, .int .i64 n30, .int .i64 n31]⟩]⟩ h fun v32 h =>
  elF False (.tuple [.agg [.int .i64, .int .i64, .slice, .slice], .agg [.int .i64, .int .i64]]) v32 fun n33 n34 a35 l35 c35 a36 l36 c36 n37 n38 =>
  (new h [.int .i64 0, .int .i64 0, .slice none 0 0, .slice none 0 0] 32 fun b39 h =>
  new h [.int .i64 0, .int .i64 0] 34 fun b40 h =>
  stRow h b39 0 0 [.int .i64 n33, .int .i64 n34, .slice a35 l35 c35, .slice a36 l36 c36] fun h =>
  stRow h b40 0 0 [.int .i64 n37, .int .i64 n38] fun h =>
  laws_FnExactSchedStep_j0 kr b8 b9 b39 b40 h) ∧ (new h [.int .i64 0, .int .i64 0] 34 fun b41 h =>
  new h [.int .i64 0, .int .i64 0, .slice none 0 0, .slice none 0 0] 32 fun b42 h =>
  stRow h b42 0 0 [.int .i64 n33, .int .i64 n34, .slice a35 l35 c35, .slice a36 l36 c36] fun h =>
  stRow h b41 0 0 [.int .i64 n37, .int .i64 n38] fun h =>
  laws_FnExactSchedStep_j0 kr b8 b9 b42 b41 h)) ∧ (new h [.int .i64 0, .int .i64 0, .slice none 0 0, .slice none 0 0] 32 fun b43 h =>
  (callK Try.prog 5 ⟨[.agg ⟨[.int .i64 n24, .int .i64 n25, .slice a26 l26 c26, .slice a27 l27 c27]⟩, .agg ⟨[.int .i64 n29, .int .i64 n30, .int .i64 n31]⟩]⟩ h fun v44 h =>
  elF False (.tuple [.agg [.int .i64, .int .i64, .slice, .slice], .agg [.int .i64, .int .i64]]) v44 fun n45 n46 a47 l47 c47 a48 l48 c48 n49 n50 =>
  new h [.int .i64 0, .int .i64 0] 34 fun b51 h =>
  stRow h b43 0 0 [.int .i64 n45, .int .i64 n46, .slice a47 l47 c47, .slice a48 l48 c48] fun h =>
  stRow h b51 0 0 [.int .i64 n49, .int .i64 n50] fun h =>
  laws_FnExactSchedStep_j0 kr b8 b9 b43 b51 h) ∧ (new h [.int .i64 0, .int .i64 0] 34 fun b52 h =>
  callK Try.prog 5 ⟨[.agg ⟨[.int .i64 n24, .int .i64 n25, .slice a26 l26 c26, .slice a27 l27 c27]⟩, .agg ⟨[.int .i64 n29, .int .i64 n30, .int .i64 n31]⟩]⟩ h fun v53 h =>
  elF False (.tuple [.agg [.int .i64, .int .i64, .slice, .slice], .agg [.int .i64, .int .i64]]) v53 fun n54 n55 a56 l56 c56 a57 l57 c57 n58 n59 =>
  stRow h b43 0 0 [.int .i64 n54, .int .i64 n55, .slice a56 l56 c56, .slice a57 l57 c57] fun h =>
  stRow h b52 0 0 [.int .i64 n58, .int .i64 n59] fun h =>
  laws_FnExactSchedStep_j0 kr b8 b9 b43 b52 h)) ∧ (new h [.int .i64 0, .int .i64 0] 34 fun b60 h =>
  (callK Try.prog 5 ⟨[.agg ⟨[.int .i64 n24, .int .i64 n25, .slice a26 l26 c26, .slice a27 l27 c27]⟩, .agg ⟨[.int .i64 n29, .int .i64 n30, .int .i64 n31]⟩]⟩ h fun v61 h =>
  elF False (.tuple [.agg [.int .i64, .int .i64, .slice, .slice], .agg [.int .i64, .int .i64]]) v61 fun n62 n63 a64 l64 c64 a65 l65 c65 n66 n67 =>
  new h [.int .i64 0, .int .i64 0, .slice none 0 0, .slice none 0 0] 32 fun b68 h =>
  stRow h b68 0 0 [.int .i64 n62, .int .i64 n63, .slice a64 l64 c64, .slice a65 l65 c65] fun h =>
  stRow h b60 0 0 [.int .i64 n66, .int .i64 n67] fun h =>
  laws_FnExactSchedStep_j0 kr b8 b9 b68 b60 h) ∧ (new h [.int .i64 0, .int .i64 0, .slice none 0 0, .slice none 0 0] 32 fun b69 h =>
  callK Try.prog 5 ⟨[.agg ⟨[.int .i64 n24, .int .i64 n25, .slice a26 l26 c26, .slice a27 l27 c27]⟩, .agg ⟨[.int .i64 n29, .int .i64 n30, .int .i64 n31]⟩]⟩ h fun v70 h =>
  elF False (.tuple [.agg [.int .i64, .int .i64, .slice, .slice], .agg [.int .i64, .int .i64]]) v70 fun n71 n72 a73 l73 c73 a74 l74 c74 n75 n76 =>
  stRow h b69 0 0 [.int .i64 n71, .int .i64 n72, .slice a73 l73 c73, .slice a74 l74 c74] fun h =>
  stRow h b60 0 0 [.int .i64 n75, .int .i64 n76] fun h =>
  laws_FnExactSchedStep_j0 kr b8 b9 b69 b60 h))) ∧ (new h [.int .i64 0, .int .i64 0, .slice none 0 0, .slice none 0 0] 32 fun b77 h =>
  heldRow h b9 0 0 [.int .i64 n20, .int .i64 n21, .int .i64 n22] ((callK Try.prog 7 ⟨[.agg ⟨[.int .i64 n20, .int .i64 n21, .int .i64 n22]⟩]⟩ h fun v78 h =>
  elF False (.agg [.int .i64, .int .i64, .int .i64]) v78 fun n79 n80 n81 =>
  (callK Try.prog 5 ⟨[.agg ⟨[.int .i64 n24, .int .i64 n25, .slice a26 l26 c26, .slice a27 l27 c27]⟩, .agg ⟨[.int .i64 n79, .int .i64 n80, .int .i64 n81]⟩]⟩ h fun v82 h =>
  elF False (.tuple [.agg [.int .i64, .int .i64, .slice, .slice], .agg [.int .i64, .int .i64]]) v82 fun n83 n84 a85 l85 c85 a86 l86 c86 n87 n88 =>
  new h [.int .i64 0, .int .i64 0] 34 fun b89 h =>
  stRow h b77 0 0 [.int .i64 n83, .int .i64 n84, .slice a85 l85 c85, .slice a86 l86 c86] fun h =>
  stRow h b89 0 0 [.int .i64 n87, .int .i64 n88] fun h =>
  laws_FnExactSchedStep_j0 kr b8 b9 b77 b89 h) ∧ (new h [.int .i64 0, .int .i64 0] 34 fun b90 h =>
  callK Try.prog 5 ⟨[.agg ⟨[.int .i64 n24, .int .i64 n25, .slice a26 l26 c26, .slice a27 l27 c27]⟩, .agg ⟨[.int .i64 n79, .int .i64 n80, .int .i64 n81]⟩]⟩ h fun v91 h =>
  elF False (.tuple [.agg [.int .i64, .int .i64, .slice, .slice], .agg [.int .i64, .int .i64]]) v91 fun n92 n93 a94 l94 c94 a95 l95 c95 n96 n97 =>
  stRow h b77 0 0 [.int .i64 n92, .int .i64 n93, .slice a94 l94 c94, .slice a95 l95 c95] fun h =>
  stRow h b90 0 0 [.int .i64 n96, .int .i64 n97] fun h =>
  laws_FnExactSchedStep_j0 kr b8 b9 b77 b90 h)) ∧ (new h [.int .i64 0, .int .i64 0] 34 fun b98 h =>
  heldRow h b9 0 0 [.int .i64 n20, .int .i64 n21, .int .i64 n22] (callK Try.prog 7 ⟨[.agg ⟨[.int .i64 n20, .int .i64 n21, .int .i64 n22]⟩]⟩ h fun v99 h =>
  elF False (.agg [.int .i64, .int .i64, .int .i64]) v99 fun n100 n101 n102 =>
  callK Try.prog 5 ⟨[.agg ⟨[.int .i64 n24, .int .i64 n25, .slice a26 l26 c26, .slice a27 l27 c27]⟩, .agg ⟨[.int .i64 n100, .int .i64 n101, .int .i64 n102]⟩]⟩ h fun v103 h =>
  elF False (.tuple [.agg [.int .i64, .int .i64, .slice, .slice], .agg [.int .i64, .int .i64]]) v103 fun n104 n105 a106 l106 c106 a107 l107 c107 n108 n109 =>
  stRow h b77 0 0 [.int .i64 n104, .int .i64 n105, .slice a106 l106 c106, .slice a107 l107 c107] fun h =>
  stRow h b98 0 0 [.int .i64 n108, .int .i64 n109] fun h =>
  laws_FnExactSchedStep_j0 kr b8 b9 b77 b98 h)))) ∧ (new h [.int .i64 0, .int .i64 0] 34 fun b110 h =>
  heldRow h b9 0 0 [.int .i64 n20, .int .i64 n21, .int .i64 n22] ((callK Try.prog 7 ⟨[.agg ⟨[.int .i64 n20, .int .i64 n21, .int .i64 n22]⟩]⟩ h fun v111 h =>
  elF False (.agg [.int .i64, .int .i64, .int .i64]) v111 fun n112 n113 n114 =>
  (callK Try.prog 5 ⟨[.agg ⟨[.int .i64 n24, .int .i64 n25, .slice a26 l26 c26, .slice a27 l27 c27]⟩, .agg ⟨[.int .i64 n112, .int .i64 n113, .int .i64 n114]⟩]⟩ h fun v115 h =>
  elF False (.tuple [.agg [.int .i64, .int .i64, .slice, .slice], .agg [.int .i64, .int .i64]]) v115 fun n116 n117 a118 l118 c118 a119 l119 c119 n120 n121 =>
  new h [.int .i64 0, .int .i64 0, .slice none 0 0, .slice none 0 0] 32 fun b122 h =>
  stRow h b122 0 0 [.int .i64 n116, .int .i64 n117, .slice a118 l118 c118, .slice a119 l119 c119] fun h =>
  stRow h b110 0 0 [.int .i64 n120, .int .i64 n121] fun h =>
  laws_FnExactSchedStep_j0 kr b8 b9 b122 b110 h) ∧ (new h [.int .i64 0, .int .i64 0, .slice none 0 0, .slice none 0 0] 32 fun b123 h =>
  callK Try.prog 5 ⟨[.agg ⟨[.int .i64 n24, .int .i64 n25, .slice a26 l26 c26, .slice a27 l27 c27]⟩, .agg ⟨[.int .i64 n112, .int .i64 n113, .int .i64 n114]⟩]⟩ h fun v124 h =>
  elF False (.tuple [.agg [.int .i64, .int .i64, .slice, .slice], .agg [.int .i64, .int .i64]]) v124 fun n125 n126 a127 l127 c127 a128 l128 c128 n129 n130 =>
  stRow h b123 0 0 [.int .i64 n125, .int .i64 n126, .slice a127 l127 c127, .slice a128 l128 c128] fun h =>
  stRow h b110 0 0 [.int .i64 n129, .int .i64 n130] fun h =>
  laws_FnExactSchedStep_j0 kr b8 b9 b123 b110 h)) ∧ (new h [.int .i64 0, .int .i64 0, .slice none 0 0, .slice none 0 0] 32 fun b131 h =>
  heldRow h b9 0 0 [.int .i64 n20, .int .i64 n21, .int .i64 n22] (callK Try.prog 7 ⟨[.agg ⟨[.int .i64 n20, .int .i64 n21, .int .i64 n22]⟩]⟩ h fun v132 h =>
  elF False (.agg [.int .i64, .int .i64, .int .i64]) v132 fun n133 n134 n135 =>
  callK Try.prog 5 ⟨[.agg ⟨[.int .i64 n24, .int .i64 n25, .slice a26 l26 c26, .slice a27 l27 c27]⟩, .agg ⟨[.int .i64 n133, .int .i64 n134, .int .i64 n135]⟩]⟩ h fun v136 h =>
  elF False (.tuple [.agg [.int .i64, .int .i64, .slice, .slice], .agg [.int .i64, .int .i64]]) v136 fun n137 n138 a139 l139 c139 a140 l140 c140 n141 n142 =>
  stRow h b131 0 0 [.int .i64 n137, .int .i64 n138, .slice a139 l139 c139, .slice a140 l140 c140] fun h =>
  stRow h b110 0 0 [.int .i64 n141, .int .i64 n142] fun h =>
  laws_FnExactSchedStep_j0 kr b8 b9 b131 b110 h)))))) ∧ (new h [.int .i64 0, .int .i64 0, .slice none 0 0, .slice none 0 0] 32 fun b143 h =>
  heldRow h b9 0 0 [.int .i64 n20, .int .i64 n21, .int .i64 n22] (heldRow h b8 0 0 [.int .i64 n16, .int .i64 n17, .slice a18 l18 c18, .slice a19 l19 c19] ((callK Try.prog 6 ⟨[.agg ⟨[.int .i64 n16, .int .i64 n17, .slice a18 l18 c18, .slice a19 l19 c19]⟩]⟩ h fun v144 h =>
  elF False (.agg [.int .i64, .int .i64, .slice, .slice]) v144 fun n145 n146 a147 l147 c147 a148 l148 c148 =>
  heldRow h b9 0 0 [.int .i64 n20, .int .i64 n21, .int .i64 n22] ((callK Try.prog 7 ⟨[.agg ⟨[.int .i64 n20, .int .i64 n21, .int .i64 n22]⟩]⟩ h fun v149 h =>
  elF False (.agg [.int .i64, .int .i64, .int .i64]) v149 fun n150 n151 n152 =>
  (callK Try.prog 5 ⟨[.agg ⟨[.int .i64 n145, .int .i64 n146, .slice a147 l147 c147, .slice a148 l148 c148]⟩, .agg ⟨[.int .i64 n150, .int .i64 n151, .int .i64 n152]⟩]⟩ h fun v153 h =>
  elF False (.tuple [.agg [.int .i64, .int .i64, .slice, .slice], .agg [.int .i64, .int .i64]]) v153 fun n154 n155 a156 l156 c156 a157 l157 c157 n158 n159 =>
  new h [.int .i64 0, .int .i64 0] 34 fun b160 h =>
  stRow h b143 0 0 [.int .i64 n154, .int .i64 n155, .slice a156 l156 c156, .slice a157 l157 c157] fun h =>
  stRow h b160 0 0 [.int .i64 n158, .int .i64 n159] fun h =>
  laws_FnExactSchedStep_j0 kr b8 b9 b143 b160 h) ∧ (new h [.int .i64 0, .int .i64 0] 34 fun b161 h =>
  callK Try.prog 5 ⟨[.agg ⟨[.int .i64 n145, .int .i64 n146, .slice a147 l147 c147, .slice a148 l148 c148]⟩, .agg ⟨[.int .i64 n150, .int .i64 n151, .int .i64 n152]⟩]⟩ h fun v162 h =>
  elF False (.tuple [.agg [.int .i64, .int .i64, .slice, .slice], .agg [.int .i64, .int .i64]]) v162 fun n163 n164 a165 l165 c165 a166 l166 c166 n167 n168 =>
  stRow h b143 0 0 [.int .i64 n163, .int .i64 n164, .slice a165 l165 c165, .slice a166 l166 c166] fun h =>
  stRow h b161 0 0 [.int .i64 n167, .int .i64 n168] fun h =>
  laws_FnExactSchedStep_j0 kr b8 b9 b143 b161 h)) ∧ (new h [.int .i64 0, .int .i64 0] 34 fun b169 h =>
  heldRow h b9 0 0 [.int .i64 n20, .int .i64 n21, .int .i64 n22] (callK Try.prog 7 ⟨[.agg ⟨[.int .i64 n20, .int .i64 n21, .int .i64 n22]⟩]⟩ h fun v170 h =>
  elF False (.agg [.int .i64, .int .i64, .int .i64]) v170 fun n171 n172 n173 =>
  callK Try.prog 5 ⟨[.agg ⟨[.int .i64 n145, .int .i64 n146, .slice a147 l147 c147, .slice a148 l148 c148]⟩, .agg ⟨[.int .i64 n171, .int .i64 n172, .int .i64 n173]⟩]⟩ h fun v174 h =>
  elF False (.tuple [.agg [.int .i64, .int .i64, .slice, .slice], .agg [.int .i64, .int .i64]]) v174 fun n175 n176 a177 l177 c177 a178 l178 c178 n179 n180 =>
  stRow h b143 0 0 [.int .i64 n175, .int .i64 n176, .slice a177 l177 c177, .slice a178 l178 c178] fun h =>
  stRow h b169 0 0 [.int .i64 n179, .int .i64 n180] fun h =>
  laws_FnExactSchedStep_j0 kr b8 b9 b143 b169 h)))) ∧ (new h [.int .i64 0, .int .i64 0] 34 fun b181 h =>
  heldRow h b9 0 0 [.int .i64 n20, .int .i64 n21, .int .i64 n22] (heldRow h b8 0 0 [.int .i64 n16, .int .i64 n17, .slice a18 l18 c18, .slice a19 l19 c19] (callK Try.prog 6 ⟨[.agg ⟨[.int .i64 n16, .int .i64 n17, .slice a18 l18 c18, .slice a19 l19 c19]⟩]⟩ h fun v182 h =>
  elF False (.agg [.int .i64, .int .i64, .slice, .slice]) v182 fun n183 n184 a185 l185 c185 a186 l186 c186 =>
  heldRow h b9 0 0 [.int .i64 n20, .int .i64 n21, .int .i64 n22] (callK Try.prog 7 ⟨[.agg ⟨[.int .i64 n20, .int .i64 n21, .int .i64 n22]⟩]⟩ h fun v187 h =>
  elF False (.agg [.int .i64, .int .i64, .int .i64]) v187 fun n188 n189 n190 =>
  callK Try.prog 5 ⟨[.agg ⟨[.int .i64 n183, .int .i64 n184, .slice a185 l185 c185, .slice a186 l186 c186]⟩, .agg ⟨[.int .i64 n188, .int .i64 n189, .int .i64 n190]⟩]⟩ h fun v191 h =>
  elF False (.tuple [.agg [.int .i64, .int .i64, .slice, .slice], .agg [.int .i64, .int .i64]]) v191 fun n192 n193 a194 l194 c194 a195 l195 c195 n196 n197 =>
  stRow h b143 0 0 [.int .i64 n192, .int .i64 n193, .slice a194 l194 c194, .slice a195 l195 c195] fun h =>
  stRow h b181 0 0 [.int .i64 n196, .int .i64 n197] fun h =>
  laws_FnExactSchedStep_j0 kr b8 b9 b143 b181 h))))))) ∧ (new h [.int .i64 0, .int .i64 0] 34 fun b198 h =>
  heldRow h b9 0 0 [.int .i64 n20, .int .i64 n21, .int .i64 n22] (heldRow h b8 0 0 [.int .i64 n16, .int .i64 n17, .slice a18 l18 c18, .slice a19 l19 c19] ((callK Try.prog 6 ⟨[.agg ⟨[.int .i64 n16, .int .i64 n17, .slice a18 l18 c18, .slice a19 l19 c19]⟩]⟩ h fun v199 h =>
  elF False (.agg [.int .i64, .int .i64, .slice, .slice]) v199 fun n200 n201 a202 l202 c202 a203 l203 c203 =>
  heldRow h b9 0 0 [.int .i64 n20, .int .i64 n21, .int .i64 n22] ((callK Try.prog 7 ⟨[.agg ⟨[.int .i64 n20, .int .i64 n21, .int .i64 n22]⟩]⟩ h fun v204 h =>
  elF False (.agg [.int .i64, .int .i64, .int .i64]) v204 fun n205 n206 n207 =>
  (callK Try.prog 5 ⟨[.agg ⟨[.int .i64 n200, .int .i64 n201, .slice a202 l202 c202, .slice a203 l203 c203]⟩, .agg ⟨[.int .i64 n205, .int .i64 n206, .int .i64 n207]⟩]⟩ h fun v208 h =>
  elF False (.tuple [.agg [.int .i64, .int .i64, .slice, .slice], .agg [.int .i64, .int .i64]]) v208 fun n209 n210 a211 l211 c211 a212 l212 c212 n213 n214 =>
  new h [.int .i64 0, .int .i64 0, .slice none 0 0, .slice none 0 0] 32 fun b215 h =>
  stRow h b215 0 0 [.int .i64 n209, .int .i64 n210, .slice a211 l211 c211, .slice a212 l212 c212] fun h =>
  stRow h b198 0 0 [.int .i64 n213, .int .i64 n214] fun h =>
  laws_FnExactSchedStep_j0 kr b8 b9 b215 b198 h) ∧ (new h [.int .i64 0, .int .i64 0, .slice none 0 0, .slice none 0 0] 32 fun b216 h =>
  callK Try.prog 5 ⟨[.agg ⟨[.int .i64 n200, .int .i64 n201, .slice a202 l202 c202, .slice a203 l203 c203]⟩, .agg ⟨[.int .i64 n205, .int .i64 n206, .int .i64 n207]⟩]⟩ h fun v217 h =>
  elF False (.tuple [.agg [.int .i64, .int .i64, .slice, .slice], .agg [.int .i64, .int .i64]]) v217 fun n218 n219 a220 l220 c220 a221 l221 c221 n222 n223 =>
  stRow h b216 0 0 [.int .i64 n218, .int .i64 n219, .slice a220 l220 c220, .slice a221 l221 c221] fun h =>
  stRow h b198 0 0 [.int .i64 n222, .int .i64 n223] fun h =>
  laws_FnExactSchedStep_j0 kr b8 b9 b216 b198 h)) ∧ (new h [.int .i64 0, .int .i64 0, .slice none 0 0, .slice none 0 0] 32 fun b224 h =>
  heldRow h b9 0 0 [.int .i64 n20, .int .i64 n21, .int .i64 n22] (callK Try.prog 7 ⟨[.agg ⟨[.int .i64 n20, .int .i64 n21, .int .i64 n22]⟩]⟩ h fun v225 h =>
  elF False (.agg [.int .i64, .int .i64, .int .i64]) v225 fun n226 n227 n228 =>
  callK Try.prog 5 ⟨[.agg ⟨[.int .i64 n200, .int .i64 n201, .slice a202 l202 c202, .slice a203 l203 c203]⟩, .agg ⟨[.int .i64 n226, .int .i64 n227, .int .i64 n228]⟩]⟩ h fun v229 h =>
  elF False (.tuple [.agg [.int .i64, .int .i64, .slice, .slice], .agg [.int .i64, .int .i64]]) v229 fun n230 n231 a232 l232 c232 a233 l233 c233 n234 n235 =>
  stRow h b224 0 0 [.int .i64 n230, .int .i64 n231, .slice a232 l232 c232, .slice a233 l233 c233] fun h =>
  stRow h b198 0 0 [.int .i64 n234, .int .i64 n235] fun h =>
  laws_FnExactSchedStep_j0 kr b8 b9 b224 b198 h)))) ∧ (new h [.int .i64 0, .int .i64 0, .slice none 0 0, .slice none 0 0] 32 fun b236 h =>
  heldRow h b9 0 0 [.int .i64 n20, .int .i64 n21, .int .i64 n22] (heldRow h b8 0 0 [.int .i64 n16, .int .i64 n17, .slice a18 l18 c18, .slice a19 l19 c19] (callK Try.prog 6 ⟨[.agg ⟨[.int .i64 n16, .int .i64 n17, .slice a18 l18 c18, .slice a19 l19 c19]⟩]⟩ h fun v237 h =>
  elF False (.agg [.int .i64, .int .i64, .slice, .slice]) v237 fun n238 n239 a240 l240 c240 a241 l241 c241 =>
  heldRow h b9 0 0 [.int .i64 n20, .int .i64 n21, .int .i64 n22] (callK Try.prog 7 ⟨[.agg ⟨[.int .i64 n20, .int .i64 n21, .int .i64 n22]⟩]⟩ h fun v242 h =>
  elF False (.agg [.int .i64, .int .i64, .int .i64]) v242 fun n243 n244 n245 =>
  callK Try.prog 5 ⟨[.agg ⟨[.int .i64 n238, .int .i64 n239, .slice a240 l240 c240, .slice a241 l241 c241]⟩, .agg ⟨[.int .i64 n243, .int .i64 n244, .int .i64 n245]⟩]⟩ h fun v246 h =>
  elF False (.tuple [.agg [.int .i64, .int .i64, .slice, .slice], .agg [.int .i64, .int .i64]]) v246 fun n247 n248 a249 l249 c249 a250 l250 c250 n251 n252 =>
  stRow h b236 0 0 [.int .i64 n247, .int .i64 n248, .slice a249 l249 c249, .slice a250 l250 c250] fun h =>
  stRow h b198 0 0 [.int .i64 n251, .int .i64 n252] fun h =>
  laws_FnExactSchedStep_j0 kr b8 b9 b236 b198 h))))))))

theorem laws_FnExactSchedStep_j2_eq (K : Cont) (b102 : Nat) (b103 : Nat) (b104 : Nat) (n105 : Int) (b106 : Nat) (b107 : Nat) (h : H) :
  laws_FnExactSchedStep_j2 (curV [(4, .bool)] (K .ret)) b102 b103 b104 n105 b106 b107 h = evC Try.prog 107 [] [] (sub code3 [true, true, true, true, true, true, true, true, true, true, true, true, true, true, true, true, true, true, true]) [(6, .pointer (some ⟨b102, 0, none⟩)), (7, .pointer (some ⟨b103, 0, none⟩)), (9, .pointer (some ⟨b104, 0, none⟩)), (12, .int .i64 n105), (14, .pointer (some ⟨b106, 0, none⟩)), (15, .pointer (some ⟨b107, 0, none⟩))] h (outsOf none [] (some [(4, .bool)]) K).K := by kernel_rfl

def laws_FnExactSchedStep_j2_F : PT := mkF [(6, .blk), (7, .blk), (9, .blk), (12, .int .i64), (14, .blk), (15, .blk)] fun K => laws_FnExactSchedStep_j2 (curV [(4, .bool)] (K .ret))

theorem laws_FnExactSchedStep_j2_V : Valid Try.prog 107 (sub code3 [true, true, true, true, true, true, true, true, true, true, true, true, true, true, true, true, true, true, true]) laws_FnExactSchedStep_j2_F :=
  piece mixed rows_nil (fun K => by intro b102 b103 b104 n105 b106 b107 h hd; exact (laws_FnExactSchedStep_j2_eq K b102 b103 b104 n105 b106 b107 h) ▸ hd)

theorem laws_FnExactSchedStep_j1_eq (K : Cont) (b30 : Nat) (b31 : Nat) (b32 : Nat) (b33 : Nat) (b34 : Nat) (b35 : Nat) (b36 : Nat) (h : H) :
  laws_FnExactSchedStep_j1 (curV [(4, .bool)] (K .ret)) b30 b31 b32 b33 b34 b35 b36 h = evC Try.prog 107 [([true, true, true, true, true, true, true, true, true, true, true, true], laws_FnExactSchedStep_j2_F)] [] (sub code3 [true, true, true, true, true, true, true]) [(2, .pointer (some ⟨b30, 0, none⟩)), (3, .pointer (some ⟨b31, 0, none⟩)), (6, .pointer (some ⟨b32, 0, none⟩)), (7, .pointer (some ⟨b33, 0, none⟩)), (8, .pointer (some ⟨b34, 0, none⟩)), (9, .pointer (some ⟨b35, 0, none⟩)), (10, .pointer (some ⟨b36, 0, none⟩))] h (outsOf none [] (some [(4, .bool)]) K).K := by kernel_rfl

def laws_FnExactSchedStep_j1_F : PT := mkF [(2, .blk), (3, .blk), (6, .blk), (7, .blk), (8, .blk), (9, .blk), (10, .blk)] fun K => laws_FnExactSchedStep_j1 (curV [(4, .bool)] (K .ret))

theorem laws_FnExactSchedStep_j1_V : Valid Try.prog 107 (sub code3 [true, true, true, true, true, true, true]) laws_FnExactSchedStep_j1_F :=
  piece mixed (rows_cons (q' := [true, true, true, true, true, true, true, true, true, true, true, true]) (valid_at (p := [true, true, true, true, true, true, true]) laws_FnExactSchedStep_j2_V rfl) rfl rows_nil) (fun K => by intro b30 b31 b32 b33 b34 b35 b36 h hd; exact (laws_FnExactSchedStep_j1_eq K b30 b31 b32 b33 b34 b35 b36 h) ▸ hd)

theorem laws_FnExactSchedStep_j0_eq (K : Cont) (b16 : Nat) (b17 : Nat) (b18 : Nat) (b19 : Nat) (h : H) :
  laws_FnExactSchedStep_j0 (curV [(4, .bool)] (K .ret)) b16 b17 b18 b19 h = evC Try.prog 107 [([true, true], laws_FnExactSchedStep_j1_F)] [] (sub code3 [true, true, true, true, true]) [(2, .pointer (some ⟨b16, 0, none⟩)), (3, .pointer (some ⟨b17, 0, none⟩)), (6, .pointer (some ⟨b18, 0, none⟩)), (7, .pointer (some ⟨b19, 0, none⟩))] h (outsOf none [] (some [(4, .bool)]) K).K := by kernel_rfl

def laws_FnExactSchedStep_j0_F : PT := mkF [(2, .blk), (3, .blk), (6, .blk), (7, .blk)] fun K => laws_FnExactSchedStep_j0 (curV [(4, .bool)] (K .ret))

theorem laws_FnExactSchedStep_j0_V : Valid Try.prog 107 (sub code3 [true, true, true, true, true]) laws_FnExactSchedStep_j0_F :=
  piece mixed (rows_cons (q' := [true, true]) (valid_at (p := [true, true, true, true, true]) laws_FnExactSchedStep_j1_V rfl) rfl rows_nil) (fun K => by intro b16 b17 b18 b19 h hd; exact (laws_FnExactSchedStep_j0_eq K b16 b17 b18 b19 h) ▸ hd)

theorem laws_FnExactSchedStep_eq (K : Cont) (n1 : Int) (n2 : Int) (a3 : Option Addr) (l3 : Nat) (c3 : Nat) (a4 : Option Addr) (l4 : Nat) (c4 : Nat) (n5 : Int) (n6 : Int) (n7 : Int) (h : H) :
  laws_FnExactSchedStep (curV [(4, .bool)] (K .ret)) n1 n2 a3 l3 c3 a4 l4 c4 n5 n6 n7 h = evC Try.prog 107 [([true, true, true, true, true], laws_FnExactSchedStep_j0_F)] [] code3 [(0, .agg ⟨[.int .i64 n1, .int .i64 n2, .slice a3 l3 c3, .slice a4 l4 c4]⟩), (1, .agg ⟨[.int .i64 n5, .int .i64 n6, .int .i64 n7]⟩)] h (outsOf none [] (some [(4, .bool)]) K).K := by kernel_rfl

def laws_FnExactSchedStep_F : PT := mkF [(0, .agg [.int .i64, .int .i64, .slice, .slice]), (1, .agg [.int .i64, .int .i64, .int .i64])] fun K => laws_FnExactSchedStep (curV [(4, .bool)] (K .ret))

theorem laws_FnExactSchedStep_V : Valid Try.prog 107 code3 laws_FnExactSchedStep_F :=
  piece mixed (rows_cons (q' := [true, true, true, true, true]) laws_FnExactSchedStep_j0_V rfl rows_nil) (fun K => by intro n1 n2 a3 l3 c3 a4 l4 c4 n5 n6 n7 h hd; exact (laws_FnExactSchedStep_eq K n1 n2 a3 l3 c3 a4 l4 c4 n5 n6 n7 h) ▸ hd)

theorem laws_FnExactSchedStep_c0 (n1 : Int) (n2 : Int) (a3 : Option Addr) (l3 : Nat) (c3 : Nat) (a4 : Option Addr) (l4 : Nat) (c4 : Nat) (n5 : Int) (n6 : Int) (n7 : Int) (h : H) (K : Value → H → Prop) :
  laws_FnExactSchedStep (fun t100001 h =>
  K (.bool t100001) h) n1 n2 a3 l3 c3 a4 l4 c4 n5 n6 n7 h = callF Try.prog Try.f3.results.toList laws_FnExactSchedStep_F [.agg ⟨[.int .i64 n1, .int .i64 n2, .slice a3 l3 c3, .slice a4 l4 c4]⟩, .agg ⟨[.int .i64 n5, .int .i64 n6, .int .i64 n7]⟩] h K := by kernel_rfl

theorem laws_FnExactSchedStep_call {n1 : Int} {n2 : Int} {a3 : Option Addr} {l3 : Nat} {c3 : Nat} {a4 : Option Addr} {l4 : Nat} {c4 : Nat} {n5 : Int} {n6 : Int} {n7 : Int} {h : H} {K : Value → H → Prop} (hs : laws_FnExactSchedStep (fun t100001 h =>
  K (.bool t100001) h) n1 n2 a3 l3 c3 a4 l4 c4 n5 n6 n7 h) : callK Try.prog 3 ⟨[.agg ⟨[.int .i64 n1, .int .i64 n2, .slice a3 l3 c3, .slice a4 l4 c4]⟩, .agg ⟨[.int .i64 n5, .int .i64 n6, .int .i64 n7]⟩]⟩ h K :=
  func_calls Try.func3 body3 laws_FnExactSchedStep_V (Nat.le_of_ble_eq_true (by kernel_rfl)) (laws_FnExactSchedStep_c0 n1 n2 a3 l3 c3 a4 l4 c4 n5 n6 n7 h K ▸ hs)

theorem o_el_AI2L2E {n0 : Int} {n1 : Int} {n2 : Option Addr} {n3 : Nat} {n4 : Nat} {n5 : Option Addr} {n6 : Nat} {n7 : Nat} {K : Int → Int → Option Addr → Nat → Nat → Option Addr → Nat → Nat → Prop} (g : K n0 n1 n2 n3 n4 n5 n6 n7) : elF False (.agg [.int .i64, .int .i64, .slice, .slice]) (.agg ⟨[.int .i64 n0, .int .i64 n1, .slice n2 n3 n4, .slice n5 n6 n7]⟩) K := Eq.mpr (by kernel_rfl) g
theorem d_el_AI2L2E {v : Value} {K2 K1 : Int → Int → Option Addr → Nat → Nat → Option Addr → Nat → Nat → Prop} (f : ∀ n0 n1 n2 n3 n4 n5 n6 n7, K2 n0 n1 n2 n3 n4 n5 n6 n7 → K1 n0 n1 n2 n3 n4 n5 n6 n7) : elF False (.agg [.int .i64, .int .i64, .slice, .slice]) v K2 → elF False (.agg [.int .i64, .int .i64, .slice, .slice]) v K1 :=
  d_el (s := .agg [.int .i64, .int .i64, .slice, .slice]) (Eq.mpr (by kernel_rfl) f)
theorem o_el_AI3E {n0 : Int} {n1 : Int} {n2 : Int} {K : Int → Int → Int → Prop} (g : K n0 n1 n2) : elF False (.agg [.int .i64, .int .i64, .int .i64]) (.agg ⟨[.int .i64 n0, .int .i64 n1, .int .i64 n2]⟩) K := Eq.mpr (by kernel_rfl) g
theorem d_el_AI3E {v : Value} {K2 K1 : Int → Int → Int → Prop} (f : ∀ n0 n1 n2, K2 n0 n1 n2 → K1 n0 n1 n2) : elF False (.agg [.int .i64, .int .i64, .int .i64]) v K2 → elF False (.agg [.int .i64, .int .i64, .int .i64]) v K1 :=
  d_el (s := .agg [.int .i64, .int .i64, .int .i64]) (Eq.mpr (by kernel_rfl) f)
theorem o_el_TAI2L2EAI2EE {n0 : Int} {n1 : Int} {n2 : Option Addr} {n3 : Nat} {n4 : Nat} {n5 : Option Addr} {n6 : Nat} {n7 : Nat} {n8 : Int} {n9 : Int} {K : Int → Int → Option Addr → Nat → Nat → Option Addr → Nat → Nat → Int → Int → Prop} (g : K n0 n1 n2 n3 n4 n5 n6 n7 n8 n9) : elF False (.tuple [.agg [.int .i64, .int .i64, .slice, .slice], .agg [.int .i64, .int .i64]]) (.tuple ⟨[.agg ⟨[.int .i64 n0, .int .i64 n1, .slice n2 n3 n4, .slice n5 n6 n7]⟩, .agg ⟨[.int .i64 n8, .int .i64 n9]⟩]⟩) K := Eq.mpr (by kernel_rfl) g
theorem d_el_TAI2L2EAI2EE {v : Value} {K2 K1 : Int → Int → Option Addr → Nat → Nat → Option Addr → Nat → Nat → Int → Int → Prop} (f : ∀ n0 n1 n2 n3 n4 n5 n6 n7 n8 n9, K2 n0 n1 n2 n3 n4 n5 n6 n7 n8 n9 → K1 n0 n1 n2 n3 n4 n5 n6 n7 n8 n9) : elF False (.tuple [.agg [.int .i64, .int .i64, .slice, .slice], .agg [.int .i64, .int .i64]]) v K2 → elF False (.tuple [.agg [.int .i64, .int .i64, .slice, .slice], .agg [.int .i64, .int .i64]]) v K1 :=
  d_el (s := .tuple [.agg [.int .i64, .int .i64, .slice, .slice], .agg [.int .i64, .int .i64]]) (Eq.mpr (by kernel_rfl) f)
theorem row_I2 (h : H) (b o : Nat) (K : Int → Int → Prop) : ldRow h b o 0 [.int .i64, .int .i64] K = ldI .i64 h b (o + 0) fun n0 => ldI .i64 h b (o + 1) fun n1 => K n0 n1 := by kernel_rfl
theorem d_row_I2 {g0 m0 g m : H} {L : List As} {b o : Nat} {K2 K1 : Int → Int → Prop} (R : Md g0 m0 g m L) (f : ∀ n0 n1, K2 n0 n1 → K1 n0 n1) : ldRow m b o 0 [.int .i64, .int .i64] K2 → ldRow g b o 0 [.int .i64, .int .i64] K1 := by
  rw [row_I2, row_I2]; exact d_ldI R fun n0 => d_ldI R fun n1 => f n0 n1
theorem p_row_I2 {g0 m0 g m : H} {L : List As} {b o : Nat} {cs : List Value} {G : Prop} [LoIn L b cs] {K1 : Int → Int → Prop} {n0 : Int} {n1 : Int} (R : Md g0 m0 g m L) (e0 : cs[o + 0]? = some (.int .i64 n0)) (e1 : cs[o + 1]? = some (.int .i64 n1)) (f : G → K1 n0 n1) : G → ldRow g b o 0 [.int .i64, .int .i64] K1 := by
  rw [row_I2]; exact p_ldI R e0 (p_ldI R e1 (f))
theorem row_I2L2 (h : H) (b o : Nat) (K : Int → Int → Option Addr → Nat → Nat → Option Addr → Nat → Nat → Prop) : ldRow h b o 0 [.int .i64, .int .i64, .slice, .slice] K = ldI .i64 h b (o + 0) fun n0 => ldI .i64 h b (o + 1) fun n1 => ldL h b (o + 2) fun n2 n3 n4 => ldL h b (o + 3) fun n5 n6 n7 => K n0 n1 n2 n3 n4 n5 n6 n7 := by kernel_rfl
theorem d_row_I2L2 {g0 m0 g m : H} {L : List As} {b o : Nat} {K2 K1 : Int → Int → Option Addr → Nat → Nat → Option Addr → Nat → Nat → Prop} (R : Md g0 m0 g m L) (f : ∀ n0 n1 n2 n3 n4 n5 n6 n7, K2 n0 n1 n2 n3 n4 n5 n6 n7 → K1 n0 n1 n2 n3 n4 n5 n6 n7) : ldRow m b o 0 [.int .i64, .int .i64, .slice, .slice] K2 → ldRow g b o 0 [.int .i64, .int .i64, .slice, .slice] K1 := by
  rw [row_I2L2, row_I2L2]; exact d_ldI R fun n0 => d_ldI R fun n1 => d_ldL R fun n2 n3 n4 => d_ldL R fun n5 n6 n7 => f n0 n1 n2 n3 n4 n5 n6 n7
theorem p_row_I2L2 {g0 m0 g m : H} {L : List As} {b o : Nat} {cs : List Value} {G : Prop} [LoIn L b cs] {K1 : Int → Int → Option Addr → Nat → Nat → Option Addr → Nat → Nat → Prop} {n0 : Int} {n1 : Int} {n2 : Option Addr} {n3 : Nat} {n4 : Nat} {n5 : Option Addr} {n6 : Nat} {n7 : Nat} (R : Md g0 m0 g m L) (e0 : cs[o + 0]? = some (.int .i64 n0)) (e1 : cs[o + 1]? = some (.int .i64 n1)) (e2 : cs[o + 2]? = some (.slice n2 n3 n4)) (e3 : cs[o + 3]? = some (.slice n5 n6 n7)) (f : G → K1 n0 n1 n2 n3 n4 n5 n6 n7) : G → ldRow g b o 0 [.int .i64, .int .i64, .slice, .slice] K1 := by
  rw [row_I2L2]; exact p_ldI R e0 (p_ldI R e1 (p_ldL R e2 (p_ldL R e3 (f))))
theorem row_I3 (h : H) (b o : Nat) (K : Int → Int → Int → Prop) : ldRow h b o 0 [.int .i64, .int .i64, .int .i64] K = ldI .i64 h b (o + 0) fun n0 => ldI .i64 h b (o + 1) fun n1 => ldI .i64 h b (o + 2) fun n2 => K n0 n1 n2 := by kernel_rfl
theorem d_row_I3 {g0 m0 g m : H} {L : List As} {b o : Nat} {K2 K1 : Int → Int → Int → Prop} (R : Md g0 m0 g m L) (f : ∀ n0 n1 n2, K2 n0 n1 n2 → K1 n0 n1 n2) : ldRow m b o 0 [.int .i64, .int .i64, .int .i64] K2 → ldRow g b o 0 [.int .i64, .int .i64, .int .i64] K1 := by
  rw [row_I3, row_I3]; exact d_ldI R fun n0 => d_ldI R fun n1 => d_ldI R fun n2 => f n0 n1 n2
theorem p_row_I3 {g0 m0 g m : H} {L : List As} {b o : Nat} {cs : List Value} {G : Prop} [LoIn L b cs] {K1 : Int → Int → Int → Prop} {n0 : Int} {n1 : Int} {n2 : Int} (R : Md g0 m0 g m L) (e0 : cs[o + 0]? = some (.int .i64 n0)) (e1 : cs[o + 1]? = some (.int .i64 n1)) (e2 : cs[o + 2]? = some (.int .i64 n2)) (f : G → K1 n0 n1 n2) : G → ldRow g b o 0 [.int .i64, .int .i64, .int .i64] K1 := by
  rw [row_I3]; exact p_ldI R e0 (p_ldI R e1 (p_ldI R e2 (f)))
def laws_FnExactSchedStep_M_j2 (kr : Bool → H → Prop) (n83 : Int) (n84 : Int) (n85 : Int) (a86 : Option Addr) (l86 : Nat) (c86 : Nat) (a87 : Option Addr) (l87 : Nat) (c87 : Nat) (n89 : Int) (n90 : Int) (n92 : Int) (n93 : Int) (a94 : Option Addr) (l94 : Nat) (c94 : Nat) (a95 : Option Addr) (l95 : Nat) (c95 : Nat) (n97 : Int) (n98 : Int) (a99 : Option Addr) (l99 : Nat) (c99 : Nat) (a100 : Option Addr) (l100 : Nat) (c100 : Nat) (n102 : Int) (n103 : Int) (h : H) : Prop :=
  callD Try.prog 9 ⟨[.agg ⟨[.int .i64 n97, .int .i64 n98, .slice a99 l99 c99, .slice a100 l100 c100]⟩, .agg ⟨[.int .i64 n84, .int .i64 n85, .slice a86 l86 c86, .slice a87 l87 c87]⟩]⟩ h fun v105 h =>
  asB v105 fun t106 =>
  ifB (!t106)
  (kr false h)
  (callD Try.prog 10 ⟨[.agg ⟨[.int .i64 n102, .int .i64 n103]⟩, .agg ⟨[.int .i64 n89, .int .i64 n90]⟩]⟩ h fun v107 h =>
  asB v107 fun t108 =>
  ifB (!t108)
  (kr false h)
  (callD Try.prog 12 ⟨[.agg ⟨[.int .i64 n92, .int .i64 n93, .slice a94 l94 c94, .slice a95 l95 c95]⟩, .int .i64 1]⟩ h fun v109 h =>
  asI .i64 v109 fun n110 =>
  ifB (decide ((n110 : Int) < 0))
  (kr false h)
  (ifB ((n110 : Int) != n83)
  (kr false h)
  (kr true h))))

def laws_FnExactSchedStep_M_j1 (kr : Bool → H → Prop) (n32 : Int) (n33 : Int) (a34 : Option Addr) (l34 : Nat) (c34 : Nat) (a35 : Option Addr) (l35 : Nat) (c35 : Nat) (n37 : Int) (n38 : Int) (n39 : Int) (n41 : Int) (n42 : Int) (a43 : Option Addr) (l43 : Nat) (c43 : Nat) (a44 : Option Addr) (l44 : Nat) (c44 : Nat) (n46 : Int) (n47 : Int) (n49 : Int) (n50 : Int) (a51 : Option Addr) (l51 : Nat) (c51 : Nat) (a52 : Option Addr) (l52 : Nat) (c52 : Nat) (n54 : Int) (n55 : Int) (a56 : Option Addr) (l56 : Nat) (c56 : Nat) (a57 : Option Addr) (l57 : Nat) (c57 : Nat) (n59 : Int) (n60 : Int) (h : H) : Prop :=
  callD Try.prog 9 ⟨[.agg ⟨[.int .i64 n54, .int .i64 n55, .slice a56 l56 c56, .slice a57 l57 c57]⟩, .agg ⟨[.int .i64 n41, .int .i64 n42, .slice a43 l43 c43, .slice a44 l44 c44]⟩]⟩ h fun v62 h =>
  asB v62 fun t63 =>
  ifB (!t63)
  (kr false h)
  (callD Try.prog 10 ⟨[.agg ⟨[.int .i64 n59, .int .i64 n60]⟩, .agg ⟨[.int .i64 n46, .int .i64 n47]⟩]⟩ h fun v64 h =>
  asB v64 fun t65 =>
  ifB (!t65)
  (kr false h)
  (callD Try.prog 6 ⟨[.agg ⟨[.int .i64 n32, .int .i64 n33, .slice a34 l34 c34, .slice a35 l35 c35]⟩]⟩ h fun v66 h =>
  elF False (.agg [.int .i64, .int .i64, .slice, .slice]) v66 fun n67 n68 a69 l69 c69 a70 l70 c70 =>
  callD Try.prog 9 ⟨[.agg ⟨[.int .i64 n49, .int .i64 n50, .slice a51 l51 c51, .slice a52 l52 c52]⟩, .agg ⟨[.int .i64 n67, .int .i64 n68, .slice a69 l69 c69, .slice a70 l70 c70]⟩]⟩ h fun v71 h =>
  asB v71 fun t72 =>
  ifB (!t72)
  (kr false h)
  (callD Try.prog 11 ⟨[.agg ⟨[.int .i64 n49, .int .i64 n50, .slice a51 l51 c51, .slice a52 l52 c52]⟩, .int .i64 1]⟩ h fun v73 h =>
  asI .i64 v73 fun n74 =>
  ifB (decide ((n74 : Int) < 0))
  (kr false h)
  (callD Try.prog 9 ⟨[.agg ⟨[.int .i64 n54, .int .i64 n55, .slice a56 l56 c56, .slice a57 l57 c57]⟩, .agg ⟨[.int .i64 n41, .int .i64 n42, .slice a43 l43 c43, .slice a44 l44 c44]⟩]⟩ h fun v75 h =>
  asB v75 fun t76 =>
  ifB (!t76)
  (kr false h)
  (callD Try.prog 10 ⟨[.agg ⟨[.int .i64 n59, .int .i64 n60]⟩, .agg ⟨[.int .i64 n46, .int .i64 n47]⟩]⟩ h fun v77 h =>
  asB v77 fun t78 =>
  ifB (!t78)
  (kr false h)
  (callD Try.prog 11 ⟨[.agg ⟨[.int .i64 n54, .int .i64 n55, .slice a56 l56 c56, .slice a57 l57 c57]⟩, .int .i64 1]⟩ h fun v79 h =>
  asI .i64 v79 fun n80 =>
  callD Try.prog 12 ⟨[.agg ⟨[.int .i64 n54, .int .i64 n55, .slice a56 l56 c56, .slice a57 l57 c57]⟩, .int .i64 1]⟩ h fun v81 h =>
  asI .i64 v81 fun n82 =>
  ifB (decide ((n82 : Int) < 0))
  (kr false h)
  (ifB ((n82 : Int) != n80)
  (kr false h)
  (callD Try.prog 6 ⟨[.agg ⟨[.int .i64 n32, .int .i64 n33, .slice a34 l34 c34, .slice a35 l35 c35]⟩]⟩ h fun v83 h =>
  elF False (.agg [.int .i64, .int .i64, .slice, .slice]) v83 fun n84 n85 a86 l86 c86 a87 l87 c87 =>
  callD Try.prog 7 ⟨[.agg ⟨[.int .i64 n37, .int .i64 n38, .int .i64 n39]⟩]⟩ h fun v88 h =>
  elF False (.agg [.int .i64, .int .i64, .int .i64]) v88 fun n89 n90 n91 =>
  callD Try.prog 8 ⟨[.agg ⟨[.int .i64 n84, .int .i64 n85, .slice a86 l86 c86, .slice a87 l87 c87]⟩, .agg ⟨[.int .i64 n89, .int .i64 n90, .int .i64 n91]⟩]⟩ h fun v92 h =>
  elF False (.tuple [.agg [.int .i64, .int .i64, .slice, .slice], .agg [.int .i64, .int .i64]]) v92 fun n93 n94 a95 l95 c95 a96 l96 c96 n97 n98 =>
  laws_FnExactSchedStep_M_j2 kr n80 n41 n42 a43 l43 c43 a44 l44 c44 n46 n47 n54 n55 a56 l56 c56 a57 l57 c57 n93 n94 a95 l95 c95 a96 l96 c96 n97 n98 h))))))))

def laws_FnExactSchedStep_M_j0 (kr : Bool → H → Prop) (n10 : Int) (n11 : Int) (a12 : Option Addr) (l12 : Nat) (c12 : Nat) (a13 : Option Addr) (l13 : Nat) (c13 : Nat) (n15 : Int) (n16 : Int) (n17 : Int) (n19 : Int) (n20 : Int) (a21 : Option Addr) (l21 : Nat) (c21 : Nat) (a22 : Option Addr) (l22 : Nat) (c22 : Nat) (n24 : Int) (n25 : Int) (h : H) : Prop :=
  callD Try.prog 6 ⟨[.agg ⟨[.int .i64 n10, .int .i64 n11, .slice a12 l12 c12, .slice a13 l13 c13]⟩]⟩ h fun v27 h =>
  elF False (.agg [.int .i64, .int .i64, .slice, .slice]) v27 fun n28 n29 a30 l30 c30 a31 l31 c31 =>
  callD Try.prog 7 ⟨[.agg ⟨[.int .i64 n15, .int .i64 n16, .int .i64 n17]⟩]⟩ h fun v32 h =>
  elF False (.agg [.int .i64, .int .i64, .int .i64]) v32 fun n33 n34 n35 =>
  callD Try.prog 8 ⟨[.agg ⟨[.int .i64 n28, .int .i64 n29, .slice a30 l30 c30, .slice a31 l31 c31]⟩, .agg ⟨[.int .i64 n33, .int .i64 n34, .int .i64 n35]⟩]⟩ h fun v36 h =>
  elF False (.tuple [.agg [.int .i64, .int .i64, .slice, .slice], .agg [.int .i64, .int .i64]]) v36 fun n37 n38 a39 l39 c39 a40 l40 c40 n41 n42 =>
  laws_FnExactSchedStep_M_j1 kr n10 n11 a12 l12 c12 a13 l13 c13 n15 n16 n17 n19 n20 a21 l21 c21 a22 l22 c22 n24 n25 n28 n29 a30 l30 c30 a31 l31 c31 n37 n38 a39 l39 c39 a40 l40 c40 n41 n42 h

def laws_FnExactSchedStep_M (kr : Bool → H → Prop) (n1 : Int) (n2 : Int) (a3 : Option Addr) (l3 : Nat) (c3 : Nat) (a4 : Option Addr) (l4 : Nat) (c4 : Nat) (n5 : Int) (n6 : Int) (n7 : Int) (h : H) : Prop :=
  callD Try.prog 4 ⟨[.agg ⟨[.int .i64 n1, .int .i64 n2, .slice a3 l3 c3, .slice a4 l4 c4]⟩, .int .i64 1048576]⟩ h fun v8 h =>
  asI .i64 v8 fun n9 =>
  ifB (decide ((n9 : Int) < 0))
  (kr true h)
  (callD Try.prog 6 ⟨[.agg ⟨[.int .i64 n1, .int .i64 n2, .slice a3 l3 c3, .slice a4 l4 c4]⟩]⟩ h fun v10 h =>
  elF False (.agg [.int .i64, .int .i64, .slice, .slice]) v10 fun n11 n12 a13 l13 c13 a14 l14 c14 =>
  callD Try.prog 7 ⟨[.agg ⟨[.int .i64 n5, .int .i64 n6, .int .i64 n7]⟩]⟩ h fun v15 h =>
  elF False (.agg [.int .i64, .int .i64, .int .i64]) v15 fun n16 n17 n18 =>
  callD Try.prog 5 ⟨[.agg ⟨[.int .i64 n11, .int .i64 n12, .slice a13 l13 c13, .slice a14 l14 c14]⟩, .agg ⟨[.int .i64 n16, .int .i64 n17, .int .i64 n18]⟩]⟩ h fun v19 h =>
  elF False (.tuple [.agg [.int .i64, .int .i64, .slice, .slice], .agg [.int .i64, .int .i64]]) v19 fun n20 n21 a22 l22 c22 a23 l23 c23 n24 n25 =>
  laws_FnExactSchedStep_M_j0 kr n1 n2 a3 l3 c3 a4 l4 c4 n5 n6 n7 n20 n21 a22 l22 c22 a23 l23 c23 n24 n25 h)

theorem laws_FnExactSchedStep_M_j2_D {g0 m0 : H} {kr_1 : Bool → H → Prop} {kr_2 : Bool → H → Prop} (Hkr : ∀ (t200001 : Bool) (g m : H), Md g0 m0 g m [] → kr_2 t200001 m → kr_1 t200001 g) : ∀ (n1083 : Int) (n1084 : Int) (n1085 : Int) (a1086 : Option Addr) (l1086 : Nat) (c1086 : Nat) (a1087 : Option Addr) (l1087 : Nat) (c1087 : Nat) (n1089 : Int) (n1090 : Int) (n1092 : Int) (n1093 : Int) (a1094 : Option Addr) (l1094 : Nat) (c1094 : Nat) (a1095 : Option Addr) (l1095 : Nat) (c1095 : Nat) (n1097 : Int) (n1098 : Int) (a1099 : Option Addr) (l1099 : Nat) (c1099 : Nat) (a1100 : Option Addr) (l1100 : Nat) (c1100 : Nat) (n1102 : Int) (n1103 : Int) (p1088 : Nat) (p1091 : Nat) (p1096 : Nat) (p1101 : Nat) (p1104 : Nat) (g m : H), Md g0 m0 g m [lo p1088 [.int .i64 n1084, .int .i64 n1085, .slice a1086 l1086 c1086, .slice a1087 l1087 c1087], lo p1091 [.int .i64 n1089, .int .i64 n1090], lo p1096 [.int .i64 n1092, .int .i64 n1093, .slice a1094 l1094 c1094, .slice a1095 l1095 c1095], lo p1101 [.int .i64 n1097, .int .i64 n1098, .slice a1099 l1099 c1099, .slice a1100 l1100 c1100], lo p1104 [.int .i64 n1102, .int .i64 n1103]] → laws_FnExactSchedStep_M_j2 kr_2 n1083 n1084 n1085 a1086 l1086 c1086 a1087 l1087 c1087 n1089 n1090 n1092 n1093 a1094 l1094 c1094 a1095 l1095 c1095 n1097 n1098 a1099 l1099 c1099 a1100 l1100 c1100 n1102 n1103 m → laws_FnExactSchedStep_j2 kr_1 p1088 p1091 p1096 n1083 p1101 p1104 g := by
  intro n1083 n1084 n1085 a1086 l1086 c1086 a1087 l1087 c1087 n1089 n1090 n1092 n1093 a1094 l1094 c1094 a1095 l1095 c1095 n1097 n1098 a1099 l1099 c1099 a1100 l1100 c1100 n1102 n1103 p1088 p1091 p1096 p1101 p1104 g m R
  rw [laws_FnExactSchedStep_M_j2, laws_FnExactSchedStep_j2]
  exact (p_row_I2L2 R rfl rfl rfl rfl (p_row_I2L2 R rfl rfl rfl rfl (d_call R fun v1105 g m R =>
  (d_asB fun t1106 =>
  (d_if (Hkr false _ _ R.sub)
  (p_row_I2 R rfl rfl (p_row_I2 R rfl rfl (d_call R fun v1107 g m R =>
  (d_asB fun t1108 =>
  (d_if (Hkr false _ _ R.sub)
  (p_row_I2L2 R rfl rfl rfl rfl (d_call R fun v1109 g m R =>
  (d_asI fun n1110 =>
  (d_if (Hkr false _ _ R.sub)
  (d_if (Hkr false _ _ R.sub)
  (Hkr true _ _ R.sub))))))))))))))))

theorem laws_FnExactSchedStep_M_j1_D {g0 m0 : H} {kr_1 : Bool → H → Prop} {kr_2 : Bool → H → Prop} (Hkr : ∀ (t200001 : Bool) (g m : H), Md g0 m0 g m [] → kr_2 t200001 m → kr_1 t200001 g) : ∀ (n1032 : Int) (n1033 : Int) (a1034 : Option Addr) (l1034 : Nat) (c1034 : Nat) (a1035 : Option Addr) (l1035 : Nat) (c1035 : Nat) (n1037 : Int) (n1038 : Int) (n1039 : Int) (n1041 : Int) (n1042 : Int) (a1043 : Option Addr) (l1043 : Nat) (c1043 : Nat) (a1044 : Option Addr) (l1044 : Nat) (c1044 : Nat) (n1046 : Int) (n1047 : Int) (n1049 : Int) (n1050 : Int) (a1051 : Option Addr) (l1051 : Nat) (c1051 : Nat) (a1052 : Option Addr) (l1052 : Nat) (c1052 : Nat) (n1054 : Int) (n1055 : Int) (a1056 : Option Addr) (l1056 : Nat) (c1056 : Nat) (a1057 : Option Addr) (l1057 : Nat) (c1057 : Nat) (n1059 : Int) (n1060 : Int) (p1036 : Nat) (p1040 : Nat) (p1045 : Nat) (p1048 : Nat) (p1053 : Nat) (p1058 : Nat) (p1061 : Nat) (g m : H), Md g0 m0 g m [lo p1036 [.int .i64 n1032, .int .i64 n1033, .slice a1034 l1034 c1034, .slice a1035 l1035 c1035], lo p1040 [.int .i64 n1037, .int .i64 n1038, .int .i64 n1039], lo p1045 [.int .i64 n1041, .int .i64 n1042, .slice a1043 l1043 c1043, .slice a1044 l1044 c1044], lo p1048 [.int .i64 n1046, .int .i64 n1047], lo p1053 [.int .i64 n1049, .int .i64 n1050, .slice a1051 l1051 c1051, .slice a1052 l1052 c1052], lo p1058 [.int .i64 n1054, .int .i64 n1055, .slice a1056 l1056 c1056, .slice a1057 l1057 c1057], lo p1061 [.int .i64 n1059, .int .i64 n1060]] → laws_FnExactSchedStep_M_j1 kr_2 n1032 n1033 a1034 l1034 c1034 a1035 l1035 c1035 n1037 n1038 n1039 n1041 n1042 a1043 l1043 c1043 a1044 l1044 c1044 n1046 n1047 n1049 n1050 a1051 l1051 c1051 a1052 l1052 c1052 n1054 n1055 a1056 l1056 c1056 a1057 l1057 c1057 n1059 n1060 m → laws_FnExactSchedStep_j1 kr_1 p1036 p1040 p1045 p1048 p1053 p1058 p1061 g := by
  intro n1032 n1033 a1034 l1034 c1034 a1035 l1035 c1035 n1037 n1038 n1039 n1041 n1042 a1043 l1043 c1043 a1044 l1044 c1044 n1046 n1047 n1049 n1050 a1051 l1051 c1051 a1052 l1052 c1052 n1054 n1055 a1056 l1056 c1056 a1057 l1057 c1057 n1059 n1060 p1036 p1040 p1045 p1048 p1053 p1058 p1061 g m R
  rw [laws_FnExactSchedStep_M_j1, laws_FnExactSchedStep_j1]
  exact (p_row_I2L2 R rfl rfl rfl rfl (p_row_I2L2 R rfl rfl rfl rfl (d_call R fun v1062 g m R =>
  (d_asB fun t1063 =>
  (d_if (Hkr false _ _ R.sub)
  (p_row_I2 R rfl rfl (p_row_I2 R rfl rfl (d_call R fun v1064 g m R =>
  (d_asB fun t1065 =>
  (d_if (Hkr false _ _ R.sub)
  (p_row_I2L2 R rfl rfl rfl rfl (p_row_I2L2 R rfl rfl rfl rfl (d_call R fun v1066 g m R =>
  (d_el_AI2L2E fun n1067 n1068 a1069 l1069 c1069 a1070 l1070 c1070 =>
  (p_held R rfl (d_call R fun v1071 g m R =>
  (d_asB fun t1072 =>
  (d_if (Hkr false _ _ R.sub)
  (p_row_I2L2 R rfl rfl rfl rfl (d_call R fun v1073 g m R =>
  (d_asI fun n1074 =>
  (d_if (Hkr false _ _ R.sub)
  (p_row_I2L2 R rfl rfl rfl rfl (p_row_I2L2 R rfl rfl rfl rfl (d_call R fun v1075 g m R =>
  (d_asB fun t1076 =>
  (d_if (Hkr false _ _ R.sub)
  (p_row_I2 R rfl rfl (p_row_I2 R rfl rfl (d_call R fun v1077 g m R =>
  (d_asB fun t1078 =>
  (d_if (Hkr false _ _ R.sub)
  (p_row_I2L2 R rfl rfl rfl rfl (d_call R fun v1079 g m R =>
  (d_asI fun n1080 =>
  (p_row_I2L2 R rfl rfl rfl rfl (d_call R fun v1081 g m R =>
  (d_asI fun n1082 =>
  (d_if (Hkr false _ _ R.sub)
  (d_if (Hkr false _ _ R.sub)
  (p_row_I2L2 R rfl rfl rfl rfl (p_row_I3 R rfl rfl rfl (d_dup (d_call R fun v1083 g m R =>
  (d_el_AI2L2E fun n1084 n1085 a1086 l1086 c1086 a1087 l1087 c1087 =>
  (p_held R rfl (d_dup (d_call R fun v1088 g m R =>
  (d_el_AI3E fun n1089 n1090 n1091 =>
  (d_dup (d_call R fun v1092 g m R =>
  (d_el_TAI2L2EAI2EE fun n1093 n1094 a1095 l1095 c1095 a1096 l1096 c1096 n1097 n1098 =>
  (d_dup (p_new R fun p1099 g R =>
  (p_new R fun p1100 g R =>
  (p_stRow R (cs' := [.int .i64 n1093, .int .i64 n1094, .slice a1095 l1095 c1095, .slice a1096 l1096 c1096]) ⟨rfl, rfl, rfl⟩ fun g R =>
  (p_stRow R (cs' := [.int .i64 n1097, .int .i64 n1098]) ⟨rfl, rfl, rfl⟩ fun g R =>
  (laws_FnExactSchedStep_M_j2_D (by exact fun t1101 g m R =>
  (Hkr t1101 _ _ R.sub)) n1080 n1041 n1042 a1043 l1043 c1043 a1044 l1044 c1044 n1046 n1047 n1054 n1055 a1056 l1056 c1056 a1057 l1057 c1057 n1093 n1094 a1095 l1095 c1095 a1096 l1096 c1096 n1097 n1098 p1045 p1048 p1058 p1099 p1100 _ _ R.sub)))))
  (p_new R fun p1099 g R =>
  (p_new R fun p1100 g R =>
  (p_stRow R (cs' := [.int .i64 n1093, .int .i64 n1094, .slice a1095 l1095 c1095, .slice a1096 l1096 c1096]) ⟨rfl, rfl, rfl⟩ fun g R =>
  (p_stRow R (cs' := [.int .i64 n1097, .int .i64 n1098]) ⟨rfl, rfl, rfl⟩ fun g R =>
  (laws_FnExactSchedStep_M_j2_D (by exact fun t1101 g m R =>
  (Hkr t1101 _ _ R.sub)) n1080 n1041 n1042 a1043 l1043 c1043 a1044 l1044 c1044 n1046 n1047 n1054 n1055 a1056 l1056 c1056 a1057 l1057 c1057 n1093 n1094 a1095 l1095 c1095 a1096 l1096 c1096 n1097 n1098 p1045 p1048 p1058 p1100 p1099 _ _ R.sub))))))))
  (d_dup (p_new R fun p1092 g R =>
  (d_dup (d_call R fun v1093 g m R =>
  (d_el_TAI2L2EAI2EE fun n1094 n1095 a1096 l1096 c1096 a1097 l1097 c1097 n1098 n1099 =>
  (p_new R fun p1100 g R =>
  (p_stRow R (cs' := [.int .i64 n1094, .int .i64 n1095, .slice a1096 l1096 c1096, .slice a1097 l1097 c1097]) ⟨rfl, rfl, rfl⟩ fun g R =>
  (p_stRow R (cs' := [.int .i64 n1098, .int .i64 n1099]) ⟨rfl, rfl, rfl⟩ fun g R =>
  (laws_FnExactSchedStep_M_j2_D (by exact fun t1101 g m R =>
  (Hkr t1101 _ _ R.sub)) n1080 n1041 n1042 a1043 l1043 c1043 a1044 l1044 c1044 n1046 n1047 n1054 n1055 a1056 l1056 c1056 a1057 l1057 c1057 n1094 n1095 a1096 l1096 c1096 a1097 l1097 c1097 n1098 n1099 p1045 p1048 p1058 p1092 p1100 _ _ R.sub))))))
  (p_new R fun p1093 g R =>
  (d_call R fun v1094 g m R =>
  (d_el_TAI2L2EAI2EE fun n1095 n1096 a1097 l1097 c1097 a1098 l1098 c1098 n1099 n1100 =>
  (p_stRow R (cs' := [.int .i64 n1095, .int .i64 n1096, .slice a1097 l1097 c1097, .slice a1098 l1098 c1098]) ⟨rfl, rfl, rfl⟩ fun g R =>
  (p_stRow R (cs' := [.int .i64 n1099, .int .i64 n1100]) ⟨rfl, rfl, rfl⟩ fun g R =>
  (laws_FnExactSchedStep_M_j2_D (by exact fun t1101 g m R =>
  (Hkr t1101 _ _ R.sub)) n1080 n1041 n1042 a1043 l1043 c1043 a1044 l1044 c1044 n1046 n1047 n1054 n1055 a1056 l1056 c1056 a1057 l1057 c1057 n1095 n1096 a1097 l1097 c1097 a1098 l1098 c1098 n1099 n1100 p1045 p1048 p1058 p1092 p1093 _ _ R.sub))))))))
  (p_new R fun p1092 g R =>
  (d_dup (d_call R fun v1093 g m R =>
  (d_el_TAI2L2EAI2EE fun n1094 n1095 a1096 l1096 c1096 a1097 l1097 c1097 n1098 n1099 =>
  (p_new R fun p1100 g R =>
  (p_stRow R (cs' := [.int .i64 n1094, .int .i64 n1095, .slice a1096 l1096 c1096, .slice a1097 l1097 c1097]) ⟨rfl, rfl, rfl⟩ fun g R =>
  (p_stRow R (cs' := [.int .i64 n1098, .int .i64 n1099]) ⟨rfl, rfl, rfl⟩ fun g R =>
  (laws_FnExactSchedStep_M_j2_D (by exact fun t1101 g m R =>
  (Hkr t1101 _ _ R.sub)) n1080 n1041 n1042 a1043 l1043 c1043 a1044 l1044 c1044 n1046 n1047 n1054 n1055 a1056 l1056 c1056 a1057 l1057 c1057 n1094 n1095 a1096 l1096 c1096 a1097 l1097 c1097 n1098 n1099 p1045 p1048 p1058 p1100 p1092 _ _ R.sub))))))
  (p_new R fun p1093 g R =>
  (d_call R fun v1094 g m R =>
  (d_el_TAI2L2EAI2EE fun n1095 n1096 a1097 l1097 c1097 a1098 l1098 c1098 n1099 n1100 =>
  (p_stRow R (cs' := [.int .i64 n1095, .int .i64 n1096, .slice a1097 l1097 c1097, .slice a1098 l1098 c1098]) ⟨rfl, rfl, rfl⟩ fun g R =>
  (p_stRow R (cs' := [.int .i64 n1099, .int .i64 n1100]) ⟨rfl, rfl, rfl⟩ fun g R =>
  (laws_FnExactSchedStep_M_j2_D (by exact fun t1101 g m R =>
  (Hkr t1101 _ _ R.sub)) n1080 n1041 n1042 a1043 l1043 c1043 a1044 l1044 c1044 n1046 n1047 n1054 n1055 a1056 l1056 c1056 a1057 l1057 c1057 n1095 n1096 a1097 l1097 c1097 a1098 l1098 c1098 n1099 n1100 p1045 p1048 p1058 p1093 p1092 _ _ R.sub))))))))))))
  (d_dup (p_new R fun p1088 g R =>
  (p_held R rfl (d_dup (d_call R fun v1089 g m R =>
  (d_el_AI3E fun n1090 n1091 n1092 =>
  (d_dup (d_call R fun v1093 g m R =>
  (d_el_TAI2L2EAI2EE fun n1094 n1095 a1096 l1096 c1096 a1097 l1097 c1097 n1098 n1099 =>
  (p_new R fun p1100 g R =>
  (p_stRow R (cs' := [.int .i64 n1094, .int .i64 n1095, .slice a1096 l1096 c1096, .slice a1097 l1097 c1097]) ⟨rfl, rfl, rfl⟩ fun g R =>
  (p_stRow R (cs' := [.int .i64 n1098, .int .i64 n1099]) ⟨rfl, rfl, rfl⟩ fun g R =>
  (laws_FnExactSchedStep_M_j2_D (by exact fun t1101 g m R =>
  (Hkr t1101 _ _ R.sub)) n1080 n1041 n1042 a1043 l1043 c1043 a1044 l1044 c1044 n1046 n1047 n1054 n1055 a1056 l1056 c1056 a1057 l1057 c1057 n1094 n1095 a1096 l1096 c1096 a1097 l1097 c1097 n1098 n1099 p1045 p1048 p1058 p1088 p1100 _ _ R.sub))))))
  (p_new R fun p1093 g R =>
  (d_call R fun v1094 g m R =>
  (d_el_TAI2L2EAI2EE fun n1095 n1096 a1097 l1097 c1097 a1098 l1098 c1098 n1099 n1100 =>
  (p_stRow R (cs' := [.int .i64 n1095, .int .i64 n1096, .slice a1097 l1097 c1097, .slice a1098 l1098 c1098]) ⟨rfl, rfl, rfl⟩ fun g R =>
  (p_stRow R (cs' := [.int .i64 n1099, .int .i64 n1100]) ⟨rfl, rfl, rfl⟩ fun g R =>
  (laws_FnExactSchedStep_M_j2_D (by exact fun t1101 g m R =>
  (Hkr t1101 _ _ R.sub)) n1080 n1041 n1042 a1043 l1043 c1043 a1044 l1044 c1044 n1046 n1047 n1054 n1055 a1056 l1056 c1056 a1057 l1057 c1057 n1095 n1096 a1097 l1097 c1097 a1098 l1098 c1098 n1099 n1100 p1045 p1048 p1058 p1088 p1093 _ _ R.sub)))))))))
  (p_new R fun p1089 g R =>
  (p_held R rfl (d_call R fun v1090 g m R =>
  (d_el_AI3E fun n1091 n1092 n1093 =>
  (d_call R fun v1094 g m R =>
  (d_el_TAI2L2EAI2EE fun n1095 n1096 a1097 l1097 c1097 a1098 l1098 c1098 n1099 n1100 =>
  (p_stRow R (cs' := [.int .i64 n1095, .int .i64 n1096, .slice a1097 l1097 c1097, .slice a1098 l1098 c1098]) ⟨rfl, rfl, rfl⟩ fun g R =>
  (p_stRow R (cs' := [.int .i64 n1099, .int .i64 n1100]) ⟨rfl, rfl, rfl⟩ fun g R =>
  (laws_FnExactSchedStep_M_j2_D (by exact fun t1101 g m R =>
  (Hkr t1101 _ _ R.sub)) n1080 n1041 n1042 a1043 l1043 c1043 a1044 l1044 c1044 n1046 n1047 n1054 n1055 a1056 l1056 c1056 a1057 l1057 c1057 n1095 n1096 a1097 l1097 c1097 a1098 l1098 c1098 n1099 n1100 p1045 p1048 p1058 p1088 p1089 _ _ R.sub))))))))))))
  (p_new R fun p1088 g R =>
  (p_held R rfl (d_dup (d_call R fun v1089 g m R =>
  (d_el_AI3E fun n1090 n1091 n1092 =>
  (d_dup (d_call R fun v1093 g m R =>
  (d_el_TAI2L2EAI2EE fun n1094 n1095 a1096 l1096 c1096 a1097 l1097 c1097 n1098 n1099 =>
  (p_new R fun p1100 g R =>
  (p_stRow R (cs' := [.int .i64 n1094, .int .i64 n1095, .slice a1096 l1096 c1096, .slice a1097 l1097 c1097]) ⟨rfl, rfl, rfl⟩ fun g R =>
  (p_stRow R (cs' := [.int .i64 n1098, .int .i64 n1099]) ⟨rfl, rfl, rfl⟩ fun g R =>
  (laws_FnExactSchedStep_M_j2_D (by exact fun t1101 g m R =>
  (Hkr t1101 _ _ R.sub)) n1080 n1041 n1042 a1043 l1043 c1043 a1044 l1044 c1044 n1046 n1047 n1054 n1055 a1056 l1056 c1056 a1057 l1057 c1057 n1094 n1095 a1096 l1096 c1096 a1097 l1097 c1097 n1098 n1099 p1045 p1048 p1058 p1100 p1088 _ _ R.sub))))))
  (p_new R fun p1093 g R =>
  (d_call R fun v1094 g m R =>
  (d_el_TAI2L2EAI2EE fun n1095 n1096 a1097 l1097 c1097 a1098 l1098 c1098 n1099 n1100 =>
  (p_stRow R (cs' := [.int .i64 n1095, .int .i64 n1096, .slice a1097 l1097 c1097, .slice a1098 l1098 c1098]) ⟨rfl, rfl, rfl⟩ fun g R =>
  (p_stRow R (cs' := [.int .i64 n1099, .int .i64 n1100]) ⟨rfl, rfl, rfl⟩ fun g R =>
  (laws_FnExactSchedStep_M_j2_D (by exact fun t1101 g m R =>
  (Hkr t1101 _ _ R.sub)) n1080 n1041 n1042 a1043 l1043 c1043 a1044 l1044 c1044 n1046 n1047 n1054 n1055 a1056 l1056 c1056 a1057 l1057 c1057 n1095 n1096 a1097 l1097 c1097 a1098 l1098 c1098 n1099 n1100 p1045 p1048 p1058 p1093 p1088 _ _ R.sub)))))))))
  (p_new R fun p1089 g R =>
  (p_held R rfl (d_call R fun v1090 g m R =>
  (d_el_AI3E fun n1091 n1092 n1093 =>
  (d_call R fun v1094 g m R =>
  (d_el_TAI2L2EAI2EE fun n1095 n1096 a1097 l1097 c1097 a1098 l1098 c1098 n1099 n1100 =>
  (p_stRow R (cs' := [.int .i64 n1095, .int .i64 n1096, .slice a1097 l1097 c1097, .slice a1098 l1098 c1098]) ⟨rfl, rfl, rfl⟩ fun g R =>
  (p_stRow R (cs' := [.int .i64 n1099, .int .i64 n1100]) ⟨rfl, rfl, rfl⟩ fun g R =>
  (laws_FnExactSchedStep_M_j2_D (by exact fun t1101 g m R =>
  (Hkr t1101 _ _ R.sub)) n1080 n1041 n1042 a1043 l1043 c1043 a1044 l1044 c1044 n1046 n1047 n1054 n1055 a1056 l1056 c1056 a1057 l1057 c1057 n1095 n1096 a1097 l1097 c1097 a1098 l1098 c1098 n1099 n1100 p1045 p1048 p1058 p1089 p1088 _ _ R.sub)))))))))))))))))
  (d_dup (p_new R fun p1083 g R =>
  (p_held R rfl (p_held R rfl (d_dup (d_call R fun v1084 g m R =>
  (d_el_AI2L2E fun n1085 n1086 a1087 l1087 c1087 a1088 l1088 c1088 =>
  (p_held R rfl (d_dup (d_call R fun v1089 g m R =>
  (d_el_AI3E fun n1090 n1091 n1092 =>
  (d_dup (d_call R fun v1093 g m R =>
  (d_el_TAI2L2EAI2EE fun n1094 n1095 a1096 l1096 c1096 a1097 l1097 c1097 n1098 n1099 =>
  (p_new R fun p1100 g R =>
  (p_stRow R (cs' := [.int .i64 n1094, .int .i64 n1095, .slice a1096 l1096 c1096, .slice a1097 l1097 c1097]) ⟨rfl, rfl, rfl⟩ fun g R =>
  (p_stRow R (cs' := [.int .i64 n1098, .int .i64 n1099]) ⟨rfl, rfl, rfl⟩ fun g R =>
  (laws_FnExactSchedStep_M_j2_D (by exact fun t1101 g m R =>
  (Hkr t1101 _ _ R.sub)) n1080 n1041 n1042 a1043 l1043 c1043 a1044 l1044 c1044 n1046 n1047 n1054 n1055 a1056 l1056 c1056 a1057 l1057 c1057 n1094 n1095 a1096 l1096 c1096 a1097 l1097 c1097 n1098 n1099 p1045 p1048 p1058 p1083 p1100 _ _ R.sub))))))
  (p_new R fun p1093 g R =>
  (d_call R fun v1094 g m R =>
  (d_el_TAI2L2EAI2EE fun n1095 n1096 a1097 l1097 c1097 a1098 l1098 c1098 n1099 n1100 =>
  (p_stRow R (cs' := [.int .i64 n1095, .int .i64 n1096, .slice a1097 l1097 c1097, .slice a1098 l1098 c1098]) ⟨rfl, rfl, rfl⟩ fun g R =>
  (p_stRow R (cs' := [.int .i64 n1099, .int .i64 n1100]) ⟨rfl, rfl, rfl⟩ fun g R =>
  (laws_FnExactSchedStep_M_j2_D (by exact fun t1101 g m R =>
  (Hkr t1101 _ _ R.sub)) n1080 n1041 n1042 a1043 l1043 c1043 a1044 l1044 c1044 n1046 n1047 n1054 n1055 a1056 l1056 c1056 a1057 l1057 c1057 n1095 n1096 a1097 l1097 c1097 a1098 l1098 c1098 n1099 n1100 p1045 p1048 p1058 p1083 p1093 _ _ R.sub)))))))))
  (p_new R fun p1089 g R =>
  (p_held R rfl (d_call R fun v1090 g m R =>
  (d_el_AI3E fun n1091 n1092 n1093 =>
  (d_call R fun v1094 g m R =>
  (d_el_TAI2L2EAI2EE fun n1095 n1096 a1097 l1097 c1097 a1098 l1098 c1098 n1099 n1100 =>
  (p_stRow R (cs' := [.int .i64 n1095, .int .i64 n1096, .slice a1097 l1097 c1097, .slice a1098 l1098 c1098]) ⟨rfl, rfl, rfl⟩ fun g R =>
  (p_stRow R (cs' := [.int .i64 n1099, .int .i64 n1100]) ⟨rfl, rfl, rfl⟩ fun g R =>
  (laws_FnExactSchedStep_M_j2_D (by exact fun t1101 g m R =>
  (Hkr t1101 _ _ R.sub)) n1080 n1041 n1042 a1043 l1043 c1043 a1044 l1044 c1044 n1046 n1047 n1054 n1055 a1056 l1056 c1056 a1057 l1057 c1057 n1095 n1096 a1097 l1097 c1097 a1098 l1098 c1098 n1099 n1100 p1045 p1048 p1058 p1083 p1089 _ _ R.sub)))))))))))))
  (p_new R fun p1084 g R =>
  (p_held R rfl (p_held R rfl (d_call R fun v1085 g m R =>
  (d_el_AI2L2E fun n1086 n1087 a1088 l1088 c1088 a1089 l1089 c1089 =>
  (p_held R rfl (d_call R fun v1090 g m R =>
  (d_el_AI3E fun n1091 n1092 n1093 =>
  (d_call R fun v1094 g m R =>
  (d_el_TAI2L2EAI2EE fun n1095 n1096 a1097 l1097 c1097 a1098 l1098 c1098 n1099 n1100 =>
  (p_stRow R (cs' := [.int .i64 n1095, .int .i64 n1096, .slice a1097 l1097 c1097, .slice a1098 l1098 c1098]) ⟨rfl, rfl, rfl⟩ fun g R =>
  (p_stRow R (cs' := [.int .i64 n1099, .int .i64 n1100]) ⟨rfl, rfl, rfl⟩ fun g R =>
  (laws_FnExactSchedStep_M_j2_D (by exact fun t1101 g m R =>
  (Hkr t1101 _ _ R.sub)) n1080 n1041 n1042 a1043 l1043 c1043 a1044 l1044 c1044 n1046 n1047 n1054 n1055 a1056 l1056 c1056 a1057 l1057 c1057 n1095 n1096 a1097 l1097 c1097 a1098 l1098 c1098 n1099 n1100 p1045 p1048 p1058 p1083 p1084 _ _ R.sub)))))))))))))))))
  (p_new R fun p1083 g R =>
  (p_held R rfl (p_held R rfl (d_dup (d_call R fun v1084 g m R =>
  (d_el_AI2L2E fun n1085 n1086 a1087 l1087 c1087 a1088 l1088 c1088 =>
  (p_held R rfl (d_dup (d_call R fun v1089 g m R =>
  (d_el_AI3E fun n1090 n1091 n1092 =>
  (d_dup (d_call R fun v1093 g m R =>
  (d_el_TAI2L2EAI2EE fun n1094 n1095 a1096 l1096 c1096 a1097 l1097 c1097 n1098 n1099 =>
  (p_new R fun p1100 g R =>
  (p_stRow R (cs' := [.int .i64 n1094, .int .i64 n1095, .slice a1096 l1096 c1096, .slice a1097 l1097 c1097]) ⟨rfl, rfl, rfl⟩ fun g R =>
  (p_stRow R (cs' := [.int .i64 n1098, .int .i64 n1099]) ⟨rfl, rfl, rfl⟩ fun g R =>
  (laws_FnExactSchedStep_M_j2_D (by exact fun t1101 g m R =>
  (Hkr t1101 _ _ R.sub)) n1080 n1041 n1042 a1043 l1043 c1043 a1044 l1044 c1044 n1046 n1047 n1054 n1055 a1056 l1056 c1056 a1057 l1057 c1057 n1094 n1095 a1096 l1096 c1096 a1097 l1097 c1097 n1098 n1099 p1045 p1048 p1058 p1100 p1083 _ _ R.sub))))))
  (p_new R fun p1093 g R =>
  (d_call R fun v1094 g m R =>
  (d_el_TAI2L2EAI2EE fun n1095 n1096 a1097 l1097 c1097 a1098 l1098 c1098 n1099 n1100 =>
  (p_stRow R (cs' := [.int .i64 n1095, .int .i64 n1096, .slice a1097 l1097 c1097, .slice a1098 l1098 c1098]) ⟨rfl, rfl, rfl⟩ fun g R =>
  (p_stRow R (cs' := [.int .i64 n1099, .int .i64 n1100]) ⟨rfl, rfl, rfl⟩ fun g R =>
  (laws_FnExactSchedStep_M_j2_D (by exact fun t1101 g m R =>
  (Hkr t1101 _ _ R.sub)) n1080 n1041 n1042 a1043 l1043 c1043 a1044 l1044 c1044 n1046 n1047 n1054 n1055 a1056 l1056 c1056 a1057 l1057 c1057 n1095 n1096 a1097 l1097 c1097 a1098 l1098 c1098 n1099 n1100 p1045 p1048 p1058 p1093 p1083 _ _ R.sub)))))))))
  (p_new R fun p1089 g R =>
  (p_held R rfl (d_call R fun v1090 g m R =>
  (d_el_AI3E fun n1091 n1092 n1093 =>
  (d_call R fun v1094 g m R =>
  (d_el_TAI2L2EAI2EE fun n1095 n1096 a1097 l1097 c1097 a1098 l1098 c1098 n1099 n1100 =>
  (p_stRow R (cs' := [.int .i64 n1095, .int .i64 n1096, .slice a1097 l1097 c1097, .slice a1098 l1098 c1098]) ⟨rfl, rfl, rfl⟩ fun g R =>
  (p_stRow R (cs' := [.int .i64 n1099, .int .i64 n1100]) ⟨rfl, rfl, rfl⟩ fun g R =>
  (laws_FnExactSchedStep_M_j2_D (by exact fun t1101 g m R =>
  (Hkr t1101 _ _ R.sub)) n1080 n1041 n1042 a1043 l1043 c1043 a1044 l1044 c1044 n1046 n1047 n1054 n1055 a1056 l1056 c1056 a1057 l1057 c1057 n1095 n1096 a1097 l1097 c1097 a1098 l1098 c1098 n1099 n1100 p1045 p1048 p1058 p1089 p1083 _ _ R.sub)))))))))))))
  (p_new R fun p1084 g R =>
  (p_held R rfl (p_held R rfl (d_call R fun v1085 g m R =>
  (d_el_AI2L2E fun n1086 n1087 a1088 l1088 c1088 a1089 l1089 c1089 =>
  (p_held R rfl (d_call R fun v1090 g m R =>
  (d_el_AI3E fun n1091 n1092 n1093 =>
  (d_call R fun v1094 g m R =>
  (d_el_TAI2L2EAI2EE fun n1095 n1096 a1097 l1097 c1097 a1098 l1098 c1098 n1099 n1100 =>
  (p_stRow R (cs' := [.int .i64 n1095, .int .i64 n1096, .slice a1097 l1097 c1097, .slice a1098 l1098 c1098]) ⟨rfl, rfl, rfl⟩ fun g R =>
  (p_stRow R (cs' := [.int .i64 n1099, .int .i64 n1100]) ⟨rfl, rfl, rfl⟩ fun g R =>
  (laws_FnExactSchedStep_M_j2_D (by exact fun t1101 g m R =>
  (Hkr t1101 _ _ R.sub)) n1080 n1041 n1042 a1043 l1043 c1043 a1044 l1044 c1044 n1046 n1047 n1054 n1055 a1056 l1056 c1056 a1057 l1057 c1057 n1095 n1096 a1097 l1097 c1097 a1098 l1098 c1098 n1099 n1100 p1045 p1048 p1058 p1084 p1083 _ _ R.sub)))))))))))))))))))))))))))))))))))))))))))))))))))))))))))))

theorem laws_FnExactSchedStep_M_j0_D {g0 m0 : H} {kr_1 : Bool → H → Prop} {kr_2 : Bool → H → Prop} (Hkr : ∀ (t200001 : Bool) (g m : H), Md g0 m0 g m [] → kr_2 t200001 m → kr_1 t200001 g) : ∀ (n1010 : Int) (n1011 : Int) (a1012 : Option Addr) (l1012 : Nat) (c1012 : Nat) (a1013 : Option Addr) (l1013 : Nat) (c1013 : Nat) (n1015 : Int) (n1016 : Int) (n1017 : Int) (n1019 : Int) (n1020 : Int) (a1021 : Option Addr) (l1021 : Nat) (c1021 : Nat) (a1022 : Option Addr) (l1022 : Nat) (c1022 : Nat) (n1024 : Int) (n1025 : Int) (p1014 : Nat) (p1018 : Nat) (p1023 : Nat) (p1026 : Nat) (g m : H), Md g0 m0 g m [lo p1014 [.int .i64 n1010, .int .i64 n1011, .slice a1012 l1012 c1012, .slice a1013 l1013 c1013], lo p1018 [.int .i64 n1015, .int .i64 n1016, .int .i64 n1017], lo p1023 [.int .i64 n1019, .int .i64 n1020, .slice a1021 l1021 c1021, .slice a1022 l1022 c1022], lo p1026 [.int .i64 n1024, .int .i64 n1025]] → laws_FnExactSchedStep_M_j0 kr_2 n1010 n1011 a1012 l1012 c1012 a1013 l1013 c1013 n1015 n1016 n1017 n1019 n1020 a1021 l1021 c1021 a1022 l1022 c1022 n1024 n1025 m → laws_FnExactSchedStep_j0 kr_1 p1014 p1018 p1023 p1026 g := by
  intro n1010 n1011 a1012 l1012 c1012 a1013 l1013 c1013 n1015 n1016 n1017 n1019 n1020 a1021 l1021 c1021 a1022 l1022 c1022 n1024 n1025 p1014 p1018 p1023 p1026 g m R
  rw [laws_FnExactSchedStep_M_j0, laws_FnExactSchedStep_j0]
  exact (p_row_I2L2 R rfl rfl rfl rfl (d_call R fun v1027 g m R =>
  (d_el_AI2L2E fun n1028 n1029 a1030 l1030 c1030 a1031 l1031 c1031 =>
  (p_new R fun p1032 g R =>
  (p_stRow R (cs' := [.int .i64 n1028, .int .i64 n1029, .slice a1030 l1030 c1030, .slice a1031 l1031 c1031]) ⟨rfl, rfl, rfl⟩ fun g R =>
  (p_row_I2L2 R rfl rfl rfl rfl (p_row_I3 R rfl rfl rfl (d_dup (d_call R fun v1033 g m R =>
  (d_el_AI3E fun n1034 n1035 n1036 =>
  (p_held R rfl (d_dup (d_call R fun v1037 g m R =>
  (d_el_TAI2L2EAI2EE fun n1038 n1039 a1040 l1040 c1040 a1041 l1041 c1041 n1042 n1043 =>
  (d_dup (p_new R fun p1044 g R =>
  (p_new R fun p1045 g R =>
  (p_stRow R (cs' := [.int .i64 n1038, .int .i64 n1039, .slice a1040 l1040 c1040, .slice a1041 l1041 c1041]) ⟨rfl, rfl, rfl⟩ fun g R =>
  (p_stRow R (cs' := [.int .i64 n1042, .int .i64 n1043]) ⟨rfl, rfl, rfl⟩ fun g R =>
  (laws_FnExactSchedStep_M_j1_D (by exact fun t1046 g m R =>
  (Hkr t1046 _ _ R.sub)) n1010 n1011 a1012 l1012 c1012 a1013 l1013 c1013 n1015 n1016 n1017 n1019 n1020 a1021 l1021 c1021 a1022 l1022 c1022 n1024 n1025 n1028 n1029 a1030 l1030 c1030 a1031 l1031 c1031 n1038 n1039 a1040 l1040 c1040 a1041 l1041 c1041 n1042 n1043 p1014 p1018 p1023 p1026 p1032 p1044 p1045 _ _ R.sub)))))
  (p_new R fun p1044 g R =>
  (p_new R fun p1045 g R =>
  (p_stRow R (cs' := [.int .i64 n1038, .int .i64 n1039, .slice a1040 l1040 c1040, .slice a1041 l1041 c1041]) ⟨rfl, rfl, rfl⟩ fun g R =>
  (p_stRow R (cs' := [.int .i64 n1042, .int .i64 n1043]) ⟨rfl, rfl, rfl⟩ fun g R =>
  (laws_FnExactSchedStep_M_j1_D (by exact fun t1046 g m R =>
  (Hkr t1046 _ _ R.sub)) n1010 n1011 a1012 l1012 c1012 a1013 l1013 c1013 n1015 n1016 n1017 n1019 n1020 a1021 l1021 c1021 a1022 l1022 c1022 n1024 n1025 n1028 n1029 a1030 l1030 c1030 a1031 l1031 c1031 n1038 n1039 a1040 l1040 c1040 a1041 l1041 c1041 n1042 n1043 p1014 p1018 p1023 p1026 p1032 p1045 p1044 _ _ R.sub))))))))
  (d_dup (p_new R fun p1037 g R =>
  (p_held R rfl (d_dup (d_call R fun v1038 g m R =>
  (d_el_TAI2L2EAI2EE fun n1039 n1040 a1041 l1041 c1041 a1042 l1042 c1042 n1043 n1044 =>
  (p_new R fun p1045 g R =>
  (p_stRow R (cs' := [.int .i64 n1039, .int .i64 n1040, .slice a1041 l1041 c1041, .slice a1042 l1042 c1042]) ⟨rfl, rfl, rfl⟩ fun g R =>
  (p_stRow R (cs' := [.int .i64 n1043, .int .i64 n1044]) ⟨rfl, rfl, rfl⟩ fun g R =>
  (laws_FnExactSchedStep_M_j1_D (by exact fun t1046 g m R =>
  (Hkr t1046 _ _ R.sub)) n1010 n1011 a1012 l1012 c1012 a1013 l1013 c1013 n1015 n1016 n1017 n1019 n1020 a1021 l1021 c1021 a1022 l1022 c1022 n1024 n1025 n1028 n1029 a1030 l1030 c1030 a1031 l1031 c1031 n1039 n1040 a1041 l1041 c1041 a1042 l1042 c1042 n1043 n1044 p1014 p1018 p1023 p1026 p1032 p1037 p1045 _ _ R.sub))))))
  (p_new R fun p1038 g R =>
  (p_held R rfl (d_call R fun v1039 g m R =>
  (d_el_TAI2L2EAI2EE fun n1040 n1041 a1042 l1042 c1042 a1043 l1043 c1043 n1044 n1045 =>
  (p_stRow R (cs' := [.int .i64 n1040, .int .i64 n1041, .slice a1042 l1042 c1042, .slice a1043 l1043 c1043]) ⟨rfl, rfl, rfl⟩ fun g R =>
  (p_stRow R (cs' := [.int .i64 n1044, .int .i64 n1045]) ⟨rfl, rfl, rfl⟩ fun g R =>
  (laws_FnExactSchedStep_M_j1_D (by exact fun t1046 g m R =>
  (Hkr t1046 _ _ R.sub)) n1010 n1011 a1012 l1012 c1012 a1013 l1013 c1013 n1015 n1016 n1017 n1019 n1020 a1021 l1021 c1021 a1022 l1022 c1022 n1024 n1025 n1028 n1029 a1030 l1030 c1030 a1031 l1031 c1031 n1040 n1041 a1042 l1042 c1042 a1043 l1043 c1043 n1044 n1045 p1014 p1018 p1023 p1026 p1032 p1037 p1038 _ _ R.sub))))))))))
  (p_new R fun p1037 g R =>
  (p_held R rfl (d_dup (d_call R fun v1038 g m R =>
  (d_el_TAI2L2EAI2EE fun n1039 n1040 a1041 l1041 c1041 a1042 l1042 c1042 n1043 n1044 =>
  (p_new R fun p1045 g R =>
  (p_stRow R (cs' := [.int .i64 n1039, .int .i64 n1040, .slice a1041 l1041 c1041, .slice a1042 l1042 c1042]) ⟨rfl, rfl, rfl⟩ fun g R =>
  (p_stRow R (cs' := [.int .i64 n1043, .int .i64 n1044]) ⟨rfl, rfl, rfl⟩ fun g R =>
  (laws_FnExactSchedStep_M_j1_D (by exact fun t1046 g m R =>
  (Hkr t1046 _ _ R.sub)) n1010 n1011 a1012 l1012 c1012 a1013 l1013 c1013 n1015 n1016 n1017 n1019 n1020 a1021 l1021 c1021 a1022 l1022 c1022 n1024 n1025 n1028 n1029 a1030 l1030 c1030 a1031 l1031 c1031 n1039 n1040 a1041 l1041 c1041 a1042 l1042 c1042 n1043 n1044 p1014 p1018 p1023 p1026 p1032 p1045 p1037 _ _ R.sub))))))
  (p_new R fun p1038 g R =>
  (p_held R rfl (d_call R fun v1039 g m R =>
  (d_el_TAI2L2EAI2EE fun n1040 n1041 a1042 l1042 c1042 a1043 l1043 c1043 n1044 n1045 =>
  (p_stRow R (cs' := [.int .i64 n1040, .int .i64 n1041, .slice a1042 l1042 c1042, .slice a1043 l1043 c1043]) ⟨rfl, rfl, rfl⟩ fun g R =>
  (p_stRow R (cs' := [.int .i64 n1044, .int .i64 n1045]) ⟨rfl, rfl, rfl⟩ fun g R =>
  (laws_FnExactSchedStep_M_j1_D (by exact fun t1046 g m R =>
  (Hkr t1046 _ _ R.sub)) n1010 n1011 a1012 l1012 c1012 a1013 l1013 c1013 n1015 n1016 n1017 n1019 n1020 a1021 l1021 c1021 a1022 l1022 c1022 n1024 n1025 n1028 n1029 a1030 l1030 c1030 a1031 l1031 c1031 n1040 n1041 a1042 l1042 c1042 a1043 l1043 c1043 n1044 n1045 p1014 p1018 p1023 p1026 p1032 p1038 p1037 _ _ R.sub)))))))))))))))
  (d_dup (p_new R fun p1033 g R =>
  (p_held R rfl (p_held R rfl (d_dup (d_call R fun v1034 g m R =>
  (d_el_AI3E fun n1035 n1036 n1037 =>
  (p_held R rfl (d_dup (d_call R fun v1038 g m R =>
  (d_el_TAI2L2EAI2EE fun n1039 n1040 a1041 l1041 c1041 a1042 l1042 c1042 n1043 n1044 =>
  (p_new R fun p1045 g R =>
  (p_stRow R (cs' := [.int .i64 n1039, .int .i64 n1040, .slice a1041 l1041 c1041, .slice a1042 l1042 c1042]) ⟨rfl, rfl, rfl⟩ fun g R =>
  (p_stRow R (cs' := [.int .i64 n1043, .int .i64 n1044]) ⟨rfl, rfl, rfl⟩ fun g R =>
  (laws_FnExactSchedStep_M_j1_D (by exact fun t1046 g m R =>
  (Hkr t1046 _ _ R.sub)) n1010 n1011 a1012 l1012 c1012 a1013 l1013 c1013 n1015 n1016 n1017 n1019 n1020 a1021 l1021 c1021 a1022 l1022 c1022 n1024 n1025 n1028 n1029 a1030 l1030 c1030 a1031 l1031 c1031 n1039 n1040 a1041 l1041 c1041 a1042 l1042 c1042 n1043 n1044 p1014 p1018 p1023 p1026 p1032 p1033 p1045 _ _ R.sub))))))
  (p_new R fun p1038 g R =>
  (p_held R rfl (d_call R fun v1039 g m R =>
  (d_el_TAI2L2EAI2EE fun n1040 n1041 a1042 l1042 c1042 a1043 l1043 c1043 n1044 n1045 =>
  (p_stRow R (cs' := [.int .i64 n1040, .int .i64 n1041, .slice a1042 l1042 c1042, .slice a1043 l1043 c1043]) ⟨rfl, rfl, rfl⟩ fun g R =>
  (p_stRow R (cs' := [.int .i64 n1044, .int .i64 n1045]) ⟨rfl, rfl, rfl⟩ fun g R =>
  (laws_FnExactSchedStep_M_j1_D (by exact fun t1046 g m R =>
  (Hkr t1046 _ _ R.sub)) n1010 n1011 a1012 l1012 c1012 a1013 l1013 c1013 n1015 n1016 n1017 n1019 n1020 a1021 l1021 c1021 a1022 l1022 c1022 n1024 n1025 n1028 n1029 a1030 l1030 c1030 a1031 l1031 c1031 n1040 n1041 a1042 l1042 c1042 a1043 l1043 c1043 n1044 n1045 p1014 p1018 p1023 p1026 p1032 p1033 p1038 _ _ R.sub)))))))))))
  (p_new R fun p1034 g R =>
  (p_held R rfl (p_held R rfl (d_call R fun v1035 g m R =>
  (d_el_AI3E fun n1036 n1037 n1038 =>
  (p_held R rfl (d_call R fun v1039 g m R =>
  (d_el_TAI2L2EAI2EE fun n1040 n1041 a1042 l1042 c1042 a1043 l1043 c1043 n1044 n1045 =>
  (p_stRow R (cs' := [.int .i64 n1040, .int .i64 n1041, .slice a1042 l1042 c1042, .slice a1043 l1043 c1043]) ⟨rfl, rfl, rfl⟩ fun g R =>
  (p_stRow R (cs' := [.int .i64 n1044, .int .i64 n1045]) ⟨rfl, rfl, rfl⟩ fun g R =>
  (laws_FnExactSchedStep_M_j1_D (by exact fun t1046 g m R =>
  (Hkr t1046 _ _ R.sub)) n1010 n1011 a1012 l1012 c1012 a1013 l1013 c1013 n1015 n1016 n1017 n1019 n1020 a1021 l1021 c1021 a1022 l1022 c1022 n1024 n1025 n1028 n1029 a1030 l1030 c1030 a1031 l1031 c1031 n1040 n1041 a1042 l1042 c1042 a1043 l1043 c1043 n1044 n1045 p1014 p1018 p1023 p1026 p1032 p1033 p1034 _ _ R.sub)))))))))))))))
  (p_new R fun p1033 g R =>
  (p_held R rfl (p_held R rfl (d_dup (d_call R fun v1034 g m R =>
  (d_el_AI3E fun n1035 n1036 n1037 =>
  (p_held R rfl (d_dup (d_call R fun v1038 g m R =>
  (d_el_TAI2L2EAI2EE fun n1039 n1040 a1041 l1041 c1041 a1042 l1042 c1042 n1043 n1044 =>
  (p_new R fun p1045 g R =>
  (p_stRow R (cs' := [.int .i64 n1039, .int .i64 n1040, .slice a1041 l1041 c1041, .slice a1042 l1042 c1042]) ⟨rfl, rfl, rfl⟩ fun g R =>
  (p_stRow R (cs' := [.int .i64 n1043, .int .i64 n1044]) ⟨rfl, rfl, rfl⟩ fun g R =>
  (laws_FnExactSchedStep_M_j1_D (by exact fun t1046 g m R =>
  (Hkr t1046 _ _ R.sub)) n1010 n1011 a1012 l1012 c1012 a1013 l1013 c1013 n1015 n1016 n1017 n1019 n1020 a1021 l1021 c1021 a1022 l1022 c1022 n1024 n1025 n1028 n1029 a1030 l1030 c1030 a1031 l1031 c1031 n1039 n1040 a1041 l1041 c1041 a1042 l1042 c1042 n1043 n1044 p1014 p1018 p1023 p1026 p1032 p1045 p1033 _ _ R.sub))))))
  (p_new R fun p1038 g R =>
  (p_held R rfl (d_call R fun v1039 g m R =>
  (d_el_TAI2L2EAI2EE fun n1040 n1041 a1042 l1042 c1042 a1043 l1043 c1043 n1044 n1045 =>
  (p_stRow R (cs' := [.int .i64 n1040, .int .i64 n1041, .slice a1042 l1042 c1042, .slice a1043 l1043 c1043]) ⟨rfl, rfl, rfl⟩ fun g R =>
  (p_stRow R (cs' := [.int .i64 n1044, .int .i64 n1045]) ⟨rfl, rfl, rfl⟩ fun g R =>
  (laws_FnExactSchedStep_M_j1_D (by exact fun t1046 g m R =>
  (Hkr t1046 _ _ R.sub)) n1010 n1011 a1012 l1012 c1012 a1013 l1013 c1013 n1015 n1016 n1017 n1019 n1020 a1021 l1021 c1021 a1022 l1022 c1022 n1024 n1025 n1028 n1029 a1030 l1030 c1030 a1031 l1031 c1031 n1040 n1041 a1042 l1042 c1042 a1043 l1043 c1043 n1044 n1045 p1014 p1018 p1023 p1026 p1032 p1038 p1033 _ _ R.sub)))))))))))
  (p_new R fun p1034 g R =>
  (p_held R rfl (p_held R rfl (d_call R fun v1035 g m R =>
  (d_el_AI3E fun n1036 n1037 n1038 =>
  (p_held R rfl (d_call R fun v1039 g m R =>
  (d_el_TAI2L2EAI2EE fun n1040 n1041 a1042 l1042 c1042 a1043 l1043 c1043 n1044 n1045 =>
  (p_stRow R (cs' := [.int .i64 n1040, .int .i64 n1041, .slice a1042 l1042 c1042, .slice a1043 l1043 c1043]) ⟨rfl, rfl, rfl⟩ fun g R =>
  (p_stRow R (cs' := [.int .i64 n1044, .int .i64 n1045]) ⟨rfl, rfl, rfl⟩ fun g R =>
  (laws_FnExactSchedStep_M_j1_D (by exact fun t1046 g m R =>
  (Hkr t1046 _ _ R.sub)) n1010 n1011 a1012 l1012 c1012 a1013 l1013 c1013 n1015 n1016 n1017 n1019 n1020 a1021 l1021 c1021 a1022 l1022 c1022 n1024 n1025 n1028 n1029 a1030 l1030 c1030 a1031 l1031 c1031 n1040 n1041 a1042 l1042 c1042 a1043 l1043 c1043 n1044 n1045 p1014 p1018 p1023 p1026 p1032 p1034 p1033 _ _ R.sub))))))))))))))))))))))))

theorem laws_FnExactSchedStep_M_D {g0 m0 : H} {kr_1 : Bool → H → Prop} {kr_2 : Bool → H → Prop} (Hkr : ∀ (t200001 : Bool) (g m : H), Md g0 m0 g m [] → kr_2 t200001 m → kr_1 t200001 g) : ∀ (n1001 : Int) (n1002 : Int) (a1003 : Option Addr) (l1003 : Nat) (c1003 : Nat) (a1004 : Option Addr) (l1004 : Nat) (c1004 : Nat) (n1005 : Int) (n1006 : Int) (n1007 : Int) (g m : H), Md g0 m0 g m [] → laws_FnExactSchedStep_M kr_2 n1001 n1002 a1003 l1003 c1003 a1004 l1004 c1004 n1005 n1006 n1007 m → laws_FnExactSchedStep kr_1 n1001 n1002 a1003 l1003 c1003 a1004 l1004 c1004 n1005 n1006 n1007 g := by
  intro n1001 n1002 a1003 l1003 c1003 a1004 l1004 c1004 n1005 n1006 n1007 g m R
  rw [laws_FnExactSchedStep_M, laws_FnExactSchedStep]
  exact (p_new R fun p1008 g R =>
  (p_new R fun p1009 g R =>
  (p_row_I2L2 R rfl rfl rfl rfl (d_call R fun v1010 g m R =>
  (d_asI fun n1011 =>
  (d_if (Hkr true _ _ R.sub)
  (p_row_I2L2 R rfl rfl rfl rfl (p_row_I3 R rfl rfl rfl (d_dup (d_call R fun v1012 g m R =>
  (d_el_AI2L2E fun n1013 n1014 a1015 l1015 c1015 a1016 l1016 c1016 =>
  (p_held R rfl (d_dup (d_call R fun v1017 g m R =>
  (d_el_AI3E fun n1018 n1019 n1020 =>
  (d_dup (d_call R fun v1021 g m R =>
  (d_el_TAI2L2EAI2EE fun n1022 n1023 a1024 l1024 c1024 a1025 l1025 c1025 n1026 n1027 =>
  (d_dup (p_new R fun p1028 g R =>
  (p_new R fun p1029 g R =>
  (p_stRow R (cs' := [.int .i64 n1022, .int .i64 n1023, .slice a1024 l1024 c1024, .slice a1025 l1025 c1025]) ⟨rfl, rfl, rfl⟩ fun g R =>
  (p_stRow R (cs' := [.int .i64 n1026, .int .i64 n1027]) ⟨rfl, rfl, rfl⟩ fun g R =>
  (laws_FnExactSchedStep_M_j0_D (by exact fun t1030 g m R =>
  (Hkr t1030 _ _ R.sub)) n1001 n1002 a1003 l1003 c1003 a1004 l1004 c1004 n1005 n1006 n1007 n1022 n1023 a1024 l1024 c1024 a1025 l1025 c1025 n1026 n1027 p1008 p1009 p1028 p1029 _ _ R.sub)))))
  (p_new R fun p1028 g R =>
  (p_new R fun p1029 g R =>
  (p_stRow R (cs' := [.int .i64 n1022, .int .i64 n1023, .slice a1024 l1024 c1024, .slice a1025 l1025 c1025]) ⟨rfl, rfl, rfl⟩ fun g R =>
  (p_stRow R (cs' := [.int .i64 n1026, .int .i64 n1027]) ⟨rfl, rfl, rfl⟩ fun g R =>
  (laws_FnExactSchedStep_M_j0_D (by exact fun t1030 g m R =>
  (Hkr t1030 _ _ R.sub)) n1001 n1002 a1003 l1003 c1003 a1004 l1004 c1004 n1005 n1006 n1007 n1022 n1023 a1024 l1024 c1024 a1025 l1025 c1025 n1026 n1027 p1008 p1009 p1029 p1028 _ _ R.sub))))))))
  (d_dup (p_new R fun p1021 g R =>
  (d_dup (d_call R fun v1022 g m R =>
  (d_el_TAI2L2EAI2EE fun n1023 n1024 a1025 l1025 c1025 a1026 l1026 c1026 n1027 n1028 =>
  (p_new R fun p1029 g R =>
  (p_stRow R (cs' := [.int .i64 n1023, .int .i64 n1024, .slice a1025 l1025 c1025, .slice a1026 l1026 c1026]) ⟨rfl, rfl, rfl⟩ fun g R =>
  (p_stRow R (cs' := [.int .i64 n1027, .int .i64 n1028]) ⟨rfl, rfl, rfl⟩ fun g R =>
  (laws_FnExactSchedStep_M_j0_D (by exact fun t1030 g m R =>
  (Hkr t1030 _ _ R.sub)) n1001 n1002 a1003 l1003 c1003 a1004 l1004 c1004 n1005 n1006 n1007 n1023 n1024 a1025 l1025 c1025 a1026 l1026 c1026 n1027 n1028 p1008 p1009 p1021 p1029 _ _ R.sub))))))
  (p_new R fun p1022 g R =>
  (d_call R fun v1023 g m R =>
  (d_el_TAI2L2EAI2EE fun n1024 n1025 a1026 l1026 c1026 a1027 l1027 c1027 n1028 n1029 =>
  (p_stRow R (cs' := [.int .i64 n1024, .int .i64 n1025, .slice a1026 l1026 c1026, .slice a1027 l1027 c1027]) ⟨rfl, rfl, rfl⟩ fun g R =>
  (p_stRow R (cs' := [.int .i64 n1028, .int .i64 n1029]) ⟨rfl, rfl, rfl⟩ fun g R =>
  (laws_FnExactSchedStep_M_j0_D (by exact fun t1030 g m R =>
  (Hkr t1030 _ _ R.sub)) n1001 n1002 a1003 l1003 c1003 a1004 l1004 c1004 n1005 n1006 n1007 n1024 n1025 a1026 l1026 c1026 a1027 l1027 c1027 n1028 n1029 p1008 p1009 p1021 p1022 _ _ R.sub))))))))
  (p_new R fun p1021 g R =>
  (d_dup (d_call R fun v1022 g m R =>
  (d_el_TAI2L2EAI2EE fun n1023 n1024 a1025 l1025 c1025 a1026 l1026 c1026 n1027 n1028 =>
  (p_new R fun p1029 g R =>
  (p_stRow R (cs' := [.int .i64 n1023, .int .i64 n1024, .slice a1025 l1025 c1025, .slice a1026 l1026 c1026]) ⟨rfl, rfl, rfl⟩ fun g R =>
  (p_stRow R (cs' := [.int .i64 n1027, .int .i64 n1028]) ⟨rfl, rfl, rfl⟩ fun g R =>
  (laws_FnExactSchedStep_M_j0_D (by exact fun t1030 g m R =>
  (Hkr t1030 _ _ R.sub)) n1001 n1002 a1003 l1003 c1003 a1004 l1004 c1004 n1005 n1006 n1007 n1023 n1024 a1025 l1025 c1025 a1026 l1026 c1026 n1027 n1028 p1008 p1009 p1029 p1021 _ _ R.sub))))))
  (p_new R fun p1022 g R =>
  (d_call R fun v1023 g m R =>
  (d_el_TAI2L2EAI2EE fun n1024 n1025 a1026 l1026 c1026 a1027 l1027 c1027 n1028 n1029 =>
  (p_stRow R (cs' := [.int .i64 n1024, .int .i64 n1025, .slice a1026 l1026 c1026, .slice a1027 l1027 c1027]) ⟨rfl, rfl, rfl⟩ fun g R =>
  (p_stRow R (cs' := [.int .i64 n1028, .int .i64 n1029]) ⟨rfl, rfl, rfl⟩ fun g R =>
  (laws_FnExactSchedStep_M_j0_D (by exact fun t1030 g m R =>
  (Hkr t1030 _ _ R.sub)) n1001 n1002 a1003 l1003 c1003 a1004 l1004 c1004 n1005 n1006 n1007 n1024 n1025 a1026 l1026 c1026 a1027 l1027 c1027 n1028 n1029 p1008 p1009 p1022 p1021 _ _ R.sub))))))))))))
  (d_dup (p_new R fun p1017 g R =>
  (p_held R rfl (d_dup (d_call R fun v1018 g m R =>
  (d_el_AI3E fun n1019 n1020 n1021 =>
  (d_dup (d_call R fun v1022 g m R =>
  (d_el_TAI2L2EAI2EE fun n1023 n1024 a1025 l1025 c1025 a1026 l1026 c1026 n1027 n1028 =>
  (p_new R fun p1029 g R =>
  (p_stRow R (cs' := [.int .i64 n1023, .int .i64 n1024, .slice a1025 l1025 c1025, .slice a1026 l1026 c1026]) ⟨rfl, rfl, rfl⟩ fun g R =>
  (p_stRow R (cs' := [.int .i64 n1027, .int .i64 n1028]) ⟨rfl, rfl, rfl⟩ fun g R =>
  (laws_FnExactSchedStep_M_j0_D (by exact fun t1030 g m R =>
  (Hkr t1030 _ _ R.sub)) n1001 n1002 a1003 l1003 c1003 a1004 l1004 c1004 n1005 n1006 n1007 n1023 n1024 a1025 l1025 c1025 a1026 l1026 c1026 n1027 n1028 p1008 p1009 p1017 p1029 _ _ R.sub))))))
  (p_new R fun p1022 g R =>
  (d_call R fun v1023 g m R =>
  (d_el_TAI2L2EAI2EE fun n1024 n1025 a1026 l1026 c1026 a1027 l1027 c1027 n1028 n1029 =>
  (p_stRow R (cs' := [.int .i64 n1024, .int .i64 n1025, .slice a1026 l1026 c1026, .slice a1027 l1027 c1027]) ⟨rfl, rfl, rfl⟩ fun g R =>
  (p_stRow R (cs' := [.int .i64 n1028, .int .i64 n1029]) ⟨rfl, rfl, rfl⟩ fun g R =>
  (laws_FnExactSchedStep_M_j0_D (by exact fun t1030 g m R =>
  (Hkr t1030 _ _ R.sub)) n1001 n1002 a1003 l1003 c1003 a1004 l1004 c1004 n1005 n1006 n1007 n1024 n1025 a1026 l1026 c1026 a1027 l1027 c1027 n1028 n1029 p1008 p1009 p1017 p1022 _ _ R.sub)))))))))
  (p_new R fun p1018 g R =>
  (p_held R rfl (d_call R fun v1019 g m R =>
  (d_el_AI3E fun n1020 n1021 n1022 =>
  (d_call R fun v1023 g m R =>
  (d_el_TAI2L2EAI2EE fun n1024 n1025 a1026 l1026 c1026 a1027 l1027 c1027 n1028 n1029 =>
  (p_stRow R (cs' := [.int .i64 n1024, .int .i64 n1025, .slice a1026 l1026 c1026, .slice a1027 l1027 c1027]) ⟨rfl, rfl, rfl⟩ fun g R =>
  (p_stRow R (cs' := [.int .i64 n1028, .int .i64 n1029]) ⟨rfl, rfl, rfl⟩ fun g R =>
  (laws_FnExactSchedStep_M_j0_D (by exact fun t1030 g m R =>
  (Hkr t1030 _ _ R.sub)) n1001 n1002 a1003 l1003 c1003 a1004 l1004 c1004 n1005 n1006 n1007 n1024 n1025 a1026 l1026 c1026 a1027 l1027 c1027 n1028 n1029 p1008 p1009 p1017 p1018 _ _ R.sub))))))))))))
  (p_new R fun p1017 g R =>
  (p_held R rfl (d_dup (d_call R fun v1018 g m R =>
  (d_el_AI3E fun n1019 n1020 n1021 =>
  (d_dup (d_call R fun v1022 g m R =>
  (d_el_TAI2L2EAI2EE fun n1023 n1024 a1025 l1025 c1025 a1026 l1026 c1026 n1027 n1028 =>
  (p_new R fun p1029 g R =>
  (p_stRow R (cs' := [.int .i64 n1023, .int .i64 n1024, .slice a1025 l1025 c1025, .slice a1026 l1026 c1026]) ⟨rfl, rfl, rfl⟩ fun g R =>
  (p_stRow R (cs' := [.int .i64 n1027, .int .i64 n1028]) ⟨rfl, rfl, rfl⟩ fun g R =>
  (laws_FnExactSchedStep_M_j0_D (by exact fun t1030 g m R =>
  (Hkr t1030 _ _ R.sub)) n1001 n1002 a1003 l1003 c1003 a1004 l1004 c1004 n1005 n1006 n1007 n1023 n1024 a1025 l1025 c1025 a1026 l1026 c1026 n1027 n1028 p1008 p1009 p1029 p1017 _ _ R.sub))))))
  (p_new R fun p1022 g R =>
  (d_call R fun v1023 g m R =>
  (d_el_TAI2L2EAI2EE fun n1024 n1025 a1026 l1026 c1026 a1027 l1027 c1027 n1028 n1029 =>
  (p_stRow R (cs' := [.int .i64 n1024, .int .i64 n1025, .slice a1026 l1026 c1026, .slice a1027 l1027 c1027]) ⟨rfl, rfl, rfl⟩ fun g R =>
  (p_stRow R (cs' := [.int .i64 n1028, .int .i64 n1029]) ⟨rfl, rfl, rfl⟩ fun g R =>
  (laws_FnExactSchedStep_M_j0_D (by exact fun t1030 g m R =>
  (Hkr t1030 _ _ R.sub)) n1001 n1002 a1003 l1003 c1003 a1004 l1004 c1004 n1005 n1006 n1007 n1024 n1025 a1026 l1026 c1026 a1027 l1027 c1027 n1028 n1029 p1008 p1009 p1022 p1017 _ _ R.sub)))))))))
  (p_new R fun p1018 g R =>
  (p_held R rfl (d_call R fun v1019 g m R =>
  (d_el_AI3E fun n1020 n1021 n1022 =>
  (d_call R fun v1023 g m R =>
  (d_el_TAI2L2EAI2EE fun n1024 n1025 a1026 l1026 c1026 a1027 l1027 c1027 n1028 n1029 =>
  (p_stRow R (cs' := [.int .i64 n1024, .int .i64 n1025, .slice a1026 l1026 c1026, .slice a1027 l1027 c1027]) ⟨rfl, rfl, rfl⟩ fun g R =>
  (p_stRow R (cs' := [.int .i64 n1028, .int .i64 n1029]) ⟨rfl, rfl, rfl⟩ fun g R =>
  (laws_FnExactSchedStep_M_j0_D (by exact fun t1030 g m R =>
  (Hkr t1030 _ _ R.sub)) n1001 n1002 a1003 l1003 c1003 a1004 l1004 c1004 n1005 n1006 n1007 n1024 n1025 a1026 l1026 c1026 a1027 l1027 c1027 n1028 n1029 p1008 p1009 p1018 p1017 _ _ R.sub)))))))))))))))))
  (d_dup (p_new R fun p1012 g R =>
  (p_held R rfl (p_held R rfl (d_dup (d_call R fun v1013 g m R =>
  (d_el_AI2L2E fun n1014 n1015 a1016 l1016 c1016 a1017 l1017 c1017 =>
  (p_held R rfl (d_dup (d_call R fun v1018 g m R =>
  (d_el_AI3E fun n1019 n1020 n1021 =>
  (d_dup (d_call R fun v1022 g m R =>
  (d_el_TAI2L2EAI2EE fun n1023 n1024 a1025 l1025 c1025 a1026 l1026 c1026 n1027 n1028 =>
  (p_new R fun p1029 g R =>
  (p_stRow R (cs' := [.int .i64 n1023, .int .i64 n1024, .slice a1025 l1025 c1025, .slice a1026 l1026 c1026]) ⟨rfl, rfl, rfl⟩ fun g R =>
  (p_stRow R (cs' := [.int .i64 n1027, .int .i64 n1028]) ⟨rfl, rfl, rfl⟩ fun g R =>
  (laws_FnExactSchedStep_M_j0_D (by exact fun t1030 g m R =>
  (Hkr t1030 _ _ R.sub)) n1001 n1002 a1003 l1003 c1003 a1004 l1004 c1004 n1005 n1006 n1007 n1023 n1024 a1025 l1025 c1025 a1026 l1026 c1026 n1027 n1028 p1008 p1009 p1012 p1029 _ _ R.sub))))))
  (p_new R fun p1022 g R =>
  (d_call R fun v1023 g m R =>
  (d_el_TAI2L2EAI2EE fun n1024 n1025 a1026 l1026 c1026 a1027 l1027 c1027 n1028 n1029 =>
  (p_stRow R (cs' := [.int .i64 n1024, .int .i64 n1025, .slice a1026 l1026 c1026, .slice a1027 l1027 c1027]) ⟨rfl, rfl, rfl⟩ fun g R =>
  (p_stRow R (cs' := [.int .i64 n1028, .int .i64 n1029]) ⟨rfl, rfl, rfl⟩ fun g R =>
  (laws_FnExactSchedStep_M_j0_D (by exact fun t1030 g m R =>
  (Hkr t1030 _ _ R.sub)) n1001 n1002 a1003 l1003 c1003 a1004 l1004 c1004 n1005 n1006 n1007 n1024 n1025 a1026 l1026 c1026 a1027 l1027 c1027 n1028 n1029 p1008 p1009 p1012 p1022 _ _ R.sub)))))))))
  (p_new R fun p1018 g R =>
  (p_held R rfl (d_call R fun v1019 g m R =>
  (d_el_AI3E fun n1020 n1021 n1022 =>
  (d_call R fun v1023 g m R =>
  (d_el_TAI2L2EAI2EE fun n1024 n1025 a1026 l1026 c1026 a1027 l1027 c1027 n1028 n1029 =>
  (p_stRow R (cs' := [.int .i64 n1024, .int .i64 n1025, .slice a1026 l1026 c1026, .slice a1027 l1027 c1027]) ⟨rfl, rfl, rfl⟩ fun g R =>
  (p_stRow R (cs' := [.int .i64 n1028, .int .i64 n1029]) ⟨rfl, rfl, rfl⟩ fun g R =>
  (laws_FnExactSchedStep_M_j0_D (by exact fun t1030 g m R =>
  (Hkr t1030 _ _ R.sub)) n1001 n1002 a1003 l1003 c1003 a1004 l1004 c1004 n1005 n1006 n1007 n1024 n1025 a1026 l1026 c1026 a1027 l1027 c1027 n1028 n1029 p1008 p1009 p1012 p1018 _ _ R.sub)))))))))))))
  (p_new R fun p1013 g R =>
  (p_held R rfl (p_held R rfl (d_call R fun v1014 g m R =>
  (d_el_AI2L2E fun n1015 n1016 a1017 l1017 c1017 a1018 l1018 c1018 =>
  (p_held R rfl (d_call R fun v1019 g m R =>
  (d_el_AI3E fun n1020 n1021 n1022 =>
  (d_call R fun v1023 g m R =>
  (d_el_TAI2L2EAI2EE fun n1024 n1025 a1026 l1026 c1026 a1027 l1027 c1027 n1028 n1029 =>
  (p_stRow R (cs' := [.int .i64 n1024, .int .i64 n1025, .slice a1026 l1026 c1026, .slice a1027 l1027 c1027]) ⟨rfl, rfl, rfl⟩ fun g R =>
  (p_stRow R (cs' := [.int .i64 n1028, .int .i64 n1029]) ⟨rfl, rfl, rfl⟩ fun g R =>
  (laws_FnExactSchedStep_M_j0_D (by exact fun t1030 g m R =>
  (Hkr t1030 _ _ R.sub)) n1001 n1002 a1003 l1003 c1003 a1004 l1004 c1004 n1005 n1006 n1007 n1024 n1025 a1026 l1026 c1026 a1027 l1027 c1027 n1028 n1029 p1008 p1009 p1012 p1013 _ _ R.sub)))))))))))))))))
  (p_new R fun p1012 g R =>
  (p_held R rfl (p_held R rfl (d_dup (d_call R fun v1013 g m R =>
  (d_el_AI2L2E fun n1014 n1015 a1016 l1016 c1016 a1017 l1017 c1017 =>
  (p_held R rfl (d_dup (d_call R fun v1018 g m R =>
  (d_el_AI3E fun n1019 n1020 n1021 =>
  (d_dup (d_call R fun v1022 g m R =>
  (d_el_TAI2L2EAI2EE fun n1023 n1024 a1025 l1025 c1025 a1026 l1026 c1026 n1027 n1028 =>
  (p_new R fun p1029 g R =>
  (p_stRow R (cs' := [.int .i64 n1023, .int .i64 n1024, .slice a1025 l1025 c1025, .slice a1026 l1026 c1026]) ⟨rfl, rfl, rfl⟩ fun g R =>
  (p_stRow R (cs' := [.int .i64 n1027, .int .i64 n1028]) ⟨rfl, rfl, rfl⟩ fun g R =>
  (laws_FnExactSchedStep_M_j0_D (by exact fun t1030 g m R =>
  (Hkr t1030 _ _ R.sub)) n1001 n1002 a1003 l1003 c1003 a1004 l1004 c1004 n1005 n1006 n1007 n1023 n1024 a1025 l1025 c1025 a1026 l1026 c1026 n1027 n1028 p1008 p1009 p1029 p1012 _ _ R.sub))))))
  (p_new R fun p1022 g R =>
  (d_call R fun v1023 g m R =>
  (d_el_TAI2L2EAI2EE fun n1024 n1025 a1026 l1026 c1026 a1027 l1027 c1027 n1028 n1029 =>
  (p_stRow R (cs' := [.int .i64 n1024, .int .i64 n1025, .slice a1026 l1026 c1026, .slice a1027 l1027 c1027]) ⟨rfl, rfl, rfl⟩ fun g R =>
  (p_stRow R (cs' := [.int .i64 n1028, .int .i64 n1029]) ⟨rfl, rfl, rfl⟩ fun g R =>
  (laws_FnExactSchedStep_M_j0_D (by exact fun t1030 g m R =>
  (Hkr t1030 _ _ R.sub)) n1001 n1002 a1003 l1003 c1003 a1004 l1004 c1004 n1005 n1006 n1007 n1024 n1025 a1026 l1026 c1026 a1027 l1027 c1027 n1028 n1029 p1008 p1009 p1022 p1012 _ _ R.sub)))))))))
  (p_new R fun p1018 g R =>
  (p_held R rfl (d_call R fun v1019 g m R =>
  (d_el_AI3E fun n1020 n1021 n1022 =>
  (d_call R fun v1023 g m R =>
  (d_el_TAI2L2EAI2EE fun n1024 n1025 a1026 l1026 c1026 a1027 l1027 c1027 n1028 n1029 =>
  (p_stRow R (cs' := [.int .i64 n1024, .int .i64 n1025, .slice a1026 l1026 c1026, .slice a1027 l1027 c1027]) ⟨rfl, rfl, rfl⟩ fun g R =>
  (p_stRow R (cs' := [.int .i64 n1028, .int .i64 n1029]) ⟨rfl, rfl, rfl⟩ fun g R =>
  (laws_FnExactSchedStep_M_j0_D (by exact fun t1030 g m R =>
  (Hkr t1030 _ _ R.sub)) n1001 n1002 a1003 l1003 c1003 a1004 l1004 c1004 n1005 n1006 n1007 n1024 n1025 a1026 l1026 c1026 a1027 l1027 c1027 n1028 n1029 p1008 p1009 p1018 p1012 _ _ R.sub)))))))))))))
  (p_new R fun p1013 g R =>
  (p_held R rfl (p_held R rfl (d_call R fun v1014 g m R =>
  (d_el_AI2L2E fun n1015 n1016 a1017 l1017 c1017 a1018 l1018 c1018 =>
  (p_held R rfl (d_call R fun v1019 g m R =>
  (d_el_AI3E fun n1020 n1021 n1022 =>
  (d_call R fun v1023 g m R =>
  (d_el_TAI2L2EAI2EE fun n1024 n1025 a1026 l1026 c1026 a1027 l1027 c1027 n1028 n1029 =>
  (p_stRow R (cs' := [.int .i64 n1024, .int .i64 n1025, .slice a1026 l1026 c1026, .slice a1027 l1027 c1027]) ⟨rfl, rfl, rfl⟩ fun g R =>
  (p_stRow R (cs' := [.int .i64 n1028, .int .i64 n1029]) ⟨rfl, rfl, rfl⟩ fun g R =>
  (laws_FnExactSchedStep_M_j0_D (by exact fun t1030 g m R =>
  (Hkr t1030 _ _ R.sub)) n1001 n1002 a1003 l1003 c1003 a1004 l1004 c1004 n1005 n1006 n1007 n1024 n1025 a1026 l1026 c1026 a1027 l1027 c1027 n1028 n1029 p1008 p1009 p1013 p1012 _ _ R.sub)))))))))))))))))))))))))))

theorem laws_FnExactSchedStep_M_call {n1 : Int} {n2 : Int} {a3 : Option Addr} {l3 : Nat} {c3 : Nat} {a4 : Option Addr} {l4 : Nat} {c4 : Nat} {n5 : Int} {n6 : Int} {n7 : Int} {h : H} {K : Value → H → Prop} (hs : laws_FnExactSchedStep_M (fun t300001 h =>
  K (.bool t300001) h) n1 n2 a3 l3 c3 a4 l4 c4 n5 n6 n7 h) : callD Try.prog 3 ⟨[.agg ⟨[.int .i64 n1, .int .i64 n2, .slice a3 l3 c3, .slice a4 l4 c4]⟩, .agg ⟨[.int .i64 n5, .int .i64 n6, .int .i64 n7]⟩]⟩ h K :=
  fun g r => laws_FnExactSchedStep_call (laws_FnExactSchedStep_M_D (by exact fun t300001 g m R =>
(fun h => ⟨m, R.af, h⟩)) _ _ _ _ _ _ _ _ _ _ _ _ _ (Md.start r) hs)

noncomputable def code4 : Code := codeOf Try.f4
theorem body4 : Try.f4.body = some code4 := by kernel_rfl
def laws_szSched (kr : Int → H → Prop) (a_1 : Int) (a_2 : Int) (a_3 : Option Addr) (a_l3 : Nat) (a_c3 : Nat) (a_4 : Option Addr) (a_l4 : Nat) (a_c4 : Nat) (left_5 : Int) (h : H) : Prop :=
  new h [.int .i64 a_1, .int .i64 a_2, .slice a_3 a_l3 a_c3, .slice a_4 a_l4 a_c4] 25 fun b6 h =>
  ldL h b6 2 fun a7 l7 c7 =>
  callK Try.prog 13 ⟨[.slice a7 l7 c7, .int .i64 left_5]⟩ h fun v8 h =>
  asI .i64 v8 fun n9 =>
  ifB (decide ((n9 : Int) < 0))
  (kr (-1) h)
  (ldL h b6 3 fun a10 l10 c10 =>
  callK Try.prog 14 ⟨[.slice a10 l10 c10, .int .i64 n9]⟩ h fun v11 h =>
  asI .i64 v11 fun n12 =>
  ifB (decide ((n12 : Int) < 0))
  (kr (-1) h)
  (kr n12 h))

theorem laws_szSched_eq (K : Cont) (a_1 : Int) (a_2 : Int) (a_3 : Option Addr) (a_l3 : Nat) (a_c3 : Nat) (a_4 : Option Addr) (a_l4 : Nat) (a_c4 : Nat) (left_5 : Int) (h : H) :
  laws_szSched (curV [(4, .int .i64)] (K .ret)) a_1 a_2 a_3 a_l3 a_c3 a_4 a_l4 a_c4 left_5 h = evC Try.prog 18 [] [] code4 [(0, .agg ⟨[.int .i64 a_1, .int .i64 a_2, .slice a_3 a_l3 a_c3, .slice a_4 a_l4 a_c4]⟩), (1, .int .i64 left_5)] h (outsOf none [] (some [(4, .int .i64)]) K).K := by kernel_rfl

def laws_szSched_F : PT := mkF [(0, .agg [.int .i64, .int .i64, .slice, .slice]), (1, .int .i64)] fun K => laws_szSched (curV [(4, .int .i64)] (K .ret))

theorem laws_szSched_V : Valid Try.prog 18 code4 laws_szSched_F :=
  piece mixed rows_nil (fun K => by intro a_1 a_2 a_3 a_l3 a_c3 a_4 a_l4 a_c4 left_5 h hd; exact (laws_szSched_eq K a_1 a_2 a_3 a_l3 a_c3 a_4 a_l4 a_c4 left_5 h) ▸ hd)

theorem laws_szSched_c0 (a_1 : Int) (a_2 : Int) (a_3 : Option Addr) (a_l3 : Nat) (a_c3 : Nat) (a_4 : Option Addr) (a_l4 : Nat) (a_c4 : Nat) (left_5 : Int) (h : H) (K : Value → H → Prop) :
  laws_szSched (fun n100001 h =>
  K (.int .i64 n100001) h) a_1 a_2 a_3 a_l3 a_c3 a_4 a_l4 a_c4 left_5 h = callF Try.prog Try.f4.results.toList laws_szSched_F [.agg ⟨[.int .i64 a_1, .int .i64 a_2, .slice a_3 a_l3 a_c3, .slice a_4 a_l4 a_c4]⟩, .int .i64 left_5] h K := by kernel_rfl

theorem laws_szSched_call {a_1 : Int} {a_2 : Int} {a_3 : Option Addr} {a_l3 : Nat} {a_c3 : Nat} {a_4 : Option Addr} {a_l4 : Nat} {a_c4 : Nat} {left_5 : Int} {h : H} {K : Value → H → Prop} (hs : laws_szSched (fun n100001 h =>
  K (.int .i64 n100001) h) a_1 a_2 a_3 a_l3 a_c3 a_4 a_l4 a_c4 left_5 h) : callK Try.prog 4 ⟨[.agg ⟨[.int .i64 a_1, .int .i64 a_2, .slice a_3 a_l3 a_c3, .slice a_4 a_l4 a_c4]⟩, .int .i64 left_5]⟩ h K :=
  func_calls Try.func4 body4 laws_szSched_V (Nat.le_of_ble_eq_true (by kernel_rfl)) (laws_szSched_c0 a_1 a_2 a_3 a_l3 a_c3 a_4 a_l4 a_c4 left_5 h K ▸ hs)

def laws_szSched_M (kr : Int → H → Prop) (a_1 : Int) (a_2 : Int) (a_3 : Option Addr) (a_l3 : Nat) (a_c3 : Nat) (a_4 : Option Addr) (a_l4 : Nat) (a_c4 : Nat) (left_5 : Int) (h : H) : Prop :=
  callD Try.prog 13 ⟨[.slice a_3 a_l3 a_c3, .int .i64 left_5]⟩ h fun v6 h =>
  asI .i64 v6 fun n7 =>
  ifB (decide ((n7 : Int) < 0))
  (kr (-1) h)
  (callD Try.prog 14 ⟨[.slice a_4 a_l4 a_c4, .int .i64 n7]⟩ h fun v8 h =>
  asI .i64 v8 fun n9 =>
  ifB (decide ((n9 : Int) < 0))
  (kr (-1) h)
  (kr n9 h))

theorem laws_szSched_M_D {g0 m0 : H} {kr_1 : Int → H → Prop} {kr_2 : Int → H → Prop} (Hkr : ∀ (n200001 : Int) (g m : H), Md g0 m0 g m [] → kr_2 n200001 m → kr_1 n200001 g) : ∀ (a_1001 : Int) (a_1002 : Int) (a_1003 : Option Addr) (a_l1003 : Nat) (a_c1003 : Nat) (a_1004 : Option Addr) (a_l1004 : Nat) (a_c1004 : Nat) (left_1005 : Int) (g m : H), Md g0 m0 g m [] → laws_szSched_M kr_2 a_1001 a_1002 a_1003 a_l1003 a_c1003 a_1004 a_l1004 a_c1004 left_1005 m → laws_szSched kr_1 a_1001 a_1002 a_1003 a_l1003 a_c1003 a_1004 a_l1004 a_c1004 left_1005 g := by
  intro a_1001 a_1002 a_1003 a_l1003 a_c1003 a_1004 a_l1004 a_c1004 left_1005 g m R
  rw [laws_szSched_M, laws_szSched]
  exact (p_new R fun p1006 g R =>
  (p_ldL R rfl (d_call R fun v1007 g m R =>
  (d_asI fun n1008 =>
  (d_if (Hkr (-1) _ _ R.sub)
  (p_ldL R rfl (d_call R fun v1009 g m R =>
  (d_asI fun n1010 =>
  (d_if (Hkr (-1) _ _ R.sub)
  (Hkr n1010 _ _ R.sub))))))))))

theorem laws_szSched_M_call {a_1 : Int} {a_2 : Int} {a_3 : Option Addr} {a_l3 : Nat} {a_c3 : Nat} {a_4 : Option Addr} {a_l4 : Nat} {a_c4 : Nat} {left_5 : Int} {h : H} {K : Value → H → Prop} (hs : laws_szSched_M (fun n300001 h =>
  K (.int .i64 n300001) h) a_1 a_2 a_3 a_l3 a_c3 a_4 a_l4 a_c4 left_5 h) : callD Try.prog 4 ⟨[.agg ⟨[.int .i64 a_1, .int .i64 a_2, .slice a_3 a_l3 a_c3, .slice a_4 a_l4 a_c4]⟩, .int .i64 left_5]⟩ h K :=
  fun g r => laws_szSched_call (laws_szSched_M_D (by exact fun n300001 g m R =>
(fun h => ⟨m, R.af, h⟩)) _ _ _ _ _ _ _ _ _ _ _ (Md.start r) hs)

noncomputable def code5 : Code := codeOf Try.f5
theorem body5 : Try.f5.body = some code5 := by kernel_rfl
def spec_SchedStep (kr : Nat → Nat → H → Prop) (s_1 : Int) (s_2 : Int) (s_3 : Option Addr) (s_l3 : Nat) (s_c3 : Nat) (s_4 : Option Addr) (s_l4 : Nat) (s_c4 : Nat) (op_5 : Int) (op_6 : Int) (op_7 : Int) (h : H) : Prop :=
  new h [.int .i64 s_1, .int .i64 s_2, .slice s_3 s_l3 s_c3, .slice s_4 s_l4 s_c4] 32 fun b8 h =>
  new h [.int .i64 op_5, .int .i64 op_6, .int .i64 op_7] 38 fun b9 h =>
  new h [.int .i64 0, .int .i64 0, .slice none 0 0, .slice none 0 0] 32 fun b10 h =>
  new h [.int .i64 0, .int .i64 0] 34 fun b11 h =>
  ldRow h b8 0 0 [.int .i64, .int .i64, .slice, .slice] fun n12 n13 a14 l14 c14 a15 l15 c15 =>
  callK Try.prog 15 ⟨[.agg ⟨[.int .i64 n12, .int .i64 n13, .slice a14 l14 c14, .slice a15 l15 c15]⟩]⟩ h fun v16 h =>
  asB v16 fun t17 =>
  ifB (!t17)
  (stRow h b10 0 0 [.int .i64 0, .int .i64 0, .slice none 0 0, .slice none 0 0] fun h =>
  stRow h b11 0 0 [.int .i64 0, .int .i64 0] fun h =>
  kr b10 b11 h)
  (ldRow h b8 0 0 [.int .i64, .int .i64, .slice, .slice] fun n18 n19 a20 l20 c20 a21 l21 c21 =>
  ldRow h b9 0 0 [.int .i64, .int .i64, .int .i64] fun n22 n23 n24 =>
  callK Try.prog 17 ⟨[.agg ⟨[.int .i64 n18, .int .i64 n19, .slice a20 l20 c20, .slice a21 l21 c21]⟩]⟩ h fun v25 h =>
  elF False (.agg [.int .i64, .int .i64, .slice, .slice]) v25 fun n26 n27 a28 l28 c28 a29 l29 c29 =>
  heldRow h b9 0 0 [.int .i64 n22, .int .i64 n23, .int .i64 n24] (callK Try.prog 16 ⟨[.agg ⟨[.int .i64 n26, .int .i64 n27, .slice a28 l28 c28, .slice a29 l29 c29]⟩, .agg ⟨[.int .i64 n22, .int .i64 n23, .int .i64 n24]⟩]⟩ h fun v30 h =>
  elF False (.tuple [.agg [.int .i64, .int .i64, .slice, .slice], .agg [.int .i64, .int .i64]]) v30 fun n31 n32 a33 l33 c33 a34 l34 c34 n35 n36 =>
  stRow h b10 0 0 [.int .i64 n31, .int .i64 n32, .slice a33 l33 c33, .slice a34 l34 c34] fun h =>
  stRow h b11 0 0 [.int .i64 n35, .int .i64 n36] fun h =>
  kr b10 b11 h))

theorem spec_SchedStep_eq (K : Cont) (s_1 : Int) (s_2 : Int) (s_3 : Option Addr) (s_l3 : Nat) (s_c3 : Nat) (s_4 : Option Addr) (s_l4 : Nat) (s_c4 : Nat) (op_5 : Int) (op_6 : Int) (op_7 : Int) (h : H) :
  spec_SchedStep (curV [(4, .blk), (5, .blk)] (K .ret)) s_1 s_2 s_3 s_l3 s_c3 s_4 s_l4 s_c4 op_5 op_6 op_7 h = evC Try.prog 17 [] [] code5 [(0, .agg ⟨[.int .i64 s_1, .int .i64 s_2, .slice s_3 s_l3 s_c3, .slice s_4 s_l4 s_c4]⟩), (1, .agg ⟨[.int .i64 op_5, .int .i64 op_6, .int .i64 op_7]⟩)] h (outsOf none [] (some [(4, .blk), (5, .blk)]) K).K := by kernel_rfl

def spec_SchedStep_F : PT := mkF [(0, .agg [.int .i64, .int .i64, .slice, .slice]), (1, .agg [.int .i64, .int .i64, .int .i64])] fun K => spec_SchedStep (curV [(4, .blk), (5, .blk)] (K .ret))

theorem spec_SchedStep_V : Valid Try.prog 17 code5 spec_SchedStep_F :=
  piece mixed rows_nil (fun K => by intro s_1 s_2 s_3 s_l3 s_c3 s_4 s_l4 s_c4 op_5 op_6 op_7 h hd; exact (spec_SchedStep_eq K s_1 s_2 s_3 s_l3 s_c3 s_4 s_l4 s_c4 op_5 op_6 op_7 h) ▸ hd)

theorem spec_SchedStep_c0 (s_1 : Int) (s_2 : Int) (s_3 : Option Addr) (s_l3 : Nat) (s_c3 : Nat) (s_4 : Option Addr) (s_l4 : Nat) (s_c4 : Nat) (op_5 : Int) (op_6 : Int) (op_7 : Int) (h : H) (K : Value → H → Prop) :
  spec_SchedStep (fun b100001 b100002 h =>
  ldRow h b100001 0 0 [.int .i64, .int .i64, .slice, .slice] fun n100003 n100004 a100005 l100005 c100005 a100006 l100006 c100006 =>
  ldRow h b100002 0 0 [.int .i64, .int .i64] fun n100007 n100008 =>
  K (.tuple ⟨[.agg ⟨[.int .i64 n100003, .int .i64 n100004, .slice a100005 l100005 c100005, .slice a100006 l100006 c100006]⟩, .agg ⟨[.int .i64 n100007, .int .i64 n100008]⟩]⟩) h) s_1 s_2 s_3 s_l3 s_c3 s_4 s_l4 s_c4 op_5 op_6 op_7 h = callF Try.prog Try.f5.results.toList spec_SchedStep_F [.agg ⟨[.int .i64 s_1, .int .i64 s_2, .slice s_3 s_l3 s_c3, .slice s_4 s_l4 s_c4]⟩, .agg ⟨[.int .i64 op_5, .int .i64 op_6, .int .i64 op_7]⟩] h K := by kernel_rfl

theorem spec_SchedStep_call {s_1 : Int} {s_2 : Int} {s_3 : Option Addr} {s_l3 : Nat} {s_c3 : Nat} {s_4 : Option Addr} {s_l4 : Nat} {s_c4 : Nat} {op_5 : Int} {op_6 : Int} {op_7 : Int} {h : H} {K : Value → H → Prop} (hs : spec_SchedStep (fun b100001 b100002 h =>
  ldRow h b100001 0 0 [.int .i64, .int .i64, .slice, .slice] fun n100003 n100004 a100005 l100005 c100005 a100006 l100006 c100006 =>
  ldRow h b100002 0 0 [.int .i64, .int .i64] fun n100007 n100008 =>
  K (.tuple ⟨[.agg ⟨[.int .i64 n100003, .int .i64 n100004, .slice a100005 l100005 c100005, .slice a100006 l100006 c100006]⟩, .agg ⟨[.int .i64 n100007, .int .i64 n100008]⟩]⟩) h) s_1 s_2 s_3 s_l3 s_c3 s_4 s_l4 s_c4 op_5 op_6 op_7 h) : callK Try.prog 5 ⟨[.agg ⟨[.int .i64 s_1, .int .i64 s_2, .slice s_3 s_l3 s_c3, .slice s_4 s_l4 s_c4]⟩, .agg ⟨[.int .i64 op_5, .int .i64 op_6, .int .i64 op_7]⟩]⟩ h K :=
  func_calls Try.func5 body5 spec_SchedStep_V (Nat.le_of_ble_eq_true (by kernel_rfl)) (spec_SchedStep_c0 s_1 s_2 s_3 s_l3 s_c3 s_4 s_l4 s_c4 op_5 op_6 op_7 h K ▸ hs)

def spec_SchedStep_M (kr : Int → Int → Option Addr → Nat → Nat → Option Addr → Nat → Nat → Int → Int → H → Prop) (s_1 : Int) (s_2 : Int) (s_3 : Option Addr) (s_l3 : Nat) (s_c3 : Nat) (s_4 : Option Addr) (s_l4 : Nat) (s_c4 : Nat) (op_5 : Int) (op_6 : Int) (op_7 : Int) (h : H) : Prop :=
  callD Try.prog 15 ⟨[.agg ⟨[.int .i64 s_1, .int .i64 s_2, .slice s_3 s_l3 s_c3, .slice s_4 s_l4 s_c4]⟩]⟩ h fun v8 h =>
  asB v8 fun t9 =>
  ifB (!t9)
  (kr 0 0 none 0 0 none 0 0 0 0 h)
  (callD Try.prog 17 ⟨[.agg ⟨[.int .i64 s_1, .int .i64 s_2, .slice s_3 s_l3 s_c3, .slice s_4 s_l4 s_c4]⟩]⟩ h fun v10 h =>
  elF False (.agg [.int .i64, .int .i64, .slice, .slice]) v10 fun n11 n12 a13 l13 c13 a14 l14 c14 =>
  callD Try.prog 16 ⟨[.agg ⟨[.int .i64 n11, .int .i64 n12, .slice a13 l13 c13, .slice a14 l14 c14]⟩, .agg ⟨[.int .i64 op_5, .int .i64 op_6, .int .i64 op_7]⟩]⟩ h fun v15 h =>
  elF False (.tuple [.agg [.int .i64, .int .i64, .slice, .slice], .agg [.int .i64, .int .i64]]) v15 fun n16 n17 a18 l18 c18 a19 l19 c19 n20 n21 =>
  kr n16 n17 a18 l18 c18 a19 l19 c19 n20 n21 h)

theorem spec_SchedStep_M_D {g0 m0 : H} {kr_1 : Nat → Nat → H → Prop} {kr_2 : Int → Int → Option Addr → Nat → Nat → Option Addr → Nat → Nat → Int → Int → H → Prop} (Hkr : ∀ (n200001 : Int) (n200002 : Int) (a200003 : Option Addr) (l200003 : Nat) (c200003 : Nat) (a200004 : Option Addr) (l200004 : Nat) (c200004 : Nat) (n200006 : Int) (n200007 : Int) (p200005 : Nat) (p200008 : Nat) (g m : H), Md g0 m0 g m [lo p200005 [.int .i64 n200001, .int .i64 n200002, .slice a200003 l200003 c200003, .slice a200004 l200004 c200004], lo p200008 [.int .i64 n200006, .int .i64 n200007]] → kr_2 n200001 n200002 a200003 l200003 c200003 a200004 l200004 c200004 n200006 n200007 m → kr_1 p200005 p200008 g) : ∀ (s_1001 : Int) (s_1002 : Int) (s_1003 : Option Addr) (s_l1003 : Nat) (s_c1003 : Nat) (s_1004 : Option Addr) (s_l1004 : Nat) (s_c1004 : Nat) (op_1005 : Int) (op_1006 : Int) (op_1007 : Int) (g m : H), Md g0 m0 g m [] → spec_SchedStep_M kr_2 s_1001 s_1002 s_1003 s_l1003 s_c1003 s_1004 s_l1004 s_c1004 op_1005 op_1006 op_1007 m → spec_SchedStep kr_1 s_1001 s_1002 s_1003 s_l1003 s_c1003 s_1004 s_l1004 s_c1004 op_1005 op_1006 op_1007 g := by
  intro s_1001 s_1002 s_1003 s_l1003 s_c1003 s_1004 s_l1004 s_c1004 op_1005 op_1006 op_1007 g m R
  rw [spec_SchedStep_M, spec_SchedStep]
  exact (p_new R fun p1008 g R =>
  (p_new R fun p1009 g R =>
  (p_new R fun p1010 g R =>
  (p_new R fun p1011 g R =>
  (p_row_I2L2 R rfl rfl rfl rfl (d_call R fun v1012 g m R =>
  (d_asB fun t1013 =>
  (d_if (p_stRow R (cs' := [.int .i64 0, .int .i64 0, .slice none 0 0, .slice none 0 0]) ⟨rfl, rfl, rfl⟩ fun g R =>
  (p_stRow R (cs' := [.int .i64 0, .int .i64 0]) ⟨rfl, rfl, rfl⟩ fun g R =>
  (Hkr 0 0 none 0 0 none 0 0 0 0 p1010 p1011 _ _ R.sub)))
  (p_row_I2L2 R rfl rfl rfl rfl (p_row_I3 R rfl rfl rfl (d_call R fun v1014 g m R =>
  (d_el_AI2L2E fun n1015 n1016 a1017 l1017 c1017 a1018 l1018 c1018 =>
  (p_held R rfl (d_call R fun v1019 g m R =>
  (d_el_TAI2L2EAI2EE fun n1020 n1021 a1022 l1022 c1022 a1023 l1023 c1023 n1024 n1025 =>
  (p_stRow R (cs' := [.int .i64 n1020, .int .i64 n1021, .slice a1022 l1022 c1022, .slice a1023 l1023 c1023]) ⟨rfl, rfl, rfl⟩ fun g R =>
  (p_stRow R (cs' := [.int .i64 n1024, .int .i64 n1025]) ⟨rfl, rfl, rfl⟩ fun g R =>
  (Hkr n1020 n1021 a1022 l1022 c1022 a1023 l1023 c1023 n1024 n1025 p1010 p1011 _ _ R.sub))))))))))))))))))

theorem spec_SchedStep_M_call {s_1 : Int} {s_2 : Int} {s_3 : Option Addr} {s_l3 : Nat} {s_c3 : Nat} {s_4 : Option Addr} {s_l4 : Nat} {s_c4 : Nat} {op_5 : Int} {op_6 : Int} {op_7 : Int} {h : H} {K : Value → H → Prop} (hs : spec_SchedStep_M (fun n300001 n300002 a300003 l300003 c300003 a300004 l300004 c300004 n300006 n300007 h =>
  K (.tuple ⟨[.agg ⟨[.int .i64 n300001, .int .i64 n300002, .slice a300003 l300003 c300003, .slice a300004 l300004 c300004]⟩, .agg ⟨[.int .i64 n300006, .int .i64 n300007]⟩]⟩) h) s_1 s_2 s_3 s_l3 s_c3 s_4 s_l4 s_c4 op_5 op_6 op_7 h) : callD Try.prog 5 ⟨[.agg ⟨[.int .i64 s_1, .int .i64 s_2, .slice s_3 s_l3 s_c3, .slice s_4 s_l4 s_c4]⟩, .agg ⟨[.int .i64 op_5, .int .i64 op_6, .int .i64 op_7]⟩]⟩ h K :=
  fun g r => spec_SchedStep_call (spec_SchedStep_M_D (by exact fun n300001 n300002 a300003 l300003 c300003 a300004 l300004 c300004 n300006 n300007 p300005 p300008 g m R =>
(p_row_I2L2 R rfl rfl rfl rfl (p_row_I2 R rfl rfl (fun h => ⟨m, R.af, h⟩)))) _ _ _ _ _ _ _ _ _ _ _ _ _ (Md.start r) hs)

noncomputable def code6 : Code := codeOf Try.f6
theorem body6 : Try.f6.body = some code6 := by kernel_rfl
def laws_toSched (kr : Nat → H → Prop) (a_1 : Int) (a_2 : Int) (a_3 : Option Addr) (a_l3 : Nat) (a_c3 : Nat) (a_4 : Option Addr) (a_l4 : Nat) (a_c4 : Nat) (h : H) : Prop :=
  new h [.int .i64 a_1, .int .i64 a_2, .slice a_3 a_l3 a_c3, .slice a_4 a_l4 a_c4] 25 fun b5 h =>
  new h [.int .i64 0, .int .i64 0, .slice none 0 0, .slice none 0 0] 32 fun b6 h =>
  new h [.int .i64 0, .int .i64 0, .slice none 0 0, .slice none 0 0] 32 fun b7 h =>
  ldI .i64 h b5 0 fun n8 =>
  st h b7 0 (.int .i64 n8) fun h =>
  ldI .i64 h b5 1 fun n9 =>
  st h b7 1 (.int .i64 n9) fun h =>
  ldL h b5 2 fun a10 l10 c10 =>
  callK Try.prog 18 ⟨[.slice a10 l10 c10]⟩ h fun v11 h =>
  asL v11 fun a12 l12 c12 =>
  st h b7 2 (.slice a12 l12 c12) fun h =>
  ldL h b5 3 fun a13 l13 c13 =>
  callK Try.prog 19 ⟨[.slice a13 l13 c13]⟩ h fun v14 h =>
  asL v14 fun a15 l15 c15 =>
  st h b7 3 (.slice a15 l15 c15) fun h =>
  ldRow h b7 0 0 [.int .i64, .int .i64, .slice, .slice] fun n16 n17 a18 l18 c18 a19 l19 c19 =>
  stRow h b6 0 0 [.int .i64 n16, .int .i64 n17, .slice a18 l18 c18, .slice a19 l19 c19] fun h =>
  kr b6 h

theorem laws_toSched_eq (K : Cont) (a_1 : Int) (a_2 : Int) (a_3 : Option Addr) (a_l3 : Nat) (a_c3 : Nat) (a_4 : Option Addr) (a_l4 : Nat) (a_c4 : Nat) (h : H) :
  laws_toSched (curV [(2, .blk)] (K .ret)) a_1 a_2 a_3 a_l3 a_c3 a_4 a_l4 a_c4 h = evC Try.prog 19 [] [] code6 [(0, .agg ⟨[.int .i64 a_1, .int .i64 a_2, .slice a_3 a_l3 a_c3, .slice a_4 a_l4 a_c4]⟩)] h (outsOf none [] (some [(2, .blk)]) K).K := by kernel_rfl

def laws_toSched_F : PT := mkF [(0, .agg [.int .i64, .int .i64, .slice, .slice])] fun K => laws_toSched (curV [(2, .blk)] (K .ret))

theorem laws_toSched_V : Valid Try.prog 19 code6 laws_toSched_F :=
  piece mixed rows_nil (fun K => by intro a_1 a_2 a_3 a_l3 a_c3 a_4 a_l4 a_c4 h hd; exact (laws_toSched_eq K a_1 a_2 a_3 a_l3 a_c3 a_4 a_l4 a_c4 h) ▸ hd)

theorem laws_toSched_c0 (a_1 : Int) (a_2 : Int) (a_3 : Option Addr) (a_l3 : Nat) (a_c3 : Nat) (a_4 : Option Addr) (a_l4 : Nat) (a_c4 : Nat) (h : H) (K : Value → H → Prop) :
  laws_toSched (fun b100001 h =>
  ldRow h b100001 0 0 [.int .i64, .int .i64, .slice, .slice] fun n100002 n100003 a100004 l100004 c100004 a100005 l100005 c100005 =>
  K (.agg ⟨[.int .i64 n100002, .int .i64 n100003, .slice a100004 l100004 c100004, .slice a100005 l100005 c100005]⟩) h) a_1 a_2 a_3 a_l3 a_c3 a_4 a_l4 a_c4 h = callF Try.prog Try.f6.results.toList laws_toSched_F [.agg ⟨[.int .i64 a_1, .int .i64 a_2, .slice a_3 a_l3 a_c3, .slice a_4 a_l4 a_c4]⟩] h K := by kernel_rfl

theorem laws_toSched_call {a_1 : Int} {a_2 : Int} {a_3 : Option Addr} {a_l3 : Nat} {a_c3 : Nat} {a_4 : Option Addr} {a_l4 : Nat} {a_c4 : Nat} {h : H} {K : Value → H → Prop} (hs : laws_toSched (fun b100001 h =>
  ldRow h b100001 0 0 [.int .i64, .int .i64, .slice, .slice] fun n100002 n100003 a100004 l100004 c100004 a100005 l100005 c100005 =>
  K (.agg ⟨[.int .i64 n100002, .int .i64 n100003, .slice a100004 l100004 c100004, .slice a100005 l100005 c100005]⟩) h) a_1 a_2 a_3 a_l3 a_c3 a_4 a_l4 a_c4 h) : callK Try.prog 6 ⟨[.agg ⟨[.int .i64 a_1, .int .i64 a_2, .slice a_3 a_l3 a_c3, .slice a_4 a_l4 a_c4]⟩]⟩ h K :=
  func_calls Try.func6 body6 laws_toSched_V (Nat.le_of_ble_eq_true (by kernel_rfl)) (laws_toSched_c0 a_1 a_2 a_3 a_l3 a_c3 a_4 a_l4 a_c4 h K ▸ hs)

def laws_toSched_M (kr : Int → Int → Option Addr → Nat → Nat → Option Addr → Nat → Nat → H → Prop) (a_1 : Int) (a_2 : Int) (a_3 : Option Addr) (a_l3 : Nat) (a_c3 : Nat) (a_4 : Option Addr) (a_l4 : Nat) (a_c4 : Nat) (h : H) : Prop :=
  callD Try.prog 18 ⟨[.slice a_3 a_l3 a_c3]⟩ h fun v5 h =>
  asL v5 fun a6 l6 c6 =>
  callD Try.prog 19 ⟨[.slice a_4 a_l4 a_c4]⟩ h fun v7 h =>
  asL v7 fun a8 l8 c8 =>
  kr a_1 a_2 a6 l6 c6 a8 l8 c8 h

theorem laws_toSched_M_D {g0 m0 : H} {kr_1 : Nat → H → Prop} {kr_2 : Int → Int → Option Addr → Nat → Nat → Option Addr → Nat → Nat → H → Prop} (Hkr : ∀ (n200001 : Int) (n200002 : Int) (a200003 : Option Addr) (l200003 : Nat) (c200003 : Nat) (a200004 : Option Addr) (l200004 : Nat) (c200004 : Nat) (p200005 : Nat) (g m : H), Md g0 m0 g m [lo p200005 [.int .i64 n200001, .int .i64 n200002, .slice a200003 l200003 c200003, .slice a200004 l200004 c200004]] → kr_2 n200001 n200002 a200003 l200003 c200003 a200004 l200004 c200004 m → kr_1 p200005 g) : ∀ (a_1001 : Int) (a_1002 : Int) (a_1003 : Option Addr) (a_l1003 : Nat) (a_c1003 : Nat) (a_1004 : Option Addr) (a_l1004 : Nat) (a_c1004 : Nat) (g m : H), Md g0 m0 g m [] → laws_toSched_M kr_2 a_1001 a_1002 a_1003 a_l1003 a_c1003 a_1004 a_l1004 a_c1004 m → laws_toSched kr_1 a_1001 a_1002 a_1003 a_l1003 a_c1003 a_1004 a_l1004 a_c1004 g := by
  intro a_1001 a_1002 a_1003 a_l1003 a_c1003 a_1004 a_l1004 a_c1004 g m R
  rw [laws_toSched_M, laws_toSched]
  exact (p_new R fun p1005 g R =>
  (p_new R fun p1006 g R =>
  (p_new R fun p1007 g R =>
  (p_ldI R rfl (p_st R (cs' := [.int .i64 a_1001, .int .i64 0, .slice none 0 0, .slice none 0 0]) ⟨rfl, rfl⟩ fun g R =>
  (p_ldI R rfl (p_st R (cs' := [.int .i64 a_1001, .int .i64 a_1002, .slice none 0 0, .slice none 0 0]) ⟨rfl, rfl⟩ fun g R =>
  (p_ldL R rfl (d_call R fun v1008 g m R =>
  (d_asL fun a1009 l1009 c1009 =>
  (p_st R (cs' := [.int .i64 a_1001, .int .i64 a_1002, .slice a1009 l1009 c1009, .slice none 0 0]) ⟨rfl, rfl⟩ fun g R =>
  (p_ldL R rfl (d_call R fun v1010 g m R =>
  (d_asL fun a1011 l1011 c1011 =>
  (p_st R (cs' := [.int .i64 a_1001, .int .i64 a_1002, .slice a1009 l1009 c1009, .slice a1011 l1011 c1011]) ⟨rfl, rfl⟩ fun g R =>
  (p_row_I2L2 R rfl rfl rfl rfl (p_stRow R (cs' := [.int .i64 a_1001, .int .i64 a_1002, .slice a1009 l1009 c1009, .slice a1011 l1011 c1011]) ⟨rfl, rfl, rfl⟩ fun g R =>
  (Hkr a_1001 a_1002 a1009 l1009 c1009 a1011 l1011 c1011 p1006 _ _ R.sub))))))))))))))))))

theorem laws_toSched_M_call {a_1 : Int} {a_2 : Int} {a_3 : Option Addr} {a_l3 : Nat} {a_c3 : Nat} {a_4 : Option Addr} {a_l4 : Nat} {a_c4 : Nat} {h : H} {K : Value → H → Prop} (hs : laws_toSched_M (fun n300001 n300002 a300003 l300003 c300003 a300004 l300004 c300004 h =>
  K (.agg ⟨[.int .i64 n300001, .int .i64 n300002, .slice a300003 l300003 c300003, .slice a300004 l300004 c300004]⟩) h) a_1 a_2 a_3 a_l3 a_c3 a_4 a_l4 a_c4 h) : callD Try.prog 6 ⟨[.agg ⟨[.int .i64 a_1, .int .i64 a_2, .slice a_3 a_l3 a_c3, .slice a_4 a_l4 a_c4]⟩]⟩ h K :=
  fun g r => laws_toSched_call (laws_toSched_M_D (by exact fun n300001 n300002 a300003 l300003 c300003 a300004 l300004 c300004 p300005 g m R =>
(p_row_I2L2 R rfl rfl rfl rfl (fun h => ⟨m, R.af, h⟩))) _ _ _ _ _ _ _ _ _ _ (Md.start r) hs)

noncomputable def code7 : Code := codeOf Try.f7
theorem body7 : Try.f7.body = some code7 := by kernel_rfl
def laws_toSchedOp (kr : Nat → H → Prop) (a_1 : Int) (a_2 : Int) (a_3 : Int) (h : H) : Prop :=
  new h [.int .i64 a_1, .int .i64 a_2, .int .i64 a_3] 27 fun b4 h =>
  new h [.int .i64 0, .int .i64 0, .int .i64 0] 38 fun b5 h =>
  new h [.int .i64 0, .int .i64 0, .int .i64 0] 38 fun b6 h =>
  ldI .i64 h b4 0 fun n7 =>
  st h b6 0 (.int .i64 n7) fun h =>
  ldI .i64 h b4 1 fun n8 =>
  st h b6 1 (.int .i64 n8) fun h =>
  ldI .i64 h b4 2 fun n9 =>
  st h b6 2 (.int .i64 n9) fun h =>
  ldRow h b6 0 0 [.int .i64, .int .i64, .int .i64] fun n10 n11 n12 =>
  stRow h b5 0 0 [.int .i64 n10, .int .i64 n11, .int .i64 n12] fun h =>
  kr b5 h

theorem laws_toSchedOp_eq (K : Cont) (a_1 : Int) (a_2 : Int) (a_3 : Int) (h : H) :
  laws_toSchedOp (curV [(2, .blk)] (K .ret)) a_1 a_2 a_3 h = evC Try.prog 14 [] [] code7 [(0, .agg ⟨[.int .i64 a_1, .int .i64 a_2, .int .i64 a_3]⟩)] h (outsOf none [] (some [(2, .blk)]) K).K := by kernel_rfl

def laws_toSchedOp_F : PT := mkF [(0, .agg [.int .i64, .int .i64, .int .i64])] fun K => laws_toSchedOp (curV [(2, .blk)] (K .ret))

theorem laws_toSchedOp_V : Valid Try.prog 14 code7 laws_toSchedOp_F :=
  piece mixed rows_nil (fun K => by intro a_1 a_2 a_3 h hd; exact (laws_toSchedOp_eq K a_1 a_2 a_3 h) ▸ hd)

theorem laws_toSchedOp_c0 (a_1 : Int) (a_2 : Int) (a_3 : Int) (h : H) (K : Value → H → Prop) :
  laws_toSchedOp (fun b100001 h =>
  ldRow h b100001 0 0 [.int .i64, .int .i64, .int .i64] fun n100002 n100003 n100004 =>
  K (.agg ⟨[.int .i64 n100002, .int .i64 n100003, .int .i64 n100004]⟩) h) a_1 a_2 a_3 h = callF Try.prog Try.f7.results.toList laws_toSchedOp_F [.agg ⟨[.int .i64 a_1, .int .i64 a_2, .int .i64 a_3]⟩] h K := by kernel_rfl

theorem laws_toSchedOp_call {a_1 : Int} {a_2 : Int} {a_3 : Int} {h : H} {K : Value → H → Prop} (hs : laws_toSchedOp (fun b100001 h =>
  ldRow h b100001 0 0 [.int .i64, .int .i64, .int .i64] fun n100002 n100003 n100004 =>
  K (.agg ⟨[.int .i64 n100002, .int .i64 n100003, .int .i64 n100004]⟩) h) a_1 a_2 a_3 h) : callK Try.prog 7 ⟨[.agg ⟨[.int .i64 a_1, .int .i64 a_2, .int .i64 a_3]⟩]⟩ h K :=
  func_calls Try.func7 body7 laws_toSchedOp_V (Nat.le_of_ble_eq_true (by kernel_rfl)) (laws_toSchedOp_c0 a_1 a_2 a_3 h K ▸ hs)

def laws_toSchedOp_M (kr : Int → Int → Int → H → Prop) (a_1 : Int) (a_2 : Int) (a_3 : Int) (h : H) : Prop :=
  kr a_1 a_2 a_3 h

theorem laws_toSchedOp_M_D {g0 m0 : H} {kr_1 : Nat → H → Prop} {kr_2 : Int → Int → Int → H → Prop} (Hkr : ∀ (n200001 : Int) (n200002 : Int) (n200003 : Int) (p200004 : Nat) (g m : H), Md g0 m0 g m [lo p200004 [.int .i64 n200001, .int .i64 n200002, .int .i64 n200003]] → kr_2 n200001 n200002 n200003 m → kr_1 p200004 g) : ∀ (a_1001 : Int) (a_1002 : Int) (a_1003 : Int) (g m : H), Md g0 m0 g m [] → laws_toSchedOp_M kr_2 a_1001 a_1002 a_1003 m → laws_toSchedOp kr_1 a_1001 a_1002 a_1003 g := by
  intro a_1001 a_1002 a_1003 g m R
  rw [laws_toSchedOp_M, laws_toSchedOp]
  exact (p_new R fun p1004 g R =>
  (p_new R fun p1005 g R =>
  (p_new R fun p1006 g R =>
  (p_ldI R rfl (p_st R (cs' := [.int .i64 a_1001, .int .i64 0, .int .i64 0]) ⟨rfl, rfl⟩ fun g R =>
  (p_ldI R rfl (p_st R (cs' := [.int .i64 a_1001, .int .i64 a_1002, .int .i64 0]) ⟨rfl, rfl⟩ fun g R =>
  (p_ldI R rfl (p_st R (cs' := [.int .i64 a_1001, .int .i64 a_1002, .int .i64 a_1003]) ⟨rfl, rfl⟩ fun g R =>
  (p_row_I3 R rfl rfl rfl (p_stRow R (cs' := [.int .i64 a_1001, .int .i64 a_1002, .int .i64 a_1003]) ⟨rfl, rfl, rfl⟩ fun g R =>
  (Hkr a_1001 a_1002 a_1003 p1005 _ _ R.sub))))))))))))

theorem laws_toSchedOp_M_call {a_1 : Int} {a_2 : Int} {a_3 : Int} {h : H} {K : Value → H → Prop} (hs : laws_toSchedOp_M (fun n300001 n300002 n300003 h =>
  K (.agg ⟨[.int .i64 n300001, .int .i64 n300002, .int .i64 n300003]⟩) h) a_1 a_2 a_3 h) : callD Try.prog 7 ⟨[.agg ⟨[.int .i64 a_1, .int .i64 a_2, .int .i64 a_3]⟩]⟩ h K :=
  fun g r => laws_toSchedOp_call (laws_toSchedOp_M_D (by exact fun n300001 n300002 n300003 p300004 g m R =>
(p_row_I3 R rfl rfl rfl (fun h => ⟨m, R.af, h⟩))) _ _ _ _ _ (Md.start r) hs)

end Go.Proofs.Yteeinamngmmlbaa
