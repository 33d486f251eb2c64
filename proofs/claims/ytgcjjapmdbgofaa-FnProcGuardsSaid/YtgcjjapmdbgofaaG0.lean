import Derived.Test.YtgcjjapmdbgofaaProg
import Derived.Test.YtgcjjapmdbgofaaPm
set_option linter.unusedVariables false
set_option maxRecDepth 100000
namespace Go.Proofs.Ytgcjjapmdbgofaa
open Go.Eng

theorem mixed : Try.prog.follows .mixedOrders = true := by kernel_rfl
noncomputable def code3 : Code := codeOf Try.f3
theorem body3 : Try.f3.body = some code3 := by kernel_rfl
def laws_FnProcGuards_l0 (kx0 : Nat → Nat → Nat → Int → H → Prop) : Nat → Nat → Nat → Nat → Nat → Int → Int → H → Prop
 | 0, _, _, _, _, _, _, _ => False
 | N + 1, b47, b48, b49, b50, n51, n52, h =>
  ldL h b47 0 fun a53 l53 c53 =>
  ifB (decide ((n52 : Int) < (l53 : Nat)))
  (ldL h b47 0 fun a54 l54 c54 =>
  req (0 ≤ (n52 : Int) ∧ (n52 : Int) < (l54 : Nat))
  (nz a54 fun b55 o56 =>
  ldI .i64 h b55 (o56 + n52.toNat * 10) fun n57 =>
  ldI .i64 h b48 1 fun n58 =>
  ifB ((n57 : Int) == n58)
  (ldL h b47 0 fun a59 l59 c59 =>
  req (0 ≤ (n52 : Int) ∧ (n52 : Int) < (l59 : Nat))
  (nz a59 fun b60 o61 =>
  ldI .i64 h b60 ((o61 + n52.toNat * 10) + 3) fun n62 =>
  laws_FnProcGuards_l0 kx0 N b47 b48 b49 b50 n62 (IntKind.i64.wrap (n52 + 1)) h))
  (laws_FnProcGuards_l0 kx0 N b47 b48 b49 b50 n51 (IntKind.i64.wrap (n52 + 1)) h)))
  (kx0 b47 b49 b50 n51 h)

def laws_FnProcGuards_l1 (kx2 : H → Prop) (kr : Bool → H → Prop) : Nat → Nat → Nat → Nat → Int → Int → H → Prop
 | 0, _, _, _, _, _, _ => False
 | N + 1, b67, b68, b69, n70, n71, h =>
  ldL h b67 0 fun a72 l72 c72 =>
  ifB (decide ((n71 : Int) < (l72 : Nat)))
  (ldL h b67 0 fun a73 l73 c73 =>
  req (0 ≤ (n71 : Int) ∧ (n71 : Int) < (l73 : Nat))
  (nz a73 fun b74 o75 =>
  ldRow h b74 (o75 + n71.toNat * 10) 0 [.int .i64, .int .i64, .int .i64, .int .i64, .int .i64, .int .i64, .int .i64, .int .i64, .int .i64, .int .i64] fun n76 n77 n78 n79 n80 n81 n82 n83 n84 n85 =>
  ldL h b68 0 fun a86 l86 c86 =>
  req (0 ≤ (n71 : Int) ∧ (n71 : Int) < (l86 : Nat))
  (nz a86 fun b87 o88 =>
  ldRow h b87 (o88 + n71.toNat * 10) 0 [.int .i64, .int .i64, .int .i64, .int .i64, .int .i64, .int .i64, .int .i64, .int .i64, .int .i64, .int .i64] fun n89 n90 n91 n92 n93 n94 n95 n96 n97 n98 =>
  ifB (!(((n76 : Int) == n89) && (((n77 : Int) == n90) && (((n78 : Int) == n91) && (((n79 : Int) == n92) && (((n80 : Int) == n93) && (((n81 : Int) == n94) && (((n82 : Int) == n95) && (((n83 : Int) == n96) && (((n84 : Int) == n97) && (((n85 : Int) == n98) && (true))))))))))))
  (ldI .i64 h b69 0 fun n99 =>
  ifB ((n99 : Int) != 0)
  (kr false h)
  (ifB ((n70 : Int) != 0)
  (ldL h b67 0 fun a100 l100 c100 =>
  req (0 ≤ (n71 : Int) ∧ (n71 : Int) < (l100 : Nat))
  (nz a100 fun b101 o102 =>
  ldI .i64 h b101 ((o102 + n71.toNat * 10) + 3) fun n103 =>
  ifB ((n103 : Int) != n70)
  (kr false h)
  (laws_FnProcGuards_l1 kx2 kr N b67 b68 b69 n70 (IntKind.i64.wrap (n71 + 1)) h)))
  (laws_FnProcGuards_l1 kx2 kr N b67 b68 b69 n70 (IntKind.i64.wrap (n71 + 1)) h)))
  (laws_FnProcGuards_l1 kx2 kr N b67 b68 b69 n70 (IntKind.i64.wrap (n71 + 1)) h))))
  (kx2 h)

def laws_FnProcGuards (kr : Bool → H → Prop) (a1 : Option Addr) (l1 : Nat) (c1 : Nat) (h : H) : Prop :=
  callK Try.prog 5 ⟨[.slice a1 l1 c1]⟩ h fun v2 h =>
  asB v2 fun t3 =>
  ifB t3
  (kr true h)
  (callK Try.prog 7 ⟨[]⟩ h fun v4 h =>
  elF False (.agg [.slice]) v4 fun a5 l5 c5 =>
  callK Try.prog 6 ⟨[.agg ⟨[.slice a5 l5 c5]⟩]⟩ h fun v6 h =>
  asB v6 fun t7 =>
  ifB (!t7)
  (kr false h)
  (callK Try.prog 8 ⟨[.slice a1 l1 c1]⟩ h fun v8 h =>
  elF False (.tuple [.agg [.slice], .agg [.int .i64, .int .i64, .int .i64, .int .i64]]) v8 fun a9 l9 c9 n10 n11 n12 n13 =>
  new h [.slice none 0 0] 27 fun b14 h =>
  new h [.int .i64 0, .int .i64 0, .int .i64 0, .int .i64 0] 30 fun b15 h =>
  stRow h b14 0 0 [.slice a9 l9 c9] fun h =>
  stRow h b15 0 0 [.int .i64 n10, .int .i64 n11, .int .i64 n12, .int .i64 n13] fun h =>
  ldRow h b14 0 0 [.slice] fun a16 l16 c16 =>
  callK Try.prog 9 ⟨[.agg ⟨[.slice a16 l16 c16]⟩]⟩ h fun v17 h =>
  asB v17 fun t18 =>
  ifB (!t18)
  (kr true h)
  (st h b15 0 (.int .i64 4) fun h =>
  ldRow h b14 0 0 [.slice] fun a19 l19 c19 =>
  ldRow h b15 0 0 [.int .i64, .int .i64, .int .i64, .int .i64] fun n20 n21 n22 n23 =>
  callK Try.prog 10 ⟨[.agg ⟨[.slice a19 l19 c19]⟩, .agg ⟨[.int .i64 n20, .int .i64 n21, .int .i64 n22, .int .i64 n23]⟩]⟩ h fun v24 h =>
  elF False (.tuple [.agg [.slice], .agg [.int .i64, .int .i64, .int .i64]]) v24 fun a25 l25 c25 n26 n27 n28 =>
  new h [.slice none 0 0] 27 fun b29 h =>
  new h [.int .i64 0, .int .i64 0, .int .i64 0] 34 fun b30 h =>
  stRow h b29 0 0 [.slice a25 l25 c25] fun h =>
  stRow h b30 0 0 [.int .i64 n26, .int .i64 n27, .int .i64 n28] fun h =>
  ldL h b29 0 fun a31 l31 c31 =>
  ldL h b14 0 fun a32 l32 c32 =>
  ifB (((l31 : Nat) : Int) != (l32 : Nat))
  (kr false h)
  (ldRow h b14 0 0 [.slice] fun a33 l33 c33 =>
  ldRow h b15 0 0 [.int .i64, .int .i64, .int .i64, .int .i64] fun n34 n35 n36 n37 =>
  callK Try.prog 11 ⟨[.agg ⟨[.slice a33 l33 c33]⟩, .agg ⟨[.int .i64 n34, .int .i64 n35, .int .i64 n36, .int .i64 n37]⟩]⟩ h fun v38 h =>
  elF False (.tuple [.agg [.slice], .agg [.int .i64, .int .i64, .int .i64]]) v38 fun a39 l39 c39 n40 n41 n42 =>
  new h [.slice none 0 0] 27 fun b43 h =>
  new h [.int .i64 0, .int .i64 0, .int .i64 0] 34 fun b44 h =>
  stRow h b43 0 0 [.slice a39 l39 c39] fun h =>
  stRow h b44 0 0 [.int .i64 n40, .int .i64 n41, .int .i64 n42] fun h =>
  ldI .i64 h b30 0 fun n45 =>
  ldI .i64 h b44 0 fun n46 =>
  ifB ((n45 : Int) != n46)
  (kr false h)
  (∃ M52, laws_FnProcGuards_l0 (fun b47 b48 b49 n50 h =>
  ∃ M51, laws_FnProcGuards_l1 (fun h =>
  kr true h) kr M51 b47 b48 b49 n50 0 h) M52 b14 b15 b29 b30 (-1) 0 h)))))

theorem laws_FnProcGuards_l0_eq (K : Cont) (N : Nat) (b47 : Nat) (b48 : Nat) (b49 : Nat) (b50 : Nat) (n51 : Int) (n52 : Int) (h : H) :
  laws_FnProcGuards_l0 (curV [(3, .blk), (5, .blk), (6, .blk), (9, .int .i64)] (K (.exit 0))) (N + 1) b47 b48 b49 b50 n51 n52 h = evC Try.prog 109 [] [] (sub code3 [true, true, true, true, true, true, true, true, true, true, false, true, false, false]) [(3, .pointer (some ⟨b47, 0, none⟩)), (4, .pointer (some ⟨b48, 0, none⟩)), (5, .pointer (some ⟨b49, 0, none⟩)), (6, .pointer (some ⟨b50, 0, none⟩)), (9, .int .i64 n51), (10, .int .i64 n52)] h ((outsOf none [(0, [(3, .blk), (5, .blk), (6, .blk), (9, .int .i64)])] none K).loop [(3, .blk), (4, .blk), (5, .blk), (6, .blk), (9, .int .i64), (10, .int .i64)] (laws_FnProcGuards_l0 (curV [(3, .blk), (5, .blk), (6, .blk), (9, .int .i64)] (K (.exit 0))) N)).K := by kernel_rfl

def laws_FnProcGuards_l0_F : PT := mkL [(3, .blk), (4, .blk), (5, .blk), (6, .blk), (9, .int .i64), (10, .int .i64)] fun K N => laws_FnProcGuards_l0 (curV [(3, .blk), (5, .blk), (6, .blk), (9, .int .i64)] (K (.exit 0))) N

theorem laws_FnProcGuards_l0_V : Valid Try.prog 109 (sub code3 [true, true, true, true, true, true, true, true, true, true, false, true, false]) laws_FnProcGuards_l0_F :=
  loop_at (code3) [true, true, true, true, true, true, true, true, true, true, false, true, false] (loop_piece (c := (sub code3 [true, true, true, true, true, true, true, true, true, true, false, true, false, false])) mixed rows_nil (fun K => by intro b47 b48 b49 b50 n51 n52 h hd; exact hd) (fun K N => by intro b47 b48 b49 b50 n51 n52 h hd; exact (laws_FnProcGuards_l0_eq K N b47 b48 b49 b50 n51 n52 h) ▸ hd))

theorem laws_FnProcGuards_l1_eq (K : Cont) (N : Nat) (b67 : Nat) (b68 : Nat) (b69 : Nat) (n70 : Int) (n71 : Int) (h : H) :
  laws_FnProcGuards_l1 (curV [] (K (.exit 2))) (curV [(2, .bool)] (K .ret)) (N + 1) b67 b68 b69 n70 n71 h = evC Try.prog 109 [] [] (sub code3 [true, true, true, true, true, true, true, true, true, true, true, false, true, false, false]) [(3, .pointer (some ⟨b67, 0, none⟩)), (5, .pointer (some ⟨b68, 0, none⟩)), (6, .pointer (some ⟨b69, 0, none⟩)), (9, .int .i64 n70), (11, .int .i64 n71)] h ((outsOf none [(2, [])] (some [(2, .bool)]) K).loop [(3, .blk), (5, .blk), (6, .blk), (9, .int .i64), (11, .int .i64)] (laws_FnProcGuards_l1 (curV [] (K (.exit 2))) (curV [(2, .bool)] (K .ret)) N)).K := by kernel_rfl

def laws_FnProcGuards_l1_F : PT := mkL [(3, .blk), (5, .blk), (6, .blk), (9, .int .i64), (11, .int .i64)] fun K N => laws_FnProcGuards_l1 (curV [] (K (.exit 2))) (curV [(2, .bool)] (K .ret)) N

theorem laws_FnProcGuards_l1_V : Valid Try.prog 109 (sub code3 [true, true, true, true, true, true, true, true, true, true, true, false, true, false]) laws_FnProcGuards_l1_F :=
  loop_at (code3) [true, true, true, true, true, true, true, true, true, true, true, false, true, false] (loop_piece (c := (sub code3 [true, true, true, true, true, true, true, true, true, true, true, false, true, false, false])) mixed rows_nil (fun K => by intro b67 b68 b69 n70 n71 h hd; exact hd) (fun K N => by intro b67 b68 b69 n70 n71 h hd; exact (laws_FnProcGuards_l1_eq K N b67 b68 b69 n70 n71 h) ▸ hd))

theorem laws_FnProcGuards_eq (K : Cont) (a1 : Option Addr) (l1 : Nat) (c1 : Nat) (h : H) :
  laws_FnProcGuards (curV [(2, .bool)] (K .ret)) a1 l1 c1 h = evC Try.prog 109 [([false, false, true, false, true, true, true, true, true, true, true, true, true, true], laws_FnProcGuards_l0_F), ([false, false, true, false, true, true, true, true, true, true, true, true, true, true, true], laws_FnProcGuards_l1_F)] [] code3 [(0, .slice a1 l1 c1)] h (outsOf none [] (some [(2, .bool)]) K).K := by kernel_rfl

def laws_FnProcGuards_F : PT := mkF [(0, .slice)] fun K => laws_FnProcGuards (curV [(2, .bool)] (K .ret))

theorem laws_FnProcGuards_V : Valid Try.prog 109 code3 laws_FnProcGuards_F :=
  piece mixed (rows_cons (q' := [true, true, true, true, true, true, true, true, true, true, false, true, false]) laws_FnProcGuards_l0_V rfl (rows_cons (q' := [true, true, true, true, true, true, true, true, true, true, true, false, true, false]) laws_FnProcGuards_l1_V rfl rows_nil)) (fun K => by intro a1 l1 c1 h hd; exact (laws_FnProcGuards_eq K a1 l1 c1 h) ▸ hd)

theorem laws_FnProcGuards_c0 (a1 : Option Addr) (l1 : Nat) (c1 : Nat) (h : H) (K : Value → H → Prop) :
  laws_FnProcGuards (fun t100001 h =>
  K (.bool t100001) h) a1 l1 c1 h = callF Try.prog Try.f3.results.toList laws_FnProcGuards_F [.slice a1 l1 c1] h K := by kernel_rfl

theorem laws_FnProcGuards_call {a1 : Option Addr} {l1 : Nat} {c1 : Nat} {h : H} {K : Value → H → Prop} (hs : laws_FnProcGuards (fun t100001 h =>
  K (.bool t100001) h) a1 l1 c1 h) : callK Try.prog 3 ⟨[.slice a1 l1 c1]⟩ h K :=
  func_calls Try.func3 body3 laws_FnProcGuards_V (Nat.le_of_ble_eq_true (by kernel_rfl)) (laws_FnProcGuards_c0 a1 l1 c1 h K ▸ hs)

theorem o_el_ALE {n0 : Option Addr} {n1 : Nat} {n2 : Nat} {K : Option Addr → Nat → Nat → Prop} (g : K n0 n1 n2) : elF False (.agg [.slice]) (.agg ⟨[.slice n0 n1 n2]⟩) K := Eq.mpr (by kernel_rfl) g
theorem d_el_ALE {v : Value} {K2 K1 : Option Addr → Nat → Nat → Prop} (f : ∀ n0 n1 n2, K2 n0 n1 n2 → K1 n0 n1 n2) : elF False (.agg [.slice]) v K2 → elF False (.agg [.slice]) v K1 :=
  d_el (s := .agg [.slice]) (Eq.mpr (by kernel_rfl) f)
theorem o_el_TALEAI3EE {n0 : Option Addr} {n1 : Nat} {n2 : Nat} {n3 : Int} {n4 : Int} {n5 : Int} {K : Option Addr → Nat → Nat → Int → Int → Int → Prop} (g : K n0 n1 n2 n3 n4 n5) : elF False (.tuple [.agg [.slice], .agg [.int .i64, .int .i64, .int .i64]]) (.tuple ⟨[.agg ⟨[.slice n0 n1 n2]⟩, .agg ⟨[.int .i64 n3, .int .i64 n4, .int .i64 n5]⟩]⟩) K := Eq.mpr (by kernel_rfl) g
theorem d_el_TALEAI3EE {v : Value} {K2 K1 : Option Addr → Nat → Nat → Int → Int → Int → Prop} (f : ∀ n0 n1 n2 n3 n4 n5, K2 n0 n1 n2 n3 n4 n5 → K1 n0 n1 n2 n3 n4 n5) : elF False (.tuple [.agg [.slice], .agg [.int .i64, .int .i64, .int .i64]]) v K2 → elF False (.tuple [.agg [.slice], .agg [.int .i64, .int .i64, .int .i64]]) v K1 :=
  d_el (s := .tuple [.agg [.slice], .agg [.int .i64, .int .i64, .int .i64]]) (Eq.mpr (by kernel_rfl) f)
theorem o_el_TALEAI4EE {n0 : Option Addr} {n1 : Nat} {n2 : Nat} {n3 : Int} {n4 : Int} {n5 : Int} {n6 : Int} {K : Option Addr → Nat → Nat → Int → Int → Int → Int → Prop} (g : K n0 n1 n2 n3 n4 n5 n6) : elF False (.tuple [.agg [.slice], .agg [.int .i64, .int .i64, .int .i64, .int .i64]]) (.tuple ⟨[.agg ⟨[.slice n0 n1 n2]⟩, .agg ⟨[.int .i64 n3, .int .i64 n4, .int .i64 n5, .int .i64 n6]⟩]⟩) K := Eq.mpr (by kernel_rfl) g
theorem d_el_TALEAI4EE {v : Value} {K2 K1 : Option Addr → Nat → Nat → Int → Int → Int → Int → Prop} (f : ∀ n0 n1 n2 n3 n4 n5 n6, K2 n0 n1 n2 n3 n4 n5 n6 → K1 n0 n1 n2 n3 n4 n5 n6) : elF False (.tuple [.agg [.slice], .agg [.int .i64, .int .i64, .int .i64, .int .i64]]) v K2 → elF False (.tuple [.agg [.slice], .agg [.int .i64, .int .i64, .int .i64, .int .i64]]) v K1 :=
  d_el (s := .tuple [.agg [.slice], .agg [.int .i64, .int .i64, .int .i64, .int .i64]]) (Eq.mpr (by kernel_rfl) f)
theorem row_I10 (h : H) (b o : Nat) (K : Int → Int → Int → Int → Int → Int → Int → Int → Int → Int → Prop) : ldRow h b o 0 [.int .i64, .int .i64, .int .i64, .int .i64, .int .i64, .int .i64, .int .i64, .int .i64, .int .i64, .int .i64] K = ldI .i64 h b (o + 0) fun n0 => ldI .i64 h b (o + 1) fun n1 => ldI .i64 h b (o + 2) fun n2 => ldI .i64 h b (o + 3) fun n3 => ldI .i64 h b (o + 4) fun n4 => ldI .i64 h b (o + 5) fun n5 => ldI .i64 h b (o + 6) fun n6 => ldI .i64 h b (o + 7) fun n7 => ldI .i64 h b (o + 8) fun n8 => ldI .i64 h b (o + 9) fun n9 => K n0 n1 n2 n3 n4 n5 n6 n7 n8 n9 := by kernel_rfl
theorem d_row_I10 {g0 m0 g m : H} {L : List As} {b o : Nat} {K2 K1 : Int → Int → Int → Int → Int → Int → Int → Int → Int → Int → Prop} (R : Md g0 m0 g m L) (f : ∀ n0 n1 n2 n3 n4 n5 n6 n7 n8 n9, K2 n0 n1 n2 n3 n4 n5 n6 n7 n8 n9 → K1 n0 n1 n2 n3 n4 n5 n6 n7 n8 n9) : ldRow m b o 0 [.int .i64, .int .i64, .int .i64, .int .i64, .int .i64, .int .i64, .int .i64, .int .i64, .int .i64, .int .i64] K2 → ldRow g b o 0 [.int .i64, .int .i64, .int .i64, .int .i64, .int .i64, .int .i64, .int .i64, .int .i64, .int .i64, .int .i64] K1 := by
  rw [row_I10, row_I10]; exact d_ldI R fun n0 => d_ldI R fun n1 => d_ldI R fun n2 => d_ldI R fun n3 => d_ldI R fun n4 => d_ldI R fun n5 => d_ldI R fun n6 => d_ldI R fun n7 => d_ldI R fun n8 => d_ldI R fun n9 => f n0 n1 n2 n3 n4 n5 n6 n7 n8 n9
theorem p_row_I10 {g0 m0 g m : H} {L : List As} {b o : Nat} {cs : List Value} {G : Prop} [LoIn L b cs] {K1 : Int → Int → Int → Int → Int → Int → Int → Int → Int → Int → Prop} {n0 : Int} {n1 : Int} {n2 : Int} {n3 : Int} {n4 : Int} {n5 : Int} {n6 : Int} {n7 : Int} {n8 : Int} {n9 : Int} (R : Md g0 m0 g m L) (e0 : cs[o + 0]? = some (.int .i64 n0)) (e1 : cs[o + 1]? = some (.int .i64 n1)) (e2 : cs[o + 2]? = some (.int .i64 n2)) (e3 : cs[o + 3]? = some (.int .i64 n3)) (e4 : cs[o + 4]? = some (.int .i64 n4)) (e5 : cs[o + 5]? = some (.int .i64 n5)) (e6 : cs[o + 6]? = some (.int .i64 n6)) (e7 : cs[o + 7]? = some (.int .i64 n7)) (e8 : cs[o + 8]? = some (.int .i64 n8)) (e9 : cs[o + 9]? = some (.int .i64 n9)) (f : G → K1 n0 n1 n2 n3 n4 n5 n6 n7 n8 n9) : G → ldRow g b o 0 [.int .i64, .int .i64, .int .i64, .int .i64, .int .i64, .int .i64, .int .i64, .int .i64, .int .i64, .int .i64] K1 := by
  rw [row_I10]; exact p_ldI R e0 (p_ldI R e1 (p_ldI R e2 (p_ldI R e3 (p_ldI R e4 (p_ldI R e5 (p_ldI R e6 (p_ldI R e7 (p_ldI R e8 (p_ldI R e9 (f))))))))))
theorem row_I4 (h : H) (b o : Nat) (K : Int → Int → Int → Int → Prop) : ldRow h b o 0 [.int .i64, .int .i64, .int .i64, .int .i64] K = ldI .i64 h b (o + 0) fun n0 => ldI .i64 h b (o + 1) fun n1 => ldI .i64 h b (o + 2) fun n2 => ldI .i64 h b (o + 3) fun n3 => K n0 n1 n2 n3 := by kernel_rfl
theorem d_row_I4 {g0 m0 g m : H} {L : List As} {b o : Nat} {K2 K1 : Int → Int → Int → Int → Prop} (R : Md g0 m0 g m L) (f : ∀ n0 n1 n2 n3, K2 n0 n1 n2 n3 → K1 n0 n1 n2 n3) : ldRow m b o 0 [.int .i64, .int .i64, .int .i64, .int .i64] K2 → ldRow g b o 0 [.int .i64, .int .i64, .int .i64, .int .i64] K1 := by
  rw [row_I4, row_I4]; exact d_ldI R fun n0 => d_ldI R fun n1 => d_ldI R fun n2 => d_ldI R fun n3 => f n0 n1 n2 n3
theorem p_row_I4 {g0 m0 g m : H} {L : List As} {b o : Nat} {cs : List Value} {G : Prop} [LoIn L b cs] {K1 : Int → Int → Int → Int → Prop} {n0 : Int} {n1 : Int} {n2 : Int} {n3 : Int} (R : Md g0 m0 g m L) (e0 : cs[o + 0]? = some (.int .i64 n0)) (e1 : cs[o + 1]? = some (.int .i64 n1)) (e2 : cs[o + 2]? = some (.int .i64 n2)) (e3 : cs[o + 3]? = some (.int .i64 n3)) (f : G → K1 n0 n1 n2 n3) : G → ldRow g b o 0 [.int .i64, .int .i64, .int .i64, .int .i64] K1 := by
  rw [row_I4]; exact p_ldI R e0 (p_ldI R e1 (p_ldI R e2 (p_ldI R e3 (f))))
theorem row_L (h : H) (b o : Nat) (K : Option Addr → Nat → Nat → Prop) : ldRow h b o 0 [.slice] K = ldL h b (o + 0) fun n0 n1 n2 => K n0 n1 n2 := by kernel_rfl
theorem d_row_L {g0 m0 g m : H} {L : List As} {b o : Nat} {K2 K1 : Option Addr → Nat → Nat → Prop} (R : Md g0 m0 g m L) (f : ∀ n0 n1 n2, K2 n0 n1 n2 → K1 n0 n1 n2) : ldRow m b o 0 [.slice] K2 → ldRow g b o 0 [.slice] K1 := by
  rw [row_L, row_L]; exact d_ldL R fun n0 n1 n2 => f n0 n1 n2
theorem p_row_L {g0 m0 g m : H} {L : List As} {b o : Nat} {cs : List Value} {G : Prop} [LoIn L b cs] {K1 : Option Addr → Nat → Nat → Prop} {n0 : Option Addr} {n1 : Nat} {n2 : Nat} (R : Md g0 m0 g m L) (e0 : cs[o + 0]? = some (.slice n0 n1 n2)) (f : G → K1 n0 n1 n2) : G → ldRow g b o 0 [.slice] K1 := by
  rw [row_L]; exact p_ldL R e0 (f)
def laws_FnProcGuards_M_l0 (kx0 : Int → Option Addr → Nat → Option Addr → Nat → Int → H → Prop) : Nat → Int → Int → Option Addr → Nat → Int → Option Addr → Nat → Int → H → Prop
 | 0, _, _, _, _, _, _, _, _, _ => False
 | N + 1, n26, n27, a28, l28, n31, a35, l35, n37, h =>
  ifB (decide ((n27 : Int) < (l28 : Nat)))
  (req (0 ≤ (n27 : Int) ∧ (n27 : Int) < (l28 : Nat))
  (nz a28 fun b41 o42 =>
  ldI .i64 h b41 (o42 + n27.toNat * 10) fun n43 =>
  ifB ((n43 : Int) == n31)
  (req (0 ≤ (n27 : Int) ∧ (n27 : Int) < (l28 : Nat))
  (nz a28 fun b44 o45 =>
  ldI .i64 h b44 ((o45 + n27.toNat * 10) + 3) fun n46 =>
  laws_FnProcGuards_M_l0 kx0 N n46 (IntKind.i64.wrap (n27 + 1)) a28 l28 n31 a35 l35 n37 h))
  (laws_FnProcGuards_M_l0 kx0 N n26 (IntKind.i64.wrap (n27 + 1)) a28 l28 n31 a35 l35 n37 h)))
  (kx0 n26 a28 l28 a35 l35 n37 h)

def laws_FnProcGuards_M_l1 (kx2 : H → Prop) (kr : Bool → H → Prop) : Nat → Int → Int → Option Addr → Nat → Option Addr → Nat → Int → H → Prop
 | 0, _, _, _, _, _, _, _, _ => False
 | N + 1, n1056, n1057, a1058, l1058, a1060, l1060, n1062, h =>
  ifB (decide ((n1057 : Int) < (l1058 : Nat)))
  (req (0 ≤ (n1057 : Int) ∧ (n1057 : Int) < (l1058 : Nat))
  (nz a1058 fun b1066 o1067 =>
  ldRow h b1066 (o1067 + n1057.toNat * 10) 0 [.int .i64, .int .i64, .int .i64, .int .i64, .int .i64, .int .i64, .int .i64, .int .i64, .int .i64, .int .i64] fun n1068 n1069 n1070 n1071 n1072 n1073 n1074 n1075 n1076 n1077 =>
  req (0 ≤ (n1057 : Int) ∧ (n1057 : Int) < (l1060 : Nat))
  (nz a1060 fun b1078 o1079 =>
  ldRow h b1078 (o1079 + n1057.toNat * 10) 0 [.int .i64, .int .i64, .int .i64, .int .i64, .int .i64, .int .i64, .int .i64, .int .i64, .int .i64, .int .i64] fun n1080 n1081 n1082 n1083 n1084 n1085 n1086 n1087 n1088 n1089 =>
  ifB (!(((n1068 : Int) == n1080) && (((n1069 : Int) == n1081) && (((n1070 : Int) == n1082) && (((n1071 : Int) == n1083) && (((n1072 : Int) == n1084) && (((n1073 : Int) == n1085) && (((n1074 : Int) == n1086) && (((n1075 : Int) == n1087) && (((n1076 : Int) == n1088) && (((n1077 : Int) == n1089) && (true))))))))))))
  (ifB ((n1062 : Int) != 0)
  (kr false h)
  (ifB ((n1056 : Int) != 0)
  (req (0 ≤ (n1057 : Int) ∧ (n1057 : Int) < (l1058 : Nat))
  (nz a1058 fun b1090 o1091 =>
  ldI .i64 h b1090 ((o1091 + n1057.toNat * 10) + 3) fun n1092 =>
  ifB ((n1092 : Int) != n1056)
  (kr false h)
  (laws_FnProcGuards_M_l1 kx2 kr N n1056 (IntKind.i64.wrap (n1057 + 1)) a1058 l1058 a1060 l1060 n1062 h)))
  (laws_FnProcGuards_M_l1 kx2 kr N n1056 (IntKind.i64.wrap (n1057 + 1)) a1058 l1058 a1060 l1060 n1062 h)))
  (laws_FnProcGuards_M_l1 kx2 kr N n1056 (IntKind.i64.wrap (n1057 + 1)) a1058 l1058 a1060 l1060 n1062 h))))
  (kx2 h)

def laws_FnProcGuards_M (kr : Bool → H → Prop) (a1 : Option Addr) (l1 : Nat) (c1 : Nat) (h : H) : Prop :=
  callD Try.prog 5 ⟨[.slice a1 l1 c1]⟩ h fun v2 h =>
  asB v2 fun t3 =>
  ifB t3
  (kr true h)
  (callD Try.prog 7 ⟨[]⟩ h fun v4 h =>
  elF False (.agg [.slice]) v4 fun a5 l5 c5 =>
  callD Try.prog 6 ⟨[.agg ⟨[.slice a5 l5 c5]⟩]⟩ h fun v6 h =>
  asB v6 fun t7 =>
  ifB (!t7)
  (kr false h)
  (callD Try.prog 8 ⟨[.slice a1 l1 c1]⟩ h fun v8 h =>
  elF False (.tuple [.agg [.slice], .agg [.int .i64, .int .i64, .int .i64, .int .i64]]) v8 fun a9 l9 c9 n10 n11 n12 n13 =>
  callD Try.prog 9 ⟨[.agg ⟨[.slice a9 l9 c9]⟩]⟩ h fun v14 h =>
  asB v14 fun t15 =>
  ifB (!t15)
  (kr true h)
  (callD Try.prog 10 ⟨[.agg ⟨[.slice a9 l9 c9]⟩, .agg ⟨[.int .i64 4, .int .i64 n11, .int .i64 n12, .int .i64 n13]⟩]⟩ h fun v16 h =>
  elF False (.tuple [.agg [.slice], .agg [.int .i64, .int .i64, .int .i64]]) v16 fun a17 l17 c17 n18 n19 n20 =>
  ifB (((l17 : Nat) : Int) != (l9 : Nat))
  (kr false h)
  (callD Try.prog 11 ⟨[.agg ⟨[.slice a9 l9 c9]⟩, .agg ⟨[.int .i64 4, .int .i64 n11, .int .i64 n12, .int .i64 n13]⟩]⟩ h fun v21 h =>
  elF False (.tuple [.agg [.slice], .agg [.int .i64, .int .i64, .int .i64]]) v21 fun a22 l22 c22 n23 n24 n25 =>
  ifB ((n18 : Int) != n23)
  (kr false h)
  (∃ M36, laws_FnProcGuards_M_l0 (fun n26 a27 l27 a29 l29 n31 h =>
  ∃ M35, laws_FnProcGuards_M_l1 (fun h =>
  kr true h) kr M35 n26 0 a27 l27 a29 l29 n31 h) M36 (-1) 0 a9 l9 n11 a17 l17 n18 h)))))

theorem laws_FnProcGuards_M_l0_D {g0 m0 : H} {kx0_1 : Nat → Nat → Nat → Int → H → Prop} {kx0_2 : Int → Option Addr → Nat → Option Addr → Nat → Int → H → Prop} (Hkx0 : ∀ (n200001 : Int) (a200002 : Option Addr) (l200002 : Nat) (c200002 : Nat) (a200004 : Option Addr) (l200004 : Nat) (c200004 : Nat) (n200006 : Int) (n200007 : Int) (n200008 : Int) (p200003 : Nat) (p200005 : Nat) (p200009 : Nat) (g m : H), Md g0 m0 g m [lo p200003 [.slice a200002 l200002 c200002], lo p200005 [.slice a200004 l200004 c200004], lo p200009 [.int .i64 n200006, .int .i64 n200007, .int .i64 n200008]] → kx0_2 n200001 a200002 l200002 a200004 l200004 n200006 m → kx0_1 p200003 p200005 p200009 n200001 g) : ∀ (N : Nat) (n1026 : Int) (n1027 : Int) (a1028 : Option Addr) (l1028 : Nat) (c1028 : Nat) (n1030 : Int) (n1031 : Int) (n1032 : Int) (n1033 : Int) (a1035 : Option Addr) (l1035 : Nat) (c1035 : Nat) (n1037 : Int) (n1038 : Int) (n1039 : Int) (p1029 : Nat) (p1034 : Nat) (p1036 : Nat) (p1040 : Nat) (g m : H), Md g0 m0 g m [lo p1029 [.slice a1028 l1028 c1028], lo p1034 [.int .i64 n1030, .int .i64 n1031, .int .i64 n1032, .int .i64 n1033], lo p1036 [.slice a1035 l1035 c1035], lo p1040 [.int .i64 n1037, .int .i64 n1038, .int .i64 n1039]] → laws_FnProcGuards_M_l0 kx0_2 N n1026 n1027 a1028 l1028 n1031 a1035 l1035 n1037 m → laws_FnProcGuards_l0 kx0_1 N p1029 p1034 p1036 p1040 n1026 n1027 g := by
  intro N
  induction N with
  | zero => intro n1026 n1027 a1028 l1028 c1028 n1030 n1031 n1032 n1033 a1035 l1035 c1035 n1037 n1038 n1039 p1029 p1034 p1036 p1040 g m R h0; exact h0.elim
  | succ N ih =>
    intro n1026 n1027 a1028 l1028 c1028 n1030 n1031 n1032 n1033 a1035 l1035 c1035 n1037 n1038 n1039 p1029 p1034 p1036 p1040 g m R
    rw [laws_FnProcGuards_M_l0, laws_FnProcGuards_l0]
    exact (p_ldL R rfl (d_if (p_ldL R rfl (d_req (d_nz fun b1041 o1042 =>
  (d_ldI R fun n1043 =>
  (p_ldI R rfl (d_if (p_ldL R rfl (d_req (d_nz fun b1044 o1045 =>
  (d_ldI R fun n1046 =>
  (ih n1046 (IntKind.i64.wrap (n1027 + 1)) a1028 l1028 c1028 n1030 n1031 n1032 n1033 a1035 l1035 c1035 n1037 n1038 n1039 p1029 p1034 p1036 p1040 _ _ R.sub)))))
  (ih n1026 (IntKind.i64.wrap (n1027 + 1)) a1028 l1028 c1028 n1030 n1031 n1032 n1033 a1035 l1035 c1035 n1037 n1038 n1039 p1029 p1034 p1036 p1040 _ _ R.sub)))))))
  (Hkx0 n1026 a1028 l1028 c1028 a1035 l1035 c1035 n1037 n1038 n1039 p1029 p1036 p1040 _ _ R.sub)))

theorem laws_FnProcGuards_M_l1_D {g0 m0 : H} {kx2_1 : H → Prop} {kx2_2 : H → Prop} (Hkx2 : ∀ (g m : H), Md g0 m0 g m [] → kx2_2 m → kx2_1 g)
  {kr_1 : Bool → H → Prop} {kr_2 : Bool → H → Prop} (Hkr : ∀ (t200001 : Bool) (g m : H), Md g0 m0 g m [] → kr_2 t200001 m → kr_1 t200001 g) : ∀ (N : Nat) (n2056 : Int) (n2057 : Int) (a2058 : Option Addr) (l2058 : Nat) (c2058 : Nat) (a2060 : Option Addr) (l2060 : Nat) (c2060 : Nat) (n2062 : Int) (n2063 : Int) (n2064 : Int) (p2059 : Nat) (p2061 : Nat) (p2065 : Nat) (g m : H), Md g0 m0 g m [lo p2059 [.slice a2058 l2058 c2058], lo p2061 [.slice a2060 l2060 c2060], lo p2065 [.int .i64 n2062, .int .i64 n2063, .int .i64 n2064]] → laws_FnProcGuards_M_l1 kx2_2 kr_2 N n2056 n2057 a2058 l2058 a2060 l2060 n2062 m → laws_FnProcGuards_l1 kx2_1 kr_1 N p2059 p2061 p2065 n2056 n2057 g := by
  intro N
  induction N with
  | zero => intro n2056 n2057 a2058 l2058 c2058 a2060 l2060 c2060 n2062 n2063 n2064 p2059 p2061 p2065 g m R h0; exact h0.elim
  | succ N ih =>
    intro n2056 n2057 a2058 l2058 c2058 a2060 l2060 c2060 n2062 n2063 n2064 p2059 p2061 p2065 g m R
    rw [laws_FnProcGuards_M_l1, laws_FnProcGuards_l1]
    exact (p_ldL R rfl (d_if (p_ldL R rfl (d_req (d_nz fun b2066 o2067 =>
  (d_row_I10 R fun n2068 n2069 n2070 n2071 n2072 n2073 n2074 n2075 n2076 n2077 =>
  (p_ldL R rfl (d_req (d_nz fun b2078 o2079 =>
  (d_row_I10 R fun n2080 n2081 n2082 n2083 n2084 n2085 n2086 n2087 n2088 n2089 =>
  (d_if (p_ldI R rfl (d_if (Hkr false _ _ R.sub)
  (d_if (p_ldL R rfl (d_req (d_nz fun b2090 o2091 =>
  (d_ldI R fun n2092 =>
  (d_if (Hkr false _ _ R.sub)
  (ih n2056 (IntKind.i64.wrap (n2057 + 1)) a2058 l2058 c2058 a2060 l2060 c2060 n2062 n2063 n2064 p2059 p2061 p2065 _ _ R.sub))))))
  (ih n2056 (IntKind.i64.wrap (n2057 + 1)) a2058 l2058 c2058 a2060 l2060 c2060 n2062 n2063 n2064 p2059 p2061 p2065 _ _ R.sub))))
  (ih n2056 (IntKind.i64.wrap (n2057 + 1)) a2058 l2058 c2058 a2060 l2060 c2060 n2062 n2063 n2064 p2059 p2061 p2065 _ _ R.sub))))))))))
  (Hkx2 _ _ R.sub)))

theorem laws_FnProcGuards_M_D {g0 m0 : H} {kr_1 : Bool → H → Prop} {kr_2 : Bool → H → Prop} (Hkr : ∀ (t200001 : Bool) (g m : H), Md g0 m0 g m [] → kr_2 t200001 m → kr_1 t200001 g) : ∀ (a1001 : Option Addr) (l1001 : Nat) (c1001 : Nat) (g m : H), Md g0 m0 g m [] → laws_FnProcGuards_M kr_2 a1001 l1001 c1001 m → laws_FnProcGuards kr_1 a1001 l1001 c1001 g := by
  intro a1001 l1001 c1001 g m R
  rw [laws_FnProcGuards_M, laws_FnProcGuards]
  exact (d_call R fun v1002 g m R =>
  (d_asB fun t1003 =>
  (d_if (Hkr true _ _ R.sub)
  (d_call R fun v1004 g m R =>
  (d_el_ALE fun a1005 l1005 c1005 =>
  (d_call R fun v1006 g m R =>
  (d_asB fun t1007 =>
  (d_if (Hkr false _ _ R.sub)
  (d_call R fun v1008 g m R =>
  (d_el_TALEAI4EE fun a1009 l1009 c1009 n1010 n1011 n1012 n1013 =>
  (p_new R fun p1014 g R =>
  (p_new R fun p1015 g R =>
  (p_stRow R (cs' := [.slice a1009 l1009 c1009]) ⟨rfl, rfl, rfl⟩ fun g R =>
  (p_stRow R (cs' := [.int .i64 n1010, .int .i64 n1011, .int .i64 n1012, .int .i64 n1013]) ⟨rfl, rfl, rfl⟩ fun g R =>
  (p_row_L R rfl (d_call R fun v1016 g m R =>
  (d_asB fun t1017 =>
  (d_if (Hkr true _ _ R.sub)
  (p_st R (cs' := [.int .i64 4, .int .i64 n1011, .int .i64 n1012, .int .i64 n1013]) ⟨rfl, rfl⟩ fun g R =>
  (p_row_L R rfl (p_row_I4 R rfl rfl rfl rfl (d_call R fun v1018 g m R =>
  (d_el_TALEAI3EE fun a1019 l1019 c1019 n1020 n1021 n1022 =>
  (p_new R fun p1023 g R =>
  (p_new R fun p1024 g R =>
  (p_stRow R (cs' := [.slice a1019 l1019 c1019]) ⟨rfl, rfl, rfl⟩ fun g R =>
  (p_stRow R (cs' := [.int .i64 n1020, .int .i64 n1021, .int .i64 n1022]) ⟨rfl, rfl, rfl⟩ fun g R =>
  (p_ldL R rfl (p_ldL R rfl (d_if (Hkr false _ _ R.sub)
  (p_row_L R rfl (p_row_I4 R rfl rfl rfl rfl (d_call R fun v1025 g m R =>
  (d_el_TALEAI3EE fun a1026 l1026 c1026 n1027 n1028 n1029 =>
  (p_new R fun p1030 g R =>
  (p_new R fun p1031 g R =>
  (p_stRow R (cs' := [.slice a1026 l1026 c1026]) ⟨rfl, rfl, rfl⟩ fun g R =>
  (p_stRow R (cs' := [.int .i64 n1027, .int .i64 n1028, .int .i64 n1029]) ⟨rfl, rfl, rfl⟩ fun g R =>
  (p_ldI R rfl (p_ldI R rfl (d_if (Hkr false _ _ R.sub)
  (d_ex fun N => laws_FnProcGuards_M_l0_D (by exact fun n1032 a1033 l1033 c1033 a1035 l1035 c1035 n1037 n1038 n1039 p1034 p1036 p1040 g m R =>
  (d_ex fun N => laws_FnProcGuards_M_l1_D (by exact fun g m R =>
  (Hkr true _ _ R.sub))
  (by exact fun t1041 g m R =>
  (Hkr t1041 _ _ R.sub)) N n1032 0 a1033 l1033 c1033 a1035 l1035 c1035 n1037 n1038 n1039 p1034 p1036 p1040 _ _ R.sub)) N (-1) 0 a1009 l1009 c1009 4 n1011 n1012 n1013 a1019 l1019 c1019 n1020 n1021 n1022 p1014 p1015 p1023 p1024 _ _ R.sub))))))))))))))))))))))))))))))))))))))))))

theorem laws_FnProcGuards_M_call {a1 : Option Addr} {l1 : Nat} {c1 : Nat} {h : H} {K : Value → H → Prop} (hs : laws_FnProcGuards_M (fun t300001 h =>
  K (.bool t300001) h) a1 l1 c1 h) : callD Try.prog 3 ⟨[.slice a1 l1 c1]⟩ h K :=
  fun g r => laws_FnProcGuards_call (laws_FnProcGuards_M_D (by exact fun t300001 g m R =>
(fun h => ⟨m, R.af, h⟩)) _ _ _ _ _ (Md.start r) hs)

noncomputable def code5 : Code := codeOf Try.f5
theorem body5 : Try.f5.body = some code5 := by kernel_rfl
def laws_big (kr : Bool → H → Prop) (code_1 : Option Addr) (code_l1 : Nat) (code_c1 : Nat) (h : H) : Prop :=
  kr (decide (((code_l1 : Nat) : Int) > 1048576)) h

theorem laws_big_eq (K : Cont) (code_1 : Option Addr) (code_l1 : Nat) (code_c1 : Nat) (h : H) :
  laws_big (curV [(2, .bool)] (K .ret)) code_1 code_l1 code_c1 h = evC Try.prog 6 [] [] code5 [(0, .slice code_1 code_l1 code_c1)] h (outsOf none [] (some [(2, .bool)]) K).K := by kernel_rfl

def laws_big_F : PT := mkF [(0, .slice)] fun K => laws_big (curV [(2, .bool)] (K .ret))

theorem laws_big_V : Valid Try.prog 6 code5 laws_big_F :=
  piece mixed rows_nil (fun K => by intro code_1 code_l1 code_c1 h hd; exact (laws_big_eq K code_1 code_l1 code_c1 h) ▸ hd)

theorem laws_big_c0 (code_1 : Option Addr) (code_l1 : Nat) (code_c1 : Nat) (h : H) (K : Value → H → Prop) :
  laws_big (fun t100001 h =>
  K (.bool t100001) h) code_1 code_l1 code_c1 h = callF Try.prog Try.f5.results.toList laws_big_F [.slice code_1 code_l1 code_c1] h K := by kernel_rfl

theorem laws_big_call {code_1 : Option Addr} {code_l1 : Nat} {code_c1 : Nat} {h : H} {K : Value → H → Prop} (hs : laws_big (fun t100001 h =>
  K (.bool t100001) h) code_1 code_l1 code_c1 h) : callK Try.prog 5 ⟨[.slice code_1 code_l1 code_c1]⟩ h K :=
  func_calls Try.func5 body5 laws_big_V (Nat.le_of_ble_eq_true (by kernel_rfl)) (laws_big_c0 code_1 code_l1 code_c1 h K ▸ hs)

def laws_big_M (kr : Bool → H → Prop) (code_1 : Option Addr) (code_l1 : Nat) (code_c1 : Nat) (h : H) : Prop :=
  kr (decide (((code_l1 : Nat) : Int) > 1048576)) h

theorem laws_big_M_D {g0 m0 : H} {kr_1 : Bool → H → Prop} {kr_2 : Bool → H → Prop} (Hkr : ∀ (t200001 : Bool) (g m : H), Md g0 m0 g m [] → kr_2 t200001 m → kr_1 t200001 g) : ∀ (code_1001 : Option Addr) (code_l1001 : Nat) (code_c1001 : Nat) (g m : H), Md g0 m0 g m [] → laws_big_M kr_2 code_1001 code_l1001 code_c1001 m → laws_big kr_1 code_1001 code_l1001 code_c1001 g := by
  intro code_1001 code_l1001 code_c1001 g m R
  rw [laws_big_M, laws_big]
  exact (Hkr (decide (((code_l1001 : Nat) : Int) > 1048576)) _ _ R.sub)

theorem laws_big_M_call {code_1 : Option Addr} {code_l1 : Nat} {code_c1 : Nat} {h : H} {K : Value → H → Prop} (hs : laws_big_M (fun t300001 h =>
  K (.bool t300001) h) code_1 code_l1 code_c1 h) : callD Try.prog 5 ⟨[.slice code_1 code_l1 code_c1]⟩ h K :=
  fun g r => laws_big_call (laws_big_M_D (by exact fun t300001 g m R =>
(fun h => ⟨m, R.af, h⟩)) _ _ _ _ _ (Md.start r) hs)

noncomputable def code6 : Code := codeOf Try.f6
theorem body6 : Try.f6.body = some code6 := by kernel_rfl
def impl_ProcsOk_j2 (kn : Nat → Int → Option Addr → Nat → Nat → Int → Int → H → Prop) (kx1 : Nat → Int → Option Addr → Nat → Nat → Int → Int → H → Prop) (kr : Bool → H → Prop) (b37 : Nat) (n38 : Int) (n39 : Int) (b40 : Nat) (a41 : Option Addr) (l41 : Nat) (c41 : Nat) (n42 : Int) (n43 : Int) (h : H) : Prop :=
  ifB ((n39 : Int) == 0)
  (ldI .i64 h b40 0 fun n44 =>
  ifB ((n44 : Int) != 1)
  (kr false h)
  (ldI .i64 h b40 4 fun n45 =>
  ifB ((n45 : Int) == 3)
  (kr false h)
  (ldI .i64 h b40 1 fun n46 =>
  ifB ((n46 : Int) != 0)
  (kr false h)
  (kx1 b37 n38 a41 l41 c41 n42 n43 h))))
  (ldI .i64 h b40 1 fun n47 =>
  callK Try.prog 19 ⟨[.pointer (some ⟨b37, 0, none⟩), .int .i64 n47]⟩ h fun v48 h =>
  asP v48 fun p49 =>
  ifB p49.isNone
  (kr false h)
  (nz p49 fun b50 o51 =>
  ldI .i64 h b50 o51 fun n52 =>
  ldI .i64 h b40 0 fun n53 =>
  ifB ((n52 : Int) == n53)
  (kr false h)
  (nz p49 fun b54 o55 =>
  ldI .i64 h b54 (o55 + 4) fun n56 =>
  ifB ((n56 : Int) == 3)
  (kr false h)
  (kn b37 n38 a41 l41 c41 n42 n43 h))))

def impl_ProcsOk_j1 (kn : Nat → Int → Option Addr → Nat → Nat → Int → Int → H → Prop) (kx1 : Nat → Int → Option Addr → Nat → Nat → Int → Int → H → Prop) (kr : Bool → H → Prop) (b24 : Nat) (n25 : Int) (b26 : Nat) (a27 : Option Addr) (l27 : Nat) (c27 : Nat) (n28 : Int) (n29 : Int) (h : H) : Prop :=
  ldI .i64 h b26 0 fun n30 =>
  ldI .i64 h b26 6 fun n31 =>
  ifB ((bAndNot .i64 n31 65534 : Int) != 0)
  (kr false h)
  (ldI .i64 h b26 7 fun n32 =>
  ldI .i64 h b26 8 fun n33 =>
  ldI .i64 h b26 9 fun n34 =>
  ifB ((bAndNot .i64 (bOr .i64 (bOr .i64 n32 n33) n34) 60926 : Int) != 0)
  (kr false h)
  (ldI .i64 h b26 8 fun n35 =>
  ldI .i64 h b26 9 fun n36 =>
  ifB ((bAnd .i64 n35 n36 : Int) != 0)
  (kr false h)
  (ldI .i64 h b26 4 fun n37 =>
  ifB ((n37 : Int) == 3)
  (ldI .i64 h b26 6 fun n38 =>
  ldI .i64 h b26 7 fun n39 =>
  ldI .i64 h b26 8 fun n40 =>
  ldI .i64 h b26 9 fun n41 =>
  ifB ((bOr .i64 (bOr .i64 (bOr .i64 n38 n39) n40) n41 : Int) != 0)
  (kr false h)
  (impl_ProcsOk_j2 kn kx1 kr b24 n30 n25 b26 a27 l27 c27 n28 n29 h))
  (impl_ProcsOk_j2 kn kx1 kr b24 n30 n25 b26 a27 l27 c27 n28 n29 h))))

def impl_ProcsOk_l0 (kx0 : Nat → H → Prop) (kr : Bool → H → Prop) : Nat → Nat → Int → Option Addr → Nat → Nat → Int → Int → H → Prop
 | 0, _, _, _, _, _, _, _, _ => False
 | N + 1, b6, n7, a8, l8, c8, n9, n10, h =>
  ifB (decide ((n10 : Int) < n9))
  (req (0 ≤ (n10 : Int) ∧ (n10 : Int) < (l8 : Nat))
  (nz a8 fun b11 o12 =>
  ldRow h b11 (o12 + n10.toNat * 10) 0 [.int .i64, .int .i64, .int .i64, .int .i64, .int .i64, .int .i64, .int .i64, .int .i64, .int .i64, .int .i64] fun n13 n14 n15 n16 n17 n18 n19 n20 n21 n22 =>
  new h [.int .i64 0, .int .i64 0, .int .i64 0, .int .i64 0, .int .i64 0, .int .i64 0, .int .i64 0, .int .i64 0, .int .i64 0, .int .i64 0] 38 fun b23 h =>
  stRow h b23 0 0 [.int .i64 n13, .int .i64 n14, .int .i64 n15, .int .i64 n16, .int .i64 n17, .int .i64 n18, .int .i64 n19, .int .i64 n20, .int .i64 n21, .int .i64 n22] fun h =>
  ldI .i64 h b23 0 fun n24 =>
  ifB (decide ((n24 : Int) ≤ n7))
  (kr false h)
  (ldI .i64 h b23 0 fun n25 =>
  ifB (decide ((n25 : Int) > 32))
  (kr false h)
  (ldI .i64 h b23 2 fun n26 =>
  ifB (decide ((n26 : Int) < 1))
  (kr false h)
  (ldI .i64 h b23 2 fun n27 =>
  ifB (decide ((n27 : Int) > 32))
  (kr false h)
  (ldI .i64 h b23 3 fun n28 =>
  ifB (decide ((n28 : Int) < 0))
  (kr false h)
  (ldI .i64 h b23 3 fun n29 =>
  ifB (decide ((n29 : Int) > 255))
  (kr false h)
  (ldI .i64 h b23 4 fun n30 =>
  ifB (decide ((n30 : Int) < 1))
  (kr false h)
  (ldI .i64 h b23 4 fun n31 =>
  ifB (decide ((n31 : Int) > 3))
  (kr false h)
  (ldI .i64 h b23 5 fun n32 =>
  ifB (decide ((n32 : Int) < 0))
  (kr false h)
  (ldI .i64 h b23 5 fun n33 =>
  ifB (decide ((n33 : Int) > 255))
  (kr false h)
  (ldI .i64 h b23 4 fun n34 =>
  ifB ((n34 : Int) != 3)
  (ldI .i64 h b23 5 fun n35 =>
  ifB ((n35 : Int) != 0)
  (kr false h)
  (impl_ProcsOk_j1 (fun b36 n37 a38 l38 c38 n39 n40 h =>
  impl_ProcsOk_l0 kx0 kr N b36 n37 a38 l38 c38 n39 (IntKind.i64.wrap (n40 + 1)) h) (fun b41 n42 a43 l43 c43 n44 n45 h =>
  impl_ProcsOk_l0 kx0 kr N b41 n42 a43 l43 c43 n44 (IntKind.i64.wrap (n45 + 1)) h) kr b6 n10 b23 a8 l8 c8 n9 n10 h))
  (impl_ProcsOk_j1 (fun b46 n47 a48 l48 c48 n49 n50 h =>
  impl_ProcsOk_l0 kx0 kr N b46 n47 a48 l48 c48 n49 (IntKind.i64.wrap (n50 + 1)) h) (fun b51 n52 a53 l53 c53 n54 n55 h =>
  impl_ProcsOk_l0 kx0 kr N b51 n52 a53 l53 c53 n54 (IntKind.i64.wrap (n55 + 1)) h) kr b6 n10 b23 a8 l8 c8 n9 n10 h)))))))))))))
  (kx0 b6 h)

def impl_ProcsOk_l4 (kx4 : Nat → Option Addr → Nat → Nat → Int → Int → H → Prop) (kr : Bool → H → Prop) : Nat → Nat → Option Addr → Int → Option Addr → Nat → Nat → Int → Int → H → Prop
 | 0, _, _, _, _, _, _, _, _, _ => False
 | N + 1, b75, p76, n77, a78, l78, c78, n79, n80, h =>
  nz p76 fun b81 o82 =>
  ldI .i64 h b81 o82 fun n83 =>
  ifB ((n83 : Int) != 1)
  (nz p76 fun b84 o85 =>
  ldI .i64 h b84 (o85 + 1) fun n86 =>
  callK Try.prog 19 ⟨[.pointer (some ⟨b75, 0, none⟩), .int .i64 n86]⟩ h fun v87 h =>
  asP v87 fun p88 =>
  ifB p88.isNone
  (kr false h)
  (ifB (decide ((n77 : Int) > 32))
  (kr false h)
  (impl_ProcsOk_l4 kx4 kr N b75 p88 (IntKind.i64.wrap (n77 + 1)) a78 l78 c78 n79 n80 h)))
  (kx4 b75 a78 l78 c78 n79 n80 h)

def impl_ProcsOk_l3 (kx2 : H → Prop) (kr : Bool → H → Prop) : Nat → Nat → Option Addr → Nat → Nat → Int → Int → H → Prop
 | 0, _, _, _, _, _, _, _ => False
 | N + 1, b58, a59, l59, c59, n60, n61, h =>
  ifB (decide ((n61 : Int) < n60))
  (req (0 ≤ (n61 : Int) ∧ (n61 : Int) < (l59 : Nat))
  (nz a59 fun b62 o63 =>
  ldRow h b62 (o63 + n61.toNat * 10) 0 [.int .i64, .int .i64, .int .i64, .int .i64, .int .i64, .int .i64, .int .i64, .int .i64, .int .i64, .int .i64] fun n64 n65 n66 n67 n68 n69 n70 n71 n72 n73 =>
  new h [.int .i64 0, .int .i64 0, .int .i64 0, .int .i64 0, .int .i64 0, .int .i64 0, .int .i64 0, .int .i64 0, .int .i64 0, .int .i64 0] 38 fun b74 h =>
  stRow h b74 0 0 [.int .i64 n64, .int .i64 n65, .int .i64 n66, .int .i64 n67, .int .i64 n68, .int .i64 n69, .int .i64 n70, .int .i64 n71, .int .i64 n72, .int .i64 n73] fun h =>
  ∃ M79, impl_ProcsOk_l4 (fun b75 a76 l76 c76 n77 n78 h =>
  impl_ProcsOk_l3 kx2 kr N b75 a76 l76 c76 n77 (IntKind.i64.wrap (n78 + 1)) h) kr M79 b58 (some ⟨b74, 0, none⟩) 0 a59 l59 c59 n60 n61 h))
  (kx2 h)

def impl_ProcsOk (kr : Bool → H → Prop) (a1 : Option Addr) (l1 : Nat) (c1 : Nat) (h : H) : Prop :=
  new h [.slice a1 l1 c1] 27 fun b2 h =>
  ldL h b2 0 fun a3 l3 c3 =>
  ifB (decide (((l3 : Nat) : Int) < 1))
  (kr false h)
  (ldL h b2 0 fun a4 l4 c4 =>
  ifB (decide (((l4 : Nat) : Int) > 32))
  (kr false h)
  (ldL h b2 0 fun a5 l5 c5 =>
  ∃ M9, impl_ProcsOk_l0 (fun b6 h =>
  ldL h b6 0 fun a7 l7 c7 =>
  ∃ M8, impl_ProcsOk_l3 (fun h =>
  kr true h) kr M8 b6 a7 l7 c7 (l7 : Nat) 0 h) kr M9 b2 0 a5 l5 c5 (l5 : Nat) 0 h))

theorem impl_ProcsOk_j2_eq (K : Cont) (b37 : Nat) (n38 : Int) (n39 : Int) (b40 : Nat) (a41 : Option Addr) (l41 : Nat) (c41 : Nat) (n42 : Int) (n43 : Int) (h : H) :
  impl_ProcsOk_j2 (curV [(1, .blk), (3, .int .i64), (22, .slice), (23, .int .i64), (24, .int .i64)] (K .normal)) (curV [(1, .blk), (3, .int .i64), (22, .slice), (23, .int .i64), (24, .int .i64)] (K (.exit 1))) (curV [(2, .bool)] (K .ret)) b37 n38 n39 b40 a41 l41 c41 n42 n43 h = evC Try.prog 194 [] [] (sub code6 [true, true, true, false, true, false, false, true, true, false, false, true, true, true, true, true]) [(1, .pointer (some ⟨b37, 0, none⟩)), (3, .int .i64 n38), (4, .int .i64 n39), (5, .pointer (some ⟨b40, 0, none⟩)), (22, .slice a41 l41 c41), (23, .int .i64 n42), (24, .int .i64 n43)] h (outsOf (some [(1, .blk), (3, .int .i64), (22, .slice), (23, .int .i64), (24, .int .i64)]) [(1, [(1, .blk), (3, .int .i64), (22, .slice), (23, .int .i64), (24, .int .i64)])] (some [(2, .bool)]) K).K := by kernel_rfl

def impl_ProcsOk_j2_F : PT := mkF [(1, .blk), (3, .int .i64), (4, .int .i64), (5, .blk), (22, .slice), (23, .int .i64), (24, .int .i64)] fun K => impl_ProcsOk_j2 (curV [(1, .blk), (3, .int .i64), (22, .slice), (23, .int .i64), (24, .int .i64)] (K .normal)) (curV [(1, .blk), (3, .int .i64), (22, .slice), (23, .int .i64), (24, .int .i64)] (K (.exit 1))) (curV [(2, .bool)] (K .ret))

theorem impl_ProcsOk_j2_V : Valid Try.prog 194 (sub code6 [true, true, true, false, true, false, false, true, true, false, false, true, true, true, true, true]) impl_ProcsOk_j2_F :=
  piece mixed rows_nil (fun K => by intro b37 n38 n39 b40 a41 l41 c41 n42 n43 h hd; exact (impl_ProcsOk_j2_eq K b37 n38 n39 b40 a41 l41 c41 n42 n43 h) ▸ hd)

theorem impl_ProcsOk_j1_eq (K : Cont) (b24 : Nat) (n25 : Int) (b26 : Nat) (a27 : Option Addr) (l27 : Nat) (c27 : Nat) (n28 : Int) (n29 : Int) (h : H) :
  impl_ProcsOk_j1 (curV [(1, .blk), (3, .int .i64), (22, .slice), (23, .int .i64), (24, .int .i64)] (K .normal)) (curV [(1, .blk), (3, .int .i64), (22, .slice), (23, .int .i64), (24, .int .i64)] (K (.exit 1))) (curV [(2, .bool)] (K .ret)) b24 n25 b26 a27 l27 c27 n28 n29 h = evC Try.prog 194 [([true, true, true], impl_ProcsOk_j2_F)] [] (sub code6 [true, true, true, false, true, false, false, true, true, false, false, true, true]) [(1, .pointer (some ⟨b24, 0, none⟩)), (4, .int .i64 n25), (5, .pointer (some ⟨b26, 0, none⟩)), (22, .slice a27 l27 c27), (23, .int .i64 n28), (24, .int .i64 n29)] h (outsOf (some [(1, .blk), (3, .int .i64), (22, .slice), (23, .int .i64), (24, .int .i64)]) [(1, [(1, .blk), (3, .int .i64), (22, .slice), (23, .int .i64), (24, .int .i64)])] (some [(2, .bool)]) K).K := by kernel_rfl

def impl_ProcsOk_j1_F : PT := mkF [(1, .blk), (4, .int .i64), (5, .blk), (22, .slice), (23, .int .i64), (24, .int .i64)] fun K => impl_ProcsOk_j1 (curV [(1, .blk), (3, .int .i64), (22, .slice), (23, .int .i64), (24, .int .i64)] (K .normal)) (curV [(1, .blk), (3, .int .i64), (22, .slice), (23, .int .i64), (24, .int .i64)] (K (.exit 1))) (curV [(2, .bool)] (K .ret))

theorem impl_ProcsOk_j1_V : Valid Try.prog 194 (sub code6 [true, true, true, false, true, false, false, true, true, false, false, true, true]) impl_ProcsOk_j1_F :=
  piece mixed (rows_cons (q' := [true, true, true]) (valid_at (p := [true, true, true, false, true, false, false, true, true, false, false, true, true]) impl_ProcsOk_j2_V rfl) rfl rows_nil) (fun K => by intro b24 n25 b26 a27 l27 c27 n28 n29 h hd; exact (impl_ProcsOk_j1_eq K b24 n25 b26 a27 l27 c27 n28 n29 h) ▸ hd)

theorem impl_ProcsOk_l0_eq (K : Cont) (N : Nat) (b6 : Nat) (n7 : Int) (a8 : Option Addr) (l8 : Nat) (c8 : Nat) (n9 : Int) (n10 : Int) (h : H) :
  impl_ProcsOk_l0 (curV [(1, .blk)] (K (.exit 0))) (curV [(2, .bool)] (K .ret)) (N + 1) b6 n7 a8 l8 c8 n9 n10 h = evC Try.prog 194 [([true, true, false, false, true, true], impl_ProcsOk_j1_F)] [] (sub code6 [true, true, true, false, true, false, false]) [(1, .pointer (some ⟨b6, 0, none⟩)), (3, .int .i64 n7), (22, .slice a8 l8 c8), (23, .int .i64 n9), (24, .int .i64 n10)] h ((outsOf none [(0, [(1, .blk)])] (some [(2, .bool)]) K).loop [(1, .blk), (3, .int .i64), (22, .slice), (23, .int .i64), (24, .int .i64)] (impl_ProcsOk_l0 (curV [(1, .blk)] (K (.exit 0))) (curV [(2, .bool)] (K .ret)) N)).K := by kernel_rfl

def impl_ProcsOk_l0_F : PT := mkL [(1, .blk), (3, .int .i64), (22, .slice), (23, .int .i64), (24, .int .i64)] fun K N => impl_ProcsOk_l0 (curV [(1, .blk)] (K (.exit 0))) (curV [(2, .bool)] (K .ret)) N

theorem impl_ProcsOk_l0_V : Valid Try.prog 194 (sub code6 [true, true, true, false, true, false]) impl_ProcsOk_l0_F :=
  loop_at (code6) [true, true, true, false, true, false] (loop_piece (c := (sub code6 [true, true, true, false, true, false, false])) mixed (rows_cons (q' := [true, true, false, false, true, true]) (valid_at (p := [true, true, true, false, true, false, false]) impl_ProcsOk_j1_V rfl) rfl rows_nil) (fun K => by intro b6 n7 a8 l8 c8 n9 n10 h hd; exact hd) (fun K N => by intro b6 n7 a8 l8 c8 n9 n10 h hd; exact (impl_ProcsOk_l0_eq K N b6 n7 a8 l8 c8 n9 n10 h) ▸ hd))

theorem impl_ProcsOk_l4_eq (K : Cont) (N : Nat) (b75 : Nat) (p76 : Option Addr) (n77 : Int) (a78 : Option Addr) (l78 : Nat) (c78 : Nat) (n79 : Int) (n80 : Int) (h : H) :
  impl_ProcsOk_l4 (curV [(1, .blk), (169, .slice), (170, .int .i64), (171, .int .i64)] (K (.exit 4))) (curV [(2, .bool)] (K .ret)) (N + 1) b75 p76 n77 a78 l78 c78 n79 n80 h = evC Try.prog 194 [] [] (sub code6 [true, true, true, true, false, true, false, false, true, true, false, false, true, true, true, false, false]) [(1, .pointer (some ⟨b75, 0, none⟩)), (9, .pointer p76), (10, .int .i64 n77), (169, .slice a78 l78 c78), (170, .int .i64 n79), (171, .int .i64 n80)] h ((outsOf none [(4, [(1, .blk), (169, .slice), (170, .int .i64), (171, .int .i64)])] (some [(2, .bool)]) K).loop [(1, .blk), (9, .ptr), (10, .int .i64), (169, .slice), (170, .int .i64), (171, .int .i64)] (impl_ProcsOk_l4 (curV [(1, .blk), (169, .slice), (170, .int .i64), (171, .int .i64)] (K (.exit 4))) (curV [(2, .bool)] (K .ret)) N)).K := by kernel_rfl

def impl_ProcsOk_l4_F : PT := mkL [(1, .blk), (9, .ptr), (10, .int .i64), (169, .slice), (170, .int .i64), (171, .int .i64)] fun K N => impl_ProcsOk_l4 (curV [(1, .blk), (169, .slice), (170, .int .i64), (171, .int .i64)] (K (.exit 4))) (curV [(2, .bool)] (K .ret)) N

theorem impl_ProcsOk_l4_V : Valid Try.prog 194 (sub code6 [true, true, true, true, false, true, false, false, true, true, false, false, true, true, true, false]) impl_ProcsOk_l4_F :=
  loop_at (code6) [true, true, true, true, false, true, false, false, true, true, false, false, true, true, true, false] (loop_piece (c := (sub code6 [true, true, true, true, false, true, false, false, true, true, false, false, true, true, true, false, false])) mixed rows_nil (fun K => by intro b75 p76 n77 a78 l78 c78 n79 n80 h hd; exact hd) (fun K N => by intro b75 p76 n77 a78 l78 c78 n79 n80 h hd; exact (impl_ProcsOk_l4_eq K N b75 p76 n77 a78 l78 c78 n79 n80 h) ▸ hd))

theorem impl_ProcsOk_l3_eq (K : Cont) (N : Nat) (b58 : Nat) (a59 : Option Addr) (l59 : Nat) (c59 : Nat) (n60 : Int) (n61 : Int) (h : H) :
  impl_ProcsOk_l3 (curV [] (K (.exit 2))) (curV [(2, .bool)] (K .ret)) (N + 1) b58 a59 l59 c59 n60 n61 h = evC Try.prog 194 [([false, false, true, true, true, false, false, true, true], impl_ProcsOk_l4_F)] [] (sub code6 [true, true, true, true, false, true, false, false]) [(1, .pointer (some ⟨b58, 0, none⟩)), (169, .slice a59 l59 c59), (170, .int .i64 n60), (171, .int .i64 n61)] h ((outsOf none [(2, [])] (some [(2, .bool)]) K).loop [(1, .blk), (169, .slice), (170, .int .i64), (171, .int .i64)] (impl_ProcsOk_l3 (curV [] (K (.exit 2))) (curV [(2, .bool)] (K .ret)) N)).K := by kernel_rfl

def impl_ProcsOk_l3_F : PT := mkL [(1, .blk), (169, .slice), (170, .int .i64), (171, .int .i64)] fun K N => impl_ProcsOk_l3 (curV [] (K (.exit 2))) (curV [(2, .bool)] (K .ret)) N

theorem impl_ProcsOk_l3_V : Valid Try.prog 194 (sub code6 [true, true, true, true, false, true, false]) impl_ProcsOk_l3_F :=
  loop_at (code6) [true, true, true, true, false, true, false] (loop_piece (c := (sub code6 [true, true, true, true, false, true, false, false])) mixed (rows_cons (q' := [true, true, false, false, true, true, true, false]) (valid_at (p := [true, true, true, true, false, true, false, false]) impl_ProcsOk_l4_V rfl) rfl rows_nil) (fun K => by intro b58 a59 l59 c59 n60 n61 h hd; exact hd) (fun K N => by intro b58 a59 l59 c59 n60 n61 h hd; exact (impl_ProcsOk_l3_eq K N b58 a59 l59 c59 n60 n61 h) ▸ hd))

theorem impl_ProcsOk_eq (K : Cont) (a1 : Option Addr) (l1 : Nat) (c1 : Nat) (h : H) :
  impl_ProcsOk (curV [(2, .bool)] (K .ret)) a1 l1 c1 h = evC Try.prog 194 [([false, false, true, false, true, true, true], impl_ProcsOk_l0_F), ([false, false, true, false, true, true, true, true], impl_ProcsOk_l3_F)] [] code6 [(0, .agg ⟨[.slice a1 l1 c1]⟩)] h (outsOf none [] (some [(2, .bool)]) K).K := by kernel_rfl

def impl_ProcsOk_F : PT := mkF [(0, .agg [.slice])] fun K => impl_ProcsOk (curV [(2, .bool)] (K .ret))

theorem impl_ProcsOk_V : Valid Try.prog 194 code6 impl_ProcsOk_F :=
  piece mixed (rows_cons (q' := [true, true, true, false, true, false]) impl_ProcsOk_l0_V rfl (rows_cons (q' := [true, true, true, true, false, true, false]) impl_ProcsOk_l3_V rfl rows_nil)) (fun K => by intro a1 l1 c1 h hd; exact (impl_ProcsOk_eq K a1 l1 c1 h) ▸ hd)

theorem impl_ProcsOk_c0 (a1 : Option Addr) (l1 : Nat) (c1 : Nat) (h : H) (K : Value → H → Prop) :
  impl_ProcsOk (fun t100001 h =>
  K (.bool t100001) h) a1 l1 c1 h = callF Try.prog Try.f6.results.toList impl_ProcsOk_F [.agg ⟨[.slice a1 l1 c1]⟩] h K := by kernel_rfl

theorem impl_ProcsOk_call {a1 : Option Addr} {l1 : Nat} {c1 : Nat} {h : H} {K : Value → H → Prop} (hs : impl_ProcsOk (fun t100001 h =>
  K (.bool t100001) h) a1 l1 c1 h) : callK Try.prog 6 ⟨[.agg ⟨[.slice a1 l1 c1]⟩]⟩ h K :=
  func_calls Try.func6 body6 impl_ProcsOk_V (Nat.le_of_ble_eq_true (by kernel_rfl)) (impl_ProcsOk_c0 a1 l1 c1 h K ▸ hs)

def impl_ProcsOk_M_j2 (kn : Nat → Int → Option Addr → Nat → Int → Int → H → Prop) (kx1 : Nat → Int → Option Addr → Nat → Int → Int → H → Prop) (kr : Bool → H → Prop) (b39 : Nat) (n40 : Int) (n41 : Int) (a42 : Option Addr) (l42 : Nat) (n43 : Int) (n44 : Int) (n45 : Int) (n46 : Int) (n49 : Int) (h : H) : Prop :=
  ifB ((n41 : Int) == 0)
  (ifB ((n45 : Int) != 1)
  (kr false h)
  (ifB ((n49 : Int) == 3)
  (kr false h)
  (ifB ((n46 : Int) != 0)
  (kr false h)
  (kx1 b39 n40 a42 l42 n43 n44 h))))
  (callD Try.prog 19 ⟨[.pointer (some ⟨b39, 0, none⟩), .int .i64 n46]⟩ h fun v56 h =>
  asP v56 fun p57 =>
  ifB p57.isNone
  (kr false h)
  (nz p57 fun b58 o59 =>
  ldI .i64 h b58 o59 fun n60 =>
  ifB ((n60 : Int) == n45)
  (kr false h)
  (nz p57 fun b61 o62 =>
  ldI .i64 h b61 (o62 + 4) fun n63 =>
  ifB ((n63 : Int) == 3)
  (kr false h)
  (kn b39 n40 a42 l42 n43 n44 h))))

def impl_ProcsOk_M_j1 (kn : Nat → Int → Option Addr → Nat → Int → Int → H → Prop) (kx1 : Nat → Int → Option Addr → Nat → Int → Int → H → Prop) (kr : Bool → H → Prop) (b23 : Nat) (n24 : Int) (a25 : Option Addr) (l25 : Nat) (n26 : Int) (n27 : Int) (n28 : Int) (n29 : Int) (n32 : Int) (n34 : Int) (n35 : Int) (n36 : Int) (n37 : Int) (h : H) : Prop :=
  ifB ((bAndNot .i64 n34 65534 : Int) != 0)
  (kr false h)
  (ifB ((bAndNot .i64 (bOr .i64 (bOr .i64 n35 n36) n37) 60926 : Int) != 0)
  (kr false h)
  (ifB ((bAnd .i64 n36 n37 : Int) != 0)
  (kr false h)
  (ifB ((n32 : Int) == 3)
  (ifB ((bOr .i64 (bOr .i64 (bOr .i64 n34 n35) n36) n37 : Int) != 0)
  (kr false h)
  (impl_ProcsOk_M_j2 kn kx1 kr b23 n28 n24 a25 l25 n26 n27 n28 n29 n32 h))
  (impl_ProcsOk_M_j2 kn kx1 kr b23 n28 n24 a25 l25 n26 n27 n28 n29 n32 h))))

def impl_ProcsOk_M_l0 (kx0 : Nat → H → Prop) (kr : Bool → H → Prop) : Nat → Nat → Int → Option Addr → Nat → Int → Int → H → Prop
 | 0, _, _, _, _, _, _, _ => False
 | N + 1, b6, n7, a8, l8, n9, n10, h =>
  ifB (decide ((n10 : Int) < n9))
  (req (0 ≤ (n10 : Int) ∧ (n10 : Int) < (l8 : Nat))
  (nz a8 fun b11 o12 =>
  ldRow h b11 (o12 + n10.toNat * 10) 0 [.int .i64, .int .i64, .int .i64, .int .i64, .int .i64, .int .i64, .int .i64, .int .i64, .int .i64, .int .i64] fun n13 n14 n15 n16 n17 n18 n19 n20 n21 n22 =>
  ifB (decide ((n13 : Int) ≤ n7))
  (kr false h)
  (ifB (decide ((n13 : Int) > 32))
  (kr false h)
  (ifB (decide ((n15 : Int) < 1))
  (kr false h)
  (ifB (decide ((n15 : Int) > 32))
  (kr false h)
  (ifB (decide ((n16 : Int) < 0))
  (kr false h)
  (ifB (decide ((n16 : Int) > 255))
  (kr false h)
  (ifB (decide ((n17 : Int) < 1))
  (kr false h)
  (ifB (decide ((n17 : Int) > 3))
  (kr false h)
  (ifB (decide ((n18 : Int) < 0))
  (kr false h)
  (ifB (decide ((n18 : Int) > 255))
  (kr false h)
  (ifB ((n17 : Int) != 3)
  (ifB ((n18 : Int) != 0)
  (kr false h)
  (impl_ProcsOk_M_j1 (fun b23 n24 a25 l25 n26 n27 h =>
  impl_ProcsOk_M_l0 kx0 kr N b23 n24 a25 l25 n26 (IntKind.i64.wrap (n27 + 1)) h) (fun b28 n29 a30 l30 n31 n32 h =>
  impl_ProcsOk_M_l0 kx0 kr N b28 n29 a30 l30 n31 (IntKind.i64.wrap (n32 + 1)) h) kr b6 n10 a8 l8 n9 n10 n13 n14 n17 n19 n20 n21 n22 h))
  (impl_ProcsOk_M_j1 (fun b33 n34 a35 l35 n36 n37 h =>
  impl_ProcsOk_M_l0 kx0 kr N b33 n34 a35 l35 n36 (IntKind.i64.wrap (n37 + 1)) h) (fun b38 n39 a40 l40 n41 n42 h =>
  impl_ProcsOk_M_l0 kx0 kr N b38 n39 a40 l40 n41 (IntKind.i64.wrap (n42 + 1)) h) kr b6 n10 a8 l8 n9 n10 n13 n14 n17 n19 n20 n21 n22 h)))))))))))))
  (kx0 b6 h)

def impl_ProcsOk_M_l4 (kx4 : Nat → Option Addr → Nat → Int → Int → H → Prop) (kr : Bool → H → Prop) : Nat → Nat → Option Addr → Int → Option Addr → Nat → Int → Int → H → Prop
 | 0, _, _, _, _, _, _, _, _ => False
 | N + 1, b1065, p1066, n1067, a1068, l1068, n1069, n1070, h =>
  nz p1066 fun b1071 o1072 =>
  ldI .i64 h b1071 o1072 fun n1073 =>
  ifB ((n1073 : Int) != 1)
  (nz p1066 fun b1074 o1075 =>
  ldI .i64 h b1074 (o1075 + 1) fun n1076 =>
  callD Try.prog 19 ⟨[.pointer (some ⟨b1065, 0, none⟩), .int .i64 n1076]⟩ h fun v1077 h =>
  asP v1077 fun p1078 =>
  ifB p1078.isNone
  (kr false h)
  (ifB (decide ((n1067 : Int) > 32))
  (kr false h)
  (impl_ProcsOk_M_l4 kx4 kr N b1065 p1078 (IntKind.i64.wrap (n1067 + 1)) a1068 l1068 n1069 n1070 h)))
  (kx4 b1065 a1068 l1068 n1069 n1070 h)

def impl_ProcsOk_M_l3 (kx2 : H → Prop) (kr : Bool → H → Prop) : Nat → Nat → Option Addr → Nat → Int → Int → H → Prop
 | 0, _, _, _, _, _, _ => False
 | N + 1, b1048, a1049, l1049, n1050, n1051, h =>
  ifB (decide ((n1051 : Int) < n1050))
  (req (0 ≤ (n1051 : Int) ∧ (n1051 : Int) < (l1049 : Nat))
  (nz a1049 fun b1052 o1053 =>
  ldRow h b1052 (o1053 + n1051.toNat * 10) 0 [.int .i64, .int .i64, .int .i64, .int .i64, .int .i64, .int .i64, .int .i64, .int .i64, .int .i64, .int .i64] fun n1054 n1055 n1056 n1057 n1058 n1059 n1060 n1061 n1062 n1063 =>
  newD h [.int .i64 0, .int .i64 0, .int .i64 0, .int .i64 0, .int .i64 0, .int .i64 0, .int .i64 0, .int .i64 0, .int .i64 0, .int .i64 0] 38 fun b1064 h =>
  stRow h b1064 0 0 [.int .i64 n1054, .int .i64 n1055, .int .i64 n1056, .int .i64 n1057, .int .i64 n1058, .int .i64 n1059, .int .i64 n1060, .int .i64 n1061, .int .i64 n1062, .int .i64 n1063] fun h =>
  ∃ M1069, impl_ProcsOk_M_l4 (fun b1065 a1066 l1066 n1067 n1068 h =>
  impl_ProcsOk_M_l3 kx2 kr N b1065 a1066 l1066 n1067 (IntKind.i64.wrap (n1068 + 1)) h) kr M1069 b1048 (some ⟨b1064, 0, none⟩) 0 a1049 l1049 n1050 n1051 h))
  (kx2 h)

def impl_ProcsOk_M (kr : Bool → H → Prop) (a1 : Option Addr) (l1 : Nat) (c1 : Nat) (h : H) : Prop :=
  newD h [.slice a1 l1 c1] 27 fun b2 h =>
  ldL h b2 0 fun a3 l3 c3 =>
  ifB (decide (((l3 : Nat) : Int) < 1))
  (kr false h)
  (ldL h b2 0 fun a4 l4 c4 =>
  ifB (decide (((l4 : Nat) : Int) > 32))
  (kr false h)
  (ldL h b2 0 fun a5 l5 c5 =>
  ∃ M9, impl_ProcsOk_M_l0 (fun b6 h =>
  ldL h b6 0 fun a7 l7 c7 =>
  ∃ M8, impl_ProcsOk_M_l3 (fun h =>
  kr true h) kr M8 b6 a7 l7 (l7 : Nat) 0 h) kr M9 b2 0 a5 l5 (l5 : Nat) 0 h))

theorem impl_ProcsOk_M_j2_D {g0 m0 : H} {kn_1 : Nat → Int → Option Addr → Nat → Nat → Int → Int → H → Prop} {kn_2 : Nat → Int → Option Addr → Nat → Int → Int → H → Prop} (Hkn : ∀ (b200001 : Nat) (n200002 : Int) (a200003 : Option Addr) (l200003 : Nat) (c200003 : Nat) (n200004 : Int) (n200005 : Int) (g m : H), Md g0 m0 g m [] → kn_2 b200001 n200002 a200003 l200003 n200004 n200005 m → kn_1 b200001 n200002 a200003 l200003 c200003 n200004 n200005 g)
  {kx1_1 : Nat → Int → Option Addr → Nat → Nat → Int → Int → H → Prop} {kx1_2 : Nat → Int → Option Addr → Nat → Int → Int → H → Prop} (Hkx1 : ∀ (b200001 : Nat) (n200002 : Int) (a200003 : Option Addr) (l200003 : Nat) (c200003 : Nat) (n200004 : Int) (n200005 : Int) (g m : H), Md g0 m0 g m [] → kx1_2 b200001 n200002 a200003 l200003 n200004 n200005 m → kx1_1 b200001 n200002 a200003 l200003 c200003 n200004 n200005 g)
  {kr_1 : Bool → H → Prop} {kr_2 : Bool → H → Prop} (Hkr : ∀ (t200001 : Bool) (g m : H), Md g0 m0 g m [] → kr_2 t200001 m → kr_1 t200001 g) : ∀ (b1039 : Nat) (n1040 : Int) (n1041 : Int) (a1042 : Option Addr) (l1042 : Nat) (c1042 : Nat) (n1043 : Int) (n1044 : Int) (n1045 : Int) (n1046 : Int) (n1047 : Int) (n1048 : Int) (n1049 : Int) (n1050 : Int) (n1051 : Int) (n1052 : Int) (n1053 : Int) (n1054 : Int) (p1055 : Nat) (g m : H), Md g0 m0 g m [lo p1055 [.int .i64 n1045, .int .i64 n1046, .int .i64 n1047, .int .i64 n1048, .int .i64 n1049, .int .i64 n1050, .int .i64 n1051, .int .i64 n1052, .int .i64 n1053, .int .i64 n1054]] → impl_ProcsOk_M_j2 kn_2 kx1_2 kr_2 b1039 n1040 n1041 a1042 l1042 n1043 n1044 n1045 n1046 n1049 m → impl_ProcsOk_j2 kn_1 kx1_1 kr_1 b1039 n1040 n1041 p1055 a1042 l1042 c1042 n1043 n1044 g := by
  intro b1039 n1040 n1041 a1042 l1042 c1042 n1043 n1044 n1045 n1046 n1047 n1048 n1049 n1050 n1051 n1052 n1053 n1054 p1055 g m R
  rw [impl_ProcsOk_M_j2, impl_ProcsOk_j2]
  exact (d_if (p_ldI R rfl (d_if (Hkr false _ _ R.sub)
  (p_ldI R rfl (d_if (Hkr false _ _ R.sub)
  (p_ldI R rfl (d_if (Hkr false _ _ R.sub)
  (Hkx1 b1039 n1040 a1042 l1042 c1042 n1043 n1044 _ _ R.sub)))))))
  (p_ldI R rfl (d_call R fun v1056 g m R =>
  (d_asP fun p1057 =>
  (d_if (Hkr false _ _ R.sub)
  (d_nz fun b1058 o1059 =>
  (d_ldI R fun n1060 =>
  (p_ldI R rfl (d_if (Hkr false _ _ R.sub)
  (d_nz fun b1061 o1062 =>
  (d_ldI R fun n1063 =>
  (d_if (Hkr false _ _ R.sub)
  (Hkn b1039 n1040 a1042 l1042 c1042 n1043 n1044 _ _ R.sub)))))))))))))

theorem impl_ProcsOk_M_j1_D {g0 m0 : H} {kn_1 : Nat → Int → Option Addr → Nat → Nat → Int → Int → H → Prop} {kn_2 : Nat → Int → Option Addr → Nat → Int → Int → H → Prop} (Hkn : ∀ (b200001 : Nat) (n200002 : Int) (a200003 : Option Addr) (l200003 : Nat) (c200003 : Nat) (n200004 : Int) (n200005 : Int) (g m : H), Md g0 m0 g m [] → kn_2 b200001 n200002 a200003 l200003 n200004 n200005 m → kn_1 b200001 n200002 a200003 l200003 c200003 n200004 n200005 g)
  {kx1_1 : Nat → Int → Option Addr → Nat → Nat → Int → Int → H → Prop} {kx1_2 : Nat → Int → Option Addr → Nat → Int → Int → H → Prop} (Hkx1 : ∀ (b200001 : Nat) (n200002 : Int) (a200003 : Option Addr) (l200003 : Nat) (c200003 : Nat) (n200004 : Int) (n200005 : Int) (g m : H), Md g0 m0 g m [] → kx1_2 b200001 n200002 a200003 l200003 n200004 n200005 m → kx1_1 b200001 n200002 a200003 l200003 c200003 n200004 n200005 g)
  {kr_1 : Bool → H → Prop} {kr_2 : Bool → H → Prop} (Hkr : ∀ (t200001 : Bool) (g m : H), Md g0 m0 g m [] → kr_2 t200001 m → kr_1 t200001 g) : ∀ (b1023 : Nat) (n1024 : Int) (a1025 : Option Addr) (l1025 : Nat) (c1025 : Nat) (n1026 : Int) (n1027 : Int) (n1028 : Int) (n1029 : Int) (n1030 : Int) (n1031 : Int) (n1032 : Int) (n1033 : Int) (n1034 : Int) (n1035 : Int) (n1036 : Int) (n1037 : Int) (p1038 : Nat) (g m : H), Md g0 m0 g m [lo p1038 [.int .i64 n1028, .int .i64 n1029, .int .i64 n1030, .int .i64 n1031, .int .i64 n1032, .int .i64 n1033, .int .i64 n1034, .int .i64 n1035, .int .i64 n1036, .int .i64 n1037]] → impl_ProcsOk_M_j1 kn_2 kx1_2 kr_2 b1023 n1024 a1025 l1025 n1026 n1027 n1028 n1029 n1032 n1034 n1035 n1036 n1037 m → impl_ProcsOk_j1 kn_1 kx1_1 kr_1 b1023 n1024 p1038 a1025 l1025 c1025 n1026 n1027 g := by
  intro b1023 n1024 a1025 l1025 c1025 n1026 n1027 n1028 n1029 n1030 n1031 n1032 n1033 n1034 n1035 n1036 n1037 p1038 g m R
  rw [impl_ProcsOk_M_j1, impl_ProcsOk_j1]
  exact (p_ldI R rfl (p_ldI R rfl (d_if (Hkr false _ _ R.sub)
  (p_ldI R rfl (p_ldI R rfl (p_ldI R rfl (d_if (Hkr false _ _ R.sub)
  (p_ldI R rfl (p_ldI R rfl (d_if (Hkr false _ _ R.sub)
  (p_ldI R rfl (d_if (p_ldI R rfl (p_ldI R rfl (p_ldI R rfl (p_ldI R rfl (d_if (Hkr false _ _ R.sub)
  (impl_ProcsOk_M_j2_D (by exact fun b1039 n1040 a1041 l1041 c1041 n1042 n1043 g m R =>
  (Hkn b1039 n1040 a1041 l1041 c1041 n1042 n1043 _ _ R.sub))
  (by exact fun b1044 n1045 a1046 l1046 c1046 n1047 n1048 g m R =>
  (Hkx1 b1044 n1045 a1046 l1046 c1046 n1047 n1048 _ _ R.sub))
  (by exact fun t1049 g m R =>
  (Hkr t1049 _ _ R.sub)) b1023 n1028 n1024 a1025 l1025 c1025 n1026 n1027 n1028 n1029 n1030 n1031 n1032 n1033 n1034 n1035 n1036 n1037 p1038 _ _ R.sub))))))
  (impl_ProcsOk_M_j2_D (by exact fun b1050 n1051 a1052 l1052 c1052 n1053 n1054 g m R =>
  (Hkn b1050 n1051 a1052 l1052 c1052 n1053 n1054 _ _ R.sub))
  (by exact fun b1055 n1056 a1057 l1057 c1057 n1058 n1059 g m R =>
  (Hkx1 b1055 n1056 a1057 l1057 c1057 n1058 n1059 _ _ R.sub))
  (by exact fun t1060 g m R =>
  (Hkr t1060 _ _ R.sub)) b1023 n1028 n1024 a1025 l1025 c1025 n1026 n1027 n1028 n1029 n1030 n1031 n1032 n1033 n1034 n1035 n1036 n1037 p1038 _ _ R.sub)))))))))))))

theorem impl_ProcsOk_M_l0_D {g0 m0 : H} {kx0_1 : Nat → H → Prop} {kx0_2 : Nat → H → Prop} (Hkx0 : ∀ (b200001 : Nat) (g m : H), Md g0 m0 g m [] → kx0_2 b200001 m → kx0_1 b200001 g)
  {kr_1 : Bool → H → Prop} {kr_2 : Bool → H → Prop} (Hkr : ∀ (t200001 : Bool) (g m : H), Md g0 m0 g m [] → kr_2 t200001 m → kr_1 t200001 g) : ∀ (N : Nat) (b1006 : Nat) (n1007 : Int) (a1008 : Option Addr) (l1008 : Nat) (c1008 : Nat) (n1009 : Int) (n1010 : Int) (g m : H), Md g0 m0 g m [] → impl_ProcsOk_M_l0 kx0_2 kr_2 N b1006 n1007 a1008 l1008 n1009 n1010 m → impl_ProcsOk_l0 kx0_1 kr_1 N b1006 n1007 a1008 l1008 c1008 n1009 n1010 g := by
  intro N
  induction N with
  | zero => intro b1006 n1007 a1008 l1008 c1008 n1009 n1010 g m R h0; exact h0.elim
  | succ N ih =>
    intro b1006 n1007 a1008 l1008 c1008 n1009 n1010 g m R
    rw [impl_ProcsOk_M_l0, impl_ProcsOk_l0]
    exact (d_if (d_req (d_nz fun b1011 o1012 =>
  (d_row_I10 R fun n1013 n1014 n1015 n1016 n1017 n1018 n1019 n1020 n1021 n1022 =>
  (p_new R fun p1023 g R =>
  (p_stRow R (cs' := [.int .i64 n1013, .int .i64 n1014, .int .i64 n1015, .int .i64 n1016, .int .i64 n1017, .int .i64 n1018, .int .i64 n1019, .int .i64 n1020, .int .i64 n1021, .int .i64 n1022]) ⟨rfl, rfl, rfl⟩ fun g R =>
  (p_ldI R rfl (d_if (Hkr false _ _ R.sub)
  (p_ldI R rfl (d_if (Hkr false _ _ R.sub)
  (p_ldI R rfl (d_if (Hkr false _ _ R.sub)
  (p_ldI R rfl (d_if (Hkr false _ _ R.sub)
  (p_ldI R rfl (d_if (Hkr false _ _ R.sub)
  (p_ldI R rfl (d_if (Hkr false _ _ R.sub)
  (p_ldI R rfl (d_if (Hkr false _ _ R.sub)
  (p_ldI R rfl (d_if (Hkr false _ _ R.sub)
  (p_ldI R rfl (d_if (Hkr false _ _ R.sub)
  (p_ldI R rfl (d_if (Hkr false _ _ R.sub)
  (p_ldI R rfl (d_if (p_ldI R rfl (d_if (Hkr false _ _ R.sub)
  (impl_ProcsOk_M_j1_D (by exact fun b1024 n1025 a1026 l1026 c1026 n1027 n1028 g m R =>
  (ih b1024 n1025 a1026 l1026 c1026 n1027 (IntKind.i64.wrap (n1028 + 1)) _ _ R.sub))
  (by exact fun b1029 n1030 a1031 l1031 c1031 n1032 n1033 g m R =>
  (ih b1029 n1030 a1031 l1031 c1031 n1032 (IntKind.i64.wrap (n1033 + 1)) _ _ R.sub))
  (by exact fun t1034 g m R =>
  (Hkr t1034 _ _ R.sub)) b1006 n1010 a1008 l1008 c1008 n1009 n1010 n1013 n1014 n1015 n1016 n1017 n1018 n1019 n1020 n1021 n1022 p1023 _ _ R.sub)))
  (impl_ProcsOk_M_j1_D (by exact fun b1035 n1036 a1037 l1037 c1037 n1038 n1039 g m R =>
  (ih b1035 n1036 a1037 l1037 c1037 n1038 (IntKind.i64.wrap (n1039 + 1)) _ _ R.sub))
  (by exact fun b1040 n1041 a1042 l1042 c1042 n1043 n1044 g m R =>
  (ih b1040 n1041 a1042 l1042 c1042 n1043 (IntKind.i64.wrap (n1044 + 1)) _ _ R.sub))
  (by exact fun t1045 g m R =>
  (Hkr t1045 _ _ R.sub)) b1006 n1010 a1008 l1008 c1008 n1009 n1010 n1013 n1014 n1015 n1016 n1017 n1018 n1019 n1020 n1021 n1022 p1023 _ _ R.sub))))))))))))))))))))))))))))
  (Hkx0 b1006 _ _ R.sub))

theorem impl_ProcsOk_M_l4_D {g0 m0 : H} {kx4_1 : Nat → Option Addr → Nat → Nat → Int → Int → H → Prop} {kx4_2 : Nat → Option Addr → Nat → Int → Int → H → Prop} (Hkx4 : ∀ (b200001 : Nat) (a200002 : Option Addr) (l200002 : Nat) (c200002 : Nat) (n200003 : Int) (n200004 : Int) (g m : H), Md g0 m0 g m [] → kx4_2 b200001 a200002 l200002 n200003 n200004 m → kx4_1 b200001 a200002 l200002 c200002 n200003 n200004 g)
  {kr_1 : Bool → H → Prop} {kr_2 : Bool → H → Prop} (Hkr : ∀ (t200001 : Bool) (g m : H), Md g0 m0 g m [] → kr_2 t200001 m → kr_1 t200001 g) : ∀ (N : Nat) (b2065 : Nat) (p2066 : Option Addr) (n2067 : Int) (a2068 : Option Addr) (l2068 : Nat) (c2068 : Nat) (n2069 : Int) (n2070 : Int) (g m : H), Md g0 m0 g m [] → impl_ProcsOk_M_l4 kx4_2 kr_2 N b2065 p2066 n2067 a2068 l2068 n2069 n2070 m → impl_ProcsOk_l4 kx4_1 kr_1 N b2065 p2066 n2067 a2068 l2068 c2068 n2069 n2070 g := by
  intro N
  induction N with
  | zero => intro b2065 p2066 n2067 a2068 l2068 c2068 n2069 n2070 g m R h0; exact h0.elim
  | succ N ih =>
    intro b2065 p2066 n2067 a2068 l2068 c2068 n2069 n2070 g m R
    rw [impl_ProcsOk_M_l4, impl_ProcsOk_l4]
    exact (d_nz fun b2071 o2072 =>
  (d_ldI R fun n2073 =>
  (d_if (d_nz fun b2074 o2075 =>
  (d_ldI R fun n2076 =>
  (d_call R fun v2077 g m R =>
  (d_asP fun p2078 =>
  (d_if (Hkr false _ _ R.sub)
  (d_if (Hkr false _ _ R.sub)
  (ih b2065 p2078 (IntKind.i64.wrap (n2067 + 1)) a2068 l2068 c2068 n2069 n2070 _ _ R.sub)))))))
  (Hkx4 b2065 a2068 l2068 c2068 n2069 n2070 _ _ R.sub))))

theorem impl_ProcsOk_M_l3_D {g0 m0 : H} {kx2_1 : H → Prop} {kx2_2 : H → Prop} (Hkx2 : ∀ (g m : H), Md g0 m0 g m [] → kx2_2 m → kx2_1 g)
  {kr_1 : Bool → H → Prop} {kr_2 : Bool → H → Prop} (Hkr : ∀ (t200001 : Bool) (g m : H), Md g0 m0 g m [] → kr_2 t200001 m → kr_1 t200001 g) : ∀ (N : Nat) (b2048 : Nat) (a2049 : Option Addr) (l2049 : Nat) (c2049 : Nat) (n2050 : Int) (n2051 : Int) (g m : H), Md g0 m0 g m [] → impl_ProcsOk_M_l3 kx2_2 kr_2 N b2048 a2049 l2049 n2050 n2051 m → impl_ProcsOk_l3 kx2_1 kr_1 N b2048 a2049 l2049 c2049 n2050 n2051 g := by
  intro N
  induction N with
  | zero => intro b2048 a2049 l2049 c2049 n2050 n2051 g m R h0; exact h0.elim
  | succ N ih =>
    intro b2048 a2049 l2049 c2049 n2050 n2051 g m R
    rw [impl_ProcsOk_M_l3, impl_ProcsOk_l3]
    exact (d_if (d_req (d_nz fun b2052 o2053 =>
  (d_row_I10 R fun n2054 n2055 n2056 n2057 n2058 n2059 n2060 n2061 n2062 n2063 =>
  (d_new R fun b2064 g m R =>
  (d_stRow R fun g m R =>
  (d_ex fun N => impl_ProcsOk_M_l4_D (by exact fun b2065 a2066 l2066 c2066 n2067 n2068 g m R =>
  (ih b2065 a2066 l2066 c2066 n2067 (IntKind.i64.wrap (n2068 + 1)) _ _ R.sub))
  (by exact fun t2069 g m R =>
  (Hkr t2069 _ _ R.sub)) N b2048 (some ⟨b2064, 0, none⟩) 0 a2049 l2049 c2049 n2050 n2051 _ _ R.sub))))))
  (Hkx2 _ _ R.sub))

theorem impl_ProcsOk_M_D {g0 m0 : H} {kr_1 : Bool → H → Prop} {kr_2 : Bool → H → Prop} (Hkr : ∀ (t200001 : Bool) (g m : H), Md g0 m0 g m [] → kr_2 t200001 m → kr_1 t200001 g) : ∀ (a1001 : Option Addr) (l1001 : Nat) (c1001 : Nat) (g m : H), Md g0 m0 g m [] → impl_ProcsOk_M kr_2 a1001 l1001 c1001 m → impl_ProcsOk kr_1 a1001 l1001 c1001 g := by
  intro a1001 l1001 c1001 g m R
  rw [impl_ProcsOk_M, impl_ProcsOk]
  exact (d_new R fun b1002 g m R =>
  (d_ldL R fun a1003 l1003 c1003 =>
  (d_if (Hkr false _ _ R.sub)
  (d_ldL R fun a1004 l1004 c1004 =>
  (d_if (Hkr false _ _ R.sub)
  (d_ldL R fun a1005 l1005 c1005 =>
  (d_ex fun N => impl_ProcsOk_M_l0_D (by exact fun b1006 g m R =>
  (d_ldL R fun a1007 l1007 c1007 =>
  (d_ex fun N => impl_ProcsOk_M_l3_D (by exact fun g m R =>
  (Hkr true _ _ R.sub))
  (by exact fun t1008 g m R =>
  (Hkr t1008 _ _ R.sub)) N b1006 a1007 l1007 c1007 (l1007 : Nat) 0 _ _ R.sub)))
  (by exact fun t1009 g m R =>
  (Hkr t1009 _ _ R.sub)) N b1002 0 a1005 l1005 c1005 (l1005 : Nat) 0 _ _ R.sub)))))))

theorem impl_ProcsOk_M_call {a1 : Option Addr} {l1 : Nat} {c1 : Nat} {h : H} {K : Value → H → Prop} (hs : impl_ProcsOk_M (fun t300001 h =>
  K (.bool t300001) h) a1 l1 c1 h) : callD Try.prog 6 ⟨[.agg ⟨[.slice a1 l1 c1]⟩]⟩ h K :=
  fun g r => impl_ProcsOk_call (impl_ProcsOk_M_D (by exact fun t300001 g m R =>
(fun h => ⟨m, R.af, h⟩)) _ _ _ _ _ (Md.start r) hs)

noncomputable def code7 : Code := codeOf Try.f7
theorem body7 : Try.f7.body = some code7 := by kernel_rfl
def impl_NewProcs (kr : Nat → H → Prop) (h : H) : Prop :=
  new h [.slice none 0 0] 27 fun b1 h =>
  new h [.int .i64 1, .int .i64 0, .int .i64 1, .int .i64 0, .int .i64 1, .int .i64 0, .int .i64 0, .int .i64 0, .int .i64 0, .int .i64 0] 38 fun b2 h =>
  stRow h b1 0 0 [.slice (some ⟨b2, 0, none⟩) 1 1] fun h =>
  kr b1 h

theorem impl_NewProcs_eq (K : Cont)  (h : H) :
  impl_NewProcs (curV [(0, .blk)] (K .ret)) h = evC Try.prog 4 [] [] code7 [] h (outsOf none [] (some [(0, .blk)]) K).K := by kernel_rfl

def impl_NewProcs_F : PT := mkF [] fun K => impl_NewProcs (curV [(0, .blk)] (K .ret))

theorem impl_NewProcs_V : Valid Try.prog 4 code7 impl_NewProcs_F :=
  piece mixed rows_nil (fun K => by intro  h hd; exact (impl_NewProcs_eq K  h) ▸ hd)

theorem impl_NewProcs_c0  (h : H) (K : Value → H → Prop) :
  impl_NewProcs (fun b100001 h =>
  ldRow h b100001 0 0 [.slice] fun a100002 l100002 c100002 =>
  K (.agg ⟨[.slice a100002 l100002 c100002]⟩) h) h = callF Try.prog Try.f7.results.toList impl_NewProcs_F [] h K := by kernel_rfl

theorem impl_NewProcs_call {h : H} {K : Value → H → Prop} (hs : impl_NewProcs (fun b100001 h =>
  ldRow h b100001 0 0 [.slice] fun a100002 l100002 c100002 =>
  K (.agg ⟨[.slice a100002 l100002 c100002]⟩) h) h) : callK Try.prog 7 ⟨[]⟩ h K :=
  func_calls Try.func7 body7 impl_NewProcs_V (Nat.le_of_ble_eq_true (by kernel_rfl)) (impl_NewProcs_c0  h K ▸ hs)

def impl_NewProcs_M (kr : Option Addr → Nat → Nat → H → Prop) (h : H) : Prop :=
  newD h [.int .i64 1, .int .i64 0, .int .i64 1, .int .i64 0, .int .i64 1, .int .i64 0, .int .i64 0, .int .i64 0, .int .i64 0, .int .i64 0] 38 fun b1 h =>
  kr (some ⟨b1, 0, none⟩) 1 1 h

theorem impl_NewProcs_M_D {g0 m0 : H} {kr_1 : Nat → H → Prop} {kr_2 : Option Addr → Nat → Nat → H → Prop} (Hkr : ∀ (a200001 : Option Addr) (l200001 : Nat) (c200001 : Nat) (p200002 : Nat) (g m : H), Md g0 m0 g m [lo p200002 [.slice a200001 l200001 c200001]] → kr_2 a200001 l200001 c200001 m → kr_1 p200002 g) : ∀ (g m : H), Md g0 m0 g m [] → impl_NewProcs_M kr_2  m → impl_NewProcs kr_1  g := by
  intro g m R
  rw [impl_NewProcs_M, impl_NewProcs]
  exact (p_new R fun p1001 g R =>
  (d_new R fun b1002 g m R =>
  (p_stRow R (cs' := [.slice (some ⟨b1002, 0, none⟩) 1 1]) ⟨rfl, rfl, rfl⟩ fun g R =>
  (Hkr (some ⟨b1002, 0, none⟩) 1 1 p1001 _ _ R.sub))))

theorem impl_NewProcs_M_call {h : H} {K : Value → H → Prop} (hs : impl_NewProcs_M (fun a300001 l300001 c300001 h =>
  K (.agg ⟨[.slice a300001 l300001 c300001]⟩) h) h) : callD Try.prog 7 ⟨[]⟩ h K :=
  fun g r => impl_NewProcs_call (impl_NewProcs_M_D (by exact fun a300001 l300001 c300001 p300002 g m R =>
(p_row_L R rfl (fun h => ⟨m, R.af, h⟩)))  _ _ (Md.start r) hs)

noncomputable def code8 : Code := codeOf Try.f8
theorem body8 : Try.f8.body = some code8 := by kernel_rfl
def spec_DrawProcStep (kr : Nat → Nat → H → Prop) (code_1 : Option Addr) (code_l1 : Nat) (code_c1 : Nat) (h : H) : Prop :=
  new h [.slice none 0 0] 27 fun b2 h =>
  new h [.int .i64 0, .int .i64 0, .int .i64 0, .int .i64 0] 30 fun b3 h =>
  callK Try.prog 20 ⟨[.slice code_1 code_l1 code_c1]⟩ h fun v4 h =>
  asP v4 fun p5 =>
  callK Try.prog 21 ⟨[.pointer p5]⟩ h fun v6 h =>
  elF False (.agg [.slice]) v6 fun a7 l7 c7 =>
  new h [.slice none 0 0] 27 fun b8 h =>
  stRow h b8 0 0 [.slice a7 l7 c7] fun h =>
  ldRow h b8 0 0 [.slice] fun a9 l9 c9 =>
  callK Try.prog 22 ⟨[.pointer p5, .agg ⟨[.slice a9 l9 c9]⟩]⟩ h fun v10 h =>
  elF False (.agg [.int .i64, .int .i64, .int .i64, .int .i64]) v10 fun n11 n12 n13 n14 =>
  new h [.int .i64 0, .int .i64 0, .int .i64 0, .int .i64 0] 30 fun b15 h =>
  stRow h b15 0 0 [.int .i64 n11, .int .i64 n12, .int .i64 n13, .int .i64 n14] fun h =>
  ldRow h b8 0 0 [.slice] fun a16 l16 c16 =>
  ldRow h b15 0 0 [.int .i64, .int .i64, .int .i64, .int .i64] fun n17 n18 n19 n20 =>
  stRow h b2 0 0 [.slice a16 l16 c16] fun h =>
  heldRow h b15 0 0 [.int .i64 n17, .int .i64 n18, .int .i64 n19, .int .i64 n20] (stRow h b3 0 0 [.int .i64 n17, .int .i64 n18, .int .i64 n19, .int .i64 n20] fun h =>
  kr b2 b3 h)

theorem spec_DrawProcStep_eq (K : Cont) (code_1 : Option Addr) (code_l1 : Nat) (code_c1 : Nat) (h : H) :
  spec_DrawProcStep (curV [(2, .blk), (3, .blk)] (K .ret)) code_1 code_l1 code_c1 h = evC Try.prog 16 [] [] code8 [(0, .slice code_1 code_l1 code_c1)] h (outsOf none [] (some [(2, .blk), (3, .blk)]) K).K := by kernel_rfl

def spec_DrawProcStep_F : PT := mkF [(0, .slice)] fun K => spec_DrawProcStep (curV [(2, .blk), (3, .blk)] (K .ret))

theorem spec_DrawProcStep_V : Valid Try.prog 16 code8 spec_DrawProcStep_F :=
  piece mixed rows_nil (fun K => by intro code_1 code_l1 code_c1 h hd; exact (spec_DrawProcStep_eq K code_1 code_l1 code_c1 h) ▸ hd)

theorem spec_DrawProcStep_c0 (code_1 : Option Addr) (code_l1 : Nat) (code_c1 : Nat) (h : H) (K : Value → H → Prop) :
  spec_DrawProcStep (fun b100001 b100002 h =>
  ldRow h b100001 0 0 [.slice] fun a100003 l100003 c100003 =>
  ldRow h b100002 0 0 [.int .i64, .int .i64, .int .i64, .int .i64] fun n100004 n100005 n100006 n100007 =>
  K (.tuple ⟨[.agg ⟨[.slice a100003 l100003 c100003]⟩, .agg ⟨[.int .i64 n100004, .int .i64 n100005, .int .i64 n100006, .int .i64 n100007]⟩]⟩) h) code_1 code_l1 code_c1 h = callF Try.prog Try.f8.results.toList spec_DrawProcStep_F [.slice code_1 code_l1 code_c1] h K := by kernel_rfl

theorem spec_DrawProcStep_call {code_1 : Option Addr} {code_l1 : Nat} {code_c1 : Nat} {h : H} {K : Value → H → Prop} (hs : spec_DrawProcStep (fun b100001 b100002 h =>
  ldRow h b100001 0 0 [.slice] fun a100003 l100003 c100003 =>
  ldRow h b100002 0 0 [.int .i64, .int .i64, .int .i64, .int .i64] fun n100004 n100005 n100006 n100007 =>
  K (.tuple ⟨[.agg ⟨[.slice a100003 l100003 c100003]⟩, .agg ⟨[.int .i64 n100004, .int .i64 n100005, .int .i64 n100006, .int .i64 n100007]⟩]⟩) h) code_1 code_l1 code_c1 h) : callK Try.prog 8 ⟨[.slice code_1 code_l1 code_c1]⟩ h K :=
  func_calls Try.func8 body8 spec_DrawProcStep_V (Nat.le_of_ble_eq_true (by kernel_rfl)) (spec_DrawProcStep_c0 code_1 code_l1 code_c1 h K ▸ hs)

theorem o_el_AI4E {n0 : Int} {n1 : Int} {n2 : Int} {n3 : Int} {K : Int → Int → Int → Int → Prop} (g : K n0 n1 n2 n3) : elF False (.agg [.int .i64, .int .i64, .int .i64, .int .i64]) (.agg ⟨[.int .i64 n0, .int .i64 n1, .int .i64 n2, .int .i64 n3]⟩) K := Eq.mpr (by kernel_rfl) g
theorem d_el_AI4E {v : Value} {K2 K1 : Int → Int → Int → Int → Prop} (f : ∀ n0 n1 n2 n3, K2 n0 n1 n2 n3 → K1 n0 n1 n2 n3) : elF False (.agg [.int .i64, .int .i64, .int .i64, .int .i64]) v K2 → elF False (.agg [.int .i64, .int .i64, .int .i64, .int .i64]) v K1 :=
  d_el (s := .agg [.int .i64, .int .i64, .int .i64, .int .i64]) (Eq.mpr (by kernel_rfl) f)
def spec_DrawProcStep_M (kr : Option Addr → Nat → Nat → Int → Int → Int → Int → H → Prop) (code_1 : Option Addr) (code_l1 : Nat) (code_c1 : Nat) (h : H) : Prop :=
  callD Try.prog 20 ⟨[.slice code_1 code_l1 code_c1]⟩ h fun v2 h =>
  asP v2 fun p3 =>
  callD Try.prog 21 ⟨[.pointer p3]⟩ h fun v4 h =>
  elF False (.agg [.slice]) v4 fun a5 l5 c5 =>
  callD Try.prog 22 ⟨[.pointer p3, .agg ⟨[.slice a5 l5 c5]⟩]⟩ h fun v6 h =>
  elF False (.agg [.int .i64, .int .i64, .int .i64, .int .i64]) v6 fun n7 n8 n9 n10 =>
  kr a5 l5 c5 n7 n8 n9 n10 h

theorem spec_DrawProcStep_M_D {g0 m0 : H} {kr_1 : Nat → Nat → H → Prop} {kr_2 : Option Addr → Nat → Nat → Int → Int → Int → Int → H → Prop} (Hkr : ∀ (a200001 : Option Addr) (l200001 : Nat) (c200001 : Nat) (n200003 : Int) (n200004 : Int) (n200005 : Int) (n200006 : Int) (p200002 : Nat) (p200007 : Nat) (g m : H), Md g0 m0 g m [lo p200002 [.slice a200001 l200001 c200001], lo p200007 [.int .i64 n200003, .int .i64 n200004, .int .i64 n200005, .int .i64 n200006]] → kr_2 a200001 l200001 c200001 n200003 n200004 n200005 n200006 m → kr_1 p200002 p200007 g) : ∀ (code_1001 : Option Addr) (code_l1001 : Nat) (code_c1001 : Nat) (g m : H), Md g0 m0 g m [] → spec_DrawProcStep_M kr_2 code_1001 code_l1001 code_c1001 m → spec_DrawProcStep kr_1 code_1001 code_l1001 code_c1001 g := by
  intro code_1001 code_l1001 code_c1001 g m R
  rw [spec_DrawProcStep_M, spec_DrawProcStep]
  exact (p_new R fun p1002 g R =>
  (p_new R fun p1003 g R =>
  (d_call R fun v1004 g m R =>
  (d_asP fun p1005 =>
  (d_call R fun v1006 g m R =>
  (d_el_ALE fun a1007 l1007 c1007 =>
  (p_new R fun p1008 g R =>
  (p_stRow R (cs' := [.slice a1007 l1007 c1007]) ⟨rfl, rfl, rfl⟩ fun g R =>
  (p_row_L R rfl (d_call R fun v1009 g m R =>
  (d_el_AI4E fun n1010 n1011 n1012 n1013 =>
  (p_new R fun p1014 g R =>
  (p_stRow R (cs' := [.int .i64 n1010, .int .i64 n1011, .int .i64 n1012, .int .i64 n1013]) ⟨rfl, rfl, rfl⟩ fun g R =>
  (p_row_L R rfl (p_row_I4 R rfl rfl rfl rfl (p_stRow R (cs' := [.slice a1007 l1007 c1007]) ⟨rfl, rfl, rfl⟩ fun g R =>
  (p_held R rfl (p_stRow R (cs' := [.int .i64 n1010, .int .i64 n1011, .int .i64 n1012, .int .i64 n1013]) ⟨rfl, rfl, rfl⟩ fun g R =>
  (Hkr a1007 l1007 c1007 n1010 n1011 n1012 n1013 p1002 p1003 _ _ R.sub)))))))))))))))))))

theorem spec_DrawProcStep_M_call {code_1 : Option Addr} {code_l1 : Nat} {code_c1 : Nat} {h : H} {K : Value → H → Prop} (hs : spec_DrawProcStep_M (fun a300001 l300001 c300001 n300003 n300004 n300005 n300006 h =>
  K (.tuple ⟨[.agg ⟨[.slice a300001 l300001 c300001]⟩, .agg ⟨[.int .i64 n300003, .int .i64 n300004, .int .i64 n300005, .int .i64 n300006]⟩]⟩) h) code_1 code_l1 code_c1 h) : callD Try.prog 8 ⟨[.slice code_1 code_l1 code_c1]⟩ h K :=
  fun g r => spec_DrawProcStep_call (spec_DrawProcStep_M_D (by exact fun a300001 l300001 c300001 n300003 n300004 n300005 n300006 p300002 p300007 g m R =>
(p_row_L R rfl (p_row_I4 R rfl rfl rfl rfl (fun h => ⟨m, R.af, h⟩)))) _ _ _ _ _ (Md.start r) hs)

noncomputable def code9 : Code := codeOf Try.f9
theorem body9 : Try.f9.body = some code9 := by kernel_rfl
def spec_ProcsOk_l0 (kx0 : Nat → H → Prop) (kr : Bool → H → Prop) : Nat → Nat → Int → H → Prop
 | 0, _, _, _ => False
 | N + 1, b17, n18, h =>
  ldL h b17 0 fun a19 l19 c19 =>
  ifB (decide ((n18 : Int) < (l19 : Nat)))
  (ldRow h b17 0 0 [.slice] fun a20 l20 c20 =>
  callK Try.prog 23 ⟨[.agg ⟨[.slice a20 l20 c20]⟩, .int .i64 n18]⟩ h fun v21 h =>
  asB v21 fun t22 =>
  ifB (!t22)
  (kr false h)
  (ifB (decide ((n18 : Int) > 0))
  (ldRow h b17 0 0 [.slice] fun a23 l23 c23 =>
  ldL h b17 0 fun a24 l24 c24 =>
  req (0 ≤ (n18 : Int) ∧ (n18 : Int) < (l24 : Nat))
  (nz a24 fun b25 o26 =>
  ldI .i64 h b25 ((o26 + n18.toNat * 10) + 1) fun n27 =>
  callK Try.prog 24 ⟨[.agg ⟨[.slice a23 l23 c23]⟩, .int .i64 n27]⟩ h fun v28 h =>
  asB v28 fun t29 =>
  ifB (!t29)
  (kr false h)
  (spec_ProcsOk_l0 kx0 kr N b17 (IntKind.i64.wrap (n18 + 1)) h)))
  (spec_ProcsOk_l0 kx0 kr N b17 (IntKind.i64.wrap (n18 + 1)) h)))
  (kx0 b17 h)

def spec_ProcsOk_l2 (kx4 : Nat → Int → Int → H → Prop) : Nat → Nat → Int → Int → Int → H → Prop
 | 0, _, _, _, _, _ => False
 | N + 1, b38, n39, n40, n41, h =>
  ldL h b38 0 fun a42 l42 c42 =>
  ifB (decide ((n41 : Int) ≤ (l42 : Nat)))
  (ifB ((n40 : Int) != 1)
  (ldL h b38 0 fun a43 l43 c43 =>
  ldRow h b38 0 0 [.slice] fun a44 l44 c44 =>
  callK Try.prog 25 ⟨[.agg ⟨[.slice a44 l44 c44]⟩, .int .i64 n40]⟩ h fun v45 h =>
  asI .i64 v45 fun n46 =>
  cell h b38 0 = some (.slice a43 l43 c43) ∧ (req (0 ≤ (n46 : Int) ∧ (n46 : Int) < (l43 : Nat))
  (nz a43 fun b47 o48 =>
  ldI .i64 h b47 ((o48 + n46.toNat * 10) + 1) fun n49 =>
  spec_ProcsOk_l2 kx4 N b38 n39 n49 (IntKind.i64.wrap (n41 + 1)) h)))
  (kx4 b38 n39 n40 h))
  (kx4 b38 n39 n40 h)

def spec_ProcsOk_l1 (kx2 : H → Prop) (kr : Bool → H → Prop) : Nat → Nat → Int → H → Prop
 | 0, _, _, _ => False
 | N + 1, b31, n32, h =>
  ldL h b31 0 fun a33 l33 c33 =>
  ifB (decide ((n32 : Int) < (l33 : Nat)))
  (ldL h b31 0 fun a34 l34 c34 =>
  req (0 ≤ (n32 : Int) ∧ (n32 : Int) < (l34 : Nat))
  (nz a34 fun b35 o36 =>
  ldI .i64 h b35 (o36 + n32.toNat * 10) fun n37 =>
  ∃ M41, spec_ProcsOk_l2 (fun b38 n39 n40 h =>
  ifB ((n40 : Int) != 1)
  (kr false h)
  (spec_ProcsOk_l1 kx2 kr N b38 (IntKind.i64.wrap (n39 + 1)) h)) M41 b31 n32 n37 0 h))
  (kx2 h)

def spec_ProcsOk (kr : Bool → H → Prop) (a1 : Option Addr) (l1 : Nat) (c1 : Nat) (h : H) : Prop :=
  new h [.slice a1 l1 c1] 27 fun b2 h =>
  ldL h b2 0 fun a3 l3 c3 =>
  ifB (((l3 : Nat) : Int) == 0)
  (kr false h)
  (ldL h b2 0 fun a4 l4 c4 =>
  ifB (decide (((l4 : Nat) : Int) > 32))
  (kr false h)
  (ldL h b2 0 fun a5 l5 c5 =>
  req (0 ≤ (0 : Int) ∧ (0 : Int) < (l5 : Nat))
  (nz a5 fun b6 o7 =>
  ldI .i64 h b6 (o7 + (0 : Int).toNat * 10) fun n8 =>
  ifB ((n8 : Int) != 1)
  (kr false h)
  (ldL h b2 0 fun a9 l9 c9 =>
  req (0 ≤ (0 : Int) ∧ (0 : Int) < (l9 : Nat))
  (nz a9 fun b10 o11 =>
  ldI .i64 h b10 ((o11 + (0 : Int).toNat * 10) + 1) fun n12 =>
  ifB ((n12 : Int) != 0)
  (kr false h)
  (ldL h b2 0 fun a13 l13 c13 =>
  req (0 ≤ (0 : Int) ∧ (0 : Int) < (l13 : Nat))
  (nz a13 fun b14 o15 =>
  ldI .i64 h b14 ((o15 + (0 : Int).toNat * 10) + 4) fun n16 =>
  ifB ((n16 : Int) == 3)
  (kr false h)
  (∃ M19, spec_ProcsOk_l0 (fun b17 h =>
  ∃ M18, spec_ProcsOk_l1 (fun h =>
  kr true h) kr M18 b17 0 h) kr M19 b2 0 h))))))))

theorem spec_ProcsOk_l0_eq (K : Cont) (N : Nat) (b17 : Nat) (n18 : Int) (h : H) :
  spec_ProcsOk_l0 (curV [(1, .blk)] (K (.exit 0))) (curV [(2, .bool)] (K .ret)) (N + 1) b17 n18 h = evC Try.prog 101 [] [] (sub code9 [true, true, false, true, false, false]) [(1, .pointer (some ⟨b17, 0, none⟩)), (3, .int .i64 n18)] h ((outsOf none [(0, [(1, .blk)])] (some [(2, .bool)]) K).loop [(1, .blk), (3, .int .i64)] (spec_ProcsOk_l0 (curV [(1, .blk)] (K (.exit 0))) (curV [(2, .bool)] (K .ret)) N)).K := by kernel_rfl

def spec_ProcsOk_l0_F : PT := mkL [(1, .blk), (3, .int .i64)] fun K N => spec_ProcsOk_l0 (curV [(1, .blk)] (K (.exit 0))) (curV [(2, .bool)] (K .ret)) N

theorem spec_ProcsOk_l0_V : Valid Try.prog 101 (sub code9 [true, true, false, true, false]) spec_ProcsOk_l0_F :=
  loop_at (code9) [true, true, false, true, false] (loop_piece (c := (sub code9 [true, true, false, true, false, false])) mixed rows_nil (fun K => by intro b17 n18 h hd; exact hd) (fun K N => by intro b17 n18 h hd; exact (spec_ProcsOk_l0_eq K N b17 n18 h) ▸ hd))

theorem spec_ProcsOk_l2_eq (K : Cont) (N : Nat) (b38 : Nat) (n39 : Int) (n40 : Int) (n41 : Int) (h : H) :
  spec_ProcsOk_l2 (curV [(1, .blk), (4, .int .i64), (5, .int .i64)] (K (.exit 4))) (N + 1) b38 n39 n40 n41 h = evC Try.prog 101 [] [] (sub code9 [true, true, true, false, true, false, false, true, false, false, true, false, true, false, false]) [(1, .pointer (some ⟨b38, 0, none⟩)), (4, .int .i64 n39), (5, .int .i64 n40), (6, .int .i64 n41)] h ((outsOf none [(4, [(1, .blk), (4, .int .i64), (5, .int .i64)])] none K).loop [(1, .blk), (4, .int .i64), (5, .int .i64), (6, .int .i64)] (spec_ProcsOk_l2 (curV [(1, .blk), (4, .int .i64), (5, .int .i64)] (K (.exit 4))) N)).K := by kernel_rfl

def spec_ProcsOk_l2_F : PT := mkL [(1, .blk), (4, .int .i64), (5, .int .i64), (6, .int .i64)] fun K N => spec_ProcsOk_l2 (curV [(1, .blk), (4, .int .i64), (5, .int .i64)] (K (.exit 4))) N

theorem spec_ProcsOk_l2_V : Valid Try.prog 101 (sub code9 [true, true, true, false, true, false, false, true, false, false, true, false, true, false]) spec_ProcsOk_l2_F :=
  loop_at (code9) [true, true, true, false, true, false, false, true, false, false, true, false, true, false] (loop_piece (c := (sub code9 [true, true, true, false, true, false, false, true, false, false, true, false, true, false, false])) mixed rows_nil (fun K => by intro b38 n39 n40 n41 h hd; exact hd) (fun K N => by intro b38 n39 n40 n41 h hd; exact (spec_ProcsOk_l2_eq K N b38 n39 n40 n41 h) ▸ hd))

theorem spec_ProcsOk_l1_eq (K : Cont) (N : Nat) (b31 : Nat) (n32 : Int) (h : H) :
  spec_ProcsOk_l1 (curV [] (K (.exit 2))) (curV [(2, .bool)] (K .ret)) (N + 1) b31 n32 h = evC Try.prog 101 [([false, false, true, false, true, false, false, true], spec_ProcsOk_l2_F)] [] (sub code9 [true, true, true, false, true, false, false]) [(1, .pointer (some ⟨b31, 0, none⟩)), (4, .int .i64 n32)] h ((outsOf none [(2, [])] (some [(2, .bool)]) K).loop [(1, .blk), (4, .int .i64)] (spec_ProcsOk_l1 (curV [] (K (.exit 2))) (curV [(2, .bool)] (K .ret)) N)).K := by kernel_rfl

def spec_ProcsOk_l1_F : PT := mkL [(1, .blk), (4, .int .i64)] fun K N => spec_ProcsOk_l1 (curV [] (K (.exit 2))) (curV [(2, .bool)] (K .ret)) N

theorem spec_ProcsOk_l1_V : Valid Try.prog 101 (sub code9 [true, true, true, false, true, false]) spec_ProcsOk_l1_F :=
  loop_at (code9) [true, true, true, false, true, false] (loop_piece (c := (sub code9 [true, true, true, false, true, false, false])) mixed (rows_cons (q' := [true, false, false, true, false, true, false]) (valid_at (p := [true, true, true, false, true, false, false]) spec_ProcsOk_l2_V rfl) rfl rows_nil) (fun K => by intro b31 n32 h hd; exact hd) (fun K N => by intro b31 n32 h hd; exact (spec_ProcsOk_l1_eq K N b31 n32 h) ▸ hd))

theorem spec_ProcsOk_eq (K : Cont) (a1 : Option Addr) (l1 : Nat) (c1 : Nat) (h : H) :
  spec_ProcsOk (curV [(2, .bool)] (K .ret)) a1 l1 c1 h = evC Try.prog 101 [([false, false, true, false, true, true], spec_ProcsOk_l0_F), ([false, false, true, false, true, true, true], spec_ProcsOk_l1_F)] [] code9 [(0, .agg ⟨[.slice a1 l1 c1]⟩)] h (outsOf none [] (some [(2, .bool)]) K).K := by kernel_rfl

def spec_ProcsOk_F : PT := mkF [(0, .agg [.slice])] fun K => spec_ProcsOk (curV [(2, .bool)] (K .ret))

theorem spec_ProcsOk_V : Valid Try.prog 101 code9 spec_ProcsOk_F :=
  piece mixed (rows_cons (q' := [true, true, false, true, false]) spec_ProcsOk_l0_V rfl (rows_cons (q' := [true, true, true, false, true, false]) spec_ProcsOk_l1_V rfl rows_nil)) (fun K => by intro a1 l1 c1 h hd; exact (spec_ProcsOk_eq K a1 l1 c1 h) ▸ hd)

theorem spec_ProcsOk_c0 (a1 : Option Addr) (l1 : Nat) (c1 : Nat) (h : H) (K : Value → H → Prop) :
  spec_ProcsOk (fun t100001 h =>
  K (.bool t100001) h) a1 l1 c1 h = callF Try.prog Try.f9.results.toList spec_ProcsOk_F [.agg ⟨[.slice a1 l1 c1]⟩] h K := by kernel_rfl

theorem spec_ProcsOk_call {a1 : Option Addr} {l1 : Nat} {c1 : Nat} {h : H} {K : Value → H → Prop} (hs : spec_ProcsOk (fun t100001 h =>
  K (.bool t100001) h) a1 l1 c1 h) : callK Try.prog 9 ⟨[.agg ⟨[.slice a1 l1 c1]⟩]⟩ h K :=
  func_calls Try.func9 body9 spec_ProcsOk_V (Nat.le_of_ble_eq_true (by kernel_rfl)) (spec_ProcsOk_c0 a1 l1 c1 h K ▸ hs)

def spec_ProcsOk_M_l0 (kx0 : Option Addr → Nat → Nat → H → Prop) (kr : Bool → H → Prop) : Nat → Int → Option Addr → Nat → Nat → H → Prop
 | 0, _, _, _, _, _ => False
 | N + 1, n11, a12, l12, c12, h =>
  ifB (decide ((n11 : Int) < (l12 : Nat)))
  (callD Try.prog 23 ⟨[.agg ⟨[.slice a12 l12 c12]⟩, .int .i64 n11]⟩ h fun v14 h =>
  asB v14 fun t15 =>
  ifB (!t15)
  (kr false h)
  (ifB (decide ((n11 : Int) > 0))
  (req (0 ≤ (n11 : Int) ∧ (n11 : Int) < (l12 : Nat))
  (nz a12 fun b16 o17 =>
  ldI .i64 h b16 ((o17 + n11.toNat * 10) + 1) fun n18 =>
  callD Try.prog 24 ⟨[.agg ⟨[.slice a12 l12 c12]⟩, .int .i64 n18]⟩ h fun v19 h =>
  asB v19 fun t20 =>
  ifB (!t20)
  (kr false h)
  (spec_ProcsOk_M_l0 kx0 kr N (IntKind.i64.wrap (n11 + 1)) a12 l12 c12 h)))
  (spec_ProcsOk_M_l0 kx0 kr N (IntKind.i64.wrap (n11 + 1)) a12 l12 c12 h)))
  (kx0 a12 l12 c12 h)

def spec_ProcsOk_M_l2 (kx4 : Int → Int → Option Addr → Nat → Nat → H → Prop) : Nat → Int → Int → Int → Option Addr → Nat → Nat → H → Prop
 | 0, _, _, _, _, _, _, _ => False
 | N + 1, n1029, n1030, n1031, a1032, l1032, c1032, h =>
  ifB (decide ((n1031 : Int) ≤ (l1032 : Nat)))
  (ifB ((n1030 : Int) != 1)
  (callD Try.prog 25 ⟨[.agg ⟨[.slice a1032 l1032 c1032]⟩, .int .i64 n1030]⟩ h fun v1034 h =>
  asI .i64 v1034 fun n1035 =>
  req (0 ≤ (n1035 : Int) ∧ (n1035 : Int) < (l1032 : Nat))
  (nz a1032 fun b1036 o1037 =>
  ldI .i64 h b1036 ((o1037 + n1035.toNat * 10) + 1) fun n1038 =>
  spec_ProcsOk_M_l2 kx4 N n1029 n1038 (IntKind.i64.wrap (n1031 + 1)) a1032 l1032 c1032 h))
  (kx4 n1029 n1030 a1032 l1032 c1032 h))
  (kx4 n1029 n1030 a1032 l1032 c1032 h)

def spec_ProcsOk_M_l1 (kx2 : H → Prop) (kr : Bool → H → Prop) : Nat → Int → Option Addr → Nat → Nat → H → Prop
 | 0, _, _, _, _, _ => False
 | N + 1, n1023, a1024, l1024, c1024, h =>
  ifB (decide ((n1023 : Int) < (l1024 : Nat)))
  (req (0 ≤ (n1023 : Int) ∧ (n1023 : Int) < (l1024 : Nat))
  (nz a1024 fun b1026 o1027 =>
  ldI .i64 h b1026 (o1027 + n1023.toNat * 10) fun n1028 =>
  ∃ M1033, spec_ProcsOk_M_l2 (fun n1029 n1030 a1031 l1031 c1031 h =>
  ifB ((n1030 : Int) != 1)
  (kr false h)
  (spec_ProcsOk_M_l1 kx2 kr N (IntKind.i64.wrap (n1029 + 1)) a1031 l1031 c1031 h)) M1033 n1023 n1028 0 a1024 l1024 c1024 h))
  (kx2 h)

def spec_ProcsOk_M (kr : Bool → H → Prop) (a1 : Option Addr) (l1 : Nat) (c1 : Nat) (h : H) : Prop :=
  ifB (((l1 : Nat) : Int) == 0)
  (kr false h)
  (ifB (decide (((l1 : Nat) : Int) > 32))
  (kr false h)
  (req (0 ≤ (0 : Int) ∧ (0 : Int) < (l1 : Nat))
  (nz a1 fun b2 o3 =>
  ldI .i64 h b2 (o3 + (0 : Int).toNat * 10) fun n4 =>
  ifB ((n4 : Int) != 1)
  (kr false h)
  (req (0 ≤ (0 : Int) ∧ (0 : Int) < (l1 : Nat))
  (nz a1 fun b5 o6 =>
  ldI .i64 h b5 ((o6 + (0 : Int).toNat * 10) + 1) fun n7 =>
  ifB ((n7 : Int) != 0)
  (kr false h)
  (req (0 ≤ (0 : Int) ∧ (0 : Int) < (l1 : Nat))
  (nz a1 fun b8 o9 =>
  ldI .i64 h b8 ((o9 + (0 : Int).toNat * 10) + 4) fun n10 =>
  ifB ((n10 : Int) == 3)
  (kr false h)
  (∃ M14, spec_ProcsOk_M_l0 (fun a11 l11 c11 h =>
  ∃ M13, spec_ProcsOk_M_l1 (fun h =>
  kr true h) kr M13 0 a11 l11 c11 h) kr M14 0 a1 l1 c1 h))))))))

theorem spec_ProcsOk_M_l0_D {g0 m0 : H} {kx0_1 : Nat → H → Prop} {kx0_2 : Option Addr → Nat → Nat → H → Prop} (Hkx0 : ∀ (a200001 : Option Addr) (l200001 : Nat) (c200001 : Nat) (p200002 : Nat) (g m : H), Md g0 m0 g m [lo p200002 [.slice a200001 l200001 c200001]] → kx0_2 a200001 l200001 c200001 m → kx0_1 p200002 g)
  {kr_1 : Bool → H → Prop} {kr_2 : Bool → H → Prop} (Hkr : ∀ (t200001 : Bool) (g m : H), Md g0 m0 g m [] → kr_2 t200001 m → kr_1 t200001 g) : ∀ (N : Nat) (n1011 : Int) (a1012 : Option Addr) (l1012 : Nat) (c1012 : Nat) (p1013 : Nat) (g m : H), Md g0 m0 g m [lo p1013 [.slice a1012 l1012 c1012]] → spec_ProcsOk_M_l0 kx0_2 kr_2 N n1011 a1012 l1012 c1012 m → spec_ProcsOk_l0 kx0_1 kr_1 N p1013 n1011 g := by
  intro N
  induction N with
  | zero => intro n1011 a1012 l1012 c1012 p1013 g m R h0; exact h0.elim
  | succ N ih =>
    intro n1011 a1012 l1012 c1012 p1013 g m R
    rw [spec_ProcsOk_M_l0, spec_ProcsOk_l0]
    exact (p_ldL R rfl (d_if (p_row_L R rfl (d_call R fun v1014 g m R =>
  (d_asB fun t1015 =>
  (d_if (Hkr false _ _ R.sub)
  (d_if (p_row_L R rfl (p_ldL R rfl (d_req (d_nz fun b1016 o1017 =>
  (d_ldI R fun n1018 =>
  (d_call R fun v1019 g m R =>
  (d_asB fun t1020 =>
  (d_if (Hkr false _ _ R.sub)
  (ih (IntKind.i64.wrap (n1011 + 1)) a1012 l1012 c1012 p1013 _ _ R.sub)))))))))
  (ih (IntKind.i64.wrap (n1011 + 1)) a1012 l1012 c1012 p1013 _ _ R.sub))))))
  (Hkx0 a1012 l1012 c1012 p1013 _ _ R.sub)))

theorem spec_ProcsOk_M_l2_D {g0 m0 : H} {kx4_1 : Nat → Int → Int → H → Prop} {kx4_2 : Int → Int → Option Addr → Nat → Nat → H → Prop} (Hkx4 : ∀ (n200001 : Int) (n200002 : Int) (a200003 : Option Addr) (l200003 : Nat) (c200003 : Nat) (p200004 : Nat) (g m : H), Md g0 m0 g m [lo p200004 [.slice a200003 l200003 c200003]] → kx4_2 n200001 n200002 a200003 l200003 c200003 m → kx4_1 p200004 n200001 n200002 g) : ∀ (N : Nat) (n2029 : Int) (n2030 : Int) (n2031 : Int) (a2032 : Option Addr) (l2032 : Nat) (c2032 : Nat) (p2033 : Nat) (g m : H), Md g0 m0 g m [lo p2033 [.slice a2032 l2032 c2032]] → spec_ProcsOk_M_l2 kx4_2 N n2029 n2030 n2031 a2032 l2032 c2032 m → spec_ProcsOk_l2 kx4_1 N p2033 n2029 n2030 n2031 g := by
  intro N
  induction N with
  | zero => intro n2029 n2030 n2031 a2032 l2032 c2032 p2033 g m R h0; exact h0.elim
  | succ N ih =>
    intro n2029 n2030 n2031 a2032 l2032 c2032 p2033 g m R
    rw [spec_ProcsOk_M_l2, spec_ProcsOk_l2]
    exact (p_ldL R rfl (d_if (d_if (p_ldL R rfl (p_row_L R rfl (d_call R fun v2034 g m R =>
  (d_asI fun n2035 =>
  (p_cell R rfl (d_req (d_nz fun b2036 o2037 =>
  (d_ldI R fun n2038 =>
  (ih n2029 n2038 (IntKind.i64.wrap (n2031 + 1)) a2032 l2032 c2032 p2033 _ _ R.sub)))))))))
  (Hkx4 n2029 n2030 a2032 l2032 c2032 p2033 _ _ R.sub))
  (Hkx4 n2029 n2030 a2032 l2032 c2032 p2033 _ _ R.sub)))

theorem spec_ProcsOk_M_l1_D {g0 m0 : H} {kx2_1 : H → Prop} {kx2_2 : H → Prop} (Hkx2 : ∀ (g m : H), Md g0 m0 g m [] → kx2_2 m → kx2_1 g)
  {kr_1 : Bool → H → Prop} {kr_2 : Bool → H → Prop} (Hkr : ∀ (t200001 : Bool) (g m : H), Md g0 m0 g m [] → kr_2 t200001 m → kr_1 t200001 g) : ∀ (N : Nat) (n2023 : Int) (a2024 : Option Addr) (l2024 : Nat) (c2024 : Nat) (p2025 : Nat) (g m : H), Md g0 m0 g m [lo p2025 [.slice a2024 l2024 c2024]] → spec_ProcsOk_M_l1 kx2_2 kr_2 N n2023 a2024 l2024 c2024 m → spec_ProcsOk_l1 kx2_1 kr_1 N p2025 n2023 g := by
  intro N
  induction N with
  | zero => intro n2023 a2024 l2024 c2024 p2025 g m R h0; exact h0.elim
  | succ N ih =>
    intro n2023 a2024 l2024 c2024 p2025 g m R
    rw [spec_ProcsOk_M_l1, spec_ProcsOk_l1]
    exact (p_ldL R rfl (d_if (p_ldL R rfl (d_req (d_nz fun b2026 o2027 =>
  (d_ldI R fun n2028 =>
  (d_ex fun N => spec_ProcsOk_M_l2_D (by exact fun n2029 n2030 a2031 l2031 c2031 p2032 g m R =>
  (d_if (Hkr false _ _ R.sub)
  (ih (IntKind.i64.wrap (n2029 + 1)) a2031 l2031 c2031 p2032 _ _ R.sub))) N n2023 n2028 0 a2024 l2024 c2024 p2025 _ _ R.sub)))))
  (Hkx2 _ _ R.sub)))

theorem spec_ProcsOk_M_D {g0 m0 : H} {kr_1 : Bool → H → Prop} {kr_2 : Bool → H → Prop} (Hkr : ∀ (t200001 : Bool) (g m : H), Md g0 m0 g m [] → kr_2 t200001 m → kr_1 t200001 g) : ∀ (a1001 : Option Addr) (l1001 : Nat) (c1001 : Nat) (g m : H), Md g0 m0 g m [] → spec_ProcsOk_M kr_2 a1001 l1001 c1001 m → spec_ProcsOk kr_1 a1001 l1001 c1001 g := by
  intro a1001 l1001 c1001 g m R
  rw [spec_ProcsOk_M, spec_ProcsOk]
  exact (p_new R fun p1002 g R =>
  (p_ldL R rfl (d_if (Hkr false _ _ R.sub)
  (p_ldL R rfl (d_if (Hkr false _ _ R.sub)
  (p_ldL R rfl (d_req (d_nz fun b1003 o1004 =>
  (d_ldI R fun n1005 =>
  (d_if (Hkr false _ _ R.sub)
  (p_ldL R rfl (d_req (d_nz fun b1006 o1007 =>
  (d_ldI R fun n1008 =>
  (d_if (Hkr false _ _ R.sub)
  (p_ldL R rfl (d_req (d_nz fun b1009 o1010 =>
  (d_ldI R fun n1011 =>
  (d_if (Hkr false _ _ R.sub)
  (d_ex fun N => spec_ProcsOk_M_l0_D (by exact fun a1012 l1012 c1012 p1013 g m R =>
  (d_ex fun N => spec_ProcsOk_M_l1_D (by exact fun g m R =>
  (Hkr true _ _ R.sub))
  (by exact fun t1014 g m R =>
  (Hkr t1014 _ _ R.sub)) N 0 a1012 l1012 c1012 p1013 _ _ R.sub))
  (by exact fun t1015 g m R =>
  (Hkr t1015 _ _ R.sub)) N 0 a1001 l1001 c1001 p1002 _ _ R.sub)))))))))))))))))))))

theorem spec_ProcsOk_M_call {a1 : Option Addr} {l1 : Nat} {c1 : Nat} {h : H} {K : Value → H → Prop} (hs : spec_ProcsOk_M (fun t300001 h =>
  K (.bool t300001) h) a1 l1 c1 h) : callD Try.prog 9 ⟨[.agg ⟨[.slice a1 l1 c1]⟩]⟩ h K :=
  fun g r => spec_ProcsOk_call (spec_ProcsOk_M_D (by exact fun t300001 g m R =>
(fun h => ⟨m, R.af, h⟩)) _ _ _ _ _ (Md.start r) hs)

noncomputable def code10 : Code := codeOf Try.f10
theorem body10 : Try.f10.body = some code10 := by kernel_rfl
def impl_ProcStep (kr : Nat → Nat → H → Prop) (p_1 : Option Addr) (p_l1 : Nat) (p_c1 : Nat) (op_2 : Int) (op_3 : Int) (op_4 : Int) (op_5 : Int) (h : H) : Prop :=
  new h [.slice p_1 p_l1 p_c1] 27 fun b6 h =>
  new h [.int .i64 op_2, .int .i64 op_3, .int .i64 op_4, .int .i64 op_5] 30 fun b7 h =>
  new h [.slice none 0 0] 27 fun b8 h =>
  new h [.int .i64 0, .int .i64 0, .int .i64 0] 34 fun b9 h =>
  ldRow h b6 0 0 [.slice] fun a10 l10 c10 =>
  callK Try.prog 6 ⟨[.agg ⟨[.slice a10 l10 c10]⟩]⟩ h fun v11 h =>
  asB v11 fun t12 =>
  ifB (!t12)
  (stRow h b8 0 0 [.slice none 0 0] fun h =>
  stRow h b9 0 0 [.int .i64 0, .int .i64 0, .int .i64 0] fun h =>
  kr b8 b9 h)
  (ldL h b6 0 fun a13 l13 c13 =>
  appendK Try.prog 38 h none 0 0 (.slice a13 l13 c13) fun a14 l14 c14 h =>
  new h [.slice none 0 0] 27 fun b15 h =>
  stRow h b15 0 0 [.slice a14 l14 c14] fun h =>
  ldRow h b7 0 0 [.int .i64, .int .i64, .int .i64, .int .i64] fun n16 n17 n18 n19 =>
  callK Try.prog 26 ⟨[.pointer (some ⟨b15, 0, none⟩), .agg ⟨[.int .i64 n16, .int .i64 n17, .int .i64 n18, .int .i64 n19]⟩]⟩ h fun v20 h =>
  elF False (.agg [.int .i64, .int .i64, .int .i64]) v20 fun n21 n22 n23 =>
  new h [.int .i64 0, .int .i64 0, .int .i64 0] 34 fun b24 h =>
  stRow h b24 0 0 [.int .i64 n21, .int .i64 n22, .int .i64 n23] fun h =>
  ldI .i64 h b24 0 fun n25 =>
  ifB ((n25 : Int) != 0)
  (ldL h b6 0 fun a26 l26 c26 =>
  ldI .i64 h b24 0 fun n27 =>
  appendK Try.prog 38 h none 0 0 (.slice a26 l26 c26) fun a28 l28 c28 h =>
  cell h b24 0 = some (.int .i64 n27) ∧ (stRow h b8 0 0 [.slice a28 l28 c28] fun h =>
  cell h b24 0 = some (.int .i64 n27) ∧ (stRow h b9 0 0 [.int .i64 n27, .int .i64 0, .int .i64 0] fun h =>
  kr b8 b9 h)))
  (ldRow h b15 0 0 [.slice] fun a29 l29 c29 =>
  ldRow h b24 0 0 [.int .i64, .int .i64, .int .i64] fun n30 n31 n32 =>
  stRow h b8 0 0 [.slice a29 l29 c29] fun h =>
  heldRow h b24 0 0 [.int .i64 n30, .int .i64 n31, .int .i64 n32] (stRow h b9 0 0 [.int .i64 n30, .int .i64 n31, .int .i64 n32] fun h =>
  kr b8 b9 h)))

theorem impl_ProcStep_eq (K : Cont) (p_1 : Option Addr) (p_l1 : Nat) (p_c1 : Nat) (op_2 : Int) (op_3 : Int) (op_4 : Int) (op_5 : Int) (h : H) :
  impl_ProcStep (curV [(4, .blk), (5, .blk)] (K .ret)) p_1 p_l1 p_c1 op_2 op_3 op_4 op_5 h = evC Try.prog 31 [] [] code10 [(0, .agg ⟨[.slice p_1 p_l1 p_c1]⟩), (1, .agg ⟨[.int .i64 op_2, .int .i64 op_3, .int .i64 op_4, .int .i64 op_5]⟩)] h (outsOf none [] (some [(4, .blk), (5, .blk)]) K).K := by kernel_rfl

def impl_ProcStep_F : PT := mkF [(0, .agg [.slice]), (1, .agg [.int .i64, .int .i64, .int .i64, .int .i64])] fun K => impl_ProcStep (curV [(4, .blk), (5, .blk)] (K .ret))

theorem impl_ProcStep_V : Valid Try.prog 31 code10 impl_ProcStep_F :=
  piece mixed rows_nil (fun K => by intro p_1 p_l1 p_c1 op_2 op_3 op_4 op_5 h hd; exact (impl_ProcStep_eq K p_1 p_l1 p_c1 op_2 op_3 op_4 op_5 h) ▸ hd)

theorem impl_ProcStep_c0 (p_1 : Option Addr) (p_l1 : Nat) (p_c1 : Nat) (op_2 : Int) (op_3 : Int) (op_4 : Int) (op_5 : Int) (h : H) (K : Value → H → Prop) :
  impl_ProcStep (fun b100001 b100002 h =>
  ldRow h b100001 0 0 [.slice] fun a100003 l100003 c100003 =>
  ldRow h b100002 0 0 [.int .i64, .int .i64, .int .i64] fun n100004 n100005 n100006 =>
  K (.tuple ⟨[.agg ⟨[.slice a100003 l100003 c100003]⟩, .agg ⟨[.int .i64 n100004, .int .i64 n100005, .int .i64 n100006]⟩]⟩) h) p_1 p_l1 p_c1 op_2 op_3 op_4 op_5 h = callF Try.prog Try.f10.results.toList impl_ProcStep_F [.agg ⟨[.slice p_1 p_l1 p_c1]⟩, .agg ⟨[.int .i64 op_2, .int .i64 op_3, .int .i64 op_4, .int .i64 op_5]⟩] h K := by kernel_rfl

theorem impl_ProcStep_call {p_1 : Option Addr} {p_l1 : Nat} {p_c1 : Nat} {op_2 : Int} {op_3 : Int} {op_4 : Int} {op_5 : Int} {h : H} {K : Value → H → Prop} (hs : impl_ProcStep (fun b100001 b100002 h =>
  ldRow h b100001 0 0 [.slice] fun a100003 l100003 c100003 =>
  ldRow h b100002 0 0 [.int .i64, .int .i64, .int .i64] fun n100004 n100005 n100006 =>
  K (.tuple ⟨[.agg ⟨[.slice a100003 l100003 c100003]⟩, .agg ⟨[.int .i64 n100004, .int .i64 n100005, .int .i64 n100006]⟩]⟩) h) p_1 p_l1 p_c1 op_2 op_3 op_4 op_5 h) : callK Try.prog 10 ⟨[.agg ⟨[.slice p_1 p_l1 p_c1]⟩, .agg ⟨[.int .i64 op_2, .int .i64 op_3, .int .i64 op_4, .int .i64 op_5]⟩]⟩ h K :=
  func_calls Try.func10 body10 impl_ProcStep_V (Nat.le_of_ble_eq_true (by kernel_rfl)) (impl_ProcStep_c0 p_1 p_l1 p_c1 op_2 op_3 op_4 op_5 h K ▸ hs)

theorem o_el_AI3E {n0 : Int} {n1 : Int} {n2 : Int} {K : Int → Int → Int → Prop} (g : K n0 n1 n2) : elF False (.agg [.int .i64, .int .i64, .int .i64]) (.agg ⟨[.int .i64 n0, .int .i64 n1, .int .i64 n2]⟩) K := Eq.mpr (by kernel_rfl) g
theorem d_el_AI3E {v : Value} {K2 K1 : Int → Int → Int → Prop} (f : ∀ n0 n1 n2, K2 n0 n1 n2 → K1 n0 n1 n2) : elF False (.agg [.int .i64, .int .i64, .int .i64]) v K2 → elF False (.agg [.int .i64, .int .i64, .int .i64]) v K1 :=
  d_el (s := .agg [.int .i64, .int .i64, .int .i64]) (Eq.mpr (by kernel_rfl) f)
theorem row_I3 (h : H) (b o : Nat) (K : Int → Int → Int → Prop) : ldRow h b o 0 [.int .i64, .int .i64, .int .i64] K = ldI .i64 h b (o + 0) fun n0 => ldI .i64 h b (o + 1) fun n1 => ldI .i64 h b (o + 2) fun n2 => K n0 n1 n2 := by kernel_rfl
theorem d_row_I3 {g0 m0 g m : H} {L : List As} {b o : Nat} {K2 K1 : Int → Int → Int → Prop} (R : Md g0 m0 g m L) (f : ∀ n0 n1 n2, K2 n0 n1 n2 → K1 n0 n1 n2) : ldRow m b o 0 [.int .i64, .int .i64, .int .i64] K2 → ldRow g b o 0 [.int .i64, .int .i64, .int .i64] K1 := by
  rw [row_I3, row_I3]; exact d_ldI R fun n0 => d_ldI R fun n1 => d_ldI R fun n2 => f n0 n1 n2
theorem p_row_I3 {g0 m0 g m : H} {L : List As} {b o : Nat} {cs : List Value} {G : Prop} [LoIn L b cs] {K1 : Int → Int → Int → Prop} {n0 : Int} {n1 : Int} {n2 : Int} (R : Md g0 m0 g m L) (e0 : cs[o + 0]? = some (.int .i64 n0)) (e1 : cs[o + 1]? = some (.int .i64 n1)) (e2 : cs[o + 2]? = some (.int .i64 n2)) (f : G → K1 n0 n1 n2) : G → ldRow g b o 0 [.int .i64, .int .i64, .int .i64] K1 := by
  rw [row_I3]; exact p_ldI R e0 (p_ldI R e1 (p_ldI R e2 (f)))
def impl_ProcStep_M (kr : Option Addr → Nat → Nat → Int → Int → Int → H → Prop) (p_1 : Option Addr) (p_l1 : Nat) (p_c1 : Nat) (op_2 : Int) (op_3 : Int) (op_4 : Int) (op_5 : Int) (h : H) : Prop :=
  callD Try.prog 6 ⟨[.agg ⟨[.slice p_1 p_l1 p_c1]⟩]⟩ h fun v6 h =>
  asB v6 fun t7 =>
  ifB (!t7)
  (kr none 0 0 0 0 0 h)
  (appendD Try.prog 38 h none 0 0 (.slice p_1 p_l1 p_c1) fun a8 l8 c8 h =>
  newD h [.slice none 0 0] 27 fun b9 h =>
  stRow h b9 0 0 [.slice a8 l8 c8] fun h =>
  callD Try.prog 26 ⟨[.pointer (some ⟨b9, 0, none⟩), .agg ⟨[.int .i64 op_2, .int .i64 op_3, .int .i64 op_4, .int .i64 op_5]⟩]⟩ h fun v10 h =>
  elF False (.agg [.int .i64, .int .i64, .int .i64]) v10 fun n11 n12 n13 =>
  ifB ((n11 : Int) != 0)
  (appendD Try.prog 38 h none 0 0 (.slice p_1 p_l1 p_c1) fun a14 l14 c14 h =>
  kr a14 l14 c14 n11 0 0 h)
  (ldRow h b9 0 0 [.slice] fun a15 l15 c15 =>
  kr a15 l15 c15 n11 n12 n13 h))

theorem impl_ProcStep_M_D {g0 m0 : H} {kr_1 : Nat → Nat → H → Prop} {kr_2 : Option Addr → Nat → Nat → Int → Int → Int → H → Prop} (Hkr : ∀ (a200001 : Option Addr) (l200001 : Nat) (c200001 : Nat) (n200003 : Int) (n200004 : Int) (n200005 : Int) (p200002 : Nat) (p200006 : Nat) (g m : H), Md g0 m0 g m [lo p200002 [.slice a200001 l200001 c200001], lo p200006 [.int .i64 n200003, .int .i64 n200004, .int .i64 n200005]] → kr_2 a200001 l200001 c200001 n200003 n200004 n200005 m → kr_1 p200002 p200006 g) : ∀ (p_1001 : Option Addr) (p_l1001 : Nat) (p_c1001 : Nat) (op_1002 : Int) (op_1003 : Int) (op_1004 : Int) (op_1005 : Int) (g m : H), Md g0 m0 g m [] → impl_ProcStep_M kr_2 p_1001 p_l1001 p_c1001 op_1002 op_1003 op_1004 op_1005 m → impl_ProcStep kr_1 p_1001 p_l1001 p_c1001 op_1002 op_1003 op_1004 op_1005 g := by
  intro p_1001 p_l1001 p_c1001 op_1002 op_1003 op_1004 op_1005 g m R
  rw [impl_ProcStep_M, impl_ProcStep]
  exact (p_new R fun p1006 g R =>
  (p_new R fun p1007 g R =>
  (p_new R fun p1008 g R =>
  (p_new R fun p1009 g R =>
  (p_row_L R rfl (d_call R fun v1010 g m R =>
  (d_asB fun t1011 =>
  (d_if (p_stRow R (cs' := [.slice none 0 0]) ⟨rfl, rfl, rfl⟩ fun g R =>
  (p_stRow R (cs' := [.int .i64 0, .int .i64 0, .int .i64 0]) ⟨rfl, rfl, rfl⟩ fun g R =>
  (Hkr none 0 0 0 0 0 p1008 p1009 _ _ R.sub)))
  (p_ldL R rfl (d_append R fun a1012 l1012 c1012 g m R =>
  (d_new R fun b1013 g m R =>
  (d_stRow R fun g m R =>
  (p_row_I4 R rfl rfl rfl rfl (d_call R fun v1014 g m R =>
  (d_el_AI3E fun n1015 n1016 n1017 =>
  (p_new R fun p1018 g R =>
  (p_stRow R (cs' := [.int .i64 n1015, .int .i64 n1016, .int .i64 n1017]) ⟨rfl, rfl, rfl⟩ fun g R =>
  (p_ldI R rfl (d_if (p_ldL R rfl (p_ldI R rfl (d_append R fun a1019 l1019 c1019 g m R =>
  (p_cell R rfl (p_stRow R (cs' := [.slice a1019 l1019 c1019]) ⟨rfl, rfl, rfl⟩ fun g R =>
  (p_cell R rfl (p_stRow R (cs' := [.int .i64 n1015, .int .i64 0, .int .i64 0]) ⟨rfl, rfl, rfl⟩ fun g R =>
  (Hkr a1019 l1019 c1019 n1015 0 0 p1008 p1009 _ _ R.sub))))))))
  (d_row_L R fun a1020 l1020 c1020 =>
  (p_row_I3 R rfl rfl rfl (p_stRow R (cs' := [.slice a1020 l1020 c1020]) ⟨rfl, rfl, rfl⟩ fun g R =>
  (p_held R rfl (p_stRow R (cs' := [.int .i64 n1015, .int .i64 n1016, .int .i64 n1017]) ⟨rfl, rfl, rfl⟩ fun g R =>
  (Hkr a1020 l1020 c1020 n1015 n1016 n1017 p1008 p1009 _ _ R.sub)))))))))))))))))))))))))

theorem impl_ProcStep_M_call {p_1 : Option Addr} {p_l1 : Nat} {p_c1 : Nat} {op_2 : Int} {op_3 : Int} {op_4 : Int} {op_5 : Int} {h : H} {K : Value → H → Prop} (hs : impl_ProcStep_M (fun a300001 l300001 c300001 n300003 n300004 n300005 h =>
  K (.tuple ⟨[.agg ⟨[.slice a300001 l300001 c300001]⟩, .agg ⟨[.int .i64 n300003, .int .i64 n300004, .int .i64 n300005]⟩]⟩) h) p_1 p_l1 p_c1 op_2 op_3 op_4 op_5 h) : callD Try.prog 10 ⟨[.agg ⟨[.slice p_1 p_l1 p_c1]⟩, .agg ⟨[.int .i64 op_2, .int .i64 op_3, .int .i64 op_4, .int .i64 op_5]⟩]⟩ h K :=
  fun g r => impl_ProcStep_call (impl_ProcStep_M_D (by exact fun a300001 l300001 c300001 n300003 n300004 n300005 p300002 p300006 g m R =>
(p_row_L R rfl (p_row_I3 R rfl rfl rfl (fun h => ⟨m, R.af, h⟩)))) _ _ _ _ _ _ _ _ _ (Md.start r) hs)

noncomputable def code11 : Code := codeOf Try.f11
theorem body11 : Try.f11.body = some code11 := by kernel_rfl
def spec_ProcStep (kr : Nat → Nat → H → Prop) (p_1 : Option Addr) (p_l1 : Nat) (p_c1 : Nat) (op_2 : Int) (op_3 : Int) (op_4 : Int) (op_5 : Int) (h : H) : Prop :=
  new h [.slice p_1 p_l1 p_c1] 27 fun b6 h =>
  new h [.int .i64 op_2, .int .i64 op_3, .int .i64 op_4, .int .i64 op_5] 30 fun b7 h =>
  new h [.slice none 0 0] 27 fun b8 h =>
  new h [.int .i64 0, .int .i64 0, .int .i64 0] 34 fun b9 h =>
  ldRow h b6 0 0 [.slice] fun a10 l10 c10 =>
  callK Try.prog 9 ⟨[.agg ⟨[.slice a10 l10 c10]⟩]⟩ h fun v11 h =>
  asB v11 fun t12 =>
  ifB (!t12)
  (stRow h b8 0 0 [.slice none 0 0] fun h =>
  stRow h b9 0 0 [.int .i64 0, .int .i64 0, .int .i64 0] fun h =>
  kr b8 b9 h)
  (ldRow h b6 0 0 [.slice] fun a13 l13 c13 =>
  ldRow h b7 0 0 [.int .i64, .int .i64, .int .i64, .int .i64] fun n14 n15 n16 n17 =>
  callK Try.prog 28 ⟨[.agg ⟨[.slice a13 l13 c13]⟩]⟩ h fun v18 h =>
  elF False (.agg [.slice]) v18 fun a19 l19 c19 =>
  heldRow h b7 0 0 [.int .i64 n14, .int .i64 n15, .int .i64 n16, .int .i64 n17] (callK Try.prog 27 ⟨[.agg ⟨[.slice a19 l19 c19]⟩, .agg ⟨[.int .i64 n14, .int .i64 n15, .int .i64 n16, .int .i64 n17]⟩]⟩ h fun v20 h =>
  elF False (.tuple [.agg [.slice], .agg [.int .i64, .int .i64, .int .i64]]) v20 fun a21 l21 c21 n22 n23 n24 =>
  stRow h b8 0 0 [.slice a21 l21 c21] fun h =>
  stRow h b9 0 0 [.int .i64 n22, .int .i64 n23, .int .i64 n24] fun h =>
  kr b8 b9 h))

theorem spec_ProcStep_eq (K : Cont) (p_1 : Option Addr) (p_l1 : Nat) (p_c1 : Nat) (op_2 : Int) (op_3 : Int) (op_4 : Int) (op_5 : Int) (h : H) :
  spec_ProcStep (curV [(4, .blk), (5, .blk)] (K .ret)) p_1 p_l1 p_c1 op_2 op_3 op_4 op_5 h = evC Try.prog 17 [] [] code11 [(0, .agg ⟨[.slice p_1 p_l1 p_c1]⟩), (1, .agg ⟨[.int .i64 op_2, .int .i64 op_3, .int .i64 op_4, .int .i64 op_5]⟩)] h (outsOf none [] (some [(4, .blk), (5, .blk)]) K).K := by kernel_rfl

def spec_ProcStep_F : PT := mkF [(0, .agg [.slice]), (1, .agg [.int .i64, .int .i64, .int .i64, .int .i64])] fun K => spec_ProcStep (curV [(4, .blk), (5, .blk)] (K .ret))

theorem spec_ProcStep_V : Valid Try.prog 17 code11 spec_ProcStep_F :=
  piece mixed rows_nil (fun K => by intro p_1 p_l1 p_c1 op_2 op_3 op_4 op_5 h hd; exact (spec_ProcStep_eq K p_1 p_l1 p_c1 op_2 op_3 op_4 op_5 h) ▸ hd)

theorem spec_ProcStep_c0 (p_1 : Option Addr) (p_l1 : Nat) (p_c1 : Nat) (op_2 : Int) (op_3 : Int) (op_4 : Int) (op_5 : Int) (h : H) (K : Value → H → Prop) :
  spec_ProcStep (fun b100001 b100002 h =>
  ldRow h b100001 0 0 [.slice] fun a100003 l100003 c100003 =>
  ldRow h b100002 0 0 [.int .i64, .int .i64, .int .i64] fun n100004 n100005 n100006 =>
  K (.tuple ⟨[.agg ⟨[.slice a100003 l100003 c100003]⟩, .agg ⟨[.int .i64 n100004, .int .i64 n100005, .int .i64 n100006]⟩]⟩) h) p_1 p_l1 p_c1 op_2 op_3 op_4 op_5 h = callF Try.prog Try.f11.results.toList spec_ProcStep_F [.agg ⟨[.slice p_1 p_l1 p_c1]⟩, .agg ⟨[.int .i64 op_2, .int .i64 op_3, .int .i64 op_4, .int .i64 op_5]⟩] h K := by kernel_rfl

theorem spec_ProcStep_call {p_1 : Option Addr} {p_l1 : Nat} {p_c1 : Nat} {op_2 : Int} {op_3 : Int} {op_4 : Int} {op_5 : Int} {h : H} {K : Value → H → Prop} (hs : spec_ProcStep (fun b100001 b100002 h =>
  ldRow h b100001 0 0 [.slice] fun a100003 l100003 c100003 =>
  ldRow h b100002 0 0 [.int .i64, .int .i64, .int .i64] fun n100004 n100005 n100006 =>
  K (.tuple ⟨[.agg ⟨[.slice a100003 l100003 c100003]⟩, .agg ⟨[.int .i64 n100004, .int .i64 n100005, .int .i64 n100006]⟩]⟩) h) p_1 p_l1 p_c1 op_2 op_3 op_4 op_5 h) : callK Try.prog 11 ⟨[.agg ⟨[.slice p_1 p_l1 p_c1]⟩, .agg ⟨[.int .i64 op_2, .int .i64 op_3, .int .i64 op_4, .int .i64 op_5]⟩]⟩ h K :=
  func_calls Try.func11 body11 spec_ProcStep_V (Nat.le_of_ble_eq_true (by kernel_rfl)) (spec_ProcStep_c0 p_1 p_l1 p_c1 op_2 op_3 op_4 op_5 h K ▸ hs)

def spec_ProcStep_M (kr : Option Addr → Nat → Nat → Int → Int → Int → H → Prop) (p_1 : Option Addr) (p_l1 : Nat) (p_c1 : Nat) (op_2 : Int) (op_3 : Int) (op_4 : Int) (op_5 : Int) (h : H) : Prop :=
  callD Try.prog 9 ⟨[.agg ⟨[.slice p_1 p_l1 p_c1]⟩]⟩ h fun v6 h =>
  asB v6 fun t7 =>
  ifB (!t7)
  (kr none 0 0 0 0 0 h)
  (callD Try.prog 28 ⟨[.agg ⟨[.slice p_1 p_l1 p_c1]⟩]⟩ h fun v8 h =>
  elF False (.agg [.slice]) v8 fun a9 l9 c9 =>
  callD Try.prog 27 ⟨[.agg ⟨[.slice a9 l9 c9]⟩, .agg ⟨[.int .i64 op_2, .int .i64 op_3, .int .i64 op_4, .int .i64 op_5]⟩]⟩ h fun v10 h =>
  elF False (.tuple [.agg [.slice], .agg [.int .i64, .int .i64, .int .i64]]) v10 fun a11 l11 c11 n12 n13 n14 =>
  kr a11 l11 c11 n12 n13 n14 h)

theorem spec_ProcStep_M_D {g0 m0 : H} {kr_1 : Nat → Nat → H → Prop} {kr_2 : Option Addr → Nat → Nat → Int → Int → Int → H → Prop} (Hkr : ∀ (a200001 : Option Addr) (l200001 : Nat) (c200001 : Nat) (n200003 : Int) (n200004 : Int) (n200005 : Int) (p200002 : Nat) (p200006 : Nat) (g m : H), Md g0 m0 g m [lo p200002 [.slice a200001 l200001 c200001], lo p200006 [.int .i64 n200003, .int .i64 n200004, .int .i64 n200005]] → kr_2 a200001 l200001 c200001 n200003 n200004 n200005 m → kr_1 p200002 p200006 g) : ∀ (p_1001 : Option Addr) (p_l1001 : Nat) (p_c1001 : Nat) (op_1002 : Int) (op_1003 : Int) (op_1004 : Int) (op_1005 : Int) (g m : H), Md g0 m0 g m [] → spec_ProcStep_M kr_2 p_1001 p_l1001 p_c1001 op_1002 op_1003 op_1004 op_1005 m → spec_ProcStep kr_1 p_1001 p_l1001 p_c1001 op_1002 op_1003 op_1004 op_1005 g := by
  intro p_1001 p_l1001 p_c1001 op_1002 op_1003 op_1004 op_1005 g m R
  rw [spec_ProcStep_M, spec_ProcStep]
  exact (p_new R fun p1006 g R =>
  (p_new R fun p1007 g R =>
  (p_new R fun p1008 g R =>
  (p_new R fun p1009 g R =>
  (p_row_L R rfl (d_call R fun v1010 g m R =>
  (d_asB fun t1011 =>
  (d_if (p_stRow R (cs' := [.slice none 0 0]) ⟨rfl, rfl, rfl⟩ fun g R =>
  (p_stRow R (cs' := [.int .i64 0, .int .i64 0, .int .i64 0]) ⟨rfl, rfl, rfl⟩ fun g R =>
  (Hkr none 0 0 0 0 0 p1008 p1009 _ _ R.sub)))
  (p_row_L R rfl (p_row_I4 R rfl rfl rfl rfl (d_call R fun v1012 g m R =>
  (d_el_ALE fun a1013 l1013 c1013 =>
  (p_held R rfl (d_call R fun v1014 g m R =>
  (d_el_TALEAI3EE fun a1015 l1015 c1015 n1016 n1017 n1018 =>
  (p_stRow R (cs' := [.slice a1015 l1015 c1015]) ⟨rfl, rfl, rfl⟩ fun g R =>
  (p_stRow R (cs' := [.int .i64 n1016, .int .i64 n1017, .int .i64 n1018]) ⟨rfl, rfl, rfl⟩ fun g R =>
  (Hkr a1015 l1015 c1015 n1016 n1017 n1018 p1008 p1009 _ _ R.sub))))))))))))))))))

theorem spec_ProcStep_M_call {p_1 : Option Addr} {p_l1 : Nat} {p_c1 : Nat} {op_2 : Int} {op_3 : Int} {op_4 : Int} {op_5 : Int} {h : H} {K : Value → H → Prop} (hs : spec_ProcStep_M (fun a300001 l300001 c300001 n300003 n300004 n300005 h =>
  K (.tuple ⟨[.agg ⟨[.slice a300001 l300001 c300001]⟩, .agg ⟨[.int .i64 n300003, .int .i64 n300004, .int .i64 n300005]⟩]⟩) h) p_1 p_l1 p_c1 op_2 op_3 op_4 op_5 h) : callD Try.prog 11 ⟨[.agg ⟨[.slice p_1 p_l1 p_c1]⟩, .agg ⟨[.int .i64 op_2, .int .i64 op_3, .int .i64 op_4, .int .i64 op_5]⟩]⟩ h K :=
  fun g r => spec_ProcStep_call (spec_ProcStep_M_D (by exact fun a300001 l300001 c300001 n300003 n300004 n300005 p300002 p300006 g m R =>
(p_row_L R rfl (p_row_I3 R rfl rfl rfl (fun h => ⟨m, R.af, h⟩)))) _ _ _ _ _ _ _ _ _ (Md.start r) hs)

noncomputable def code19 : Code := codeOf Try.f19
theorem body19 : Try.f19.body = some code19 := by kernel_rfl
def impl_Procs_at_l0 (kx0 : H → Prop) (kr : Nat → Nat → H → Prop) : Nat → Option Addr → Int → Int → Int → H → Prop
 | 0, _, _, _, _, _ => False
 | N + 1, p_6, id_7, n8, n9, h =>
  ifB (decide ((n9 : Int) < n8))
  (nz p_6 fun b10 o11 =>
  ldL h b10 o11 fun a12 l12 c12 =>
  req (0 ≤ (n9 : Int) ∧ (n9 : Int) < (l12 : Nat))
  (nz a12 fun b13 o14 =>
  ldI .i64 h b13 (o14 + n9.toNat * 10) fun n15 =>
  ifB ((n15 : Int) == id_7)
  (nz p_6 fun b16 o17 =>
  ldL h b16 o17 fun a18 l18 c18 =>
  req (0 ≤ (n9 : Int) ∧ (n9 : Int) < (l18 : Nat))
  (nz a18 fun b19 o20 =>
  kr b19 (o20 + n9.toNat * 10) h))
  (impl_Procs_at_l0 kx0 kr N p_6 id_7 n8 (IntKind.i64.wrap (n9 + 1)) h)))
  (kx0 h)

def impl_Procs_at (kr : Option Addr → H → Prop) (p_1 : Option Addr) (id_2 : Int) (h : H) : Prop :=
  nz p_1 fun b3 o4 =>
  ldL h b3 o4 fun a5 l5 c5 =>
  ∃ M8, impl_Procs_at_l0 (fun h =>
  kr none h) (fun b6 o7 h =>
  kr (some ⟨b6, o7, none⟩) h) M8 p_1 id_2 (l5 : Nat) 0 h

theorem impl_Procs_at_l0_eq (K : Cont) (N : Nat) (p_6 : Option Addr) (id_7 : Int) (n8 : Int) (n9 : Int) (h : H) :
  impl_Procs_at_l0 (curV [] (K (.exit 0))) (curV [(4, .adr)] (K .ret)) (N + 1) p_6 id_7 n8 n9 h = evC Try.prog 31 [] [] (sub code19 [true, false, true, false, false]) [(0, .pointer p_6), (1, .int .i64 id_7), (10, .int .i64 n8), (11, .int .i64 n9)] h ((outsOf none [(0, [])] (some [(4, .adr)]) K).loop [(0, .ptr), (1, .int .i64), (10, .int .i64), (11, .int .i64)] (impl_Procs_at_l0 (curV [] (K (.exit 0))) (curV [(4, .adr)] (K .ret)) N)).K := by kernel_rfl

def impl_Procs_at_l0_F : PT := mkL [(0, .ptr), (1, .int .i64), (10, .int .i64), (11, .int .i64)] fun K N => impl_Procs_at_l0 (curV [] (K (.exit 0))) (curV [(4, .adr)] (K .ret)) N

theorem impl_Procs_at_l0_V : Valid Try.prog 31 (sub code19 [true, false, true, false]) impl_Procs_at_l0_F :=
  loop_at (code19) [true, false, true, false] (loop_piece (c := (sub code19 [true, false, true, false, false])) mixed rows_nil (fun K => by intro p_6 id_7 n8 n9 h hd; exact hd) (fun K N => by intro p_6 id_7 n8 n9 h hd; exact (impl_Procs_at_l0_eq K N p_6 id_7 n8 n9 h) ▸ hd))

theorem impl_Procs_at_eq (K : Cont) (p_1 : Option Addr) (id_2 : Int) (h : H) :
  impl_Procs_at (curV [(4, .ptr)] (K .ret)) p_1 id_2 h = evC Try.prog 31 [([false, false, true, false, true], impl_Procs_at_l0_F)] [] code19 [(0, .pointer p_1), (1, .int .i64 id_2)] h (outsOf none [] (some [(4, .ptr)]) K).K := by kernel_rfl

def impl_Procs_at_F : PT := mkF [(0, .ptr), (1, .int .i64)] fun K => impl_Procs_at (curV [(4, .ptr)] (K .ret))

theorem impl_Procs_at_V : Valid Try.prog 31 code19 impl_Procs_at_F :=
  piece mixed (rows_cons (q' := [true, false, true, false]) impl_Procs_at_l0_V rfl rows_nil) (fun K => by intro p_1 id_2 h hd; exact (impl_Procs_at_eq K p_1 id_2 h) ▸ hd)

theorem impl_Procs_at_c0 (p_1 : Option Addr) (id_2 : Int) (h : H) (K : Value → H → Prop) :
  impl_Procs_at (fun p100001 h =>
  K (.pointer p100001) h) p_1 id_2 h = callF Try.prog Try.f19.results.toList impl_Procs_at_F [.pointer p_1, .int .i64 id_2] h K := by kernel_rfl

theorem impl_Procs_at_call {p_1 : Option Addr} {id_2 : Int} {h : H} {K : Value → H → Prop} (hs : impl_Procs_at (fun p100001 h =>
  K (.pointer p100001) h) p_1 id_2 h) : callK Try.prog 19 ⟨[.pointer p_1, .int .i64 id_2]⟩ h K :=
  func_calls Try.func19 body19 impl_Procs_at_V (Nat.le_of_ble_eq_true (by kernel_rfl)) (impl_Procs_at_c0 p_1 id_2 h K ▸ hs)

def impl_Procs_at_M_l0 (kx0 : H → Prop) (kr : Nat → Nat → H → Prop) : Nat → Option Addr → Int → Int → Int → H → Prop
 | 0, _, _, _, _, _ => False
 | N + 1, p_6, id_7, n8, n9, h =>
  ifB (decide ((n9 : Int) < n8))
  (nz p_6 fun b10 o11 =>
  ldL h b10 o11 fun a12 l12 c12 =>
  req (0 ≤ (n9 : Int) ∧ (n9 : Int) < (l12 : Nat))
  (nz a12 fun b13 o14 =>
  ldI .i64 h b13 (o14 + n9.toNat * 10) fun n15 =>
  ifB ((n15 : Int) == id_7)
  (nz p_6 fun b16 o17 =>
  ldL h b16 o17 fun a18 l18 c18 =>
  req (0 ≤ (n9 : Int) ∧ (n9 : Int) < (l18 : Nat))
  (nz a18 fun b19 o20 =>
  kr b19 (o20 + n9.toNat * 10) h))
  (impl_Procs_at_M_l0 kx0 kr N p_6 id_7 n8 (IntKind.i64.wrap (n9 + 1)) h)))
  (kx0 h)

def impl_Procs_at_M (kr : Option Addr → H → Prop) (p_1 : Option Addr) (id_2 : Int) (h : H) : Prop :=
  nz p_1 fun b3 o4 =>
  ldL h b3 o4 fun a5 l5 c5 =>
  ∃ M8, impl_Procs_at_M_l0 (fun h =>
  kr none h) (fun b6 o7 h =>
  kr (some ⟨b6, o7, none⟩) h) M8 p_1 id_2 (l5 : Nat) 0 h

theorem impl_Procs_at_M_l0_D {g0 m0 : H} {kx0_1 : H → Prop} {kx0_2 : H → Prop} (Hkx0 : ∀ (g m : H), Md g0 m0 g m [] → kx0_2 m → kx0_1 g)
  {kr_1 : Nat → Nat → H → Prop} {kr_2 : Nat → Nat → H → Prop} (Hkr : ∀ (b200001 : Nat) (o200002 : Nat) (g m : H), Md g0 m0 g m [] → kr_2 b200001 o200002 m → kr_1 b200001 o200002 g) : ∀ (N : Nat) (p_1006 : Option Addr) (id_1007 : Int) (n1008 : Int) (n1009 : Int) (g m : H), Md g0 m0 g m [] → impl_Procs_at_M_l0 kx0_2 kr_2 N p_1006 id_1007 n1008 n1009 m → impl_Procs_at_l0 kx0_1 kr_1 N p_1006 id_1007 n1008 n1009 g := by
  intro N
  induction N with
  | zero => intro p_1006 id_1007 n1008 n1009 g m R h0; exact h0.elim
  | succ N ih =>
    intro p_1006 id_1007 n1008 n1009 g m R
    rw [impl_Procs_at_M_l0, impl_Procs_at_l0]
    exact (d_if (d_nz fun b1010 o1011 =>
  (d_ldL R fun a1012 l1012 c1012 =>
  (d_req (d_nz fun b1013 o1014 =>
  (d_ldI R fun n1015 =>
  (d_if (d_nz fun b1016 o1017 =>
  (d_ldL R fun a1018 l1018 c1018 =>
  (d_req (d_nz fun b1019 o1020 =>
  (Hkr b1019 (o1020 + n1009.toNat * 10) _ _ R.sub)))))
  (ih p_1006 id_1007 n1008 (IntKind.i64.wrap (n1009 + 1)) _ _ R.sub)))))))
  (Hkx0 _ _ R.sub))

theorem impl_Procs_at_M_D {g0 m0 : H} {kr_1 : Option Addr → H → Prop} {kr_2 : Option Addr → H → Prop} (Hkr : ∀ (p200001 : Option Addr) (g m : H), Md g0 m0 g m [] → kr_2 p200001 m → kr_1 p200001 g) : ∀ (p_1001 : Option Addr) (id_1002 : Int) (g m : H), Md g0 m0 g m [] → impl_Procs_at_M kr_2 p_1001 id_1002 m → impl_Procs_at kr_1 p_1001 id_1002 g := by
  intro p_1001 id_1002 g m R
  rw [impl_Procs_at_M, impl_Procs_at]
  exact (d_nz fun b1003 o1004 =>
  (d_ldL R fun a1005 l1005 c1005 =>
  (d_ex fun N => impl_Procs_at_M_l0_D (by exact fun g m R =>
  (Hkr none _ _ R.sub))
  (by exact fun b1006 o1007 g m R =>
  (Hkr (some ⟨b1006, o1007, none⟩) _ _ R.sub)) N p_1001 id_1002 (l1005 : Nat) 0 _ _ R.sub)))

theorem impl_Procs_at_M_call {p_1 : Option Addr} {id_2 : Int} {h : H} {K : Value → H → Prop} (hs : impl_Procs_at_M (fun p300001 h =>
  K (.pointer p300001) h) p_1 id_2 h) : callD Try.prog 19 ⟨[.pointer p_1, .int .i64 id_2]⟩ h K :=
  fun g r => impl_Procs_at_call (impl_Procs_at_M_D (by exact fun p300001 g m R =>
(fun h => ⟨m, R.af, h⟩)) _ _ _ _ (Md.start r) hs)

noncomputable def code20 : Code := codeOf Try.f20
theorem body20 : Try.f20.body = some code20 := by kernel_rfl
def spec_l1New_l0 (kx0 : Option Addr → Nat → Nat → Int → H → Prop) : Nat → Option Addr → Nat → Nat → Int → Int → H → Prop
 | 0, _, _, _, _, _, _ => False
 | N + 1, code_2, code_l2, code_c2, n3, i_4, h =>
  ifB (decide ((i_4 : Int) < (code_l2 : Nat)))
  (req (0 ≤ (i_4 : Int) ∧ (i_4 : Int) < (code_l2 : Nat))
  (nz code_2 fun b5 o6 =>
  ldI .u8 h b5 (o6 + i_4.toNat * 1) fun n7 =>
  spec_l1New_l0 kx0 N code_2 code_l2 code_c2 (bAnd .i64 (IntKind.i64.wrap ((IntKind.i64.wrap ((IntKind.i64.wrap (n3 * 131)) + (IntKind.i64.wrap n7))) + 7)) 1073741823) (IntKind.i64.wrap (i_4 + 1)) h))
  (kx0 code_2 code_l2 code_c2 n3 h)

def spec_l1New (kr : Nat → H → Prop) (code_1 : Option Addr) (code_l1 : Nat) (code_c1 : Nat) (h : H) : Prop :=
  ∃ M5, spec_l1New_l0 (fun code_2 code_l2 code_c2 n3 h =>
  new h [.slice code_2 code_l2 code_c2, .int .i64 0, .int .i64 n3] 67 fun b4 h =>
  kr b4 h) M5 code_1 code_l1 code_c1 (IntKind.i64.wrap (76543 + (code_l1 : Nat))) 0 h

theorem spec_l1New_l0_eq (K : Cont) (N : Nat) (code_2 : Option Addr) (code_l2 : Nat) (code_c2 : Nat) (n3 : Int) (i_4 : Int) (h : H) :
  spec_l1New_l0 (curV [(0, .slice), (3, .int .i64)] (K (.exit 0))) (N + 1) code_2 code_l2 code_c2 n3 i_4 h = evC Try.prog 28 [] [] (sub code20 [true, true, false, true, false, false]) [(0, .slice code_2 code_l2 code_c2), (3, .int .i64 n3), (4, .int .i64 i_4)] h ((outsOf none [(0, [(0, .slice), (3, .int .i64)])] none K).loop [(0, .slice), (3, .int .i64), (4, .int .i64)] (spec_l1New_l0 (curV [(0, .slice), (3, .int .i64)] (K (.exit 0))) N)).K := by kernel_rfl

def spec_l1New_l0_F : PT := mkL [(0, .slice), (3, .int .i64), (4, .int .i64)] fun K N => spec_l1New_l0 (curV [(0, .slice), (3, .int .i64)] (K (.exit 0))) N

theorem spec_l1New_l0_V : Valid Try.prog 28 (sub code20 [true, true, false, true, false]) spec_l1New_l0_F :=
  loop_at (code20) [true, true, false, true, false] (loop_piece (c := (sub code20 [true, true, false, true, false, false])) mixed rows_nil (fun K => by intro code_2 code_l2 code_c2 n3 i_4 h hd; exact hd) (fun K N => by intro code_2 code_l2 code_c2 n3 i_4 h hd; exact (spec_l1New_l0_eq K N code_2 code_l2 code_c2 n3 i_4 h) ▸ hd))

theorem spec_l1New_eq (K : Cont) (code_1 : Option Addr) (code_l1 : Nat) (code_c1 : Nat) (h : H) :
  spec_l1New (curV [(2, .blk)] (K .ret)) code_1 code_l1 code_c1 h = evC Try.prog 28 [([false, false, true, false, true, true], spec_l1New_l0_F)] [] code20 [(0, .slice code_1 code_l1 code_c1)] h (outsOf none [] (some [(2, .blk)]) K).K := by kernel_rfl

def spec_l1New_F : PT := mkF [(0, .slice)] fun K => spec_l1New (curV [(2, .blk)] (K .ret))

theorem spec_l1New_V : Valid Try.prog 28 code20 spec_l1New_F :=
  piece mixed (rows_cons (q' := [true, true, false, true, false]) spec_l1New_l0_V rfl rows_nil) (fun K => by intro code_1 code_l1 code_c1 h hd; exact (spec_l1New_eq K code_1 code_l1 code_c1 h) ▸ hd)

theorem spec_l1New_c0 (code_1 : Option Addr) (code_l1 : Nat) (code_c1 : Nat) (h : H) (K : Value → H → Prop) :
  spec_l1New (fun b100001 h =>
  K (.pointer (some ⟨b100001, 0, none⟩)) h) code_1 code_l1 code_c1 h = callF Try.prog Try.f20.results.toList spec_l1New_F [.slice code_1 code_l1 code_c1] h K := by kernel_rfl

theorem spec_l1New_call {code_1 : Option Addr} {code_l1 : Nat} {code_c1 : Nat} {h : H} {K : Value → H → Prop} (hs : spec_l1New (fun b100001 h =>
  K (.pointer (some ⟨b100001, 0, none⟩)) h) code_1 code_l1 code_c1 h) : callK Try.prog 20 ⟨[.slice code_1 code_l1 code_c1]⟩ h K :=
  func_calls Try.func20 body20 spec_l1New_V (Nat.le_of_ble_eq_true (by kernel_rfl)) (spec_l1New_c0 code_1 code_l1 code_c1 h K ▸ hs)

def spec_l1New_M_l0 (kx0 : Option Addr → Nat → Nat → Int → H → Prop) : Nat → Option Addr → Nat → Nat → Int → Int → H → Prop
 | 0, _, _, _, _, _, _ => False
 | N + 1, code_2, code_l2, code_c2, n3, i_4, h =>
  ifB (decide ((i_4 : Int) < (code_l2 : Nat)))
  (req (0 ≤ (i_4 : Int) ∧ (i_4 : Int) < (code_l2 : Nat))
  (nz code_2 fun b5 o6 =>
  ldI .u8 h b5 (o6 + i_4.toNat * 1) fun n7 =>
  spec_l1New_M_l0 kx0 N code_2 code_l2 code_c2 (bAnd .i64 (IntKind.i64.wrap ((IntKind.i64.wrap ((IntKind.i64.wrap (n3 * 131)) + (IntKind.i64.wrap n7))) + 7)) 1073741823) (IntKind.i64.wrap (i_4 + 1)) h))
  (kx0 code_2 code_l2 code_c2 n3 h)

def spec_l1New_M (kr : Nat → H → Prop) (code_1 : Option Addr) (code_l1 : Nat) (code_c1 : Nat) (h : H) : Prop :=
  ∃ M5, spec_l1New_M_l0 (fun code_2 code_l2 code_c2 n3 h =>
  newD h [.slice code_2 code_l2 code_c2, .int .i64 0, .int .i64 n3] 67 fun b4 h =>
  kr b4 h) M5 code_1 code_l1 code_c1 (IntKind.i64.wrap (76543 + (code_l1 : Nat))) 0 h

theorem spec_l1New_M_l0_D {g0 m0 : H} {kx0_1 : Option Addr → Nat → Nat → Int → H → Prop} {kx0_2 : Option Addr → Nat → Nat → Int → H → Prop} (Hkx0 : ∀ (code_200001 : Option Addr) (code_l200001 : Nat) (code_c200001 : Nat) (n200002 : Int) (g m : H), Md g0 m0 g m [] → kx0_2 code_200001 code_l200001 code_c200001 n200002 m → kx0_1 code_200001 code_l200001 code_c200001 n200002 g) : ∀ (N : Nat) (code_1002 : Option Addr) (code_l1002 : Nat) (code_c1002 : Nat) (n1003 : Int) (i_1004 : Int) (g m : H), Md g0 m0 g m [] → spec_l1New_M_l0 kx0_2 N code_1002 code_l1002 code_c1002 n1003 i_1004 m → spec_l1New_l0 kx0_1 N code_1002 code_l1002 code_c1002 n1003 i_1004 g := by
  intro N
  induction N with
  | zero => intro code_1002 code_l1002 code_c1002 n1003 i_1004 g m R h0; exact h0.elim
  | succ N ih =>
    intro code_1002 code_l1002 code_c1002 n1003 i_1004 g m R
    rw [spec_l1New_M_l0, spec_l1New_l0]
    exact (d_if (d_req (d_nz fun b1005 o1006 =>
  (d_ldI R fun n1007 =>
  (ih code_1002 code_l1002 code_c1002 (bAnd .i64 (IntKind.i64.wrap ((IntKind.i64.wrap ((IntKind.i64.wrap (n1003 * 131)) + (IntKind.i64.wrap n1007))) + 7)) 1073741823) (IntKind.i64.wrap (i_1004 + 1)) _ _ R.sub))))
  (Hkx0 code_1002 code_l1002 code_c1002 n1003 _ _ R.sub))

theorem spec_l1New_M_D {g0 m0 : H} {kr_1 : Nat → H → Prop} {kr_2 : Nat → H → Prop} (Hkr : ∀ (b200001 : Nat) (g m : H), Md g0 m0 g m [] → kr_2 b200001 m → kr_1 b200001 g) : ∀ (code_1001 : Option Addr) (code_l1001 : Nat) (code_c1001 : Nat) (g m : H), Md g0 m0 g m [] → spec_l1New_M kr_2 code_1001 code_l1001 code_c1001 m → spec_l1New kr_1 code_1001 code_l1001 code_c1001 g := by
  intro code_1001 code_l1001 code_c1001 g m R
  rw [spec_l1New_M, spec_l1New]
  exact (d_ex fun N => spec_l1New_M_l0_D (by exact fun code_1002 code_l1002 code_c1002 n1003 g m R =>
  (d_new R fun b1004 g m R =>
  (Hkr b1004 _ _ R.sub))) N code_1001 code_l1001 code_c1001 (IntKind.i64.wrap (76543 + (code_l1001 : Nat))) 0 _ _ R.sub)

theorem spec_l1New_M_call {code_1 : Option Addr} {code_l1 : Nat} {code_c1 : Nat} {h : H} {K : Value → H → Prop} (hs : spec_l1New_M (fun b300001 h =>
  K (.pointer (some ⟨b300001, 0, none⟩)) h) code_1 code_l1 code_c1 h) : callD Try.prog 20 ⟨[.slice code_1 code_l1 code_c1]⟩ h K :=
  fun g r => spec_l1New_call (spec_l1New_M_D (by exact fun b300001 g m R =>
(fun h => ⟨m, R.af, h⟩)) _ _ _ _ _ (Md.start r) hs)

noncomputable def code21 : Code := codeOf Try.f21
theorem body21 : Try.f21.body = some code21 := by kernel_rfl
def spec_l16DrawProcs_l0 (kx0 : Option Addr → Nat → Nat → H → Prop) : Nat → Option Addr → Nat → Nat → H → Prop
 | 0, _, _, _, _ => False
 | N + 1, c_11, b12, p_13, h =>
  ldL h p_13 0 fun a14 l14 c14 =>
  ifB (decide (((l14 : Nat) : Int) < 32))
  (ldRow h p_13 0 0 [.slice] fun a15 l15 c15 =>
  callK Try.prog 37 ⟨[.agg ⟨[.slice a15 l15 c15]⟩, .int .i64 0]⟩ h fun v16 h =>
  elF False (.tuple [.agg [.slice], .agg [.int .i64, .int .i64, .int .i64]]) v16 fun a17 l17 c17 n18 n19 n20 =>
  new h [.slice none 0 0] 27 fun b21 h =>
  new h [.int .i64 0, .int .i64 0, .int .i64 0] 34 fun b22 h =>
  stRow h b21 0 0 [.slice a17 l17 c17] fun h =>
  stRow h b22 0 0 [.int .i64 n18, .int .i64 n19, .int .i64 n20] fun h =>
  ldRow h b21 0 0 [.slice] fun a23 l23 c23 =>
  stRow h p_13 0 0 [.slice a23 l23 c23] fun h =>
  spec_l16DrawProcs_l0 kx0 N c_11 b12 p_13 h)
  (kx0 c_11 b12 p_13 h)

def spec_l16DrawProcs_j1 (kr : Nat → H → Prop) (c_9 : Option Addr) (b10 : Nat) (p_11 : Nat) (h : H) : Prop :=
  callK Try.prog 36 ⟨[.pointer c_9, .int .i64 10]⟩ h fun v12 h =>
  asB v12 fun t13 =>
  ifB t13
  (ldRow h p_11 0 0 [.slice] fun a14 l14 c14 =>
  callK Try.prog 38 ⟨[.pointer c_9, .agg ⟨[.slice a14 l14 c14]⟩]⟩ h fun v15 h =>
  elF False (.tuple []) v15
  (ldRow h p_11 0 0 [.slice] fun a16 l16 c16 =>
  stRow h b10 0 0 [.slice a16 l16 c16] fun h =>
  kr b10 h))
  (ldRow h p_11 0 0 [.slice] fun a17 l17 c17 =>
  stRow h b10 0 0 [.slice a17 l17 c17] fun h =>
  kr b10 h)

def spec_l16DrawProcs (kr : Nat → H → Prop) (c_1 : Option Addr) (h : H) : Prop :=
  new h [.slice none 0 0] 27 fun b2 h =>
  callK Try.prog 35 ⟨[.pointer c_1, .int .i64 40]⟩ h fun v3 h =>
  asI .i64 v3 fun n4 =>
  callK Try.prog 34 ⟨[.pointer c_1, .int .i64 n4]⟩ h fun v5 h =>
  elF False (.tuple [.agg [.slice], .slice]) v5 fun a6 l6 c6 a7 l7 c7 =>
  new h [.slice none 0 0] 27 fun b8 h =>
  stRow h b8 0 0 [.slice a6 l6 c6] fun h =>
  callK Try.prog 36 ⟨[.pointer c_1, .int .i64 60]⟩ h fun v9 h =>
  asB v9 fun t10 =>
  ifB t10
  (∃ M14, spec_l16DrawProcs_l0 (fun c_11 b12 p_13 h =>
  spec_l16DrawProcs_j1 kr c_11 b12 p_13 h) M14 c_1 b2 b8 h)
  (spec_l16DrawProcs_j1 kr c_1 b2 b8 h)

theorem spec_l16DrawProcs_l0_eq (K : Cont) (N : Nat) (c_11 : Option Addr) (b12 : Nat) (p_13 : Nat) (h : H) :
  spec_l16DrawProcs_l0 (curV [(0, .ptr), (2, .blk), (3, .blk)] (K (.exit 0))) (N + 1) c_11 b12 p_13 h = evC Try.prog 32 [] [] (sub code21 [true, true, false, true, false, false, false]) [(0, .pointer c_11), (2, .pointer (some ⟨b12, 0, none⟩)), (3, .pointer (some ⟨p_13, 0, none⟩))] h ((outsOf none [(0, [(0, .ptr), (2, .blk), (3, .blk)])] none K).loop [(0, .ptr), (2, .blk), (3, .blk)] (spec_l16DrawProcs_l0 (curV [(0, .ptr), (2, .blk), (3, .blk)] (K (.exit 0))) N)).K := by kernel_rfl

def spec_l16DrawProcs_l0_F : PT := mkL [(0, .ptr), (2, .blk), (3, .blk)] fun K N => spec_l16DrawProcs_l0 (curV [(0, .ptr), (2, .blk), (3, .blk)] (K (.exit 0))) N

theorem spec_l16DrawProcs_l0_V : Valid Try.prog 32 (sub code21 [true, true, false, true, false, false]) spec_l16DrawProcs_l0_F :=
  loop_at (code21) [true, true, false, true, false, false] (loop_piece (c := (sub code21 [true, true, false, true, false, false, false])) mixed rows_nil (fun K => by intro c_11 b12 p_13 h hd; exact hd) (fun K N => by intro c_11 b12 p_13 h hd; exact (spec_l16DrawProcs_l0_eq K N c_11 b12 p_13 h) ▸ hd))

theorem spec_l16DrawProcs_j1_eq (K : Cont) (c_9 : Option Addr) (b10 : Nat) (p_11 : Nat) (h : H) :
  spec_l16DrawProcs_j1 (curV [(2, .blk)] (K .ret)) c_9 b10 p_11 h = evC Try.prog 32 [] [] (sub code21 [true, true, true]) [(0, .pointer c_9), (2, .pointer (some ⟨b10, 0, none⟩)), (3, .pointer (some ⟨p_11, 0, none⟩))] h (outsOf none [] (some [(2, .blk)]) K).K := by kernel_rfl

def spec_l16DrawProcs_j1_F : PT := mkF [(0, .ptr), (2, .blk), (3, .blk)] fun K => spec_l16DrawProcs_j1 (curV [(2, .blk)] (K .ret))

theorem spec_l16DrawProcs_j1_V : Valid Try.prog 32 (sub code21 [true, true, true]) spec_l16DrawProcs_j1_F :=
  piece mixed rows_nil (fun K => by intro c_9 b10 p_11 h hd; exact (spec_l16DrawProcs_j1_eq K c_9 b10 p_11 h) ▸ hd)

theorem spec_l16DrawProcs_eq (K : Cont) (c_1 : Option Addr) (h : H) :
  spec_l16DrawProcs (curV [(2, .blk)] (K .ret)) c_1 h = evC Try.prog 32 [([true, true, true], spec_l16DrawProcs_j1_F), ([false, false, false, true, false, true, true], spec_l16DrawProcs_l0_F)] [] code21 [(0, .pointer c_1)] h (outsOf none [] (some [(2, .blk)]) K).K := by kernel_rfl

def spec_l16DrawProcs_F : PT := mkF [(0, .ptr)] fun K => spec_l16DrawProcs (curV [(2, .blk)] (K .ret))

theorem spec_l16DrawProcs_V : Valid Try.prog 32 code21 spec_l16DrawProcs_F :=
  piece mixed (rows_cons (q' := [true, true, true]) spec_l16DrawProcs_j1_V rfl (rows_cons (q' := [true, true, false, true, false, false]) spec_l16DrawProcs_l0_V rfl rows_nil)) (fun K => by intro c_1 h hd; exact (spec_l16DrawProcs_eq K c_1 h) ▸ hd)

theorem spec_l16DrawProcs_c0 (c_1 : Option Addr) (h : H) (K : Value → H → Prop) :
  spec_l16DrawProcs (fun b100001 h =>
  ldRow h b100001 0 0 [.slice] fun a100002 l100002 c100002 =>
  K (.agg ⟨[.slice a100002 l100002 c100002]⟩) h) c_1 h = callF Try.prog Try.f21.results.toList spec_l16DrawProcs_F [.pointer c_1] h K := by kernel_rfl

theorem spec_l16DrawProcs_call {c_1 : Option Addr} {h : H} {K : Value → H → Prop} (hs : spec_l16DrawProcs (fun b100001 h =>
  ldRow h b100001 0 0 [.slice] fun a100002 l100002 c100002 =>
  K (.agg ⟨[.slice a100002 l100002 c100002]⟩) h) c_1 h) : callK Try.prog 21 ⟨[.pointer c_1]⟩ h K :=
  func_calls Try.func21 body21 spec_l16DrawProcs_V (Nat.le_of_ble_eq_true (by kernel_rfl)) (spec_l16DrawProcs_c0 c_1 h K ▸ hs)

theorem o_el_TALELE {n0 : Option Addr} {n1 : Nat} {n2 : Nat} {n3 : Option Addr} {n4 : Nat} {n5 : Nat} {K : Option Addr → Nat → Nat → Option Addr → Nat → Nat → Prop} (g : K n0 n1 n2 n3 n4 n5) : elF False (.tuple [.agg [.slice], .slice]) (.tuple ⟨[.agg ⟨[.slice n0 n1 n2]⟩, .slice n3 n4 n5]⟩) K := Eq.mpr (by kernel_rfl) g
theorem d_el_TALELE {v : Value} {K2 K1 : Option Addr → Nat → Nat → Option Addr → Nat → Nat → Prop} (f : ∀ n0 n1 n2 n3 n4 n5, K2 n0 n1 n2 n3 n4 n5 → K1 n0 n1 n2 n3 n4 n5) : elF False (.tuple [.agg [.slice], .slice]) v K2 → elF False (.tuple [.agg [.slice], .slice]) v K1 :=
  d_el (s := .tuple [.agg [.slice], .slice]) (Eq.mpr (by kernel_rfl) f)
theorem o_el_TE {K : Prop} (g : K) : elF False (.tuple []) (.tuple ⟨[]⟩) K := Eq.mpr (by kernel_rfl) g
theorem d_el_TE {v : Value} {K2 K1 : Prop} (f : K2 → K1) : elF False (.tuple []) v K2 → elF False (.tuple []) v K1 :=
  d_el (s := .tuple []) (Eq.mpr (by kernel_rfl) f)
def spec_l16DrawProcs_M_l0 (kx0 : Option Addr → Option Addr → Nat → Nat → H → Prop) : Nat → Option Addr → Option Addr → Nat → Nat → H → Prop
 | 0, _, _, _, _, _ => False
 | N + 1, c_9, a12, l12, c12, h =>
  ifB (decide (((l12 : Nat) : Int) < 32))
  (callD Try.prog 37 ⟨[.agg ⟨[.slice a12 l12 c12]⟩, .int .i64 0]⟩ h fun v14 h =>
  elF False (.tuple [.agg [.slice], .agg [.int .i64, .int .i64, .int .i64]]) v14 fun a15 l15 c15 n16 n17 n18 =>
  spec_l16DrawProcs_M_l0 kx0 N c_9 a15 l15 c15 h)
  (kx0 c_9 a12 l12 c12 h)

def spec_l16DrawProcs_M_j1 (kr : Option Addr → Nat → Nat → H → Prop) (c_7 : Option Addr) (a10 : Option Addr) (l10 : Nat) (c10 : Nat) (h : H) : Prop :=
  callD Try.prog 36 ⟨[.pointer c_7, .int .i64 10]⟩ h fun v12 h =>
  asB v12 fun t13 =>
  ifB t13
  (callD Try.prog 38 ⟨[.pointer c_7, .agg ⟨[.slice a10 l10 c10]⟩]⟩ h fun v14 h =>
  elF False (.tuple []) v14
  (kr a10 l10 c10 h))
  (kr a10 l10 c10 h)

def spec_l16DrawProcs_M (kr : Option Addr → Nat → Nat → H → Prop) (c_1 : Option Addr) (h : H) : Prop :=
  callD Try.prog 35 ⟨[.pointer c_1, .int .i64 40]⟩ h fun v2 h =>
  asI .i64 v2 fun n3 =>
  callD Try.prog 34 ⟨[.pointer c_1, .int .i64 n3]⟩ h fun v4 h =>
  elF False (.tuple [.agg [.slice], .slice]) v4 fun a5 l5 c5 a6 l6 c6 =>
  callD Try.prog 36 ⟨[.pointer c_1, .int .i64 60]⟩ h fun v7 h =>
  asB v7 fun t8 =>
  ifB t8
  (∃ M14, spec_l16DrawProcs_M_l0 (fun c_9 a12 l12 c12 h =>
  spec_l16DrawProcs_M_j1 kr c_9 a12 l12 c12 h) M14 c_1 a5 l5 c5 h)
  (spec_l16DrawProcs_M_j1 kr c_1 a5 l5 c5 h)

theorem spec_l16DrawProcs_M_l0_D {g0 m0 : H} {kx0_1 : Option Addr → Nat → Nat → H → Prop} {kx0_2 : Option Addr → Option Addr → Nat → Nat → H → Prop} (Hkx0 : ∀ (c_200001 : Option Addr) (a200002 : Option Addr) (l200002 : Nat) (c200002 : Nat) (a200004 : Option Addr) (l200004 : Nat) (c200004 : Nat) (p200003 : Nat) (p200005 : Nat) (g m : H), Md g0 m0 g m [lo p200003 [.slice a200002 l200002 c200002], lo p200005 [.slice a200004 l200004 c200004]] → kx0_2 c_200001 a200004 l200004 c200004 m → kx0_1 c_200001 p200003 p200005 g) : ∀ (N : Nat) (c_1009 : Option Addr) (a1010 : Option Addr) (l1010 : Nat) (c1010 : Nat) (a1012 : Option Addr) (l1012 : Nat) (c1012 : Nat) (p1011 : Nat) (p1013 : Nat) (g m : H), Md g0 m0 g m [lo p1011 [.slice a1010 l1010 c1010], lo p1013 [.slice a1012 l1012 c1012]] → spec_l16DrawProcs_M_l0 kx0_2 N c_1009 a1012 l1012 c1012 m → spec_l16DrawProcs_l0 kx0_1 N c_1009 p1011 p1013 g := by
  intro N
  induction N with
  | zero => intro c_1009 a1010 l1010 c1010 a1012 l1012 c1012 p1011 p1013 g m R h0; exact h0.elim
  | succ N ih =>
    intro c_1009 a1010 l1010 c1010 a1012 l1012 c1012 p1011 p1013 g m R
    rw [spec_l16DrawProcs_M_l0, spec_l16DrawProcs_l0]
    exact (p_ldL R rfl (d_if (p_row_L R rfl (d_call R fun v1014 g m R =>
  (d_el_TALEAI3EE fun a1015 l1015 c1015 n1016 n1017 n1018 =>
  (p_new R fun p1019 g R =>
  (p_new R fun p1020 g R =>
  (p_stRow R (cs' := [.slice a1015 l1015 c1015]) ⟨rfl, rfl, rfl⟩ fun g R =>
  (p_stRow R (cs' := [.int .i64 n1016, .int .i64 n1017, .int .i64 n1018]) ⟨rfl, rfl, rfl⟩ fun g R =>
  (p_row_L R rfl (p_stRow R (cs' := [.slice a1015 l1015 c1015]) ⟨rfl, rfl, rfl⟩ fun g R =>
  (ih c_1009 a1010 l1010 c1010 a1015 l1015 c1015 p1011 p1013 _ _ R.sub))))))))))
  (Hkx0 c_1009 a1010 l1010 c1010 a1012 l1012 c1012 p1011 p1013 _ _ R.sub)))

theorem spec_l16DrawProcs_M_j1_D {g0 m0 : H} {kr_1 : Nat → H → Prop} {kr_2 : Option Addr → Nat → Nat → H → Prop} (Hkr : ∀ (a200001 : Option Addr) (l200001 : Nat) (c200001 : Nat) (p200002 : Nat) (g m : H), Md g0 m0 g m [lo p200002 [.slice a200001 l200001 c200001]] → kr_2 a200001 l200001 c200001 m → kr_1 p200002 g) : ∀ (c_1007 : Option Addr) (a1008 : Option Addr) (l1008 : Nat) (c1008 : Nat) (a1010 : Option Addr) (l1010 : Nat) (c1010 : Nat) (p1009 : Nat) (p1011 : Nat) (g m : H), Md g0 m0 g m [lo p1009 [.slice a1008 l1008 c1008], lo p1011 [.slice a1010 l1010 c1010]] → spec_l16DrawProcs_M_j1 kr_2 c_1007 a1010 l1010 c1010 m → spec_l16DrawProcs_j1 kr_1 c_1007 p1009 p1011 g := by
  intro c_1007 a1008 l1008 c1008 a1010 l1010 c1010 p1009 p1011 g m R
  rw [spec_l16DrawProcs_M_j1, spec_l16DrawProcs_j1]
  exact (d_call R fun v1012 g m R =>
  (d_asB fun t1013 =>
  (d_if (p_row_L R rfl (d_call R fun v1014 g m R =>
  (d_el_TE (p_row_L R rfl (p_stRow R (cs' := [.slice a1010 l1010 c1010]) ⟨rfl, rfl, rfl⟩ fun g R =>
  (Hkr a1010 l1010 c1010 p1009 _ _ R.sub))))))
  (p_row_L R rfl (p_stRow R (cs' := [.slice a1010 l1010 c1010]) ⟨rfl, rfl, rfl⟩ fun g R =>
  (Hkr a1010 l1010 c1010 p1009 _ _ R.sub))))))

theorem spec_l16DrawProcs_M_D {g0 m0 : H} {kr_1 : Nat → H → Prop} {kr_2 : Option Addr → Nat → Nat → H → Prop} (Hkr : ∀ (a200001 : Option Addr) (l200001 : Nat) (c200001 : Nat) (p200002 : Nat) (g m : H), Md g0 m0 g m [lo p200002 [.slice a200001 l200001 c200001]] → kr_2 a200001 l200001 c200001 m → kr_1 p200002 g) : ∀ (c_1001 : Option Addr) (g m : H), Md g0 m0 g m [] → spec_l16DrawProcs_M kr_2 c_1001 m → spec_l16DrawProcs kr_1 c_1001 g := by
  intro c_1001 g m R
  rw [spec_l16DrawProcs_M, spec_l16DrawProcs]
  exact (p_new R fun p1002 g R =>
  (d_call R fun v1003 g m R =>
  (d_asI fun n1004 =>
  (d_call R fun v1005 g m R =>
  (d_el_TALELE fun a1006 l1006 c1006 a1007 l1007 c1007 =>
  (p_new R fun p1008 g R =>
  (p_stRow R (cs' := [.slice a1006 l1006 c1006]) ⟨rfl, rfl, rfl⟩ fun g R =>
  (d_call R fun v1009 g m R =>
  (d_asB fun t1010 =>
  (d_if (d_ex fun N => spec_l16DrawProcs_M_l0_D (by exact fun c_1011 a1012 l1012 c1012 a1014 l1014 c1014 p1013 p1015 g m R =>
  (spec_l16DrawProcs_M_j1_D (by exact fun a1016 l1016 c1016 p1017 g m R =>
  (Hkr a1016 l1016 c1016 p1017 _ _ R.sub)) c_1011 a1012 l1012 c1012 a1014 l1014 c1014 p1013 p1015 _ _ R.sub)) N c_1001 none 0 0 a1006 l1006 c1006 p1002 p1008 _ _ R.sub)
  (spec_l16DrawProcs_M_j1_D (by exact fun a1018 l1018 c1018 p1019 g m R =>
  (Hkr a1018 l1018 c1018 p1019 _ _ R.sub)) c_1001 none 0 0 a1006 l1006 c1006 p1002 p1008 _ _ R.sub)))))))))))

theorem spec_l16DrawProcs_M_call {c_1 : Option Addr} {h : H} {K : Value → H → Prop} (hs : spec_l16DrawProcs_M (fun a300001 l300001 c300001 h =>
  K (.agg ⟨[.slice a300001 l300001 c300001]⟩) h) c_1 h) : callD Try.prog 21 ⟨[.pointer c_1]⟩ h K :=
  fun g r => spec_l16DrawProcs_call (spec_l16DrawProcs_M_D (by exact fun a300001 l300001 c300001 p300002 g m R =>
(p_row_L R rfl (fun h => ⟨m, R.af, h⟩))) _ _ _ (Md.start r) hs)

end Go.Proofs.Ytgcjjapmdbgofaa
