import Derived.Test.YteeinamngmmlbaaProg
import Derived.Test.YteeinamngmmlbaaG1
set_option linter.unusedVariables false
set_option maxRecDepth 100000
namespace Go.Proofs.Yteeinamngmmlbaa
open Go.Eng

noncomputable def code20 : Code := codeOf Try.f20
theorem body20 : Try.f20.body = some code20 := by kernel_rfl
def impl_SchedOk_l0 (kx0 : Nat → H → Prop) (kr : Bool → H → Prop) : Nat → Nat → Option Nat → Int → Option Addr → Nat → Nat → Int → Int → H → Prop
 | 0, _, _, _, _, _, _, _, _, _ => False
 | N + 1, b14, m15, n16, a17, l17, c17, n18, n19, h =>
  ifB (decide ((n19 : Int) < n18))
  (req (0 ≤ (n19 : Int) ∧ (n19 : Int) < (l17 : Nat))
  (nz a17 fun b20 o21 =>
  ldRow h b20 (o21 + n19.toNat * 8) 0 [.int .i64, .int .i64, .int .i64, .int .i64, .int .i64, .int .i64, .int .i64, .int .i64] fun n22 n23 n24 n25 n26 n27 n28 n29 =>
  new h [.int .i64 0, .int .i64 0, .int .i64 0, .int .i64 0, .int .i64 0, .int .i64 0, .int .i64 0, .int .i64 0] 60 fun b30 h =>
  stRow h b30 0 0 [.int .i64 n22, .int .i64 n23, .int .i64 n24, .int .i64 n25, .int .i64 n26, .int .i64 n27, .int .i64 n28, .int .i64 n29] fun h =>
  ldI .i64 h b30 0 fun n31 =>
  ifB (decide ((n31 : Int) ≤ n16))
  (kr false h)
  (ldI .i64 h b30 0 fun n32 =>
  ifB (decide ((n32 : Int) ≥ 32))
  (kr false h)
  (ldI .i64 h b30 1 fun n33 =>
  ifB (decide ((n33 : Int) < 0))
  (kr false h)
  (ldI .i64 h b30 1 fun n34 =>
  ifB (decide ((n34 : Int) > 7))
  (kr false h)
  (ldI .i64 h b30 3 fun n35 =>
  ifB (decide ((n35 : Int) < 1))
  (kr false h)
  (ldI .i64 h b30 3 fun n36 =>
  ldI .i64 h b14 1 fun n37 =>
  ifB (decide ((n36 : Int) > n37))
  (kr false h)
  (ldI .i64 h b30 3 fun n38 =>
  lookK Try.prog 2 4 h m15 (.int .i64 n38) (.bool) fun t40 t39 =>
  ifB t39
  (kr false h)
  (ldI .i64 h b30 4 fun n41 =>
  ifB (decide ((n41 : Int) < 1))
  (kr false h)
  (ldI .i64 h b30 4 fun n42 =>
  ifB (decide ((n42 : Int) > 4))
  (kr false h)
  (ldI .i64 h b30 5 fun n43 =>
  ifB (decide ((n43 : Int) < 0))
  (kr false h)
  (ldI .i64 h b30 5 fun n44 =>
  ldI .i64 h b14 0 fun n45 =>
  ifB (decide ((n44 : Int) > n45))
  (kr false h)
  (ldI .i64 h b30 0 fun n46 =>
  ldI .i64 h b30 3 fun n47 =>
  putMapK Try.prog 2 h (.map m15) (.int .i64 n47) (.bool true) fun h =>
  ldI .i64 h b30 2 fun n48 =>
  ifB ((n48 : Int) == 1)
  (ldI .i64 h b30 7 fun n49 =>
  ifB ((n49 : Int) != (-1))
  (kr false h)
  (ldI .i64 h b30 6 fun n50 =>
  ifB ((n50 : Int) != 0)
  (kr false h)
  (impl_SchedOk_l0 kx0 kr N b14 m15 n46 a17 l17 c17 n18 (IntKind.i64.wrap (n19 + 1)) h)))
  (ifB ((n48 : Int) == 2)
  (ldI .i64 h b30 6 fun n51 =>
  ifB ((n51 : Int) != 0)
  (kr false h)
  (ldI .i64 h b30 7 fun n52 =>
  callK Try.prog 39 ⟨[.pointer (some ⟨b14, 0, none⟩), .int .i64 n52]⟩ h fun v53 h =>
  asP v53 fun p54 =>
  ifB p54.isNone
  (kr false h)
  (impl_SchedOk_l0 kx0 kr N b14 m15 n46 a17 l17 c17 n18 (IntKind.i64.wrap (n19 + 1)) h)))
  (ifB ((n48 : Int) == 3)
  (ldI .i64 h b30 7 fun n55 =>
  ifB ((n55 : Int) != (-1))
  (kr false h)
  (ldI .i64 h b30 6 fun n56 =>
  ifB (decide ((n56 : Int) ≤ 0))
  (kr false h)
  (impl_SchedOk_l0 kx0 kr N b14 m15 n46 a17 l17 c17 n18 (IntKind.i64.wrap (n19 + 1)) h)))
  (kr false h))))))))))))))))
  (kx0 b14 h)

def impl_SchedOk_l1 (kx3 : Nat → H → Prop) (kr : Bool → H → Prop) : Nat → Nat → Int → Option Addr → Nat → Nat → Int → Int → H → Prop
 | 0, _, _, _, _, _, _, _, _ => False
 | N + 1, b59, n60, a61, l61, c61, n62, n63, h =>
  ifB (decide ((n63 : Int) < n62))
  (req (0 ≤ (n63 : Int) ∧ (n63 : Int) < (l61 : Nat))
  (nz a61 fun b64 o65 =>
  ldRow h b64 (o65 + n63.toNat * 2) 0 [.int .i64, .int .i64] fun n66 n67 =>
  new h [.int .i64 0, .int .i64 0] 57 fun b68 h =>
  stRow h b68 0 0 [.int .i64 n66, .int .i64 n67] fun h =>
  ldI .i64 h b68 0 fun n69 =>
  ifB (decide ((n69 : Int) ≤ n60))
  (kr false h)
  (ldI .i64 h b68 0 fun n70 =>
  ifB (decide ((n70 : Int) ≥ 16))
  (kr false h)
  (ldI .i64 h b68 1 fun n71 =>
  callK Try.prog 40 ⟨[.pointer (some ⟨b59, 0, none⟩), .int .i64 n71]⟩ h fun v72 h =>
  asP v72 fun p73 =>
  ifB p73.isNone
  (kr false h)
  (ldI .i64 h b68 0 fun n74 =>
  impl_SchedOk_l1 kx3 kr N b59 n74 a61 l61 c61 n62 (IntKind.i64.wrap (n63 + 1)) h)))))
  (kx3 b59 h)

def impl_SchedOk_l2 (kx5 : H → Prop) (kr : Bool → H → Prop) : Nat → Nat → Option Addr → Nat → Nat → Int → Int → H → Prop
 | 0, _, _, _, _, _, _, _ => False
 | N + 1, b77, a78, l78, c78, n79, n80, h =>
  ifB (decide ((n80 : Int) < n79))
  (req (0 ≤ (n80 : Int) ∧ (n80 : Int) < (l78 : Nat))
  (nz a78 fun b81 o82 =>
  ldRow h b81 (o82 + n80.toNat * 8) 0 [.int .i64, .int .i64, .int .i64, .int .i64, .int .i64, .int .i64, .int .i64, .int .i64] fun n83 n84 n85 n86 n87 n88 n89 n90 =>
  new h [.int .i64 0, .int .i64 0, .int .i64 0, .int .i64 0, .int .i64 0, .int .i64 0, .int .i64 0, .int .i64 0] 60 fun b91 h =>
  stRow h b91 0 0 [.int .i64 n83, .int .i64 n84, .int .i64 n85, .int .i64 n86, .int .i64 n87, .int .i64 n88, .int .i64 n89, .int .i64 n90] fun h =>
  ldI .i64 h b91 0 fun n92 =>
  ldI .i64 h b91 0 fun n93 =>
  callK Try.prog 41 ⟨[.pointer (some ⟨b77, 0, none⟩), .int .i64 n92, .int .i64 n93]⟩ h fun v94 h =>
  asB v94 fun t95 =>
  ifB t95
  (kr false h)
  (impl_SchedOk_l2 kx5 kr N b77 a78 l78 c78 n79 (IntKind.i64.wrap (n80 + 1)) h)))
  (kx5 h)

def impl_SchedOk (kr : Bool → H → Prop) (n1 : Int) (n2 : Int) (a3 : Option Addr) (l3 : Nat) (c3 : Nat) (a4 : Option Addr) (l4 : Nat) (c4 : Nat) (h : H) : Prop :=
  new h [.int .i64 n1, .int .i64 n2, .slice a3 l3 c3, .slice a4 l4 c4] 32 fun b5 h =>
  ldI .i64 h b5 0 fun n6 =>
  ifB (decide ((n6 : Int) < 0))
  (kr false h)
  (ldI .i64 h b5 0 fun n7 =>
  ifB (decide ((n7 : Int) > 1099511627776))
  (kr false h)
  (ldI .i64 h b5 1 fun n8 =>
  ifB (decide ((n8 : Int) < 0))
  (kr false h)
  (ldI .i64 h b5 1 fun n9 =>
  ifB (decide ((n9 : Int) > 1099511627776))
  (kr false h)
  (ldL h b5 2 fun a10 l10 c10 =>
  ifB (decide (((l10 : Nat) : Int) > 32))
  (kr false h)
  (ldL h b5 3 fun a11 l11 c11 =>
  ifB (decide (((l11 : Nat) : Int) > 16))
  (kr false h)
  (newM h fun r12 h =>
  ldL h b5 2 fun a13 l13 c13 =>
  ∃ M20, impl_SchedOk_l0 (fun b14 h =>
  ldL h b14 3 fun a15 l15 c15 =>
  ∃ M19, impl_SchedOk_l1 (fun b16 h =>
  ldL h b16 2 fun a17 l17 c17 =>
  ∃ M18, impl_SchedOk_l2 (fun h =>
  kr true h) kr M18 b16 a17 l17 c17 (l17 : Nat) 0 h) kr M19 b14 (-1) a15 l15 c15 (l15 : Nat) 0 h) kr M20 b5 (some r12) (-1) a13 l13 c13 (l13 : Nat) 0 h))))))

theorem impl_SchedOk_l0_eq (K : Cont) (N : Nat) (b14 : Nat) (m15 : Option Nat) (n16 : Int) (a17 : Option Addr) (l17 : Nat) (c17 : Nat) (n18 : Int) (n19 : Int) (h : H) :
  impl_SchedOk_l0 (curV [(1, .blk)] (K (.exit 0))) (curV [(2, .bool)] (K .ret)) (N + 1) b14 m15 n16 a17 l17 c17 n18 n19 h = evC Try.prog 185 [] [] (sub code20 [true, true, true, true, false, true, false, false]) [(1, .pointer (some ⟨b14, 0, none⟩)), (3, .map m15), (4, .int .i64 n16), (43, .slice a17 l17 c17), (44, .int .i64 n18), (45, .int .i64 n19)] h ((outsOf none [(0, [(1, .blk)])] (some [(2, .bool)]) K).loop [(1, .blk), (3, .map), (4, .int .i64), (43, .slice), (44, .int .i64), (45, .int .i64)] (impl_SchedOk_l0 (curV [(1, .blk)] (K (.exit 0))) (curV [(2, .bool)] (K .ret)) N)).K := by kernel_rfl

def impl_SchedOk_l0_F : PT := mkL [(1, .blk), (3, .map), (4, .int .i64), (43, .slice), (44, .int .i64), (45, .int .i64)] fun K N => impl_SchedOk_l0 (curV [(1, .blk)] (K (.exit 0))) (curV [(2, .bool)] (K .ret)) N

theorem impl_SchedOk_l0_V : Valid Try.prog 185 (sub code20 [true, true, true, true, false, true, false]) impl_SchedOk_l0_F :=
  loop_at (code20) [true, true, true, true, false, true, false] (loop_piece (c := (sub code20 [true, true, true, true, false, true, false, false])) mixed rows_nil (fun K => by intro b14 m15 n16 a17 l17 c17 n18 n19 h hd; exact hd) (fun K N => by intro b14 m15 n16 a17 l17 c17 n18 n19 h hd; exact (impl_SchedOk_l0_eq K N b14 m15 n16 a17 l17 c17 n18 n19 h) ▸ hd))

theorem impl_SchedOk_l1_eq (K : Cont) (N : Nat) (b59 : Nat) (n60 : Int) (a61 : Option Addr) (l61 : Nat) (c61 : Nat) (n62 : Int) (n63 : Int) (h : H) :
  impl_SchedOk_l1 (curV [(1, .blk)] (K (.exit 3))) (curV [(2, .bool)] (K .ret)) (N + 1) b59 n60 a61 l61 c61 n62 n63 h = evC Try.prog 185 [] [] (sub code20 [true, true, true, true, true, true, false, true, false, false]) [(1, .pointer (some ⟨b59, 0, none⟩)), (4, .int .i64 n60), (148, .slice a61 l61 c61), (149, .int .i64 n62), (150, .int .i64 n63)] h ((outsOf none [(3, [(1, .blk)])] (some [(2, .bool)]) K).loop [(1, .blk), (4, .int .i64), (148, .slice), (149, .int .i64), (150, .int .i64)] (impl_SchedOk_l1 (curV [(1, .blk)] (K (.exit 3))) (curV [(2, .bool)] (K .ret)) N)).K := by kernel_rfl

def impl_SchedOk_l1_F : PT := mkL [(1, .blk), (4, .int .i64), (148, .slice), (149, .int .i64), (150, .int .i64)] fun K N => impl_SchedOk_l1 (curV [(1, .blk)] (K (.exit 3))) (curV [(2, .bool)] (K .ret)) N

theorem impl_SchedOk_l1_V : Valid Try.prog 185 (sub code20 [true, true, true, true, true, true, false, true, false]) impl_SchedOk_l1_F :=
  loop_at (code20) [true, true, true, true, true, true, false, true, false] (loop_piece (c := (sub code20 [true, true, true, true, true, true, false, true, false, false])) mixed rows_nil (fun K => by intro b59 n60 a61 l61 c61 n62 n63 h hd; exact hd) (fun K N => by intro b59 n60 a61 l61 c61 n62 n63 h hd; exact (impl_SchedOk_l1_eq K N b59 n60 a61 l61 c61 n62 n63 h) ▸ hd))

theorem impl_SchedOk_l2_eq (K : Cont) (N : Nat) (b77 : Nat) (a78 : Option Addr) (l78 : Nat) (c78 : Nat) (n79 : Int) (n80 : Int) (h : H) :
  impl_SchedOk_l2 (curV [] (K (.exit 5))) (curV [(2, .bool)] (K .ret)) (N + 1) b77 a78 l78 c78 n79 n80 h = evC Try.prog 185 [] [] (sub code20 [true, true, true, true, true, true, true, false, true, false, false]) [(1, .pointer (some ⟨b77, 0, none⟩)), (173, .slice a78 l78 c78), (174, .int .i64 n79), (175, .int .i64 n80)] h ((outsOf none [(5, [])] (some [(2, .bool)]) K).loop [(1, .blk), (173, .slice), (174, .int .i64), (175, .int .i64)] (impl_SchedOk_l2 (curV [] (K (.exit 5))) (curV [(2, .bool)] (K .ret)) N)).K := by kernel_rfl

def impl_SchedOk_l2_F : PT := mkL [(1, .blk), (173, .slice), (174, .int .i64), (175, .int .i64)] fun K N => impl_SchedOk_l2 (curV [] (K (.exit 5))) (curV [(2, .bool)] (K .ret)) N

theorem impl_SchedOk_l2_V : Valid Try.prog 185 (sub code20 [true, true, true, true, true, true, true, false, true, false]) impl_SchedOk_l2_F :=
  loop_at (code20) [true, true, true, true, true, true, true, false, true, false] (loop_piece (c := (sub code20 [true, true, true, true, true, true, true, false, true, false, false])) mixed rows_nil (fun K => by intro b77 a78 l78 c78 n79 n80 h hd; exact hd) (fun K N => by intro b77 a78 l78 c78 n79 n80 h hd; exact (impl_SchedOk_l2_eq K N b77 a78 l78 c78 n79 n80 h) ▸ hd))

theorem impl_SchedOk_eq (K : Cont) (n1 : Int) (n2 : Int) (a3 : Option Addr) (l3 : Nat) (c3 : Nat) (a4 : Option Addr) (l4 : Nat) (c4 : Nat) (h : H) :
  impl_SchedOk (curV [(2, .bool)] (K .ret)) n1 n2 a3 l3 c3 a4 l4 c4 h = evC Try.prog 185 [([false, false, true, false, true, true, true, true], impl_SchedOk_l0_F), ([false, false, true, false, true, true, true, true, true, true], impl_SchedOk_l1_F), ([false, false, true, false, true, true, true, true, true, true, true], impl_SchedOk_l2_F)] [] code20 [(0, .agg ⟨[.int .i64 n1, .int .i64 n2, .slice a3 l3 c3, .slice a4 l4 c4]⟩)] h (outsOf none [] (some [(2, .bool)]) K).K := by kernel_rfl

def impl_SchedOk_F : PT := mkF [(0, .agg [.int .i64, .int .i64, .slice, .slice])] fun K => impl_SchedOk (curV [(2, .bool)] (K .ret))

theorem impl_SchedOk_V : Valid Try.prog 185 code20 impl_SchedOk_F :=
  piece mixed (rows_cons (q' := [true, true, true, true, false, true, false]) impl_SchedOk_l0_V rfl (rows_cons (q' := [true, true, true, true, true, true, false, true, false]) impl_SchedOk_l1_V rfl (rows_cons (q' := [true, true, true, true, true, true, true, false, true, false]) impl_SchedOk_l2_V rfl rows_nil))) (fun K => by intro n1 n2 a3 l3 c3 a4 l4 c4 h hd; exact (impl_SchedOk_eq K n1 n2 a3 l3 c3 a4 l4 c4 h) ▸ hd)

theorem impl_SchedOk_c0 (n1 : Int) (n2 : Int) (a3 : Option Addr) (l3 : Nat) (c3 : Nat) (a4 : Option Addr) (l4 : Nat) (c4 : Nat) (h : H) (K : Value → H → Prop) :
  impl_SchedOk (fun t100001 h =>
  K (.bool t100001) h) n1 n2 a3 l3 c3 a4 l4 c4 h = callF Try.prog Try.f20.results.toList impl_SchedOk_F [.agg ⟨[.int .i64 n1, .int .i64 n2, .slice a3 l3 c3, .slice a4 l4 c4]⟩] h K := by kernel_rfl

theorem impl_SchedOk_call {n1 : Int} {n2 : Int} {a3 : Option Addr} {l3 : Nat} {c3 : Nat} {a4 : Option Addr} {l4 : Nat} {c4 : Nat} {h : H} {K : Value → H → Prop} (hs : impl_SchedOk (fun t100001 h =>
  K (.bool t100001) h) n1 n2 a3 l3 c3 a4 l4 c4 h) : callK Try.prog 20 ⟨[.agg ⟨[.int .i64 n1, .int .i64 n2, .slice a3 l3 c3, .slice a4 l4 c4]⟩]⟩ h K :=
  func_calls Try.func20 body20 impl_SchedOk_V (Nat.le_of_ble_eq_true (by kernel_rfl)) (impl_SchedOk_c0 n1 n2 a3 l3 c3 a4 l4 c4 h K ▸ hs)

theorem o_el_B {n0 : Bool} {K : Bool → Prop} (g : K n0) : elF False (.bool) (.bool n0) K := Eq.mpr (by kernel_rfl) g
theorem d_el_B {v : Value} {K2 K1 : Bool → Prop} (f : ∀ n0, K2 n0 → K1 n0) : elF False (.bool) v K2 → elF False (.bool) v K1 :=
  d_el (s := .bool) (Eq.mpr (by kernel_rfl) f)
def impl_SchedOk_M_l0 (kx0 : Nat → H → Prop) (kr : Bool → H → Prop) : Nat → Nat → Option Nat → Int → Option Addr → Nat → Int → Int → H → Prop
 | 0, _, _, _, _, _, _, _, _ => False
 | N + 1, b14, m15, n16, a17, l17, n18, n19, h =>
  ifB (decide ((n19 : Int) < n18))
  (req (0 ≤ (n19 : Int) ∧ (n19 : Int) < (l17 : Nat))
  (nz a17 fun b20 o21 =>
  ldRow h b20 (o21 + n19.toNat * 8) 0 [.int .i64, .int .i64, .int .i64, .int .i64, .int .i64, .int .i64, .int .i64, .int .i64] fun n22 n23 n24 n25 n26 n27 n28 n29 =>
  ifB (decide ((n22 : Int) ≤ n16))
  (kr false h)
  (ifB (decide ((n22 : Int) ≥ 32))
  (kr false h)
  (ifB (decide ((n23 : Int) < 0))
  (kr false h)
  (ifB (decide ((n23 : Int) > 7))
  (kr false h)
  (ifB (decide ((n25 : Int) < 1))
  (kr false h)
  (ldI .i64 h b14 1 fun n30 =>
  ifB (decide ((n25 : Int) > n30))
  (kr false h)
  (lookK Try.prog 2 4 h m15 (.int .i64 n25) (.bool) fun t32 t31 =>
  ifB t31
  (kr false h)
  (ifB (decide ((n26 : Int) < 1))
  (kr false h)
  (ifB (decide ((n26 : Int) > 4))
  (kr false h)
  (ifB (decide ((n27 : Int) < 0))
  (kr false h)
  (ldI .i64 h b14 0 fun n33 =>
  ifB (decide ((n27 : Int) > n33))
  (kr false h)
  (putMapK Try.prog 2 h (.map m15) (.int .i64 n25) (.bool true) fun h =>
  ifB ((n24 : Int) == 1)
  (ifB ((n29 : Int) != (-1))
  (kr false h)
  (ifB ((n28 : Int) != 0)
  (kr false h)
  (impl_SchedOk_M_l0 kx0 kr N b14 m15 n22 a17 l17 n18 (IntKind.i64.wrap (n19 + 1)) h)))
  (ifB ((n24 : Int) == 2)
  (ifB ((n28 : Int) != 0)
  (kr false h)
  (callD Try.prog 39 ⟨[.pointer (some ⟨b14, 0, none⟩), .int .i64 n29]⟩ h fun v34 h =>
  asP v34 fun p35 =>
  ifB p35.isNone
  (kr false h)
  (impl_SchedOk_M_l0 kx0 kr N b14 m15 n22 a17 l17 n18 (IntKind.i64.wrap (n19 + 1)) h)))
  (ifB ((n24 : Int) == 3)
  (ifB ((n29 : Int) != (-1))
  (kr false h)
  (ifB (decide ((n28 : Int) ≤ 0))
  (kr false h)
  (impl_SchedOk_M_l0 kx0 kr N b14 m15 n22 a17 l17 n18 (IntKind.i64.wrap (n19 + 1)) h)))
  (kr false h))))))))))))))))
  (kx0 b14 h)

def impl_SchedOk_M_l1 (kx3 : Nat → H → Prop) (kr : Bool → H → Prop) : Nat → Nat → Int → Option Addr → Nat → Int → Int → H → Prop
 | 0, _, _, _, _, _, _, _ => False
 | N + 1, b1039, n1040, a1041, l1041, n1042, n1043, h =>
  ifB (decide ((n1043 : Int) < n1042))
  (req (0 ≤ (n1043 : Int) ∧ (n1043 : Int) < (l1041 : Nat))
  (nz a1041 fun b1044 o1045 =>
  ldRow h b1044 (o1045 + n1043.toNat * 2) 0 [.int .i64, .int .i64] fun n1046 n1047 =>
  ifB (decide ((n1046 : Int) ≤ n1040))
  (kr false h)
  (ifB (decide ((n1046 : Int) ≥ 16))
  (kr false h)
  (callD Try.prog 40 ⟨[.pointer (some ⟨b1039, 0, none⟩), .int .i64 n1047]⟩ h fun v1048 h =>
  asP v1048 fun p1049 =>
  ifB p1049.isNone
  (kr false h)
  (impl_SchedOk_M_l1 kx3 kr N b1039 n1046 a1041 l1041 n1042 (IntKind.i64.wrap (n1043 + 1)) h)))))
  (kx3 b1039 h)

def impl_SchedOk_M_l2 (kx5 : H → Prop) (kr : Bool → H → Prop) : Nat → Nat → Option Addr → Nat → Int → Int → H → Prop
 | 0, _, _, _, _, _, _ => False
 | N + 1, b2053, a2054, l2054, n2055, n2056, h =>
  ifB (decide ((n2056 : Int) < n2055))
  (req (0 ≤ (n2056 : Int) ∧ (n2056 : Int) < (l2054 : Nat))
  (nz a2054 fun b2057 o2058 =>
  ldRow h b2057 (o2058 + n2056.toNat * 8) 0 [.int .i64, .int .i64, .int .i64, .int .i64, .int .i64, .int .i64, .int .i64, .int .i64] fun n2059 n2060 n2061 n2062 n2063 n2064 n2065 n2066 =>
  callD Try.prog 41 ⟨[.pointer (some ⟨b2053, 0, none⟩), .int .i64 n2059, .int .i64 n2059]⟩ h fun v2067 h =>
  asB v2067 fun t2068 =>
  ifB t2068
  (kr false h)
  (impl_SchedOk_M_l2 kx5 kr N b2053 a2054 l2054 n2055 (IntKind.i64.wrap (n2056 + 1)) h)))
  (kx5 h)

def impl_SchedOk_M (kr : Bool → H → Prop) (n1 : Int) (n2 : Int) (a3 : Option Addr) (l3 : Nat) (c3 : Nat) (a4 : Option Addr) (l4 : Nat) (c4 : Nat) (h : H) : Prop :=
  newD h [.int .i64 n1, .int .i64 n2, .slice a3 l3 c3, .slice a4 l4 c4] 32 fun b5 h =>
  ldI .i64 h b5 0 fun n6 =>
  ifB (decide ((n6 : Int) < 0))
  (kr false h)
  (ldI .i64 h b5 0 fun n7 =>
  ifB (decide ((n7 : Int) > 1099511627776))
  (kr false h)
  (ldI .i64 h b5 1 fun n8 =>
  ifB (decide ((n8 : Int) < 0))
  (kr false h)
  (ldI .i64 h b5 1 fun n9 =>
  ifB (decide ((n9 : Int) > 1099511627776))
  (kr false h)
  (ldL h b5 2 fun a10 l10 c10 =>
  ifB (decide (((l10 : Nat) : Int) > 32))
  (kr false h)
  (ldL h b5 3 fun a11 l11 c11 =>
  ifB (decide (((l11 : Nat) : Int) > 16))
  (kr false h)
  (newMD h fun r12 h =>
  ldL h b5 2 fun a13 l13 c13 =>
  ∃ M20, impl_SchedOk_M_l0 (fun b14 h =>
  ldL h b14 3 fun a15 l15 c15 =>
  ∃ M19, impl_SchedOk_M_l1 (fun b16 h =>
  ldL h b16 2 fun a17 l17 c17 =>
  ∃ M18, impl_SchedOk_M_l2 (fun h =>
  kr true h) kr M18 b16 a17 l17 (l17 : Nat) 0 h) kr M19 b14 (-1) a15 l15 (l15 : Nat) 0 h) kr M20 b5 (some r12) (-1) a13 l13 (l13 : Nat) 0 h))))))

theorem impl_SchedOk_M_l0_D {g0 m0 : H} {kx0_1 : Nat → H → Prop} {kx0_2 : Nat → H → Prop} (Hkx0 : ∀ (b200001 : Nat) (g m : H), Md g0 m0 g m [] → kx0_2 b200001 m → kx0_1 b200001 g)
  {kr_1 : Bool → H → Prop} {kr_2 : Bool → H → Prop} (Hkr : ∀ (t200001 : Bool) (g m : H), Md g0 m0 g m [] → kr_2 t200001 m → kr_1 t200001 g) : ∀ (N : Nat) (b1014 : Nat) (m1015 : Option Nat) (n1016 : Int) (a1017 : Option Addr) (l1017 : Nat) (c1017 : Nat) (n1018 : Int) (n1019 : Int) (g m : H), Md g0 m0 g m [] → impl_SchedOk_M_l0 kx0_2 kr_2 N b1014 m1015 n1016 a1017 l1017 n1018 n1019 m → impl_SchedOk_l0 kx0_1 kr_1 N b1014 m1015 n1016 a1017 l1017 c1017 n1018 n1019 g := by
  intro N
  induction N with
  | zero => intro b1014 m1015 n1016 a1017 l1017 c1017 n1018 n1019 g m R h0; exact h0.elim
  | succ N ih =>
    intro b1014 m1015 n1016 a1017 l1017 c1017 n1018 n1019 g m R
    rw [impl_SchedOk_M_l0, impl_SchedOk_l0]
    exact (d_if (d_req (d_nz fun b1020 o1021 =>
  (d_row_I8 R fun n1022 n1023 n1024 n1025 n1026 n1027 n1028 n1029 =>
  (p_new R fun p1030 g R =>
  (p_stRow R (cs' := [.int .i64 n1022, .int .i64 n1023, .int .i64 n1024, .int .i64 n1025, .int .i64 n1026, .int .i64 n1027, .int .i64 n1028, .int .i64 n1029]) ⟨rfl, rfl, rfl⟩ fun g R =>
  (p_ldI R rfl (d_if (Hkr false _ _ R.sub)
  (p_ldI R rfl (d_if (Hkr false _ _ R.sub)
  (p_ldI R rfl (d_if (Hkr false _ _ R.sub)
  (p_ldI R rfl (d_if (Hkr false _ _ R.sub)
  (p_ldI R rfl (d_if (Hkr false _ _ R.sub)
  (p_ldI R rfl (d_ldI R fun n1031 =>
  (d_if (Hkr false _ _ R.sub)
  (p_ldI R rfl (d_look R fun t1033 _ => d_el_B fun t1032 =>
  (d_if (Hkr false _ _ R.sub)
  (p_ldI R rfl (d_if (Hkr false _ _ R.sub)
  (p_ldI R rfl (d_if (Hkr false _ _ R.sub)
  (p_ldI R rfl (d_if (Hkr false _ _ R.sub)
  (p_ldI R rfl (d_ldI R fun n1034 =>
  (d_if (Hkr false _ _ R.sub)
  (p_ldI R rfl (p_ldI R rfl (d_putMap R fun g m R =>
  (p_ldI R rfl (d_if (p_ldI R rfl (d_if (Hkr false _ _ R.sub)
  (p_ldI R rfl (d_if (Hkr false _ _ R.sub)
  (ih b1014 m1015 n1022 a1017 l1017 c1017 n1018 (IntKind.i64.wrap (n1019 + 1)) _ _ R.sub)))))
  (d_if (p_ldI R rfl (d_if (Hkr false _ _ R.sub)
  (p_ldI R rfl (d_call R fun v1035 g m R =>
  (d_asP fun p1036 =>
  (d_if (Hkr false _ _ R.sub)
  (ih b1014 m1015 n1022 a1017 l1017 c1017 n1018 (IntKind.i64.wrap (n1019 + 1)) _ _ R.sub)))))))
  (d_if (p_ldI R rfl (d_if (Hkr false _ _ R.sub)
  (p_ldI R rfl (d_if (Hkr false _ _ R.sub)
  (ih b1014 m1015 n1022 a1017 l1017 c1017 n1018 (IntKind.i64.wrap (n1019 + 1)) _ _ R.sub)))))
  (Hkr false _ _ R.sub))))))))))))))))))))))))))))))))))))))
  (Hkx0 b1014 _ _ R.sub))

theorem impl_SchedOk_M_l1_D {g0 m0 : H} {kx3_1 : Nat → H → Prop} {kx3_2 : Nat → H → Prop} (Hkx3 : ∀ (b200001 : Nat) (g m : H), Md g0 m0 g m [] → kx3_2 b200001 m → kx3_1 b200001 g)
  {kr_1 : Bool → H → Prop} {kr_2 : Bool → H → Prop} (Hkr : ∀ (t200001 : Bool) (g m : H), Md g0 m0 g m [] → kr_2 t200001 m → kr_1 t200001 g) : ∀ (N : Nat) (b2039 : Nat) (n2040 : Int) (a2041 : Option Addr) (l2041 : Nat) (c2041 : Nat) (n2042 : Int) (n2043 : Int) (g m : H), Md g0 m0 g m [] → impl_SchedOk_M_l1 kx3_2 kr_2 N b2039 n2040 a2041 l2041 n2042 n2043 m → impl_SchedOk_l1 kx3_1 kr_1 N b2039 n2040 a2041 l2041 c2041 n2042 n2043 g := by
  intro N
  induction N with
  | zero => intro b2039 n2040 a2041 l2041 c2041 n2042 n2043 g m R h0; exact h0.elim
  | succ N ih =>
    intro b2039 n2040 a2041 l2041 c2041 n2042 n2043 g m R
    rw [impl_SchedOk_M_l1, impl_SchedOk_l1]
    exact (d_if (d_req (d_nz fun b2044 o2045 =>
  (d_row_I2 R fun n2046 n2047 =>
  (p_new R fun p2048 g R =>
  (p_stRow R (cs' := [.int .i64 n2046, .int .i64 n2047]) ⟨rfl, rfl, rfl⟩ fun g R =>
  (p_ldI R rfl (d_if (Hkr false _ _ R.sub)
  (p_ldI R rfl (d_if (Hkr false _ _ R.sub)
  (p_ldI R rfl (d_call R fun v2049 g m R =>
  (d_asP fun p2050 =>
  (d_if (Hkr false _ _ R.sub)
  (p_ldI R rfl (ih b2039 n2046 a2041 l2041 c2041 n2042 (IntKind.i64.wrap (n2043 + 1)) _ _ R.sub)))))))))))))))
  (Hkx3 b2039 _ _ R.sub))

theorem impl_SchedOk_M_l2_D {g0 m0 : H} {kx5_1 : H → Prop} {kx5_2 : H → Prop} (Hkx5 : ∀ (g m : H), Md g0 m0 g m [] → kx5_2 m → kx5_1 g)
  {kr_1 : Bool → H → Prop} {kr_2 : Bool → H → Prop} (Hkr : ∀ (t200001 : Bool) (g m : H), Md g0 m0 g m [] → kr_2 t200001 m → kr_1 t200001 g) : ∀ (N : Nat) (b3053 : Nat) (a3054 : Option Addr) (l3054 : Nat) (c3054 : Nat) (n3055 : Int) (n3056 : Int) (g m : H), Md g0 m0 g m [] → impl_SchedOk_M_l2 kx5_2 kr_2 N b3053 a3054 l3054 n3055 n3056 m → impl_SchedOk_l2 kx5_1 kr_1 N b3053 a3054 l3054 c3054 n3055 n3056 g := by
  intro N
  induction N with
  | zero => intro b3053 a3054 l3054 c3054 n3055 n3056 g m R h0; exact h0.elim
  | succ N ih =>
    intro b3053 a3054 l3054 c3054 n3055 n3056 g m R
    rw [impl_SchedOk_M_l2, impl_SchedOk_l2]
    exact (d_if (d_req (d_nz fun b3057 o3058 =>
  (d_row_I8 R fun n3059 n3060 n3061 n3062 n3063 n3064 n3065 n3066 =>
  (p_new R fun p3067 g R =>
  (p_stRow R (cs' := [.int .i64 n3059, .int .i64 n3060, .int .i64 n3061, .int .i64 n3062, .int .i64 n3063, .int .i64 n3064, .int .i64 n3065, .int .i64 n3066]) ⟨rfl, rfl, rfl⟩ fun g R =>
  (p_ldI R rfl (p_ldI R rfl (d_call R fun v3068 g m R =>
  (d_asB fun t3069 =>
  (d_if (Hkr false _ _ R.sub)
  (ih b3053 a3054 l3054 c3054 n3055 (IntKind.i64.wrap (n3056 + 1)) _ _ R.sub)))))))))))
  (Hkx5 _ _ R.sub))

theorem impl_SchedOk_M_D {g0 m0 : H} {kr_1 : Bool → H → Prop} {kr_2 : Bool → H → Prop} (Hkr : ∀ (t200001 : Bool) (g m : H), Md g0 m0 g m [] → kr_2 t200001 m → kr_1 t200001 g) : ∀ (n1001 : Int) (n1002 : Int) (a1003 : Option Addr) (l1003 : Nat) (c1003 : Nat) (a1004 : Option Addr) (l1004 : Nat) (c1004 : Nat) (g m : H), Md g0 m0 g m [] → impl_SchedOk_M kr_2 n1001 n1002 a1003 l1003 c1003 a1004 l1004 c1004 m → impl_SchedOk kr_1 n1001 n1002 a1003 l1003 c1003 a1004 l1004 c1004 g := by
  intro n1001 n1002 a1003 l1003 c1003 a1004 l1004 c1004 g m R
  rw [impl_SchedOk_M, impl_SchedOk]
  exact (d_new R fun b1005 g m R =>
  (d_ldI R fun n1006 =>
  (d_if (Hkr false _ _ R.sub)
  (d_ldI R fun n1007 =>
  (d_if (Hkr false _ _ R.sub)
  (d_ldI R fun n1008 =>
  (d_if (Hkr false _ _ R.sub)
  (d_ldI R fun n1009 =>
  (d_if (Hkr false _ _ R.sub)
  (d_ldL R fun a1010 l1010 c1010 =>
  (d_if (Hkr false _ _ R.sub)
  (d_ldL R fun a1011 l1011 c1011 =>
  (d_if (Hkr false _ _ R.sub)
  (d_newM R fun r1012 g m R =>
  (d_ldL R fun a1013 l1013 c1013 =>
  (d_ex fun N => impl_SchedOk_M_l0_D (by exact fun b1014 g m R =>
  (d_ldL R fun a1015 l1015 c1015 =>
  (d_ex fun N => impl_SchedOk_M_l1_D (by exact fun b1016 g m R =>
  (d_ldL R fun a1017 l1017 c1017 =>
  (d_ex fun N => impl_SchedOk_M_l2_D (by exact fun g m R =>
  (Hkr true _ _ R.sub))
  (by exact fun t1018 g m R =>
  (Hkr t1018 _ _ R.sub)) N b1016 a1017 l1017 c1017 (l1017 : Nat) 0 _ _ R.sub)))
  (by exact fun t1019 g m R =>
  (Hkr t1019 _ _ R.sub)) N b1014 (-1) a1015 l1015 c1015 (l1015 : Nat) 0 _ _ R.sub)))
  (by exact fun t1020 g m R =>
  (Hkr t1020 _ _ R.sub)) N b1005 (some r1012) (-1) a1013 l1013 c1013 (l1013 : Nat) 0 _ _ R.sub))))))))))))))))

theorem impl_SchedOk_M_call {n1 : Int} {n2 : Int} {a3 : Option Addr} {l3 : Nat} {c3 : Nat} {a4 : Option Addr} {l4 : Nat} {c4 : Nat} {h : H} {K : Value → H → Prop} (hs : impl_SchedOk_M (fun t300001 h =>
  K (.bool t300001) h) n1 n2 a3 l3 c3 a4 l4 c4 h) : callD Try.prog 20 ⟨[.agg ⟨[.int .i64 n1, .int .i64 n2, .slice a3 l3 c3, .slice a4 l4 c4]⟩]⟩ h K :=
  fun g r => impl_SchedOk_call (impl_SchedOk_M_D (by exact fun t300001 g m R =>
(fun h => ⟨m, R.af, h⟩)) _ _ _ _ _ _ _ _ _ _ (Md.start r) hs)

noncomputable def code21 : Code := codeOf Try.f21
theorem body21 : Try.f21.body = some code21 := by kernel_rfl
def impl_Sched_step_l0 (kx1 : Option Addr → Nat → Nat → Int → H → Prop) : Nat → Option Addr → Nat → Nat → Int → H → Prop
 | 0, _, _, _, _, _ => False
 | N + 1, p30, b31, b32, n33, h =>
  nz p30 fun b34 o35 =>
  ldL h b34 (o35 + 2) fun a36 l36 c36 =>
  ifB (decide ((n33 : Int) < (l36 : Nat)))
  (nz p30 fun b37 o38 =>
  ldL h b37 (o38 + 2) fun a39 l39 c39 =>
  req (0 ≤ (n33 : Int) ∧ (n33 : Int) < (l39 : Nat))
  (nz a39 fun b40 o41 =>
  ldI .i64 h b40 (o41 + n33.toNat * 8) fun n42 =>
  ifB ((n42 : Int) == n33)
  (impl_Sched_step_l0 kx1 N p30 b31 b32 (IntKind.i64.wrap (n33 + 1)) h)
  (kx1 p30 b31 b32 n33 h)))
  (kx1 p30 b31 b32 n33 h)

def impl_Sched_step_l1 (kx3 : Option Addr → Nat → H → Prop) : Nat → Option Addr → Nat → Int → Int → H → Prop
 | 0, _, _, _, _, _ => False
 | N + 1, p70, b71, n72, n73, h =>
  ifB (decide ((n73 : Int) < n72))
  (nz p70 fun b74 o75 =>
  ldL h b74 (o75 + 2) fun a76 l76 c76 =>
  req (0 ≤ (n73 : Int) ∧ (n73 : Int) < (l76 : Nat))
  (nz a76 fun b77 o78 =>
  ldI .i64 h b77 ((o78 + n73.toNat * 8) + 2) fun n79 =>
  ifB ((n79 : Int) == 3)
  (ldI .i64 h b77 ((o78 + n73.toNat * 8) + 6) fun n80 =>
  nz p70 fun b81 o82 =>
  ldI .i64 h b81 o82 fun n83 =>
  ifB (decide ((n80 : Int) ≤ n83))
  (callK Try.prog 43 ⟨[.pointer p70, .pointer (some ⟨b77, (o78 + n73.toNat * 8), none⟩)]⟩ h fun v84 h =>
  elF False (.tuple []) v84
  (impl_Sched_step_l1 kx3 N p70 b71 n72 (IntKind.i64.wrap (n73 + 1)) h))
  (impl_Sched_step_l1 kx3 N p70 b71 n72 (IntKind.i64.wrap (n73 + 1)) h))
  (impl_Sched_step_l1 kx3 N p70 b71 n72 (IntKind.i64.wrap (n73 + 1)) h)))
  (kx3 p70 b71 h)

def impl_Sched_step_j2 (kr : Nat → H → Prop) (p87 : Option Addr) (b88 : Nat) (n89 : Int) (h : H) : Prop :=
  nz p87 fun b90 o91 =>
  ldI .i64 h b90 o91 fun n92 =>
  nz p87 fun b93 o94 =>
  st h b93 o94 (.int .i64 (IntKind.i64.wrap (n92 + 1))) fun h =>
  stRow h b88 0 0 [.int .i64 0, .int .i64 n89] fun h =>
  kr b88 h

def impl_Sched_step_l3 (kx6 : Option Addr → Nat → Nat → Option Addr → Nat → Nat → H → Prop) : Nat → Option Addr → Nat → Nat → Option Addr → Nat → Nat → Option Addr → Nat → Nat → Int → Int → H → Prop
 | 0, _, _, _, _, _, _, _, _, _, _, _, _ => False
 | N + 1, p97, b98, b99, a100, l100, c100, a101, l101, c101, n102, n103, h =>
  ifB (decide ((n103 : Int) < n102))
  (req (0 ≤ (n103 : Int) ∧ (n103 : Int) < (l101 : Nat))
  (nz a101 fun b104 o105 =>
  ldRow h b104 (o105 + n103.toNat * 8) 0 [.int .i64, .int .i64, .int .i64, .int .i64, .int .i64, .int .i64, .int .i64, .int .i64] fun n106 n107 n108 n109 n110 n111 n112 n113 =>
  new h [.int .i64 0, .int .i64 0, .int .i64 0, .int .i64 0, .int .i64 0, .int .i64 0, .int .i64 0, .int .i64 0] 60 fun b114 h =>
  stRow h b114 0 0 [.int .i64 n106, .int .i64 n107, .int .i64 n108, .int .i64 n109, .int .i64 n110, .int .i64 n111, .int .i64 n112, .int .i64 n113] fun h =>
  ldI .i64 h b114 0 fun n115 =>
  ldI .i64 h b98 1 fun n116 =>
  ifB ((n115 : Int) != n116)
  (ldRow h b114 0 0 [.int .i64, .int .i64, .int .i64, .int .i64, .int .i64, .int .i64, .int .i64, .int .i64] fun n117 n118 n119 n120 n121 n122 n123 n124 =>
  new h [.int .i64 n117, .int .i64 n118, .int .i64 n119, .int .i64 n120, .int .i64 n121, .int .i64 n122, .int .i64 n123, .int .i64 n124] 60 fun b125 h =>
  appendK Try.prog 60 h a100 l100 c100 (.slice (some ⟨b125, 0, none⟩) 1 1) fun a126 l126 c126 h =>
  impl_Sched_step_l3 kx6 N p97 b98 b99 a126 l126 c126 a101 l101 c101 n102 (IntKind.i64.wrap (n103 + 1)) h)
  (impl_Sched_step_l3 kx6 N p97 b98 b99 a100 l100 c100 a101 l101 c101 n102 (IntKind.i64.wrap (n103 + 1)) h)))
  (kx6 p97 b98 b99 a100 l100 c100 h)

def impl_Sched_step_l4 (kx8 : Nat → H → Prop) : Nat → Option Addr → Nat → Nat → Option Addr → Nat → Nat → Int → Int → H → Prop
 | 0, _, _, _, _, _, _, _, _, _ => False
 | N + 1, p137, b138, b139, a140, l140, c140, n141, n142, h =>
  ifB (decide ((n142 : Int) < n141))
  (req (0 ≤ (n142 : Int) ∧ (n142 : Int) < (l140 : Nat))
  (nz a140 fun b143 o144 =>
  ldRow h b143 (o144 + n142.toNat * 2) 0 [.int .i64, .int .i64] fun n145 n146 =>
  new h [.int .i64 0, .int .i64 0] 57 fun b147 h =>
  stRow h b147 0 0 [.int .i64 n145, .int .i64 n146] fun h =>
  ldI .i64 h b147 1 fun n148 =>
  ldI .i64 h b138 1 fun n149 =>
  ifB ((n148 : Int) == n149)
  (ldI .i64 h b147 0 fun n150 =>
  callK Try.prog 45 ⟨[.pointer p137, .int .i64 n150]⟩ h fun v151 h =>
  elF False (.tuple []) v151
  (impl_Sched_step_l4 kx8 N p137 b138 b139 a140 l140 c140 n141 (IntKind.i64.wrap (n142 + 1)) h))
  (impl_Sched_step_l4 kx8 N p137 b138 b139 a140 l140 c140 n141 (IntKind.i64.wrap (n142 + 1)) h)))
  (kx8 b139 h)

def impl_Sched_step_l5 (kx11 : Option Addr → Nat → Nat → Int → H → Prop) : Nat → Option Addr → Nat → Nat → Int → H → Prop
 | 0, _, _, _, _, _ => False
 | N + 1, p175, b176, b177, n178, h =>
  nz p175 fun b179 o180 =>
  ldL h b179 (o180 + 3) fun a181 l181 c181 =>
  ifB (decide ((n178 : Int) < (l181 : Nat)))
  (nz p175 fun b182 o183 =>
  ldL h b182 (o183 + 3) fun a184 l184 c184 =>
  req (0 ≤ (n178 : Int) ∧ (n178 : Int) < (l184 : Nat))
  (nz a184 fun b185 o186 =>
  ldI .i64 h b185 (o186 + n178.toNat * 2) fun n187 =>
  ldI .i64 h b176 2 fun n188 =>
  ifB (decide ((n187 : Int) < n188))
  (impl_Sched_step_l5 kx11 N p175 b176 b177 (IntKind.i64.wrap (n178 + 1)) h)
  (kx11 p175 b176 b177 n178 h)))
  (kx11 p175 b176 b177 n178 h)

def impl_Sched_step (kr : Nat → H → Prop) (p1 : Option Addr) (n2 : Int) (n3 : Int) (n4 : Int) (h : H) : Prop :=
  new h [.int .i64 n2, .int .i64 n3, .int .i64 n4] 38 fun b5 h =>
  new h [.int .i64 0, .int .i64 0] 34 fun b6 h =>
  ldI .i64 h b5 0 fun n7 =>
  ifB (decide ((n7 : Int) < 1))
  (callK Try.prog 42 ⟨[.int .i64 1]⟩ h fun v8 h =>
  elF False (.agg [.int .i64, .int .i64]) v8 fun n9 n10 =>
  stRow h b6 0 0 [.int .i64 n9, .int .i64 n10] fun h =>
  kr b6 h)
  (ldI .i64 h b5 0 fun n11 =>
  ifB (decide ((n11 : Int) > 8))
  (callK Try.prog 42 ⟨[.int .i64 1]⟩ h fun v12 h =>
  elF False (.agg [.int .i64, .int .i64]) v12 fun n13 n14 =>
  stRow h b6 0 0 [.int .i64 n13, .int .i64 n14] fun h =>
  kr b6 h)
  (ldI .i64 h b5 0 fun n15 =>
  ifB ((n15 : Int) == 1)
  (ldI .i64 h b5 2 fun n16 =>
  ifB (decide ((n16 : Int) < 0))
  (callK Try.prog 42 ⟨[.int .i64 1]⟩ h fun v17 h =>
  elF False (.agg [.int .i64, .int .i64]) v17 fun n18 n19 =>
  stRow h b6 0 0 [.int .i64 n18, .int .i64 n19] fun h =>
  kr b6 h)
  (ldI .i64 h b5 2 fun n20 =>
  ifB (decide ((n20 : Int) > 7))
  (callK Try.prog 42 ⟨[.int .i64 1]⟩ h fun v21 h =>
  elF False (.agg [.int .i64, .int .i64]) v21 fun n22 n23 =>
  stRow h b6 0 0 [.int .i64 n22, .int .i64 n23] fun h =>
  kr b6 h)
  (nz p1 fun b24 o25 =>
  ldL h b24 (o25 + 2) fun a26 l26 c26 =>
  ifB (((l26 : Nat) : Int) == 32)
  (callK Try.prog 42 ⟨[.int .i64 18]⟩ h fun v27 h =>
  elF False (.agg [.int .i64, .int .i64]) v27 fun n28 n29 =>
  stRow h b6 0 0 [.int .i64 n28, .int .i64 n29] fun h =>
  kr b6 h)
  (∃ M53, impl_Sched_step_l0 (fun p30 b31 b32 n33 h =>
  nz p30 fun b34 o35 =>
  ldL h b34 (o35 + 2) fun a36 l36 c36 =>
  req (0 ≤ (n33 : Int) ∧ (n33 : Int) ≤ (c36 : Nat))
  (req (plainA a36 = true)
  (appendK Try.prog 60 h none 0 0 (.slice (slB a36 0 c36 8) (n33.toNat - 0) (c36 - 0)) fun a37 l37 c37 h =>
  ldI .i64 h b31 2 fun n38 =>
  nz p30 fun b39 o40 =>
  ldL h b39 (o40 + 2) fun a41 l41 c41 =>
  req (0 ≤ (n33 : Int) ∧ (n33 : Int) ≤ (l41 : Nat))
  (req (plainA a41 = true)
  (new h [.int .i64 n33, .int .i64 n38, .int .i64 0, .int .i64 0, .int .i64 0, .int .i64 0, .int .i64 0, .int .i64 0] 60 fun b42 h =>
  cell h b39 (o40 + 2) = some (.slice a41 l41 c41) ∧ (appendK Try.prog 60 h a37 l37 c37 (.slice (some ⟨b42, 0, none⟩) 1 1) fun a43 l43 c43 h =>
  cell h b39 (o40 + 2) = some (.slice a41 l41 c41) ∧ (appendK Try.prog 60 h a43 l43 c43 (.slice (slB a41 n33.toNat c41 8) (l41 - n33.toNat) (c41 - n33.toNat)) fun a44 l44 c44 h =>
  nz p30 fun b45 o46 =>
  st h b45 (o46 + 2) (.slice a44 l44 c44) fun h =>
  nz p30 fun b47 o48 =>
  ldL h b47 (o48 + 2) fun a49 l49 c49 =>
  req (0 ≤ (n33 : Int) ∧ (n33 : Int) < (l49 : Nat))
  (nz a49 fun b50 o51 =>
  callK Try.prog 43 ⟨[.pointer p30, .pointer (some ⟨b50, (o51 + n33.toNat * 8), none⟩)]⟩ h fun v52 h =>
  elF False (.tuple []) v52
  (stRow h b32 0 0 [.int .i64 0, .int .i64 n33] fun h =>
  kr b32 h))))))))) M53 p1 b5 b6 0 h))))
  (ifB ((n15 : Int) == 3)
  (nz p1 fun b54 o55 =>
  ldL h b54 (o55 + 2) fun a56 l56 c56 =>
  ∃ M83, impl_Sched_step_l1 (fun p57 b58 h =>
  callK Try.prog 44 ⟨[.pointer p57]⟩ h fun v59 h =>
  asP v59 fun p60 =>
  ifB (!p60.isNone)
  (nz p60 fun b61 o62 =>
  ldI .i64 h b61 o62 fun n63 =>
  nz p60 fun b64 o65 =>
  ldI .i64 h b64 (o65 + 4) fun n66 =>
  nz p60 fun b67 o68 =>
  st h b67 (o68 + 4) (.int .i64 (IntKind.i64.wrap (n66 - 1))) fun h =>
  nz p60 fun b69 o70 =>
  ldI .i64 h b69 (o70 + 4) fun n71 =>
  ifB ((n71 : Int) == 0)
  (callK Try.prog 43 ⟨[.pointer p57, .pointer p60]⟩ h fun v72 h =>
  elF False (.tuple []) v72
  (nz p57 fun b73 o74 =>
  ldI .i64 h b73 o74 fun n75 =>
  nz p60 fun b76 o77 =>
  st h b76 (o77 + 5) (.int .i64 (IntKind.i64.wrap (n75 + 1))) fun h =>
  impl_Sched_step_j2 kr p57 b58 n63 h))
  (nz p57 fun b78 o79 =>
  ldI .i64 h b78 o79 fun n80 =>
  nz p60 fun b81 o82 =>
  st h b81 (o82 + 5) (.int .i64 (IntKind.i64.wrap (n80 + 1))) fun h =>
  impl_Sched_step_j2 kr p57 b58 n63 h))
  (impl_Sched_step_j2 kr p57 b58 (-1) h)) M83 p1 b6 (l56 : Nat) 0 h)
  (ldI .i64 h b5 1 fun n84 =>
  callK Try.prog 40 ⟨[.pointer p1, .int .i64 n84]⟩ h fun v85 h =>
  asP v85 fun p86 =>
  ifB p86.isNone
  (callK Try.prog 42 ⟨[.int .i64 3]⟩ h fun v87 h =>
  elF False (.agg [.int .i64, .int .i64]) v87 fun n88 n89 =>
  stRow h b6 0 0 [.int .i64 n88, .int .i64 n89] fun h =>
  kr b6 h)
  (ldI .i64 h b5 0 fun n90 =>
  ifB ((n90 : Int) == 2)
  (nz p1 fun b91 o92 =>
  ldL h b91 (o92 + 2) fun a93 l93 c93 =>
  ∃ M109, impl_Sched_step_l3 (fun p94 b95 b96 a97 l97 c97 h =>
  nz p94 fun b98 o99 =>
  st h b98 (o99 + 2) (.slice a97 l97 c97) fun h =>
  nz p94 fun b100 o101 =>
  ldL h b100 (o101 + 3) fun a102 l102 c102 =>
  appendK Try.prog 57 h none 0 0 (.slice a102 l102 c102) fun a103 l103 c103 h =>
  ∃ M108, impl_Sched_step_l4 (fun b104 h =>
  callK Try.prog 42 ⟨[.int .i64 0]⟩ h fun v105 h =>
  elF False (.agg [.int .i64, .int .i64]) v105 fun n106 n107 =>
  stRow h b104 0 0 [.int .i64 n106, .int .i64 n107] fun h =>
  kr b104 h) M108 p94 b95 b96 a103 l103 c103 (l103 : Nat) 0 h) M109 p1 b5 b6 none 0 0 a93 l93 c93 (l93 : Nat) 0 h)
  (ifB ((n90 : Int) == 4)
  (ldI .i64 h b5 2 fun n110 =>
  ifB (decide ((n110 : Int) < 0))
  (callK Try.prog 42 ⟨[.int .i64 1]⟩ h fun v111 h =>
  elF False (.agg [.int .i64, .int .i64]) v111 fun n112 n113 =>
  stRow h b6 0 0 [.int .i64 n112, .int .i64 n113] fun h =>
  kr b6 h)
  (ldI .i64 h b5 2 fun n114 =>
  ifB (decide ((n114 : Int) ≥ 16))
  (callK Try.prog 42 ⟨[.int .i64 1]⟩ h fun v115 h =>
  elF False (.agg [.int .i64, .int .i64]) v115 fun n116 n117 =>
  stRow h b6 0 0 [.int .i64 n116, .int .i64 n117] fun h =>
  kr b6 h)
  (nz p86 fun b118 o119 =>
  ldI .i64 h b118 (o119 + 2) fun n120 =>
  ifB ((n120 : Int) != 1)
  (callK Try.prog 42 ⟨[.int .i64 21]⟩ h fun v121 h =>
  elF False (.agg [.int .i64, .int .i64]) v121 fun n122 n123 =>
  stRow h b6 0 0 [.int .i64 n122, .int .i64 n123] fun h =>
  kr b6 h)
  (ldI .i64 h b5 2 fun n124 =>
  callK Try.prog 39 ⟨[.pointer p1, .int .i64 n124]⟩ h fun v125 h =>
  asP v125 fun p126 =>
  ifB p126.isNone
  (∃ M148, impl_Sched_step_l5 (fun p127 b128 b129 n130 h =>
  nz p127 fun b131 o132 =>
  ldL h b131 (o132 + 3) fun a133 l133 c133 =>
  req (0 ≤ (n130 : Int) ∧ (n130 : Int) ≤ (c133 : Nat))
  (req (plainA a133 = true)
  (appendK Try.prog 57 h none 0 0 (.slice (slB a133 0 c133 2) (n130.toNat - 0) (c133 - 0)) fun a134 l134 c134 h =>
  ldI .i64 h b128 2 fun n135 =>
  ldI .i64 h b128 1 fun n136 =>
  nz p127 fun b137 o138 =>
  ldL h b137 (o138 + 3) fun a139 l139 c139 =>
  req (0 ≤ (n130 : Int) ∧ (n130 : Int) ≤ (l139 : Nat))
  (req (plainA a139 = true)
  (new h [.int .i64 n135, .int .i64 n136] 57 fun b140 h =>
  cell h b137 (o138 + 3) = some (.slice a139 l139 c139) ∧ (appendK Try.prog 57 h a134 l134 c134 (.slice (some ⟨b140, 0, none⟩) 1 1) fun a141 l141 c141 h =>
  cell h b137 (o138 + 3) = some (.slice a139 l139 c139) ∧ (appendK Try.prog 57 h a141 l141 c141 (.slice (slB a139 n130.toNat c139 2) (l139 - n130.toNat) (c139 - n130.toNat)) fun a142 l142 c142 h =>
  nz p127 fun b143 o144 =>
  st h b143 (o144 + 3) (.slice a142 l142 c142) fun h =>
  callK Try.prog 42 ⟨[.int .i64 0]⟩ h fun v145 h =>
  elF False (.agg [.int .i64, .int .i64]) v145 fun n146 n147 =>
  stRow h b129 0 0 [.int .i64 n146, .int .i64 n147] fun h =>
  kr b129 h))))))) M148 p1 b5 b6 0 h)
  (nz p126 fun b149 o150 =>
  ldI .i64 h b149 (o150 + 1) fun n151 =>
  ldI .i64 h b5 1 fun n152 =>
  ifB ((n151 : Int) == n152)
  (callK Try.prog 42 ⟨[.int .i64 4]⟩ h fun v153 h =>
  elF False (.agg [.int .i64, .int .i64]) v153 fun n154 n155 =>
  stRow h b6 0 0 [.int .i64 n154, .int .i64 n155] fun h =>
  kr b6 h)
  (nz p126 fun b156 o157 =>
  ldI .i64 h b156 (o157 + 1) fun n158 =>
  ldI .i64 h b5 1 fun n159 =>
  callK Try.prog 41 ⟨[.pointer p1, .int .i64 n158, .int .i64 n159]⟩ h fun v160 h =>
  asB v160 fun t161 =>
  ifB t161
  (callK Try.prog 42 ⟨[.int .i64 17]⟩ h fun v162 h =>
  elF False (.agg [.int .i64, .int .i64]) v162 fun n163 n164 =>
  stRow h b6 0 0 [.int .i64 n163, .int .i64 n164] fun h =>
  kr b6 h)
  (ldI .i64 h b5 2 fun n165 =>
  nz p86 fun b166 o167 =>
  st h b166 (o167 + 2) (.int .i64 2) fun h =>
  cell h b5 2 = some (.int .i64 n165) ∧ (nz p86 fun b168 o169 =>
  st h b168 (o169 + 7) (.int .i64 n165) fun h =>
  stRow h b6 0 0 [.int .i64 0, .int .i64 1] fun h =>
  kr b6 h))))))))
  (ifB ((n90 : Int) == 5)
  (ldI .i64 h b5 2 fun n170 =>
  ifB (decide ((n170 : Int) < 0))
  (callK Try.prog 42 ⟨[.int .i64 1]⟩ h fun v171 h =>
  elF False (.agg [.int .i64, .int .i64]) v171 fun n172 n173 =>
  stRow h b6 0 0 [.int .i64 n172, .int .i64 n173] fun h =>
  kr b6 h)
  (ldI .i64 h b5 2 fun n174 =>
  ifB (decide ((n174 : Int) ≥ 16))
  (callK Try.prog 42 ⟨[.int .i64 1]⟩ h fun v175 h =>
  elF False (.agg [.int .i64, .int .i64]) v175 fun n176 n177 =>
  stRow h b6 0 0 [.int .i64 n176, .int .i64 n177] fun h =>
  kr b6 h)
  (nz p86 fun b178 o179 =>
  ldI .i64 h b178 (o179 + 2) fun n180 =>
  ifB ((n180 : Int) != 1)
  (callK Try.prog 42 ⟨[.int .i64 21]⟩ h fun v181 h =>
  elF False (.agg [.int .i64, .int .i64]) v181 fun n182 n183 =>
  stRow h b6 0 0 [.int .i64 n182, .int .i64 n183] fun h =>
  kr b6 h)
  (ldI .i64 h b5 2 fun n184 =>
  callK Try.prog 39 ⟨[.pointer p1, .int .i64 n184]⟩ h fun v185 h =>
  asP v185 fun p186 =>
  ifB p186.isNone
  (callK Try.prog 42 ⟨[.int .i64 2]⟩ h fun v187 h =>
  elF False (.agg [.int .i64, .int .i64]) v187 fun n188 n189 =>
  stRow h b6 0 0 [.int .i64 n188, .int .i64 n189] fun h =>
  kr b6 h)
  (nz p186 fun b190 o191 =>
  ldI .i64 h b190 (o191 + 1) fun n192 =>
  ldI .i64 h b5 1 fun n193 =>
  ifB ((n192 : Int) != n193)
  (callK Try.prog 42 ⟨[.int .i64 2]⟩ h fun v194 h =>
  elF False (.agg [.int .i64, .int .i64]) v194 fun n195 n196 =>
  stRow h b6 0 0 [.int .i64 n195, .int .i64 n196] fun h =>
  kr b6 h)
  (ldI .i64 h b5 2 fun n197 =>
  callK Try.prog 45 ⟨[.pointer p1, .int .i64 n197]⟩ h fun v198 h =>
  elF False (.tuple []) v198
  (callK Try.prog 42 ⟨[.int .i64 0]⟩ h fun v199 h =>
  elF False (.agg [.int .i64, .int .i64]) v199 fun n200 n201 =>
  stRow h b6 0 0 [.int .i64 n200, .int .i64 n201] fun h =>
  kr b6 h)))))))
  (ifB ((n90 : Int) == 6)
  (ldI .i64 h b5 2 fun n202 =>
  ifB (decide ((n202 : Int) < 1))
  (callK Try.prog 42 ⟨[.int .i64 1]⟩ h fun v203 h =>
  elF False (.agg [.int .i64, .int .i64]) v203 fun n204 n205 =>
  stRow h b6 0 0 [.int .i64 n204, .int .i64 n205] fun h =>
  kr b6 h)
  (ldI .i64 h b5 2 fun n206 =>
  ifB (decide ((n206 : Int) > 1000))
  (callK Try.prog 42 ⟨[.int .i64 1]⟩ h fun v207 h =>
  elF False (.agg [.int .i64, .int .i64]) v207 fun n208 n209 =>
  stRow h b6 0 0 [.int .i64 n208, .int .i64 n209] fun h =>
  kr b6 h)
  (nz p86 fun b210 o211 =>
  ldI .i64 h b210 (o211 + 2) fun n212 =>
  ifB ((n212 : Int) != 1)
  (callK Try.prog 42 ⟨[.int .i64 21]⟩ h fun v213 h =>
  elF False (.agg [.int .i64, .int .i64]) v213 fun n214 n215 =>
  stRow h b6 0 0 [.int .i64 n214, .int .i64 n215] fun h =>
  kr b6 h)
  (nz p1 fun b216 o217 =>
  ldI .i64 h b216 o217 fun n218 =>
  ldI .i64 h b5 2 fun n219 =>
  nz p86 fun b220 o221 =>
  st h b220 (o221 + 2) (.int .i64 3) fun h =>
  cell h b5 2 = some (.int .i64 n219) ∧ (nz p86 fun b222 o223 =>
  st h b222 (o223 + 6) (.int .i64 (IntKind.i64.wrap (n218 + n219))) fun h =>
  callK Try.prog 42 ⟨[.int .i64 0]⟩ h fun v224 h =>
  elF False (.agg [.int .i64, .int .i64]) v224 fun n225 n226 =>
  stRow h b6 0 0 [.int .i64 n225, .int .i64 n226] fun h =>
  kr b6 h)))))
  (ifB ((n90 : Int) == 7)
  (nz p86 fun b227 o228 =>
  ldI .i64 h b227 (o228 + 2) fun n229 =>
  ifB ((n229 : Int) != 3)
  (callK Try.prog 42 ⟨[.int .i64 21]⟩ h fun v230 h =>
  elF False (.agg [.int .i64, .int .i64]) v230 fun n231 n232 =>
  stRow h b6 0 0 [.int .i64 n231, .int .i64 n232] fun h =>
  kr b6 h)
  (callK Try.prog 43 ⟨[.pointer p1, .pointer p86]⟩ h fun v233 h =>
  elF False (.tuple []) v233
  (callK Try.prog 42 ⟨[.int .i64 0]⟩ h fun v234 h =>
  elF False (.agg [.int .i64, .int .i64]) v234 fun n235 n236 =>
  stRow h b6 0 0 [.int .i64 n235, .int .i64 n236] fun h =>
  kr b6 h)))
  (ifB ((n90 : Int) == 8)
  (ldI .i64 h b5 2 fun n237 =>
  ifB (decide ((n237 : Int) < 0))
  (callK Try.prog 42 ⟨[.int .i64 1]⟩ h fun v238 h =>
  elF False (.agg [.int .i64, .int .i64]) v238 fun n239 n240 =>
  stRow h b6 0 0 [.int .i64 n239, .int .i64 n240] fun h =>
  kr b6 h)
  (ldI .i64 h b5 2 fun n241 =>
  ifB (decide ((n241 : Int) > 7))
  (callK Try.prog 42 ⟨[.int .i64 1]⟩ h fun v242 h =>
  elF False (.agg [.int .i64, .int .i64]) v242 fun n243 n244 =>
  stRow h b6 0 0 [.int .i64 n243, .int .i64 n244] fun h =>
  kr b6 h)
  (ldI .i64 h b5 2 fun n245 =>
  nz p86 fun b246 o247 =>
  st h b246 (o247 + 1) (.int .i64 n245) fun h =>
  callK Try.prog 42 ⟨[.int .i64 0]⟩ h fun v248 h =>
  elF False (.agg [.int .i64, .int .i64]) v248 fun n249 n250 =>
  stRow h b6 0 0 [.int .i64 n249, .int .i64 n250] fun h =>
  kr b6 h)))
  (callK Try.prog 42 ⟨[.int .i64 0]⟩ h fun v251 h =>
  elF False (.agg [.int .i64, .int .i64]) v251 fun n252 n253 =>
  stRow h b6 0 0 [.int .i64 n252, .int .i64 n253] fun h =>
  kr b6 h)))))))))))

theorem impl_Sched_step_l0_eq (K : Cont) (N : Nat) (p30 : Option Addr) (b31 : Nat) (b32 : Nat) (n33 : Int) (h : H) :
  impl_Sched_step_l0 (curV [(0, .ptr), (3, .blk), (4, .blk), (6, .int .i64)] (K (.exit 1))) (N + 1) p30 b31 b32 n33 h = evC Try.prog 449 [] [] (sub code21 [true, true, true, false, true, false, true, false, true, true, true, false, false, false]) [(0, .pointer p30), (3, .pointer (some ⟨b31, 0, none⟩)), (4, .pointer (some ⟨b32, 0, none⟩)), (6, .int .i64 n33)] h ((outsOf none [(1, [(0, .ptr), (3, .blk), (4, .blk), (6, .int .i64)])] none K).loop [(0, .ptr), (3, .blk), (4, .blk), (6, .int .i64)] (impl_Sched_step_l0 (curV [(0, .ptr), (3, .blk), (4, .blk), (6, .int .i64)] (K (.exit 1))) N)).K := by kernel_rfl

def impl_Sched_step_l0_F : PT := mkL [(0, .ptr), (3, .blk), (4, .blk), (6, .int .i64)] fun K N => impl_Sched_step_l0 (curV [(0, .ptr), (3, .blk), (4, .blk), (6, .int .i64)] (K (.exit 1))) N

theorem impl_Sched_step_l0_V : Valid Try.prog 449 (sub code21 [true, true, true, false, true, false, true, false, true, true, true, false, false]) impl_Sched_step_l0_F :=
  loop_at (code21) [true, true, true, false, true, false, true, false, true, true, true, false, false] (loop_piece (c := (sub code21 [true, true, true, false, true, false, true, false, true, true, true, false, false, false])) mixed rows_nil (fun K => by intro p30 b31 b32 n33 h hd; exact hd) (fun K N => by intro p30 b31 b32 n33 h hd; exact (impl_Sched_step_l0_eq K N p30 b31 b32 n33 h) ▸ hd))

theorem impl_Sched_step_l1_eq (K : Cont) (N : Nat) (p70 : Option Addr) (b71 : Nat) (n72 : Int) (n73 : Int) (h : H) :
  impl_Sched_step_l1 (curV [(0, .ptr), (4, .blk)] (K (.exit 3))) (N + 1) p70 b71 n72 n73 h = evC Try.prog 449 [] [] (sub code21 [true, true, true, false, true, false, true, true, true, false, false, true, false, false]) [(0, .pointer p70), (4, .pointer (some ⟨b71, 0, none⟩)), (116, .int .i64 n72), (117, .int .i64 n73)] h ((outsOf none [(3, [(0, .ptr), (4, .blk)])] none K).loop [(0, .ptr), (4, .blk), (116, .int .i64), (117, .int .i64)] (impl_Sched_step_l1 (curV [(0, .ptr), (4, .blk)] (K (.exit 3))) N)).K := by kernel_rfl

def impl_Sched_step_l1_F : PT := mkL [(0, .ptr), (4, .blk), (116, .int .i64), (117, .int .i64)] fun K N => impl_Sched_step_l1 (curV [(0, .ptr), (4, .blk)] (K (.exit 3))) N

theorem impl_Sched_step_l1_V : Valid Try.prog 449 (sub code21 [true, true, true, false, true, false, true, true, true, false, false, true, false]) impl_Sched_step_l1_F :=
  loop_at (code21) [true, true, true, false, true, false, true, true, true, false, false, true, false] (loop_piece (c := (sub code21 [true, true, true, false, true, false, true, true, true, false, false, true, false, false])) mixed rows_nil (fun K => by intro p70 b71 n72 n73 h hd; exact hd) (fun K N => by intro p70 b71 n72 n73 h hd; exact (impl_Sched_step_l1_eq K N p70 b71 n72 n73 h) ▸ hd))

theorem impl_Sched_step_j2_eq (K : Cont) (p87 : Option Addr) (b88 : Nat) (n89 : Int) (h : H) :
  impl_Sched_step_j2 (curV [(4, .blk)] (K .ret)) p87 b88 n89 h = evC Try.prog 449 [] [] (sub code21 [true, true, true, false, true, false, true, true, true, false, true, true, true]) [(0, .pointer p87), (4, .pointer (some ⟨b88, 0, none⟩)), (10, .int .i64 n89)] h (outsOf none [] (some [(4, .blk)]) K).K := by kernel_rfl

def impl_Sched_step_j2_F : PT := mkF [(0, .ptr), (4, .blk), (10, .int .i64)] fun K => impl_Sched_step_j2 (curV [(4, .blk)] (K .ret))

theorem impl_Sched_step_j2_V : Valid Try.prog 449 (sub code21 [true, true, true, false, true, false, true, true, true, false, true, true, true]) impl_Sched_step_j2_F :=
  piece mixed rows_nil (fun K => by intro p87 b88 n89 h hd; exact (impl_Sched_step_j2_eq K p87 b88 n89 h) ▸ hd)

theorem impl_Sched_step_l3_eq (K : Cont) (N : Nat) (p97 : Option Addr) (b98 : Nat) (b99 : Nat) (a100 : Option Addr) (l100 : Nat) (c100 : Nat) (a101 : Option Addr) (l101 : Nat) (c101 : Nat) (n102 : Int) (n103 : Int) (h : H) :
  impl_Sched_step_l3 (curV [(0, .ptr), (3, .blk), (4, .blk), (5, .fn 42 []), (13, .slice)] (K (.exit 6))) (N + 1) p97 b98 b99 a100 l100 c100 a101 l101 c101 n102 n103 h = evC Try.prog 449 [] [] (sub code21 [true, true, true, true, true, true, false, true, false, true, false, true, false, true, false, false]) [(0, .pointer p97), (3, .pointer (some ⟨b98, 0, none⟩)), (4, .pointer (some ⟨b99, 0, none⟩)), (5, .func (.func 42) #[] ⟨[]⟩), (13, .slice a100 l100 c100), (201, .slice a101 l101 c101), (202, .int .i64 n102), (203, .int .i64 n103)] h ((outsOf none [(6, [(0, .ptr), (3, .blk), (4, .blk), (5, .fn 42 []), (13, .slice)])] none K).loop [(0, .ptr), (3, .blk), (4, .blk), (5, .fn 42 []), (13, .slice), (201, .slice), (202, .int .i64), (203, .int .i64)] (impl_Sched_step_l3 (curV [(0, .ptr), (3, .blk), (4, .blk), (5, .fn 42 []), (13, .slice)] (K (.exit 6))) N)).K := by kernel_rfl

def impl_Sched_step_l3_F : PT := mkL [(0, .ptr), (3, .blk), (4, .blk), (5, .fn 42 []), (13, .slice), (201, .slice), (202, .int .i64), (203, .int .i64)] fun K N => impl_Sched_step_l3 (curV [(0, .ptr), (3, .blk), (4, .blk), (5, .fn 42 []), (13, .slice)] (K (.exit 6))) N

theorem impl_Sched_step_l3_V : Valid Try.prog 449 (sub code21 [true, true, true, true, true, true, false, true, false, true, false, true, false, true, false]) impl_Sched_step_l3_F :=
  loop_at (code21) [true, true, true, true, true, true, false, true, false, true, false, true, false, true, false] (loop_piece (c := (sub code21 [true, true, true, true, true, true, false, true, false, true, false, true, false, true, false, false])) mixed rows_nil (fun K => by intro p97 b98 b99 a100 l100 c100 a101 l101 c101 n102 n103 h hd; exact hd) (fun K N => by intro p97 b98 b99 a100 l100 c100 a101 l101 c101 n102 n103 h hd; exact (impl_Sched_step_l3_eq K N p97 b98 b99 a100 l100 c100 a101 l101 c101 n102 n103 h) ▸ hd))

theorem impl_Sched_step_l4_eq (K : Cont) (N : Nat) (p137 : Option Addr) (b138 : Nat) (b139 : Nat) (a140 : Option Addr) (l140 : Nat) (c140 : Nat) (n141 : Int) (n142 : Int) (h : H) :
  impl_Sched_step_l4 (curV [(4, .blk), (5, .fn 42 [])] (K (.exit 8))) (N + 1) p137 b138 b139 a140 l140 c140 n141 n142 h = evC Try.prog 449 [] [] (sub code21 [true, true, true, true, true, true, false, true, false, true, false, true, true, true, true, false, false]) [(0, .pointer p137), (3, .pointer (some ⟨b138, 0, none⟩)), (4, .pointer (some ⟨b139, 0, none⟩)), (5, .func (.func 42) #[] ⟨[]⟩), (225, .slice a140 l140 c140), (226, .int .i64 n141), (227, .int .i64 n142)] h ((outsOf none [(8, [(4, .blk), (5, .fn 42 [])])] none K).loop [(0, .ptr), (3, .blk), (4, .blk), (5, .fn 42 []), (225, .slice), (226, .int .i64), (227, .int .i64)] (impl_Sched_step_l4 (curV [(4, .blk), (5, .fn 42 [])] (K (.exit 8))) N)).K := by kernel_rfl

def impl_Sched_step_l4_F : PT := mkL [(0, .ptr), (3, .blk), (4, .blk), (5, .fn 42 []), (225, .slice), (226, .int .i64), (227, .int .i64)] fun K N => impl_Sched_step_l4 (curV [(4, .blk), (5, .fn 42 [])] (K (.exit 8))) N

theorem impl_Sched_step_l4_V : Valid Try.prog 449 (sub code21 [true, true, true, true, true, true, false, true, false, true, false, true, true, true, true, false]) impl_Sched_step_l4_F :=
  loop_at (code21) [true, true, true, true, true, true, false, true, false, true, false, true, true, true, true, false] (loop_piece (c := (sub code21 [true, true, true, true, true, true, false, true, false, true, false, true, true, true, true, false, false])) mixed rows_nil (fun K => by intro p137 b138 b139 a140 l140 c140 n141 n142 h hd; exact hd) (fun K N => by intro p137 b138 b139 a140 l140 c140 n141 n142 h hd; exact (impl_Sched_step_l4_eq K N p137 b138 b139 a140 l140 c140 n141 n142 h) ▸ hd))

theorem impl_Sched_step_l5_eq (K : Cont) (N : Nat) (p175 : Option Addr) (b176 : Nat) (b177 : Nat) (n178 : Int) (h : H) :
  impl_Sched_step_l5 (curV [(0, .ptr), (3, .blk), (4, .blk), (5, .fn 42 []), (19, .int .i64)] (K (.exit 11))) (N + 1) p175 b176 b177 n178 h = evC Try.prog 449 [] [] (sub code21 [true, true, true, true, true, true, false, true, false, true, true, true, false, true, true, true, false, false, true, false, true, false, false, false]) [(0, .pointer p175), (3, .pointer (some ⟨b176, 0, none⟩)), (4, .pointer (some ⟨b177, 0, none⟩)), (5, .func (.func 42) #[] ⟨[]⟩), (19, .int .i64 n178)] h ((outsOf none [(11, [(0, .ptr), (3, .blk), (4, .blk), (5, .fn 42 []), (19, .int .i64)])] none K).loop [(0, .ptr), (3, .blk), (4, .blk), (5, .fn 42 []), (19, .int .i64)] (impl_Sched_step_l5 (curV [(0, .ptr), (3, .blk), (4, .blk), (5, .fn 42 []), (19, .int .i64)] (K (.exit 11))) N)).K := by kernel_rfl

def impl_Sched_step_l5_F : PT := mkL [(0, .ptr), (3, .blk), (4, .blk), (5, .fn 42 []), (19, .int .i64)] fun K N => impl_Sched_step_l5 (curV [(0, .ptr), (3, .blk), (4, .blk), (5, .fn 42 []), (19, .int .i64)] (K (.exit 11))) N

theorem impl_Sched_step_l5_V : Valid Try.prog 449 (sub code21 [true, true, true, true, true, true, false, true, false, true, true, true, false, true, true, true, false, false, true, false, true, false, false]) impl_Sched_step_l5_F :=
  loop_at (code21) [true, true, true, true, true, true, false, true, false, true, true, true, false, true, true, true, false, false, true, false, true, false, false] (loop_piece (c := (sub code21 [true, true, true, true, true, true, false, true, false, true, true, true, false, true, true, true, false, false, true, false, true, false, false, false])) mixed rows_nil (fun K => by intro p175 b176 b177 n178 h hd; exact hd) (fun K N => by intro p175 b176 b177 n178 h hd; exact (impl_Sched_step_l5_eq K N p175 b176 b177 n178 h) ▸ hd))

theorem impl_Sched_step_eq (K : Cont) (p1 : Option Addr) (n2 : Int) (n3 : Int) (n4 : Int) (h : H) :
  impl_Sched_step (curV [(4, .blk)] (K .ret)) p1 n2 n3 n4 h = evC Try.prog 449 [([false, false, false, true, true, true, false, true, false, true, false, true, true, true], impl_Sched_step_l0_F), ([false, false, true, false, false, true, true, true, false, true, false, true, true, true], impl_Sched_step_l1_F), ([true, true, true, false, true, true, true, false, true, false, true, true, true], impl_Sched_step_j2_F), ([false, false, true, false, true, false, true, false, true, false, true, true, true, true, true, true], impl_Sched_step_l3_F), ([false, false, true, true, true, true, false, true, false, true, false, true, true, true, true, true, true], impl_Sched_step_l4_F), ([false, false, false, true, false, true, false, false, true, true, true, false, true, true, true, false, true, false, true, true, true, true, true, true], impl_Sched_step_l5_F)] [] code21 [(0, .pointer p1), (1, .agg ⟨[.int .i64 n2, .int .i64 n3, .int .i64 n4]⟩)] h (outsOf none [] (some [(4, .blk)]) K).K := by kernel_rfl

def impl_Sched_step_F : PT := mkF [(0, .ptr), (1, .agg [.int .i64, .int .i64, .int .i64])] fun K => impl_Sched_step (curV [(4, .blk)] (K .ret))

theorem impl_Sched_step_V : Valid Try.prog 449 code21 impl_Sched_step_F :=
  piece mixed (rows_cons (q' := [true, true, true, false, true, false, true, false, true, true, true, false, false]) impl_Sched_step_l0_V rfl (rows_cons (q' := [true, true, true, false, true, false, true, true, true, false, false, true, false]) impl_Sched_step_l1_V rfl (rows_cons (q' := [true, true, true, false, true, false, true, true, true, false, true, true, true]) impl_Sched_step_j2_V rfl (rows_cons (q' := [true, true, true, true, true, true, false, true, false, true, false, true, false, true, false]) impl_Sched_step_l3_V rfl (rows_cons (q' := [true, true, true, true, true, true, false, true, false, true, false, true, true, true, true, false]) impl_Sched_step_l4_V rfl (rows_cons (q' := [true, true, true, true, true, true, false, true, false, true, true, true, false, true, true, true, false, false, true, false, true, false, false]) impl_Sched_step_l5_V rfl rows_nil)))))) (fun K => by intro p1 n2 n3 n4 h hd; exact (impl_Sched_step_eq K p1 n2 n3 n4 h) ▸ hd)

theorem impl_Sched_step_c0 (p1 : Option Addr) (n2 : Int) (n3 : Int) (n4 : Int) (h : H) (K : Value → H → Prop) :
  impl_Sched_step (fun b100001 h =>
  ldRow h b100001 0 0 [.int .i64, .int .i64] fun n100002 n100003 =>
  K (.agg ⟨[.int .i64 n100002, .int .i64 n100003]⟩) h) p1 n2 n3 n4 h = callF Try.prog Try.f21.results.toList impl_Sched_step_F [.pointer p1, .agg ⟨[.int .i64 n2, .int .i64 n3, .int .i64 n4]⟩] h K := by kernel_rfl

theorem impl_Sched_step_call {p1 : Option Addr} {n2 : Int} {n3 : Int} {n4 : Int} {h : H} {K : Value → H → Prop} (hs : impl_Sched_step (fun b100001 h =>
  ldRow h b100001 0 0 [.int .i64, .int .i64] fun n100002 n100003 =>
  K (.agg ⟨[.int .i64 n100002, .int .i64 n100003]⟩) h) p1 n2 n3 n4 h) : callK Try.prog 21 ⟨[.pointer p1, .agg ⟨[.int .i64 n2, .int .i64 n3, .int .i64 n4]⟩]⟩ h K :=
  func_calls Try.func21 body21 impl_Sched_step_V (Nat.le_of_ble_eq_true (by kernel_rfl)) (impl_Sched_step_c0 p1 n2 n3 n4 h K ▸ hs)

theorem o_el_TE {K : Prop} (g : K) : elF False (.tuple []) (.tuple ⟨[]⟩) K := Eq.mpr (by kernel_rfl) g
theorem d_el_TE {v : Value} {K2 K1 : Prop} (f : K2 → K1) : elF False (.tuple []) v K2 → elF False (.tuple []) v K1 :=
  d_el (s := .tuple []) (Eq.mpr (by kernel_rfl) f)
def impl_Sched_step_M_l0 (kx1 : Option Addr → Int → Int → H → Prop) : Nat → Option Addr → Int → Int → H → Prop
 | 0, _, _, _, _ => False
 | N + 1, p23, n24, n27, h =>
  nz p23 fun b32 o33 =>
  ldL h b32 (o33 + 2) fun a34 l34 c34 =>
  ifB (decide ((n24 : Int) < (l34 : Nat)))
  (nz p23 fun b35 o36 =>
  ldL h b35 (o36 + 2) fun a37 l37 c37 =>
  req (0 ≤ (n24 : Int) ∧ (n24 : Int) < (l37 : Nat))
  (nz a37 fun b38 o39 =>
  ldI .i64 h b38 (o39 + n24.toNat * 8) fun n40 =>
  ifB ((n40 : Int) == n24)
  (impl_Sched_step_M_l0 kx1 N p23 (IntKind.i64.wrap (n24 + 1)) n27 h)
  (kx1 p23 n24 n27 h)))
  (kx1 p23 n24 n27 h)

def impl_Sched_step_M_l1 (kx3 : Option Addr → H → Prop) : Nat → Option Addr → Int → Int → H → Prop
 | 0, _, _, _, _ => False
 | N + 1, p1072, n1073, n1074, h =>
  ifB (decide ((n1074 : Int) < n1073))
  (nz p1072 fun b1078 o1079 =>
  ldL h b1078 (o1079 + 2) fun a1080 l1080 c1080 =>
  req (0 ≤ (n1074 : Int) ∧ (n1074 : Int) < (l1080 : Nat))
  (nz a1080 fun b1081 o1082 =>
  ldI .i64 h b1081 ((o1082 + n1074.toNat * 8) + 2) fun n1083 =>
  ifB ((n1083 : Int) == 3)
  (ldI .i64 h b1081 ((o1082 + n1074.toNat * 8) + 6) fun n1084 =>
  nz p1072 fun b1085 o1086 =>
  ldI .i64 h b1085 o1086 fun n1087 =>
  ifB (decide ((n1084 : Int) ≤ n1087))
  (callD Try.prog 43 ⟨[.pointer p1072, .pointer (some ⟨b1081, (o1082 + n1074.toNat * 8), none⟩)]⟩ h fun v1088 h =>
  elF False (.tuple []) v1088
  (impl_Sched_step_M_l1 kx3 N p1072 n1073 (IntKind.i64.wrap (n1074 + 1)) h))
  (impl_Sched_step_M_l1 kx3 N p1072 n1073 (IntKind.i64.wrap (n1074 + 1)) h))
  (impl_Sched_step_M_l1 kx3 N p1072 n1073 (IntKind.i64.wrap (n1074 + 1)) h)))
  (kx3 p1072 h)

def impl_Sched_step_M_j2 (kr : Int → Int → H → Prop) (p2093 : Option Addr) (n2094 : Int) (h : H) : Prop :=
  nz p2093 fun b2098 o2099 =>
  ldI .i64 h b2098 o2099 fun n2100 =>
  nz p2093 fun b2101 o2102 =>
  st h b2101 o2102 (.int .i64 (IntKind.i64.wrap (n2100 + 1))) fun h =>
  kr 0 n2094 h

def impl_Sched_step_M_l3 (kx6 : Option Addr → Option Addr → Nat → Nat → Int → H → Prop) : Nat → Option Addr → Option Addr → Nat → Nat → Option Addr → Nat → Int → Int → Int → H → Prop
 | 0, _, _, _, _, _, _, _, _, _, _ => False
 | N + 1, p100, a101, l101, c101, a102, l102, n103, n104, n106, h =>
  ifB (decide ((n104 : Int) < n103))
  (req (0 ≤ (n104 : Int) ∧ (n104 : Int) < (l102 : Nat))
  (nz a102 fun b112 o113 =>
  ldRow h b112 (o113 + n104.toNat * 8) 0 [.int .i64, .int .i64, .int .i64, .int .i64, .int .i64, .int .i64, .int .i64, .int .i64] fun n114 n115 n116 n117 n118 n119 n120 n121 =>
  ifB ((n114 : Int) != n106)
  (newD h [.int .i64 n114, .int .i64 n115, .int .i64 n116, .int .i64 n117, .int .i64 n118, .int .i64 n119, .int .i64 n120, .int .i64 n121] 60 fun b122 h =>
  appendD Try.prog 60 h a101 l101 c101 (.slice (some ⟨b122, 0, none⟩) 1 1) fun a123 l123 c123 h =>
  impl_Sched_step_M_l3 kx6 N p100 a123 l123 c123 a102 l102 n103 (IntKind.i64.wrap (n104 + 1)) n106 h)
  (impl_Sched_step_M_l3 kx6 N p100 a101 l101 c101 a102 l102 n103 (IntKind.i64.wrap (n104 + 1)) n106 h)))
  (kx6 p100 a101 l101 c101 n106 h)

def impl_Sched_step_M_l4 (kx8 : H → Prop) : Nat → Option Addr → Option Addr → Nat → Int → Int → Int → H → Prop
 | 0, _, _, _, _, _, _, _ => False
 | N + 1, p1140, a1141, l1141, n1142, n1143, n1145, h =>
  ifB (decide ((n1143 : Int) < n1142))
  (req (0 ≤ (n1143 : Int) ∧ (n1143 : Int) < (l1141 : Nat))
  (nz a1141 fun b1151 o1152 =>
  ldRow h b1151 (o1152 + n1143.toNat * 2) 0 [.int .i64, .int .i64] fun n1153 n1154 =>
  ifB ((n1154 : Int) == n1145)
  (callD Try.prog 45 ⟨[.pointer p1140, .int .i64 n1153]⟩ h fun v1155 h =>
  elF False (.tuple []) v1155
  (impl_Sched_step_M_l4 kx8 N p1140 a1141 l1141 n1142 (IntKind.i64.wrap (n1143 + 1)) n1145 h))
  (impl_Sched_step_M_l4 kx8 N p1140 a1141 l1141 n1142 (IntKind.i64.wrap (n1143 + 1)) n1145 h)))
  (kx8 h)

def impl_Sched_step_M_l5 (kx11 : Option Addr → Int → Int → Int → H → Prop) : Nat → Option Addr → Int → Int → Int → H → Prop
 | 0, _, _, _, _, _ => False
 | N + 1, p2179, n2180, n2182, n2183, h =>
  nz p2179 fun b2188 o2189 =>
  ldL h b2188 (o2189 + 3) fun a2190 l2190 c2190 =>
  ifB (decide ((n2180 : Int) < (l2190 : Nat)))
  (nz p2179 fun b2191 o2192 =>
  ldL h b2191 (o2192 + 3) fun a2193 l2193 c2193 =>
  req (0 ≤ (n2180 : Int) ∧ (n2180 : Int) < (l2193 : Nat))
  (nz a2193 fun b2194 o2195 =>
  ldI .i64 h b2194 (o2195 + n2180.toNat * 2) fun n2196 =>
  ifB (decide ((n2196 : Int) < n2183))
  (impl_Sched_step_M_l5 kx11 N p2179 (IntKind.i64.wrap (n2180 + 1)) n2182 n2183 h)
  (kx11 p2179 n2180 n2182 n2183 h)))
  (kx11 p2179 n2180 n2182 n2183 h)

def impl_Sched_step_M (kr : Int → Int → H → Prop) (p1 : Option Addr) (n2 : Int) (n3 : Int) (n4 : Int) (h : H) : Prop :=
  ifB (decide ((n2 : Int) < 1))
  (callD Try.prog 42 ⟨[.int .i64 1]⟩ h fun v5 h =>
  elF False (.agg [.int .i64, .int .i64]) v5 fun n6 n7 =>
  kr n6 n7 h)
  (ifB (decide ((n2 : Int) > 8))
  (callD Try.prog 42 ⟨[.int .i64 1]⟩ h fun v8 h =>
  elF False (.agg [.int .i64, .int .i64]) v8 fun n9 n10 =>
  kr n9 n10 h)
  (ifB ((n2 : Int) == 1)
  (ifB (decide ((n4 : Int) < 0))
  (callD Try.prog 42 ⟨[.int .i64 1]⟩ h fun v11 h =>
  elF False (.agg [.int .i64, .int .i64]) v11 fun n12 n13 =>
  kr n12 n13 h)
  (ifB (decide ((n4 : Int) > 7))
  (callD Try.prog 42 ⟨[.int .i64 1]⟩ h fun v14 h =>
  elF False (.agg [.int .i64, .int .i64]) v14 fun n15 n16 =>
  kr n15 n16 h)
  (nz p1 fun b17 o18 =>
  ldL h b17 (o18 + 2) fun a19 l19 c19 =>
  ifB (((l19 : Nat) : Int) == 32)
  (callD Try.prog 42 ⟨[.int .i64 18]⟩ h fun v20 h =>
  elF False (.agg [.int .i64, .int .i64]) v20 fun n21 n22 =>
  kr n21 n22 h)
  (∃ M50, impl_Sched_step_M_l0 (fun p23 n24 n27 h =>
  nz p23 fun b32 o33 =>
  ldL h b32 (o33 + 2) fun a34 l34 c34 =>
  req (0 ≤ (n24 : Int) ∧ (n24 : Int) ≤ (c34 : Nat))
  (req (plainA a34 = true)
  (appendD Try.prog 60 h none 0 0 (.slice (slB a34 0 c34 8) (n24.toNat - 0) (c34 - 0)) fun a35 l35 c35 h =>
  nz p23 fun b36 o37 =>
  ldL h b36 (o37 + 2) fun a38 l38 c38 =>
  req (0 ≤ (n24 : Int) ∧ (n24 : Int) ≤ (l38 : Nat))
  (req (plainA a38 = true)
  (newD h [.int .i64 n24, .int .i64 n27, .int .i64 0, .int .i64 0, .int .i64 0, .int .i64 0, .int .i64 0, .int .i64 0] 60 fun b39 h =>
  cell h b36 (o37 + 2) = some (.slice a38 l38 c38) ∧ (appendD Try.prog 60 h a35 l35 c35 (.slice (some ⟨b39, 0, none⟩) 1 1) fun a40 l40 c40 h =>
  cell h b36 (o37 + 2) = some (.slice a38 l38 c38) ∧ (appendD Try.prog 60 h a40 l40 c40 (.slice (slB a38 n24.toNat c38 8) (l38 - n24.toNat) (c38 - n24.toNat)) fun a41 l41 c41 h =>
  nz p23 fun b42 o43 =>
  st h b42 (o43 + 2) (.slice a41 l41 c41) fun h =>
  nz p23 fun b44 o45 =>
  ldL h b44 (o45 + 2) fun a46 l46 c46 =>
  req (0 ≤ (n24 : Int) ∧ (n24 : Int) < (l46 : Nat))
  (nz a46 fun b47 o48 =>
  callD Try.prog 43 ⟨[.pointer p23, .pointer (some ⟨b47, (o48 + n24.toNat * 8), none⟩)]⟩ h fun v49 h =>
  elF False (.tuple []) v49
  (kr 0 n24 h))))))))) M50 p1 0 n4 h))))
  (ifB ((n2 : Int) == 3)
  (nz p1 fun b51 o52 =>
  ldL h b51 (o52 + 2) fun a53 l53 c53 =>
  ∃ M82, impl_Sched_step_M_l1 (fun p54 h =>
  callD Try.prog 44 ⟨[.pointer p54]⟩ h fun v58 h =>
  asP v58 fun p59 =>
  ifB (!p59.isNone)
  (nz p59 fun b60 o61 =>
  ldI .i64 h b60 o61 fun n62 =>
  nz p59 fun b63 o64 =>
  ldI .i64 h b63 (o64 + 4) fun n65 =>
  nz p59 fun b66 o67 =>
  st h b66 (o67 + 4) (.int .i64 (IntKind.i64.wrap (n65 - 1))) fun h =>
  nz p59 fun b68 o69 =>
  ldI .i64 h b68 (o69 + 4) fun n70 =>
  ifB ((n70 : Int) == 0)
  (callD Try.prog 43 ⟨[.pointer p54, .pointer p59]⟩ h fun v71 h =>
  elF False (.tuple []) v71
  (nz p54 fun b72 o73 =>
  ldI .i64 h b72 o73 fun n74 =>
  nz p59 fun b75 o76 =>
  st h b75 (o76 + 5) (.int .i64 (IntKind.i64.wrap (n74 + 1))) fun h =>
  impl_Sched_step_M_j2 kr p54 n62 h))
  (nz p54 fun b77 o78 =>
  ldI .i64 h b77 o78 fun n79 =>
  nz p59 fun b80 o81 =>
  st h b80 (o81 + 5) (.int .i64 (IntKind.i64.wrap (n79 + 1))) fun h =>
  impl_Sched_step_M_j2 kr p54 n62 h))
  (impl_Sched_step_M_j2 kr p54 (-1) h)) M82 p1 (l53 : Nat) 0 h)
  (callD Try.prog 40 ⟨[.pointer p1, .int .i64 n3]⟩ h fun v83 h =>
  asP v83 fun p84 =>
  ifB p84.isNone
  (callD Try.prog 42 ⟨[.int .i64 3]⟩ h fun v85 h =>
  elF False (.agg [.int .i64, .int .i64]) v85 fun n86 n87 =>
  kr n86 n87 h)
  (ifB ((n2 : Int) == 2)
  (nz p1 fun b88 o89 =>
  ldL h b88 (o89 + 2) fun a90 l90 c90 =>
  ∃ M113, impl_Sched_step_M_l3 (fun p91 a92 l92 c92 n94 h =>
  nz p91 fun b100 o101 =>
  st h b100 (o101 + 2) (.slice a92 l92 c92) fun h =>
  nz p91 fun b102 o103 =>
  ldL h b102 (o103 + 3) fun a104 l104 c104 =>
  appendD Try.prog 57 h none 0 0 (.slice a104 l104 c104) fun a105 l105 c105 h =>
  ∃ M112, impl_Sched_step_M_l4 (fun h =>
  callD Try.prog 42 ⟨[.int .i64 0]⟩ h fun v109 h =>
  elF False (.agg [.int .i64, .int .i64]) v109 fun n110 n111 =>
  kr n110 n111 h) M112 p91 a105 l105 (l105 : Nat) 0 n94 h) M113 p1 none 0 0 a90 l90 (l90 : Nat) 0 n3 h)
  (ifB ((n2 : Int) == 4)
  (ifB (decide ((n4 : Int) < 0))
  (callD Try.prog 42 ⟨[.int .i64 1]⟩ h fun v114 h =>
  elF False (.agg [.int .i64, .int .i64]) v114 fun n115 n116 =>
  kr n115 n116 h)
  (ifB (decide ((n4 : Int) ≥ 16))
  (callD Try.prog 42 ⟨[.int .i64 1]⟩ h fun v117 h =>
  elF False (.agg [.int .i64, .int .i64]) v117 fun n118 n119 =>
  kr n118 n119 h)
  (nz p84 fun b120 o121 =>
  ldI .i64 h b120 (o121 + 2) fun n122 =>
  ifB ((n122 : Int) != 1)
  (callD Try.prog 42 ⟨[.int .i64 21]⟩ h fun v123 h =>
  elF False (.agg [.int .i64, .int .i64]) v123 fun n124 n125 =>
  kr n124 n125 h)
  (callD Try.prog 39 ⟨[.pointer p1, .int .i64 n4]⟩ h fun v126 h =>
  asP v126 fun p127 =>
  ifB p127.isNone
  (∃ M152, impl_Sched_step_M_l5 (fun p128 n129 n131 n132 h =>
  nz p128 fun b137 o138 =>
  ldL h b137 (o138 + 3) fun a139 l139 c139 =>
  req (0 ≤ (n129 : Int) ∧ (n129 : Int) ≤ (c139 : Nat))
  (req (plainA a139 = true)
  (appendD Try.prog 57 h none 0 0 (.slice (slB a139 0 c139 2) (n129.toNat - 0) (c139 - 0)) fun a140 l140 c140 h =>
  nz p128 fun b141 o142 =>
  ldL h b141 (o142 + 3) fun a143 l143 c143 =>
  req (0 ≤ (n129 : Int) ∧ (n129 : Int) ≤ (l143 : Nat))
  (req (plainA a143 = true)
  (newD h [.int .i64 n132, .int .i64 n131] 57 fun b144 h =>
  cell h b141 (o142 + 3) = some (.slice a143 l143 c143) ∧ (appendD Try.prog 57 h a140 l140 c140 (.slice (some ⟨b144, 0, none⟩) 1 1) fun a145 l145 c145 h =>
  cell h b141 (o142 + 3) = some (.slice a143 l143 c143) ∧ (appendD Try.prog 57 h a145 l145 c145 (.slice (slB a143 n129.toNat c143 2) (l143 - n129.toNat) (c143 - n129.toNat)) fun a146 l146 c146 h =>
  nz p128 fun b147 o148 =>
  st h b147 (o148 + 3) (.slice a146 l146 c146) fun h =>
  callD Try.prog 42 ⟨[.int .i64 0]⟩ h fun v149 h =>
  elF False (.agg [.int .i64, .int .i64]) v149 fun n150 n151 =>
  kr n150 n151 h))))))) M152 p1 0 n3 n4 h)
  (nz p127 fun b153 o154 =>
  ldI .i64 h b153 (o154 + 1) fun n155 =>
  ifB ((n155 : Int) == n3)
  (callD Try.prog 42 ⟨[.int .i64 4]⟩ h fun v156 h =>
  elF False (.agg [.int .i64, .int .i64]) v156 fun n157 n158 =>
  kr n157 n158 h)
  (nz p127 fun b159 o160 =>
  ldI .i64 h b159 (o160 + 1) fun n161 =>
  callD Try.prog 41 ⟨[.pointer p1, .int .i64 n161, .int .i64 n3]⟩ h fun v162 h =>
  asB v162 fun t163 =>
  ifB t163
  (callD Try.prog 42 ⟨[.int .i64 17]⟩ h fun v164 h =>
  elF False (.agg [.int .i64, .int .i64]) v164 fun n165 n166 =>
  kr n165 n166 h)
  (nz p84 fun b167 o168 =>
  st h b167 (o168 + 2) (.int .i64 2) fun h =>
  nz p84 fun b169 o170 =>
  st h b169 (o170 + 7) (.int .i64 n4) fun h =>
  kr 0 1 h)))))))
  (ifB ((n2 : Int) == 5)
  (ifB (decide ((n4 : Int) < 0))
  (callD Try.prog 42 ⟨[.int .i64 1]⟩ h fun v171 h =>
  elF False (.agg [.int .i64, .int .i64]) v171 fun n172 n173 =>
  kr n172 n173 h)
  (ifB (decide ((n4 : Int) ≥ 16))
  (callD Try.prog 42 ⟨[.int .i64 1]⟩ h fun v174 h =>
  elF False (.agg [.int .i64, .int .i64]) v174 fun n175 n176 =>
  kr n175 n176 h)
  (nz p84 fun b177 o178 =>
  ldI .i64 h b177 (o178 + 2) fun n179 =>
  ifB ((n179 : Int) != 1)
  (callD Try.prog 42 ⟨[.int .i64 21]⟩ h fun v180 h =>
  elF False (.agg [.int .i64, .int .i64]) v180 fun n181 n182 =>
  kr n181 n182 h)
  (callD Try.prog 39 ⟨[.pointer p1, .int .i64 n4]⟩ h fun v183 h =>
  asP v183 fun p184 =>
  ifB p184.isNone
  (callD Try.prog 42 ⟨[.int .i64 2]⟩ h fun v185 h =>
  elF False (.agg [.int .i64, .int .i64]) v185 fun n186 n187 =>
  kr n186 n187 h)
  (nz p184 fun b188 o189 =>
  ldI .i64 h b188 (o189 + 1) fun n190 =>
  ifB ((n190 : Int) != n3)
  (callD Try.prog 42 ⟨[.int .i64 2]⟩ h fun v191 h =>
  elF False (.agg [.int .i64, .int .i64]) v191 fun n192 n193 =>
  kr n192 n193 h)
  (callD Try.prog 45 ⟨[.pointer p1, .int .i64 n4]⟩ h fun v194 h =>
  elF False (.tuple []) v194
  (callD Try.prog 42 ⟨[.int .i64 0]⟩ h fun v195 h =>
  elF False (.agg [.int .i64, .int .i64]) v195 fun n196 n197 =>
  kr n196 n197 h)))))))
  (ifB ((n2 : Int) == 6)
  (ifB (decide ((n4 : Int) < 1))
  (callD Try.prog 42 ⟨[.int .i64 1]⟩ h fun v198 h =>
  elF False (.agg [.int .i64, .int .i64]) v198 fun n199 n200 =>
  kr n199 n200 h)
  (ifB (decide ((n4 : Int) > 1000))
  (callD Try.prog 42 ⟨[.int .i64 1]⟩ h fun v201 h =>
  elF False (.agg [.int .i64, .int .i64]) v201 fun n202 n203 =>
  kr n202 n203 h)
  (nz p84 fun b204 o205 =>
  ldI .i64 h b204 (o205 + 2) fun n206 =>
  ifB ((n206 : Int) != 1)
  (callD Try.prog 42 ⟨[.int .i64 21]⟩ h fun v207 h =>
  elF False (.agg [.int .i64, .int .i64]) v207 fun n208 n209 =>
  kr n208 n209 h)
  (nz p1 fun b210 o211 =>
  ldI .i64 h b210 o211 fun n212 =>
  nz p84 fun b213 o214 =>
  st h b213 (o214 + 2) (.int .i64 3) fun h =>
  nz p84 fun b215 o216 =>
  st h b215 (o216 + 6) (.int .i64 (IntKind.i64.wrap (n212 + n4))) fun h =>
  callD Try.prog 42 ⟨[.int .i64 0]⟩ h fun v217 h =>
  elF False (.agg [.int .i64, .int .i64]) v217 fun n218 n219 =>
  kr n218 n219 h))))
  (ifB ((n2 : Int) == 7)
  (nz p84 fun b220 o221 =>
  ldI .i64 h b220 (o221 + 2) fun n222 =>
  ifB ((n222 : Int) != 3)
  (callD Try.prog 42 ⟨[.int .i64 21]⟩ h fun v223 h =>
  elF False (.agg [.int .i64, .int .i64]) v223 fun n224 n225 =>
  kr n224 n225 h)
  (callD Try.prog 43 ⟨[.pointer p1, .pointer p84]⟩ h fun v226 h =>
  elF False (.tuple []) v226
  (callD Try.prog 42 ⟨[.int .i64 0]⟩ h fun v227 h =>
  elF False (.agg [.int .i64, .int .i64]) v227 fun n228 n229 =>
  kr n228 n229 h)))
  (ifB ((n2 : Int) == 8)
  (ifB (decide ((n4 : Int) < 0))
  (callD Try.prog 42 ⟨[.int .i64 1]⟩ h fun v230 h =>
  elF False (.agg [.int .i64, .int .i64]) v230 fun n231 n232 =>
  kr n231 n232 h)
  (ifB (decide ((n4 : Int) > 7))
  (callD Try.prog 42 ⟨[.int .i64 1]⟩ h fun v233 h =>
  elF False (.agg [.int .i64, .int .i64]) v233 fun n234 n235 =>
  kr n234 n235 h)
  (nz p84 fun b236 o237 =>
  st h b236 (o237 + 1) (.int .i64 n4) fun h =>
  callD Try.prog 42 ⟨[.int .i64 0]⟩ h fun v238 h =>
  elF False (.agg [.int .i64, .int .i64]) v238 fun n239 n240 =>
  kr n239 n240 h)))
  (callD Try.prog 42 ⟨[.int .i64 0]⟩ h fun v241 h =>
  elF False (.agg [.int .i64, .int .i64]) v241 fun n242 n243 =>
  kr n242 n243 h)))))))))))

theorem impl_Sched_step_M_l0_D {g0 m0 : H} {kx1_1 : Option Addr → Nat → Nat → Int → H → Prop} {kx1_2 : Option Addr → Int → Int → H → Prop} (Hkx1 : ∀ (p200001 : Option Addr) (n200002 : Int) (n200003 : Int) (n200004 : Int) (n200005 : Int) (n200007 : Int) (n200008 : Int) (p200006 : Nat) (p200009 : Nat) (g m : H), Md g0 m0 g m [lo p200006 [.int .i64 n200003, .int .i64 n200004, .int .i64 n200005], lo p200009 [.int .i64 n200007, .int .i64 n200008]] → kx1_2 p200001 n200002 n200005 m → kx1_1 p200001 p200006 p200009 n200002 g) : ∀ (N : Nat) (p1023 : Option Addr) (n1024 : Int) (n1025 : Int) (n1026 : Int) (n1027 : Int) (n1029 : Int) (n1030 : Int) (p1028 : Nat) (p1031 : Nat) (g m : H), Md g0 m0 g m [lo p1028 [.int .i64 n1025, .int .i64 n1026, .int .i64 n1027], lo p1031 [.int .i64 n1029, .int .i64 n1030]] → impl_Sched_step_M_l0 kx1_2 N p1023 n1024 n1027 m → impl_Sched_step_l0 kx1_1 N p1023 p1028 p1031 n1024 g := by
  intro N
  induction N with
  | zero => intro p1023 n1024 n1025 n1026 n1027 n1029 n1030 p1028 p1031 g m R h0; exact h0.elim
  | succ N ih =>
    intro p1023 n1024 n1025 n1026 n1027 n1029 n1030 p1028 p1031 g m R
    rw [impl_Sched_step_M_l0, impl_Sched_step_l0]
    exact (d_nz fun b1032 o1033 =>
  (d_ldL R fun a1034 l1034 c1034 =>
  (d_if (d_nz fun b1035 o1036 =>
  (d_ldL R fun a1037 l1037 c1037 =>
  (d_req (d_nz fun b1038 o1039 =>
  (d_ldI R fun n1040 =>
  (d_if (ih p1023 (IntKind.i64.wrap (n1024 + 1)) n1025 n1026 n1027 n1029 n1030 p1028 p1031 _ _ R.sub)
  (Hkx1 p1023 n1024 n1025 n1026 n1027 n1029 n1030 p1028 p1031 _ _ R.sub)))))))
  (Hkx1 p1023 n1024 n1025 n1026 n1027 n1029 n1030 p1028 p1031 _ _ R.sub))))

theorem impl_Sched_step_M_l1_D {g0 m0 : H} {kx3_1 : Option Addr → Nat → H → Prop} {kx3_2 : Option Addr → H → Prop} (Hkx3 : ∀ (p200001 : Option Addr) (n200002 : Int) (n200003 : Int) (p200004 : Nat) (g m : H), Md g0 m0 g m [lo p200004 [.int .i64 n200002, .int .i64 n200003]] → kx3_2 p200001 m → kx3_1 p200001 p200004 g) : ∀ (N : Nat) (p2072 : Option Addr) (n2073 : Int) (n2074 : Int) (n2075 : Int) (n2076 : Int) (p2077 : Nat) (g m : H), Md g0 m0 g m [lo p2077 [.int .i64 n2075, .int .i64 n2076]] → impl_Sched_step_M_l1 kx3_2 N p2072 n2073 n2074 m → impl_Sched_step_l1 kx3_1 N p2072 p2077 n2073 n2074 g := by
  intro N
  induction N with
  | zero => intro p2072 n2073 n2074 n2075 n2076 p2077 g m R h0; exact h0.elim
  | succ N ih =>
    intro p2072 n2073 n2074 n2075 n2076 p2077 g m R
    rw [impl_Sched_step_M_l1, impl_Sched_step_l1]
    exact (d_if (d_nz fun b2078 o2079 =>
  (d_ldL R fun a2080 l2080 c2080 =>
  (d_req (d_nz fun b2081 o2082 =>
  (d_ldI R fun n2083 =>
  (d_if (d_ldI R fun n2084 =>
  (d_nz fun b2085 o2086 =>
  (d_ldI R fun n2087 =>
  (d_if (d_call R fun v2088 g m R =>
  (d_el_TE (ih p2072 n2073 (IntKind.i64.wrap (n2074 + 1)) n2075 n2076 p2077 _ _ R.sub)))
  (ih p2072 n2073 (IntKind.i64.wrap (n2074 + 1)) n2075 n2076 p2077 _ _ R.sub)))))
  (ih p2072 n2073 (IntKind.i64.wrap (n2074 + 1)) n2075 n2076 p2077 _ _ R.sub)))))))
  (Hkx3 p2072 n2075 n2076 p2077 _ _ R.sub))

theorem impl_Sched_step_M_j2_D {g0 m0 : H} {kr_1 : Nat → H → Prop} {kr_2 : Int → Int → H → Prop} (Hkr : ∀ (n200001 : Int) (n200002 : Int) (p200003 : Nat) (g m : H), Md g0 m0 g m [lo p200003 [.int .i64 n200001, .int .i64 n200002]] → kr_2 n200001 n200002 m → kr_1 p200003 g) : ∀ (p3093 : Option Addr) (n3094 : Int) (n3095 : Int) (n3096 : Int) (p3097 : Nat) (g m : H), Md g0 m0 g m [lo p3097 [.int .i64 n3095, .int .i64 n3096]] → impl_Sched_step_M_j2 kr_2 p3093 n3094 m → impl_Sched_step_j2 kr_1 p3093 p3097 n3094 g := by
  intro p3093 n3094 n3095 n3096 p3097 g m R
  rw [impl_Sched_step_M_j2, impl_Sched_step_j2]
  exact (d_nz fun b3098 o3099 =>
  (d_ldI R fun n3100 =>
  (d_nz fun b3101 o3102 =>
  (d_st R fun g m R =>
  (p_stRow R (cs' := [.int .i64 0, .int .i64 n3094]) ⟨rfl, rfl, rfl⟩ fun g R =>
  (Hkr 0 n3094 p3097 _ _ R.sub))))))

theorem impl_Sched_step_M_l3_D {g0 m0 : H} {kx6_1 : Option Addr → Nat → Nat → Option Addr → Nat → Nat → H → Prop} {kx6_2 : Option Addr → Option Addr → Nat → Nat → Int → H → Prop} (Hkx6 : ∀ (p200001 : Option Addr) (a200002 : Option Addr) (l200002 : Nat) (c200002 : Nat) (n200003 : Int) (n200004 : Int) (n200005 : Int) (n200007 : Int) (n200008 : Int) (p200006 : Nat) (p200009 : Nat) (g m : H), Md g0 m0 g m [lo p200006 [.int .i64 n200003, .int .i64 n200004, .int .i64 n200005], lo p200009 [.int .i64 n200007, .int .i64 n200008]] → kx6_2 p200001 a200002 l200002 c200002 n200004 m → kx6_1 p200001 p200006 p200009 a200002 l200002 c200002 g) : ∀ (N : Nat) (p1100 : Option Addr) (a1101 : Option Addr) (l1101 : Nat) (c1101 : Nat) (a1102 : Option Addr) (l1102 : Nat) (c1102 : Nat) (n1103 : Int) (n1104 : Int) (n1105 : Int) (n1106 : Int) (n1107 : Int) (n1109 : Int) (n1110 : Int) (p1108 : Nat) (p1111 : Nat) (g m : H), Md g0 m0 g m [lo p1108 [.int .i64 n1105, .int .i64 n1106, .int .i64 n1107], lo p1111 [.int .i64 n1109, .int .i64 n1110]] → impl_Sched_step_M_l3 kx6_2 N p1100 a1101 l1101 c1101 a1102 l1102 n1103 n1104 n1106 m → impl_Sched_step_l3 kx6_1 N p1100 p1108 p1111 a1101 l1101 c1101 a1102 l1102 c1102 n1103 n1104 g := by
  intro N
  induction N with
  | zero => intro p1100 a1101 l1101 c1101 a1102 l1102 c1102 n1103 n1104 n1105 n1106 n1107 n1109 n1110 p1108 p1111 g m R h0; exact h0.elim
  | succ N ih =>
    intro p1100 a1101 l1101 c1101 a1102 l1102 c1102 n1103 n1104 n1105 n1106 n1107 n1109 n1110 p1108 p1111 g m R
    rw [impl_Sched_step_M_l3, impl_Sched_step_l3]
    exact (d_if (d_req (d_nz fun b1112 o1113 =>
  (d_row_I8 R fun n1114 n1115 n1116 n1117 n1118 n1119 n1120 n1121 =>
  (p_new R fun p1122 g R =>
  (p_stRow R (cs' := [.int .i64 n1114, .int .i64 n1115, .int .i64 n1116, .int .i64 n1117, .int .i64 n1118, .int .i64 n1119, .int .i64 n1120, .int .i64 n1121]) ⟨rfl, rfl, rfl⟩ fun g R =>
  (p_ldI R rfl (p_ldI R rfl (d_if (p_row_I8 R rfl rfl rfl rfl rfl rfl rfl rfl (d_new R fun b1123 g m R =>
  (d_append R fun a1124 l1124 c1124 g m R =>
  (ih p1100 a1124 l1124 c1124 a1102 l1102 c1102 n1103 (IntKind.i64.wrap (n1104 + 1)) n1105 n1106 n1107 n1109 n1110 p1108 p1111 _ _ R.sub))))
  (ih p1100 a1101 l1101 c1101 a1102 l1102 c1102 n1103 (IntKind.i64.wrap (n1104 + 1)) n1105 n1106 n1107 n1109 n1110 p1108 p1111 _ _ R.sub)))))))))
  (Hkx6 p1100 a1101 l1101 c1101 n1105 n1106 n1107 n1109 n1110 p1108 p1111 _ _ R.sub))

theorem impl_Sched_step_M_l4_D {g0 m0 : H} {kx8_1 : Nat → H → Prop} {kx8_2 : H → Prop} (Hkx8 : ∀ (n200001 : Int) (n200002 : Int) (p200003 : Nat) (g m : H), Md g0 m0 g m [lo p200003 [.int .i64 n200001, .int .i64 n200002]] → kx8_2 m → kx8_1 p200003 g) : ∀ (N : Nat) (p2140 : Option Addr) (a2141 : Option Addr) (l2141 : Nat) (c2141 : Nat) (n2142 : Int) (n2143 : Int) (n2144 : Int) (n2145 : Int) (n2146 : Int) (n2148 : Int) (n2149 : Int) (p2147 : Nat) (p2150 : Nat) (g m : H), Md g0 m0 g m [lo p2147 [.int .i64 n2144, .int .i64 n2145, .int .i64 n2146], lo p2150 [.int .i64 n2148, .int .i64 n2149]] → impl_Sched_step_M_l4 kx8_2 N p2140 a2141 l2141 n2142 n2143 n2145 m → impl_Sched_step_l4 kx8_1 N p2140 p2147 p2150 a2141 l2141 c2141 n2142 n2143 g := by
  intro N
  induction N with
  | zero => intro p2140 a2141 l2141 c2141 n2142 n2143 n2144 n2145 n2146 n2148 n2149 p2147 p2150 g m R h0; exact h0.elim
  | succ N ih =>
    intro p2140 a2141 l2141 c2141 n2142 n2143 n2144 n2145 n2146 n2148 n2149 p2147 p2150 g m R
    rw [impl_Sched_step_M_l4, impl_Sched_step_l4]
    exact (d_if (d_req (d_nz fun b2151 o2152 =>
  (d_row_I2 R fun n2153 n2154 =>
  (p_new R fun p2155 g R =>
  (p_stRow R (cs' := [.int .i64 n2153, .int .i64 n2154]) ⟨rfl, rfl, rfl⟩ fun g R =>
  (p_ldI R rfl (p_ldI R rfl (d_if (p_ldI R rfl (d_call R fun v2156 g m R =>
  (d_el_TE (ih p2140 a2141 l2141 c2141 n2142 (IntKind.i64.wrap (n2143 + 1)) n2144 n2145 n2146 n2148 n2149 p2147 p2150 _ _ R.sub))))
  (ih p2140 a2141 l2141 c2141 n2142 (IntKind.i64.wrap (n2143 + 1)) n2144 n2145 n2146 n2148 n2149 p2147 p2150 _ _ R.sub)))))))))
  (Hkx8 n2148 n2149 p2150 _ _ R.sub))

theorem impl_Sched_step_M_l5_D {g0 m0 : H} {kx11_1 : Option Addr → Nat → Nat → Int → H → Prop} {kx11_2 : Option Addr → Int → Int → Int → H → Prop} (Hkx11 : ∀ (p200001 : Option Addr) (n200002 : Int) (n200003 : Int) (n200004 : Int) (n200005 : Int) (n200007 : Int) (n200008 : Int) (p200006 : Nat) (p200009 : Nat) (g m : H), Md g0 m0 g m [lo p200006 [.int .i64 n200003, .int .i64 n200004, .int .i64 n200005], lo p200009 [.int .i64 n200007, .int .i64 n200008]] → kx11_2 p200001 n200002 n200004 n200005 m → kx11_1 p200001 p200006 p200009 n200002 g) : ∀ (N : Nat) (p3179 : Option Addr) (n3180 : Int) (n3181 : Int) (n3182 : Int) (n3183 : Int) (n3185 : Int) (n3186 : Int) (p3184 : Nat) (p3187 : Nat) (g m : H), Md g0 m0 g m [lo p3184 [.int .i64 n3181, .int .i64 n3182, .int .i64 n3183], lo p3187 [.int .i64 n3185, .int .i64 n3186]] → impl_Sched_step_M_l5 kx11_2 N p3179 n3180 n3182 n3183 m → impl_Sched_step_l5 kx11_1 N p3179 p3184 p3187 n3180 g := by
  intro N
  induction N with
  | zero => intro p3179 n3180 n3181 n3182 n3183 n3185 n3186 p3184 p3187 g m R h0; exact h0.elim
  | succ N ih =>
    intro p3179 n3180 n3181 n3182 n3183 n3185 n3186 p3184 p3187 g m R
    rw [impl_Sched_step_M_l5, impl_Sched_step_l5]
    exact (d_nz fun b3188 o3189 =>
  (d_ldL R fun a3190 l3190 c3190 =>
  (d_if (d_nz fun b3191 o3192 =>
  (d_ldL R fun a3193 l3193 c3193 =>
  (d_req (d_nz fun b3194 o3195 =>
  (d_ldI R fun n3196 =>
  (p_ldI R rfl (d_if (ih p3179 (IntKind.i64.wrap (n3180 + 1)) n3181 n3182 n3183 n3185 n3186 p3184 p3187 _ _ R.sub)
  (Hkx11 p3179 n3180 n3181 n3182 n3183 n3185 n3186 p3184 p3187 _ _ R.sub))))))))
  (Hkx11 p3179 n3180 n3181 n3182 n3183 n3185 n3186 p3184 p3187 _ _ R.sub))))

theorem impl_Sched_step_M_D {g0 m0 : H} {kr_1 : Nat → H → Prop} {kr_2 : Int → Int → H → Prop} (Hkr : ∀ (n200001 : Int) (n200002 : Int) (p200003 : Nat) (g m : H), Md g0 m0 g m [lo p200003 [.int .i64 n200001, .int .i64 n200002]] → kr_2 n200001 n200002 m → kr_1 p200003 g) : ∀ (p1001 : Option Addr) (n1002 : Int) (n1003 : Int) (n1004 : Int) (g m : H), Md g0 m0 g m [] → impl_Sched_step_M kr_2 p1001 n1002 n1003 n1004 m → impl_Sched_step kr_1 p1001 n1002 n1003 n1004 g := by
  intro p1001 n1002 n1003 n1004 g m R
  rw [impl_Sched_step_M, impl_Sched_step]
  exact (p_new R fun p1005 g R =>
  (p_new R fun p1006 g R =>
  (p_ldI R rfl (d_if (d_call R fun v1007 g m R =>
  (d_el_AI2E fun n1008 n1009 =>
  (p_stRow R (cs' := [.int .i64 n1008, .int .i64 n1009]) ⟨rfl, rfl, rfl⟩ fun g R =>
  (Hkr n1008 n1009 p1006 _ _ R.sub))))
  (p_ldI R rfl (d_if (d_call R fun v1010 g m R =>
  (d_el_AI2E fun n1011 n1012 =>
  (p_stRow R (cs' := [.int .i64 n1011, .int .i64 n1012]) ⟨rfl, rfl, rfl⟩ fun g R =>
  (Hkr n1011 n1012 p1006 _ _ R.sub))))
  (p_ldI R rfl (d_if (p_ldI R rfl (d_if (d_call R fun v1013 g m R =>
  (d_el_AI2E fun n1014 n1015 =>
  (p_stRow R (cs' := [.int .i64 n1014, .int .i64 n1015]) ⟨rfl, rfl, rfl⟩ fun g R =>
  (Hkr n1014 n1015 p1006 _ _ R.sub))))
  (p_ldI R rfl (d_if (d_call R fun v1016 g m R =>
  (d_el_AI2E fun n1017 n1018 =>
  (p_stRow R (cs' := [.int .i64 n1017, .int .i64 n1018]) ⟨rfl, rfl, rfl⟩ fun g R =>
  (Hkr n1017 n1018 p1006 _ _ R.sub))))
  (d_nz fun b1019 o1020 =>
  (d_ldL R fun a1021 l1021 c1021 =>
  (d_if (d_call R fun v1022 g m R =>
  (d_el_AI2E fun n1023 n1024 =>
  (p_stRow R (cs' := [.int .i64 n1023, .int .i64 n1024]) ⟨rfl, rfl, rfl⟩ fun g R =>
  (Hkr n1023 n1024 p1006 _ _ R.sub))))
  (d_ex fun N => impl_Sched_step_M_l0_D (by exact fun p1025 n1026 n1027 n1028 n1029 n1031 n1032 p1030 p1033 g m R =>
  (d_nz fun b1034 o1035 =>
  (d_ldL R fun a1036 l1036 c1036 =>
  (d_req (d_req (d_append R fun a1037 l1037 c1037 g m R =>
  (p_ldI R rfl (d_nz fun b1038 o1039 =>
  (d_ldL R fun a1040 l1040 c1040 =>
  (d_req (d_req (d_new R fun b1041 g m R =>
  (d_cell R (d_append R fun a1042 l1042 c1042 g m R =>
  (d_cell R (d_append R fun a1043 l1043 c1043 g m R =>
  (d_nz fun b1044 o1045 =>
  (d_st R fun g m R =>
  (d_nz fun b1046 o1047 =>
  (d_ldL R fun a1048 l1048 c1048 =>
  (d_req (d_nz fun b1049 o1050 =>
  (d_call R fun v1051 g m R =>
  (d_el_TE (p_stRow R (cs' := [.int .i64 0, .int .i64 n1026]) ⟨rfl, rfl, rfl⟩ fun g R =>
  (Hkr 0 n1026 p1033 _ _ R.sub)))))))))))))))))))))))))) N p1001 0 n1002 n1003 n1004 0 0 p1005 p1006 _ _ R.sub))))))))
  (d_if (d_nz fun b1052 o1053 =>
  (d_ldL R fun a1054 l1054 c1054 =>
  (d_ex fun N => impl_Sched_step_M_l1_D (by exact fun p1055 n1056 n1057 p1058 g m R =>
  (d_call R fun v1059 g m R =>
  (d_asP fun p1060 =>
  (d_if (d_nz fun b1061 o1062 =>
  (d_ldI R fun n1063 =>
  (d_nz fun b1064 o1065 =>
  (d_ldI R fun n1066 =>
  (d_nz fun b1067 o1068 =>
  (d_st R fun g m R =>
  (d_nz fun b1069 o1070 =>
  (d_ldI R fun n1071 =>
  (d_if (d_call R fun v1072 g m R =>
  (d_el_TE (d_nz fun b1073 o1074 =>
  (d_ldI R fun n1075 =>
  (d_nz fun b1076 o1077 =>
  (d_st R fun g m R =>
  (impl_Sched_step_M_j2_D (by exact fun n1078 n1079 p1080 g m R =>
  (Hkr n1078 n1079 p1080 _ _ R.sub)) p1055 n1063 n1056 n1057 p1058 _ _ R.sub)))))))
  (d_nz fun b1081 o1082 =>
  (d_ldI R fun n1083 =>
  (d_nz fun b1084 o1085 =>
  (d_st R fun g m R =>
  (impl_Sched_step_M_j2_D (by exact fun n1086 n1087 p1088 g m R =>
  (Hkr n1086 n1087 p1088 _ _ R.sub)) p1055 n1063 n1056 n1057 p1058 _ _ R.sub))))))))))))))
  (impl_Sched_step_M_j2_D (by exact fun n1089 n1090 p1091 g m R =>
  (Hkr n1089 n1090 p1091 _ _ R.sub)) p1055 (-1) n1056 n1057 p1058 _ _ R.sub))))) N p1001 (l1054 : Nat) 0 0 0 p1006 _ _ R.sub)))
  (p_ldI R rfl (d_call R fun v1092 g m R =>
  (d_asP fun p1093 =>
  (d_if (d_call R fun v1094 g m R =>
  (d_el_AI2E fun n1095 n1096 =>
  (p_stRow R (cs' := [.int .i64 n1095, .int .i64 n1096]) ⟨rfl, rfl, rfl⟩ fun g R =>
  (Hkr n1095 n1096 p1006 _ _ R.sub))))
  (p_ldI R rfl (d_if (d_nz fun b1097 o1098 =>
  (d_ldL R fun a1099 l1099 c1099 =>
  (d_ex fun N => impl_Sched_step_M_l3_D (by exact fun p1100 a1101 l1101 c1101 n1102 n1103 n1104 n1106 n1107 p1105 p1108 g m R =>
  (d_nz fun b1109 o1110 =>
  (d_st R fun g m R =>
  (d_nz fun b1111 o1112 =>
  (d_ldL R fun a1113 l1113 c1113 =>
  (d_append R fun a1114 l1114 c1114 g m R =>
  (d_ex fun N => impl_Sched_step_M_l4_D (by exact fun n1115 n1116 p1117 g m R =>
  (d_call R fun v1118 g m R =>
  (d_el_AI2E fun n1119 n1120 =>
  (p_stRow R (cs' := [.int .i64 n1119, .int .i64 n1120]) ⟨rfl, rfl, rfl⟩ fun g R =>
  (Hkr n1119 n1120 p1117 _ _ R.sub))))) N p1100 a1114 l1114 c1114 (l1114 : Nat) 0 n1102 n1103 n1104 n1106 n1107 p1105 p1108 _ _ R.sub))))))) N p1001 none 0 0 a1099 l1099 c1099 (l1099 : Nat) 0 n1002 n1003 n1004 0 0 p1005 p1006 _ _ R.sub)))
  (d_if (p_ldI R rfl (d_if (d_call R fun v1121 g m R =>
  (d_el_AI2E fun n1122 n1123 =>
  (p_stRow R (cs' := [.int .i64 n1122, .int .i64 n1123]) ⟨rfl, rfl, rfl⟩ fun g R =>
  (Hkr n1122 n1123 p1006 _ _ R.sub))))
  (p_ldI R rfl (d_if (d_call R fun v1124 g m R =>
  (d_el_AI2E fun n1125 n1126 =>
  (p_stRow R (cs' := [.int .i64 n1125, .int .i64 n1126]) ⟨rfl, rfl, rfl⟩ fun g R =>
  (Hkr n1125 n1126 p1006 _ _ R.sub))))
  (d_nz fun b1127 o1128 =>
  (d_ldI R fun n1129 =>
  (d_if (d_call R fun v1130 g m R =>
  (d_el_AI2E fun n1131 n1132 =>
  (p_stRow R (cs' := [.int .i64 n1131, .int .i64 n1132]) ⟨rfl, rfl, rfl⟩ fun g R =>
  (Hkr n1131 n1132 p1006 _ _ R.sub))))
  (p_ldI R rfl (d_call R fun v1133 g m R =>
  (d_asP fun p1134 =>
  (d_if (d_ex fun N => impl_Sched_step_M_l5_D (by exact fun p1135 n1136 n1137 n1138 n1139 n1141 n1142 p1140 p1143 g m R =>
  (d_nz fun b1144 o1145 =>
  (d_ldL R fun a1146 l1146 c1146 =>
  (d_req (d_req (d_append R fun a1147 l1147 c1147 g m R =>
  (p_ldI R rfl (p_ldI R rfl (d_nz fun b1148 o1149 =>
  (d_ldL R fun a1150 l1150 c1150 =>
  (d_req (d_req (d_new R fun b1151 g m R =>
  (d_cell R (d_append R fun a1152 l1152 c1152 g m R =>
  (d_cell R (d_append R fun a1153 l1153 c1153 g m R =>
  (d_nz fun b1154 o1155 =>
  (d_st R fun g m R =>
  (d_call R fun v1156 g m R =>
  (d_el_AI2E fun n1157 n1158 =>
  (p_stRow R (cs' := [.int .i64 n1157, .int .i64 n1158]) ⟨rfl, rfl, rfl⟩ fun g R =>
  (Hkr n1157 n1158 p1143 _ _ R.sub))))))))))))))))))))))) N p1001 0 n1002 n1003 n1004 0 0 p1005 p1006 _ _ R.sub)
  (d_nz fun b1159 o1160 =>
  (d_ldI R fun n1161 =>
  (p_ldI R rfl (d_if (d_call R fun v1162 g m R =>
  (d_el_AI2E fun n1163 n1164 =>
  (p_stRow R (cs' := [.int .i64 n1163, .int .i64 n1164]) ⟨rfl, rfl, rfl⟩ fun g R =>
  (Hkr n1163 n1164 p1006 _ _ R.sub))))
  (d_nz fun b1165 o1166 =>
  (d_ldI R fun n1167 =>
  (p_ldI R rfl (d_call R fun v1168 g m R =>
  (d_asB fun t1169 =>
  (d_if (d_call R fun v1170 g m R =>
  (d_el_AI2E fun n1171 n1172 =>
  (p_stRow R (cs' := [.int .i64 n1171, .int .i64 n1172]) ⟨rfl, rfl, rfl⟩ fun g R =>
  (Hkr n1171 n1172 p1006 _ _ R.sub))))
  (p_ldI R rfl (d_nz fun b1173 o1174 =>
  (d_st R fun g m R =>
  (p_cell R rfl (d_nz fun b1175 o1176 =>
  (d_st R fun g m R =>
  (p_stRow R (cs' := [.int .i64 0, .int .i64 1]) ⟨rfl, rfl, rfl⟩ fun g R =>
  (Hkr 0 1 p1006 _ _ R.sub)))))))))))))))))))))))))))))
  (d_if (p_ldI R rfl (d_if (d_call R fun v1177 g m R =>
  (d_el_AI2E fun n1178 n1179 =>
  (p_stRow R (cs' := [.int .i64 n1178, .int .i64 n1179]) ⟨rfl, rfl, rfl⟩ fun g R =>
  (Hkr n1178 n1179 p1006 _ _ R.sub))))
  (p_ldI R rfl (d_if (d_call R fun v1180 g m R =>
  (d_el_AI2E fun n1181 n1182 =>
  (p_stRow R (cs' := [.int .i64 n1181, .int .i64 n1182]) ⟨rfl, rfl, rfl⟩ fun g R =>
  (Hkr n1181 n1182 p1006 _ _ R.sub))))
  (d_nz fun b1183 o1184 =>
  (d_ldI R fun n1185 =>
  (d_if (d_call R fun v1186 g m R =>
  (d_el_AI2E fun n1187 n1188 =>
  (p_stRow R (cs' := [.int .i64 n1187, .int .i64 n1188]) ⟨rfl, rfl, rfl⟩ fun g R =>
  (Hkr n1187 n1188 p1006 _ _ R.sub))))
  (p_ldI R rfl (d_call R fun v1189 g m R =>
  (d_asP fun p1190 =>
  (d_if (d_call R fun v1191 g m R =>
  (d_el_AI2E fun n1192 n1193 =>
  (p_stRow R (cs' := [.int .i64 n1192, .int .i64 n1193]) ⟨rfl, rfl, rfl⟩ fun g R =>
  (Hkr n1192 n1193 p1006 _ _ R.sub))))
  (d_nz fun b1194 o1195 =>
  (d_ldI R fun n1196 =>
  (p_ldI R rfl (d_if (d_call R fun v1197 g m R =>
  (d_el_AI2E fun n1198 n1199 =>
  (p_stRow R (cs' := [.int .i64 n1198, .int .i64 n1199]) ⟨rfl, rfl, rfl⟩ fun g R =>
  (Hkr n1198 n1199 p1006 _ _ R.sub))))
  (p_ldI R rfl (d_call R fun v1200 g m R =>
  (d_el_TE (d_call R fun v1201 g m R =>
  (d_el_AI2E fun n1202 n1203 =>
  (p_stRow R (cs' := [.int .i64 n1202, .int .i64 n1203]) ⟨rfl, rfl, rfl⟩ fun g R =>
  (Hkr n1202 n1203 p1006 _ _ R.sub))))))))))))))))))))))
  (d_if (p_ldI R rfl (d_if (d_call R fun v1204 g m R =>
  (d_el_AI2E fun n1205 n1206 =>
  (p_stRow R (cs' := [.int .i64 n1205, .int .i64 n1206]) ⟨rfl, rfl, rfl⟩ fun g R =>
  (Hkr n1205 n1206 p1006 _ _ R.sub))))
  (p_ldI R rfl (d_if (d_call R fun v1207 g m R =>
  (d_el_AI2E fun n1208 n1209 =>
  (p_stRow R (cs' := [.int .i64 n1208, .int .i64 n1209]) ⟨rfl, rfl, rfl⟩ fun g R =>
  (Hkr n1208 n1209 p1006 _ _ R.sub))))
  (d_nz fun b1210 o1211 =>
  (d_ldI R fun n1212 =>
  (d_if (d_call R fun v1213 g m R =>
  (d_el_AI2E fun n1214 n1215 =>
  (p_stRow R (cs' := [.int .i64 n1214, .int .i64 n1215]) ⟨rfl, rfl, rfl⟩ fun g R =>
  (Hkr n1214 n1215 p1006 _ _ R.sub))))
  (d_nz fun b1216 o1217 =>
  (d_ldI R fun n1218 =>
  (p_ldI R rfl (d_nz fun b1219 o1220 =>
  (d_st R fun g m R =>
  (p_cell R rfl (d_nz fun b1221 o1222 =>
  (d_st R fun g m R =>
  (d_call R fun v1223 g m R =>
  (d_el_AI2E fun n1224 n1225 =>
  (p_stRow R (cs' := [.int .i64 n1224, .int .i64 n1225]) ⟨rfl, rfl, rfl⟩ fun g R =>
  (Hkr n1224 n1225 p1006 _ _ R.sub)))))))))))))))))))
  (d_if (d_nz fun b1226 o1227 =>
  (d_ldI R fun n1228 =>
  (d_if (d_call R fun v1229 g m R =>
  (d_el_AI2E fun n1230 n1231 =>
  (p_stRow R (cs' := [.int .i64 n1230, .int .i64 n1231]) ⟨rfl, rfl, rfl⟩ fun g R =>
  (Hkr n1230 n1231 p1006 _ _ R.sub))))
  (d_call R fun v1232 g m R =>
  (d_el_TE (d_call R fun v1233 g m R =>
  (d_el_AI2E fun n1234 n1235 =>
  (p_stRow R (cs' := [.int .i64 n1234, .int .i64 n1235]) ⟨rfl, rfl, rfl⟩ fun g R =>
  (Hkr n1234 n1235 p1006 _ _ R.sub)))))))))
  (d_if (p_ldI R rfl (d_if (d_call R fun v1236 g m R =>
  (d_el_AI2E fun n1237 n1238 =>
  (p_stRow R (cs' := [.int .i64 n1237, .int .i64 n1238]) ⟨rfl, rfl, rfl⟩ fun g R =>
  (Hkr n1237 n1238 p1006 _ _ R.sub))))
  (p_ldI R rfl (d_if (d_call R fun v1239 g m R =>
  (d_el_AI2E fun n1240 n1241 =>
  (p_stRow R (cs' := [.int .i64 n1240, .int .i64 n1241]) ⟨rfl, rfl, rfl⟩ fun g R =>
  (Hkr n1240 n1241 p1006 _ _ R.sub))))
  (p_ldI R rfl (d_nz fun b1242 o1243 =>
  (d_st R fun g m R =>
  (d_call R fun v1244 g m R =>
  (d_el_AI2E fun n1245 n1246 =>
  (p_stRow R (cs' := [.int .i64 n1245, .int .i64 n1246]) ⟨rfl, rfl, rfl⟩ fun g R =>
  (Hkr n1245 n1246 p1006 _ _ R.sub)))))))))))
  (d_call R fun v1247 g m R =>
  (d_el_AI2E fun n1248 n1249 =>
  (p_stRow R (cs' := [.int .i64 n1248, .int .i64 n1249]) ⟨rfl, rfl, rfl⟩ fun g R =>
  (Hkr n1248 n1249 p1006 _ _ R.sub))))))))))))))))))))))))

theorem impl_Sched_step_M_call {p1 : Option Addr} {n2 : Int} {n3 : Int} {n4 : Int} {h : H} {K : Value → H → Prop} (hs : impl_Sched_step_M (fun n300001 n300002 h =>
  K (.agg ⟨[.int .i64 n300001, .int .i64 n300002]⟩) h) p1 n2 n3 n4 h) : callD Try.prog 21 ⟨[.pointer p1, .agg ⟨[.int .i64 n2, .int .i64 n3, .int .i64 n4]⟩]⟩ h K :=
  fun g r => impl_Sched_step_call (impl_Sched_step_M_D (by exact fun n300001 n300002 p300003 g m R =>
(p_row_I2 R rfl rfl (fun h => ⟨m, R.af, h⟩))) _ _ _ _ _ _ (Md.start r) hs)

noncomputable def code22 : Code := codeOf Try.f22
theorem body22 : Try.f22.body = some code22 := by kernel_rfl
def laws_eqThreadS_l0 (kx0 : H → Prop) (kr : Bool → H → Prop) : Nat → Option Addr → Nat → Nat → Option Addr → Nat → Nat → Int → H → Prop
 | 0, _, _, _, _, _, _, _, _ => False
 | N + 1, a_3, a_l3, a_c3, b_4, b_l4, b_c4, i_5, h =>
  ifB (decide ((i_5 : Int) < (a_l3 : Nat)))
  (req (0 ≤ (i_5 : Int) ∧ (i_5 : Int) < (a_l3 : Nat))
  (nz a_3 fun b6 o7 =>
  ldRow h b6 (o7 + i_5.toNat * 8) 0 [.int .i64, .int .i64, .int .i64, .int .i64, .int .i64, .int .i64, .int .i64, .int .i64] fun n8 n9 n10 n11 n12 n13 n14 n15 =>
  req (0 ≤ (i_5 : Int) ∧ (i_5 : Int) < (b_l4 : Nat))
  (nz b_4 fun b16 o17 =>
  ldRow h b16 (o17 + i_5.toNat * 8) 0 [.int .i64, .int .i64, .int .i64, .int .i64, .int .i64, .int .i64, .int .i64, .int .i64] fun n18 n19 n20 n21 n22 n23 n24 n25 =>
  callK Try.prog 46 ⟨[.agg ⟨[.int .i64 n8, .int .i64 n9, .int .i64 n10, .int .i64 n11, .int .i64 n12, .int .i64 n13, .int .i64 n14, .int .i64 n15]⟩, .agg ⟨[.int .i64 n18, .int .i64 n19, .int .i64 n20, .int .i64 n21, .int .i64 n22, .int .i64 n23, .int .i64 n24, .int .i64 n25]⟩]⟩ h fun v26 h =>
  asB v26 fun t27 =>
  ifB (!t27)
  (kr false h)
  (laws_eqThreadS_l0 kx0 kr N a_3 a_l3 a_c3 b_4 b_l4 b_c4 (IntKind.i64.wrap (i_5 + 1)) h))))
  (kx0 h)

def laws_eqThreadS (kr : Bool → H → Prop) (a_1 : Option Addr) (a_l1 : Nat) (a_c1 : Nat) (b_2 : Option Addr) (b_l2 : Nat) (b_c2 : Nat) (h : H) : Prop :=
  ifB (((a_l1 : Nat) : Int) != (b_l2 : Nat))
  (kr false h)
  (∃ M3, laws_eqThreadS_l0 (fun h =>
  kr true h) kr M3 a_1 a_l1 a_c1 b_2 b_l2 b_c2 0 h)

theorem laws_eqThreadS_l0_eq (K : Cont) (N : Nat) (a_3 : Option Addr) (a_l3 : Nat) (a_c3 : Nat) (b_4 : Option Addr) (b_l4 : Nat) (b_c4 : Nat) (i_5 : Int) (h : H) :
  laws_eqThreadS_l0 (curV [] (K (.exit 0))) (curV [(4, .bool)] (K .ret)) (N + 1) a_3 a_l3 a_c3 b_4 b_l4 b_c4 i_5 h = evC Try.prog 27 [] [] (sub code22 [true, true, false, true, false, false]) [(0, .slice a_3 a_l3 a_c3), (1, .slice b_4 b_l4 b_c4), (5, .int .i64 i_5)] h ((outsOf none [(0, [])] (some [(4, .bool)]) K).loop [(0, .slice), (1, .slice), (5, .int .i64)] (laws_eqThreadS_l0 (curV [] (K (.exit 0))) (curV [(4, .bool)] (K .ret)) N)).K := by kernel_rfl

def laws_eqThreadS_l0_F : PT := mkL [(0, .slice), (1, .slice), (5, .int .i64)] fun K N => laws_eqThreadS_l0 (curV [] (K (.exit 0))) (curV [(4, .bool)] (K .ret)) N

theorem laws_eqThreadS_l0_V : Valid Try.prog 27 (sub code22 [true, true, false, true, false]) laws_eqThreadS_l0_F :=
  loop_at (code22) [true, true, false, true, false] (loop_piece (c := (sub code22 [true, true, false, true, false, false])) mixed rows_nil (fun K => by intro a_3 a_l3 a_c3 b_4 b_l4 b_c4 i_5 h hd; exact hd) (fun K N => by intro a_3 a_l3 a_c3 b_4 b_l4 b_c4 i_5 h hd; exact (laws_eqThreadS_l0_eq K N a_3 a_l3 a_c3 b_4 b_l4 b_c4 i_5 h) ▸ hd))

theorem laws_eqThreadS_eq (K : Cont) (a_1 : Option Addr) (a_l1 : Nat) (a_c1 : Nat) (b_2 : Option Addr) (b_l2 : Nat) (b_c2 : Nat) (h : H) :
  laws_eqThreadS (curV [(4, .bool)] (K .ret)) a_1 a_l1 a_c1 b_2 b_l2 b_c2 h = evC Try.prog 27 [([false, false, true, false, true, true], laws_eqThreadS_l0_F)] [] code22 [(0, .slice a_1 a_l1 a_c1), (1, .slice b_2 b_l2 b_c2)] h (outsOf none [] (some [(4, .bool)]) K).K := by kernel_rfl

def laws_eqThreadS_F : PT := mkF [(0, .slice), (1, .slice)] fun K => laws_eqThreadS (curV [(4, .bool)] (K .ret))

theorem laws_eqThreadS_V : Valid Try.prog 27 code22 laws_eqThreadS_F :=
  piece mixed (rows_cons (q' := [true, true, false, true, false]) laws_eqThreadS_l0_V rfl rows_nil) (fun K => by intro a_1 a_l1 a_c1 b_2 b_l2 b_c2 h hd; exact (laws_eqThreadS_eq K a_1 a_l1 a_c1 b_2 b_l2 b_c2 h) ▸ hd)

theorem laws_eqThreadS_c0 (a_1 : Option Addr) (a_l1 : Nat) (a_c1 : Nat) (b_2 : Option Addr) (b_l2 : Nat) (b_c2 : Nat) (h : H) (K : Value → H → Prop) :
  laws_eqThreadS (fun t100001 h =>
  K (.bool t100001) h) a_1 a_l1 a_c1 b_2 b_l2 b_c2 h = callF Try.prog Try.f22.results.toList laws_eqThreadS_F [.slice a_1 a_l1 a_c1, .slice b_2 b_l2 b_c2] h K := by kernel_rfl

theorem laws_eqThreadS_call {a_1 : Option Addr} {a_l1 : Nat} {a_c1 : Nat} {b_2 : Option Addr} {b_l2 : Nat} {b_c2 : Nat} {h : H} {K : Value → H → Prop} (hs : laws_eqThreadS (fun t100001 h =>
  K (.bool t100001) h) a_1 a_l1 a_c1 b_2 b_l2 b_c2 h) : callK Try.prog 22 ⟨[.slice a_1 a_l1 a_c1, .slice b_2 b_l2 b_c2]⟩ h K :=
  func_calls Try.func22 body22 laws_eqThreadS_V (Nat.le_of_ble_eq_true (by kernel_rfl)) (laws_eqThreadS_c0 a_1 a_l1 a_c1 b_2 b_l2 b_c2 h K ▸ hs)

def laws_eqThreadS_M_l0 (kx0 : H → Prop) (kr : Bool → H → Prop) : Nat → Option Addr → Nat → Option Addr → Nat → Int → H → Prop
 | 0, _, _, _, _, _, _ => False
 | N + 1, a_3, a_l3, b_4, b_l4, i_5, h =>
  ifB (decide ((i_5 : Int) < (a_l3 : Nat)))
  (req (0 ≤ (i_5 : Int) ∧ (i_5 : Int) < (a_l3 : Nat))
  (nz a_3 fun b6 o7 =>
  ldRow h b6 (o7 + i_5.toNat * 8) 0 [.int .i64, .int .i64, .int .i64, .int .i64, .int .i64, .int .i64, .int .i64, .int .i64] fun n8 n9 n10 n11 n12 n13 n14 n15 =>
  req (0 ≤ (i_5 : Int) ∧ (i_5 : Int) < (b_l4 : Nat))
  (nz b_4 fun b16 o17 =>
  ldRow h b16 (o17 + i_5.toNat * 8) 0 [.int .i64, .int .i64, .int .i64, .int .i64, .int .i64, .int .i64, .int .i64, .int .i64] fun n18 n19 n20 n21 n22 n23 n24 n25 =>
  callD Try.prog 46 ⟨[.agg ⟨[.int .i64 n8, .int .i64 n9, .int .i64 n10, .int .i64 n11, .int .i64 n12, .int .i64 n13, .int .i64 n14, .int .i64 n15]⟩, .agg ⟨[.int .i64 n18, .int .i64 n19, .int .i64 n20, .int .i64 n21, .int .i64 n22, .int .i64 n23, .int .i64 n24, .int .i64 n25]⟩]⟩ h fun v26 h =>
  asB v26 fun t27 =>
  ifB (!t27)
  (kr false h)
  (laws_eqThreadS_M_l0 kx0 kr N a_3 a_l3 b_4 b_l4 (IntKind.i64.wrap (i_5 + 1)) h))))
  (kx0 h)

def laws_eqThreadS_M (kr : Bool → H → Prop) (a_1 : Option Addr) (a_l1 : Nat) (a_c1 : Nat) (b_2 : Option Addr) (b_l2 : Nat) (b_c2 : Nat) (h : H) : Prop :=
  ifB (((a_l1 : Nat) : Int) != (b_l2 : Nat))
  (kr false h)
  (∃ M3, laws_eqThreadS_M_l0 (fun h =>
  kr true h) kr M3 a_1 a_l1 b_2 b_l2 0 h)

theorem laws_eqThreadS_M_l0_D {g0 m0 : H} {kx0_1 : H → Prop} {kx0_2 : H → Prop} (Hkx0 : ∀ (g m : H), Md g0 m0 g m [] → kx0_2 m → kx0_1 g)
  {kr_1 : Bool → H → Prop} {kr_2 : Bool → H → Prop} (Hkr : ∀ (t200001 : Bool) (g m : H), Md g0 m0 g m [] → kr_2 t200001 m → kr_1 t200001 g) : ∀ (N : Nat) (a_1003 : Option Addr) (a_l1003 : Nat) (a_c1003 : Nat) (b_1004 : Option Addr) (b_l1004 : Nat) (b_c1004 : Nat) (i_1005 : Int) (g m : H), Md g0 m0 g m [] → laws_eqThreadS_M_l0 kx0_2 kr_2 N a_1003 a_l1003 b_1004 b_l1004 i_1005 m → laws_eqThreadS_l0 kx0_1 kr_1 N a_1003 a_l1003 a_c1003 b_1004 b_l1004 b_c1004 i_1005 g := by
  intro N
  induction N with
  | zero => intro a_1003 a_l1003 a_c1003 b_1004 b_l1004 b_c1004 i_1005 g m R h0; exact h0.elim
  | succ N ih =>
    intro a_1003 a_l1003 a_c1003 b_1004 b_l1004 b_c1004 i_1005 g m R
    rw [laws_eqThreadS_M_l0, laws_eqThreadS_l0]
    exact (d_if (d_req (d_nz fun b1006 o1007 =>
  (d_row_I8 R fun n1008 n1009 n1010 n1011 n1012 n1013 n1014 n1015 =>
  (d_req (d_nz fun b1016 o1017 =>
  (d_row_I8 R fun n1018 n1019 n1020 n1021 n1022 n1023 n1024 n1025 =>
  (d_call R fun v1026 g m R =>
  (d_asB fun t1027 =>
  (d_if (Hkr false _ _ R.sub)
  (ih a_1003 a_l1003 a_c1003 b_1004 b_l1004 b_c1004 (IntKind.i64.wrap (i_1005 + 1)) _ _ R.sub))))))))))
  (Hkx0 _ _ R.sub))

theorem laws_eqThreadS_M_D {g0 m0 : H} {kr_1 : Bool → H → Prop} {kr_2 : Bool → H → Prop} (Hkr : ∀ (t200001 : Bool) (g m : H), Md g0 m0 g m [] → kr_2 t200001 m → kr_1 t200001 g) : ∀ (a_1001 : Option Addr) (a_l1001 : Nat) (a_c1001 : Nat) (b_1002 : Option Addr) (b_l1002 : Nat) (b_c1002 : Nat) (g m : H), Md g0 m0 g m [] → laws_eqThreadS_M kr_2 a_1001 a_l1001 a_c1001 b_1002 b_l1002 b_c1002 m → laws_eqThreadS kr_1 a_1001 a_l1001 a_c1001 b_1002 b_l1002 b_c1002 g := by
  intro a_1001 a_l1001 a_c1001 b_1002 b_l1002 b_c1002 g m R
  rw [laws_eqThreadS_M, laws_eqThreadS]
  exact (d_if (Hkr false _ _ R.sub)
  (d_ex fun N => laws_eqThreadS_M_l0_D (by exact fun g m R =>
  (Hkr true _ _ R.sub))
  (by exact fun t1003 g m R =>
  (Hkr t1003 _ _ R.sub)) N a_1001 a_l1001 a_c1001 b_1002 b_l1002 b_c1002 0 _ _ R.sub))

theorem laws_eqThreadS_M_call {a_1 : Option Addr} {a_l1 : Nat} {a_c1 : Nat} {b_2 : Option Addr} {b_l2 : Nat} {b_c2 : Nat} {h : H} {K : Value → H → Prop} (hs : laws_eqThreadS_M (fun t300001 h =>
  K (.bool t300001) h) a_1 a_l1 a_c1 b_2 b_l2 b_c2 h) : callD Try.prog 22 ⟨[.slice a_1 a_l1 a_c1, .slice b_2 b_l2 b_c2]⟩ h K :=
  fun g r => laws_eqThreadS_call (laws_eqThreadS_M_D (by exact fun t300001 g m R =>
(fun h => ⟨m, R.af, h⟩)) _ _ _ _ _ _ _ _ (Md.start r) hs)

noncomputable def code23 : Code := codeOf Try.f23
theorem body23 : Try.f23.body = some code23 := by kernel_rfl
def laws_eqLockS_l0 (kx0 : H → Prop) (kr : Bool → H → Prop) : Nat → Option Addr → Nat → Nat → Option Addr → Nat → Nat → Int → H → Prop
 | 0, _, _, _, _, _, _, _, _ => False
 | N + 1, a_3, a_l3, a_c3, b_4, b_l4, b_c4, i_5, h =>
  ifB (decide ((i_5 : Int) < (a_l3 : Nat)))
  (req (0 ≤ (i_5 : Int) ∧ (i_5 : Int) < (a_l3 : Nat))
  (nz a_3 fun b6 o7 =>
  ldRow h b6 (o7 + i_5.toNat * 2) 0 [.int .i64, .int .i64] fun n8 n9 =>
  req (0 ≤ (i_5 : Int) ∧ (i_5 : Int) < (b_l4 : Nat))
  (nz b_4 fun b10 o11 =>
  ldRow h b10 (o11 + i_5.toNat * 2) 0 [.int .i64, .int .i64] fun n12 n13 =>
  callK Try.prog 47 ⟨[.agg ⟨[.int .i64 n8, .int .i64 n9]⟩, .agg ⟨[.int .i64 n12, .int .i64 n13]⟩]⟩ h fun v14 h =>
  asB v14 fun t15 =>
  ifB (!t15)
  (kr false h)
  (laws_eqLockS_l0 kx0 kr N a_3 a_l3 a_c3 b_4 b_l4 b_c4 (IntKind.i64.wrap (i_5 + 1)) h))))
  (kx0 h)

def laws_eqLockS (kr : Bool → H → Prop) (a_1 : Option Addr) (a_l1 : Nat) (a_c1 : Nat) (b_2 : Option Addr) (b_l2 : Nat) (b_c2 : Nat) (h : H) : Prop :=
  ifB (((a_l1 : Nat) : Int) != (b_l2 : Nat))
  (kr false h)
  (∃ M3, laws_eqLockS_l0 (fun h =>
  kr true h) kr M3 a_1 a_l1 a_c1 b_2 b_l2 b_c2 0 h)

theorem laws_eqLockS_l0_eq (K : Cont) (N : Nat) (a_3 : Option Addr) (a_l3 : Nat) (a_c3 : Nat) (b_4 : Option Addr) (b_l4 : Nat) (b_c4 : Nat) (i_5 : Int) (h : H) :
  laws_eqLockS_l0 (curV [] (K (.exit 0))) (curV [(4, .bool)] (K .ret)) (N + 1) a_3 a_l3 a_c3 b_4 b_l4 b_c4 i_5 h = evC Try.prog 27 [] [] (sub code23 [true, true, false, true, false, false]) [(0, .slice a_3 a_l3 a_c3), (1, .slice b_4 b_l4 b_c4), (5, .int .i64 i_5)] h ((outsOf none [(0, [])] (some [(4, .bool)]) K).loop [(0, .slice), (1, .slice), (5, .int .i64)] (laws_eqLockS_l0 (curV [] (K (.exit 0))) (curV [(4, .bool)] (K .ret)) N)).K := by kernel_rfl

def laws_eqLockS_l0_F : PT := mkL [(0, .slice), (1, .slice), (5, .int .i64)] fun K N => laws_eqLockS_l0 (curV [] (K (.exit 0))) (curV [(4, .bool)] (K .ret)) N

theorem laws_eqLockS_l0_V : Valid Try.prog 27 (sub code23 [true, true, false, true, false]) laws_eqLockS_l0_F :=
  loop_at (code23) [true, true, false, true, false] (loop_piece (c := (sub code23 [true, true, false, true, false, false])) mixed rows_nil (fun K => by intro a_3 a_l3 a_c3 b_4 b_l4 b_c4 i_5 h hd; exact hd) (fun K N => by intro a_3 a_l3 a_c3 b_4 b_l4 b_c4 i_5 h hd; exact (laws_eqLockS_l0_eq K N a_3 a_l3 a_c3 b_4 b_l4 b_c4 i_5 h) ▸ hd))

theorem laws_eqLockS_eq (K : Cont) (a_1 : Option Addr) (a_l1 : Nat) (a_c1 : Nat) (b_2 : Option Addr) (b_l2 : Nat) (b_c2 : Nat) (h : H) :
  laws_eqLockS (curV [(4, .bool)] (K .ret)) a_1 a_l1 a_c1 b_2 b_l2 b_c2 h = evC Try.prog 27 [([false, false, true, false, true, true], laws_eqLockS_l0_F)] [] code23 [(0, .slice a_1 a_l1 a_c1), (1, .slice b_2 b_l2 b_c2)] h (outsOf none [] (some [(4, .bool)]) K).K := by kernel_rfl

def laws_eqLockS_F : PT := mkF [(0, .slice), (1, .slice)] fun K => laws_eqLockS (curV [(4, .bool)] (K .ret))

theorem laws_eqLockS_V : Valid Try.prog 27 code23 laws_eqLockS_F :=
  piece mixed (rows_cons (q' := [true, true, false, true, false]) laws_eqLockS_l0_V rfl rows_nil) (fun K => by intro a_1 a_l1 a_c1 b_2 b_l2 b_c2 h hd; exact (laws_eqLockS_eq K a_1 a_l1 a_c1 b_2 b_l2 b_c2 h) ▸ hd)

theorem laws_eqLockS_c0 (a_1 : Option Addr) (a_l1 : Nat) (a_c1 : Nat) (b_2 : Option Addr) (b_l2 : Nat) (b_c2 : Nat) (h : H) (K : Value → H → Prop) :
  laws_eqLockS (fun t100001 h =>
  K (.bool t100001) h) a_1 a_l1 a_c1 b_2 b_l2 b_c2 h = callF Try.prog Try.f23.results.toList laws_eqLockS_F [.slice a_1 a_l1 a_c1, .slice b_2 b_l2 b_c2] h K := by kernel_rfl

theorem laws_eqLockS_call {a_1 : Option Addr} {a_l1 : Nat} {a_c1 : Nat} {b_2 : Option Addr} {b_l2 : Nat} {b_c2 : Nat} {h : H} {K : Value → H → Prop} (hs : laws_eqLockS (fun t100001 h =>
  K (.bool t100001) h) a_1 a_l1 a_c1 b_2 b_l2 b_c2 h) : callK Try.prog 23 ⟨[.slice a_1 a_l1 a_c1, .slice b_2 b_l2 b_c2]⟩ h K :=
  func_calls Try.func23 body23 laws_eqLockS_V (Nat.le_of_ble_eq_true (by kernel_rfl)) (laws_eqLockS_c0 a_1 a_l1 a_c1 b_2 b_l2 b_c2 h K ▸ hs)

def laws_eqLockS_M_l0 (kx0 : H → Prop) (kr : Bool → H → Prop) : Nat → Option Addr → Nat → Option Addr → Nat → Int → H → Prop
 | 0, _, _, _, _, _, _ => False
 | N + 1, a_3, a_l3, b_4, b_l4, i_5, h =>
  ifB (decide ((i_5 : Int) < (a_l3 : Nat)))
  (req (0 ≤ (i_5 : Int) ∧ (i_5 : Int) < (a_l3 : Nat))
  (nz a_3 fun b6 o7 =>
  ldRow h b6 (o7 + i_5.toNat * 2) 0 [.int .i64, .int .i64] fun n8 n9 =>
  req (0 ≤ (i_5 : Int) ∧ (i_5 : Int) < (b_l4 : Nat))
  (nz b_4 fun b10 o11 =>
  ldRow h b10 (o11 + i_5.toNat * 2) 0 [.int .i64, .int .i64] fun n12 n13 =>
  callD Try.prog 47 ⟨[.agg ⟨[.int .i64 n8, .int .i64 n9]⟩, .agg ⟨[.int .i64 n12, .int .i64 n13]⟩]⟩ h fun v14 h =>
  asB v14 fun t15 =>
  ifB (!t15)
  (kr false h)
  (laws_eqLockS_M_l0 kx0 kr N a_3 a_l3 b_4 b_l4 (IntKind.i64.wrap (i_5 + 1)) h))))
  (kx0 h)

def laws_eqLockS_M (kr : Bool → H → Prop) (a_1 : Option Addr) (a_l1 : Nat) (a_c1 : Nat) (b_2 : Option Addr) (b_l2 : Nat) (b_c2 : Nat) (h : H) : Prop :=
  ifB (((a_l1 : Nat) : Int) != (b_l2 : Nat))
  (kr false h)
  (∃ M3, laws_eqLockS_M_l0 (fun h =>
  kr true h) kr M3 a_1 a_l1 b_2 b_l2 0 h)

theorem laws_eqLockS_M_l0_D {g0 m0 : H} {kx0_1 : H → Prop} {kx0_2 : H → Prop} (Hkx0 : ∀ (g m : H), Md g0 m0 g m [] → kx0_2 m → kx0_1 g)
  {kr_1 : Bool → H → Prop} {kr_2 : Bool → H → Prop} (Hkr : ∀ (t200001 : Bool) (g m : H), Md g0 m0 g m [] → kr_2 t200001 m → kr_1 t200001 g) : ∀ (N : Nat) (a_1003 : Option Addr) (a_l1003 : Nat) (a_c1003 : Nat) (b_1004 : Option Addr) (b_l1004 : Nat) (b_c1004 : Nat) (i_1005 : Int) (g m : H), Md g0 m0 g m [] → laws_eqLockS_M_l0 kx0_2 kr_2 N a_1003 a_l1003 b_1004 b_l1004 i_1005 m → laws_eqLockS_l0 kx0_1 kr_1 N a_1003 a_l1003 a_c1003 b_1004 b_l1004 b_c1004 i_1005 g := by
  intro N
  induction N with
  | zero => intro a_1003 a_l1003 a_c1003 b_1004 b_l1004 b_c1004 i_1005 g m R h0; exact h0.elim
  | succ N ih =>
    intro a_1003 a_l1003 a_c1003 b_1004 b_l1004 b_c1004 i_1005 g m R
    rw [laws_eqLockS_M_l0, laws_eqLockS_l0]
    exact (d_if (d_req (d_nz fun b1006 o1007 =>
  (d_row_I2 R fun n1008 n1009 =>
  (d_req (d_nz fun b1010 o1011 =>
  (d_row_I2 R fun n1012 n1013 =>
  (d_call R fun v1014 g m R =>
  (d_asB fun t1015 =>
  (d_if (Hkr false _ _ R.sub)
  (ih a_1003 a_l1003 a_c1003 b_1004 b_l1004 b_c1004 (IntKind.i64.wrap (i_1005 + 1)) _ _ R.sub))))))))))
  (Hkx0 _ _ R.sub))

theorem laws_eqLockS_M_D {g0 m0 : H} {kr_1 : Bool → H → Prop} {kr_2 : Bool → H → Prop} (Hkr : ∀ (t200001 : Bool) (g m : H), Md g0 m0 g m [] → kr_2 t200001 m → kr_1 t200001 g) : ∀ (a_1001 : Option Addr) (a_l1001 : Nat) (a_c1001 : Nat) (b_1002 : Option Addr) (b_l1002 : Nat) (b_c1002 : Nat) (g m : H), Md g0 m0 g m [] → laws_eqLockS_M kr_2 a_1001 a_l1001 a_c1001 b_1002 b_l1002 b_c1002 m → laws_eqLockS kr_1 a_1001 a_l1001 a_c1001 b_1002 b_l1002 b_c1002 g := by
  intro a_1001 a_l1001 a_c1001 b_1002 b_l1002 b_c1002 g m R
  rw [laws_eqLockS_M, laws_eqLockS]
  exact (d_if (Hkr false _ _ R.sub)
  (d_ex fun N => laws_eqLockS_M_l0_D (by exact fun g m R =>
  (Hkr true _ _ R.sub))
  (by exact fun t1003 g m R =>
  (Hkr t1003 _ _ R.sub)) N a_1001 a_l1001 a_c1001 b_1002 b_l1002 b_c1002 0 _ _ R.sub))

theorem laws_eqLockS_M_call {a_1 : Option Addr} {a_l1 : Nat} {a_c1 : Nat} {b_2 : Option Addr} {b_l2 : Nat} {b_c2 : Nat} {h : H} {K : Value → H → Prop} (hs : laws_eqLockS_M (fun t300001 h =>
  K (.bool t300001) h) a_1 a_l1 a_c1 b_2 b_l2 b_c2 h) : callD Try.prog 23 ⟨[.slice a_1 a_l1 a_c1, .slice b_2 b_l2 b_c2]⟩ h K :=
  fun g r => laws_eqLockS_call (laws_eqLockS_M_D (by exact fun t300001 g m R =>
(fun h => ⟨m, R.af, h⟩)) _ _ _ _ _ _ _ _ (Md.start r) hs)

noncomputable def code24 : Code := codeOf Try.f24
theorem body24 : Try.f24.body = some code24 := by kernel_rfl
def laws_markThreadS_l0 (kx0 : Int → H → Prop) : Nat → Option Addr → Nat → Nat → Int → Int → H → Prop
 | 0, _, _, _, _, _, _ => False
 | N + 1, a3, l3, c3, n4, n5, h =>
  ifB (decide ((n5 : Int) < (l3 : Nat)))
  (req (0 ≤ (n5 : Int) ∧ (n5 : Int) < (l3 : Nat))
  (nz a3 fun b6 o7 =>
  st h b6 (o7 + n5.toNat * 8) (.int .i64 n4) fun h =>
  req (0 ≤ (n5 : Int) ∧ (n5 : Int) < (l3 : Nat))
  (nz a3 fun b8 o9 =>
  st h b8 ((o9 + n5.toNat * 8) + 1) (.int .i64 (IntKind.i64.wrap (n4 + 1))) fun h =>
  req (0 ≤ (n5 : Int) ∧ (n5 : Int) < (l3 : Nat))
  (nz a3 fun b10 o11 =>
  st h b10 ((o11 + n5.toNat * 8) + 2) (.int .i64 (IntKind.i64.wrap ((IntKind.i64.wrap (n4 + 1)) + 1))) fun h =>
  req (0 ≤ (n5 : Int) ∧ (n5 : Int) < (l3 : Nat))
  (nz a3 fun b12 o13 =>
  st h b12 ((o13 + n5.toNat * 8) + 3) (.int .i64 (IntKind.i64.wrap ((IntKind.i64.wrap ((IntKind.i64.wrap (n4 + 1)) + 1)) + 1))) fun h =>
  req (0 ≤ (n5 : Int) ∧ (n5 : Int) < (l3 : Nat))
  (nz a3 fun b14 o15 =>
  st h b14 ((o15 + n5.toNat * 8) + 4) (.int .i64 (IntKind.i64.wrap ((IntKind.i64.wrap ((IntKind.i64.wrap ((IntKind.i64.wrap (n4 + 1)) + 1)) + 1)) + 1))) fun h =>
  req (0 ≤ (n5 : Int) ∧ (n5 : Int) < (l3 : Nat))
  (nz a3 fun b16 o17 =>
  st h b16 ((o17 + n5.toNat * 8) + 5) (.int .i64 (IntKind.i64.wrap ((IntKind.i64.wrap ((IntKind.i64.wrap ((IntKind.i64.wrap ((IntKind.i64.wrap (n4 + 1)) + 1)) + 1)) + 1)) + 1))) fun h =>
  req (0 ≤ (n5 : Int) ∧ (n5 : Int) < (l3 : Nat))
  (nz a3 fun b18 o19 =>
  st h b18 ((o19 + n5.toNat * 8) + 6) (.int .i64 (IntKind.i64.wrap ((IntKind.i64.wrap ((IntKind.i64.wrap ((IntKind.i64.wrap ((IntKind.i64.wrap ((IntKind.i64.wrap (n4 + 1)) + 1)) + 1)) + 1)) + 1)) + 1))) fun h =>
  req (0 ≤ (n5 : Int) ∧ (n5 : Int) < (l3 : Nat))
  (nz a3 fun b20 o21 =>
  st h b20 ((o21 + n5.toNat * 8) + 7) (.int .i64 (IntKind.i64.wrap ((IntKind.i64.wrap ((IntKind.i64.wrap ((IntKind.i64.wrap ((IntKind.i64.wrap ((IntKind.i64.wrap ((IntKind.i64.wrap (n4 + 1)) + 1)) + 1)) + 1)) + 1)) + 1)) + 1))) fun h =>
  laws_markThreadS_l0 kx0 N a3 l3 c3 (IntKind.i64.wrap ((IntKind.i64.wrap ((IntKind.i64.wrap ((IntKind.i64.wrap ((IntKind.i64.wrap ((IntKind.i64.wrap ((IntKind.i64.wrap ((IntKind.i64.wrap (n4 + 1)) + 1)) + 1)) + 1)) + 1)) + 1)) + 1)) + 1)) (IntKind.i64.wrap (n5 + 1)) h)))))))))
  (kx0 n4 h)

def laws_markThreadS (kr : Int → H → Prop) (a1 : Option Addr) (l1 : Nat) (c1 : Nat) (n2 : Int) (h : H) : Prop :=
  ∃ M4, laws_markThreadS_l0 (fun n3 h =>
  kr n3 h) M4 a1 l1 c1 n2 0 h

theorem laws_markThreadS_l0_eq (K : Cont) (N : Nat) (a3 : Option Addr) (l3 : Nat) (c3 : Nat) (n4 : Int) (n5 : Int) (h : H) :
  laws_markThreadS_l0 (curV [(1, .int .i64)] (K (.exit 0))) (N + 1) a3 l3 c3 n4 n5 h = evC Try.prog 69 [] [] (sub code24 [true, false, true, false, false]) [(0, .slice a3 l3 c3), (1, .int .i64 n4), (5, .int .i64 n5)] h ((outsOf none [(0, [(1, .int .i64)])] none K).loop [(0, .slice), (1, .int .i64), (5, .int .i64)] (laws_markThreadS_l0 (curV [(1, .int .i64)] (K (.exit 0))) N)).K := by kernel_rfl

def laws_markThreadS_l0_F : PT := mkL [(0, .slice), (1, .int .i64), (5, .int .i64)] fun K N => laws_markThreadS_l0 (curV [(1, .int .i64)] (K (.exit 0))) N

theorem laws_markThreadS_l0_V : Valid Try.prog 69 (sub code24 [true, false, true, false]) laws_markThreadS_l0_F :=
  loop_at (code24) [true, false, true, false] (loop_piece (c := (sub code24 [true, false, true, false, false])) mixed rows_nil (fun K => by intro a3 l3 c3 n4 n5 h hd; exact hd) (fun K N => by intro a3 l3 c3 n4 n5 h hd; exact (laws_markThreadS_l0_eq K N a3 l3 c3 n4 n5 h) ▸ hd))

theorem laws_markThreadS_eq (K : Cont) (a1 : Option Addr) (l1 : Nat) (c1 : Nat) (n2 : Int) (h : H) :
  laws_markThreadS (curV [(4, .int .i64)] (K .ret)) a1 l1 c1 n2 h = evC Try.prog 69 [([false, false, true, false, true], laws_markThreadS_l0_F)] [] code24 [(0, .slice a1 l1 c1), (1, .int .i64 n2)] h (outsOf none [] (some [(4, .int .i64)]) K).K := by kernel_rfl

def laws_markThreadS_F : PT := mkF [(0, .slice), (1, .int .i64)] fun K => laws_markThreadS (curV [(4, .int .i64)] (K .ret))

theorem laws_markThreadS_V : Valid Try.prog 69 code24 laws_markThreadS_F :=
  piece mixed (rows_cons (q' := [true, false, true, false]) laws_markThreadS_l0_V rfl rows_nil) (fun K => by intro a1 l1 c1 n2 h hd; exact (laws_markThreadS_eq K a1 l1 c1 n2 h) ▸ hd)

theorem laws_markThreadS_c0 (a1 : Option Addr) (l1 : Nat) (c1 : Nat) (n2 : Int) (h : H) (K : Value → H → Prop) :
  laws_markThreadS (fun n100001 h =>
  K (.int .i64 n100001) h) a1 l1 c1 n2 h = callF Try.prog Try.f24.results.toList laws_markThreadS_F [.slice a1 l1 c1, .int .i64 n2] h K := by kernel_rfl

theorem laws_markThreadS_call {a1 : Option Addr} {l1 : Nat} {c1 : Nat} {n2 : Int} {h : H} {K : Value → H → Prop} (hs : laws_markThreadS (fun n100001 h =>
  K (.int .i64 n100001) h) a1 l1 c1 n2 h) : callK Try.prog 24 ⟨[.slice a1 l1 c1, .int .i64 n2]⟩ h K :=
  func_calls Try.func24 body24 laws_markThreadS_V (Nat.le_of_ble_eq_true (by kernel_rfl)) (laws_markThreadS_c0 a1 l1 c1 n2 h K ▸ hs)

def laws_markThreadS_M_l0 (kx0 : Int → H → Prop) : Nat → Option Addr → Nat → Int → Int → H → Prop
 | 0, _, _, _, _, _ => False
 | N + 1, a3, l3, n4, n5, h =>
  ifB (decide ((n5 : Int) < (l3 : Nat)))
  (req (0 ≤ (n5 : Int) ∧ (n5 : Int) < (l3 : Nat))
  (nz a3 fun b6 o7 =>
  st h b6 (o7 + n5.toNat * 8) (.int .i64 n4) fun h =>
  req (0 ≤ (n5 : Int) ∧ (n5 : Int) < (l3 : Nat))
  (nz a3 fun b8 o9 =>
  st h b8 ((o9 + n5.toNat * 8) + 1) (.int .i64 (IntKind.i64.wrap (n4 + 1))) fun h =>
  req (0 ≤ (n5 : Int) ∧ (n5 : Int) < (l3 : Nat))
  (nz a3 fun b10 o11 =>
  st h b10 ((o11 + n5.toNat * 8) + 2) (.int .i64 (IntKind.i64.wrap ((IntKind.i64.wrap (n4 + 1)) + 1))) fun h =>
  req (0 ≤ (n5 : Int) ∧ (n5 : Int) < (l3 : Nat))
  (nz a3 fun b12 o13 =>
  st h b12 ((o13 + n5.toNat * 8) + 3) (.int .i64 (IntKind.i64.wrap ((IntKind.i64.wrap ((IntKind.i64.wrap (n4 + 1)) + 1)) + 1))) fun h =>
  req (0 ≤ (n5 : Int) ∧ (n5 : Int) < (l3 : Nat))
  (nz a3 fun b14 o15 =>
  st h b14 ((o15 + n5.toNat * 8) + 4) (.int .i64 (IntKind.i64.wrap ((IntKind.i64.wrap ((IntKind.i64.wrap ((IntKind.i64.wrap (n4 + 1)) + 1)) + 1)) + 1))) fun h =>
  req (0 ≤ (n5 : Int) ∧ (n5 : Int) < (l3 : Nat))
  (nz a3 fun b16 o17 =>
  st h b16 ((o17 + n5.toNat * 8) + 5) (.int .i64 (IntKind.i64.wrap ((IntKind.i64.wrap ((IntKind.i64.wrap ((IntKind.i64.wrap ((IntKind.i64.wrap (n4 + 1)) + 1)) + 1)) + 1)) + 1))) fun h =>
  req (0 ≤ (n5 : Int) ∧ (n5 : Int) < (l3 : Nat))
  (nz a3 fun b18 o19 =>
  st h b18 ((o19 + n5.toNat * 8) + 6) (.int .i64 (IntKind.i64.wrap ((IntKind.i64.wrap ((IntKind.i64.wrap ((IntKind.i64.wrap ((IntKind.i64.wrap ((IntKind.i64.wrap (n4 + 1)) + 1)) + 1)) + 1)) + 1)) + 1))) fun h =>
  req (0 ≤ (n5 : Int) ∧ (n5 : Int) < (l3 : Nat))
  (nz a3 fun b20 o21 =>
  st h b20 ((o21 + n5.toNat * 8) + 7) (.int .i64 (IntKind.i64.wrap ((IntKind.i64.wrap ((IntKind.i64.wrap ((IntKind.i64.wrap ((IntKind.i64.wrap ((IntKind.i64.wrap ((IntKind.i64.wrap (n4 + 1)) + 1)) + 1)) + 1)) + 1)) + 1)) + 1))) fun h =>
  laws_markThreadS_M_l0 kx0 N a3 l3 (IntKind.i64.wrap ((IntKind.i64.wrap ((IntKind.i64.wrap ((IntKind.i64.wrap ((IntKind.i64.wrap ((IntKind.i64.wrap ((IntKind.i64.wrap ((IntKind.i64.wrap (n4 + 1)) + 1)) + 1)) + 1)) + 1)) + 1)) + 1)) + 1)) (IntKind.i64.wrap (n5 + 1)) h)))))))))
  (kx0 n4 h)

def laws_markThreadS_M (kr : Int → H → Prop) (a1 : Option Addr) (l1 : Nat) (c1 : Nat) (n2 : Int) (h : H) : Prop :=
  ∃ M4, laws_markThreadS_M_l0 (fun n3 h =>
  kr n3 h) M4 a1 l1 n2 0 h

theorem laws_markThreadS_M_l0_D {g0 m0 : H} {kx0_1 : Int → H → Prop} {kx0_2 : Int → H → Prop} (Hkx0 : ∀ (n200001 : Int) (g m : H), Md g0 m0 g m [] → kx0_2 n200001 m → kx0_1 n200001 g) : ∀ (N : Nat) (a1003 : Option Addr) (l1003 : Nat) (c1003 : Nat) (n1004 : Int) (n1005 : Int) (g m : H), Md g0 m0 g m [] → laws_markThreadS_M_l0 kx0_2 N a1003 l1003 n1004 n1005 m → laws_markThreadS_l0 kx0_1 N a1003 l1003 c1003 n1004 n1005 g := by
  intro N
  induction N with
  | zero => intro a1003 l1003 c1003 n1004 n1005 g m R h0; exact h0.elim
  | succ N ih =>
    intro a1003 l1003 c1003 n1004 n1005 g m R
    rw [laws_markThreadS_M_l0, laws_markThreadS_l0]
    exact (d_if (d_req (d_nz fun b1006 o1007 =>
  (d_st R fun g m R =>
  (d_req (d_nz fun b1008 o1009 =>
  (d_st R fun g m R =>
  (d_req (d_nz fun b1010 o1011 =>
  (d_st R fun g m R =>
  (d_req (d_nz fun b1012 o1013 =>
  (d_st R fun g m R =>
  (d_req (d_nz fun b1014 o1015 =>
  (d_st R fun g m R =>
  (d_req (d_nz fun b1016 o1017 =>
  (d_st R fun g m R =>
  (d_req (d_nz fun b1018 o1019 =>
  (d_st R fun g m R =>
  (d_req (d_nz fun b1020 o1021 =>
  (d_st R fun g m R =>
  (ih a1003 l1003 c1003 (IntKind.i64.wrap ((IntKind.i64.wrap ((IntKind.i64.wrap ((IntKind.i64.wrap ((IntKind.i64.wrap ((IntKind.i64.wrap ((IntKind.i64.wrap ((IntKind.i64.wrap (n1004 + 1)) + 1)) + 1)) + 1)) + 1)) + 1)) + 1)) + 1)) (IntKind.i64.wrap (n1005 + 1)) _ _ R.sub)))))))))))))))))))))))))
  (Hkx0 n1004 _ _ R.sub))

theorem laws_markThreadS_M_D {g0 m0 : H} {kr_1 : Int → H → Prop} {kr_2 : Int → H → Prop} (Hkr : ∀ (n200001 : Int) (g m : H), Md g0 m0 g m [] → kr_2 n200001 m → kr_1 n200001 g) : ∀ (a1001 : Option Addr) (l1001 : Nat) (c1001 : Nat) (n1002 : Int) (g m : H), Md g0 m0 g m [] → laws_markThreadS_M kr_2 a1001 l1001 c1001 n1002 m → laws_markThreadS kr_1 a1001 l1001 c1001 n1002 g := by
  intro a1001 l1001 c1001 n1002 g m R
  rw [laws_markThreadS_M, laws_markThreadS]
  exact (d_ex fun N => laws_markThreadS_M_l0_D (by exact fun n1003 g m R =>
  (Hkr n1003 _ _ R.sub)) N a1001 l1001 c1001 n1002 0 _ _ R.sub)

theorem laws_markThreadS_M_call {a1 : Option Addr} {l1 : Nat} {c1 : Nat} {n2 : Int} {h : H} {K : Value → H → Prop} (hs : laws_markThreadS_M (fun n300001 h =>
  K (.int .i64 n300001) h) a1 l1 c1 n2 h) : callD Try.prog 24 ⟨[.slice a1 l1 c1, .int .i64 n2]⟩ h K :=
  fun g r => laws_markThreadS_call (laws_markThreadS_M_D (by exact fun n300001 g m R =>
(fun h => ⟨m, R.af, h⟩)) _ _ _ _ _ _ (Md.start r) hs)

noncomputable def code25 : Code := codeOf Try.f25
theorem body25 : Try.f25.body = some code25 := by kernel_rfl
def laws_markLockS_l0 (kx0 : Int → H → Prop) : Nat → Option Addr → Nat → Nat → Int → Int → H → Prop
 | 0, _, _, _, _, _, _ => False
 | N + 1, a_3, a_l3, a_c3, k_4, i_5, h =>
  ifB (decide ((i_5 : Int) < (a_l3 : Nat)))
  (req (0 ≤ (i_5 : Int) ∧ (i_5 : Int) < (a_l3 : Nat))
  (nz a_3 fun b6 o7 =>
  st h b6 (o7 + i_5.toNat * 2) (.int .i64 k_4) fun h =>
  req (0 ≤ (i_5 : Int) ∧ (i_5 : Int) < (a_l3 : Nat))
  (nz a_3 fun b8 o9 =>
  st h b8 ((o9 + i_5.toNat * 2) + 1) (.int .i64 (IntKind.i64.wrap (k_4 + 1))) fun h =>
  laws_markLockS_l0 kx0 N a_3 a_l3 a_c3 (IntKind.i64.wrap ((IntKind.i64.wrap (k_4 + 1)) + 1)) (IntKind.i64.wrap (i_5 + 1)) h)))
  (kx0 k_4 h)

def laws_markLockS (kr : Int → H → Prop) (a_1 : Option Addr) (a_l1 : Nat) (a_c1 : Nat) (k_2 : Int) (h : H) : Prop :=
  ∃ M4, laws_markLockS_l0 (fun k_3 h =>
  kr k_3 h) M4 a_1 a_l1 a_c1 k_2 0 h

theorem laws_markLockS_l0_eq (K : Cont) (N : Nat) (a_3 : Option Addr) (a_l3 : Nat) (a_c3 : Nat) (k_4 : Int) (i_5 : Int) (h : H) :
  laws_markLockS_l0 (curV [(1, .int .i64)] (K (.exit 0))) (N + 1) a_3 a_l3 a_c3 k_4 i_5 h = evC Try.prog 27 [] [] (sub code25 [true, false, true, false, false]) [(0, .slice a_3 a_l3 a_c3), (1, .int .i64 k_4), (5, .int .i64 i_5)] h ((outsOf none [(0, [(1, .int .i64)])] none K).loop [(0, .slice), (1, .int .i64), (5, .int .i64)] (laws_markLockS_l0 (curV [(1, .int .i64)] (K (.exit 0))) N)).K := by kernel_rfl

def laws_markLockS_l0_F : PT := mkL [(0, .slice), (1, .int .i64), (5, .int .i64)] fun K N => laws_markLockS_l0 (curV [(1, .int .i64)] (K (.exit 0))) N

theorem laws_markLockS_l0_V : Valid Try.prog 27 (sub code25 [true, false, true, false]) laws_markLockS_l0_F :=
  loop_at (code25) [true, false, true, false] (loop_piece (c := (sub code25 [true, false, true, false, false])) mixed rows_nil (fun K => by intro a_3 a_l3 a_c3 k_4 i_5 h hd; exact hd) (fun K N => by intro a_3 a_l3 a_c3 k_4 i_5 h hd; exact (laws_markLockS_l0_eq K N a_3 a_l3 a_c3 k_4 i_5 h) ▸ hd))

theorem laws_markLockS_eq (K : Cont) (a_1 : Option Addr) (a_l1 : Nat) (a_c1 : Nat) (k_2 : Int) (h : H) :
  laws_markLockS (curV [(4, .int .i64)] (K .ret)) a_1 a_l1 a_c1 k_2 h = evC Try.prog 27 [([false, false, true, false, true], laws_markLockS_l0_F)] [] code25 [(0, .slice a_1 a_l1 a_c1), (1, .int .i64 k_2)] h (outsOf none [] (some [(4, .int .i64)]) K).K := by kernel_rfl

def laws_markLockS_F : PT := mkF [(0, .slice), (1, .int .i64)] fun K => laws_markLockS (curV [(4, .int .i64)] (K .ret))

theorem laws_markLockS_V : Valid Try.prog 27 code25 laws_markLockS_F :=
  piece mixed (rows_cons (q' := [true, false, true, false]) laws_markLockS_l0_V rfl rows_nil) (fun K => by intro a_1 a_l1 a_c1 k_2 h hd; exact (laws_markLockS_eq K a_1 a_l1 a_c1 k_2 h) ▸ hd)

theorem laws_markLockS_c0 (a_1 : Option Addr) (a_l1 : Nat) (a_c1 : Nat) (k_2 : Int) (h : H) (K : Value → H → Prop) :
  laws_markLockS (fun n100001 h =>
  K (.int .i64 n100001) h) a_1 a_l1 a_c1 k_2 h = callF Try.prog Try.f25.results.toList laws_markLockS_F [.slice a_1 a_l1 a_c1, .int .i64 k_2] h K := by kernel_rfl

theorem laws_markLockS_call {a_1 : Option Addr} {a_l1 : Nat} {a_c1 : Nat} {k_2 : Int} {h : H} {K : Value → H → Prop} (hs : laws_markLockS (fun n100001 h =>
  K (.int .i64 n100001) h) a_1 a_l1 a_c1 k_2 h) : callK Try.prog 25 ⟨[.slice a_1 a_l1 a_c1, .int .i64 k_2]⟩ h K :=
  func_calls Try.func25 body25 laws_markLockS_V (Nat.le_of_ble_eq_true (by kernel_rfl)) (laws_markLockS_c0 a_1 a_l1 a_c1 k_2 h K ▸ hs)

def laws_markLockS_M_l0 (kx0 : Int → H → Prop) : Nat → Option Addr → Nat → Int → Int → H → Prop
 | 0, _, _, _, _, _ => False
 | N + 1, a_3, a_l3, k_4, i_5, h =>
  ifB (decide ((i_5 : Int) < (a_l3 : Nat)))
  (req (0 ≤ (i_5 : Int) ∧ (i_5 : Int) < (a_l3 : Nat))
  (nz a_3 fun b6 o7 =>
  st h b6 (o7 + i_5.toNat * 2) (.int .i64 k_4) fun h =>
  req (0 ≤ (i_5 : Int) ∧ (i_5 : Int) < (a_l3 : Nat))
  (nz a_3 fun b8 o9 =>
  st h b8 ((o9 + i_5.toNat * 2) + 1) (.int .i64 (IntKind.i64.wrap (k_4 + 1))) fun h =>
  laws_markLockS_M_l0 kx0 N a_3 a_l3 (IntKind.i64.wrap ((IntKind.i64.wrap (k_4 + 1)) + 1)) (IntKind.i64.wrap (i_5 + 1)) h)))
  (kx0 k_4 h)

def laws_markLockS_M (kr : Int → H → Prop) (a_1 : Option Addr) (a_l1 : Nat) (a_c1 : Nat) (k_2 : Int) (h : H) : Prop :=
  ∃ M4, laws_markLockS_M_l0 (fun k_3 h =>
  kr k_3 h) M4 a_1 a_l1 k_2 0 h

theorem laws_markLockS_M_l0_D {g0 m0 : H} {kx0_1 : Int → H → Prop} {kx0_2 : Int → H → Prop} (Hkx0 : ∀ (k_200001 : Int) (g m : H), Md g0 m0 g m [] → kx0_2 k_200001 m → kx0_1 k_200001 g) : ∀ (N : Nat) (a_1003 : Option Addr) (a_l1003 : Nat) (a_c1003 : Nat) (k_1004 : Int) (i_1005 : Int) (g m : H), Md g0 m0 g m [] → laws_markLockS_M_l0 kx0_2 N a_1003 a_l1003 k_1004 i_1005 m → laws_markLockS_l0 kx0_1 N a_1003 a_l1003 a_c1003 k_1004 i_1005 g := by
  intro N
  induction N with
  | zero => intro a_1003 a_l1003 a_c1003 k_1004 i_1005 g m R h0; exact h0.elim
  | succ N ih =>
    intro a_1003 a_l1003 a_c1003 k_1004 i_1005 g m R
    rw [laws_markLockS_M_l0, laws_markLockS_l0]
    exact (d_if (d_req (d_nz fun b1006 o1007 =>
  (d_st R fun g m R =>
  (d_req (d_nz fun b1008 o1009 =>
  (d_st R fun g m R =>
  (ih a_1003 a_l1003 a_c1003 (IntKind.i64.wrap ((IntKind.i64.wrap (k_1004 + 1)) + 1)) (IntKind.i64.wrap (i_1005 + 1)) _ _ R.sub)))))))
  (Hkx0 k_1004 _ _ R.sub))

theorem laws_markLockS_M_D {g0 m0 : H} {kr_1 : Int → H → Prop} {kr_2 : Int → H → Prop} (Hkr : ∀ (n200001 : Int) (g m : H), Md g0 m0 g m [] → kr_2 n200001 m → kr_1 n200001 g) : ∀ (a_1001 : Option Addr) (a_l1001 : Nat) (a_c1001 : Nat) (k_1002 : Int) (g m : H), Md g0 m0 g m [] → laws_markLockS_M kr_2 a_1001 a_l1001 a_c1001 k_1002 m → laws_markLockS kr_1 a_1001 a_l1001 a_c1001 k_1002 g := by
  intro a_1001 a_l1001 a_c1001 k_1002 g m R
  rw [laws_markLockS_M, laws_markLockS]
  exact (d_ex fun N => laws_markLockS_M_l0_D (by exact fun k_1003 g m R =>
  (Hkr k_1003 _ _ R.sub)) N a_1001 a_l1001 a_c1001 k_1002 0 _ _ R.sub)

theorem laws_markLockS_M_call {a_1 : Option Addr} {a_l1 : Nat} {a_c1 : Nat} {k_2 : Int} {h : H} {K : Value → H → Prop} (hs : laws_markLockS_M (fun n300001 h =>
  K (.int .i64 n300001) h) a_1 a_l1 a_c1 k_2 h) : callD Try.prog 25 ⟨[.slice a_1 a_l1 a_c1, .int .i64 k_2]⟩ h K :=
  fun g r => laws_markLockS_call (laws_markLockS_M_D (by exact fun n300001 g m R =>
(fun h => ⟨m, R.af, h⟩)) _ _ _ _ _ _ (Md.start r) hs)

noncomputable def code26 : Code := codeOf Try.f26
theorem body26 : Try.f26.body = some code26 := by kernel_rfl
def laws_heldThreadS_l0 (kx0 : Int → H → Prop) (kr : Int → H → Prop) : Nat → Option Addr → Nat → Nat → Int → Int → H → Prop
 | 0, _, _, _, _, _, _ => False
 | N + 1, a3, l3, c3, n4, n5, h =>
  ifB (decide ((n5 : Int) < (l3 : Nat)))
  (req (0 ≤ (n5 : Int) ∧ (n5 : Int) < (l3 : Nat))
  (nz a3 fun b6 o7 =>
  ldI .i64 h b6 (o7 + n5.toNat * 8) fun n8 =>
  ifB ((n8 : Int) != n4)
  (kr (-1) h)
  (req (0 ≤ (n5 : Int) ∧ (n5 : Int) < (l3 : Nat))
  (nz a3 fun b9 o10 =>
  ldI .i64 h b9 ((o10 + n5.toNat * 8) + 1) fun n11 =>
  ifB ((n11 : Int) != (IntKind.i64.wrap (n4 + 1)))
  (kr (-1) h)
  (req (0 ≤ (n5 : Int) ∧ (n5 : Int) < (l3 : Nat))
  (nz a3 fun b12 o13 =>
  ldI .i64 h b12 ((o13 + n5.toNat * 8) + 2) fun n14 =>
  ifB ((n14 : Int) != (IntKind.i64.wrap ((IntKind.i64.wrap (n4 + 1)) + 1)))
  (kr (-1) h)
  (req (0 ≤ (n5 : Int) ∧ (n5 : Int) < (l3 : Nat))
  (nz a3 fun b15 o16 =>
  ldI .i64 h b15 ((o16 + n5.toNat * 8) + 3) fun n17 =>
  ifB ((n17 : Int) != (IntKind.i64.wrap ((IntKind.i64.wrap ((IntKind.i64.wrap (n4 + 1)) + 1)) + 1)))
  (kr (-1) h)
  (req (0 ≤ (n5 : Int) ∧ (n5 : Int) < (l3 : Nat))
  (nz a3 fun b18 o19 =>
  ldI .i64 h b18 ((o19 + n5.toNat * 8) + 4) fun n20 =>
  ifB ((n20 : Int) != (IntKind.i64.wrap ((IntKind.i64.wrap ((IntKind.i64.wrap ((IntKind.i64.wrap (n4 + 1)) + 1)) + 1)) + 1)))
  (kr (-1) h)
  (req (0 ≤ (n5 : Int) ∧ (n5 : Int) < (l3 : Nat))
  (nz a3 fun b21 o22 =>
  ldI .i64 h b21 ((o22 + n5.toNat * 8) + 5) fun n23 =>
  ifB ((n23 : Int) != (IntKind.i64.wrap ((IntKind.i64.wrap ((IntKind.i64.wrap ((IntKind.i64.wrap ((IntKind.i64.wrap (n4 + 1)) + 1)) + 1)) + 1)) + 1)))
  (kr (-1) h)
  (req (0 ≤ (n5 : Int) ∧ (n5 : Int) < (l3 : Nat))
  (nz a3 fun b24 o25 =>
  ldI .i64 h b24 ((o25 + n5.toNat * 8) + 6) fun n26 =>
  ifB ((n26 : Int) != (IntKind.i64.wrap ((IntKind.i64.wrap ((IntKind.i64.wrap ((IntKind.i64.wrap ((IntKind.i64.wrap ((IntKind.i64.wrap (n4 + 1)) + 1)) + 1)) + 1)) + 1)) + 1)))
  (kr (-1) h)
  (req (0 ≤ (n5 : Int) ∧ (n5 : Int) < (l3 : Nat))
  (nz a3 fun b27 o28 =>
  ldI .i64 h b27 ((o28 + n5.toNat * 8) + 7) fun n29 =>
  ifB ((n29 : Int) != (IntKind.i64.wrap ((IntKind.i64.wrap ((IntKind.i64.wrap ((IntKind.i64.wrap ((IntKind.i64.wrap ((IntKind.i64.wrap ((IntKind.i64.wrap (n4 + 1)) + 1)) + 1)) + 1)) + 1)) + 1)) + 1)))
  (kr (-1) h)
  (laws_heldThreadS_l0 kx0 kr N a3 l3 c3 (IntKind.i64.wrap ((IntKind.i64.wrap ((IntKind.i64.wrap ((IntKind.i64.wrap ((IntKind.i64.wrap ((IntKind.i64.wrap ((IntKind.i64.wrap ((IntKind.i64.wrap (n4 + 1)) + 1)) + 1)) + 1)) + 1)) + 1)) + 1)) + 1)) (IntKind.i64.wrap (n5 + 1)) h)))))))))))))))))
  (kx0 n4 h)

def laws_heldThreadS (kr : Int → H → Prop) (a1 : Option Addr) (l1 : Nat) (c1 : Nat) (n2 : Int) (h : H) : Prop :=
  ∃ M4, laws_heldThreadS_l0 (fun n3 h =>
  kr n3 h) kr M4 a1 l1 c1 n2 0 h

theorem laws_heldThreadS_l0_eq (K : Cont) (N : Nat) (a3 : Option Addr) (l3 : Nat) (c3 : Nat) (n4 : Int) (n5 : Int) (h : H) :
  laws_heldThreadS_l0 (curV [(1, .int .i64)] (K (.exit 0))) (curV [(4, .int .i64)] (K .ret)) (N + 1) a3 l3 c3 n4 n5 h = evC Try.prog 85 [] [] (sub code26 [true, false, true, false, false]) [(0, .slice a3 l3 c3), (1, .int .i64 n4), (5, .int .i64 n5)] h ((outsOf none [(0, [(1, .int .i64)])] (some [(4, .int .i64)]) K).loop [(0, .slice), (1, .int .i64), (5, .int .i64)] (laws_heldThreadS_l0 (curV [(1, .int .i64)] (K (.exit 0))) (curV [(4, .int .i64)] (K .ret)) N)).K := by kernel_rfl

def laws_heldThreadS_l0_F : PT := mkL [(0, .slice), (1, .int .i64), (5, .int .i64)] fun K N => laws_heldThreadS_l0 (curV [(1, .int .i64)] (K (.exit 0))) (curV [(4, .int .i64)] (K .ret)) N

theorem laws_heldThreadS_l0_V : Valid Try.prog 85 (sub code26 [true, false, true, false]) laws_heldThreadS_l0_F :=
  loop_at (code26) [true, false, true, false] (loop_piece (c := (sub code26 [true, false, true, false, false])) mixed rows_nil (fun K => by intro a3 l3 c3 n4 n5 h hd; exact hd) (fun K N => by intro a3 l3 c3 n4 n5 h hd; exact (laws_heldThreadS_l0_eq K N a3 l3 c3 n4 n5 h) ▸ hd))

theorem laws_heldThreadS_eq (K : Cont) (a1 : Option Addr) (l1 : Nat) (c1 : Nat) (n2 : Int) (h : H) :
  laws_heldThreadS (curV [(4, .int .i64)] (K .ret)) a1 l1 c1 n2 h = evC Try.prog 85 [([false, false, true, false, true], laws_heldThreadS_l0_F)] [] code26 [(0, .slice a1 l1 c1), (1, .int .i64 n2)] h (outsOf none [] (some [(4, .int .i64)]) K).K := by kernel_rfl

def laws_heldThreadS_F : PT := mkF [(0, .slice), (1, .int .i64)] fun K => laws_heldThreadS (curV [(4, .int .i64)] (K .ret))

theorem laws_heldThreadS_V : Valid Try.prog 85 code26 laws_heldThreadS_F :=
  piece mixed (rows_cons (q' := [true, false, true, false]) laws_heldThreadS_l0_V rfl rows_nil) (fun K => by intro a1 l1 c1 n2 h hd; exact (laws_heldThreadS_eq K a1 l1 c1 n2 h) ▸ hd)

theorem laws_heldThreadS_c0 (a1 : Option Addr) (l1 : Nat) (c1 : Nat) (n2 : Int) (h : H) (K : Value → H → Prop) :
  laws_heldThreadS (fun n100001 h =>
  K (.int .i64 n100001) h) a1 l1 c1 n2 h = callF Try.prog Try.f26.results.toList laws_heldThreadS_F [.slice a1 l1 c1, .int .i64 n2] h K := by kernel_rfl

theorem laws_heldThreadS_call {a1 : Option Addr} {l1 : Nat} {c1 : Nat} {n2 : Int} {h : H} {K : Value → H → Prop} (hs : laws_heldThreadS (fun n100001 h =>
  K (.int .i64 n100001) h) a1 l1 c1 n2 h) : callK Try.prog 26 ⟨[.slice a1 l1 c1, .int .i64 n2]⟩ h K :=
  func_calls Try.func26 body26 laws_heldThreadS_V (Nat.le_of_ble_eq_true (by kernel_rfl)) (laws_heldThreadS_c0 a1 l1 c1 n2 h K ▸ hs)

def laws_heldThreadS_M_l0 (kx0 : Int → H → Prop) (kr : Int → H → Prop) : Nat → Option Addr → Nat → Int → Int → H → Prop
 | 0, _, _, _, _, _ => False
 | N + 1, a3, l3, n4, n5, h =>
  ifB (decide ((n5 : Int) < (l3 : Nat)))
  (req (0 ≤ (n5 : Int) ∧ (n5 : Int) < (l3 : Nat))
  (nz a3 fun b6 o7 =>
  ldI .i64 h b6 (o7 + n5.toNat * 8) fun n8 =>
  ifB ((n8 : Int) != n4)
  (kr (-1) h)
  (req (0 ≤ (n5 : Int) ∧ (n5 : Int) < (l3 : Nat))
  (nz a3 fun b9 o10 =>
  ldI .i64 h b9 ((o10 + n5.toNat * 8) + 1) fun n11 =>
  ifB ((n11 : Int) != (IntKind.i64.wrap (n4 + 1)))
  (kr (-1) h)
  (req (0 ≤ (n5 : Int) ∧ (n5 : Int) < (l3 : Nat))
  (nz a3 fun b12 o13 =>
  ldI .i64 h b12 ((o13 + n5.toNat * 8) + 2) fun n14 =>
  ifB ((n14 : Int) != (IntKind.i64.wrap ((IntKind.i64.wrap (n4 + 1)) + 1)))
  (kr (-1) h)
  (req (0 ≤ (n5 : Int) ∧ (n5 : Int) < (l3 : Nat))
  (nz a3 fun b15 o16 =>
  ldI .i64 h b15 ((o16 + n5.toNat * 8) + 3) fun n17 =>
  ifB ((n17 : Int) != (IntKind.i64.wrap ((IntKind.i64.wrap ((IntKind.i64.wrap (n4 + 1)) + 1)) + 1)))
  (kr (-1) h)
  (req (0 ≤ (n5 : Int) ∧ (n5 : Int) < (l3 : Nat))
  (nz a3 fun b18 o19 =>
  ldI .i64 h b18 ((o19 + n5.toNat * 8) + 4) fun n20 =>
  ifB ((n20 : Int) != (IntKind.i64.wrap ((IntKind.i64.wrap ((IntKind.i64.wrap ((IntKind.i64.wrap (n4 + 1)) + 1)) + 1)) + 1)))
  (kr (-1) h)
  (req (0 ≤ (n5 : Int) ∧ (n5 : Int) < (l3 : Nat))
  (nz a3 fun b21 o22 =>
  ldI .i64 h b21 ((o22 + n5.toNat * 8) + 5) fun n23 =>
  ifB ((n23 : Int) != (IntKind.i64.wrap ((IntKind.i64.wrap ((IntKind.i64.wrap ((IntKind.i64.wrap ((IntKind.i64.wrap (n4 + 1)) + 1)) + 1)) + 1)) + 1)))
  (kr (-1) h)
  (req (0 ≤ (n5 : Int) ∧ (n5 : Int) < (l3 : Nat))
  (nz a3 fun b24 o25 =>
  ldI .i64 h b24 ((o25 + n5.toNat * 8) + 6) fun n26 =>
  ifB ((n26 : Int) != (IntKind.i64.wrap ((IntKind.i64.wrap ((IntKind.i64.wrap ((IntKind.i64.wrap ((IntKind.i64.wrap ((IntKind.i64.wrap (n4 + 1)) + 1)) + 1)) + 1)) + 1)) + 1)))
  (kr (-1) h)
  (req (0 ≤ (n5 : Int) ∧ (n5 : Int) < (l3 : Nat))
  (nz a3 fun b27 o28 =>
  ldI .i64 h b27 ((o28 + n5.toNat * 8) + 7) fun n29 =>
  ifB ((n29 : Int) != (IntKind.i64.wrap ((IntKind.i64.wrap ((IntKind.i64.wrap ((IntKind.i64.wrap ((IntKind.i64.wrap ((IntKind.i64.wrap ((IntKind.i64.wrap (n4 + 1)) + 1)) + 1)) + 1)) + 1)) + 1)) + 1)))
  (kr (-1) h)
  (laws_heldThreadS_M_l0 kx0 kr N a3 l3 (IntKind.i64.wrap ((IntKind.i64.wrap ((IntKind.i64.wrap ((IntKind.i64.wrap ((IntKind.i64.wrap ((IntKind.i64.wrap ((IntKind.i64.wrap ((IntKind.i64.wrap (n4 + 1)) + 1)) + 1)) + 1)) + 1)) + 1)) + 1)) + 1)) (IntKind.i64.wrap (n5 + 1)) h)))))))))))))))))
  (kx0 n4 h)

def laws_heldThreadS_M (kr : Int → H → Prop) (a1 : Option Addr) (l1 : Nat) (c1 : Nat) (n2 : Int) (h : H) : Prop :=
  ∃ M4, laws_heldThreadS_M_l0 (fun n3 h =>
  kr n3 h) kr M4 a1 l1 n2 0 h

theorem laws_heldThreadS_M_l0_D {g0 m0 : H} {kx0_1 : Int → H → Prop} {kx0_2 : Int → H → Prop} (Hkx0 : ∀ (n200001 : Int) (g m : H), Md g0 m0 g m [] → kx0_2 n200001 m → kx0_1 n200001 g)
  {kr_1 : Int → H → Prop} {kr_2 : Int → H → Prop} (Hkr : ∀ (n200001 : Int) (g m : H), Md g0 m0 g m [] → kr_2 n200001 m → kr_1 n200001 g) : ∀ (N : Nat) (a1003 : Option Addr) (l1003 : Nat) (c1003 : Nat) (n1004 : Int) (n1005 : Int) (g m : H), Md g0 m0 g m [] → laws_heldThreadS_M_l0 kx0_2 kr_2 N a1003 l1003 n1004 n1005 m → laws_heldThreadS_l0 kx0_1 kr_1 N a1003 l1003 c1003 n1004 n1005 g := by
  intro N
  induction N with
  | zero => intro a1003 l1003 c1003 n1004 n1005 g m R h0; exact h0.elim
  | succ N ih =>
    intro a1003 l1003 c1003 n1004 n1005 g m R
    rw [laws_heldThreadS_M_l0, laws_heldThreadS_l0]
    exact (d_if (d_req (d_nz fun b1006 o1007 =>
  (d_ldI R fun n1008 =>
  (d_if (Hkr (-1) _ _ R.sub)
  (d_req (d_nz fun b1009 o1010 =>
  (d_ldI R fun n1011 =>
  (d_if (Hkr (-1) _ _ R.sub)
  (d_req (d_nz fun b1012 o1013 =>
  (d_ldI R fun n1014 =>
  (d_if (Hkr (-1) _ _ R.sub)
  (d_req (d_nz fun b1015 o1016 =>
  (d_ldI R fun n1017 =>
  (d_if (Hkr (-1) _ _ R.sub)
  (d_req (d_nz fun b1018 o1019 =>
  (d_ldI R fun n1020 =>
  (d_if (Hkr (-1) _ _ R.sub)
  (d_req (d_nz fun b1021 o1022 =>
  (d_ldI R fun n1023 =>
  (d_if (Hkr (-1) _ _ R.sub)
  (d_req (d_nz fun b1024 o1025 =>
  (d_ldI R fun n1026 =>
  (d_if (Hkr (-1) _ _ R.sub)
  (d_req (d_nz fun b1027 o1028 =>
  (d_ldI R fun n1029 =>
  (d_if (Hkr (-1) _ _ R.sub)
  (ih a1003 l1003 c1003 (IntKind.i64.wrap ((IntKind.i64.wrap ((IntKind.i64.wrap ((IntKind.i64.wrap ((IntKind.i64.wrap ((IntKind.i64.wrap ((IntKind.i64.wrap ((IntKind.i64.wrap (n1004 + 1)) + 1)) + 1)) + 1)) + 1)) + 1)) + 1)) + 1)) (IntKind.i64.wrap (n1005 + 1)) _ _ R.sub)))))))))))))))))))))))))))))))))
  (Hkx0 n1004 _ _ R.sub))

theorem laws_heldThreadS_M_D {g0 m0 : H} {kr_1 : Int → H → Prop} {kr_2 : Int → H → Prop} (Hkr : ∀ (n200001 : Int) (g m : H), Md g0 m0 g m [] → kr_2 n200001 m → kr_1 n200001 g) : ∀ (a1001 : Option Addr) (l1001 : Nat) (c1001 : Nat) (n1002 : Int) (g m : H), Md g0 m0 g m [] → laws_heldThreadS_M kr_2 a1001 l1001 c1001 n1002 m → laws_heldThreadS kr_1 a1001 l1001 c1001 n1002 g := by
  intro a1001 l1001 c1001 n1002 g m R
  rw [laws_heldThreadS_M, laws_heldThreadS]
  exact (d_ex fun N => laws_heldThreadS_M_l0_D (by exact fun n1003 g m R =>
  (Hkr n1003 _ _ R.sub))
  (by exact fun n1004 g m R =>
  (Hkr n1004 _ _ R.sub)) N a1001 l1001 c1001 n1002 0 _ _ R.sub)

theorem laws_heldThreadS_M_call {a1 : Option Addr} {l1 : Nat} {c1 : Nat} {n2 : Int} {h : H} {K : Value → H → Prop} (hs : laws_heldThreadS_M (fun n300001 h =>
  K (.int .i64 n300001) h) a1 l1 c1 n2 h) : callD Try.prog 26 ⟨[.slice a1 l1 c1, .int .i64 n2]⟩ h K :=
  fun g r => laws_heldThreadS_call (laws_heldThreadS_M_D (by exact fun n300001 g m R =>
(fun h => ⟨m, R.af, h⟩)) _ _ _ _ _ _ (Md.start r) hs)

noncomputable def code27 : Code := codeOf Try.f27
theorem body27 : Try.f27.body = some code27 := by kernel_rfl
def laws_heldLockS_l0 (kx0 : Int → H → Prop) (kr : Int → H → Prop) : Nat → Option Addr → Nat → Nat → Int → Int → H → Prop
 | 0, _, _, _, _, _, _ => False
 | N + 1, a_3, a_l3, a_c3, k_4, i_5, h =>
  ifB (decide ((i_5 : Int) < (a_l3 : Nat)))
  (req (0 ≤ (i_5 : Int) ∧ (i_5 : Int) < (a_l3 : Nat))
  (nz a_3 fun b6 o7 =>
  ldI .i64 h b6 (o7 + i_5.toNat * 2) fun n8 =>
  ifB ((n8 : Int) != k_4)
  (kr (-1) h)
  (req (0 ≤ (i_5 : Int) ∧ (i_5 : Int) < (a_l3 : Nat))
  (nz a_3 fun b9 o10 =>
  ldI .i64 h b9 ((o10 + i_5.toNat * 2) + 1) fun n11 =>
  ifB ((n11 : Int) != (IntKind.i64.wrap (k_4 + 1)))
  (kr (-1) h)
  (laws_heldLockS_l0 kx0 kr N a_3 a_l3 a_c3 (IntKind.i64.wrap ((IntKind.i64.wrap (k_4 + 1)) + 1)) (IntKind.i64.wrap (i_5 + 1)) h)))))
  (kx0 k_4 h)

def laws_heldLockS (kr : Int → H → Prop) (a_1 : Option Addr) (a_l1 : Nat) (a_c1 : Nat) (k_2 : Int) (h : H) : Prop :=
  ∃ M4, laws_heldLockS_l0 (fun k_3 h =>
  kr k_3 h) kr M4 a_1 a_l1 a_c1 k_2 0 h

theorem laws_heldLockS_l0_eq (K : Cont) (N : Nat) (a_3 : Option Addr) (a_l3 : Nat) (a_c3 : Nat) (k_4 : Int) (i_5 : Int) (h : H) :
  laws_heldLockS_l0 (curV [(1, .int .i64)] (K (.exit 0))) (curV [(4, .int .i64)] (K .ret)) (N + 1) a_3 a_l3 a_c3 k_4 i_5 h = evC Try.prog 31 [] [] (sub code27 [true, false, true, false, false]) [(0, .slice a_3 a_l3 a_c3), (1, .int .i64 k_4), (5, .int .i64 i_5)] h ((outsOf none [(0, [(1, .int .i64)])] (some [(4, .int .i64)]) K).loop [(0, .slice), (1, .int .i64), (5, .int .i64)] (laws_heldLockS_l0 (curV [(1, .int .i64)] (K (.exit 0))) (curV [(4, .int .i64)] (K .ret)) N)).K := by kernel_rfl

def laws_heldLockS_l0_F : PT := mkL [(0, .slice), (1, .int .i64), (5, .int .i64)] fun K N => laws_heldLockS_l0 (curV [(1, .int .i64)] (K (.exit 0))) (curV [(4, .int .i64)] (K .ret)) N

theorem laws_heldLockS_l0_V : Valid Try.prog 31 (sub code27 [true, false, true, false]) laws_heldLockS_l0_F :=
  loop_at (code27) [true, false, true, false] (loop_piece (c := (sub code27 [true, false, true, false, false])) mixed rows_nil (fun K => by intro a_3 a_l3 a_c3 k_4 i_5 h hd; exact hd) (fun K N => by intro a_3 a_l3 a_c3 k_4 i_5 h hd; exact (laws_heldLockS_l0_eq K N a_3 a_l3 a_c3 k_4 i_5 h) ▸ hd))

theorem laws_heldLockS_eq (K : Cont) (a_1 : Option Addr) (a_l1 : Nat) (a_c1 : Nat) (k_2 : Int) (h : H) :
  laws_heldLockS (curV [(4, .int .i64)] (K .ret)) a_1 a_l1 a_c1 k_2 h = evC Try.prog 31 [([false, false, true, false, true], laws_heldLockS_l0_F)] [] code27 [(0, .slice a_1 a_l1 a_c1), (1, .int .i64 k_2)] h (outsOf none [] (some [(4, .int .i64)]) K).K := by kernel_rfl

def laws_heldLockS_F : PT := mkF [(0, .slice), (1, .int .i64)] fun K => laws_heldLockS (curV [(4, .int .i64)] (K .ret))

theorem laws_heldLockS_V : Valid Try.prog 31 code27 laws_heldLockS_F :=
  piece mixed (rows_cons (q' := [true, false, true, false]) laws_heldLockS_l0_V rfl rows_nil) (fun K => by intro a_1 a_l1 a_c1 k_2 h hd; exact (laws_heldLockS_eq K a_1 a_l1 a_c1 k_2 h) ▸ hd)

theorem laws_heldLockS_c0 (a_1 : Option Addr) (a_l1 : Nat) (a_c1 : Nat) (k_2 : Int) (h : H) (K : Value → H → Prop) :
  laws_heldLockS (fun n100001 h =>
  K (.int .i64 n100001) h) a_1 a_l1 a_c1 k_2 h = callF Try.prog Try.f27.results.toList laws_heldLockS_F [.slice a_1 a_l1 a_c1, .int .i64 k_2] h K := by kernel_rfl

theorem laws_heldLockS_call {a_1 : Option Addr} {a_l1 : Nat} {a_c1 : Nat} {k_2 : Int} {h : H} {K : Value → H → Prop} (hs : laws_heldLockS (fun n100001 h =>
  K (.int .i64 n100001) h) a_1 a_l1 a_c1 k_2 h) : callK Try.prog 27 ⟨[.slice a_1 a_l1 a_c1, .int .i64 k_2]⟩ h K :=
  func_calls Try.func27 body27 laws_heldLockS_V (Nat.le_of_ble_eq_true (by kernel_rfl)) (laws_heldLockS_c0 a_1 a_l1 a_c1 k_2 h K ▸ hs)

def laws_heldLockS_M_l0 (kx0 : Int → H → Prop) (kr : Int → H → Prop) : Nat → Option Addr → Nat → Int → Int → H → Prop
 | 0, _, _, _, _, _ => False
 | N + 1, a_3, a_l3, k_4, i_5, h =>
  ifB (decide ((i_5 : Int) < (a_l3 : Nat)))
  (req (0 ≤ (i_5 : Int) ∧ (i_5 : Int) < (a_l3 : Nat))
  (nz a_3 fun b6 o7 =>
  ldI .i64 h b6 (o7 + i_5.toNat * 2) fun n8 =>
  ifB ((n8 : Int) != k_4)
  (kr (-1) h)
  (req (0 ≤ (i_5 : Int) ∧ (i_5 : Int) < (a_l3 : Nat))
  (nz a_3 fun b9 o10 =>
  ldI .i64 h b9 ((o10 + i_5.toNat * 2) + 1) fun n11 =>
  ifB ((n11 : Int) != (IntKind.i64.wrap (k_4 + 1)))
  (kr (-1) h)
  (laws_heldLockS_M_l0 kx0 kr N a_3 a_l3 (IntKind.i64.wrap ((IntKind.i64.wrap (k_4 + 1)) + 1)) (IntKind.i64.wrap (i_5 + 1)) h)))))
  (kx0 k_4 h)

def laws_heldLockS_M (kr : Int → H → Prop) (a_1 : Option Addr) (a_l1 : Nat) (a_c1 : Nat) (k_2 : Int) (h : H) : Prop :=
  ∃ M4, laws_heldLockS_M_l0 (fun k_3 h =>
  kr k_3 h) kr M4 a_1 a_l1 k_2 0 h

theorem laws_heldLockS_M_l0_D {g0 m0 : H} {kx0_1 : Int → H → Prop} {kx0_2 : Int → H → Prop} (Hkx0 : ∀ (k_200001 : Int) (g m : H), Md g0 m0 g m [] → kx0_2 k_200001 m → kx0_1 k_200001 g)
  {kr_1 : Int → H → Prop} {kr_2 : Int → H → Prop} (Hkr : ∀ (n200001 : Int) (g m : H), Md g0 m0 g m [] → kr_2 n200001 m → kr_1 n200001 g) : ∀ (N : Nat) (a_1003 : Option Addr) (a_l1003 : Nat) (a_c1003 : Nat) (k_1004 : Int) (i_1005 : Int) (g m : H), Md g0 m0 g m [] → laws_heldLockS_M_l0 kx0_2 kr_2 N a_1003 a_l1003 k_1004 i_1005 m → laws_heldLockS_l0 kx0_1 kr_1 N a_1003 a_l1003 a_c1003 k_1004 i_1005 g := by
  intro N
  induction N with
  | zero => intro a_1003 a_l1003 a_c1003 k_1004 i_1005 g m R h0; exact h0.elim
  | succ N ih =>
    intro a_1003 a_l1003 a_c1003 k_1004 i_1005 g m R
    rw [laws_heldLockS_M_l0, laws_heldLockS_l0]
    exact (d_if (d_req (d_nz fun b1006 o1007 =>
  (d_ldI R fun n1008 =>
  (d_if (Hkr (-1) _ _ R.sub)
  (d_req (d_nz fun b1009 o1010 =>
  (d_ldI R fun n1011 =>
  (d_if (Hkr (-1) _ _ R.sub)
  (ih a_1003 a_l1003 a_c1003 (IntKind.i64.wrap ((IntKind.i64.wrap (k_1004 + 1)) + 1)) (IntKind.i64.wrap (i_1005 + 1)) _ _ R.sub)))))))))
  (Hkx0 k_1004 _ _ R.sub))

theorem laws_heldLockS_M_D {g0 m0 : H} {kr_1 : Int → H → Prop} {kr_2 : Int → H → Prop} (Hkr : ∀ (n200001 : Int) (g m : H), Md g0 m0 g m [] → kr_2 n200001 m → kr_1 n200001 g) : ∀ (a_1001 : Option Addr) (a_l1001 : Nat) (a_c1001 : Nat) (k_1002 : Int) (g m : H), Md g0 m0 g m [] → laws_heldLockS_M kr_2 a_1001 a_l1001 a_c1001 k_1002 m → laws_heldLockS kr_1 a_1001 a_l1001 a_c1001 k_1002 g := by
  intro a_1001 a_l1001 a_c1001 k_1002 g m R
  rw [laws_heldLockS_M, laws_heldLockS]
  exact (d_ex fun N => laws_heldLockS_M_l0_D (by exact fun k_1003 g m R =>
  (Hkr k_1003 _ _ R.sub))
  (by exact fun n1004 g m R =>
  (Hkr n1004 _ _ R.sub)) N a_1001 a_l1001 a_c1001 k_1002 0 _ _ R.sub)

theorem laws_heldLockS_M_call {a_1 : Option Addr} {a_l1 : Nat} {a_c1 : Nat} {k_2 : Int} {h : H} {K : Value → H → Prop} (hs : laws_heldLockS_M (fun n300001 h =>
  K (.int .i64 n300001) h) a_1 a_l1 a_c1 k_2 h) : callD Try.prog 27 ⟨[.slice a_1 a_l1 a_c1, .int .i64 k_2]⟩ h K :=
  fun g r => laws_heldLockS_call (laws_heldLockS_M_D (by exact fun n300001 g m R =>
(fun h => ⟨m, R.af, h⟩)) _ _ _ _ _ _ (Md.start r) hs)

noncomputable def code28 : Code := codeOf Try.f28
theorem body28 : Try.f28.body = some code28 := by kernel_rfl
def spec_l10Count (kr : Bool → H → Prop) (x_1 : Int) (h : H) : Prop :=
  ifB (decide ((x_1 : Int) ≥ 0))
  (kr (decide ((x_1 : Int) ≤ 1099511627776)) h)
  (kr false h)

theorem spec_l10Count_eq (K : Cont) (x_1 : Int) (h : H) :
  spec_l10Count (curV [(2, .bool)] (K .ret)) x_1 h = evC Try.prog 9 [] [] code28 [(0, .int .i64 x_1)] h (outsOf none [] (some [(2, .bool)]) K).K := by kernel_rfl

def spec_l10Count_F : PT := mkF [(0, .int .i64)] fun K => spec_l10Count (curV [(2, .bool)] (K .ret))

theorem spec_l10Count_V : Valid Try.prog 9 code28 spec_l10Count_F :=
  piece mixed rows_nil (fun K => by intro x_1 h hd; exact (spec_l10Count_eq K x_1 h) ▸ hd)

theorem spec_l10Count_c0 (x_1 : Int) (h : H) (K : Value → H → Prop) :
  spec_l10Count (fun t100001 h =>
  K (.bool t100001) h) x_1 h = callF Try.prog Try.f28.results.toList spec_l10Count_F [.int .i64 x_1] h K := by kernel_rfl

theorem spec_l10Count_call {x_1 : Int} {h : H} {K : Value → H → Prop} (hs : spec_l10Count (fun t100001 h =>
  K (.bool t100001) h) x_1 h) : callK Try.prog 28 ⟨[.int .i64 x_1]⟩ h K :=
  func_calls Try.func28 body28 spec_l10Count_V (Nat.le_of_ble_eq_true (by kernel_rfl)) (spec_l10Count_c0 x_1 h K ▸ hs)

def spec_l10Count_M (kr : Bool → H → Prop) (x_1 : Int) (h : H) : Prop :=
  ifB (decide ((x_1 : Int) ≥ 0))
  (kr (decide ((x_1 : Int) ≤ 1099511627776)) h)
  (kr false h)

theorem spec_l10Count_M_D {g0 m0 : H} {kr_1 : Bool → H → Prop} {kr_2 : Bool → H → Prop} (Hkr : ∀ (t200001 : Bool) (g m : H), Md g0 m0 g m [] → kr_2 t200001 m → kr_1 t200001 g) : ∀ (x_1001 : Int) (g m : H), Md g0 m0 g m [] → spec_l10Count_M kr_2 x_1001 m → spec_l10Count kr_1 x_1001 g := by
  intro x_1001 g m R
  rw [spec_l10Count_M, spec_l10Count]
  exact (d_if (Hkr (decide ((x_1001 : Int) ≤ 1099511627776)) _ _ R.sub)
  (Hkr false _ _ R.sub))

theorem spec_l10Count_M_call {x_1 : Int} {h : H} {K : Value → H → Prop} (hs : spec_l10Count_M (fun t300001 h =>
  K (.bool t300001) h) x_1 h) : callD Try.prog 28 ⟨[.int .i64 x_1]⟩ h K :=
  fun g r => spec_l10Count_call (spec_l10Count_M_D (by exact fun t300001 g m R =>
(fun h => ⟨m, R.af, h⟩)) _ _ _ (Md.start r) hs)

end Go.Proofs.Yteeinamngmmlbaa
