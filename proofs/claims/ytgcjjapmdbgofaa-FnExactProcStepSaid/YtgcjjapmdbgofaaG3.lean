import Derived.Test.YtgcjjapmdbgofaaProg
import Derived.Test.YtgcjjapmdbgofaaG2
set_option linter.unusedVariables false
set_option maxRecDepth 100000
namespace Go.Proofs.Ytgcjjapmdbgofaa
open Go.Eng

noncomputable def code51 : Code := codeOf Try.f51
theorem body51 : Try.f51.body = some code51 := by kernel_rfl
def spec_l16Kill_j4 (kn : Nat → Nat → Nat → Nat → Nat → Bool → Int → Int → H → Prop) (b84 : Nat) (b85 : Nat) (b86 : Nat) (b87 : Nat) (b88 : Nat) (t89 : Bool) (n90 : Int) (n91 : Int) (t92 : Bool) (h : H) : Prop :=
  ifB t92
  (ldI .i64 h b85 3 fun n93 =>
  ifB (decide ((n93 : Int) > 0))
  (ldRow h b84 0 0 [.slice] fun a94 l94 c94 =>
  ldI .i64 h b85 3 fun n95 =>
  callK Try.prog 61 ⟨[.agg ⟨[.slice a94 l94 c94]⟩, .int .i64 n91, .int .i64 n95]⟩ h fun v96 h =>
  elF False (.tuple []) v96
  (kn b84 b85 b86 b87 b88 t89 (IntKind.i64.wrap (n90 + 1)) n91 h))
  (kn b84 b85 b86 b87 b88 t89 (IntKind.i64.wrap (n90 + 1)) n91 h))
  (kn b84 b85 b86 b87 b88 t89 n90 n91 h)

def spec_l16Kill_j3 (kn : Nat → Nat → Nat → Nat → Nat → Bool → Int → Int → H → Prop) (kx1 : Nat → Nat → Nat → Nat → Nat → Bool → Int → Int → H → Prop) (b74 : Nat) (b75 : Nat) (b76 : Nat) (b77 : Nat) (b78 : Nat) (t79 : Bool) (n80 : Int) (n81 : Int) (b82 : Nat) (t83 : Bool) (h : H) : Prop :=
  ifB (!t83)
  (kx1 b74 b75 b76 b77 b78 t79 n80 n81 h)
  (ldI .i64 h b78 3 fun n84 =>
  ifB ((n84 : Int) == 0)
  (spec_l16Kill_j4 kn b74 b75 b76 b77 b78 true n80 n81 true h)
  (ldI .i64 h b78 3 fun n85 =>
  ldI .i64 h b82 3 fun n86 =>
  spec_l16Kill_j4 kn b74 b75 b76 b77 b78 true n80 n81 ((n85 : Int) == n86) h))

def spec_l16Kill_j2 (kn : Nat → Nat → Nat → Nat → Nat → Bool → Int → Int → H → Prop) (kx1 : Nat → Nat → Nat → Nat → Nat → Bool → Int → Int → H → Prop) (b64 : Nat) (b65 : Nat) (b66 : Nat) (b67 : Nat) (b68 : Nat) (t69 : Bool) (n70 : Int) (n71 : Int) (b72 : Nat) (t73 : Bool) (h : H) : Prop :=
  ldI .i64 h b65 2 fun n74 =>
  ifB (decide ((n74 : Int) < (-1)))
  (ldI .i64 h b72 2 fun n75 =>
  ldI .i64 h b65 2 fun n76 =>
  spec_l16Kill_j3 kn kx1 b64 b65 b66 b67 b68 t69 n70 n71 b72 ((n75 : Int) == (IntKind.i64.wrap (0 - n76))) h)
  (spec_l16Kill_j3 kn kx1 b64 b65 b66 b67 b68 t69 n70 n71 b72 t73 h)

def spec_l16Kill_j1 (kn : Nat → Nat → Nat → Nat → Nat → Bool → Int → Int → H → Prop) (kx1 : Nat → Nat → Nat → Nat → Nat → Bool → Int → Int → H → Prop) (b54 : Nat) (b55 : Nat) (b56 : Nat) (b57 : Nat) (b58 : Nat) (t59 : Bool) (n60 : Int) (n61 : Int) (b62 : Nat) (t63 : Bool) (h : H) : Prop :=
  ldI .i64 h b55 2 fun n64 =>
  ifB ((n64 : Int) == (-1))
  (ldI .i64 h b62 0 fun n65 =>
  ifB ((n65 : Int) != 1)
  (ldI .i64 h b62 0 fun n66 =>
  ldI .i64 h b58 0 fun n67 =>
  spec_l16Kill_j2 kn kx1 b54 b55 b56 b57 b58 t59 n60 n61 b62 ((n66 : Int) != n67) h)
  (spec_l16Kill_j2 kn kx1 b54 b55 b56 b57 b58 t59 n60 n61 b62 false h))
  (spec_l16Kill_j2 kn kx1 b54 b55 b56 b57 b58 t59 n60 n61 b62 t63 h)

def spec_l16Kill_l0 (kx0 : Nat → Nat → Nat → Bool → Int → H → Prop) : Nat → Nat → Nat → Nat → Nat → Nat → Bool → Int → Int → H → Prop
 | 0, _, _, _, _, _, _, _, _, _ => False
 | N + 1, b29, b30, b31, b32, b33, t34, n35, n36, h =>
  ldL h b29 0 fun a37 l37 c37 =>
  ifB (decide ((n36 : Int) < (l37 : Nat)))
  (ldL h b29 0 fun a38 l38 c38 =>
  req (0 ≤ (n36 : Int) ∧ (n36 : Int) < (l38 : Nat))
  (nz a38 fun b39 o40 =>
  ldRow h b39 (o40 + n36.toNat * 10) 0 [.int .i64, .int .i64, .int .i64, .int .i64, .int .i64, .int .i64, .int .i64, .int .i64, .int .i64, .int .i64] fun n41 n42 n43 n44 n45 n46 n47 n48 n49 n50 =>
  new h [.int .i64 0, .int .i64 0, .int .i64 0, .int .i64 0, .int .i64 0, .int .i64 0, .int .i64 0, .int .i64 0, .int .i64 0, .int .i64 0] 38 fun b51 h =>
  stRow h b51 0 0 [.int .i64 n41, .int .i64 n42, .int .i64 n43, .int .i64 n44, .int .i64 n45, .int .i64 n46, .int .i64 n47, .int .i64 n48, .int .i64 n49, .int .i64 n50] fun h =>
  ldI .i64 h b51 0 fun n52 =>
  ldI .i64 h b30 2 fun n53 =>
  ldI .i64 h b30 2 fun n54 =>
  ifB ((n54 : Int) == 0)
  (ldI .i64 h b51 2 fun n55 =>
  ldI .i64 h b33 2 fun n56 =>
  spec_l16Kill_j1 (fun b57 b58 b59 b60 b61 t62 n63 n64 h =>
  spec_l16Kill_l0 kx0 N b57 b58 b59 b60 b61 t62 n63 (IntKind.i64.wrap (n64 + 1)) h) (fun b65 b66 b67 b68 b69 t70 n71 n72 h =>
  spec_l16Kill_l0 kx0 N b65 b66 b67 b68 b69 t70 n71 (IntKind.i64.wrap (n72 + 1)) h) b29 b30 b31 b32 b33 t34 n35 n36 b51 ((n55 : Int) == n56) h)
  (spec_l16Kill_j1 (fun b73 b74 b75 b76 b77 t78 n79 n80 h =>
  spec_l16Kill_l0 kx0 N b73 b74 b75 b76 b77 t78 n79 (IntKind.i64.wrap (n80 + 1)) h) (fun b81 b82 b83 b84 b85 t86 n87 n88 h =>
  spec_l16Kill_l0 kx0 N b81 b82 b83 b84 b85 t86 n87 (IntKind.i64.wrap (n88 + 1)) h) b29 b30 b31 b32 b33 t34 n35 n36 b51 ((n52 : Int) == n53) h)))
  (kx0 b29 b31 b32 t34 n35 h)

def spec_l16Kill (kr : Nat → Nat → H → Prop) (a1 : Option Addr) (l1 : Nat) (c1 : Nat) (n2 : Int) (n3 : Int) (n4 : Int) (n5 : Int) (n6 : Int) (h : H) : Prop :=
  new h [.slice a1 l1 c1] 27 fun b7 h =>
  new h [.int .i64 n3, .int .i64 n4, .int .i64 n5, .int .i64 n6] 30 fun b8 h =>
  new h [.slice none 0 0] 27 fun b9 h =>
  new h [.int .i64 0, .int .i64 0, .int .i64 0] 34 fun b10 h =>
  ldI .i64 h b8 3 fun n11 =>
  ifB (decide ((n11 : Int) < 0))
  (ldRow h b7 0 0 [.slice] fun a12 l12 c12 =>
  stRow h b9 0 0 [.slice a12 l12 c12] fun h =>
  stRow h b10 0 0 [.int .i64 1, .int .i64 0, .int .i64 0] fun h =>
  kr b9 b10 h)
  (ldI .i64 h b8 3 fun n13 =>
  ifB (decide ((n13 : Int) > 15))
  (ldRow h b7 0 0 [.slice] fun a14 l14 c14 =>
  stRow h b9 0 0 [.slice a14 l14 c14] fun h =>
  stRow h b10 0 0 [.int .i64 1, .int .i64 0, .int .i64 0] fun h =>
  kr b9 b10 h)
  (ldL h b7 0 fun a15 l15 c15 =>
  req (0 ≤ (n2 : Int) ∧ (n2 : Int) < (l15 : Nat))
  (nz a15 fun b16 o17 =>
  ldRow h b16 (o17 + n2.toNat * 10) 0 [.int .i64, .int .i64, .int .i64, .int .i64, .int .i64, .int .i64, .int .i64, .int .i64, .int .i64, .int .i64] fun n18 n19 n20 n21 n22 n23 n24 n25 n26 n27 =>
  new h [.int .i64 0, .int .i64 0, .int .i64 0, .int .i64 0, .int .i64 0, .int .i64 0, .int .i64 0, .int .i64 0, .int .i64 0, .int .i64 0] 38 fun b28 h =>
  stRow h b28 0 0 [.int .i64 n18, .int .i64 n19, .int .i64 n20, .int .i64 n21, .int .i64 n22, .int .i64 n23, .int .i64 n24, .int .i64 n25, .int .i64 n26, .int .i64 n27] fun h =>
  ∃ M37, spec_l16Kill_l0 (fun b29 b30 b31 t32 n33 h =>
  ifB (!t32)
  (ldRow h b29 0 0 [.slice] fun a34 l34 c34 =>
  stRow h b30 0 0 [.slice a34 l34 c34] fun h =>
  stRow h b31 0 0 [.int .i64 3, .int .i64 0, .int .i64 0] fun h =>
  kr b30 b31 h)
  (ifB ((n33 : Int) == 0)
  (ldRow h b29 0 0 [.slice] fun a35 l35 c35 =>
  stRow h b30 0 0 [.slice a35 l35 c35] fun h =>
  stRow h b31 0 0 [.int .i64 2, .int .i64 0, .int .i64 0] fun h =>
  kr b30 b31 h)
  (ldRow h b29 0 0 [.slice] fun a36 l36 c36 =>
  stRow h b30 0 0 [.slice a36 l36 c36] fun h =>
  stRow h b31 0 0 [.int .i64 0, .int .i64 n33, .int .i64 0] fun h =>
  kr b30 b31 h))) M37 b7 b8 b9 b10 b28 false 0 0 h)))

theorem spec_l16Kill_j4_eq (K : Cont) (b84 : Nat) (b85 : Nat) (b86 : Nat) (b87 : Nat) (b88 : Nat) (t89 : Bool) (n90 : Int) (n91 : Int) (t92 : Bool) (h : H) :
  spec_l16Kill_j4 (curV [(3, .blk), (5, .blk), (6, .blk), (7, .blk), (8, .blk), (9, .bool), (10, .int .i64), (11, .int .i64)] (K .normal)) b84 b85 b86 b87 b88 t89 n90 n91 t92 h = evC Try.prog 109 [] [] (sub code51 [true, true, true, true, true, false, true, false, false, true, false, false, true, true, true, true, true, true, true, true]) [(3, .pointer (some ⟨b84, 0, none⟩)), (5, .pointer (some ⟨b85, 0, none⟩)), (6, .pointer (some ⟨b86, 0, none⟩)), (7, .pointer (some ⟨b87, 0, none⟩)), (8, .pointer (some ⟨b88, 0, none⟩)), (9, .bool t89), (10, .int .i64 n90), (11, .int .i64 n91), (87, .bool t92)] h (outsOf (some [(3, .blk), (5, .blk), (6, .blk), (7, .blk), (8, .blk), (9, .bool), (10, .int .i64), (11, .int .i64)]) [] none K).K := by kernel_rfl

def spec_l16Kill_j4_F : PT := mkF [(3, .blk), (5, .blk), (6, .blk), (7, .blk), (8, .blk), (9, .bool), (10, .int .i64), (11, .int .i64), (87, .bool)] fun K => spec_l16Kill_j4 (curV [(3, .blk), (5, .blk), (6, .blk), (7, .blk), (8, .blk), (9, .bool), (10, .int .i64), (11, .int .i64)] (K .normal))

theorem spec_l16Kill_j4_V : Valid Try.prog 109 (sub code51 [true, true, true, true, true, false, true, false, false, true, false, false, true, true, true, true, true, true, true, true]) spec_l16Kill_j4_F :=
  piece mixed rows_nil (fun K => by intro b84 b85 b86 b87 b88 t89 n90 n91 t92 h hd; exact (spec_l16Kill_j4_eq K b84 b85 b86 b87 b88 t89 n90 n91 t92 h) ▸ hd)

theorem spec_l16Kill_j3_eq (K : Cont) (b74 : Nat) (b75 : Nat) (b76 : Nat) (b77 : Nat) (b78 : Nat) (t79 : Bool) (n80 : Int) (n81 : Int) (b82 : Nat) (t83 : Bool) (h : H) :
  spec_l16Kill_j3 (curV [(3, .blk), (5, .blk), (6, .blk), (7, .blk), (8, .blk), (9, .bool), (10, .int .i64), (11, .int .i64)] (K .normal)) (curV [(3, .blk), (5, .blk), (6, .blk), (7, .blk), (8, .blk), (9, .bool), (10, .int .i64), (11, .int .i64)] (K (.exit 1))) b74 b75 b76 b77 b78 t79 n80 n81 b82 t83 h = evC Try.prog 109 [([true, true, true], spec_l16Kill_j4_F)] [] (sub code51 [true, true, true, true, true, false, true, false, false, true, false, false, true, true, true, true, true]) [(3, .pointer (some ⟨b74, 0, none⟩)), (5, .pointer (some ⟨b75, 0, none⟩)), (6, .pointer (some ⟨b76, 0, none⟩)), (7, .pointer (some ⟨b77, 0, none⟩)), (8, .pointer (some ⟨b78, 0, none⟩)), (9, .bool t79), (10, .int .i64 n80), (11, .int .i64 n81), (12, .pointer (some ⟨b82, 0, none⟩)), (13, .bool t83)] h (outsOf (some [(3, .blk), (5, .blk), (6, .blk), (7, .blk), (8, .blk), (9, .bool), (10, .int .i64), (11, .int .i64)]) [(1, [(3, .blk), (5, .blk), (6, .blk), (7, .blk), (8, .blk), (9, .bool), (10, .int .i64), (11, .int .i64)])] none K).K := by kernel_rfl

def spec_l16Kill_j3_F : PT := mkF [(3, .blk), (5, .blk), (6, .blk), (7, .blk), (8, .blk), (9, .bool), (10, .int .i64), (11, .int .i64), (12, .blk), (13, .bool)] fun K => spec_l16Kill_j3 (curV [(3, .blk), (5, .blk), (6, .blk), (7, .blk), (8, .blk), (9, .bool), (10, .int .i64), (11, .int .i64)] (K .normal)) (curV [(3, .blk), (5, .blk), (6, .blk), (7, .blk), (8, .blk), (9, .bool), (10, .int .i64), (11, .int .i64)] (K (.exit 1)))

theorem spec_l16Kill_j3_V : Valid Try.prog 109 (sub code51 [true, true, true, true, true, false, true, false, false, true, false, false, true, true, true, true, true]) spec_l16Kill_j3_F :=
  piece mixed (rows_cons (q' := [true, true, true]) (valid_at (p := [true, true, true, true, true, false, true, false, false, true, false, false, true, true, true, true, true]) spec_l16Kill_j4_V rfl) rfl rows_nil) (fun K => by intro b74 b75 b76 b77 b78 t79 n80 n81 b82 t83 h hd; exact (spec_l16Kill_j3_eq K b74 b75 b76 b77 b78 t79 n80 n81 b82 t83 h) ▸ hd)

theorem spec_l16Kill_j2_eq (K : Cont) (b64 : Nat) (b65 : Nat) (b66 : Nat) (b67 : Nat) (b68 : Nat) (t69 : Bool) (n70 : Int) (n71 : Int) (b72 : Nat) (t73 : Bool) (h : H) :
  spec_l16Kill_j2 (curV [(3, .blk), (5, .blk), (6, .blk), (7, .blk), (8, .blk), (9, .bool), (10, .int .i64), (11, .int .i64)] (K .normal)) (curV [(3, .blk), (5, .blk), (6, .blk), (7, .blk), (8, .blk), (9, .bool), (10, .int .i64), (11, .int .i64)] (K (.exit 1))) b64 b65 b66 b67 b68 t69 n70 n71 b72 t73 h = evC Try.prog 109 [([true], spec_l16Kill_j3_F)] [] (sub code51 [true, true, true, true, true, false, true, false, false, true, false, false, true, true, true, true]) [(3, .pointer (some ⟨b64, 0, none⟩)), (5, .pointer (some ⟨b65, 0, none⟩)), (6, .pointer (some ⟨b66, 0, none⟩)), (7, .pointer (some ⟨b67, 0, none⟩)), (8, .pointer (some ⟨b68, 0, none⟩)), (9, .bool t69), (10, .int .i64 n70), (11, .int .i64 n71), (12, .pointer (some ⟨b72, 0, none⟩)), (13, .bool t73)] h (outsOf (some [(3, .blk), (5, .blk), (6, .blk), (7, .blk), (8, .blk), (9, .bool), (10, .int .i64), (11, .int .i64)]) [(1, [(3, .blk), (5, .blk), (6, .blk), (7, .blk), (8, .blk), (9, .bool), (10, .int .i64), (11, .int .i64)])] none K).K := by kernel_rfl

def spec_l16Kill_j2_F : PT := mkF [(3, .blk), (5, .blk), (6, .blk), (7, .blk), (8, .blk), (9, .bool), (10, .int .i64), (11, .int .i64), (12, .blk), (13, .bool)] fun K => spec_l16Kill_j2 (curV [(3, .blk), (5, .blk), (6, .blk), (7, .blk), (8, .blk), (9, .bool), (10, .int .i64), (11, .int .i64)] (K .normal)) (curV [(3, .blk), (5, .blk), (6, .blk), (7, .blk), (8, .blk), (9, .bool), (10, .int .i64), (11, .int .i64)] (K (.exit 1)))

theorem spec_l16Kill_j2_V : Valid Try.prog 109 (sub code51 [true, true, true, true, true, false, true, false, false, true, false, false, true, true, true, true]) spec_l16Kill_j2_F :=
  piece mixed (rows_cons (q' := [true]) (valid_at (p := [true, true, true, true, true, false, true, false, false, true, false, false, true, true, true, true]) spec_l16Kill_j3_V rfl) rfl rows_nil) (fun K => by intro b64 b65 b66 b67 b68 t69 n70 n71 b72 t73 h hd; exact (spec_l16Kill_j2_eq K b64 b65 b66 b67 b68 t69 n70 n71 b72 t73 h) ▸ hd)

theorem spec_l16Kill_j1_eq (K : Cont) (b54 : Nat) (b55 : Nat) (b56 : Nat) (b57 : Nat) (b58 : Nat) (t59 : Bool) (n60 : Int) (n61 : Int) (b62 : Nat) (t63 : Bool) (h : H) :
  spec_l16Kill_j1 (curV [(3, .blk), (5, .blk), (6, .blk), (7, .blk), (8, .blk), (9, .bool), (10, .int .i64), (11, .int .i64)] (K .normal)) (curV [(3, .blk), (5, .blk), (6, .blk), (7, .blk), (8, .blk), (9, .bool), (10, .int .i64), (11, .int .i64)] (K (.exit 1))) b54 b55 b56 b57 b58 t59 n60 n61 b62 t63 h = evC Try.prog 109 [([true], spec_l16Kill_j2_F)] [] (sub code51 [true, true, true, true, true, false, true, false, false, true, false, false, true, true, true]) [(3, .pointer (some ⟨b54, 0, none⟩)), (5, .pointer (some ⟨b55, 0, none⟩)), (6, .pointer (some ⟨b56, 0, none⟩)), (7, .pointer (some ⟨b57, 0, none⟩)), (8, .pointer (some ⟨b58, 0, none⟩)), (9, .bool t59), (10, .int .i64 n60), (11, .int .i64 n61), (12, .pointer (some ⟨b62, 0, none⟩)), (13, .bool t63)] h (outsOf (some [(3, .blk), (5, .blk), (6, .blk), (7, .blk), (8, .blk), (9, .bool), (10, .int .i64), (11, .int .i64)]) [(1, [(3, .blk), (5, .blk), (6, .blk), (7, .blk), (8, .blk), (9, .bool), (10, .int .i64), (11, .int .i64)])] none K).K := by kernel_rfl

def spec_l16Kill_j1_F : PT := mkF [(3, .blk), (5, .blk), (6, .blk), (7, .blk), (8, .blk), (9, .bool), (10, .int .i64), (11, .int .i64), (12, .blk), (13, .bool)] fun K => spec_l16Kill_j1 (curV [(3, .blk), (5, .blk), (6, .blk), (7, .blk), (8, .blk), (9, .bool), (10, .int .i64), (11, .int .i64)] (K .normal)) (curV [(3, .blk), (5, .blk), (6, .blk), (7, .blk), (8, .blk), (9, .bool), (10, .int .i64), (11, .int .i64)] (K (.exit 1)))

theorem spec_l16Kill_j1_V : Valid Try.prog 109 (sub code51 [true, true, true, true, true, false, true, false, false, true, false, false, true, true, true]) spec_l16Kill_j1_F :=
  piece mixed (rows_cons (q' := [true]) (valid_at (p := [true, true, true, true, true, false, true, false, false, true, false, false, true, true, true]) spec_l16Kill_j2_V rfl) rfl rows_nil) (fun K => by intro b54 b55 b56 b57 b58 t59 n60 n61 b62 t63 h hd; exact (spec_l16Kill_j1_eq K b54 b55 b56 b57 b58 t59 n60 n61 b62 t63 h) ▸ hd)

theorem spec_l16Kill_l0_eq (K : Cont) (N : Nat) (b29 : Nat) (b30 : Nat) (b31 : Nat) (b32 : Nat) (b33 : Nat) (t34 : Bool) (n35 : Int) (n36 : Int) (h : H) :
  spec_l16Kill_l0 (curV [(3, .blk), (6, .blk), (7, .blk), (9, .bool), (10, .int .i64)] (K (.exit 0))) (N + 1) b29 b30 b31 b32 b33 t34 n35 n36 h = evC Try.prog 109 [([true, true, true, false, false, true], spec_l16Kill_j1_F)] [] (sub code51 [true, true, true, true, true, false, true, false, false]) [(3, .pointer (some ⟨b29, 0, none⟩)), (5, .pointer (some ⟨b30, 0, none⟩)), (6, .pointer (some ⟨b31, 0, none⟩)), (7, .pointer (some ⟨b32, 0, none⟩)), (8, .pointer (some ⟨b33, 0, none⟩)), (9, .bool t34), (10, .int .i64 n35), (11, .int .i64 n36)] h ((outsOf none [(0, [(3, .blk), (6, .blk), (7, .blk), (9, .bool), (10, .int .i64)])] none K).loop [(3, .blk), (5, .blk), (6, .blk), (7, .blk), (8, .blk), (9, .bool), (10, .int .i64), (11, .int .i64)] (spec_l16Kill_l0 (curV [(3, .blk), (6, .blk), (7, .blk), (9, .bool), (10, .int .i64)] (K (.exit 0))) N)).K := by kernel_rfl

def spec_l16Kill_l0_F : PT := mkL [(3, .blk), (5, .blk), (6, .blk), (7, .blk), (8, .blk), (9, .bool), (10, .int .i64), (11, .int .i64)] fun K N => spec_l16Kill_l0 (curV [(3, .blk), (6, .blk), (7, .blk), (9, .bool), (10, .int .i64)] (K (.exit 0))) N

theorem spec_l16Kill_l0_V : Valid Try.prog 109 (sub code51 [true, true, true, true, true, false, true, false]) spec_l16Kill_l0_F :=
  loop_at (code51) [true, true, true, true, true, false, true, false] (loop_piece (c := (sub code51 [true, true, true, true, true, false, true, false, false])) mixed (rows_cons (q' := [true, false, false, true, true, true]) (valid_at (p := [true, true, true, true, true, false, true, false, false]) spec_l16Kill_j1_V rfl) rfl rows_nil) (fun K => by intro b29 b30 b31 b32 b33 t34 n35 n36 h hd; exact hd) (fun K N => by intro b29 b30 b31 b32 b33 t34 n35 n36 h hd; exact (spec_l16Kill_l0_eq K N b29 b30 b31 b32 b33 t34 n35 n36 h) ▸ hd))

theorem spec_l16Kill_eq (K : Cont) (a1 : Option Addr) (l1 : Nat) (c1 : Nat) (n2 : Int) (n3 : Int) (n4 : Int) (n5 : Int) (n6 : Int) (h : H) :
  spec_l16Kill (curV [(6, .blk), (7, .blk)] (K .ret)) a1 l1 c1 n2 n3 n4 n5 n6 h = evC Try.prog 109 [([false, false, true, false, true, true, true, true, true], spec_l16Kill_l0_F)] [] code51 [(0, .agg ⟨[.slice a1 l1 c1]⟩), (1, .int .i64 n2), (2, .agg ⟨[.int .i64 n3, .int .i64 n4, .int .i64 n5, .int .i64 n6]⟩)] h (outsOf none [] (some [(6, .blk), (7, .blk)]) K).K := by kernel_rfl

def spec_l16Kill_F : PT := mkF [(0, .agg [.slice]), (1, .int .i64), (2, .agg [.int .i64, .int .i64, .int .i64, .int .i64])] fun K => spec_l16Kill (curV [(6, .blk), (7, .blk)] (K .ret))

theorem spec_l16Kill_V : Valid Try.prog 109 code51 spec_l16Kill_F :=
  piece mixed (rows_cons (q' := [true, true, true, true, true, false, true, false]) spec_l16Kill_l0_V rfl rows_nil) (fun K => by intro a1 l1 c1 n2 n3 n4 n5 n6 h hd; exact (spec_l16Kill_eq K a1 l1 c1 n2 n3 n4 n5 n6 h) ▸ hd)

theorem spec_l16Kill_c0 (a1 : Option Addr) (l1 : Nat) (c1 : Nat) (n2 : Int) (n3 : Int) (n4 : Int) (n5 : Int) (n6 : Int) (h : H) (K : Value → H → Prop) :
  spec_l16Kill (fun b100001 b100002 h =>
  ldRow h b100001 0 0 [.slice] fun a100003 l100003 c100003 =>
  ldRow h b100002 0 0 [.int .i64, .int .i64, .int .i64] fun n100004 n100005 n100006 =>
  K (.tuple ⟨[.agg ⟨[.slice a100003 l100003 c100003]⟩, .agg ⟨[.int .i64 n100004, .int .i64 n100005, .int .i64 n100006]⟩]⟩) h) a1 l1 c1 n2 n3 n4 n5 n6 h = callF Try.prog Try.f51.results.toList spec_l16Kill_F [.agg ⟨[.slice a1 l1 c1]⟩, .int .i64 n2, .agg ⟨[.int .i64 n3, .int .i64 n4, .int .i64 n5, .int .i64 n6]⟩] h K := by kernel_rfl

theorem spec_l16Kill_call {a1 : Option Addr} {l1 : Nat} {c1 : Nat} {n2 : Int} {n3 : Int} {n4 : Int} {n5 : Int} {n6 : Int} {h : H} {K : Value → H → Prop} (hs : spec_l16Kill (fun b100001 b100002 h =>
  ldRow h b100001 0 0 [.slice] fun a100003 l100003 c100003 =>
  ldRow h b100002 0 0 [.int .i64, .int .i64, .int .i64] fun n100004 n100005 n100006 =>
  K (.tuple ⟨[.agg ⟨[.slice a100003 l100003 c100003]⟩, .agg ⟨[.int .i64 n100004, .int .i64 n100005, .int .i64 n100006]⟩]⟩) h) a1 l1 c1 n2 n3 n4 n5 n6 h) : callK Try.prog 51 ⟨[.agg ⟨[.slice a1 l1 c1]⟩, .int .i64 n2, .agg ⟨[.int .i64 n3, .int .i64 n4, .int .i64 n5, .int .i64 n6]⟩]⟩ h K :=
  func_calls Try.func51 body51 spec_l16Kill_V (Nat.le_of_ble_eq_true (by kernel_rfl)) (spec_l16Kill_c0 a1 l1 c1 n2 n3 n4 n5 n6 h K ▸ hs)

def spec_l16Kill_M_j4 (kn : Bool → Int → Int → Option Addr → Nat → Nat → Int → Int → Int → Int → Int → H → Prop) (t175 : Bool) (n176 : Int) (n177 : Int) (t178 : Bool) (a179 : Option Addr) (l179 : Nat) (c179 : Nat) (n183 : Int) (n184 : Int) (n192 : Int) (n194 : Int) (n195 : Int) (h : H) : Prop :=
  ifB t178
  (ifB (decide ((n184 : Int) > 0))
  (callD Try.prog 61 ⟨[.agg ⟨[.slice a179 l179 c179]⟩, .int .i64 n177, .int .i64 n184]⟩ h fun v203 h =>
  elF False (.tuple []) v203
  (kn t175 (IntKind.i64.wrap (n176 + 1)) n177 a179 l179 c179 n183 n184 n192 n194 n195 h))
  (kn t175 (IntKind.i64.wrap (n176 + 1)) n177 a179 l179 c179 n183 n184 n192 n194 n195 h))
  (kn t175 n176 n177 a179 l179 c179 n183 n184 n192 n194 n195 h)

def spec_l16Kill_M_j3 (kn : Bool → Int → Int → Option Addr → Nat → Nat → Int → Int → Int → Int → Int → H → Prop) (kx1 : Bool → Int → Int → Option Addr → Nat → Nat → Int → Int → Int → Int → Int → H → Prop) (t136 : Bool) (n137 : Int) (n138 : Int) (t139 : Bool) (a140 : Option Addr) (l140 : Nat) (c140 : Nat) (n144 : Int) (n145 : Int) (n153 : Int) (n155 : Int) (n156 : Int) (n167 : Int) (h : H) : Prop :=
  ifB (!t139)
  (kx1 t136 n137 n138 a140 l140 c140 n144 n145 n153 n155 n156 h)
  (ifB ((n156 : Int) == 0)
  (spec_l16Kill_M_j4 kn true n137 n138 true a140 l140 c140 n144 n145 n153 n155 n156 h)
  (spec_l16Kill_M_j4 kn true n137 n138 ((n156 : Int) == n167) a140 l140 c140 n144 n145 n153 n155 n156 h))

def spec_l16Kill_M_j2 (kn : Bool → Int → Int → Option Addr → Nat → Nat → Int → Int → Int → Int → Int → H → Prop) (kx1 : Bool → Int → Int → Option Addr → Nat → Nat → Int → Int → Int → Int → Int → H → Prop) (t97 : Bool) (n98 : Int) (n99 : Int) (t100 : Bool) (a101 : Option Addr) (l101 : Nat) (c101 : Nat) (n105 : Int) (n106 : Int) (n114 : Int) (n116 : Int) (n117 : Int) (n127 : Int) (n128 : Int) (h : H) : Prop :=
  ifB (decide ((n105 : Int) < (-1)))
  (spec_l16Kill_M_j3 kn kx1 t97 n98 n99 ((n127 : Int) == (IntKind.i64.wrap (0 - n105))) a101 l101 c101 n105 n106 n114 n116 n117 n128 h)
  (spec_l16Kill_M_j3 kn kx1 t97 n98 n99 t100 a101 l101 c101 n105 n106 n114 n116 n117 n128 h)

def spec_l16Kill_M_j1 (kn : Bool → Int → Int → Option Addr → Nat → Nat → Int → Int → Int → Int → Int → H → Prop) (kx1 : Bool → Int → Int → Option Addr → Nat → Nat → Int → Int → Int → Int → Int → H → Prop) (t58 : Bool) (n59 : Int) (n60 : Int) (t61 : Bool) (a62 : Option Addr) (l62 : Nat) (c62 : Nat) (n66 : Int) (n67 : Int) (n75 : Int) (n77 : Int) (n78 : Int) (n86 : Int) (n88 : Int) (n89 : Int) (h : H) : Prop :=
  ifB ((n66 : Int) == (-1))
  (ifB ((n86 : Int) != 1)
  (spec_l16Kill_M_j2 kn kx1 t58 n59 n60 ((n86 : Int) != n75) a62 l62 c62 n66 n67 n75 n77 n78 n88 n89 h)
  (spec_l16Kill_M_j2 kn kx1 t58 n59 n60 false a62 l62 c62 n66 n67 n75 n77 n78 n88 n89 h))
  (spec_l16Kill_M_j2 kn kx1 t58 n59 n60 t61 a62 l62 c62 n66 n67 n75 n77 n78 n88 n89 h)

def spec_l16Kill_M_l0 (kx0 : Bool → Int → Option Addr → Nat → Nat → H → Prop) : Nat → Bool → Int → Int → Option Addr → Nat → Nat → Int → Int → Int → Int → Int → H → Prop
 | 0, _, _, _, _, _, _, _, _, _, _, _, _ => False
 | N + 1, t19, n20, n21, a22, l22, c22, n26, n27, n35, n37, n38, h =>
  ifB (decide ((n21 : Int) < (l22 : Nat)))
  (req (0 ≤ (n21 : Int) ∧ (n21 : Int) < (l22 : Nat))
  (nz a22 fun b46 o47 =>
  ldRow h b46 (o47 + n21.toNat * 10) 0 [.int .i64, .int .i64, .int .i64, .int .i64, .int .i64, .int .i64, .int .i64, .int .i64, .int .i64, .int .i64] fun n48 n49 n50 n51 n52 n53 n54 n55 n56 n57 =>
  ifB ((n26 : Int) == 0)
  (spec_l16Kill_M_j1 (fun t58 n59 n60 a61 l61 c61 n65 n66 n74 n76 n77 h =>
  spec_l16Kill_M_l0 kx0 N t58 n59 (IntKind.i64.wrap (n60 + 1)) a61 l61 c61 n65 n66 n74 n76 n77 h) (fun t85 n86 n87 a88 l88 c88 n92 n93 n101 n103 n104 h =>
  spec_l16Kill_M_l0 kx0 N t85 n86 (IntKind.i64.wrap (n87 + 1)) a88 l88 c88 n92 n93 n101 n103 n104 h) t19 n20 n21 ((n50 : Int) == n37) a22 l22 c22 n26 n27 n35 n37 n38 n48 n50 n51 h)
  (spec_l16Kill_M_j1 (fun t112 n113 n114 a115 l115 c115 n119 n120 n128 n130 n131 h =>
  spec_l16Kill_M_l0 kx0 N t112 n113 (IntKind.i64.wrap (n114 + 1)) a115 l115 c115 n119 n120 n128 n130 n131 h) (fun t139 n140 n141 a142 l142 c142 n146 n147 n155 n157 n158 h =>
  spec_l16Kill_M_l0 kx0 N t139 n140 (IntKind.i64.wrap (n141 + 1)) a142 l142 c142 n146 n147 n155 n157 n158 h) t19 n20 n21 ((n48 : Int) == n26) a22 l22 c22 n26 n27 n35 n37 n38 n48 n50 n51 h)))
  (kx0 t19 n20 a22 l22 c22 h)

def spec_l16Kill_M (kr : Option Addr → Nat → Nat → Int → Int → Int → H → Prop) (a1 : Option Addr) (l1 : Nat) (c1 : Nat) (n2 : Int) (n3 : Int) (n4 : Int) (n5 : Int) (n6 : Int) (h : H) : Prop :=
  ifB (decide ((n6 : Int) < 0))
  (kr a1 l1 c1 1 0 0 h)
  (ifB (decide ((n6 : Int) > 15))
  (kr a1 l1 c1 1 0 0 h)
  (req (0 ≤ (n2 : Int) ∧ (n2 : Int) < (l1 : Nat))
  (nz a1 fun b7 o8 =>
  ldRow h b7 (o8 + n2.toNat * 10) 0 [.int .i64, .int .i64, .int .i64, .int .i64, .int .i64, .int .i64, .int .i64, .int .i64, .int .i64, .int .i64] fun n9 n10 n11 n12 n13 n14 n15 n16 n17 n18 =>
  ∃ M29, spec_l16Kill_M_l0 (fun t19 n20 a21 l21 c21 h =>
  ifB (!t19)
  (kr a21 l21 c21 3 0 0 h)
  (ifB ((n20 : Int) == 0)
  (kr a21 l21 c21 2 0 0 h)
  (kr a21 l21 c21 0 n20 0 h))) M29 false 0 0 a1 l1 c1 n5 n6 n9 n11 n12 h)))

theorem spec_l16Kill_M_j4_D {g0 m0 : H} {kn_1 : Nat → Nat → Nat → Nat → Nat → Bool → Int → Int → H → Prop} {kn_2 : Bool → Int → Int → Option Addr → Nat → Nat → Int → Int → Int → Int → Int → H → Prop} (Hkn : ∀ (t200001 : Bool) (n200002 : Int) (n200003 : Int) (a200004 : Option Addr) (l200004 : Nat) (c200004 : Nat) (n200006 : Int) (n200007 : Int) (n200008 : Int) (n200009 : Int) (a200011 : Option Addr) (l200011 : Nat) (c200011 : Nat) (n200013 : Int) (n200014 : Int) (n200015 : Int) (n200017 : Int) (n200018 : Int) (n200019 : Int) (n200020 : Int) (n200021 : Int) (n200022 : Int) (n200023 : Int) (n200024 : Int) (n200025 : Int) (n200026 : Int) (p200005 : Nat) (p200010 : Nat) (p200012 : Nat) (p200016 : Nat) (p200027 : Nat) (g m : H), Md g0 m0 g m [lo p200005 [.slice a200004 l200004 c200004], lo p200010 [.int .i64 n200006, .int .i64 n200007, .int .i64 n200008, .int .i64 n200009], lo p200012 [.slice a200011 l200011 c200011], lo p200016 [.int .i64 n200013, .int .i64 n200014, .int .i64 n200015], lo p200027 [.int .i64 n200017, .int .i64 n200018, .int .i64 n200019, .int .i64 n200020, .int .i64 n200021, .int .i64 n200022, .int .i64 n200023, .int .i64 n200024, .int .i64 n200025, .int .i64 n200026]] → kn_2 t200001 n200002 n200003 a200004 l200004 c200004 n200008 n200009 n200017 n200019 n200020 m → kn_1 p200005 p200010 p200012 p200016 p200027 t200001 n200002 n200003 g) : ∀ (t1175 : Bool) (n1176 : Int) (n1177 : Int) (t1178 : Bool) (a1179 : Option Addr) (l1179 : Nat) (c1179 : Nat) (n1181 : Int) (n1182 : Int) (n1183 : Int) (n1184 : Int) (a1186 : Option Addr) (l1186 : Nat) (c1186 : Nat) (n1188 : Int) (n1189 : Int) (n1190 : Int) (n1192 : Int) (n1193 : Int) (n1194 : Int) (n1195 : Int) (n1196 : Int) (n1197 : Int) (n1198 : Int) (n1199 : Int) (n1200 : Int) (n1201 : Int) (p1180 : Nat) (p1185 : Nat) (p1187 : Nat) (p1191 : Nat) (p1202 : Nat) (g m : H), Md g0 m0 g m [lo p1180 [.slice a1179 l1179 c1179], lo p1185 [.int .i64 n1181, .int .i64 n1182, .int .i64 n1183, .int .i64 n1184], lo p1187 [.slice a1186 l1186 c1186], lo p1191 [.int .i64 n1188, .int .i64 n1189, .int .i64 n1190], lo p1202 [.int .i64 n1192, .int .i64 n1193, .int .i64 n1194, .int .i64 n1195, .int .i64 n1196, .int .i64 n1197, .int .i64 n1198, .int .i64 n1199, .int .i64 n1200, .int .i64 n1201]] → spec_l16Kill_M_j4 kn_2 t1175 n1176 n1177 t1178 a1179 l1179 c1179 n1183 n1184 n1192 n1194 n1195 m → spec_l16Kill_j4 kn_1 p1180 p1185 p1187 p1191 p1202 t1175 n1176 n1177 t1178 g := by
  intro t1175 n1176 n1177 t1178 a1179 l1179 c1179 n1181 n1182 n1183 n1184 a1186 l1186 c1186 n1188 n1189 n1190 n1192 n1193 n1194 n1195 n1196 n1197 n1198 n1199 n1200 n1201 p1180 p1185 p1187 p1191 p1202 g m R
  rw [spec_l16Kill_M_j4, spec_l16Kill_j4]
  exact (d_if (p_ldI R rfl (d_if (p_row_L R rfl (p_ldI R rfl (d_call R fun v1203 g m R =>
  (d_el_TE (Hkn t1175 (IntKind.i64.wrap (n1176 + 1)) n1177 a1179 l1179 c1179 n1181 n1182 n1183 n1184 a1186 l1186 c1186 n1188 n1189 n1190 n1192 n1193 n1194 n1195 n1196 n1197 n1198 n1199 n1200 n1201 p1180 p1185 p1187 p1191 p1202 _ _ R.sub)))))
  (Hkn t1175 (IntKind.i64.wrap (n1176 + 1)) n1177 a1179 l1179 c1179 n1181 n1182 n1183 n1184 a1186 l1186 c1186 n1188 n1189 n1190 n1192 n1193 n1194 n1195 n1196 n1197 n1198 n1199 n1200 n1201 p1180 p1185 p1187 p1191 p1202 _ _ R.sub)))
  (Hkn t1175 n1176 n1177 a1179 l1179 c1179 n1181 n1182 n1183 n1184 a1186 l1186 c1186 n1188 n1189 n1190 n1192 n1193 n1194 n1195 n1196 n1197 n1198 n1199 n1200 n1201 p1180 p1185 p1187 p1191 p1202 _ _ R.sub))

theorem spec_l16Kill_M_j3_D {g0 m0 : H} {kn_1 : Nat → Nat → Nat → Nat → Nat → Bool → Int → Int → H → Prop} {kn_2 : Bool → Int → Int → Option Addr → Nat → Nat → Int → Int → Int → Int → Int → H → Prop} (Hkn : ∀ (t200001 : Bool) (n200002 : Int) (n200003 : Int) (a200004 : Option Addr) (l200004 : Nat) (c200004 : Nat) (n200006 : Int) (n200007 : Int) (n200008 : Int) (n200009 : Int) (a200011 : Option Addr) (l200011 : Nat) (c200011 : Nat) (n200013 : Int) (n200014 : Int) (n200015 : Int) (n200017 : Int) (n200018 : Int) (n200019 : Int) (n200020 : Int) (n200021 : Int) (n200022 : Int) (n200023 : Int) (n200024 : Int) (n200025 : Int) (n200026 : Int) (p200005 : Nat) (p200010 : Nat) (p200012 : Nat) (p200016 : Nat) (p200027 : Nat) (g m : H), Md g0 m0 g m [lo p200005 [.slice a200004 l200004 c200004], lo p200010 [.int .i64 n200006, .int .i64 n200007, .int .i64 n200008, .int .i64 n200009], lo p200012 [.slice a200011 l200011 c200011], lo p200016 [.int .i64 n200013, .int .i64 n200014, .int .i64 n200015], lo p200027 [.int .i64 n200017, .int .i64 n200018, .int .i64 n200019, .int .i64 n200020, .int .i64 n200021, .int .i64 n200022, .int .i64 n200023, .int .i64 n200024, .int .i64 n200025, .int .i64 n200026]] → kn_2 t200001 n200002 n200003 a200004 l200004 c200004 n200008 n200009 n200017 n200019 n200020 m → kn_1 p200005 p200010 p200012 p200016 p200027 t200001 n200002 n200003 g)
  {kx1_1 : Nat → Nat → Nat → Nat → Nat → Bool → Int → Int → H → Prop} {kx1_2 : Bool → Int → Int → Option Addr → Nat → Nat → Int → Int → Int → Int → Int → H → Prop} (Hkx1 : ∀ (t200001 : Bool) (n200002 : Int) (n200003 : Int) (a200004 : Option Addr) (l200004 : Nat) (c200004 : Nat) (n200006 : Int) (n200007 : Int) (n200008 : Int) (n200009 : Int) (a200011 : Option Addr) (l200011 : Nat) (c200011 : Nat) (n200013 : Int) (n200014 : Int) (n200015 : Int) (n200017 : Int) (n200018 : Int) (n200019 : Int) (n200020 : Int) (n200021 : Int) (n200022 : Int) (n200023 : Int) (n200024 : Int) (n200025 : Int) (n200026 : Int) (p200005 : Nat) (p200010 : Nat) (p200012 : Nat) (p200016 : Nat) (p200027 : Nat) (g m : H), Md g0 m0 g m [lo p200005 [.slice a200004 l200004 c200004], lo p200010 [.int .i64 n200006, .int .i64 n200007, .int .i64 n200008, .int .i64 n200009], lo p200012 [.slice a200011 l200011 c200011], lo p200016 [.int .i64 n200013, .int .i64 n200014, .int .i64 n200015], lo p200027 [.int .i64 n200017, .int .i64 n200018, .int .i64 n200019, .int .i64 n200020, .int .i64 n200021, .int .i64 n200022, .int .i64 n200023, .int .i64 n200024, .int .i64 n200025, .int .i64 n200026]] → kx1_2 t200001 n200002 n200003 a200004 l200004 c200004 n200008 n200009 n200017 n200019 n200020 m → kx1_1 p200005 p200010 p200012 p200016 p200027 t200001 n200002 n200003 g) : ∀ (t1136 : Bool) (n1137 : Int) (n1138 : Int) (t1139 : Bool) (a1140 : Option Addr) (l1140 : Nat) (c1140 : Nat) (n1142 : Int) (n1143 : Int) (n1144 : Int) (n1145 : Int) (a1147 : Option Addr) (l1147 : Nat) (c1147 : Nat) (n1149 : Int) (n1150 : Int) (n1151 : Int) (n1153 : Int) (n1154 : Int) (n1155 : Int) (n1156 : Int) (n1157 : Int) (n1158 : Int) (n1159 : Int) (n1160 : Int) (n1161 : Int) (n1162 : Int) (n1164 : Int) (n1165 : Int) (n1166 : Int) (n1167 : Int) (n1168 : Int) (n1169 : Int) (n1170 : Int) (n1171 : Int) (n1172 : Int) (n1173 : Int) (p1141 : Nat) (p1146 : Nat) (p1148 : Nat) (p1152 : Nat) (p1163 : Nat) (p1174 : Nat) (g m : H), Md g0 m0 g m [lo p1141 [.slice a1140 l1140 c1140], lo p1146 [.int .i64 n1142, .int .i64 n1143, .int .i64 n1144, .int .i64 n1145], lo p1148 [.slice a1147 l1147 c1147], lo p1152 [.int .i64 n1149, .int .i64 n1150, .int .i64 n1151], lo p1163 [.int .i64 n1153, .int .i64 n1154, .int .i64 n1155, .int .i64 n1156, .int .i64 n1157, .int .i64 n1158, .int .i64 n1159, .int .i64 n1160, .int .i64 n1161, .int .i64 n1162], lo p1174 [.int .i64 n1164, .int .i64 n1165, .int .i64 n1166, .int .i64 n1167, .int .i64 n1168, .int .i64 n1169, .int .i64 n1170, .int .i64 n1171, .int .i64 n1172, .int .i64 n1173]] → spec_l16Kill_M_j3 kn_2 kx1_2 t1136 n1137 n1138 t1139 a1140 l1140 c1140 n1144 n1145 n1153 n1155 n1156 n1167 m → spec_l16Kill_j3 kn_1 kx1_1 p1141 p1146 p1148 p1152 p1163 t1136 n1137 n1138 p1174 t1139 g := by
  intro t1136 n1137 n1138 t1139 a1140 l1140 c1140 n1142 n1143 n1144 n1145 a1147 l1147 c1147 n1149 n1150 n1151 n1153 n1154 n1155 n1156 n1157 n1158 n1159 n1160 n1161 n1162 n1164 n1165 n1166 n1167 n1168 n1169 n1170 n1171 n1172 n1173 p1141 p1146 p1148 p1152 p1163 p1174 g m R
  rw [spec_l16Kill_M_j3, spec_l16Kill_j3]
  exact (d_if (Hkx1 t1136 n1137 n1138 a1140 l1140 c1140 n1142 n1143 n1144 n1145 a1147 l1147 c1147 n1149 n1150 n1151 n1153 n1154 n1155 n1156 n1157 n1158 n1159 n1160 n1161 n1162 p1141 p1146 p1148 p1152 p1163 _ _ R.sub)
  (p_ldI R rfl (d_if (spec_l16Kill_M_j4_D (by exact fun t1175 n1176 n1177 a1178 l1178 c1178 n1180 n1181 n1182 n1183 a1185 l1185 c1185 n1187 n1188 n1189 n1191 n1192 n1193 n1194 n1195 n1196 n1197 n1198 n1199 n1200 p1179 p1184 p1186 p1190 p1201 g m R =>
  (Hkn t1175 n1176 n1177 a1178 l1178 c1178 n1180 n1181 n1182 n1183 a1185 l1185 c1185 n1187 n1188 n1189 n1191 n1192 n1193 n1194 n1195 n1196 n1197 n1198 n1199 n1200 p1179 p1184 p1186 p1190 p1201 _ _ R.sub)) true n1137 n1138 true a1140 l1140 c1140 n1142 n1143 n1144 n1145 a1147 l1147 c1147 n1149 n1150 n1151 n1153 n1154 n1155 n1156 n1157 n1158 n1159 n1160 n1161 n1162 p1141 p1146 p1148 p1152 p1163 _ _ R.sub)
  (p_ldI R rfl (p_ldI R rfl (spec_l16Kill_M_j4_D (by exact fun t1202 n1203 n1204 a1205 l1205 c1205 n1207 n1208 n1209 n1210 a1212 l1212 c1212 n1214 n1215 n1216 n1218 n1219 n1220 n1221 n1222 n1223 n1224 n1225 n1226 n1227 p1206 p1211 p1213 p1217 p1228 g m R =>
  (Hkn t1202 n1203 n1204 a1205 l1205 c1205 n1207 n1208 n1209 n1210 a1212 l1212 c1212 n1214 n1215 n1216 n1218 n1219 n1220 n1221 n1222 n1223 n1224 n1225 n1226 n1227 p1206 p1211 p1213 p1217 p1228 _ _ R.sub)) true n1137 n1138 ((n1156 : Int) == n1167) a1140 l1140 c1140 n1142 n1143 n1144 n1145 a1147 l1147 c1147 n1149 n1150 n1151 n1153 n1154 n1155 n1156 n1157 n1158 n1159 n1160 n1161 n1162 p1141 p1146 p1148 p1152 p1163 _ _ R.sub))))))

theorem spec_l16Kill_M_j2_D {g0 m0 : H} {kn_1 : Nat → Nat → Nat → Nat → Nat → Bool → Int → Int → H → Prop} {kn_2 : Bool → Int → Int → Option Addr → Nat → Nat → Int → Int → Int → Int → Int → H → Prop} (Hkn : ∀ (t200001 : Bool) (n200002 : Int) (n200003 : Int) (a200004 : Option Addr) (l200004 : Nat) (c200004 : Nat) (n200006 : Int) (n200007 : Int) (n200008 : Int) (n200009 : Int) (a200011 : Option Addr) (l200011 : Nat) (c200011 : Nat) (n200013 : Int) (n200014 : Int) (n200015 : Int) (n200017 : Int) (n200018 : Int) (n200019 : Int) (n200020 : Int) (n200021 : Int) (n200022 : Int) (n200023 : Int) (n200024 : Int) (n200025 : Int) (n200026 : Int) (p200005 : Nat) (p200010 : Nat) (p200012 : Nat) (p200016 : Nat) (p200027 : Nat) (g m : H), Md g0 m0 g m [lo p200005 [.slice a200004 l200004 c200004], lo p200010 [.int .i64 n200006, .int .i64 n200007, .int .i64 n200008, .int .i64 n200009], lo p200012 [.slice a200011 l200011 c200011], lo p200016 [.int .i64 n200013, .int .i64 n200014, .int .i64 n200015], lo p200027 [.int .i64 n200017, .int .i64 n200018, .int .i64 n200019, .int .i64 n200020, .int .i64 n200021, .int .i64 n200022, .int .i64 n200023, .int .i64 n200024, .int .i64 n200025, .int .i64 n200026]] → kn_2 t200001 n200002 n200003 a200004 l200004 c200004 n200008 n200009 n200017 n200019 n200020 m → kn_1 p200005 p200010 p200012 p200016 p200027 t200001 n200002 n200003 g)
  {kx1_1 : Nat → Nat → Nat → Nat → Nat → Bool → Int → Int → H → Prop} {kx1_2 : Bool → Int → Int → Option Addr → Nat → Nat → Int → Int → Int → Int → Int → H → Prop} (Hkx1 : ∀ (t200001 : Bool) (n200002 : Int) (n200003 : Int) (a200004 : Option Addr) (l200004 : Nat) (c200004 : Nat) (n200006 : Int) (n200007 : Int) (n200008 : Int) (n200009 : Int) (a200011 : Option Addr) (l200011 : Nat) (c200011 : Nat) (n200013 : Int) (n200014 : Int) (n200015 : Int) (n200017 : Int) (n200018 : Int) (n200019 : Int) (n200020 : Int) (n200021 : Int) (n200022 : Int) (n200023 : Int) (n200024 : Int) (n200025 : Int) (n200026 : Int) (p200005 : Nat) (p200010 : Nat) (p200012 : Nat) (p200016 : Nat) (p200027 : Nat) (g m : H), Md g0 m0 g m [lo p200005 [.slice a200004 l200004 c200004], lo p200010 [.int .i64 n200006, .int .i64 n200007, .int .i64 n200008, .int .i64 n200009], lo p200012 [.slice a200011 l200011 c200011], lo p200016 [.int .i64 n200013, .int .i64 n200014, .int .i64 n200015], lo p200027 [.int .i64 n200017, .int .i64 n200018, .int .i64 n200019, .int .i64 n200020, .int .i64 n200021, .int .i64 n200022, .int .i64 n200023, .int .i64 n200024, .int .i64 n200025, .int .i64 n200026]] → kx1_2 t200001 n200002 n200003 a200004 l200004 c200004 n200008 n200009 n200017 n200019 n200020 m → kx1_1 p200005 p200010 p200012 p200016 p200027 t200001 n200002 n200003 g) : ∀ (t1097 : Bool) (n1098 : Int) (n1099 : Int) (t1100 : Bool) (a1101 : Option Addr) (l1101 : Nat) (c1101 : Nat) (n1103 : Int) (n1104 : Int) (n1105 : Int) (n1106 : Int) (a1108 : Option Addr) (l1108 : Nat) (c1108 : Nat) (n1110 : Int) (n1111 : Int) (n1112 : Int) (n1114 : Int) (n1115 : Int) (n1116 : Int) (n1117 : Int) (n1118 : Int) (n1119 : Int) (n1120 : Int) (n1121 : Int) (n1122 : Int) (n1123 : Int) (n1125 : Int) (n1126 : Int) (n1127 : Int) (n1128 : Int) (n1129 : Int) (n1130 : Int) (n1131 : Int) (n1132 : Int) (n1133 : Int) (n1134 : Int) (p1102 : Nat) (p1107 : Nat) (p1109 : Nat) (p1113 : Nat) (p1124 : Nat) (p1135 : Nat) (g m : H), Md g0 m0 g m [lo p1102 [.slice a1101 l1101 c1101], lo p1107 [.int .i64 n1103, .int .i64 n1104, .int .i64 n1105, .int .i64 n1106], lo p1109 [.slice a1108 l1108 c1108], lo p1113 [.int .i64 n1110, .int .i64 n1111, .int .i64 n1112], lo p1124 [.int .i64 n1114, .int .i64 n1115, .int .i64 n1116, .int .i64 n1117, .int .i64 n1118, .int .i64 n1119, .int .i64 n1120, .int .i64 n1121, .int .i64 n1122, .int .i64 n1123], lo p1135 [.int .i64 n1125, .int .i64 n1126, .int .i64 n1127, .int .i64 n1128, .int .i64 n1129, .int .i64 n1130, .int .i64 n1131, .int .i64 n1132, .int .i64 n1133, .int .i64 n1134]] → spec_l16Kill_M_j2 kn_2 kx1_2 t1097 n1098 n1099 t1100 a1101 l1101 c1101 n1105 n1106 n1114 n1116 n1117 n1127 n1128 m → spec_l16Kill_j2 kn_1 kx1_1 p1102 p1107 p1109 p1113 p1124 t1097 n1098 n1099 p1135 t1100 g := by
  intro t1097 n1098 n1099 t1100 a1101 l1101 c1101 n1103 n1104 n1105 n1106 a1108 l1108 c1108 n1110 n1111 n1112 n1114 n1115 n1116 n1117 n1118 n1119 n1120 n1121 n1122 n1123 n1125 n1126 n1127 n1128 n1129 n1130 n1131 n1132 n1133 n1134 p1102 p1107 p1109 p1113 p1124 p1135 g m R
  rw [spec_l16Kill_M_j2, spec_l16Kill_j2]
  exact (p_ldI R rfl (d_if (p_ldI R rfl (p_ldI R rfl (spec_l16Kill_M_j3_D (by exact fun t1136 n1137 n1138 a1139 l1139 c1139 n1141 n1142 n1143 n1144 a1146 l1146 c1146 n1148 n1149 n1150 n1152 n1153 n1154 n1155 n1156 n1157 n1158 n1159 n1160 n1161 p1140 p1145 p1147 p1151 p1162 g m R =>
  (Hkn t1136 n1137 n1138 a1139 l1139 c1139 n1141 n1142 n1143 n1144 a1146 l1146 c1146 n1148 n1149 n1150 n1152 n1153 n1154 n1155 n1156 n1157 n1158 n1159 n1160 n1161 p1140 p1145 p1147 p1151 p1162 _ _ R.sub))
  (by exact fun t1163 n1164 n1165 a1166 l1166 c1166 n1168 n1169 n1170 n1171 a1173 l1173 c1173 n1175 n1176 n1177 n1179 n1180 n1181 n1182 n1183 n1184 n1185 n1186 n1187 n1188 p1167 p1172 p1174 p1178 p1189 g m R =>
  (Hkx1 t1163 n1164 n1165 a1166 l1166 c1166 n1168 n1169 n1170 n1171 a1173 l1173 c1173 n1175 n1176 n1177 n1179 n1180 n1181 n1182 n1183 n1184 n1185 n1186 n1187 n1188 p1167 p1172 p1174 p1178 p1189 _ _ R.sub)) t1097 n1098 n1099 ((n1127 : Int) == (IntKind.i64.wrap (0 - n1105))) a1101 l1101 c1101 n1103 n1104 n1105 n1106 a1108 l1108 c1108 n1110 n1111 n1112 n1114 n1115 n1116 n1117 n1118 n1119 n1120 n1121 n1122 n1123 n1125 n1126 n1127 n1128 n1129 n1130 n1131 n1132 n1133 n1134 p1102 p1107 p1109 p1113 p1124 p1135 _ _ R.sub)))
  (spec_l16Kill_M_j3_D (by exact fun t1190 n1191 n1192 a1193 l1193 c1193 n1195 n1196 n1197 n1198 a1200 l1200 c1200 n1202 n1203 n1204 n1206 n1207 n1208 n1209 n1210 n1211 n1212 n1213 n1214 n1215 p1194 p1199 p1201 p1205 p1216 g m R =>
  (Hkn t1190 n1191 n1192 a1193 l1193 c1193 n1195 n1196 n1197 n1198 a1200 l1200 c1200 n1202 n1203 n1204 n1206 n1207 n1208 n1209 n1210 n1211 n1212 n1213 n1214 n1215 p1194 p1199 p1201 p1205 p1216 _ _ R.sub))
  (by exact fun t1217 n1218 n1219 a1220 l1220 c1220 n1222 n1223 n1224 n1225 a1227 l1227 c1227 n1229 n1230 n1231 n1233 n1234 n1235 n1236 n1237 n1238 n1239 n1240 n1241 n1242 p1221 p1226 p1228 p1232 p1243 g m R =>
  (Hkx1 t1217 n1218 n1219 a1220 l1220 c1220 n1222 n1223 n1224 n1225 a1227 l1227 c1227 n1229 n1230 n1231 n1233 n1234 n1235 n1236 n1237 n1238 n1239 n1240 n1241 n1242 p1221 p1226 p1228 p1232 p1243 _ _ R.sub)) t1097 n1098 n1099 t1100 a1101 l1101 c1101 n1103 n1104 n1105 n1106 a1108 l1108 c1108 n1110 n1111 n1112 n1114 n1115 n1116 n1117 n1118 n1119 n1120 n1121 n1122 n1123 n1125 n1126 n1127 n1128 n1129 n1130 n1131 n1132 n1133 n1134 p1102 p1107 p1109 p1113 p1124 p1135 _ _ R.sub)))

theorem spec_l16Kill_M_j1_D {g0 m0 : H} {kn_1 : Nat → Nat → Nat → Nat → Nat → Bool → Int → Int → H → Prop} {kn_2 : Bool → Int → Int → Option Addr → Nat → Nat → Int → Int → Int → Int → Int → H → Prop} (Hkn : ∀ (t200001 : Bool) (n200002 : Int) (n200003 : Int) (a200004 : Option Addr) (l200004 : Nat) (c200004 : Nat) (n200006 : Int) (n200007 : Int) (n200008 : Int) (n200009 : Int) (a200011 : Option Addr) (l200011 : Nat) (c200011 : Nat) (n200013 : Int) (n200014 : Int) (n200015 : Int) (n200017 : Int) (n200018 : Int) (n200019 : Int) (n200020 : Int) (n200021 : Int) (n200022 : Int) (n200023 : Int) (n200024 : Int) (n200025 : Int) (n200026 : Int) (p200005 : Nat) (p200010 : Nat) (p200012 : Nat) (p200016 : Nat) (p200027 : Nat) (g m : H), Md g0 m0 g m [lo p200005 [.slice a200004 l200004 c200004], lo p200010 [.int .i64 n200006, .int .i64 n200007, .int .i64 n200008, .int .i64 n200009], lo p200012 [.slice a200011 l200011 c200011], lo p200016 [.int .i64 n200013, .int .i64 n200014, .int .i64 n200015], lo p200027 [.int .i64 n200017, .int .i64 n200018, .int .i64 n200019, .int .i64 n200020, .int .i64 n200021, .int .i64 n200022, .int .i64 n200023, .int .i64 n200024, .int .i64 n200025, .int .i64 n200026]] → kn_2 t200001 n200002 n200003 a200004 l200004 c200004 n200008 n200009 n200017 n200019 n200020 m → kn_1 p200005 p200010 p200012 p200016 p200027 t200001 n200002 n200003 g)
  {kx1_1 : Nat → Nat → Nat → Nat → Nat → Bool → Int → Int → H → Prop} {kx1_2 : Bool → Int → Int → Option Addr → Nat → Nat → Int → Int → Int → Int → Int → H → Prop} (Hkx1 : ∀ (t200001 : Bool) (n200002 : Int) (n200003 : Int) (a200004 : Option Addr) (l200004 : Nat) (c200004 : Nat) (n200006 : Int) (n200007 : Int) (n200008 : Int) (n200009 : Int) (a200011 : Option Addr) (l200011 : Nat) (c200011 : Nat) (n200013 : Int) (n200014 : Int) (n200015 : Int) (n200017 : Int) (n200018 : Int) (n200019 : Int) (n200020 : Int) (n200021 : Int) (n200022 : Int) (n200023 : Int) (n200024 : Int) (n200025 : Int) (n200026 : Int) (p200005 : Nat) (p200010 : Nat) (p200012 : Nat) (p200016 : Nat) (p200027 : Nat) (g m : H), Md g0 m0 g m [lo p200005 [.slice a200004 l200004 c200004], lo p200010 [.int .i64 n200006, .int .i64 n200007, .int .i64 n200008, .int .i64 n200009], lo p200012 [.slice a200011 l200011 c200011], lo p200016 [.int .i64 n200013, .int .i64 n200014, .int .i64 n200015], lo p200027 [.int .i64 n200017, .int .i64 n200018, .int .i64 n200019, .int .i64 n200020, .int .i64 n200021, .int .i64 n200022, .int .i64 n200023, .int .i64 n200024, .int .i64 n200025, .int .i64 n200026]] → kx1_2 t200001 n200002 n200003 a200004 l200004 c200004 n200008 n200009 n200017 n200019 n200020 m → kx1_1 p200005 p200010 p200012 p200016 p200027 t200001 n200002 n200003 g) : ∀ (t1058 : Bool) (n1059 : Int) (n1060 : Int) (t1061 : Bool) (a1062 : Option Addr) (l1062 : Nat) (c1062 : Nat) (n1064 : Int) (n1065 : Int) (n1066 : Int) (n1067 : Int) (a1069 : Option Addr) (l1069 : Nat) (c1069 : Nat) (n1071 : Int) (n1072 : Int) (n1073 : Int) (n1075 : Int) (n1076 : Int) (n1077 : Int) (n1078 : Int) (n1079 : Int) (n1080 : Int) (n1081 : Int) (n1082 : Int) (n1083 : Int) (n1084 : Int) (n1086 : Int) (n1087 : Int) (n1088 : Int) (n1089 : Int) (n1090 : Int) (n1091 : Int) (n1092 : Int) (n1093 : Int) (n1094 : Int) (n1095 : Int) (p1063 : Nat) (p1068 : Nat) (p1070 : Nat) (p1074 : Nat) (p1085 : Nat) (p1096 : Nat) (g m : H), Md g0 m0 g m [lo p1063 [.slice a1062 l1062 c1062], lo p1068 [.int .i64 n1064, .int .i64 n1065, .int .i64 n1066, .int .i64 n1067], lo p1070 [.slice a1069 l1069 c1069], lo p1074 [.int .i64 n1071, .int .i64 n1072, .int .i64 n1073], lo p1085 [.int .i64 n1075, .int .i64 n1076, .int .i64 n1077, .int .i64 n1078, .int .i64 n1079, .int .i64 n1080, .int .i64 n1081, .int .i64 n1082, .int .i64 n1083, .int .i64 n1084], lo p1096 [.int .i64 n1086, .int .i64 n1087, .int .i64 n1088, .int .i64 n1089, .int .i64 n1090, .int .i64 n1091, .int .i64 n1092, .int .i64 n1093, .int .i64 n1094, .int .i64 n1095]] → spec_l16Kill_M_j1 kn_2 kx1_2 t1058 n1059 n1060 t1061 a1062 l1062 c1062 n1066 n1067 n1075 n1077 n1078 n1086 n1088 n1089 m → spec_l16Kill_j1 kn_1 kx1_1 p1063 p1068 p1070 p1074 p1085 t1058 n1059 n1060 p1096 t1061 g := by
  intro t1058 n1059 n1060 t1061 a1062 l1062 c1062 n1064 n1065 n1066 n1067 a1069 l1069 c1069 n1071 n1072 n1073 n1075 n1076 n1077 n1078 n1079 n1080 n1081 n1082 n1083 n1084 n1086 n1087 n1088 n1089 n1090 n1091 n1092 n1093 n1094 n1095 p1063 p1068 p1070 p1074 p1085 p1096 g m R
  rw [spec_l16Kill_M_j1, spec_l16Kill_j1]
  exact (p_ldI R rfl (d_if (p_ldI R rfl (d_if (p_ldI R rfl (p_ldI R rfl (spec_l16Kill_M_j2_D (by exact fun t1097 n1098 n1099 a1100 l1100 c1100 n1102 n1103 n1104 n1105 a1107 l1107 c1107 n1109 n1110 n1111 n1113 n1114 n1115 n1116 n1117 n1118 n1119 n1120 n1121 n1122 p1101 p1106 p1108 p1112 p1123 g m R =>
  (Hkn t1097 n1098 n1099 a1100 l1100 c1100 n1102 n1103 n1104 n1105 a1107 l1107 c1107 n1109 n1110 n1111 n1113 n1114 n1115 n1116 n1117 n1118 n1119 n1120 n1121 n1122 p1101 p1106 p1108 p1112 p1123 _ _ R.sub))
  (by exact fun t1124 n1125 n1126 a1127 l1127 c1127 n1129 n1130 n1131 n1132 a1134 l1134 c1134 n1136 n1137 n1138 n1140 n1141 n1142 n1143 n1144 n1145 n1146 n1147 n1148 n1149 p1128 p1133 p1135 p1139 p1150 g m R =>
  (Hkx1 t1124 n1125 n1126 a1127 l1127 c1127 n1129 n1130 n1131 n1132 a1134 l1134 c1134 n1136 n1137 n1138 n1140 n1141 n1142 n1143 n1144 n1145 n1146 n1147 n1148 n1149 p1128 p1133 p1135 p1139 p1150 _ _ R.sub)) t1058 n1059 n1060 ((n1086 : Int) != n1075) a1062 l1062 c1062 n1064 n1065 n1066 n1067 a1069 l1069 c1069 n1071 n1072 n1073 n1075 n1076 n1077 n1078 n1079 n1080 n1081 n1082 n1083 n1084 n1086 n1087 n1088 n1089 n1090 n1091 n1092 n1093 n1094 n1095 p1063 p1068 p1070 p1074 p1085 p1096 _ _ R.sub)))
  (spec_l16Kill_M_j2_D (by exact fun t1151 n1152 n1153 a1154 l1154 c1154 n1156 n1157 n1158 n1159 a1161 l1161 c1161 n1163 n1164 n1165 n1167 n1168 n1169 n1170 n1171 n1172 n1173 n1174 n1175 n1176 p1155 p1160 p1162 p1166 p1177 g m R =>
  (Hkn t1151 n1152 n1153 a1154 l1154 c1154 n1156 n1157 n1158 n1159 a1161 l1161 c1161 n1163 n1164 n1165 n1167 n1168 n1169 n1170 n1171 n1172 n1173 n1174 n1175 n1176 p1155 p1160 p1162 p1166 p1177 _ _ R.sub))
  (by exact fun t1178 n1179 n1180 a1181 l1181 c1181 n1183 n1184 n1185 n1186 a1188 l1188 c1188 n1190 n1191 n1192 n1194 n1195 n1196 n1197 n1198 n1199 n1200 n1201 n1202 n1203 p1182 p1187 p1189 p1193 p1204 g m R =>
  (Hkx1 t1178 n1179 n1180 a1181 l1181 c1181 n1183 n1184 n1185 n1186 a1188 l1188 c1188 n1190 n1191 n1192 n1194 n1195 n1196 n1197 n1198 n1199 n1200 n1201 n1202 n1203 p1182 p1187 p1189 p1193 p1204 _ _ R.sub)) t1058 n1059 n1060 false a1062 l1062 c1062 n1064 n1065 n1066 n1067 a1069 l1069 c1069 n1071 n1072 n1073 n1075 n1076 n1077 n1078 n1079 n1080 n1081 n1082 n1083 n1084 n1086 n1087 n1088 n1089 n1090 n1091 n1092 n1093 n1094 n1095 p1063 p1068 p1070 p1074 p1085 p1096 _ _ R.sub)))
  (spec_l16Kill_M_j2_D (by exact fun t1205 n1206 n1207 a1208 l1208 c1208 n1210 n1211 n1212 n1213 a1215 l1215 c1215 n1217 n1218 n1219 n1221 n1222 n1223 n1224 n1225 n1226 n1227 n1228 n1229 n1230 p1209 p1214 p1216 p1220 p1231 g m R =>
  (Hkn t1205 n1206 n1207 a1208 l1208 c1208 n1210 n1211 n1212 n1213 a1215 l1215 c1215 n1217 n1218 n1219 n1221 n1222 n1223 n1224 n1225 n1226 n1227 n1228 n1229 n1230 p1209 p1214 p1216 p1220 p1231 _ _ R.sub))
  (by exact fun t1232 n1233 n1234 a1235 l1235 c1235 n1237 n1238 n1239 n1240 a1242 l1242 c1242 n1244 n1245 n1246 n1248 n1249 n1250 n1251 n1252 n1253 n1254 n1255 n1256 n1257 p1236 p1241 p1243 p1247 p1258 g m R =>
  (Hkx1 t1232 n1233 n1234 a1235 l1235 c1235 n1237 n1238 n1239 n1240 a1242 l1242 c1242 n1244 n1245 n1246 n1248 n1249 n1250 n1251 n1252 n1253 n1254 n1255 n1256 n1257 p1236 p1241 p1243 p1247 p1258 _ _ R.sub)) t1058 n1059 n1060 t1061 a1062 l1062 c1062 n1064 n1065 n1066 n1067 a1069 l1069 c1069 n1071 n1072 n1073 n1075 n1076 n1077 n1078 n1079 n1080 n1081 n1082 n1083 n1084 n1086 n1087 n1088 n1089 n1090 n1091 n1092 n1093 n1094 n1095 p1063 p1068 p1070 p1074 p1085 p1096 _ _ R.sub)))

theorem spec_l16Kill_M_l0_D {g0 m0 : H} {kx0_1 : Nat → Nat → Nat → Bool → Int → H → Prop} {kx0_2 : Bool → Int → Option Addr → Nat → Nat → H → Prop} (Hkx0 : ∀ (t200001 : Bool) (n200002 : Int) (a200003 : Option Addr) (l200003 : Nat) (c200003 : Nat) (a200005 : Option Addr) (l200005 : Nat) (c200005 : Nat) (n200007 : Int) (n200008 : Int) (n200009 : Int) (p200004 : Nat) (p200006 : Nat) (p200010 : Nat) (g m : H), Md g0 m0 g m [lo p200004 [.slice a200003 l200003 c200003], lo p200006 [.slice a200005 l200005 c200005], lo p200010 [.int .i64 n200007, .int .i64 n200008, .int .i64 n200009]] → kx0_2 t200001 n200002 a200003 l200003 c200003 m → kx0_1 p200004 p200006 p200010 t200001 n200002 g) : ∀ (N : Nat) (t1019 : Bool) (n1020 : Int) (n1021 : Int) (a1022 : Option Addr) (l1022 : Nat) (c1022 : Nat) (n1024 : Int) (n1025 : Int) (n1026 : Int) (n1027 : Int) (a1029 : Option Addr) (l1029 : Nat) (c1029 : Nat) (n1031 : Int) (n1032 : Int) (n1033 : Int) (n1035 : Int) (n1036 : Int) (n1037 : Int) (n1038 : Int) (n1039 : Int) (n1040 : Int) (n1041 : Int) (n1042 : Int) (n1043 : Int) (n1044 : Int) (p1023 : Nat) (p1028 : Nat) (p1030 : Nat) (p1034 : Nat) (p1045 : Nat) (g m : H), Md g0 m0 g m [lo p1023 [.slice a1022 l1022 c1022], lo p1028 [.int .i64 n1024, .int .i64 n1025, .int .i64 n1026, .int .i64 n1027], lo p1030 [.slice a1029 l1029 c1029], lo p1034 [.int .i64 n1031, .int .i64 n1032, .int .i64 n1033], lo p1045 [.int .i64 n1035, .int .i64 n1036, .int .i64 n1037, .int .i64 n1038, .int .i64 n1039, .int .i64 n1040, .int .i64 n1041, .int .i64 n1042, .int .i64 n1043, .int .i64 n1044]] → spec_l16Kill_M_l0 kx0_2 N t1019 n1020 n1021 a1022 l1022 c1022 n1026 n1027 n1035 n1037 n1038 m → spec_l16Kill_l0 kx0_1 N p1023 p1028 p1030 p1034 p1045 t1019 n1020 n1021 g := by
  intro N
  induction N with
  | zero => intro t1019 n1020 n1021 a1022 l1022 c1022 n1024 n1025 n1026 n1027 a1029 l1029 c1029 n1031 n1032 n1033 n1035 n1036 n1037 n1038 n1039 n1040 n1041 n1042 n1043 n1044 p1023 p1028 p1030 p1034 p1045 g m R h0; exact h0.elim
  | succ N ih =>
    intro t1019 n1020 n1021 a1022 l1022 c1022 n1024 n1025 n1026 n1027 a1029 l1029 c1029 n1031 n1032 n1033 n1035 n1036 n1037 n1038 n1039 n1040 n1041 n1042 n1043 n1044 p1023 p1028 p1030 p1034 p1045 g m R
    rw [spec_l16Kill_M_l0, spec_l16Kill_l0]
    exact (p_ldL R rfl (d_if (p_ldL R rfl (d_req (d_nz fun b1046 o1047 =>
  (d_row_I10 R fun n1048 n1049 n1050 n1051 n1052 n1053 n1054 n1055 n1056 n1057 =>
  (p_new R fun p1058 g R =>
  (p_stRow R (cs' := [.int .i64 n1048, .int .i64 n1049, .int .i64 n1050, .int .i64 n1051, .int .i64 n1052, .int .i64 n1053, .int .i64 n1054, .int .i64 n1055, .int .i64 n1056, .int .i64 n1057]) ⟨rfl, rfl, rfl⟩ fun g R =>
  (p_ldI R rfl (p_ldI R rfl (p_ldI R rfl (d_if (p_ldI R rfl (p_ldI R rfl (spec_l16Kill_M_j1_D (by exact fun t1059 n1060 n1061 a1062 l1062 c1062 n1064 n1065 n1066 n1067 a1069 l1069 c1069 n1071 n1072 n1073 n1075 n1076 n1077 n1078 n1079 n1080 n1081 n1082 n1083 n1084 p1063 p1068 p1070 p1074 p1085 g m R =>
  (ih t1059 n1060 (IntKind.i64.wrap (n1061 + 1)) a1062 l1062 c1062 n1064 n1065 n1066 n1067 a1069 l1069 c1069 n1071 n1072 n1073 n1075 n1076 n1077 n1078 n1079 n1080 n1081 n1082 n1083 n1084 p1063 p1068 p1070 p1074 p1085 _ _ R.sub))
  (by exact fun t1086 n1087 n1088 a1089 l1089 c1089 n1091 n1092 n1093 n1094 a1096 l1096 c1096 n1098 n1099 n1100 n1102 n1103 n1104 n1105 n1106 n1107 n1108 n1109 n1110 n1111 p1090 p1095 p1097 p1101 p1112 g m R =>
  (ih t1086 n1087 (IntKind.i64.wrap (n1088 + 1)) a1089 l1089 c1089 n1091 n1092 n1093 n1094 a1096 l1096 c1096 n1098 n1099 n1100 n1102 n1103 n1104 n1105 n1106 n1107 n1108 n1109 n1110 n1111 p1090 p1095 p1097 p1101 p1112 _ _ R.sub)) t1019 n1020 n1021 ((n1050 : Int) == n1037) a1022 l1022 c1022 n1024 n1025 n1026 n1027 a1029 l1029 c1029 n1031 n1032 n1033 n1035 n1036 n1037 n1038 n1039 n1040 n1041 n1042 n1043 n1044 n1048 n1049 n1050 n1051 n1052 n1053 n1054 n1055 n1056 n1057 p1023 p1028 p1030 p1034 p1045 p1058 _ _ R.sub)))
  (spec_l16Kill_M_j1_D (by exact fun t1113 n1114 n1115 a1116 l1116 c1116 n1118 n1119 n1120 n1121 a1123 l1123 c1123 n1125 n1126 n1127 n1129 n1130 n1131 n1132 n1133 n1134 n1135 n1136 n1137 n1138 p1117 p1122 p1124 p1128 p1139 g m R =>
  (ih t1113 n1114 (IntKind.i64.wrap (n1115 + 1)) a1116 l1116 c1116 n1118 n1119 n1120 n1121 a1123 l1123 c1123 n1125 n1126 n1127 n1129 n1130 n1131 n1132 n1133 n1134 n1135 n1136 n1137 n1138 p1117 p1122 p1124 p1128 p1139 _ _ R.sub))
  (by exact fun t1140 n1141 n1142 a1143 l1143 c1143 n1145 n1146 n1147 n1148 a1150 l1150 c1150 n1152 n1153 n1154 n1156 n1157 n1158 n1159 n1160 n1161 n1162 n1163 n1164 n1165 p1144 p1149 p1151 p1155 p1166 g m R =>
  (ih t1140 n1141 (IntKind.i64.wrap (n1142 + 1)) a1143 l1143 c1143 n1145 n1146 n1147 n1148 a1150 l1150 c1150 n1152 n1153 n1154 n1156 n1157 n1158 n1159 n1160 n1161 n1162 n1163 n1164 n1165 p1144 p1149 p1151 p1155 p1166 _ _ R.sub)) t1019 n1020 n1021 ((n1048 : Int) == n1026) a1022 l1022 c1022 n1024 n1025 n1026 n1027 a1029 l1029 c1029 n1031 n1032 n1033 n1035 n1036 n1037 n1038 n1039 n1040 n1041 n1042 n1043 n1044 n1048 n1049 n1050 n1051 n1052 n1053 n1054 n1055 n1056 n1057 p1023 p1028 p1030 p1034 p1045 p1058 _ _ R.sub)))))))))))
  (Hkx0 t1019 n1020 a1022 l1022 c1022 a1029 l1029 c1029 n1031 n1032 n1033 p1023 p1030 p1034 _ _ R.sub)))

theorem spec_l16Kill_M_D {g0 m0 : H} {kr_1 : Nat → Nat → H → Prop} {kr_2 : Option Addr → Nat → Nat → Int → Int → Int → H → Prop} (Hkr : ∀ (a200001 : Option Addr) (l200001 : Nat) (c200001 : Nat) (n200003 : Int) (n200004 : Int) (n200005 : Int) (p200002 : Nat) (p200006 : Nat) (g m : H), Md g0 m0 g m [lo p200002 [.slice a200001 l200001 c200001], lo p200006 [.int .i64 n200003, .int .i64 n200004, .int .i64 n200005]] → kr_2 a200001 l200001 c200001 n200003 n200004 n200005 m → kr_1 p200002 p200006 g) : ∀ (a1001 : Option Addr) (l1001 : Nat) (c1001 : Nat) (n1002 : Int) (n1003 : Int) (n1004 : Int) (n1005 : Int) (n1006 : Int) (g m : H), Md g0 m0 g m [] → spec_l16Kill_M kr_2 a1001 l1001 c1001 n1002 n1003 n1004 n1005 n1006 m → spec_l16Kill kr_1 a1001 l1001 c1001 n1002 n1003 n1004 n1005 n1006 g := by
  intro a1001 l1001 c1001 n1002 n1003 n1004 n1005 n1006 g m R
  rw [spec_l16Kill_M, spec_l16Kill]
  exact (p_new R fun p1007 g R =>
  (p_new R fun p1008 g R =>
  (p_new R fun p1009 g R =>
  (p_new R fun p1010 g R =>
  (p_ldI R rfl (d_if (p_row_L R rfl (p_stRow R (cs' := [.slice a1001 l1001 c1001]) ⟨rfl, rfl, rfl⟩ fun g R =>
  (p_stRow R (cs' := [.int .i64 1, .int .i64 0, .int .i64 0]) ⟨rfl, rfl, rfl⟩ fun g R =>
  (Hkr a1001 l1001 c1001 1 0 0 p1009 p1010 _ _ R.sub))))
  (p_ldI R rfl (d_if (p_row_L R rfl (p_stRow R (cs' := [.slice a1001 l1001 c1001]) ⟨rfl, rfl, rfl⟩ fun g R =>
  (p_stRow R (cs' := [.int .i64 1, .int .i64 0, .int .i64 0]) ⟨rfl, rfl, rfl⟩ fun g R =>
  (Hkr a1001 l1001 c1001 1 0 0 p1009 p1010 _ _ R.sub))))
  (p_ldL R rfl (d_req (d_nz fun b1011 o1012 =>
  (d_row_I10 R fun n1013 n1014 n1015 n1016 n1017 n1018 n1019 n1020 n1021 n1022 =>
  (p_new R fun p1023 g R =>
  (p_stRow R (cs' := [.int .i64 n1013, .int .i64 n1014, .int .i64 n1015, .int .i64 n1016, .int .i64 n1017, .int .i64 n1018, .int .i64 n1019, .int .i64 n1020, .int .i64 n1021, .int .i64 n1022]) ⟨rfl, rfl, rfl⟩ fun g R =>
  (d_ex fun N => spec_l16Kill_M_l0_D (by exact fun t1024 n1025 a1026 l1026 c1026 a1028 l1028 c1028 n1030 n1031 n1032 p1027 p1029 p1033 g m R =>
  (d_if (p_row_L R rfl (p_stRow R (cs' := [.slice a1026 l1026 c1026]) ⟨rfl, rfl, rfl⟩ fun g R =>
  (p_stRow R (cs' := [.int .i64 3, .int .i64 0, .int .i64 0]) ⟨rfl, rfl, rfl⟩ fun g R =>
  (Hkr a1026 l1026 c1026 3 0 0 p1029 p1033 _ _ R.sub))))
  (d_if (p_row_L R rfl (p_stRow R (cs' := [.slice a1026 l1026 c1026]) ⟨rfl, rfl, rfl⟩ fun g R =>
  (p_stRow R (cs' := [.int .i64 2, .int .i64 0, .int .i64 0]) ⟨rfl, rfl, rfl⟩ fun g R =>
  (Hkr a1026 l1026 c1026 2 0 0 p1029 p1033 _ _ R.sub))))
  (p_row_L R rfl (p_stRow R (cs' := [.slice a1026 l1026 c1026]) ⟨rfl, rfl, rfl⟩ fun g R =>
  (p_stRow R (cs' := [.int .i64 0, .int .i64 n1025, .int .i64 0]) ⟨rfl, rfl, rfl⟩ fun g R =>
  (Hkr a1026 l1026 c1026 0 n1025 0 p1029 p1033 _ _ R.sub))))))) N false 0 0 a1001 l1001 c1001 n1003 n1004 n1005 n1006 none 0 0 0 0 0 n1013 n1014 n1015 n1016 n1017 n1018 n1019 n1020 n1021 n1022 p1007 p1008 p1009 p1010 p1023 _ _ R.sub)))))))))))))))

theorem spec_l16Kill_M_call {a1 : Option Addr} {l1 : Nat} {c1 : Nat} {n2 : Int} {n3 : Int} {n4 : Int} {n5 : Int} {n6 : Int} {h : H} {K : Value → H → Prop} (hs : spec_l16Kill_M (fun a300001 l300001 c300001 n300003 n300004 n300005 h =>
  K (.tuple ⟨[.agg ⟨[.slice a300001 l300001 c300001]⟩, .agg ⟨[.int .i64 n300003, .int .i64 n300004, .int .i64 n300005]⟩]⟩) h) a1 l1 c1 n2 n3 n4 n5 n6 h) : callD Try.prog 51 ⟨[.agg ⟨[.slice a1 l1 c1]⟩, .int .i64 n2, .agg ⟨[.int .i64 n3, .int .i64 n4, .int .i64 n5, .int .i64 n6]⟩]⟩ h K :=
  fun g r => spec_l16Kill_call (spec_l16Kill_M_D (by exact fun a300001 l300001 c300001 n300003 n300004 n300005 p300002 p300006 g m R =>
(p_row_L R rfl (p_row_I3 R rfl rfl rfl (fun h => ⟨m, R.af, h⟩)))) _ _ _ _ _ _ _ _ _ _ (Md.start r) hs)

noncomputable def code52 : Code := codeOf Try.f52
theorem body52 : Try.f52.body = some code52 := by kernel_rfl
def spec_l16Less (kr : Int → H → Prop) (n1 : Int) (sig_2 : Int) (h : H) : Prop :=
  callK Try.prog 40 ⟨[.int .i64 n1, .int .i64 sig_2]⟩ h fun v3 h =>
  asB v3 fun t4 =>
  ifB t4
  (callK Try.prog 60 ⟨[.int .i64 sig_2]⟩ h fun v5 h =>
  asI .i64 v5 fun n6 =>
  kr (IntKind.i64.wrap (n1 - n6)) h)
  (kr n1 h)

theorem spec_l16Less_eq (K : Cont) (n1 : Int) (sig_2 : Int) (h : H) :
  spec_l16Less (curV [(4, .int .i64)] (K .ret)) n1 sig_2 h = evC Try.prog 13 [] [] code52 [(0, .int .i64 n1), (1, .int .i64 sig_2)] h (outsOf none [] (some [(4, .int .i64)]) K).K := by kernel_rfl

def spec_l16Less_F : PT := mkF [(0, .int .i64), (1, .int .i64)] fun K => spec_l16Less (curV [(4, .int .i64)] (K .ret))

theorem spec_l16Less_V : Valid Try.prog 13 code52 spec_l16Less_F :=
  piece mixed rows_nil (fun K => by intro n1 sig_2 h hd; exact (spec_l16Less_eq K n1 sig_2 h) ▸ hd)

theorem spec_l16Less_c0 (n1 : Int) (sig_2 : Int) (h : H) (K : Value → H → Prop) :
  spec_l16Less (fun n100001 h =>
  K (.int .i64 n100001) h) n1 sig_2 h = callF Try.prog Try.f52.results.toList spec_l16Less_F [.int .i64 n1, .int .i64 sig_2] h K := by kernel_rfl

theorem spec_l16Less_call {n1 : Int} {sig_2 : Int} {h : H} {K : Value → H → Prop} (hs : spec_l16Less (fun n100001 h =>
  K (.int .i64 n100001) h) n1 sig_2 h) : callK Try.prog 52 ⟨[.int .i64 n1, .int .i64 sig_2]⟩ h K :=
  func_calls Try.func52 body52 spec_l16Less_V (Nat.le_of_ble_eq_true (by kernel_rfl)) (spec_l16Less_c0 n1 sig_2 h K ▸ hs)

def spec_l16Less_M (kr : Int → H → Prop) (n1 : Int) (sig_2 : Int) (h : H) : Prop :=
  callD Try.prog 40 ⟨[.int .i64 n1, .int .i64 sig_2]⟩ h fun v3 h =>
  asB v3 fun t4 =>
  ifB t4
  (callD Try.prog 60 ⟨[.int .i64 sig_2]⟩ h fun v5 h =>
  asI .i64 v5 fun n6 =>
  kr (IntKind.i64.wrap (n1 - n6)) h)
  (kr n1 h)

theorem spec_l16Less_M_D {g0 m0 : H} {kr_1 : Int → H → Prop} {kr_2 : Int → H → Prop} (Hkr : ∀ (n200001 : Int) (g m : H), Md g0 m0 g m [] → kr_2 n200001 m → kr_1 n200001 g) : ∀ (n1001 : Int) (sig_1002 : Int) (g m : H), Md g0 m0 g m [] → spec_l16Less_M kr_2 n1001 sig_1002 m → spec_l16Less kr_1 n1001 sig_1002 g := by
  intro n1001 sig_1002 g m R
  rw [spec_l16Less_M, spec_l16Less]
  exact (d_call R fun v1003 g m R =>
  (d_asB fun t1004 =>
  (d_if (d_call R fun v1005 g m R =>
  (d_asI fun n1006 =>
  (Hkr (IntKind.i64.wrap (n1001 - n1006)) _ _ R.sub)))
  (Hkr n1001 _ _ R.sub))))

theorem spec_l16Less_M_call {n1 : Int} {sig_2 : Int} {h : H} {K : Value → H → Prop} (hs : spec_l16Less_M (fun n300001 h =>
  K (.int .i64 n300001) h) n1 sig_2 h) : callD Try.prog 52 ⟨[.int .i64 n1, .int .i64 sig_2]⟩ h K :=
  fun g r => spec_l16Less_call (spec_l16Less_M_D (by exact fun n300001 g m R =>
(fun h => ⟨m, R.af, h⟩)) _ _ _ _ (Md.start r) hs)

noncomputable def code53 : Code := codeOf Try.f53
theorem body53 : Try.f53.body = some code53 := by kernel_rfl
def spec_l16Action_j1 (kr : Nat → Nat → H → Prop) (n51 : Int) (b52 : Nat) (b53 : Nat) (b54 : Nat) (b55 : Nat) (h : H) : Prop :=
  ldL h b52 0 fun a56 l56 c56 =>
  ldRow h b55 0 0 [.int .i64, .int .i64, .int .i64, .int .i64, .int .i64, .int .i64, .int .i64, .int .i64, .int .i64, .int .i64] fun n57 n58 n59 n60 n61 n62 n63 n64 n65 n66 =>
  req (0 ≤ (n51 : Int) ∧ (n51 : Int) < (l56 : Nat))
  (nz a56 fun b67 o68 =>
  stRow h b67 (o68 + n51.toNat * 10) 0 [.int .i64 n57, .int .i64 n58, .int .i64 n59, .int .i64 n60, .int .i64 n61, .int .i64 n62, .int .i64 n63, .int .i64 n64, .int .i64 n65, .int .i64 n66] fun h =>
  ldRow h b52 0 0 [.slice] fun a69 l69 c69 =>
  stRow h b53 0 0 [.slice a69 l69 c69] fun h =>
  stRow h b54 0 0 [.int .i64 0, .int .i64 0, .int .i64 0] fun h =>
  kr b53 b54 h)

def spec_l16Action_j0 (kr : Nat → Nat → H → Prop) (n45 : Int) (b46 : Nat) (b47 : Nat) (b48 : Nat) (b49 : Nat) (b50 : Nat) (h : H) : Prop :=
  ldI .i64 h b47 3 fun n51 =>
  ifB ((n51 : Int) == 2)
  (ldI .i64 h b50 9 fun n52 =>
  ldI .i64 h b47 2 fun n53 =>
  callK Try.prog 63 ⟨[.int .i64 n52, .int .i64 n53]⟩ h fun v54 h =>
  asI .i64 v54 fun n55 =>
  st h b50 9 (.int .i64 n55) fun h =>
  spec_l16Action_j1 kr n45 b46 b48 b49 b50 h)
  (spec_l16Action_j1 kr n45 b46 b48 b49 b50 h)

def spec_l16Action (kr : Nat → Nat → H → Prop) (a1 : Option Addr) (l1 : Nat) (c1 : Nat) (n2 : Int) (n3 : Int) (n4 : Int) (n5 : Int) (n6 : Int) (h : H) : Prop :=
  new h [.slice a1 l1 c1] 27 fun b7 h =>
  new h [.int .i64 n3, .int .i64 n4, .int .i64 n5, .int .i64 n6] 30 fun b8 h =>
  new h [.slice none 0 0] 27 fun b9 h =>
  new h [.int .i64 0, .int .i64 0, .int .i64 0] 34 fun b10 h =>
  ldI .i64 h b8 2 fun n11 =>
  ifB (decide ((n11 : Int) < 1))
  (ldRow h b7 0 0 [.slice] fun a12 l12 c12 =>
  stRow h b9 0 0 [.slice a12 l12 c12] fun h =>
  stRow h b10 0 0 [.int .i64 1, .int .i64 0, .int .i64 0] fun h =>
  kr b9 b10 h)
  (ldI .i64 h b8 2 fun n13 =>
  ifB (decide ((n13 : Int) > 15))
  (ldRow h b7 0 0 [.slice] fun a14 l14 c14 =>
  stRow h b9 0 0 [.slice a14 l14 c14] fun h =>
  stRow h b10 0 0 [.int .i64 1, .int .i64 0, .int .i64 0] fun h =>
  kr b9 b10 h)
  (ldI .i64 h b8 3 fun n15 =>
  ifB (decide ((n15 : Int) < 0))
  (ldRow h b7 0 0 [.slice] fun a16 l16 c16 =>
  stRow h b9 0 0 [.slice a16 l16 c16] fun h =>
  stRow h b10 0 0 [.int .i64 1, .int .i64 0, .int .i64 0] fun h =>
  kr b9 b10 h)
  (ldI .i64 h b8 3 fun n17 =>
  ifB (decide ((n17 : Int) > 2))
  (ldRow h b7 0 0 [.slice] fun a18 l18 c18 =>
  stRow h b9 0 0 [.slice a18 l18 c18] fun h =>
  stRow h b10 0 0 [.int .i64 1, .int .i64 0, .int .i64 0] fun h =>
  kr b9 b10 h)
  (ldI .i64 h b8 2 fun n19 =>
  ifB ((n19 : Int) == 9)
  (ldRow h b7 0 0 [.slice] fun a20 l20 c20 =>
  stRow h b9 0 0 [.slice a20 l20 c20] fun h =>
  stRow h b10 0 0 [.int .i64 1, .int .i64 0, .int .i64 0] fun h =>
  kr b9 b10 h)
  (ldI .i64 h b8 2 fun n21 =>
  ifB ((n21 : Int) == 12)
  (ldRow h b7 0 0 [.slice] fun a22 l22 c22 =>
  stRow h b9 0 0 [.slice a22 l22 c22] fun h =>
  stRow h b10 0 0 [.int .i64 1, .int .i64 0, .int .i64 0] fun h =>
  kr b9 b10 h)
  (ldL h b7 0 fun a23 l23 c23 =>
  req (0 ≤ (n2 : Int) ∧ (n2 : Int) < (l23 : Nat))
  (nz a23 fun b24 o25 =>
  ldRow h b24 (o25 + n2.toNat * 10) 0 [.int .i64, .int .i64, .int .i64, .int .i64, .int .i64, .int .i64, .int .i64, .int .i64, .int .i64, .int .i64] fun n26 n27 n28 n29 n30 n31 n32 n33 n34 n35 =>
  new h [.int .i64 0, .int .i64 0, .int .i64 0, .int .i64 0, .int .i64 0, .int .i64 0, .int .i64 0, .int .i64 0, .int .i64 0, .int .i64 0] 38 fun b36 h =>
  stRow h b36 0 0 [.int .i64 n26, .int .i64 n27, .int .i64 n28, .int .i64 n29, .int .i64 n30, .int .i64 n31, .int .i64 n32, .int .i64 n33, .int .i64 n34, .int .i64 n35] fun h =>
  ldI .i64 h b36 8 fun n37 =>
  ldI .i64 h b8 2 fun n38 =>
  callK Try.prog 52 ⟨[.int .i64 n37, .int .i64 n38]⟩ h fun v39 h =>
  asI .i64 v39 fun n40 =>
  st h b36 8 (.int .i64 n40) fun h =>
  ldI .i64 h b36 9 fun n41 =>
  ldI .i64 h b8 2 fun n42 =>
  callK Try.prog 52 ⟨[.int .i64 n41, .int .i64 n42]⟩ h fun v43 h =>
  asI .i64 v43 fun n44 =>
  st h b36 9 (.int .i64 n44) fun h =>
  ldI .i64 h b8 3 fun n45 =>
  ifB ((n45 : Int) == 1)
  (ldI .i64 h b36 8 fun n46 =>
  ldI .i64 h b8 2 fun n47 =>
  callK Try.prog 63 ⟨[.int .i64 n46, .int .i64 n47]⟩ h fun v48 h =>
  asI .i64 v48 fun n49 =>
  st h b36 8 (.int .i64 n49) fun h =>
  ldI .i64 h b36 6 fun n50 =>
  ldI .i64 h b8 2 fun n51 =>
  callK Try.prog 52 ⟨[.int .i64 n50, .int .i64 n51]⟩ h fun v52 h =>
  asI .i64 v52 fun n53 =>
  st h b36 6 (.int .i64 n53) fun h =>
  spec_l16Action_j0 kr n2 b7 b8 b9 b10 b36 h)
  (spec_l16Action_j0 kr n2 b7 b8 b9 b10 b36 h))))))))

theorem spec_l16Action_j1_eq (K : Cont) (n51 : Int) (b52 : Nat) (b53 : Nat) (b54 : Nat) (b55 : Nat) (h : H) :
  spec_l16Action_j1 (curV [(6, .blk), (7, .blk)] (K .ret)) n51 b52 b53 b54 b55 h = evC Try.prog 87 [] [] (sub code53 [true, true, true, true, true, true, true]) [(1, .int .i64 n51), (3, .pointer (some ⟨b52, 0, none⟩)), (6, .pointer (some ⟨b53, 0, none⟩)), (7, .pointer (some ⟨b54, 0, none⟩)), (8, .pointer (some ⟨b55, 0, none⟩))] h (outsOf none [] (some [(6, .blk), (7, .blk)]) K).K := by kernel_rfl

def spec_l16Action_j1_F : PT := mkF [(1, .int .i64), (3, .blk), (6, .blk), (7, .blk), (8, .blk)] fun K => spec_l16Action_j1 (curV [(6, .blk), (7, .blk)] (K .ret))

theorem spec_l16Action_j1_V : Valid Try.prog 87 (sub code53 [true, true, true, true, true, true, true]) spec_l16Action_j1_F :=
  piece mixed rows_nil (fun K => by intro n51 b52 b53 b54 b55 h hd; exact (spec_l16Action_j1_eq K n51 b52 b53 b54 b55 h) ▸ hd)

theorem spec_l16Action_j0_eq (K : Cont) (n45 : Int) (b46 : Nat) (b47 : Nat) (b48 : Nat) (b49 : Nat) (b50 : Nat) (h : H) :
  spec_l16Action_j0 (curV [(6, .blk), (7, .blk)] (K .ret)) n45 b46 b47 b48 b49 b50 h = evC Try.prog 87 [([true], spec_l16Action_j1_F)] [] (sub code53 [true, true, true, true, true, true]) [(1, .int .i64 n45), (3, .pointer (some ⟨b46, 0, none⟩)), (5, .pointer (some ⟨b47, 0, none⟩)), (6, .pointer (some ⟨b48, 0, none⟩)), (7, .pointer (some ⟨b49, 0, none⟩)), (8, .pointer (some ⟨b50, 0, none⟩))] h (outsOf none [] (some [(6, .blk), (7, .blk)]) K).K := by kernel_rfl

def spec_l16Action_j0_F : PT := mkF [(1, .int .i64), (3, .blk), (5, .blk), (6, .blk), (7, .blk), (8, .blk)] fun K => spec_l16Action_j0 (curV [(6, .blk), (7, .blk)] (K .ret))

theorem spec_l16Action_j0_V : Valid Try.prog 87 (sub code53 [true, true, true, true, true, true]) spec_l16Action_j0_F :=
  piece mixed (rows_cons (q' := [true]) (valid_at (p := [true, true, true, true, true, true]) spec_l16Action_j1_V rfl) rfl rows_nil) (fun K => by intro n45 b46 b47 b48 b49 b50 h hd; exact (spec_l16Action_j0_eq K n45 b46 b47 b48 b49 b50 h) ▸ hd)

theorem spec_l16Action_eq (K : Cont) (a1 : Option Addr) (l1 : Nat) (c1 : Nat) (n2 : Int) (n3 : Int) (n4 : Int) (n5 : Int) (n6 : Int) (h : H) :
  spec_l16Action (curV [(6, .blk), (7, .blk)] (K .ret)) a1 l1 c1 n2 n3 n4 n5 n6 h = evC Try.prog 87 [([true, true, true, true, true, true], spec_l16Action_j0_F)] [] code53 [(0, .agg ⟨[.slice a1 l1 c1]⟩), (1, .int .i64 n2), (2, .agg ⟨[.int .i64 n3, .int .i64 n4, .int .i64 n5, .int .i64 n6]⟩)] h (outsOf none [] (some [(6, .blk), (7, .blk)]) K).K := by kernel_rfl

def spec_l16Action_F : PT := mkF [(0, .agg [.slice]), (1, .int .i64), (2, .agg [.int .i64, .int .i64, .int .i64, .int .i64])] fun K => spec_l16Action (curV [(6, .blk), (7, .blk)] (K .ret))

theorem spec_l16Action_V : Valid Try.prog 87 code53 spec_l16Action_F :=
  piece mixed (rows_cons (q' := [true, true, true, true, true, true]) spec_l16Action_j0_V rfl rows_nil) (fun K => by intro a1 l1 c1 n2 n3 n4 n5 n6 h hd; exact (spec_l16Action_eq K a1 l1 c1 n2 n3 n4 n5 n6 h) ▸ hd)

theorem spec_l16Action_c0 (a1 : Option Addr) (l1 : Nat) (c1 : Nat) (n2 : Int) (n3 : Int) (n4 : Int) (n5 : Int) (n6 : Int) (h : H) (K : Value → H → Prop) :
  spec_l16Action (fun b100001 b100002 h =>
  ldRow h b100001 0 0 [.slice] fun a100003 l100003 c100003 =>
  ldRow h b100002 0 0 [.int .i64, .int .i64, .int .i64] fun n100004 n100005 n100006 =>
  K (.tuple ⟨[.agg ⟨[.slice a100003 l100003 c100003]⟩, .agg ⟨[.int .i64 n100004, .int .i64 n100005, .int .i64 n100006]⟩]⟩) h) a1 l1 c1 n2 n3 n4 n5 n6 h = callF Try.prog Try.f53.results.toList spec_l16Action_F [.agg ⟨[.slice a1 l1 c1]⟩, .int .i64 n2, .agg ⟨[.int .i64 n3, .int .i64 n4, .int .i64 n5, .int .i64 n6]⟩] h K := by kernel_rfl

theorem spec_l16Action_call {a1 : Option Addr} {l1 : Nat} {c1 : Nat} {n2 : Int} {n3 : Int} {n4 : Int} {n5 : Int} {n6 : Int} {h : H} {K : Value → H → Prop} (hs : spec_l16Action (fun b100001 b100002 h =>
  ldRow h b100001 0 0 [.slice] fun a100003 l100003 c100003 =>
  ldRow h b100002 0 0 [.int .i64, .int .i64, .int .i64] fun n100004 n100005 n100006 =>
  K (.tuple ⟨[.agg ⟨[.slice a100003 l100003 c100003]⟩, .agg ⟨[.int .i64 n100004, .int .i64 n100005, .int .i64 n100006]⟩]⟩) h) a1 l1 c1 n2 n3 n4 n5 n6 h) : callK Try.prog 53 ⟨[.agg ⟨[.slice a1 l1 c1]⟩, .int .i64 n2, .agg ⟨[.int .i64 n3, .int .i64 n4, .int .i64 n5, .int .i64 n6]⟩]⟩ h K :=
  func_calls Try.func53 body53 spec_l16Action_V (Nat.le_of_ble_eq_true (by kernel_rfl)) (spec_l16Action_c0 a1 l1 c1 n2 n3 n4 n5 n6 h K ▸ hs)

def spec_l16Action_M_j1 (kr : Option Addr → Nat → Nat → Int → Int → Int → H → Prop) (n48 : Int) (a49 : Option Addr) (l49 : Nat) (c49 : Nat) (n57 : Int) (n58 : Int) (n59 : Int) (n60 : Int) (n61 : Int) (n62 : Int) (n63 : Int) (n64 : Int) (n65 : Int) (n66 : Int) (h : H) : Prop :=
  req (0 ≤ (n48 : Int) ∧ (n48 : Int) < (l49 : Nat))
  (nz a49 fun b68 o69 =>
  stRow h b68 (o69 + n48.toNat * 10) 0 [.int .i64 n57, .int .i64 n58, .int .i64 n59, .int .i64 n60, .int .i64 n61, .int .i64 n62, .int .i64 n63, .int .i64 n64, .int .i64 n65, .int .i64 n66] fun h =>
  kr a49 l49 c49 0 0 0 h)

def spec_l16Action_M_j0 (kr : Option Addr → Nat → Nat → Int → Int → Int → H → Prop) (n23 : Int) (a24 : Option Addr) (l24 : Nat) (c24 : Nat) (n28 : Int) (n29 : Int) (n37 : Int) (n38 : Int) (n39 : Int) (n40 : Int) (n41 : Int) (n42 : Int) (n43 : Int) (n44 : Int) (n45 : Int) (n46 : Int) (h : H) : Prop :=
  ifB ((n29 : Int) == 2)
  (callD Try.prog 63 ⟨[.int .i64 n46, .int .i64 n28]⟩ h fun v48 h =>
  asI .i64 v48 fun n49 =>
  spec_l16Action_M_j1 kr n23 a24 l24 c24 n37 n38 n39 n40 n41 n42 n43 n44 n45 n49 h)
  (spec_l16Action_M_j1 kr n23 a24 l24 c24 n37 n38 n39 n40 n41 n42 n43 n44 n45 n46 h)

def spec_l16Action_M (kr : Option Addr → Nat → Nat → Int → Int → Int → H → Prop) (a1 : Option Addr) (l1 : Nat) (c1 : Nat) (n2 : Int) (n3 : Int) (n4 : Int) (n5 : Int) (n6 : Int) (h : H) : Prop :=
  ifB (decide ((n5 : Int) < 1))
  (kr a1 l1 c1 1 0 0 h)
  (ifB (decide ((n5 : Int) > 15))
  (kr a1 l1 c1 1 0 0 h)
  (ifB (decide ((n6 : Int) < 0))
  (kr a1 l1 c1 1 0 0 h)
  (ifB (decide ((n6 : Int) > 2))
  (kr a1 l1 c1 1 0 0 h)
  (ifB ((n5 : Int) == 9)
  (kr a1 l1 c1 1 0 0 h)
  (ifB ((n5 : Int) == 12)
  (kr a1 l1 c1 1 0 0 h)
  (req (0 ≤ (n2 : Int) ∧ (n2 : Int) < (l1 : Nat))
  (nz a1 fun b7 o8 =>
  ldRow h b7 (o8 + n2.toNat * 10) 0 [.int .i64, .int .i64, .int .i64, .int .i64, .int .i64, .int .i64, .int .i64, .int .i64, .int .i64, .int .i64] fun n9 n10 n11 n12 n13 n14 n15 n16 n17 n18 =>
  callD Try.prog 52 ⟨[.int .i64 n17, .int .i64 n5]⟩ h fun v19 h =>
  asI .i64 v19 fun n20 =>
  callD Try.prog 52 ⟨[.int .i64 n18, .int .i64 n5]⟩ h fun v21 h =>
  asI .i64 v21 fun n22 =>
  ifB ((n6 : Int) == 1)
  (callD Try.prog 63 ⟨[.int .i64 n20, .int .i64 n5]⟩ h fun v23 h =>
  asI .i64 v23 fun n24 =>
  callD Try.prog 52 ⟨[.int .i64 n15, .int .i64 n5]⟩ h fun v25 h =>
  asI .i64 v25 fun n26 =>
  spec_l16Action_M_j0 kr n2 a1 l1 c1 n5 n6 n9 n10 n11 n12 n13 n14 n26 n16 n24 n22 h)
  (spec_l16Action_M_j0 kr n2 a1 l1 c1 n5 n6 n9 n10 n11 n12 n13 n14 n15 n16 n20 n22 h))))))))

theorem spec_l16Action_M_j1_D {g0 m0 : H} {kr_1 : Nat → Nat → H → Prop} {kr_2 : Option Addr → Nat → Nat → Int → Int → Int → H → Prop} (Hkr : ∀ (a200001 : Option Addr) (l200001 : Nat) (c200001 : Nat) (n200003 : Int) (n200004 : Int) (n200005 : Int) (p200002 : Nat) (p200006 : Nat) (g m : H), Md g0 m0 g m [lo p200002 [.slice a200001 l200001 c200001], lo p200006 [.int .i64 n200003, .int .i64 n200004, .int .i64 n200005]] → kr_2 a200001 l200001 c200001 n200003 n200004 n200005 m → kr_1 p200002 p200006 g) : ∀ (n1048 : Int) (a1049 : Option Addr) (l1049 : Nat) (c1049 : Nat) (a1051 : Option Addr) (l1051 : Nat) (c1051 : Nat) (n1053 : Int) (n1054 : Int) (n1055 : Int) (n1057 : Int) (n1058 : Int) (n1059 : Int) (n1060 : Int) (n1061 : Int) (n1062 : Int) (n1063 : Int) (n1064 : Int) (n1065 : Int) (n1066 : Int) (p1050 : Nat) (p1052 : Nat) (p1056 : Nat) (p1067 : Nat) (g m : H), Md g0 m0 g m [lo p1050 [.slice a1049 l1049 c1049], lo p1052 [.slice a1051 l1051 c1051], lo p1056 [.int .i64 n1053, .int .i64 n1054, .int .i64 n1055], lo p1067 [.int .i64 n1057, .int .i64 n1058, .int .i64 n1059, .int .i64 n1060, .int .i64 n1061, .int .i64 n1062, .int .i64 n1063, .int .i64 n1064, .int .i64 n1065, .int .i64 n1066]] → spec_l16Action_M_j1 kr_2 n1048 a1049 l1049 c1049 n1057 n1058 n1059 n1060 n1061 n1062 n1063 n1064 n1065 n1066 m → spec_l16Action_j1 kr_1 n1048 p1050 p1052 p1056 p1067 g := by
  intro n1048 a1049 l1049 c1049 a1051 l1051 c1051 n1053 n1054 n1055 n1057 n1058 n1059 n1060 n1061 n1062 n1063 n1064 n1065 n1066 p1050 p1052 p1056 p1067 g m R
  rw [spec_l16Action_M_j1, spec_l16Action_j1]
  exact (p_ldL R rfl (p_row_I10 R rfl rfl rfl rfl rfl rfl rfl rfl rfl rfl (d_req (d_nz fun b1068 o1069 =>
  (d_stRow R fun g m R =>
  (p_row_L R rfl (p_stRow R (cs' := [.slice a1049 l1049 c1049]) ⟨rfl, rfl, rfl⟩ fun g R =>
  (p_stRow R (cs' := [.int .i64 0, .int .i64 0, .int .i64 0]) ⟨rfl, rfl, rfl⟩ fun g R =>
  (Hkr a1049 l1049 c1049 0 0 0 p1052 p1056 _ _ R.sub)))))))))

theorem spec_l16Action_M_j0_D {g0 m0 : H} {kr_1 : Nat → Nat → H → Prop} {kr_2 : Option Addr → Nat → Nat → Int → Int → Int → H → Prop} (Hkr : ∀ (a200001 : Option Addr) (l200001 : Nat) (c200001 : Nat) (n200003 : Int) (n200004 : Int) (n200005 : Int) (p200002 : Nat) (p200006 : Nat) (g m : H), Md g0 m0 g m [lo p200002 [.slice a200001 l200001 c200001], lo p200006 [.int .i64 n200003, .int .i64 n200004, .int .i64 n200005]] → kr_2 a200001 l200001 c200001 n200003 n200004 n200005 m → kr_1 p200002 p200006 g) : ∀ (n1023 : Int) (a1024 : Option Addr) (l1024 : Nat) (c1024 : Nat) (n1026 : Int) (n1027 : Int) (n1028 : Int) (n1029 : Int) (a1031 : Option Addr) (l1031 : Nat) (c1031 : Nat) (n1033 : Int) (n1034 : Int) (n1035 : Int) (n1037 : Int) (n1038 : Int) (n1039 : Int) (n1040 : Int) (n1041 : Int) (n1042 : Int) (n1043 : Int) (n1044 : Int) (n1045 : Int) (n1046 : Int) (p1025 : Nat) (p1030 : Nat) (p1032 : Nat) (p1036 : Nat) (p1047 : Nat) (g m : H), Md g0 m0 g m [lo p1025 [.slice a1024 l1024 c1024], lo p1030 [.int .i64 n1026, .int .i64 n1027, .int .i64 n1028, .int .i64 n1029], lo p1032 [.slice a1031 l1031 c1031], lo p1036 [.int .i64 n1033, .int .i64 n1034, .int .i64 n1035], lo p1047 [.int .i64 n1037, .int .i64 n1038, .int .i64 n1039, .int .i64 n1040, .int .i64 n1041, .int .i64 n1042, .int .i64 n1043, .int .i64 n1044, .int .i64 n1045, .int .i64 n1046]] → spec_l16Action_M_j0 kr_2 n1023 a1024 l1024 c1024 n1028 n1029 n1037 n1038 n1039 n1040 n1041 n1042 n1043 n1044 n1045 n1046 m → spec_l16Action_j0 kr_1 n1023 p1025 p1030 p1032 p1036 p1047 g := by
  intro n1023 a1024 l1024 c1024 n1026 n1027 n1028 n1029 a1031 l1031 c1031 n1033 n1034 n1035 n1037 n1038 n1039 n1040 n1041 n1042 n1043 n1044 n1045 n1046 p1025 p1030 p1032 p1036 p1047 g m R
  rw [spec_l16Action_M_j0, spec_l16Action_j0]
  exact (p_ldI R rfl (d_if (p_ldI R rfl (p_ldI R rfl (d_call R fun v1048 g m R =>
  (d_asI fun n1049 =>
  (p_st R (cs' := [.int .i64 n1037, .int .i64 n1038, .int .i64 n1039, .int .i64 n1040, .int .i64 n1041, .int .i64 n1042, .int .i64 n1043, .int .i64 n1044, .int .i64 n1045, .int .i64 n1049]) ⟨rfl, rfl⟩ fun g R =>
  (spec_l16Action_M_j1_D (by exact fun a1050 l1050 c1050 n1052 n1053 n1054 p1051 p1055 g m R =>
  (Hkr a1050 l1050 c1050 n1052 n1053 n1054 p1051 p1055 _ _ R.sub)) n1023 a1024 l1024 c1024 a1031 l1031 c1031 n1033 n1034 n1035 n1037 n1038 n1039 n1040 n1041 n1042 n1043 n1044 n1045 n1049 p1025 p1032 p1036 p1047 _ _ R.sub))))))
  (spec_l16Action_M_j1_D (by exact fun a1056 l1056 c1056 n1058 n1059 n1060 p1057 p1061 g m R =>
  (Hkr a1056 l1056 c1056 n1058 n1059 n1060 p1057 p1061 _ _ R.sub)) n1023 a1024 l1024 c1024 a1031 l1031 c1031 n1033 n1034 n1035 n1037 n1038 n1039 n1040 n1041 n1042 n1043 n1044 n1045 n1046 p1025 p1032 p1036 p1047 _ _ R.sub)))

theorem spec_l16Action_M_D {g0 m0 : H} {kr_1 : Nat → Nat → H → Prop} {kr_2 : Option Addr → Nat → Nat → Int → Int → Int → H → Prop} (Hkr : ∀ (a200001 : Option Addr) (l200001 : Nat) (c200001 : Nat) (n200003 : Int) (n200004 : Int) (n200005 : Int) (p200002 : Nat) (p200006 : Nat) (g m : H), Md g0 m0 g m [lo p200002 [.slice a200001 l200001 c200001], lo p200006 [.int .i64 n200003, .int .i64 n200004, .int .i64 n200005]] → kr_2 a200001 l200001 c200001 n200003 n200004 n200005 m → kr_1 p200002 p200006 g) : ∀ (a1001 : Option Addr) (l1001 : Nat) (c1001 : Nat) (n1002 : Int) (n1003 : Int) (n1004 : Int) (n1005 : Int) (n1006 : Int) (g m : H), Md g0 m0 g m [] → spec_l16Action_M kr_2 a1001 l1001 c1001 n1002 n1003 n1004 n1005 n1006 m → spec_l16Action kr_1 a1001 l1001 c1001 n1002 n1003 n1004 n1005 n1006 g := by
  intro a1001 l1001 c1001 n1002 n1003 n1004 n1005 n1006 g m R
  rw [spec_l16Action_M, spec_l16Action]
  exact (p_new R fun p1007 g R =>
  (p_new R fun p1008 g R =>
  (p_new R fun p1009 g R =>
  (p_new R fun p1010 g R =>
  (p_ldI R rfl (d_if (p_row_L R rfl (p_stRow R (cs' := [.slice a1001 l1001 c1001]) ⟨rfl, rfl, rfl⟩ fun g R =>
  (p_stRow R (cs' := [.int .i64 1, .int .i64 0, .int .i64 0]) ⟨rfl, rfl, rfl⟩ fun g R =>
  (Hkr a1001 l1001 c1001 1 0 0 p1009 p1010 _ _ R.sub))))
  (p_ldI R rfl (d_if (p_row_L R rfl (p_stRow R (cs' := [.slice a1001 l1001 c1001]) ⟨rfl, rfl, rfl⟩ fun g R =>
  (p_stRow R (cs' := [.int .i64 1, .int .i64 0, .int .i64 0]) ⟨rfl, rfl, rfl⟩ fun g R =>
  (Hkr a1001 l1001 c1001 1 0 0 p1009 p1010 _ _ R.sub))))
  (p_ldI R rfl (d_if (p_row_L R rfl (p_stRow R (cs' := [.slice a1001 l1001 c1001]) ⟨rfl, rfl, rfl⟩ fun g R =>
  (p_stRow R (cs' := [.int .i64 1, .int .i64 0, .int .i64 0]) ⟨rfl, rfl, rfl⟩ fun g R =>
  (Hkr a1001 l1001 c1001 1 0 0 p1009 p1010 _ _ R.sub))))
  (p_ldI R rfl (d_if (p_row_L R rfl (p_stRow R (cs' := [.slice a1001 l1001 c1001]) ⟨rfl, rfl, rfl⟩ fun g R =>
  (p_stRow R (cs' := [.int .i64 1, .int .i64 0, .int .i64 0]) ⟨rfl, rfl, rfl⟩ fun g R =>
  (Hkr a1001 l1001 c1001 1 0 0 p1009 p1010 _ _ R.sub))))
  (p_ldI R rfl (d_if (p_row_L R rfl (p_stRow R (cs' := [.slice a1001 l1001 c1001]) ⟨rfl, rfl, rfl⟩ fun g R =>
  (p_stRow R (cs' := [.int .i64 1, .int .i64 0, .int .i64 0]) ⟨rfl, rfl, rfl⟩ fun g R =>
  (Hkr a1001 l1001 c1001 1 0 0 p1009 p1010 _ _ R.sub))))
  (p_ldI R rfl (d_if (p_row_L R rfl (p_stRow R (cs' := [.slice a1001 l1001 c1001]) ⟨rfl, rfl, rfl⟩ fun g R =>
  (p_stRow R (cs' := [.int .i64 1, .int .i64 0, .int .i64 0]) ⟨rfl, rfl, rfl⟩ fun g R =>
  (Hkr a1001 l1001 c1001 1 0 0 p1009 p1010 _ _ R.sub))))
  (p_ldL R rfl (d_req (d_nz fun b1011 o1012 =>
  (d_row_I10 R fun n1013 n1014 n1015 n1016 n1017 n1018 n1019 n1020 n1021 n1022 =>
  (p_new R fun p1023 g R =>
  (p_stRow R (cs' := [.int .i64 n1013, .int .i64 n1014, .int .i64 n1015, .int .i64 n1016, .int .i64 n1017, .int .i64 n1018, .int .i64 n1019, .int .i64 n1020, .int .i64 n1021, .int .i64 n1022]) ⟨rfl, rfl, rfl⟩ fun g R =>
  (p_ldI R rfl (p_ldI R rfl (d_call R fun v1024 g m R =>
  (d_asI fun n1025 =>
  (p_st R (cs' := [.int .i64 n1013, .int .i64 n1014, .int .i64 n1015, .int .i64 n1016, .int .i64 n1017, .int .i64 n1018, .int .i64 n1019, .int .i64 n1020, .int .i64 n1025, .int .i64 n1022]) ⟨rfl, rfl⟩ fun g R =>
  (p_ldI R rfl (p_ldI R rfl (d_call R fun v1026 g m R =>
  (d_asI fun n1027 =>
  (p_st R (cs' := [.int .i64 n1013, .int .i64 n1014, .int .i64 n1015, .int .i64 n1016, .int .i64 n1017, .int .i64 n1018, .int .i64 n1019, .int .i64 n1020, .int .i64 n1025, .int .i64 n1027]) ⟨rfl, rfl⟩ fun g R =>
  (p_ldI R rfl (d_if (p_ldI R rfl (p_ldI R rfl (d_call R fun v1028 g m R =>
  (d_asI fun n1029 =>
  (p_st R (cs' := [.int .i64 n1013, .int .i64 n1014, .int .i64 n1015, .int .i64 n1016, .int .i64 n1017, .int .i64 n1018, .int .i64 n1019, .int .i64 n1020, .int .i64 n1029, .int .i64 n1027]) ⟨rfl, rfl⟩ fun g R =>
  (p_ldI R rfl (p_ldI R rfl (d_call R fun v1030 g m R =>
  (d_asI fun n1031 =>
  (p_st R (cs' := [.int .i64 n1013, .int .i64 n1014, .int .i64 n1015, .int .i64 n1016, .int .i64 n1017, .int .i64 n1018, .int .i64 n1031, .int .i64 n1020, .int .i64 n1029, .int .i64 n1027]) ⟨rfl, rfl⟩ fun g R =>
  (spec_l16Action_M_j0_D (by exact fun a1032 l1032 c1032 n1034 n1035 n1036 p1033 p1037 g m R =>
  (Hkr a1032 l1032 c1032 n1034 n1035 n1036 p1033 p1037 _ _ R.sub)) n1002 a1001 l1001 c1001 n1003 n1004 n1005 n1006 none 0 0 0 0 0 n1013 n1014 n1015 n1016 n1017 n1018 n1031 n1020 n1029 n1027 p1007 p1008 p1009 p1010 p1023 _ _ R.sub)))))))))))
  (spec_l16Action_M_j0_D (by exact fun a1038 l1038 c1038 n1040 n1041 n1042 p1039 p1043 g m R =>
  (Hkr a1038 l1038 c1038 n1040 n1041 n1042 p1039 p1043 _ _ R.sub)) n1002 a1001 l1001 c1001 n1003 n1004 n1005 n1006 none 0 0 0 0 0 n1013 n1014 n1015 n1016 n1017 n1018 n1019 n1020 n1025 n1027 p1007 p1008 p1009 p1010 p1023 _ _ R.sub)))))))))))))))))))))))))))))))))))

theorem spec_l16Action_M_call {a1 : Option Addr} {l1 : Nat} {c1 : Nat} {n2 : Int} {n3 : Int} {n4 : Int} {n5 : Int} {n6 : Int} {h : H} {K : Value → H → Prop} (hs : spec_l16Action_M (fun a300001 l300001 c300001 n300003 n300004 n300005 h =>
  K (.tuple ⟨[.agg ⟨[.slice a300001 l300001 c300001]⟩, .agg ⟨[.int .i64 n300003, .int .i64 n300004, .int .i64 n300005]⟩]⟩) h) a1 l1 c1 n2 n3 n4 n5 n6 h) : callD Try.prog 53 ⟨[.agg ⟨[.slice a1 l1 c1]⟩, .int .i64 n2, .agg ⟨[.int .i64 n3, .int .i64 n4, .int .i64 n5, .int .i64 n6]⟩]⟩ h K :=
  fun g r => spec_l16Action_call (spec_l16Action_M_D (by exact fun a300001 l300001 c300001 n300003 n300004 n300005 p300002 p300006 g m R =>
(p_row_L R rfl (p_row_I3 R rfl rfl rfl (fun h => ⟨m, R.af, h⟩)))) _ _ _ _ _ _ _ _ _ _ (Md.start r) hs)

noncomputable def code54 : Code := codeOf Try.f54
theorem body54 : Try.f54.body = some code54 := by kernel_rfl
def spec_l16Take_l0 (kx0 : Int → Nat → Nat → Nat → Nat → Int → H → Prop) : Nat → Int → Nat → Nat → Nat → Nat → Int → Int → H → Prop
 | 0, _, _, _, _, _, _, _, _ => False
 | N + 1, n20, b21, b22, b23, b24, n25, n26, h =>
  ifB (decide ((n26 : Int) ≥ 1))
  (ldI .i64 h b24 6 fun n27 =>
  callK Try.prog 40 ⟨[.int .i64 n27, .int .i64 n26]⟩ h fun v28 h =>
  asB v28 fun t29 =>
  ifB t29
  (ldI .i64 h b24 7 fun n30 =>
  callK Try.prog 40 ⟨[.int .i64 n30, .int .i64 n26]⟩ h fun v31 h =>
  asB v31 fun t32 =>
  ifB (!t32)
  (spec_l16Take_l0 kx0 N n20 b21 b22 b23 b24 n26 (IntKind.i64.wrap (n26 - 1)) h)
  (spec_l16Take_l0 kx0 N n20 b21 b22 b23 b24 n25 (IntKind.i64.wrap (n26 - 1)) h))
  (spec_l16Take_l0 kx0 N n20 b21 b22 b23 b24 n25 (IntKind.i64.wrap (n26 - 1)) h))
  (kx0 n20 b21 b22 b23 b24 n25 h)

def spec_l16Take_j1 (kr : Nat → Nat → H → Prop) (n39 : Int) (b40 : Nat) (b41 : Nat) (b42 : Nat) (b43 : Nat) (n44 : Int) (h : H) : Prop :=
  ifB ((n44 : Int) == 0)
  (ldRow h b40 0 0 [.slice] fun a45 l45 c45 =>
  stRow h b41 0 0 [.slice a45 l45 c45] fun h =>
  stRow h b42 0 0 [.int .i64 9, .int .i64 0, .int .i64 0] fun h =>
  kr b41 b42 h)
  (ldL h b40 0 fun a46 l46 c46 =>
  ldI .i64 h b43 6 fun n47 =>
  callK Try.prog 52 ⟨[.int .i64 n47, .int .i64 n44]⟩ h fun v48 h =>
  asI .i64 v48 fun n49 =>
  cell h b40 0 = some (.slice a46 l46 c46) ∧ (req (0 ≤ (n39 : Int) ∧ (n39 : Int) < (l46 : Nat))
  (nz a46 fun b50 o51 =>
  st h b50 ((o51 + n39.toNat * 10) + 6) (.int .i64 n49) fun h =>
  ldI .i64 h b43 9 fun n52 =>
  callK Try.prog 40 ⟨[.int .i64 n52, .int .i64 n44]⟩ h fun v53 h =>
  asB v53 fun t54 =>
  ifB t54
  (ldL h b40 0 fun a55 l55 c55 =>
  ldI .i64 h b43 7 fun n56 =>
  callK Try.prog 63 ⟨[.int .i64 n56, .int .i64 n44]⟩ h fun v57 h =>
  asI .i64 v57 fun n58 =>
  cell h b40 0 = some (.slice a55 l55 c55) ∧ (req (0 ≤ (n39 : Int) ∧ (n39 : Int) < (l55 : Nat))
  (nz a55 fun b59 o60 =>
  st h b59 ((o60 + n39.toNat * 10) + 7) (.int .i64 n58) fun h =>
  ldRow h b40 0 0 [.slice] fun a61 l61 c61 =>
  stRow h b41 0 0 [.slice a61 l61 c61] fun h =>
  stRow h b42 0 0 [.int .i64 0, .int .i64 n44, .int .i64 2] fun h =>
  kr b41 b42 h)))
  (new h [.int .i64 0, .int .i64 0, .int .i64 0] 34 fun b62 h =>
  stRow h b62 0 0 [.int .i64 0, .int .i64 n44, .int .i64 1] fun h =>
  ifB ((n44 : Int) == 12)
  (ldL h b40 0 fun a63 l63 c63 =>
  req (0 ≤ (n39 : Int) ∧ (n39 : Int) < (l63 : Nat))
  (nz a63 fun b64 o65 =>
  st h b64 ((o65 + n39.toNat * 10) + 4) (.int .i64 2) fun h =>
  ldRow h b40 0 0 [.slice] fun a66 l66 c66 =>
  ldRow h b62 0 0 [.int .i64, .int .i64, .int .i64] fun n67 n68 n69 =>
  stRow h b41 0 0 [.slice a66 l66 c66] fun h =>
  heldRow h b62 0 0 [.int .i64 n67, .int .i64 n68, .int .i64 n69] (stRow h b42 0 0 [.int .i64 n67, .int .i64 n68, .int .i64 n69] fun h =>
  kr b41 b42 h)))
  (ifB ((n44 : Int) == 14)
  (ldRow h b40 0 0 [.slice] fun a70 l70 c70 =>
  ldRow h b62 0 0 [.int .i64, .int .i64, .int .i64] fun n71 n72 n73 =>
  stRow h b41 0 0 [.slice a70 l70 c70] fun h =>
  heldRow h b62 0 0 [.int .i64 n71, .int .i64 n72, .int .i64 n73] (stRow h b42 0 0 [.int .i64 n71, .int .i64 n72, .int .i64 n73] fun h =>
  kr b41 b42 h))
  (ifB ((n44 : Int) == 13)
  (ldRow h b40 0 0 [.slice] fun a74 l74 c74 =>
  ldRow h b62 0 0 [.int .i64, .int .i64, .int .i64] fun n75 n76 n77 =>
  stRow h b41 0 0 [.slice a74 l74 c74] fun h =>
  heldRow h b62 0 0 [.int .i64 n75, .int .i64 n76, .int .i64 n77] (stRow h b42 0 0 [.int .i64 n75, .int .i64 n76, .int .i64 n77] fun h =>
  kr b41 b42 h))
  (ldI .i64 h b43 0 fun n78 =>
  ifB ((n78 : Int) == 1)
  (ldRow h b40 0 0 [.slice] fun a79 l79 c79 =>
  ldRow h b62 0 0 [.int .i64, .int .i64, .int .i64] fun n80 n81 n82 =>
  stRow h b41 0 0 [.slice a79 l79 c79] fun h =>
  heldRow h b62 0 0 [.int .i64 n80, .int .i64 n81, .int .i64 n82] (stRow h b42 0 0 [.int .i64 n80, .int .i64 n81, .int .i64 n82] fun h =>
  kr b41 b42 h))
  (ldRow h b40 0 0 [.slice] fun a83 l83 c83 =>
  ldI .i64 h b43 0 fun n84 =>
  ldRow h b62 0 0 [.int .i64, .int .i64, .int .i64] fun n85 n86 n87 =>
  callK Try.prog 49 ⟨[.agg ⟨[.slice a83 l83 c83]⟩, .int .i64 n84, .int .i64 (IntKind.i64.wrap (128 + n44))]⟩ h fun v88 h =>
  elF False (.agg [.slice]) v88 fun a89 l89 c89 =>
  heldRow h b62 0 0 [.int .i64 n85, .int .i64 n86, .int .i64 n87] (stRow h b41 0 0 [.slice a89 l89 c89] fun h =>
  heldRow h b62 0 0 [.int .i64 n85, .int .i64 n86, .int .i64 n87] (stRow h b42 0 0 [.int .i64 n85, .int .i64 n86, .int .i64 n87] fun h =>
  kr b41 b42 h))))))))))

def spec_l16Take (kr : Nat → Nat → H → Prop) (a1 : Option Addr) (l1 : Nat) (c1 : Nat) (n2 : Int) (h : H) : Prop :=
  new h [.slice a1 l1 c1] 27 fun b3 h =>
  new h [.slice none 0 0] 27 fun b4 h =>
  new h [.int .i64 0, .int .i64 0, .int .i64 0] 34 fun b5 h =>
  ldL h b3 0 fun a6 l6 c6 =>
  req (0 ≤ (n2 : Int) ∧ (n2 : Int) < (l6 : Nat))
  (nz a6 fun b7 o8 =>
  ldRow h b7 (o8 + n2.toNat * 10) 0 [.int .i64, .int .i64, .int .i64, .int .i64, .int .i64, .int .i64, .int .i64, .int .i64, .int .i64, .int .i64] fun n9 n10 n11 n12 n13 n14 n15 n16 n17 n18 =>
  new h [.int .i64 0, .int .i64 0, .int .i64 0, .int .i64 0, .int .i64 0, .int .i64 0, .int .i64 0, .int .i64 0, .int .i64 0, .int .i64 0] 38 fun b19 h =>
  stRow h b19 0 0 [.int .i64 n9, .int .i64 n10, .int .i64 n11, .int .i64 n12, .int .i64 n13, .int .i64 n14, .int .i64 n15, .int .i64 n16, .int .i64 n17, .int .i64 n18] fun h =>
  ∃ M30, spec_l16Take_l0 (fun n20 b21 b22 b23 b24 n25 h =>
  ldI .i64 h b24 6 fun n26 =>
  callK Try.prog 40 ⟨[.int .i64 n26, .int .i64 9]⟩ h fun v27 h =>
  asB v27 fun t28 =>
  ifB t28
  (spec_l16Take_j1 kr n20 b21 b22 b23 b24 9 h)
  (ldI .i64 h b24 4 fun n29 =>
  ifB ((n29 : Int) == 2)
  (spec_l16Take_j1 kr n20 b21 b22 b23 b24 0 h)
  (spec_l16Take_j1 kr n20 b21 b22 b23 b24 n25 h))) M30 n2 b3 b4 b5 b19 0 15 h)

theorem spec_l16Take_l0_eq (K : Cont) (N : Nat) (n20 : Int) (b21 : Nat) (b22 : Nat) (b23 : Nat) (b24 : Nat) (n25 : Int) (n26 : Int) (h : H) :
  spec_l16Take_l0 (curV [(1, .int .i64), (2, .blk), (4, .blk), (5, .blk), (6, .blk), (7, .int .i64)] (K (.exit 0))) (N + 1) n20 b21 b22 b23 b24 n25 n26 h = evC Try.prog 97 [] [] (sub code54 [true, true, true, false, true, false, false]) [(1, .int .i64 n20), (2, .pointer (some ⟨b21, 0, none⟩)), (4, .pointer (some ⟨b22, 0, none⟩)), (5, .pointer (some ⟨b23, 0, none⟩)), (6, .pointer (some ⟨b24, 0, none⟩)), (7, .int .i64 n25), (8, .int .i64 n26)] h ((outsOf none [(0, [(1, .int .i64), (2, .blk), (4, .blk), (5, .blk), (6, .blk), (7, .int .i64)])] none K).loop [(1, .int .i64), (2, .blk), (4, .blk), (5, .blk), (6, .blk), (7, .int .i64), (8, .int .i64)] (spec_l16Take_l0 (curV [(1, .int .i64), (2, .blk), (4, .blk), (5, .blk), (6, .blk), (7, .int .i64)] (K (.exit 0))) N)).K := by kernel_rfl

def spec_l16Take_l0_F : PT := mkL [(1, .int .i64), (2, .blk), (4, .blk), (5, .blk), (6, .blk), (7, .int .i64), (8, .int .i64)] fun K N => spec_l16Take_l0 (curV [(1, .int .i64), (2, .blk), (4, .blk), (5, .blk), (6, .blk), (7, .int .i64)] (K (.exit 0))) N

theorem spec_l16Take_l0_V : Valid Try.prog 97 (sub code54 [true, true, true, false, true, false]) spec_l16Take_l0_F :=
  loop_at (code54) [true, true, true, false, true, false] (loop_piece (c := (sub code54 [true, true, true, false, true, false, false])) mixed rows_nil (fun K => by intro n20 b21 b22 b23 b24 n25 n26 h hd; exact hd) (fun K N => by intro n20 b21 b22 b23 b24 n25 n26 h hd; exact (spec_l16Take_l0_eq K N n20 b21 b22 b23 b24 n25 n26 h) ▸ hd))

theorem spec_l16Take_j1_eq (K : Cont) (n39 : Int) (b40 : Nat) (b41 : Nat) (b42 : Nat) (b43 : Nat) (n44 : Int) (h : H) :
  spec_l16Take_j1 (curV [(4, .blk), (5, .blk)] (K .ret)) n39 b40 b41 b42 b43 n44 h = evC Try.prog 97 [] [] (sub code54 [true, true, true, true, true]) [(1, .int .i64 n39), (2, .pointer (some ⟨b40, 0, none⟩)), (4, .pointer (some ⟨b41, 0, none⟩)), (5, .pointer (some ⟨b42, 0, none⟩)), (6, .pointer (some ⟨b43, 0, none⟩)), (7, .int .i64 n44)] h (outsOf none [] (some [(4, .blk), (5, .blk)]) K).K := by kernel_rfl

def spec_l16Take_j1_F : PT := mkF [(1, .int .i64), (2, .blk), (4, .blk), (5, .blk), (6, .blk), (7, .int .i64)] fun K => spec_l16Take_j1 (curV [(4, .blk), (5, .blk)] (K .ret))

theorem spec_l16Take_j1_V : Valid Try.prog 97 (sub code54 [true, true, true, true, true]) spec_l16Take_j1_F :=
  piece mixed rows_nil (fun K => by intro n39 b40 b41 b42 b43 n44 h hd; exact (spec_l16Take_j1_eq K n39 b40 b41 b42 b43 n44 h) ▸ hd)

theorem spec_l16Take_eq (K : Cont) (a1 : Option Addr) (l1 : Nat) (c1 : Nat) (n2 : Int) (h : H) :
  spec_l16Take (curV [(4, .blk), (5, .blk)] (K .ret)) a1 l1 c1 n2 h = evC Try.prog 97 [([false, false, true, false, true, true, true], spec_l16Take_l0_F), ([true, true, true, true, true], spec_l16Take_j1_F)] [] code54 [(0, .agg ⟨[.slice a1 l1 c1]⟩), (1, .int .i64 n2)] h (outsOf none [] (some [(4, .blk), (5, .blk)]) K).K := by kernel_rfl

def spec_l16Take_F : PT := mkF [(0, .agg [.slice]), (1, .int .i64)] fun K => spec_l16Take (curV [(4, .blk), (5, .blk)] (K .ret))

theorem spec_l16Take_V : Valid Try.prog 97 code54 spec_l16Take_F :=
  piece mixed (rows_cons (q' := [true, true, true, false, true, false]) spec_l16Take_l0_V rfl (rows_cons (q' := [true, true, true, true, true]) spec_l16Take_j1_V rfl rows_nil)) (fun K => by intro a1 l1 c1 n2 h hd; exact (spec_l16Take_eq K a1 l1 c1 n2 h) ▸ hd)

theorem spec_l16Take_c0 (a1 : Option Addr) (l1 : Nat) (c1 : Nat) (n2 : Int) (h : H) (K : Value → H → Prop) :
  spec_l16Take (fun b100001 b100002 h =>
  ldRow h b100001 0 0 [.slice] fun a100003 l100003 c100003 =>
  ldRow h b100002 0 0 [.int .i64, .int .i64, .int .i64] fun n100004 n100005 n100006 =>
  K (.tuple ⟨[.agg ⟨[.slice a100003 l100003 c100003]⟩, .agg ⟨[.int .i64 n100004, .int .i64 n100005, .int .i64 n100006]⟩]⟩) h) a1 l1 c1 n2 h = callF Try.prog Try.f54.results.toList spec_l16Take_F [.agg ⟨[.slice a1 l1 c1]⟩, .int .i64 n2] h K := by kernel_rfl

theorem spec_l16Take_call {a1 : Option Addr} {l1 : Nat} {c1 : Nat} {n2 : Int} {h : H} {K : Value → H → Prop} (hs : spec_l16Take (fun b100001 b100002 h =>
  ldRow h b100001 0 0 [.slice] fun a100003 l100003 c100003 =>
  ldRow h b100002 0 0 [.int .i64, .int .i64, .int .i64] fun n100004 n100005 n100006 =>
  K (.tuple ⟨[.agg ⟨[.slice a100003 l100003 c100003]⟩, .agg ⟨[.int .i64 n100004, .int .i64 n100005, .int .i64 n100006]⟩]⟩) h) a1 l1 c1 n2 h) : callK Try.prog 54 ⟨[.agg ⟨[.slice a1 l1 c1]⟩, .int .i64 n2]⟩ h K :=
  func_calls Try.func54 body54 spec_l16Take_V (Nat.le_of_ble_eq_true (by kernel_rfl)) (spec_l16Take_c0 a1 l1 c1 n2 h K ▸ hs)

def spec_l16Take_M_l0 (kx0 : Int → Int → Option Addr → Nat → Nat → Int → Int → Int → Int → Int → H → Prop) : Nat → Int → Int → Int → Option Addr → Nat → Nat → Int → Int → Int → Int → Int → H → Prop
 | 0, _, _, _, _, _, _, _, _, _, _, _, _ => False
 | N + 1, n15, n16, n17, a18, l18, c18, n26, n30, n32, n33, n35, h =>
  ifB (decide ((n17 : Int) ≥ 1))
  (callD Try.prog 40 ⟨[.int .i64 n32, .int .i64 n17]⟩ h fun v37 h =>
  asB v37 fun t38 =>
  ifB t38
  (callD Try.prog 40 ⟨[.int .i64 n33, .int .i64 n17]⟩ h fun v39 h =>
  asB v39 fun t40 =>
  ifB (!t40)
  (spec_l16Take_M_l0 kx0 N n15 n17 (IntKind.i64.wrap (n17 - 1)) a18 l18 c18 n26 n30 n32 n33 n35 h)
  (spec_l16Take_M_l0 kx0 N n15 n16 (IntKind.i64.wrap (n17 - 1)) a18 l18 c18 n26 n30 n32 n33 n35 h))
  (spec_l16Take_M_l0 kx0 N n15 n16 (IntKind.i64.wrap (n17 - 1)) a18 l18 c18 n26 n30 n32 n33 n35 h))
  (kx0 n15 n16 a18 l18 c18 n26 n30 n32 n33 n35 h)

def spec_l16Take_M_j1 (kr : Option Addr → Nat → Nat → Int → Int → Int → H → Prop) (n1062 : Int) (n1063 : Int) (a1064 : Option Addr) (l1064 : Nat) (c1064 : Nat) (n1072 : Int) (n1078 : Int) (n1079 : Int) (n1081 : Int) (h : H) : Prop :=
  ifB ((n1063 : Int) == 0)
  (kr a1064 l1064 c1064 9 0 0 h)
  (callD Try.prog 52 ⟨[.int .i64 n1078, .int .i64 n1063]⟩ h fun v1083 h =>
  asI .i64 v1083 fun n1084 =>
  req (0 ≤ (n1062 : Int) ∧ (n1062 : Int) < (l1064 : Nat))
  (nz a1064 fun b1085 o1086 =>
  st h b1085 ((o1086 + n1062.toNat * 10) + 6) (.int .i64 n1084) fun h =>
  callD Try.prog 40 ⟨[.int .i64 n1081, .int .i64 n1063]⟩ h fun v1087 h =>
  asB v1087 fun t1088 =>
  ifB t1088
  (callD Try.prog 63 ⟨[.int .i64 n1079, .int .i64 n1063]⟩ h fun v1089 h =>
  asI .i64 v1089 fun n1090 =>
  req (0 ≤ (n1062 : Int) ∧ (n1062 : Int) < (l1064 : Nat))
  (nz a1064 fun b1091 o1092 =>
  st h b1091 ((o1092 + n1062.toNat * 10) + 7) (.int .i64 n1090) fun h =>
  kr a1064 l1064 c1064 0 n1063 2 h))
  (ifB ((n1063 : Int) == 12)
  (req (0 ≤ (n1062 : Int) ∧ (n1062 : Int) < (l1064 : Nat))
  (nz a1064 fun b1093 o1094 =>
  st h b1093 ((o1094 + n1062.toNat * 10) + 4) (.int .i64 2) fun h =>
  kr a1064 l1064 c1064 0 n1063 1 h))
  (ifB ((n1063 : Int) == 14)
  (kr a1064 l1064 c1064 0 n1063 1 h)
  (ifB ((n1063 : Int) == 13)
  (kr a1064 l1064 c1064 0 n1063 1 h)
  (ifB ((n1072 : Int) == 1)
  (kr a1064 l1064 c1064 0 n1063 1 h)
  (callD Try.prog 49 ⟨[.agg ⟨[.slice a1064 l1064 c1064]⟩, .int .i64 n1072, .int .i64 (IntKind.i64.wrap (128 + n1063))]⟩ h fun v1095 h =>
  elF False (.agg [.slice]) v1095 fun a1096 l1096 c1096 =>
  kr a1096 l1096 c1096 0 n1063 1 h)))))))

def spec_l16Take_M (kr : Option Addr → Nat → Nat → Int → Int → Int → H → Prop) (a1 : Option Addr) (l1 : Nat) (c1 : Nat) (n2 : Int) (h : H) : Prop :=
  req (0 ≤ (n2 : Int) ∧ (n2 : Int) < (l1 : Nat))
  (nz a1 fun b3 o4 =>
  ldRow h b3 (o4 + n2.toNat * 10) 0 [.int .i64, .int .i64, .int .i64, .int .i64, .int .i64, .int .i64, .int .i64, .int .i64, .int .i64, .int .i64] fun n5 n6 n7 n8 n9 n10 n11 n12 n13 n14 =>
  ∃ M38, spec_l16Take_M_l0 (fun n15 n16 a17 l17 c17 n25 n29 n31 n32 n34 h =>
  callD Try.prog 40 ⟨[.int .i64 n31, .int .i64 9]⟩ h fun v36 h =>
  asB v36 fun t37 =>
  ifB t37
  (spec_l16Take_M_j1 kr n15 9 a17 l17 c17 n25 n31 n32 n34 h)
  (ifB ((n29 : Int) == 2)
  (spec_l16Take_M_j1 kr n15 0 a17 l17 c17 n25 n31 n32 n34 h)
  (spec_l16Take_M_j1 kr n15 n16 a17 l17 c17 n25 n31 n32 n34 h))) M38 n2 0 15 a1 l1 c1 n5 n9 n11 n12 n14 h)

theorem spec_l16Take_M_l0_D {g0 m0 : H} {kx0_1 : Int → Nat → Nat → Nat → Nat → Int → H → Prop} {kx0_2 : Int → Int → Option Addr → Nat → Nat → Int → Int → Int → Int → Int → H → Prop} (Hkx0 : ∀ (n200001 : Int) (n200002 : Int) (a200003 : Option Addr) (l200003 : Nat) (c200003 : Nat) (a200005 : Option Addr) (l200005 : Nat) (c200005 : Nat) (n200007 : Int) (n200008 : Int) (n200009 : Int) (n200011 : Int) (n200012 : Int) (n200013 : Int) (n200014 : Int) (n200015 : Int) (n200016 : Int) (n200017 : Int) (n200018 : Int) (n200019 : Int) (n200020 : Int) (p200004 : Nat) (p200006 : Nat) (p200010 : Nat) (p200021 : Nat) (g m : H), Md g0 m0 g m [lo p200004 [.slice a200003 l200003 c200003], lo p200006 [.slice a200005 l200005 c200005], lo p200010 [.int .i64 n200007, .int .i64 n200008, .int .i64 n200009], lo p200021 [.int .i64 n200011, .int .i64 n200012, .int .i64 n200013, .int .i64 n200014, .int .i64 n200015, .int .i64 n200016, .int .i64 n200017, .int .i64 n200018, .int .i64 n200019, .int .i64 n200020]] → kx0_2 n200001 n200002 a200003 l200003 c200003 n200011 n200015 n200017 n200018 n200020 m → kx0_1 n200001 p200004 p200006 p200010 p200021 n200002 g) : ∀ (N : Nat) (n1015 : Int) (n1016 : Int) (n1017 : Int) (a1018 : Option Addr) (l1018 : Nat) (c1018 : Nat) (a1020 : Option Addr) (l1020 : Nat) (c1020 : Nat) (n1022 : Int) (n1023 : Int) (n1024 : Int) (n1026 : Int) (n1027 : Int) (n1028 : Int) (n1029 : Int) (n1030 : Int) (n1031 : Int) (n1032 : Int) (n1033 : Int) (n1034 : Int) (n1035 : Int) (p1019 : Nat) (p1021 : Nat) (p1025 : Nat) (p1036 : Nat) (g m : H), Md g0 m0 g m [lo p1019 [.slice a1018 l1018 c1018], lo p1021 [.slice a1020 l1020 c1020], lo p1025 [.int .i64 n1022, .int .i64 n1023, .int .i64 n1024], lo p1036 [.int .i64 n1026, .int .i64 n1027, .int .i64 n1028, .int .i64 n1029, .int .i64 n1030, .int .i64 n1031, .int .i64 n1032, .int .i64 n1033, .int .i64 n1034, .int .i64 n1035]] → spec_l16Take_M_l0 kx0_2 N n1015 n1016 n1017 a1018 l1018 c1018 n1026 n1030 n1032 n1033 n1035 m → spec_l16Take_l0 kx0_1 N n1015 p1019 p1021 p1025 p1036 n1016 n1017 g := by
  intro N
  induction N with
  | zero => intro n1015 n1016 n1017 a1018 l1018 c1018 a1020 l1020 c1020 n1022 n1023 n1024 n1026 n1027 n1028 n1029 n1030 n1031 n1032 n1033 n1034 n1035 p1019 p1021 p1025 p1036 g m R h0; exact h0.elim
  | succ N ih =>
    intro n1015 n1016 n1017 a1018 l1018 c1018 a1020 l1020 c1020 n1022 n1023 n1024 n1026 n1027 n1028 n1029 n1030 n1031 n1032 n1033 n1034 n1035 p1019 p1021 p1025 p1036 g m R
    rw [spec_l16Take_M_l0, spec_l16Take_l0]
    exact (d_if (p_ldI R rfl (d_call R fun v1037 g m R =>
  (d_asB fun t1038 =>
  (d_if (p_ldI R rfl (d_call R fun v1039 g m R =>
  (d_asB fun t1040 =>
  (d_if (ih n1015 n1017 (IntKind.i64.wrap (n1017 - 1)) a1018 l1018 c1018 a1020 l1020 c1020 n1022 n1023 n1024 n1026 n1027 n1028 n1029 n1030 n1031 n1032 n1033 n1034 n1035 p1019 p1021 p1025 p1036 _ _ R.sub)
  (ih n1015 n1016 (IntKind.i64.wrap (n1017 - 1)) a1018 l1018 c1018 a1020 l1020 c1020 n1022 n1023 n1024 n1026 n1027 n1028 n1029 n1030 n1031 n1032 n1033 n1034 n1035 p1019 p1021 p1025 p1036 _ _ R.sub)))))
  (ih n1015 n1016 (IntKind.i64.wrap (n1017 - 1)) a1018 l1018 c1018 a1020 l1020 c1020 n1022 n1023 n1024 n1026 n1027 n1028 n1029 n1030 n1031 n1032 n1033 n1034 n1035 p1019 p1021 p1025 p1036 _ _ R.sub)))))
  (Hkx0 n1015 n1016 a1018 l1018 c1018 a1020 l1020 c1020 n1022 n1023 n1024 n1026 n1027 n1028 n1029 n1030 n1031 n1032 n1033 n1034 n1035 p1019 p1021 p1025 p1036 _ _ R.sub))

theorem spec_l16Take_M_j1_D {g0 m0 : H} {kr_1 : Nat → Nat → H → Prop} {kr_2 : Option Addr → Nat → Nat → Int → Int → Int → H → Prop} (Hkr : ∀ (a200001 : Option Addr) (l200001 : Nat) (c200001 : Nat) (n200003 : Int) (n200004 : Int) (n200005 : Int) (p200002 : Nat) (p200006 : Nat) (g m : H), Md g0 m0 g m [lo p200002 [.slice a200001 l200001 c200001], lo p200006 [.int .i64 n200003, .int .i64 n200004, .int .i64 n200005]] → kr_2 a200001 l200001 c200001 n200003 n200004 n200005 m → kr_1 p200002 p200006 g) : ∀ (n2062 : Int) (n2063 : Int) (a2064 : Option Addr) (l2064 : Nat) (c2064 : Nat) (a2066 : Option Addr) (l2066 : Nat) (c2066 : Nat) (n2068 : Int) (n2069 : Int) (n2070 : Int) (n2072 : Int) (n2073 : Int) (n2074 : Int) (n2075 : Int) (n2076 : Int) (n2077 : Int) (n2078 : Int) (n2079 : Int) (n2080 : Int) (n2081 : Int) (p2065 : Nat) (p2067 : Nat) (p2071 : Nat) (p2082 : Nat) (g m : H), Md g0 m0 g m [lo p2065 [.slice a2064 l2064 c2064], lo p2067 [.slice a2066 l2066 c2066], lo p2071 [.int .i64 n2068, .int .i64 n2069, .int .i64 n2070], lo p2082 [.int .i64 n2072, .int .i64 n2073, .int .i64 n2074, .int .i64 n2075, .int .i64 n2076, .int .i64 n2077, .int .i64 n2078, .int .i64 n2079, .int .i64 n2080, .int .i64 n2081]] → spec_l16Take_M_j1 kr_2 n2062 n2063 a2064 l2064 c2064 n2072 n2078 n2079 n2081 m → spec_l16Take_j1 kr_1 n2062 p2065 p2067 p2071 p2082 n2063 g := by
  intro n2062 n2063 a2064 l2064 c2064 a2066 l2066 c2066 n2068 n2069 n2070 n2072 n2073 n2074 n2075 n2076 n2077 n2078 n2079 n2080 n2081 p2065 p2067 p2071 p2082 g m R
  rw [spec_l16Take_M_j1, spec_l16Take_j1]
  exact (d_if (p_row_L R rfl (p_stRow R (cs' := [.slice a2064 l2064 c2064]) ⟨rfl, rfl, rfl⟩ fun g R =>
  (p_stRow R (cs' := [.int .i64 9, .int .i64 0, .int .i64 0]) ⟨rfl, rfl, rfl⟩ fun g R =>
  (Hkr a2064 l2064 c2064 9 0 0 p2067 p2071 _ _ R.sub))))
  (p_ldL R rfl (p_ldI R rfl (d_call R fun v2083 g m R =>
  (d_asI fun n2084 =>
  (p_cell R rfl (d_req (d_nz fun b2085 o2086 =>
  (d_st R fun g m R =>
  (p_ldI R rfl (d_call R fun v2087 g m R =>
  (d_asB fun t2088 =>
  (d_if (p_ldL R rfl (p_ldI R rfl (d_call R fun v2089 g m R =>
  (d_asI fun n2090 =>
  (p_cell R rfl (d_req (d_nz fun b2091 o2092 =>
  (d_st R fun g m R =>
  (p_row_L R rfl (p_stRow R (cs' := [.slice a2064 l2064 c2064]) ⟨rfl, rfl, rfl⟩ fun g R =>
  (p_stRow R (cs' := [.int .i64 0, .int .i64 n2063, .int .i64 2]) ⟨rfl, rfl, rfl⟩ fun g R =>
  (Hkr a2064 l2064 c2064 0 n2063 2 p2067 p2071 _ _ R.sub))))))))))))
  (p_new R fun p2093 g R =>
  (p_stRow R (cs' := [.int .i64 0, .int .i64 n2063, .int .i64 1]) ⟨rfl, rfl, rfl⟩ fun g R =>
  (d_if (p_ldL R rfl (d_req (d_nz fun b2094 o2095 =>
  (d_st R fun g m R =>
  (p_row_L R rfl (p_row_I3 R rfl rfl rfl (p_stRow R (cs' := [.slice a2064 l2064 c2064]) ⟨rfl, rfl, rfl⟩ fun g R =>
  (p_held R rfl (p_stRow R (cs' := [.int .i64 0, .int .i64 n2063, .int .i64 1]) ⟨rfl, rfl, rfl⟩ fun g R =>
  (Hkr a2064 l2064 c2064 0 n2063 1 p2067 p2071 _ _ R.sub))))))))))
  (d_if (p_row_L R rfl (p_row_I3 R rfl rfl rfl (p_stRow R (cs' := [.slice a2064 l2064 c2064]) ⟨rfl, rfl, rfl⟩ fun g R =>
  (p_held R rfl (p_stRow R (cs' := [.int .i64 0, .int .i64 n2063, .int .i64 1]) ⟨rfl, rfl, rfl⟩ fun g R =>
  (Hkr a2064 l2064 c2064 0 n2063 1 p2067 p2071 _ _ R.sub))))))
  (d_if (p_row_L R rfl (p_row_I3 R rfl rfl rfl (p_stRow R (cs' := [.slice a2064 l2064 c2064]) ⟨rfl, rfl, rfl⟩ fun g R =>
  (p_held R rfl (p_stRow R (cs' := [.int .i64 0, .int .i64 n2063, .int .i64 1]) ⟨rfl, rfl, rfl⟩ fun g R =>
  (Hkr a2064 l2064 c2064 0 n2063 1 p2067 p2071 _ _ R.sub))))))
  (p_ldI R rfl (d_if (p_row_L R rfl (p_row_I3 R rfl rfl rfl (p_stRow R (cs' := [.slice a2064 l2064 c2064]) ⟨rfl, rfl, rfl⟩ fun g R =>
  (p_held R rfl (p_stRow R (cs' := [.int .i64 0, .int .i64 n2063, .int .i64 1]) ⟨rfl, rfl, rfl⟩ fun g R =>
  (Hkr a2064 l2064 c2064 0 n2063 1 p2067 p2071 _ _ R.sub))))))
  (p_row_L R rfl (p_ldI R rfl (p_row_I3 R rfl rfl rfl (d_call R fun v2096 g m R =>
  (d_el_ALE fun a2097 l2097 c2097 =>
  (p_held R rfl (p_stRow R (cs' := [.slice a2097 l2097 c2097]) ⟨rfl, rfl, rfl⟩ fun g R =>
  (p_held R rfl (p_stRow R (cs' := [.int .i64 0, .int .i64 n2063, .int .i64 1]) ⟨rfl, rfl, rfl⟩ fun g R =>
  (Hkr a2097 l2097 c2097 0 n2063 1 p2067 p2071 _ _ R.sub))))))))))))))))))))))))))))))

theorem spec_l16Take_M_D {g0 m0 : H} {kr_1 : Nat → Nat → H → Prop} {kr_2 : Option Addr → Nat → Nat → Int → Int → Int → H → Prop} (Hkr : ∀ (a200001 : Option Addr) (l200001 : Nat) (c200001 : Nat) (n200003 : Int) (n200004 : Int) (n200005 : Int) (p200002 : Nat) (p200006 : Nat) (g m : H), Md g0 m0 g m [lo p200002 [.slice a200001 l200001 c200001], lo p200006 [.int .i64 n200003, .int .i64 n200004, .int .i64 n200005]] → kr_2 a200001 l200001 c200001 n200003 n200004 n200005 m → kr_1 p200002 p200006 g) : ∀ (a1001 : Option Addr) (l1001 : Nat) (c1001 : Nat) (n1002 : Int) (g m : H), Md g0 m0 g m [] → spec_l16Take_M kr_2 a1001 l1001 c1001 n1002 m → spec_l16Take kr_1 a1001 l1001 c1001 n1002 g := by
  intro a1001 l1001 c1001 n1002 g m R
  rw [spec_l16Take_M, spec_l16Take]
  exact (p_new R fun p1003 g R =>
  (p_new R fun p1004 g R =>
  (p_new R fun p1005 g R =>
  (p_ldL R rfl (d_req (d_nz fun b1006 o1007 =>
  (d_row_I10 R fun n1008 n1009 n1010 n1011 n1012 n1013 n1014 n1015 n1016 n1017 =>
  (p_new R fun p1018 g R =>
  (p_stRow R (cs' := [.int .i64 n1008, .int .i64 n1009, .int .i64 n1010, .int .i64 n1011, .int .i64 n1012, .int .i64 n1013, .int .i64 n1014, .int .i64 n1015, .int .i64 n1016, .int .i64 n1017]) ⟨rfl, rfl, rfl⟩ fun g R =>
  (d_ex fun N => spec_l16Take_M_l0_D (by exact fun n1019 n1020 a1021 l1021 c1021 a1023 l1023 c1023 n1025 n1026 n1027 n1029 n1030 n1031 n1032 n1033 n1034 n1035 n1036 n1037 n1038 p1022 p1024 p1028 p1039 g m R =>
  (p_ldI R rfl (d_call R fun v1040 g m R =>
  (d_asB fun t1041 =>
  (d_if (spec_l16Take_M_j1_D (by exact fun a1042 l1042 c1042 n1044 n1045 n1046 p1043 p1047 g m R =>
  (Hkr a1042 l1042 c1042 n1044 n1045 n1046 p1043 p1047 _ _ R.sub)) n1019 9 a1021 l1021 c1021 a1023 l1023 c1023 n1025 n1026 n1027 n1029 n1030 n1031 n1032 n1033 n1034 n1035 n1036 n1037 n1038 p1022 p1024 p1028 p1039 _ _ R.sub)
  (p_ldI R rfl (d_if (spec_l16Take_M_j1_D (by exact fun a1048 l1048 c1048 n1050 n1051 n1052 p1049 p1053 g m R =>
  (Hkr a1048 l1048 c1048 n1050 n1051 n1052 p1049 p1053 _ _ R.sub)) n1019 0 a1021 l1021 c1021 a1023 l1023 c1023 n1025 n1026 n1027 n1029 n1030 n1031 n1032 n1033 n1034 n1035 n1036 n1037 n1038 p1022 p1024 p1028 p1039 _ _ R.sub)
  (spec_l16Take_M_j1_D (by exact fun a1054 l1054 c1054 n1056 n1057 n1058 p1055 p1059 g m R =>
  (Hkr a1054 l1054 c1054 n1056 n1057 n1058 p1055 p1059 _ _ R.sub)) n1019 n1020 a1021 l1021 c1021 a1023 l1023 c1023 n1025 n1026 n1027 n1029 n1030 n1031 n1032 n1033 n1034 n1035 n1036 n1037 n1038 p1022 p1024 p1028 p1039 _ _ R.sub)))))))) N n1002 0 15 a1001 l1001 c1001 none 0 0 0 0 0 n1008 n1009 n1010 n1011 n1012 n1013 n1014 n1015 n1016 n1017 p1003 p1004 p1005 p1018 _ _ R.sub))))))))))

theorem spec_l16Take_M_call {a1 : Option Addr} {l1 : Nat} {c1 : Nat} {n2 : Int} {h : H} {K : Value → H → Prop} (hs : spec_l16Take_M (fun a300001 l300001 c300001 n300003 n300004 n300005 h =>
  K (.tuple ⟨[.agg ⟨[.slice a300001 l300001 c300001]⟩, .agg ⟨[.int .i64 n300003, .int .i64 n300004, .int .i64 n300005]⟩]⟩) h) a1 l1 c1 n2 h) : callD Try.prog 54 ⟨[.agg ⟨[.slice a1 l1 c1]⟩, .int .i64 n2]⟩ h K :=
  fun g r => spec_l16Take_call (spec_l16Take_M_D (by exact fun a300001 l300001 c300001 n300003 n300004 n300005 p300002 p300006 g m R =>
(p_row_L R rfl (p_row_I3 R rfl rfl rfl (fun h => ⟨m, R.af, h⟩)))) _ _ _ _ _ _ (Md.start r) hs)

noncomputable def code55 : Code := codeOf Try.f55
theorem body55 : Try.f55.body = some code55 := by kernel_rfl
def spec_l16Group_l1 (kx0 : Nat → Nat → Nat → Nat → Int → Bool → H → Prop) : Nat → Nat → Nat → Nat → Nat → Int → Bool → Int → H → Prop
 | 0, _, _, _, _, _, _, _, _ => False
 | N + 1, b26, b27, b28, b29, n30, t31, n32, h =>
  ldL h b26 0 fun a33 l33 c33 =>
  ifB (decide ((n32 : Int) < (l33 : Nat)))
  (ifB t31
  (spec_l16Group_l1 kx0 N b26 b27 b28 b29 n30 true (IntKind.i64.wrap (n32 + 1)) h)
  (ldL h b26 0 fun a34 l34 c34 =>
  req (0 ≤ (n32 : Int) ∧ (n32 : Int) < (l34 : Nat))
  (nz a34 fun b35 o36 =>
  ldI .i64 h b35 (o36 + n32.toNat * 10) fun n37 =>
  ldI .i64 h b27 2 fun n38 =>
  ifB ((n37 : Int) != n38)
  (ldL h b26 0 fun a39 l39 c39 =>
  req (0 ≤ (n32 : Int) ∧ (n32 : Int) < (l39 : Nat))
  (nz a39 fun b40 o41 =>
  ldI .i64 h b40 ((o41 + n32.toNat * 10) + 2) fun n42 =>
  ldI .i64 h b27 3 fun n43 =>
  spec_l16Group_l1 kx0 N b26 b27 b28 b29 n30 ((n42 : Int) == n43) (IntKind.i64.wrap (n32 + 1)) h))
  (spec_l16Group_l1 kx0 N b26 b27 b28 b29 n30 false (IntKind.i64.wrap (n32 + 1)) h))))
  (kx0 b26 b27 b28 b29 n30 t31 h)

def spec_l16Group_j0 (kr : Nat → Nat → H → Prop) (b15 : Nat) (b16 : Nat) (b17 : Nat) (b18 : Nat) (n19 : Int) (h : H) : Prop :=
  ldI .i64 h b16 3 fun n20 =>
  ifB (decide ((n20 : Int) < 1))
  (ldRow h b15 0 0 [.slice] fun a21 l21 c21 =>
  stRow h b17 0 0 [.slice a21 l21 c21] fun h =>
  stRow h b18 0 0 [.int .i64 1, .int .i64 0, .int .i64 0] fun h =>
  kr b17 b18 h)
  (ldI .i64 h b16 3 fun n22 =>
  ifB (decide ((n22 : Int) > 32))
  (ldRow h b15 0 0 [.slice] fun a23 l23 c23 =>
  stRow h b17 0 0 [.slice a23 l23 c23] fun h =>
  stRow h b18 0 0 [.int .i64 1, .int .i64 0, .int .i64 0] fun h =>
  kr b17 b18 h)
  (ldI .i64 h b16 3 fun n24 =>
  ldI .i64 h b16 2 fun n25 =>
  ∃ M38, spec_l16Group_l1 (fun b26 b27 b28 b29 n30 t31 h =>
  ifB (!t31)
  (ldRow h b26 0 0 [.slice] fun a32 l32 c32 =>
  stRow h b28 0 0 [.slice a32 l32 c32] fun h =>
  stRow h b29 0 0 [.int .i64 2, .int .i64 0, .int .i64 0] fun h =>
  kr b28 b29 h)
  (ldL h b26 0 fun a33 l33 c33 =>
  ldI .i64 h b27 3 fun n34 =>
  req (0 ≤ (n30 : Int) ∧ (n30 : Int) < (l33 : Nat))
  (nz a33 fun b35 o36 =>
  st h b35 ((o36 + n30.toNat * 10) + 2) (.int .i64 n34) fun h =>
  ldRow h b26 0 0 [.slice] fun a37 l37 c37 =>
  stRow h b28 0 0 [.slice a37 l37 c37] fun h =>
  stRow h b29 0 0 [.int .i64 0, .int .i64 0, .int .i64 0] fun h =>
  kr b28 b29 h))) M38 b15 b16 b17 b18 n19 ((n24 : Int) == n25) 0 h))

def spec_l16Group (kr : Nat → Nat → H → Prop) (a1 : Option Addr) (l1 : Nat) (c1 : Nat) (n2 : Int) (n3 : Int) (n4 : Int) (n5 : Int) (n6 : Int) (h : H) : Prop :=
  new h [.slice a1 l1 c1] 27 fun b7 h =>
  new h [.int .i64 n3, .int .i64 n4, .int .i64 n5, .int .i64 n6] 30 fun b8 h =>
  new h [.slice none 0 0] 27 fun b9 h =>
  new h [.int .i64 0, .int .i64 0, .int .i64 0] 34 fun b10 h =>
  ldRow h b7 0 0 [.slice] fun a11 l11 c11 =>
  ldI .i64 h b8 2 fun n12 =>
  callK Try.prog 25 ⟨[.agg ⟨[.slice a11 l11 c11]⟩, .int .i64 n12]⟩ h fun v13 h =>
  asI .i64 v13 fun n14 =>
  ifB (decide ((n14 : Int) < 0))
  (ldRow h b7 0 0 [.slice] fun a15 l15 c15 =>
  stRow h b9 0 0 [.slice a15 l15 c15] fun h =>
  stRow h b10 0 0 [.int .i64 3, .int .i64 0, .int .i64 0] fun h =>
  kr b9 b10 h)
  (ldI .i64 h b8 2 fun n16 =>
  ldI .i64 h b8 1 fun n17 =>
  ifB ((n16 : Int) != n17)
  (ldL h b7 0 fun a18 l18 c18 =>
  req (0 ≤ (n14 : Int) ∧ (n14 : Int) < (l18 : Nat))
  (nz a18 fun b19 o20 =>
  ldI .i64 h b19 ((o20 + n14.toNat * 10) + 1) fun n21 =>
  ldI .i64 h b8 1 fun n22 =>
  ifB ((n21 : Int) != n22)
  (ldRow h b7 0 0 [.slice] fun a23 l23 c23 =>
  stRow h b9 0 0 [.slice a23 l23 c23] fun h =>
  stRow h b10 0 0 [.int .i64 3, .int .i64 0, .int .i64 0] fun h =>
  kr b9 b10 h)
  (ldL h b7 0 fun a24 l24 c24 =>
  req (0 ≤ (n14 : Int) ∧ (n14 : Int) < (l24 : Nat))
  (nz a24 fun b25 o26 =>
  ldI .i64 h b25 ((o26 + n14.toNat * 10) + 4) fun n27 =>
  ifB ((n27 : Int) == 3)
  (ldRow h b7 0 0 [.slice] fun a28 l28 c28 =>
  stRow h b9 0 0 [.slice a28 l28 c28] fun h =>
  stRow h b10 0 0 [.int .i64 3, .int .i64 0, .int .i64 0] fun h =>
  kr b9 b10 h)
  (spec_l16Group_j0 kr b7 b8 b9 b10 n14 h)))))
  (ldL h b7 0 fun a29 l29 c29 =>
  req (0 ≤ (n14 : Int) ∧ (n14 : Int) < (l29 : Nat))
  (nz a29 fun b30 o31 =>
  ldI .i64 h b30 ((o31 + n14.toNat * 10) + 4) fun n32 =>
  ifB ((n32 : Int) == 3)
  (ldRow h b7 0 0 [.slice] fun a33 l33 c33 =>
  stRow h b9 0 0 [.slice a33 l33 c33] fun h =>
  stRow h b10 0 0 [.int .i64 3, .int .i64 0, .int .i64 0] fun h =>
  kr b9 b10 h)
  (spec_l16Group_j0 kr b7 b8 b9 b10 n14 h))))

theorem spec_l16Group_l1_eq (K : Cont) (N : Nat) (b26 : Nat) (b27 : Nat) (b28 : Nat) (b29 : Nat) (n30 : Int) (t31 : Bool) (n32 : Int) (h : H) :
  spec_l16Group_l1 (curV [(3, .blk), (5, .blk), (6, .blk), (7, .blk), (8, .int .i64), (9, .bool)] (K (.exit 0))) (N + 1) b26 b27 b28 b29 n30 t31 n32 h = evC Try.prog 104 [] [] (sub code55 [true, true, true, true, true, false, true, false, false]) [(3, .pointer (some ⟨b26, 0, none⟩)), (5, .pointer (some ⟨b27, 0, none⟩)), (6, .pointer (some ⟨b28, 0, none⟩)), (7, .pointer (some ⟨b29, 0, none⟩)), (8, .int .i64 n30), (9, .bool t31), (10, .int .i64 n32)] h ((outsOf none [(0, [(3, .blk), (5, .blk), (6, .blk), (7, .blk), (8, .int .i64), (9, .bool)])] none K).loop [(3, .blk), (5, .blk), (6, .blk), (7, .blk), (8, .int .i64), (9, .bool), (10, .int .i64)] (spec_l16Group_l1 (curV [(3, .blk), (5, .blk), (6, .blk), (7, .blk), (8, .int .i64), (9, .bool)] (K (.exit 0))) N)).K := by kernel_rfl

def spec_l16Group_l1_F : PT := mkL [(3, .blk), (5, .blk), (6, .blk), (7, .blk), (8, .int .i64), (9, .bool), (10, .int .i64)] fun K N => spec_l16Group_l1 (curV [(3, .blk), (5, .blk), (6, .blk), (7, .blk), (8, .int .i64), (9, .bool)] (K (.exit 0))) N

theorem spec_l16Group_l1_V : Valid Try.prog 104 (sub code55 [true, true, true, true, true, false, true, false]) spec_l16Group_l1_F :=
  loop_at (code55) [true, true, true, true, true, false, true, false] (loop_piece (c := (sub code55 [true, true, true, true, true, false, true, false, false])) mixed rows_nil (fun K => by intro b26 b27 b28 b29 n30 t31 n32 h hd; exact hd) (fun K N => by intro b26 b27 b28 b29 n30 t31 n32 h hd; exact (spec_l16Group_l1_eq K N b26 b27 b28 b29 n30 t31 n32 h) ▸ hd))

theorem spec_l16Group_j0_eq (K : Cont) (b15 : Nat) (b16 : Nat) (b17 : Nat) (b18 : Nat) (n19 : Int) (h : H) :
  spec_l16Group_j0 (curV [(6, .blk), (7, .blk)] (K .ret)) b15 b16 b17 b18 n19 h = evC Try.prog 104 [([false, false, true, false, true, true], spec_l16Group_l1_F)] [] (sub code55 [true, true, true]) [(3, .pointer (some ⟨b15, 0, none⟩)), (5, .pointer (some ⟨b16, 0, none⟩)), (6, .pointer (some ⟨b17, 0, none⟩)), (7, .pointer (some ⟨b18, 0, none⟩)), (8, .int .i64 n19)] h (outsOf none [] (some [(6, .blk), (7, .blk)]) K).K := by kernel_rfl

def spec_l16Group_j0_F : PT := mkF [(3, .blk), (5, .blk), (6, .blk), (7, .blk), (8, .int .i64)] fun K => spec_l16Group_j0 (curV [(6, .blk), (7, .blk)] (K .ret))

theorem spec_l16Group_j0_V : Valid Try.prog 104 (sub code55 [true, true, true]) spec_l16Group_j0_F :=
  piece mixed (rows_cons (q' := [true, true, false, true, false]) (valid_at (p := [true, true, true]) spec_l16Group_l1_V rfl) rfl rows_nil) (fun K => by intro b15 b16 b17 b18 n19 h hd; exact (spec_l16Group_j0_eq K b15 b16 b17 b18 n19 h) ▸ hd)

theorem spec_l16Group_eq (K : Cont) (a1 : Option Addr) (l1 : Nat) (c1 : Nat) (n2 : Int) (n3 : Int) (n4 : Int) (n5 : Int) (n6 : Int) (h : H) :
  spec_l16Group (curV [(6, .blk), (7, .blk)] (K .ret)) a1 l1 c1 n2 n3 n4 n5 n6 h = evC Try.prog 104 [([true, true, true], spec_l16Group_j0_F)] [] code55 [(0, .agg ⟨[.slice a1 l1 c1]⟩), (1, .int .i64 n2), (2, .agg ⟨[.int .i64 n3, .int .i64 n4, .int .i64 n5, .int .i64 n6]⟩)] h (outsOf none [] (some [(6, .blk), (7, .blk)]) K).K := by kernel_rfl

def spec_l16Group_F : PT := mkF [(0, .agg [.slice]), (1, .int .i64), (2, .agg [.int .i64, .int .i64, .int .i64, .int .i64])] fun K => spec_l16Group (curV [(6, .blk), (7, .blk)] (K .ret))

theorem spec_l16Group_V : Valid Try.prog 104 code55 spec_l16Group_F :=
  piece mixed (rows_cons (q' := [true, true, true]) spec_l16Group_j0_V rfl rows_nil) (fun K => by intro a1 l1 c1 n2 n3 n4 n5 n6 h hd; exact (spec_l16Group_eq K a1 l1 c1 n2 n3 n4 n5 n6 h) ▸ hd)

theorem spec_l16Group_c0 (a1 : Option Addr) (l1 : Nat) (c1 : Nat) (n2 : Int) (n3 : Int) (n4 : Int) (n5 : Int) (n6 : Int) (h : H) (K : Value → H → Prop) :
  spec_l16Group (fun b100001 b100002 h =>
  ldRow h b100001 0 0 [.slice] fun a100003 l100003 c100003 =>
  ldRow h b100002 0 0 [.int .i64, .int .i64, .int .i64] fun n100004 n100005 n100006 =>
  K (.tuple ⟨[.agg ⟨[.slice a100003 l100003 c100003]⟩, .agg ⟨[.int .i64 n100004, .int .i64 n100005, .int .i64 n100006]⟩]⟩) h) a1 l1 c1 n2 n3 n4 n5 n6 h = callF Try.prog Try.f55.results.toList spec_l16Group_F [.agg ⟨[.slice a1 l1 c1]⟩, .int .i64 n2, .agg ⟨[.int .i64 n3, .int .i64 n4, .int .i64 n5, .int .i64 n6]⟩] h K := by kernel_rfl

theorem spec_l16Group_call {a1 : Option Addr} {l1 : Nat} {c1 : Nat} {n2 : Int} {n3 : Int} {n4 : Int} {n5 : Int} {n6 : Int} {h : H} {K : Value → H → Prop} (hs : spec_l16Group (fun b100001 b100002 h =>
  ldRow h b100001 0 0 [.slice] fun a100003 l100003 c100003 =>
  ldRow h b100002 0 0 [.int .i64, .int .i64, .int .i64] fun n100004 n100005 n100006 =>
  K (.tuple ⟨[.agg ⟨[.slice a100003 l100003 c100003]⟩, .agg ⟨[.int .i64 n100004, .int .i64 n100005, .int .i64 n100006]⟩]⟩) h) a1 l1 c1 n2 n3 n4 n5 n6 h) : callK Try.prog 55 ⟨[.agg ⟨[.slice a1 l1 c1]⟩, .int .i64 n2, .agg ⟨[.int .i64 n3, .int .i64 n4, .int .i64 n5, .int .i64 n6]⟩]⟩ h K :=
  func_calls Try.func55 body55 spec_l16Group_V (Nat.le_of_ble_eq_true (by kernel_rfl)) (spec_l16Group_c0 a1 l1 c1 n2 n3 n4 n5 n6 h K ▸ hs)

def spec_l16Group_M_l1 (kx0 : Int → Bool → Option Addr → Nat → Nat → Int → H → Prop) : Nat → Int → Bool → Int → Option Addr → Nat → Nat → Int → Int → H → Prop
 | 0, _, _, _, _, _, _, _, _, _ => False
 | N + 1, n23, t24, n25, a26, l26, c26, n30, n31, h =>
  ifB (decide ((n25 : Int) < (l26 : Nat)))
  (ifB t24
  (spec_l16Group_M_l1 kx0 N n23 true (IntKind.i64.wrap (n25 + 1)) a26 l26 c26 n30 n31 h)
  (req (0 ≤ (n25 : Int) ∧ (n25 : Int) < (l26 : Nat))
  (nz a26 fun b39 o40 =>
  ldI .i64 h b39 (o40 + n25.toNat * 10) fun n41 =>
  ifB ((n41 : Int) != n30)
  (req (0 ≤ (n25 : Int) ∧ (n25 : Int) < (l26 : Nat))
  (nz a26 fun b42 o43 =>
  ldI .i64 h b42 ((o43 + n25.toNat * 10) + 2) fun n44 =>
  spec_l16Group_M_l1 kx0 N n23 ((n44 : Int) == n31) (IntKind.i64.wrap (n25 + 1)) a26 l26 c26 n30 n31 h))
  (spec_l16Group_M_l1 kx0 N n23 false (IntKind.i64.wrap (n25 + 1)) a26 l26 c26 n30 n31 h))))
  (kx0 n23 t24 a26 l26 c26 n31 h)

def spec_l16Group_M_j0 (kr : Option Addr → Nat → Nat → Int → Int → Int → H → Prop) (n9 : Int) (a10 : Option Addr) (l10 : Nat) (c10 : Nat) (n14 : Int) (n15 : Int) (h : H) : Prop :=
  ifB (decide ((n15 : Int) < 1))
  (kr a10 l10 c10 1 0 0 h)
  (ifB (decide ((n15 : Int) > 32))
  (kr a10 l10 c10 1 0 0 h)
  (∃ M40, spec_l16Group_M_l1 (fun n23 t24 a25 l25 c25 n30 h =>
  ifB (!t24)
  (kr a25 l25 c25 2 0 0 h)
  (req (0 ≤ (n23 : Int) ∧ (n23 : Int) < (l25 : Nat))
  (nz a25 fun b38 o39 =>
  st h b38 ((o39 + n23.toNat * 10) + 2) (.int .i64 n30) fun h =>
  kr a25 l25 c25 0 0 0 h))) M40 n9 ((n15 : Int) == n14) 0 a10 l10 c10 n14 n15 h))

def spec_l16Group_M (kr : Option Addr → Nat → Nat → Int → Int → Int → H → Prop) (a1 : Option Addr) (l1 : Nat) (c1 : Nat) (n2 : Int) (n3 : Int) (n4 : Int) (n5 : Int) (n6 : Int) (h : H) : Prop :=
  callD Try.prog 25 ⟨[.agg ⟨[.slice a1 l1 c1]⟩, .int .i64 n5]⟩ h fun v7 h =>
  asI .i64 v7 fun n8 =>
  ifB (decide ((n8 : Int) < 0))
  (kr a1 l1 c1 3 0 0 h)
  (ifB ((n5 : Int) != n4)
  (req (0 ≤ (n8 : Int) ∧ (n8 : Int) < (l1 : Nat))
  (nz a1 fun b9 o10 =>
  ldI .i64 h b9 ((o10 + n8.toNat * 10) + 1) fun n11 =>
  ifB ((n11 : Int) != n4)
  (kr a1 l1 c1 3 0 0 h)
  (req (0 ≤ (n8 : Int) ∧ (n8 : Int) < (l1 : Nat))
  (nz a1 fun b12 o13 =>
  ldI .i64 h b12 ((o13 + n8.toNat * 10) + 4) fun n14 =>
  ifB ((n14 : Int) == 3)
  (kr a1 l1 c1 3 0 0 h)
  (spec_l16Group_M_j0 kr n8 a1 l1 c1 n5 n6 h)))))
  (req (0 ≤ (n8 : Int) ∧ (n8 : Int) < (l1 : Nat))
  (nz a1 fun b15 o16 =>
  ldI .i64 h b15 ((o16 + n8.toNat * 10) + 4) fun n17 =>
  ifB ((n17 : Int) == 3)
  (kr a1 l1 c1 3 0 0 h)
  (spec_l16Group_M_j0 kr n8 a1 l1 c1 n5 n6 h))))

theorem spec_l16Group_M_l1_D {g0 m0 : H} {kx0_1 : Nat → Nat → Nat → Nat → Int → Bool → H → Prop} {kx0_2 : Int → Bool → Option Addr → Nat → Nat → Int → H → Prop} (Hkx0 : ∀ (n200001 : Int) (t200002 : Bool) (a200003 : Option Addr) (l200003 : Nat) (c200003 : Nat) (n200005 : Int) (n200006 : Int) (n200007 : Int) (n200008 : Int) (a200010 : Option Addr) (l200010 : Nat) (c200010 : Nat) (n200012 : Int) (n200013 : Int) (n200014 : Int) (p200004 : Nat) (p200009 : Nat) (p200011 : Nat) (p200015 : Nat) (g m : H), Md g0 m0 g m [lo p200004 [.slice a200003 l200003 c200003], lo p200009 [.int .i64 n200005, .int .i64 n200006, .int .i64 n200007, .int .i64 n200008], lo p200011 [.slice a200010 l200010 c200010], lo p200015 [.int .i64 n200012, .int .i64 n200013, .int .i64 n200014]] → kx0_2 n200001 t200002 a200003 l200003 c200003 n200008 m → kx0_1 p200004 p200009 p200011 p200015 n200001 t200002 g) : ∀ (N : Nat) (n1023 : Int) (t1024 : Bool) (n1025 : Int) (a1026 : Option Addr) (l1026 : Nat) (c1026 : Nat) (n1028 : Int) (n1029 : Int) (n1030 : Int) (n1031 : Int) (a1033 : Option Addr) (l1033 : Nat) (c1033 : Nat) (n1035 : Int) (n1036 : Int) (n1037 : Int) (p1027 : Nat) (p1032 : Nat) (p1034 : Nat) (p1038 : Nat) (g m : H), Md g0 m0 g m [lo p1027 [.slice a1026 l1026 c1026], lo p1032 [.int .i64 n1028, .int .i64 n1029, .int .i64 n1030, .int .i64 n1031], lo p1034 [.slice a1033 l1033 c1033], lo p1038 [.int .i64 n1035, .int .i64 n1036, .int .i64 n1037]] → spec_l16Group_M_l1 kx0_2 N n1023 t1024 n1025 a1026 l1026 c1026 n1030 n1031 m → spec_l16Group_l1 kx0_1 N p1027 p1032 p1034 p1038 n1023 t1024 n1025 g := by
  intro N
  induction N with
  | zero => intro n1023 t1024 n1025 a1026 l1026 c1026 n1028 n1029 n1030 n1031 a1033 l1033 c1033 n1035 n1036 n1037 p1027 p1032 p1034 p1038 g m R h0; exact h0.elim
  | succ N ih =>
    intro n1023 t1024 n1025 a1026 l1026 c1026 n1028 n1029 n1030 n1031 a1033 l1033 c1033 n1035 n1036 n1037 p1027 p1032 p1034 p1038 g m R
    rw [spec_l16Group_M_l1, spec_l16Group_l1]
    exact (p_ldL R rfl (d_if (d_if (ih n1023 true (IntKind.i64.wrap (n1025 + 1)) a1026 l1026 c1026 n1028 n1029 n1030 n1031 a1033 l1033 c1033 n1035 n1036 n1037 p1027 p1032 p1034 p1038 _ _ R.sub)
  (p_ldL R rfl (d_req (d_nz fun b1039 o1040 =>
  (d_ldI R fun n1041 =>
  (p_ldI R rfl (d_if (p_ldL R rfl (d_req (d_nz fun b1042 o1043 =>
  (d_ldI R fun n1044 =>
  (p_ldI R rfl (ih n1023 ((n1044 : Int) == n1031) (IntKind.i64.wrap (n1025 + 1)) a1026 l1026 c1026 n1028 n1029 n1030 n1031 a1033 l1033 c1033 n1035 n1036 n1037 p1027 p1032 p1034 p1038 _ _ R.sub))))))
  (ih n1023 false (IntKind.i64.wrap (n1025 + 1)) a1026 l1026 c1026 n1028 n1029 n1030 n1031 a1033 l1033 c1033 n1035 n1036 n1037 p1027 p1032 p1034 p1038 _ _ R.sub))))))))
  (Hkx0 n1023 t1024 a1026 l1026 c1026 n1028 n1029 n1030 n1031 a1033 l1033 c1033 n1035 n1036 n1037 p1027 p1032 p1034 p1038 _ _ R.sub)))

theorem spec_l16Group_M_j0_D {g0 m0 : H} {kr_1 : Nat → Nat → H → Prop} {kr_2 : Option Addr → Nat → Nat → Int → Int → Int → H → Prop} (Hkr : ∀ (a200001 : Option Addr) (l200001 : Nat) (c200001 : Nat) (n200003 : Int) (n200004 : Int) (n200005 : Int) (p200002 : Nat) (p200006 : Nat) (g m : H), Md g0 m0 g m [lo p200002 [.slice a200001 l200001 c200001], lo p200006 [.int .i64 n200003, .int .i64 n200004, .int .i64 n200005]] → kr_2 a200001 l200001 c200001 n200003 n200004 n200005 m → kr_1 p200002 p200006 g) : ∀ (n1009 : Int) (a1010 : Option Addr) (l1010 : Nat) (c1010 : Nat) (n1012 : Int) (n1013 : Int) (n1014 : Int) (n1015 : Int) (a1017 : Option Addr) (l1017 : Nat) (c1017 : Nat) (n1019 : Int) (n1020 : Int) (n1021 : Int) (p1011 : Nat) (p1016 : Nat) (p1018 : Nat) (p1022 : Nat) (g m : H), Md g0 m0 g m [lo p1011 [.slice a1010 l1010 c1010], lo p1016 [.int .i64 n1012, .int .i64 n1013, .int .i64 n1014, .int .i64 n1015], lo p1018 [.slice a1017 l1017 c1017], lo p1022 [.int .i64 n1019, .int .i64 n1020, .int .i64 n1021]] → spec_l16Group_M_j0 kr_2 n1009 a1010 l1010 c1010 n1014 n1015 m → spec_l16Group_j0 kr_1 p1011 p1016 p1018 p1022 n1009 g := by
  intro n1009 a1010 l1010 c1010 n1012 n1013 n1014 n1015 a1017 l1017 c1017 n1019 n1020 n1021 p1011 p1016 p1018 p1022 g m R
  rw [spec_l16Group_M_j0, spec_l16Group_j0]
  exact (p_ldI R rfl (d_if (p_row_L R rfl (p_stRow R (cs' := [.slice a1010 l1010 c1010]) ⟨rfl, rfl, rfl⟩ fun g R =>
  (p_stRow R (cs' := [.int .i64 1, .int .i64 0, .int .i64 0]) ⟨rfl, rfl, rfl⟩ fun g R =>
  (Hkr a1010 l1010 c1010 1 0 0 p1018 p1022 _ _ R.sub))))
  (p_ldI R rfl (d_if (p_row_L R rfl (p_stRow R (cs' := [.slice a1010 l1010 c1010]) ⟨rfl, rfl, rfl⟩ fun g R =>
  (p_stRow R (cs' := [.int .i64 1, .int .i64 0, .int .i64 0]) ⟨rfl, rfl, rfl⟩ fun g R =>
  (Hkr a1010 l1010 c1010 1 0 0 p1018 p1022 _ _ R.sub))))
  (p_ldI R rfl (p_ldI R rfl (d_ex fun N => spec_l16Group_M_l1_D (by exact fun n1023 t1024 a1025 l1025 c1025 n1027 n1028 n1029 n1030 a1032 l1032 c1032 n1034 n1035 n1036 p1026 p1031 p1033 p1037 g m R =>
  (d_if (p_row_L R rfl (p_stRow R (cs' := [.slice a1025 l1025 c1025]) ⟨rfl, rfl, rfl⟩ fun g R =>
  (p_stRow R (cs' := [.int .i64 2, .int .i64 0, .int .i64 0]) ⟨rfl, rfl, rfl⟩ fun g R =>
  (Hkr a1025 l1025 c1025 2 0 0 p1033 p1037 _ _ R.sub))))
  (p_ldL R rfl (p_ldI R rfl (d_req (d_nz fun b1038 o1039 =>
  (d_st R fun g m R =>
  (p_row_L R rfl (p_stRow R (cs' := [.slice a1025 l1025 c1025]) ⟨rfl, rfl, rfl⟩ fun g R =>
  (p_stRow R (cs' := [.int .i64 0, .int .i64 0, .int .i64 0]) ⟨rfl, rfl, rfl⟩ fun g R =>
  (Hkr a1025 l1025 c1025 0 0 0 p1033 p1037 _ _ R.sub))))))))))) N n1009 ((n1015 : Int) == n1014) 0 a1010 l1010 c1010 n1012 n1013 n1014 n1015 a1017 l1017 c1017 n1019 n1020 n1021 p1011 p1016 p1018 p1022 _ _ R.sub)))))))

theorem spec_l16Group_M_D {g0 m0 : H} {kr_1 : Nat → Nat → H → Prop} {kr_2 : Option Addr → Nat → Nat → Int → Int → Int → H → Prop} (Hkr : ∀ (a200001 : Option Addr) (l200001 : Nat) (c200001 : Nat) (n200003 : Int) (n200004 : Int) (n200005 : Int) (p200002 : Nat) (p200006 : Nat) (g m : H), Md g0 m0 g m [lo p200002 [.slice a200001 l200001 c200001], lo p200006 [.int .i64 n200003, .int .i64 n200004, .int .i64 n200005]] → kr_2 a200001 l200001 c200001 n200003 n200004 n200005 m → kr_1 p200002 p200006 g) : ∀ (a1001 : Option Addr) (l1001 : Nat) (c1001 : Nat) (n1002 : Int) (n1003 : Int) (n1004 : Int) (n1005 : Int) (n1006 : Int) (g m : H), Md g0 m0 g m [] → spec_l16Group_M kr_2 a1001 l1001 c1001 n1002 n1003 n1004 n1005 n1006 m → spec_l16Group kr_1 a1001 l1001 c1001 n1002 n1003 n1004 n1005 n1006 g := by
  intro a1001 l1001 c1001 n1002 n1003 n1004 n1005 n1006 g m R
  rw [spec_l16Group_M, spec_l16Group]
  exact (p_new R fun p1007 g R =>
  (p_new R fun p1008 g R =>
  (p_new R fun p1009 g R =>
  (p_new R fun p1010 g R =>
  (p_row_L R rfl (p_ldI R rfl (d_call R fun v1011 g m R =>
  (d_asI fun n1012 =>
  (d_if (p_row_L R rfl (p_stRow R (cs' := [.slice a1001 l1001 c1001]) ⟨rfl, rfl, rfl⟩ fun g R =>
  (p_stRow R (cs' := [.int .i64 3, .int .i64 0, .int .i64 0]) ⟨rfl, rfl, rfl⟩ fun g R =>
  (Hkr a1001 l1001 c1001 3 0 0 p1009 p1010 _ _ R.sub))))
  (p_ldI R rfl (p_ldI R rfl (d_if (p_ldL R rfl (d_req (d_nz fun b1013 o1014 =>
  (d_ldI R fun n1015 =>
  (p_ldI R rfl (d_if (p_row_L R rfl (p_stRow R (cs' := [.slice a1001 l1001 c1001]) ⟨rfl, rfl, rfl⟩ fun g R =>
  (p_stRow R (cs' := [.int .i64 3, .int .i64 0, .int .i64 0]) ⟨rfl, rfl, rfl⟩ fun g R =>
  (Hkr a1001 l1001 c1001 3 0 0 p1009 p1010 _ _ R.sub))))
  (p_ldL R rfl (d_req (d_nz fun b1016 o1017 =>
  (d_ldI R fun n1018 =>
  (d_if (p_row_L R rfl (p_stRow R (cs' := [.slice a1001 l1001 c1001]) ⟨rfl, rfl, rfl⟩ fun g R =>
  (p_stRow R (cs' := [.int .i64 3, .int .i64 0, .int .i64 0]) ⟨rfl, rfl, rfl⟩ fun g R =>
  (Hkr a1001 l1001 c1001 3 0 0 p1009 p1010 _ _ R.sub))))
  (spec_l16Group_M_j0_D (by exact fun a1019 l1019 c1019 n1021 n1022 n1023 p1020 p1024 g m R =>
  (Hkr a1019 l1019 c1019 n1021 n1022 n1023 p1020 p1024 _ _ R.sub)) n1012 a1001 l1001 c1001 n1003 n1004 n1005 n1006 none 0 0 0 0 0 p1007 p1008 p1009 p1010 _ _ R.sub))))))))))))
  (p_ldL R rfl (d_req (d_nz fun b1025 o1026 =>
  (d_ldI R fun n1027 =>
  (d_if (p_row_L R rfl (p_stRow R (cs' := [.slice a1001 l1001 c1001]) ⟨rfl, rfl, rfl⟩ fun g R =>
  (p_stRow R (cs' := [.int .i64 3, .int .i64 0, .int .i64 0]) ⟨rfl, rfl, rfl⟩ fun g R =>
  (Hkr a1001 l1001 c1001 3 0 0 p1009 p1010 _ _ R.sub))))
  (spec_l16Group_M_j0_D (by exact fun a1028 l1028 c1028 n1030 n1031 n1032 p1029 p1033 g m R =>
  (Hkr a1028 l1028 c1028 n1030 n1031 n1032 p1029 p1033 _ _ R.sub)) n1012 a1001 l1001 c1001 n1003 n1004 n1005 n1006 none 0 0 0 0 0 p1007 p1008 p1009 p1010 _ _ R.sub))))))))))))))))))

theorem spec_l16Group_M_call {a1 : Option Addr} {l1 : Nat} {c1 : Nat} {n2 : Int} {n3 : Int} {n4 : Int} {n5 : Int} {n6 : Int} {h : H} {K : Value → H → Prop} (hs : spec_l16Group_M (fun a300001 l300001 c300001 n300003 n300004 n300005 h =>
  K (.tuple ⟨[.agg ⟨[.slice a300001 l300001 c300001]⟩, .agg ⟨[.int .i64 n300003, .int .i64 n300004, .int .i64 n300005]⟩]⟩) h) a1 l1 c1 n2 n3 n4 n5 n6 h) : callD Try.prog 55 ⟨[.agg ⟨[.slice a1 l1 c1]⟩, .int .i64 n2, .agg ⟨[.int .i64 n3, .int .i64 n4, .int .i64 n5, .int .i64 n6]⟩]⟩ h K :=
  fun g r => spec_l16Group_call (spec_l16Group_M_D (by exact fun a300001 l300001 c300001 n300003 n300004 n300005 p300002 p300006 g m R =>
(p_row_L R rfl (p_row_I3 R rfl rfl rfl (fun h => ⟨m, R.af, h⟩)))) _ _ _ _ _ _ _ _ _ _ (Md.start r) hs)

noncomputable def code56 : Code := codeOf Try.f56
theorem body56 : Try.f56.body = some code56 := by kernel_rfl
def laws_toProc (kr : Nat → H → Prop) (a_1 : Int) (a_2 : Int) (a_3 : Int) (a_4 : Int) (a_5 : Int) (a_6 : Int) (a_7 : Int) (a_8 : Int) (a_9 : Int) (a_10 : Int) (h : H) : Prop :=
  new h [.int .i64 a_1, .int .i64 a_2, .int .i64 a_3, .int .i64 a_4, .int .i64 a_5, .int .i64 a_6, .int .i64 a_7, .int .i64 a_8, .int .i64 a_9, .int .i64 a_10] 89 fun b11 h =>
  new h [.int .i64 0, .int .i64 0, .int .i64 0, .int .i64 0, .int .i64 0, .int .i64 0, .int .i64 0, .int .i64 0, .int .i64 0, .int .i64 0] 38 fun b12 h =>
  new h [.int .i64 0, .int .i64 0, .int .i64 0, .int .i64 0, .int .i64 0, .int .i64 0, .int .i64 0, .int .i64 0, .int .i64 0, .int .i64 0] 38 fun b13 h =>
  ldI .i64 h b11 0 fun n14 =>
  st h b13 0 (.int .i64 n14) fun h =>
  ldI .i64 h b11 1 fun n15 =>
  st h b13 1 (.int .i64 n15) fun h =>
  ldI .i64 h b11 2 fun n16 =>
  st h b13 2 (.int .i64 n16) fun h =>
  ldI .i64 h b11 3 fun n17 =>
  st h b13 3 (.int .i64 n17) fun h =>
  ldI .i64 h b11 4 fun n18 =>
  st h b13 4 (.int .i64 n18) fun h =>
  ldI .i64 h b11 5 fun n19 =>
  st h b13 5 (.int .i64 n19) fun h =>
  ldI .i64 h b11 6 fun n20 =>
  st h b13 6 (.int .i64 n20) fun h =>
  ldI .i64 h b11 7 fun n21 =>
  st h b13 7 (.int .i64 n21) fun h =>
  ldI .i64 h b11 8 fun n22 =>
  st h b13 8 (.int .i64 n22) fun h =>
  ldI .i64 h b11 9 fun n23 =>
  st h b13 9 (.int .i64 n23) fun h =>
  ldRow h b13 0 0 [.int .i64, .int .i64, .int .i64, .int .i64, .int .i64, .int .i64, .int .i64, .int .i64, .int .i64, .int .i64] fun n24 n25 n26 n27 n28 n29 n30 n31 n32 n33 =>
  stRow h b12 0 0 [.int .i64 n24, .int .i64 n25, .int .i64 n26, .int .i64 n27, .int .i64 n28, .int .i64 n29, .int .i64 n30, .int .i64 n31, .int .i64 n32, .int .i64 n33] fun h =>
  kr b12 h

theorem laws_toProc_eq (K : Cont) (a_1 : Int) (a_2 : Int) (a_3 : Int) (a_4 : Int) (a_5 : Int) (a_6 : Int) (a_7 : Int) (a_8 : Int) (a_9 : Int) (a_10 : Int) (h : H) :
  laws_toProc (curV [(2, .blk)] (K .ret)) a_1 a_2 a_3 a_4 a_5 a_6 a_7 a_8 a_9 a_10 h = evC Try.prog 35 [] [] code56 [(0, .agg ⟨[.int .i64 a_1, .int .i64 a_2, .int .i64 a_3, .int .i64 a_4, .int .i64 a_5, .int .i64 a_6, .int .i64 a_7, .int .i64 a_8, .int .i64 a_9, .int .i64 a_10]⟩)] h (outsOf none [] (some [(2, .blk)]) K).K := by kernel_rfl

def laws_toProc_F : PT := mkF [(0, .agg [.int .i64, .int .i64, .int .i64, .int .i64, .int .i64, .int .i64, .int .i64, .int .i64, .int .i64, .int .i64])] fun K => laws_toProc (curV [(2, .blk)] (K .ret))

theorem laws_toProc_V : Valid Try.prog 35 code56 laws_toProc_F :=
  piece mixed rows_nil (fun K => by intro a_1 a_2 a_3 a_4 a_5 a_6 a_7 a_8 a_9 a_10 h hd; exact (laws_toProc_eq K a_1 a_2 a_3 a_4 a_5 a_6 a_7 a_8 a_9 a_10 h) ▸ hd)

theorem laws_toProc_c0 (a_1 : Int) (a_2 : Int) (a_3 : Int) (a_4 : Int) (a_5 : Int) (a_6 : Int) (a_7 : Int) (a_8 : Int) (a_9 : Int) (a_10 : Int) (h : H) (K : Value → H → Prop) :
  laws_toProc (fun b100001 h =>
  ldRow h b100001 0 0 [.int .i64, .int .i64, .int .i64, .int .i64, .int .i64, .int .i64, .int .i64, .int .i64, .int .i64, .int .i64] fun n100002 n100003 n100004 n100005 n100006 n100007 n100008 n100009 n100010 n100011 =>
  K (.agg ⟨[.int .i64 n100002, .int .i64 n100003, .int .i64 n100004, .int .i64 n100005, .int .i64 n100006, .int .i64 n100007, .int .i64 n100008, .int .i64 n100009, .int .i64 n100010, .int .i64 n100011]⟩) h) a_1 a_2 a_3 a_4 a_5 a_6 a_7 a_8 a_9 a_10 h = callF Try.prog Try.f56.results.toList laws_toProc_F [.agg ⟨[.int .i64 a_1, .int .i64 a_2, .int .i64 a_3, .int .i64 a_4, .int .i64 a_5, .int .i64 a_6, .int .i64 a_7, .int .i64 a_8, .int .i64 a_9, .int .i64 a_10]⟩] h K := by kernel_rfl

theorem laws_toProc_call {a_1 : Int} {a_2 : Int} {a_3 : Int} {a_4 : Int} {a_5 : Int} {a_6 : Int} {a_7 : Int} {a_8 : Int} {a_9 : Int} {a_10 : Int} {h : H} {K : Value → H → Prop} (hs : laws_toProc (fun b100001 h =>
  ldRow h b100001 0 0 [.int .i64, .int .i64, .int .i64, .int .i64, .int .i64, .int .i64, .int .i64, .int .i64, .int .i64, .int .i64] fun n100002 n100003 n100004 n100005 n100006 n100007 n100008 n100009 n100010 n100011 =>
  K (.agg ⟨[.int .i64 n100002, .int .i64 n100003, .int .i64 n100004, .int .i64 n100005, .int .i64 n100006, .int .i64 n100007, .int .i64 n100008, .int .i64 n100009, .int .i64 n100010, .int .i64 n100011]⟩) h) a_1 a_2 a_3 a_4 a_5 a_6 a_7 a_8 a_9 a_10 h) : callK Try.prog 56 ⟨[.agg ⟨[.int .i64 a_1, .int .i64 a_2, .int .i64 a_3, .int .i64 a_4, .int .i64 a_5, .int .i64 a_6, .int .i64 a_7, .int .i64 a_8, .int .i64 a_9, .int .i64 a_10]⟩]⟩ h K :=
  func_calls Try.func56 body56 laws_toProc_V (Nat.le_of_ble_eq_true (by kernel_rfl)) (laws_toProc_c0 a_1 a_2 a_3 a_4 a_5 a_6 a_7 a_8 a_9 a_10 h K ▸ hs)

def laws_toProc_M (kr : Int → Int → Int → Int → Int → Int → Int → Int → Int → Int → H → Prop) (a_1 : Int) (a_2 : Int) (a_3 : Int) (a_4 : Int) (a_5 : Int) (a_6 : Int) (a_7 : Int) (a_8 : Int) (a_9 : Int) (a_10 : Int) (h : H) : Prop :=
  kr a_1 a_2 a_3 a_4 a_5 a_6 a_7 a_8 a_9 a_10 h

theorem laws_toProc_M_D {g0 m0 : H} {kr_1 : Nat → H → Prop} {kr_2 : Int → Int → Int → Int → Int → Int → Int → Int → Int → Int → H → Prop} (Hkr : ∀ (n200001 : Int) (n200002 : Int) (n200003 : Int) (n200004 : Int) (n200005 : Int) (n200006 : Int) (n200007 : Int) (n200008 : Int) (n200009 : Int) (n200010 : Int) (p200011 : Nat) (g m : H), Md g0 m0 g m [lo p200011 [.int .i64 n200001, .int .i64 n200002, .int .i64 n200003, .int .i64 n200004, .int .i64 n200005, .int .i64 n200006, .int .i64 n200007, .int .i64 n200008, .int .i64 n200009, .int .i64 n200010]] → kr_2 n200001 n200002 n200003 n200004 n200005 n200006 n200007 n200008 n200009 n200010 m → kr_1 p200011 g) : ∀ (a_1001 : Int) (a_1002 : Int) (a_1003 : Int) (a_1004 : Int) (a_1005 : Int) (a_1006 : Int) (a_1007 : Int) (a_1008 : Int) (a_1009 : Int) (a_1010 : Int) (g m : H), Md g0 m0 g m [] → laws_toProc_M kr_2 a_1001 a_1002 a_1003 a_1004 a_1005 a_1006 a_1007 a_1008 a_1009 a_1010 m → laws_toProc kr_1 a_1001 a_1002 a_1003 a_1004 a_1005 a_1006 a_1007 a_1008 a_1009 a_1010 g := by
  intro a_1001 a_1002 a_1003 a_1004 a_1005 a_1006 a_1007 a_1008 a_1009 a_1010 g m R
  rw [laws_toProc_M, laws_toProc]
  exact (p_new R fun p1011 g R =>
  (p_new R fun p1012 g R =>
  (p_new R fun p1013 g R =>
  (p_ldI R rfl (p_st R (cs' := [.int .i64 a_1001, .int .i64 0, .int .i64 0, .int .i64 0, .int .i64 0, .int .i64 0, .int .i64 0, .int .i64 0, .int .i64 0, .int .i64 0]) ⟨rfl, rfl⟩ fun g R =>
  (p_ldI R rfl (p_st R (cs' := [.int .i64 a_1001, .int .i64 a_1002, .int .i64 0, .int .i64 0, .int .i64 0, .int .i64 0, .int .i64 0, .int .i64 0, .int .i64 0, .int .i64 0]) ⟨rfl, rfl⟩ fun g R =>
  (p_ldI R rfl (p_st R (cs' := [.int .i64 a_1001, .int .i64 a_1002, .int .i64 a_1003, .int .i64 0, .int .i64 0, .int .i64 0, .int .i64 0, .int .i64 0, .int .i64 0, .int .i64 0]) ⟨rfl, rfl⟩ fun g R =>
  (p_ldI R rfl (p_st R (cs' := [.int .i64 a_1001, .int .i64 a_1002, .int .i64 a_1003, .int .i64 a_1004, .int .i64 0, .int .i64 0, .int .i64 0, .int .i64 0, .int .i64 0, .int .i64 0]) ⟨rfl, rfl⟩ fun g R =>
  (p_ldI R rfl (p_st R (cs' := [.int .i64 a_1001, .int .i64 a_1002, .int .i64 a_1003, .int .i64 a_1004, .int .i64 a_1005, .int .i64 0, .int .i64 0, .int .i64 0, .int .i64 0, .int .i64 0]) ⟨rfl, rfl⟩ fun g R =>
  (p_ldI R rfl (p_st R (cs' := [.int .i64 a_1001, .int .i64 a_1002, .int .i64 a_1003, .int .i64 a_1004, .int .i64 a_1005, .int .i64 a_1006, .int .i64 0, .int .i64 0, .int .i64 0, .int .i64 0]) ⟨rfl, rfl⟩ fun g R =>
  (p_ldI R rfl (p_st R (cs' := [.int .i64 a_1001, .int .i64 a_1002, .int .i64 a_1003, .int .i64 a_1004, .int .i64 a_1005, .int .i64 a_1006, .int .i64 a_1007, .int .i64 0, .int .i64 0, .int .i64 0]) ⟨rfl, rfl⟩ fun g R =>
  (p_ldI R rfl (p_st R (cs' := [.int .i64 a_1001, .int .i64 a_1002, .int .i64 a_1003, .int .i64 a_1004, .int .i64 a_1005, .int .i64 a_1006, .int .i64 a_1007, .int .i64 a_1008, .int .i64 0, .int .i64 0]) ⟨rfl, rfl⟩ fun g R =>
  (p_ldI R rfl (p_st R (cs' := [.int .i64 a_1001, .int .i64 a_1002, .int .i64 a_1003, .int .i64 a_1004, .int .i64 a_1005, .int .i64 a_1006, .int .i64 a_1007, .int .i64 a_1008, .int .i64 a_1009, .int .i64 0]) ⟨rfl, rfl⟩ fun g R =>
  (p_ldI R rfl (p_st R (cs' := [.int .i64 a_1001, .int .i64 a_1002, .int .i64 a_1003, .int .i64 a_1004, .int .i64 a_1005, .int .i64 a_1006, .int .i64 a_1007, .int .i64 a_1008, .int .i64 a_1009, .int .i64 a_1010]) ⟨rfl, rfl⟩ fun g R =>
  (p_row_I10 R rfl rfl rfl rfl rfl rfl rfl rfl rfl rfl (p_stRow R (cs' := [.int .i64 a_1001, .int .i64 a_1002, .int .i64 a_1003, .int .i64 a_1004, .int .i64 a_1005, .int .i64 a_1006, .int .i64 a_1007, .int .i64 a_1008, .int .i64 a_1009, .int .i64 a_1010]) ⟨rfl, rfl, rfl⟩ fun g R =>
  (Hkr a_1001 a_1002 a_1003 a_1004 a_1005 a_1006 a_1007 a_1008 a_1009 a_1010 p1012 _ _ R.sub))))))))))))))))))))))))))

theorem laws_toProc_M_call {a_1 : Int} {a_2 : Int} {a_3 : Int} {a_4 : Int} {a_5 : Int} {a_6 : Int} {a_7 : Int} {a_8 : Int} {a_9 : Int} {a_10 : Int} {h : H} {K : Value → H → Prop} (hs : laws_toProc_M (fun n300001 n300002 n300003 n300004 n300005 n300006 n300007 n300008 n300009 n300010 h =>
  K (.agg ⟨[.int .i64 n300001, .int .i64 n300002, .int .i64 n300003, .int .i64 n300004, .int .i64 n300005, .int .i64 n300006, .int .i64 n300007, .int .i64 n300008, .int .i64 n300009, .int .i64 n300010]⟩) h) a_1 a_2 a_3 a_4 a_5 a_6 a_7 a_8 a_9 a_10 h) : callD Try.prog 56 ⟨[.agg ⟨[.int .i64 a_1, .int .i64 a_2, .int .i64 a_3, .int .i64 a_4, .int .i64 a_5, .int .i64 a_6, .int .i64 a_7, .int .i64 a_8, .int .i64 a_9, .int .i64 a_10]⟩]⟩ h K :=
  fun g r => laws_toProc_call (laws_toProc_M_D (by exact fun n300001 n300002 n300003 n300004 n300005 n300006 n300007 n300008 n300009 n300010 p300011 g m R =>
(p_row_I10 R rfl rfl rfl rfl rfl rfl rfl rfl rfl rfl (fun h => ⟨m, R.af, h⟩))) _ _ _ _ _ _ _ _ _ _ _ _ (Md.start r) hs)

noncomputable def code57 : Code := codeOf Try.f57
theorem body57 : Try.f57.body = some code57 := by kernel_rfl
def laws_eqProc (kr : Bool → H → Prop) (a_1 : Int) (a_2 : Int) (a_3 : Int) (a_4 : Int) (a_5 : Int) (a_6 : Int) (a_7 : Int) (a_8 : Int) (a_9 : Int) (a_10 : Int) (b_11 : Int) (b_12 : Int) (b_13 : Int) (b_14 : Int) (b_15 : Int) (b_16 : Int) (b_17 : Int) (b_18 : Int) (b_19 : Int) (b_20 : Int) (h : H) : Prop :=
  new h [.int .i64 a_1, .int .i64 a_2, .int .i64 a_3, .int .i64 a_4, .int .i64 a_5, .int .i64 a_6, .int .i64 a_7, .int .i64 a_8, .int .i64 a_9, .int .i64 a_10] 38 fun b21 h =>
  new h [.int .i64 b_11, .int .i64 b_12, .int .i64 b_13, .int .i64 b_14, .int .i64 b_15, .int .i64 b_16, .int .i64 b_17, .int .i64 b_18, .int .i64 b_19, .int .i64 b_20] 38 fun b22 h =>
  ldI .i64 h b21 0 fun n23 =>
  ldI .i64 h b22 0 fun n24 =>
  ifB ((n23 : Int) != n24)
  (kr false h)
  (ldI .i64 h b21 1 fun n25 =>
  ldI .i64 h b22 1 fun n26 =>
  ifB ((n25 : Int) != n26)
  (kr false h)
  (ldI .i64 h b21 2 fun n27 =>
  ldI .i64 h b22 2 fun n28 =>
  ifB ((n27 : Int) != n28)
  (kr false h)
  (ldI .i64 h b21 3 fun n29 =>
  ldI .i64 h b22 3 fun n30 =>
  ifB ((n29 : Int) != n30)
  (kr false h)
  (ldI .i64 h b21 4 fun n31 =>
  ldI .i64 h b22 4 fun n32 =>
  ifB ((n31 : Int) != n32)
  (kr false h)
  (ldI .i64 h b21 5 fun n33 =>
  ldI .i64 h b22 5 fun n34 =>
  ifB ((n33 : Int) != n34)
  (kr false h)
  (ldI .i64 h b21 6 fun n35 =>
  ldI .i64 h b22 6 fun n36 =>
  ifB ((n35 : Int) != n36)
  (kr false h)
  (ldI .i64 h b21 7 fun n37 =>
  ldI .i64 h b22 7 fun n38 =>
  ifB ((n37 : Int) != n38)
  (kr false h)
  (ldI .i64 h b21 8 fun n39 =>
  ldI .i64 h b22 8 fun n40 =>
  ifB ((n39 : Int) != n40)
  (kr false h)
  (ldI .i64 h b21 9 fun n41 =>
  ldI .i64 h b22 9 fun n42 =>
  ifB ((n41 : Int) != n42)
  (kr false h)
  (kr true h))))))))))

theorem laws_eqProc_eq (K : Cont) (a_1 : Int) (a_2 : Int) (a_3 : Int) (a_4 : Int) (a_5 : Int) (a_6 : Int) (a_7 : Int) (a_8 : Int) (a_9 : Int) (a_10 : Int) (b_11 : Int) (b_12 : Int) (b_13 : Int) (b_14 : Int) (b_15 : Int) (b_16 : Int) (b_17 : Int) (b_18 : Int) (b_19 : Int) (b_20 : Int) (h : H) :
  laws_eqProc (curV [(4, .bool)] (K .ret)) a_1 a_2 a_3 a_4 a_5 a_6 a_7 a_8 a_9 a_10 b_11 b_12 b_13 b_14 b_15 b_16 b_17 b_18 b_19 b_20 h = evC Try.prog 55 [] [] code57 [(0, .agg ⟨[.int .i64 a_1, .int .i64 a_2, .int .i64 a_3, .int .i64 a_4, .int .i64 a_5, .int .i64 a_6, .int .i64 a_7, .int .i64 a_8, .int .i64 a_9, .int .i64 a_10]⟩), (1, .agg ⟨[.int .i64 b_11, .int .i64 b_12, .int .i64 b_13, .int .i64 b_14, .int .i64 b_15, .int .i64 b_16, .int .i64 b_17, .int .i64 b_18, .int .i64 b_19, .int .i64 b_20]⟩)] h (outsOf none [] (some [(4, .bool)]) K).K := by kernel_rfl

def laws_eqProc_F : PT := mkF [(0, .agg [.int .i64, .int .i64, .int .i64, .int .i64, .int .i64, .int .i64, .int .i64, .int .i64, .int .i64, .int .i64]), (1, .agg [.int .i64, .int .i64, .int .i64, .int .i64, .int .i64, .int .i64, .int .i64, .int .i64, .int .i64, .int .i64])] fun K => laws_eqProc (curV [(4, .bool)] (K .ret))

theorem laws_eqProc_V : Valid Try.prog 55 code57 laws_eqProc_F :=
  piece mixed rows_nil (fun K => by intro a_1 a_2 a_3 a_4 a_5 a_6 a_7 a_8 a_9 a_10 b_11 b_12 b_13 b_14 b_15 b_16 b_17 b_18 b_19 b_20 h hd; exact (laws_eqProc_eq K a_1 a_2 a_3 a_4 a_5 a_6 a_7 a_8 a_9 a_10 b_11 b_12 b_13 b_14 b_15 b_16 b_17 b_18 b_19 b_20 h) ▸ hd)

theorem laws_eqProc_c0 (a_1 : Int) (a_2 : Int) (a_3 : Int) (a_4 : Int) (a_5 : Int) (a_6 : Int) (a_7 : Int) (a_8 : Int) (a_9 : Int) (a_10 : Int) (b_11 : Int) (b_12 : Int) (b_13 : Int) (b_14 : Int) (b_15 : Int) (b_16 : Int) (b_17 : Int) (b_18 : Int) (b_19 : Int) (b_20 : Int) (h : H) (K : Value → H → Prop) :
  laws_eqProc (fun t100001 h =>
  K (.bool t100001) h) a_1 a_2 a_3 a_4 a_5 a_6 a_7 a_8 a_9 a_10 b_11 b_12 b_13 b_14 b_15 b_16 b_17 b_18 b_19 b_20 h = callF Try.prog Try.f57.results.toList laws_eqProc_F [.agg ⟨[.int .i64 a_1, .int .i64 a_2, .int .i64 a_3, .int .i64 a_4, .int .i64 a_5, .int .i64 a_6, .int .i64 a_7, .int .i64 a_8, .int .i64 a_9, .int .i64 a_10]⟩, .agg ⟨[.int .i64 b_11, .int .i64 b_12, .int .i64 b_13, .int .i64 b_14, .int .i64 b_15, .int .i64 b_16, .int .i64 b_17, .int .i64 b_18, .int .i64 b_19, .int .i64 b_20]⟩] h K := by kernel_rfl

theorem laws_eqProc_call {a_1 : Int} {a_2 : Int} {a_3 : Int} {a_4 : Int} {a_5 : Int} {a_6 : Int} {a_7 : Int} {a_8 : Int} {a_9 : Int} {a_10 : Int} {b_11 : Int} {b_12 : Int} {b_13 : Int} {b_14 : Int} {b_15 : Int} {b_16 : Int} {b_17 : Int} {b_18 : Int} {b_19 : Int} {b_20 : Int} {h : H} {K : Value → H → Prop} (hs : laws_eqProc (fun t100001 h =>
  K (.bool t100001) h) a_1 a_2 a_3 a_4 a_5 a_6 a_7 a_8 a_9 a_10 b_11 b_12 b_13 b_14 b_15 b_16 b_17 b_18 b_19 b_20 h) : callK Try.prog 57 ⟨[.agg ⟨[.int .i64 a_1, .int .i64 a_2, .int .i64 a_3, .int .i64 a_4, .int .i64 a_5, .int .i64 a_6, .int .i64 a_7, .int .i64 a_8, .int .i64 a_9, .int .i64 a_10]⟩, .agg ⟨[.int .i64 b_11, .int .i64 b_12, .int .i64 b_13, .int .i64 b_14, .int .i64 b_15, .int .i64 b_16, .int .i64 b_17, .int .i64 b_18, .int .i64 b_19, .int .i64 b_20]⟩]⟩ h K :=
  func_calls Try.func57 body57 laws_eqProc_V (Nat.le_of_ble_eq_true (by kernel_rfl)) (laws_eqProc_c0 a_1 a_2 a_3 a_4 a_5 a_6 a_7 a_8 a_9 a_10 b_11 b_12 b_13 b_14 b_15 b_16 b_17 b_18 b_19 b_20 h K ▸ hs)

def laws_eqProc_M (kr : Bool → H → Prop) (a_1 : Int) (a_2 : Int) (a_3 : Int) (a_4 : Int) (a_5 : Int) (a_6 : Int) (a_7 : Int) (a_8 : Int) (a_9 : Int) (a_10 : Int) (b_11 : Int) (b_12 : Int) (b_13 : Int) (b_14 : Int) (b_15 : Int) (b_16 : Int) (b_17 : Int) (b_18 : Int) (b_19 : Int) (b_20 : Int) (h : H) : Prop :=
  ifB ((a_1 : Int) != b_11)
  (kr false h)
  (ifB ((a_2 : Int) != b_12)
  (kr false h)
  (ifB ((a_3 : Int) != b_13)
  (kr false h)
  (ifB ((a_4 : Int) != b_14)
  (kr false h)
  (ifB ((a_5 : Int) != b_15)
  (kr false h)
  (ifB ((a_6 : Int) != b_16)
  (kr false h)
  (ifB ((a_7 : Int) != b_17)
  (kr false h)
  (ifB ((a_8 : Int) != b_18)
  (kr false h)
  (ifB ((a_9 : Int) != b_19)
  (kr false h)
  (ifB ((a_10 : Int) != b_20)
  (kr false h)
  (kr true h))))))))))

theorem laws_eqProc_M_D {g0 m0 : H} {kr_1 : Bool → H → Prop} {kr_2 : Bool → H → Prop} (Hkr : ∀ (t200001 : Bool) (g m : H), Md g0 m0 g m [] → kr_2 t200001 m → kr_1 t200001 g) : ∀ (a_1001 : Int) (a_1002 : Int) (a_1003 : Int) (a_1004 : Int) (a_1005 : Int) (a_1006 : Int) (a_1007 : Int) (a_1008 : Int) (a_1009 : Int) (a_1010 : Int) (b_1011 : Int) (b_1012 : Int) (b_1013 : Int) (b_1014 : Int) (b_1015 : Int) (b_1016 : Int) (b_1017 : Int) (b_1018 : Int) (b_1019 : Int) (b_1020 : Int) (g m : H), Md g0 m0 g m [] → laws_eqProc_M kr_2 a_1001 a_1002 a_1003 a_1004 a_1005 a_1006 a_1007 a_1008 a_1009 a_1010 b_1011 b_1012 b_1013 b_1014 b_1015 b_1016 b_1017 b_1018 b_1019 b_1020 m → laws_eqProc kr_1 a_1001 a_1002 a_1003 a_1004 a_1005 a_1006 a_1007 a_1008 a_1009 a_1010 b_1011 b_1012 b_1013 b_1014 b_1015 b_1016 b_1017 b_1018 b_1019 b_1020 g := by
  intro a_1001 a_1002 a_1003 a_1004 a_1005 a_1006 a_1007 a_1008 a_1009 a_1010 b_1011 b_1012 b_1013 b_1014 b_1015 b_1016 b_1017 b_1018 b_1019 b_1020 g m R
  rw [laws_eqProc_M, laws_eqProc]
  exact (p_new R fun p1021 g R =>
  (p_new R fun p1022 g R =>
  (p_ldI R rfl (p_ldI R rfl (d_if (Hkr false _ _ R.sub)
  (p_ldI R rfl (p_ldI R rfl (d_if (Hkr false _ _ R.sub)
  (p_ldI R rfl (p_ldI R rfl (d_if (Hkr false _ _ R.sub)
  (p_ldI R rfl (p_ldI R rfl (d_if (Hkr false _ _ R.sub)
  (p_ldI R rfl (p_ldI R rfl (d_if (Hkr false _ _ R.sub)
  (p_ldI R rfl (p_ldI R rfl (d_if (Hkr false _ _ R.sub)
  (p_ldI R rfl (p_ldI R rfl (d_if (Hkr false _ _ R.sub)
  (p_ldI R rfl (p_ldI R rfl (d_if (Hkr false _ _ R.sub)
  (p_ldI R rfl (p_ldI R rfl (d_if (Hkr false _ _ R.sub)
  (p_ldI R rfl (p_ldI R rfl (d_if (Hkr false _ _ R.sub)
  (Hkr true _ _ R.sub)))))))))))))))))))))))))))))))))

theorem laws_eqProc_M_call {a_1 : Int} {a_2 : Int} {a_3 : Int} {a_4 : Int} {a_5 : Int} {a_6 : Int} {a_7 : Int} {a_8 : Int} {a_9 : Int} {a_10 : Int} {b_11 : Int} {b_12 : Int} {b_13 : Int} {b_14 : Int} {b_15 : Int} {b_16 : Int} {b_17 : Int} {b_18 : Int} {b_19 : Int} {b_20 : Int} {h : H} {K : Value → H → Prop} (hs : laws_eqProc_M (fun t300001 h =>
  K (.bool t300001) h) a_1 a_2 a_3 a_4 a_5 a_6 a_7 a_8 a_9 a_10 b_11 b_12 b_13 b_14 b_15 b_16 b_17 b_18 b_19 b_20 h) : callD Try.prog 57 ⟨[.agg ⟨[.int .i64 a_1, .int .i64 a_2, .int .i64 a_3, .int .i64 a_4, .int .i64 a_5, .int .i64 a_6, .int .i64 a_7, .int .i64 a_8, .int .i64 a_9, .int .i64 a_10]⟩, .agg ⟨[.int .i64 b_11, .int .i64 b_12, .int .i64 b_13, .int .i64 b_14, .int .i64 b_15, .int .i64 b_16, .int .i64 b_17, .int .i64 b_18, .int .i64 b_19, .int .i64 b_20]⟩]⟩ h K :=
  fun g r => laws_eqProc_call (laws_eqProc_M_D (by exact fun t300001 g m R =>
(fun h => ⟨m, R.af, h⟩)) _ _ _ _ _ _ _ _ _ _ _ _ _ _ _ _ _ _ _ _ _ _ (Md.start r) hs)

noncomputable def code60 : Code := codeOf Try.f60
theorem body60 : Try.f60.body = some code60 := by kernel_rfl
def spec_l16Pow (kr : Int → H → Prop) (n1 : Int) (h : H) : Prop :=
  callK Try.prog 64 ⟨[.int .i64 n1]⟩ h fun v2 h =>
  asI .u64 v2 fun n3 =>
  kr (IntKind.i64.wrap n3) h

theorem spec_l16Pow_eq (K : Cont) (n1 : Int) (h : H) :
  spec_l16Pow (curV [(2, .int .i64)] (K .ret)) n1 h = evC Try.prog 6 [] [] code60 [(0, .int .i64 n1)] h (outsOf none [] (some [(2, .int .i64)]) K).K := by kernel_rfl

def spec_l16Pow_F : PT := mkF [(0, .int .i64)] fun K => spec_l16Pow (curV [(2, .int .i64)] (K .ret))

theorem spec_l16Pow_V : Valid Try.prog 6 code60 spec_l16Pow_F :=
  piece mixed rows_nil (fun K => by intro n1 h hd; exact (spec_l16Pow_eq K n1 h) ▸ hd)

theorem spec_l16Pow_c0 (n1 : Int) (h : H) (K : Value → H → Prop) :
  spec_l16Pow (fun n100001 h =>
  K (.int .i64 n100001) h) n1 h = callF Try.prog Try.f60.results.toList spec_l16Pow_F [.int .i64 n1] h K := by kernel_rfl

theorem spec_l16Pow_call {n1 : Int} {h : H} {K : Value → H → Prop} (hs : spec_l16Pow (fun n100001 h =>
  K (.int .i64 n100001) h) n1 h) : callK Try.prog 60 ⟨[.int .i64 n1]⟩ h K :=
  func_calls Try.func60 body60 spec_l16Pow_V (Nat.le_of_ble_eq_true (by kernel_rfl)) (spec_l16Pow_c0 n1 h K ▸ hs)

def spec_l16Pow_M (kr : Int → H → Prop) (n1 : Int) (h : H) : Prop :=
  callD Try.prog 64 ⟨[.int .i64 n1]⟩ h fun v2 h =>
  asI .u64 v2 fun n3 =>
  kr (IntKind.i64.wrap n3) h

theorem spec_l16Pow_M_D {g0 m0 : H} {kr_1 : Int → H → Prop} {kr_2 : Int → H → Prop} (Hkr : ∀ (n200001 : Int) (g m : H), Md g0 m0 g m [] → kr_2 n200001 m → kr_1 n200001 g) : ∀ (n1001 : Int) (g m : H), Md g0 m0 g m [] → spec_l16Pow_M kr_2 n1001 m → spec_l16Pow kr_1 n1001 g := by
  intro n1001 g m R
  rw [spec_l16Pow_M, spec_l16Pow]
  exact (d_call R fun v1002 g m R =>
  (d_asI fun n1003 =>
  (Hkr (IntKind.i64.wrap n1003) _ _ R.sub)))

theorem spec_l16Pow_M_call {n1 : Int} {h : H} {K : Value → H → Prop} (hs : spec_l16Pow_M (fun n300001 h =>
  K (.int .i64 n300001) h) n1 h) : callD Try.prog 60 ⟨[.int .i64 n1]⟩ h K :=
  fun g r => spec_l16Pow_call (spec_l16Pow_M_D (by exact fun n300001 g m R =>
(fun h => ⟨m, R.af, h⟩)) _ _ _ (Md.start r) hs)

noncomputable def code61 : Code := codeOf Try.f61
theorem body61 : Try.f61.body = some code61 := by kernel_rfl
def spec_l16Send_j1 (kn : H → Prop) (i_24 : Int) (sig_25 : Int) (p_26 : Nat) (x_27 : Nat) (h : H) : Prop :=
  ldI .i64 h x_27 8 fun n28 =>
  callK Try.prog 40 ⟨[.int .i64 n28, .int .i64 sig_25]⟩ h fun v29 h =>
  asB v29 fun t30 =>
  ifB (!t30)
  (ldI .i64 h x_27 6 fun n31 =>
  callK Try.prog 63 ⟨[.int .i64 n31, .int .i64 sig_25]⟩ h fun v32 h =>
  asI .i64 v32 fun n33 =>
  st h x_27 6 (.int .i64 n33) fun h =>
  ldL h p_26 0 fun a34 l34 c34 =>
  ldRow h x_27 0 0 [.int .i64, .int .i64, .int .i64, .int .i64, .int .i64, .int .i64, .int .i64, .int .i64, .int .i64, .int .i64] fun n35 n36 n37 n38 n39 n40 n41 n42 n43 n44 =>
  req (0 ≤ (i_24 : Int) ∧ (i_24 : Int) < (l34 : Nat))
  (nz a34 fun b45 o46 =>
  stRow h b45 (o46 + i_24.toNat * 10) 0 [.int .i64 n35, .int .i64 n36, .int .i64 n37, .int .i64 n38, .int .i64 n39, .int .i64 n40, .int .i64 n41, .int .i64 n42, .int .i64 n43, .int .i64 n44] fun h =>
  kn h))
  (ldL h p_26 0 fun a47 l47 c47 =>
  ldRow h x_27 0 0 [.int .i64, .int .i64, .int .i64, .int .i64, .int .i64, .int .i64, .int .i64, .int .i64, .int .i64, .int .i64] fun n48 n49 n50 n51 n52 n53 n54 n55 n56 n57 =>
  req (0 ≤ (i_24 : Int) ∧ (i_24 : Int) < (l47 : Nat))
  (nz a47 fun b58 o59 =>
  stRow h b58 (o59 + i_24.toNat * 10) 0 [.int .i64 n48, .int .i64 n49, .int .i64 n50, .int .i64 n51, .int .i64 n52, .int .i64 n53, .int .i64 n54, .int .i64 n55, .int .i64 n56, .int .i64 n57] fun h =>
  kn h))

def spec_l16Send_j0 (kn : H → Prop) (i_20 : Int) (sig_21 : Int) (p_22 : Nat) (x_23 : Nat) (h : H) : Prop :=
  ifB ((sig_21 : Int) == 12)
  (ldI .i64 h x_23 6 fun n24 =>
  callK Try.prog 52 ⟨[.int .i64 n24, .int .i64 13]⟩ h fun v25 h =>
  asI .i64 v25 fun n26 =>
  st h x_23 6 (.int .i64 n26) fun h =>
  spec_l16Send_j1 kn i_20 sig_21 p_22 x_23 h)
  (spec_l16Send_j1 kn i_20 sig_21 p_22 x_23 h)

def spec_l16Send (kn : H → Prop) (kr : H → Prop) (p_1 : Option Addr) (p_l1 : Nat) (p_c1 : Nat) (i_2 : Int) (sig_3 : Int) (h : H) : Prop :=
  new h [.slice p_1 p_l1 p_c1] 27 fun b4 h =>
  ldL h b4 0 fun a5 l5 c5 =>
  req (0 ≤ (i_2 : Int) ∧ (i_2 : Int) < (l5 : Nat))
  (nz a5 fun b6 o7 =>
  ldRow h b6 (o7 + i_2.toNat * 10) 0 [.int .i64, .int .i64, .int .i64, .int .i64, .int .i64, .int .i64, .int .i64, .int .i64, .int .i64, .int .i64] fun n8 n9 n10 n11 n12 n13 n14 n15 n16 n17 =>
  new h [.int .i64 0, .int .i64 0, .int .i64 0, .int .i64 0, .int .i64 0, .int .i64 0, .int .i64 0, .int .i64 0, .int .i64 0, .int .i64 0] 38 fun b18 h =>
  stRow h b18 0 0 [.int .i64 n8, .int .i64 n9, .int .i64 n10, .int .i64 n11, .int .i64 n12, .int .i64 n13, .int .i64 n14, .int .i64 n15, .int .i64 n16, .int .i64 n17] fun h =>
  ldI .i64 h b18 4 fun n19 =>
  ifB ((n19 : Int) == 3)
  (kr h)
  (ifB ((sig_3 : Int) == 13)
  (st h b18 4 (.int .i64 1) fun h =>
  ldI .i64 h b18 6 fun n20 =>
  callK Try.prog 52 ⟨[.int .i64 n20, .int .i64 12]⟩ h fun v21 h =>
  asI .i64 v21 fun n22 =>
  st h b18 6 (.int .i64 n22) fun h =>
  spec_l16Send_j0 kn i_2 sig_3 b4 b18 h)
  (spec_l16Send_j0 kn i_2 sig_3 b4 b18 h)))

theorem spec_l16Send_j1_eq (K : Cont) (i_24 : Int) (sig_25 : Int) (p_26 : Nat) (x_27 : Nat) (h : H) :
  spec_l16Send_j1 (curV [] (K .normal)) i_24 sig_25 p_26 x_27 h = evC Try.prog 43 [] [] (sub code61 [true, true, true, true, true]) [(1, .int .i64 i_24), (2, .int .i64 sig_25), (3, .pointer (some ⟨p_26, 0, none⟩)), (6, .pointer (some ⟨x_27, 0, none⟩))] h (outsOf (some []) [] none K).K := by kernel_rfl

def spec_l16Send_j1_F : PT := mkF [(1, .int .i64), (2, .int .i64), (3, .blk), (6, .blk)] fun K => spec_l16Send_j1 (curV [] (K .normal))

theorem spec_l16Send_j1_V : Valid Try.prog 43 (sub code61 [true, true, true, true, true]) spec_l16Send_j1_F :=
  piece mixed rows_nil (fun K => by intro i_24 sig_25 p_26 x_27 h hd; exact (spec_l16Send_j1_eq K i_24 sig_25 p_26 x_27 h) ▸ hd)

theorem spec_l16Send_j0_eq (K : Cont) (i_20 : Int) (sig_21 : Int) (p_22 : Nat) (x_23 : Nat) (h : H) :
  spec_l16Send_j0 (curV [] (K .normal)) i_20 sig_21 p_22 x_23 h = evC Try.prog 43 [([true], spec_l16Send_j1_F)] [] (sub code61 [true, true, true, true]) [(1, .int .i64 i_20), (2, .int .i64 sig_21), (3, .pointer (some ⟨p_22, 0, none⟩)), (6, .pointer (some ⟨x_23, 0, none⟩))] h (outsOf (some []) [] none K).K := by kernel_rfl

def spec_l16Send_j0_F : PT := mkF [(1, .int .i64), (2, .int .i64), (3, .blk), (6, .blk)] fun K => spec_l16Send_j0 (curV [] (K .normal))

theorem spec_l16Send_j0_V : Valid Try.prog 43 (sub code61 [true, true, true, true]) spec_l16Send_j0_F :=
  piece mixed (rows_cons (q' := [true]) (valid_at (p := [true, true, true, true]) spec_l16Send_j1_V rfl) rfl rows_nil) (fun K => by intro i_20 sig_21 p_22 x_23 h hd; exact (spec_l16Send_j0_eq K i_20 sig_21 p_22 x_23 h) ▸ hd)

theorem spec_l16Send_eq (K : Cont) (p_1 : Option Addr) (p_l1 : Nat) (p_c1 : Nat) (i_2 : Int) (sig_3 : Int) (h : H) :
  spec_l16Send (curV [] (K .normal)) (curV [] (K .ret)) p_1 p_l1 p_c1 i_2 sig_3 h = evC Try.prog 43 [([true, true, true, true], spec_l16Send_j0_F)] [] code61 [(0, .agg ⟨[.slice p_1 p_l1 p_c1]⟩), (1, .int .i64 i_2), (2, .int .i64 sig_3)] h (outsOf (some []) [] (some []) K).K := by kernel_rfl

def spec_l16Send_F : PT := mkF [(0, .agg [.slice]), (1, .int .i64), (2, .int .i64)] fun K => spec_l16Send (curV [] (K .normal)) (curV [] (K .ret))

theorem spec_l16Send_V : Valid Try.prog 43 code61 spec_l16Send_F :=
  piece mixed (rows_cons (q' := [true, true, true, true]) spec_l16Send_j0_V rfl rows_nil) (fun K => by intro p_1 p_l1 p_c1 i_2 sig_3 h hd; exact (spec_l16Send_eq K p_1 p_l1 p_c1 i_2 sig_3 h) ▸ hd)

theorem spec_l16Send_c0 (p_1 : Option Addr) (p_l1 : Nat) (p_c1 : Nat) (i_2 : Int) (sig_3 : Int) (h : H) (K : Value → H → Prop) :
  spec_l16Send (fun h =>
  K (.tuple ⟨[]⟩) h) (fun h =>
  K (.tuple ⟨[]⟩) h) p_1 p_l1 p_c1 i_2 sig_3 h = callF Try.prog Try.f61.results.toList spec_l16Send_F [.agg ⟨[.slice p_1 p_l1 p_c1]⟩, .int .i64 i_2, .int .i64 sig_3] h K := by kernel_rfl

theorem spec_l16Send_call {p_1 : Option Addr} {p_l1 : Nat} {p_c1 : Nat} {i_2 : Int} {sig_3 : Int} {h : H} {K : Value → H → Prop} (hs : spec_l16Send (fun h =>
  K (.tuple ⟨[]⟩) h) (fun h =>
  K (.tuple ⟨[]⟩) h) p_1 p_l1 p_c1 i_2 sig_3 h) : callK Try.prog 61 ⟨[.agg ⟨[.slice p_1 p_l1 p_c1]⟩, .int .i64 i_2, .int .i64 sig_3]⟩ h K :=
  func_calls Try.func61 body61 spec_l16Send_V (Nat.le_of_ble_eq_true (by kernel_rfl)) (spec_l16Send_c0 p_1 p_l1 p_c1 i_2 sig_3 h K ▸ hs)

def spec_l16Send_M_j1 (kn : H → Prop) (i_31 : Int) (sig_32 : Int) (a33 : Option Addr) (l33 : Nat) (n35 : Int) (n36 : Int) (n37 : Int) (n38 : Int) (n39 : Int) (n40 : Int) (n41 : Int) (n42 : Int) (n43 : Int) (n44 : Int) (h : H) : Prop :=
  callD Try.prog 40 ⟨[.int .i64 n43, .int .i64 sig_32]⟩ h fun v46 h =>
  asB v46 fun t47 =>
  ifB (!t47)
  (callD Try.prog 63 ⟨[.int .i64 n41, .int .i64 sig_32]⟩ h fun v48 h =>
  asI .i64 v48 fun n49 =>
  req (0 ≤ (i_31 : Int) ∧ (i_31 : Int) < (l33 : Nat))
  (nz a33 fun b50 o51 =>
  stRow h b50 (o51 + i_31.toNat * 10) 0 [.int .i64 n35, .int .i64 n36, .int .i64 n37, .int .i64 n38, .int .i64 n39, .int .i64 n40, .int .i64 n49, .int .i64 n42, .int .i64 n43, .int .i64 n44] fun h =>
  kn h))
  (req (0 ≤ (i_31 : Int) ∧ (i_31 : Int) < (l33 : Nat))
  (nz a33 fun b52 o53 =>
  stRow h b52 (o53 + i_31.toNat * 10) 0 [.int .i64 n35, .int .i64 n36, .int .i64 n37, .int .i64 n38, .int .i64 n39, .int .i64 n40, .int .i64 n41, .int .i64 n42, .int .i64 n43, .int .i64 n44] fun h =>
  kn h))

def spec_l16Send_M_j0 (kn : H → Prop) (i_16 : Int) (sig_17 : Int) (a18 : Option Addr) (l18 : Nat) (n20 : Int) (n21 : Int) (n22 : Int) (n23 : Int) (n24 : Int) (n25 : Int) (n26 : Int) (n27 : Int) (n28 : Int) (n29 : Int) (h : H) : Prop :=
  ifB ((sig_17 : Int) == 12)
  (callD Try.prog 52 ⟨[.int .i64 n26, .int .i64 13]⟩ h fun v31 h =>
  asI .i64 v31 fun n32 =>
  spec_l16Send_M_j1 kn i_16 sig_17 a18 l18 n20 n21 n22 n23 n24 n25 n32 n27 n28 n29 h)
  (spec_l16Send_M_j1 kn i_16 sig_17 a18 l18 n20 n21 n22 n23 n24 n25 n26 n27 n28 n29 h)

def spec_l16Send_M (kn : H → Prop) (kr : H → Prop) (p_1 : Option Addr) (p_l1 : Nat) (p_c1 : Nat) (i_2 : Int) (sig_3 : Int) (h : H) : Prop :=
  req (0 ≤ (i_2 : Int) ∧ (i_2 : Int) < (p_l1 : Nat))
  (nz p_1 fun b4 o5 =>
  ldRow h b4 (o5 + i_2.toNat * 10) 0 [.int .i64, .int .i64, .int .i64, .int .i64, .int .i64, .int .i64, .int .i64, .int .i64, .int .i64, .int .i64] fun n6 n7 n8 n9 n10 n11 n12 n13 n14 n15 =>
  ifB ((n10 : Int) == 3)
  (kr h)
  (ifB ((sig_3 : Int) == 13)
  (callD Try.prog 52 ⟨[.int .i64 n12, .int .i64 12]⟩ h fun v16 h =>
  asI .i64 v16 fun n17 =>
  spec_l16Send_M_j0 kn i_2 sig_3 p_1 p_l1 n6 n7 n8 n9 1 n11 n17 n13 n14 n15 h)
  (spec_l16Send_M_j0 kn i_2 sig_3 p_1 p_l1 n6 n7 n8 n9 n10 n11 n12 n13 n14 n15 h)))

theorem spec_l16Send_M_j1_D {g0 m0 : H} {kn_1 : H → Prop} {kn_2 : H → Prop} (Hkn : ∀ (g m : H), Md g0 m0 g m [] → kn_2 m → kn_1 g) : ∀ (i_1031 : Int) (sig_1032 : Int) (a1033 : Option Addr) (l1033 : Nat) (c1033 : Nat) (n1035 : Int) (n1036 : Int) (n1037 : Int) (n1038 : Int) (n1039 : Int) (n1040 : Int) (n1041 : Int) (n1042 : Int) (n1043 : Int) (n1044 : Int) (p1034 : Nat) (p1045 : Nat) (g m : H), Md g0 m0 g m [lo p1034 [.slice a1033 l1033 c1033], lo p1045 [.int .i64 n1035, .int .i64 n1036, .int .i64 n1037, .int .i64 n1038, .int .i64 n1039, .int .i64 n1040, .int .i64 n1041, .int .i64 n1042, .int .i64 n1043, .int .i64 n1044]] → spec_l16Send_M_j1 kn_2 i_1031 sig_1032 a1033 l1033 n1035 n1036 n1037 n1038 n1039 n1040 n1041 n1042 n1043 n1044 m → spec_l16Send_j1 kn_1 i_1031 sig_1032 p1034 p1045 g := by
  intro i_1031 sig_1032 a1033 l1033 c1033 n1035 n1036 n1037 n1038 n1039 n1040 n1041 n1042 n1043 n1044 p1034 p1045 g m R
  rw [spec_l16Send_M_j1, spec_l16Send_j1]
  exact (p_ldI R rfl (d_call R fun v1046 g m R =>
  (d_asB fun t1047 =>
  (d_if (p_ldI R rfl (d_call R fun v1048 g m R =>
  (d_asI fun n1049 =>
  (p_st R (cs' := [.int .i64 n1035, .int .i64 n1036, .int .i64 n1037, .int .i64 n1038, .int .i64 n1039, .int .i64 n1040, .int .i64 n1049, .int .i64 n1042, .int .i64 n1043, .int .i64 n1044]) ⟨rfl, rfl⟩ fun g R =>
  (p_ldL R rfl (p_row_I10 R rfl rfl rfl rfl rfl rfl rfl rfl rfl rfl (d_req (d_nz fun b1050 o1051 =>
  (d_stRow R fun g m R =>
  (Hkn _ _ R.sub))))))))))
  (p_ldL R rfl (p_row_I10 R rfl rfl rfl rfl rfl rfl rfl rfl rfl rfl (d_req (d_nz fun b1052 o1053 =>
  (d_stRow R fun g m R =>
  (Hkn _ _ R.sub))))))))))

theorem spec_l16Send_M_j0_D {g0 m0 : H} {kn_1 : H → Prop} {kn_2 : H → Prop} (Hkn : ∀ (g m : H), Md g0 m0 g m [] → kn_2 m → kn_1 g) : ∀ (i_1016 : Int) (sig_1017 : Int) (a1018 : Option Addr) (l1018 : Nat) (c1018 : Nat) (n1020 : Int) (n1021 : Int) (n1022 : Int) (n1023 : Int) (n1024 : Int) (n1025 : Int) (n1026 : Int) (n1027 : Int) (n1028 : Int) (n1029 : Int) (p1019 : Nat) (p1030 : Nat) (g m : H), Md g0 m0 g m [lo p1019 [.slice a1018 l1018 c1018], lo p1030 [.int .i64 n1020, .int .i64 n1021, .int .i64 n1022, .int .i64 n1023, .int .i64 n1024, .int .i64 n1025, .int .i64 n1026, .int .i64 n1027, .int .i64 n1028, .int .i64 n1029]] → spec_l16Send_M_j0 kn_2 i_1016 sig_1017 a1018 l1018 n1020 n1021 n1022 n1023 n1024 n1025 n1026 n1027 n1028 n1029 m → spec_l16Send_j0 kn_1 i_1016 sig_1017 p1019 p1030 g := by
  intro i_1016 sig_1017 a1018 l1018 c1018 n1020 n1021 n1022 n1023 n1024 n1025 n1026 n1027 n1028 n1029 p1019 p1030 g m R
  rw [spec_l16Send_M_j0, spec_l16Send_j0]
  exact (d_if (p_ldI R rfl (d_call R fun v1031 g m R =>
  (d_asI fun n1032 =>
  (p_st R (cs' := [.int .i64 n1020, .int .i64 n1021, .int .i64 n1022, .int .i64 n1023, .int .i64 n1024, .int .i64 n1025, .int .i64 n1032, .int .i64 n1027, .int .i64 n1028, .int .i64 n1029]) ⟨rfl, rfl⟩ fun g R =>
  (spec_l16Send_M_j1_D (by exact fun g m R =>
  (Hkn _ _ R.sub)) i_1016 sig_1017 a1018 l1018 c1018 n1020 n1021 n1022 n1023 n1024 n1025 n1032 n1027 n1028 n1029 p1019 p1030 _ _ R.sub)))))
  (spec_l16Send_M_j1_D (by exact fun g m R =>
  (Hkn _ _ R.sub)) i_1016 sig_1017 a1018 l1018 c1018 n1020 n1021 n1022 n1023 n1024 n1025 n1026 n1027 n1028 n1029 p1019 p1030 _ _ R.sub))

theorem spec_l16Send_M_D {g0 m0 : H} {kn_1 : H → Prop} {kn_2 : H → Prop} (Hkn : ∀ (g m : H), Md g0 m0 g m [] → kn_2 m → kn_1 g)
  {kr_1 : H → Prop} {kr_2 : H → Prop} (Hkr : ∀ (g m : H), Md g0 m0 g m [] → kr_2 m → kr_1 g) : ∀ (p_1001 : Option Addr) (p_l1001 : Nat) (p_c1001 : Nat) (i_1002 : Int) (sig_1003 : Int) (g m : H), Md g0 m0 g m [] → spec_l16Send_M kn_2 kr_2 p_1001 p_l1001 p_c1001 i_1002 sig_1003 m → spec_l16Send kn_1 kr_1 p_1001 p_l1001 p_c1001 i_1002 sig_1003 g := by
  intro p_1001 p_l1001 p_c1001 i_1002 sig_1003 g m R
  rw [spec_l16Send_M, spec_l16Send]
  exact (p_new R fun p1004 g R =>
  (p_ldL R rfl (d_req (d_nz fun b1005 o1006 =>
  (d_row_I10 R fun n1007 n1008 n1009 n1010 n1011 n1012 n1013 n1014 n1015 n1016 =>
  (p_new R fun p1017 g R =>
  (p_stRow R (cs' := [.int .i64 n1007, .int .i64 n1008, .int .i64 n1009, .int .i64 n1010, .int .i64 n1011, .int .i64 n1012, .int .i64 n1013, .int .i64 n1014, .int .i64 n1015, .int .i64 n1016]) ⟨rfl, rfl, rfl⟩ fun g R =>
  (p_ldI R rfl (d_if (Hkr _ _ R.sub)
  (d_if (p_st R (cs' := [.int .i64 n1007, .int .i64 n1008, .int .i64 n1009, .int .i64 n1010, .int .i64 1, .int .i64 n1012, .int .i64 n1013, .int .i64 n1014, .int .i64 n1015, .int .i64 n1016]) ⟨rfl, rfl⟩ fun g R =>
  (p_ldI R rfl (d_call R fun v1018 g m R =>
  (d_asI fun n1019 =>
  (p_st R (cs' := [.int .i64 n1007, .int .i64 n1008, .int .i64 n1009, .int .i64 n1010, .int .i64 1, .int .i64 n1012, .int .i64 n1019, .int .i64 n1014, .int .i64 n1015, .int .i64 n1016]) ⟨rfl, rfl⟩ fun g R =>
  (spec_l16Send_M_j0_D (by exact fun g m R =>
  (Hkn _ _ R.sub)) i_1002 sig_1003 p_1001 p_l1001 p_c1001 n1007 n1008 n1009 n1010 1 n1012 n1019 n1014 n1015 n1016 p1004 p1017 _ _ R.sub))))))
  (spec_l16Send_M_j0_D (by exact fun g m R =>
  (Hkn _ _ R.sub)) i_1002 sig_1003 p_1001 p_l1001 p_c1001 n1007 n1008 n1009 n1010 n1011 n1012 n1013 n1014 n1015 n1016 p1004 p1017 _ _ R.sub)))))))))))

theorem spec_l16Send_M_call {p_1 : Option Addr} {p_l1 : Nat} {p_c1 : Nat} {i_2 : Int} {sig_3 : Int} {h : H} {K : Value → H → Prop} (hs : spec_l16Send_M (fun h =>
  K (.tuple ⟨[]⟩) h) (fun h =>
  K (.tuple ⟨[]⟩) h) p_1 p_l1 p_c1 i_2 sig_3 h) : callD Try.prog 61 ⟨[.agg ⟨[.slice p_1 p_l1 p_c1]⟩, .int .i64 i_2, .int .i64 sig_3]⟩ h K :=
  fun g r => spec_l16Send_call (spec_l16Send_M_D (by exact fun g m R =>
(fun h => ⟨m, R.af, h⟩))
(by exact fun g m R =>
(fun h => ⟨m, R.af, h⟩)) _ _ _ _ _ _ _ (Md.start r) hs)

noncomputable def code62 : Code := codeOf Try.f62
theorem body62 : Try.f62.body = some code62 := by kernel_rfl
def spec_l16Cut (kr : Nat → H → Prop) (p_1 : Option Addr) (p_l1 : Nat) (p_c1 : Nat) (i_2 : Int) (h : H) : Prop :=
  new h [.slice p_1 p_l1 p_c1] 27 fun b3 h =>
  new h [.slice none 0 0] 27 fun b4 h =>
  ldL h b3 0 fun a5 l5 c5 =>
  req (0 ≤ (i_2 : Int) ∧ (i_2 : Int) ≤ (c5 : Nat))
  (req (plainA a5 = true)
  (ldL h b3 0 fun a6 l6 c6 =>
  req (0 ≤ (IntKind.i64.wrap (i_2 + 1) : Int) ∧ (IntKind.i64.wrap (i_2 + 1) : Int) ≤ (l6 : Nat))
  (req (plainA a6 = true)
  (new h [] 38 fun b7 h =>
  cell h b3 0 = some (.slice a6 l6 c6) ∧ (cell h b3 0 = some (.slice a5 l5 c5) ∧ (appendK Try.prog 38 h (some ⟨b7, 0, none⟩) 0 0 (.slice (slB a5 0 c5 10) (i_2.toNat - 0) (c5 - 0)) fun a8 l8 c8 h =>
  cell h b3 0 = some (.slice a6 l6 c6) ∧ (appendK Try.prog 38 h a8 l8 c8 (.slice (slB a6 ((IntKind.i64.wrap (i_2 + 1)).toNat) c6 10) (l6 - (IntKind.i64.wrap (i_2 + 1)).toNat) (c6 - (IntKind.i64.wrap (i_2 + 1)).toNat)) fun a9 l9 c9 h =>
  st h b3 0 (.slice a9 l9 c9) fun h =>
  ldRow h b3 0 0 [.slice] fun a10 l10 c10 =>
  stRow h b4 0 0 [.slice a10 l10 c10] fun h =>
  kr b4 h)))))))

theorem spec_l16Cut_eq (K : Cont) (p_1 : Option Addr) (p_l1 : Nat) (p_c1 : Nat) (i_2 : Int) (h : H) :
  spec_l16Cut (curV [(4, .blk)] (K .ret)) p_1 p_l1 p_c1 i_2 h = evC Try.prog 19 [] [] code62 [(0, .agg ⟨[.slice p_1 p_l1 p_c1]⟩), (1, .int .i64 i_2)] h (outsOf none [] (some [(4, .blk)]) K).K := by kernel_rfl

def spec_l16Cut_F : PT := mkF [(0, .agg [.slice]), (1, .int .i64)] fun K => spec_l16Cut (curV [(4, .blk)] (K .ret))

theorem spec_l16Cut_V : Valid Try.prog 19 code62 spec_l16Cut_F :=
  piece mixed rows_nil (fun K => by intro p_1 p_l1 p_c1 i_2 h hd; exact (spec_l16Cut_eq K p_1 p_l1 p_c1 i_2 h) ▸ hd)

theorem spec_l16Cut_c0 (p_1 : Option Addr) (p_l1 : Nat) (p_c1 : Nat) (i_2 : Int) (h : H) (K : Value → H → Prop) :
  spec_l16Cut (fun b100001 h =>
  ldRow h b100001 0 0 [.slice] fun a100002 l100002 c100002 =>
  K (.agg ⟨[.slice a100002 l100002 c100002]⟩) h) p_1 p_l1 p_c1 i_2 h = callF Try.prog Try.f62.results.toList spec_l16Cut_F [.agg ⟨[.slice p_1 p_l1 p_c1]⟩, .int .i64 i_2] h K := by kernel_rfl

theorem spec_l16Cut_call {p_1 : Option Addr} {p_l1 : Nat} {p_c1 : Nat} {i_2 : Int} {h : H} {K : Value → H → Prop} (hs : spec_l16Cut (fun b100001 h =>
  ldRow h b100001 0 0 [.slice] fun a100002 l100002 c100002 =>
  K (.agg ⟨[.slice a100002 l100002 c100002]⟩) h) p_1 p_l1 p_c1 i_2 h) : callK Try.prog 62 ⟨[.agg ⟨[.slice p_1 p_l1 p_c1]⟩, .int .i64 i_2]⟩ h K :=
  func_calls Try.func62 body62 spec_l16Cut_V (Nat.le_of_ble_eq_true (by kernel_rfl)) (spec_l16Cut_c0 p_1 p_l1 p_c1 i_2 h K ▸ hs)

def spec_l16Cut_M (kr : Option Addr → Nat → Nat → H → Prop) (p_1 : Option Addr) (p_l1 : Nat) (p_c1 : Nat) (i_2 : Int) (h : H) : Prop :=
  req (0 ≤ (i_2 : Int) ∧ (i_2 : Int) ≤ (p_c1 : Nat))
  (req (plainA p_1 = true)
  (req (0 ≤ (IntKind.i64.wrap (i_2 + 1) : Int) ∧ (IntKind.i64.wrap (i_2 + 1) : Int) ≤ (p_l1 : Nat))
  (req (plainA p_1 = true)
  (newD h [] 38 fun b3 h =>
  appendD Try.prog 38 h (some ⟨b3, 0, none⟩) 0 0 (.slice (slB p_1 0 p_c1 10) (i_2.toNat - 0) (p_c1 - 0)) fun a4 l4 c4 h =>
  appendD Try.prog 38 h a4 l4 c4 (.slice (slB p_1 ((IntKind.i64.wrap (i_2 + 1)).toNat) p_c1 10) (p_l1 - (IntKind.i64.wrap (i_2 + 1)).toNat) (p_c1 - (IntKind.i64.wrap (i_2 + 1)).toNat)) fun a5 l5 c5 h =>
  kr a5 l5 c5 h))))

theorem spec_l16Cut_M_D {g0 m0 : H} {kr_1 : Nat → H → Prop} {kr_2 : Option Addr → Nat → Nat → H → Prop} (Hkr : ∀ (a200001 : Option Addr) (l200001 : Nat) (c200001 : Nat) (p200002 : Nat) (g m : H), Md g0 m0 g m [lo p200002 [.slice a200001 l200001 c200001]] → kr_2 a200001 l200001 c200001 m → kr_1 p200002 g) : ∀ (p_1001 : Option Addr) (p_l1001 : Nat) (p_c1001 : Nat) (i_1002 : Int) (g m : H), Md g0 m0 g m [] → spec_l16Cut_M kr_2 p_1001 p_l1001 p_c1001 i_1002 m → spec_l16Cut kr_1 p_1001 p_l1001 p_c1001 i_1002 g := by
  intro p_1001 p_l1001 p_c1001 i_1002 g m R
  rw [spec_l16Cut_M, spec_l16Cut]
  exact (p_new R fun p1003 g R =>
  (p_new R fun p1004 g R =>
  (p_ldL R rfl (d_req (d_req (p_ldL R rfl (d_req (d_req (d_new R fun b1005 g m R =>
  (p_cell R rfl (p_cell R rfl (d_append R fun a1006 l1006 c1006 g m R =>
  (p_cell R rfl (d_append R fun a1007 l1007 c1007 g m R =>
  (p_st R (cs' := [.slice a1007 l1007 c1007]) ⟨rfl, rfl⟩ fun g R =>
  (p_row_L R rfl (p_stRow R (cs' := [.slice a1007 l1007 c1007]) ⟨rfl, rfl, rfl⟩ fun g R =>
  (Hkr a1007 l1007 c1007 p1004 _ _ R.sub))))))))))))))))))

theorem spec_l16Cut_M_call {p_1 : Option Addr} {p_l1 : Nat} {p_c1 : Nat} {i_2 : Int} {h : H} {K : Value → H → Prop} (hs : spec_l16Cut_M (fun a300001 l300001 c300001 h =>
  K (.agg ⟨[.slice a300001 l300001 c300001]⟩) h) p_1 p_l1 p_c1 i_2 h) : callD Try.prog 62 ⟨[.agg ⟨[.slice p_1 p_l1 p_c1]⟩, .int .i64 i_2]⟩ h K :=
  fun g r => spec_l16Cut_call (spec_l16Cut_M_D (by exact fun a300001 l300001 c300001 p300002 g m R =>
(p_row_L R rfl (fun h => ⟨m, R.af, h⟩))) _ _ _ _ _ _ (Md.start r) hs)

noncomputable def code63 : Code := codeOf Try.f63
theorem body63 : Try.f63.body = some code63 := by kernel_rfl
def spec_l16With (kr : Int → H → Prop) (n1 : Int) (sig_2 : Int) (h : H) : Prop :=
  callK Try.prog 40 ⟨[.int .i64 n1, .int .i64 sig_2]⟩ h fun v3 h =>
  asB v3 fun t4 =>
  ifB t4
  (kr n1 h)
  (callK Try.prog 60 ⟨[.int .i64 sig_2]⟩ h fun v5 h =>
  asI .i64 v5 fun n6 =>
  kr (IntKind.i64.wrap (n1 + n6)) h)

theorem spec_l16With_eq (K : Cont) (n1 : Int) (sig_2 : Int) (h : H) :
  spec_l16With (curV [(4, .int .i64)] (K .ret)) n1 sig_2 h = evC Try.prog 13 [] [] code63 [(0, .int .i64 n1), (1, .int .i64 sig_2)] h (outsOf none [] (some [(4, .int .i64)]) K).K := by kernel_rfl

def spec_l16With_F : PT := mkF [(0, .int .i64), (1, .int .i64)] fun K => spec_l16With (curV [(4, .int .i64)] (K .ret))

theorem spec_l16With_V : Valid Try.prog 13 code63 spec_l16With_F :=
  piece mixed rows_nil (fun K => by intro n1 sig_2 h hd; exact (spec_l16With_eq K n1 sig_2 h) ▸ hd)

theorem spec_l16With_c0 (n1 : Int) (sig_2 : Int) (h : H) (K : Value → H → Prop) :
  spec_l16With (fun n100001 h =>
  K (.int .i64 n100001) h) n1 sig_2 h = callF Try.prog Try.f63.results.toList spec_l16With_F [.int .i64 n1, .int .i64 sig_2] h K := by kernel_rfl

theorem spec_l16With_call {n1 : Int} {sig_2 : Int} {h : H} {K : Value → H → Prop} (hs : spec_l16With (fun n100001 h =>
  K (.int .i64 n100001) h) n1 sig_2 h) : callK Try.prog 63 ⟨[.int .i64 n1, .int .i64 sig_2]⟩ h K :=
  func_calls Try.func63 body63 spec_l16With_V (Nat.le_of_ble_eq_true (by kernel_rfl)) (spec_l16With_c0 n1 sig_2 h K ▸ hs)

def spec_l16With_M (kr : Int → H → Prop) (n1 : Int) (sig_2 : Int) (h : H) : Prop :=
  callD Try.prog 40 ⟨[.int .i64 n1, .int .i64 sig_2]⟩ h fun v3 h =>
  asB v3 fun t4 =>
  ifB t4
  (kr n1 h)
  (callD Try.prog 60 ⟨[.int .i64 sig_2]⟩ h fun v5 h =>
  asI .i64 v5 fun n6 =>
  kr (IntKind.i64.wrap (n1 + n6)) h)

theorem spec_l16With_M_D {g0 m0 : H} {kr_1 : Int → H → Prop} {kr_2 : Int → H → Prop} (Hkr : ∀ (n200001 : Int) (g m : H), Md g0 m0 g m [] → kr_2 n200001 m → kr_1 n200001 g) : ∀ (n1001 : Int) (sig_1002 : Int) (g m : H), Md g0 m0 g m [] → spec_l16With_M kr_2 n1001 sig_1002 m → spec_l16With kr_1 n1001 sig_1002 g := by
  intro n1001 sig_1002 g m R
  rw [spec_l16With_M, spec_l16With]
  exact (d_call R fun v1003 g m R =>
  (d_asB fun t1004 =>
  (d_if (Hkr n1001 _ _ R.sub)
  (d_call R fun v1005 g m R =>
  (d_asI fun n1006 =>
  (Hkr (IntKind.i64.wrap (n1001 + n1006)) _ _ R.sub))))))

theorem spec_l16With_M_call {n1 : Int} {sig_2 : Int} {h : H} {K : Value → H → Prop} (hs : spec_l16With_M (fun n300001 h =>
  K (.int .i64 n300001) h) n1 sig_2 h) : callD Try.prog 63 ⟨[.int .i64 n1, .int .i64 sig_2]⟩ h K :=
  fun g r => spec_l16With_call (spec_l16With_M_D (by exact fun n300001 g m R =>
(fun h => ⟨m, R.af, h⟩)) _ _ _ _ (Md.start r) hs)

noncomputable def code64 : Code := codeOf Try.f64
theorem body64 : Try.f64.body = some code64 := by kernel_rfl
def spec_l1Pow_l0 (kx0 : Int → H → Prop) : Nat → Int → Int → Int → H → Prop
 | 0, _, _, _, _ => False
 | N + 1, n2, x_3, i_4, h =>
  ifB (decide ((i_4 : Int) < n2))
  (spec_l1Pow_l0 kx0 N n2 (IntKind.u64.wrap (x_3 * 2)) (IntKind.i64.wrap (i_4 + 1)) h)
  (kx0 x_3 h)

def spec_l1Pow (kr : Int → H → Prop) (n1 : Int) (h : H) : Prop :=
  ∃ M3, spec_l1Pow_l0 (fun x_2 h =>
  kr x_2 h) M3 n1 1 0 h

theorem spec_l1Pow_l0_eq (K : Cont) (N : Nat) (n2 : Int) (x_3 : Int) (i_4 : Int) (h : H) :
  spec_l1Pow_l0 (curV [(3, .int .u64)] (K (.exit 0))) (N + 1) n2 x_3 i_4 h = evC Try.prog 13 [] [] (sub code64 [true, true, false, true, false, false]) [(0, .int .i64 n2), (3, .int .u64 x_3), (4, .int .i64 i_4)] h ((outsOf none [(0, [(3, .int .u64)])] none K).loop [(0, .int .i64), (3, .int .u64), (4, .int .i64)] (spec_l1Pow_l0 (curV [(3, .int .u64)] (K (.exit 0))) N)).K := by kernel_rfl

def spec_l1Pow_l0_F : PT := mkL [(0, .int .i64), (3, .int .u64), (4, .int .i64)] fun K N => spec_l1Pow_l0 (curV [(3, .int .u64)] (K (.exit 0))) N

theorem spec_l1Pow_l0_V : Valid Try.prog 13 (sub code64 [true, true, false, true, false]) spec_l1Pow_l0_F :=
  loop_at (code64) [true, true, false, true, false] (loop_piece (c := (sub code64 [true, true, false, true, false, false])) mixed rows_nil (fun K => by intro n2 x_3 i_4 h hd; exact hd) (fun K N => by intro n2 x_3 i_4 h hd; exact (spec_l1Pow_l0_eq K N n2 x_3 i_4 h) ▸ hd))

theorem spec_l1Pow_eq (K : Cont) (n1 : Int) (h : H) :
  spec_l1Pow (curV [(2, .int .u64)] (K .ret)) n1 h = evC Try.prog 13 [([false, false, true, false, true, true], spec_l1Pow_l0_F)] [] code64 [(0, .int .i64 n1)] h (outsOf none [] (some [(2, .int .u64)]) K).K := by kernel_rfl

def spec_l1Pow_F : PT := mkF [(0, .int .i64)] fun K => spec_l1Pow (curV [(2, .int .u64)] (K .ret))

theorem spec_l1Pow_V : Valid Try.prog 13 code64 spec_l1Pow_F :=
  piece mixed (rows_cons (q' := [true, true, false, true, false]) spec_l1Pow_l0_V rfl rows_nil) (fun K => by intro n1 h hd; exact (spec_l1Pow_eq K n1 h) ▸ hd)

theorem spec_l1Pow_c0 (n1 : Int) (h : H) (K : Value → H → Prop) :
  spec_l1Pow (fun n100001 h =>
  K (.int .u64 n100001) h) n1 h = callF Try.prog Try.f64.results.toList spec_l1Pow_F [.int .i64 n1] h K := by kernel_rfl

theorem spec_l1Pow_call {n1 : Int} {h : H} {K : Value → H → Prop} (hs : spec_l1Pow (fun n100001 h =>
  K (.int .u64 n100001) h) n1 h) : callK Try.prog 64 ⟨[.int .i64 n1]⟩ h K :=
  func_calls Try.func64 body64 spec_l1Pow_V (Nat.le_of_ble_eq_true (by kernel_rfl)) (spec_l1Pow_c0 n1 h K ▸ hs)

def spec_l1Pow_M_l0 (kx0 : Int → H → Prop) : Nat → Int → Int → Int → H → Prop
 | 0, _, _, _, _ => False
 | N + 1, n2, x_3, i_4, h =>
  ifB (decide ((i_4 : Int) < n2))
  (spec_l1Pow_M_l0 kx0 N n2 (IntKind.u64.wrap (x_3 * 2)) (IntKind.i64.wrap (i_4 + 1)) h)
  (kx0 x_3 h)

def spec_l1Pow_M (kr : Int → H → Prop) (n1 : Int) (h : H) : Prop :=
  ∃ M3, spec_l1Pow_M_l0 (fun x_2 h =>
  kr x_2 h) M3 n1 1 0 h

theorem spec_l1Pow_M_l0_D {g0 m0 : H} {kx0_1 : Int → H → Prop} {kx0_2 : Int → H → Prop} (Hkx0 : ∀ (x_200001 : Int) (g m : H), Md g0 m0 g m [] → kx0_2 x_200001 m → kx0_1 x_200001 g) : ∀ (N : Nat) (n1002 : Int) (x_1003 : Int) (i_1004 : Int) (g m : H), Md g0 m0 g m [] → spec_l1Pow_M_l0 kx0_2 N n1002 x_1003 i_1004 m → spec_l1Pow_l0 kx0_1 N n1002 x_1003 i_1004 g := by
  intro N
  induction N with
  | zero => intro n1002 x_1003 i_1004 g m R h0; exact h0.elim
  | succ N ih =>
    intro n1002 x_1003 i_1004 g m R
    rw [spec_l1Pow_M_l0, spec_l1Pow_l0]
    exact (d_if (ih n1002 (IntKind.u64.wrap (x_1003 * 2)) (IntKind.i64.wrap (i_1004 + 1)) _ _ R.sub)
  (Hkx0 x_1003 _ _ R.sub))

theorem spec_l1Pow_M_D {g0 m0 : H} {kr_1 : Int → H → Prop} {kr_2 : Int → H → Prop} (Hkr : ∀ (n200001 : Int) (g m : H), Md g0 m0 g m [] → kr_2 n200001 m → kr_1 n200001 g) : ∀ (n1001 : Int) (g m : H), Md g0 m0 g m [] → spec_l1Pow_M kr_2 n1001 m → spec_l1Pow kr_1 n1001 g := by
  intro n1001 g m R
  rw [spec_l1Pow_M, spec_l1Pow]
  exact (d_ex fun N => spec_l1Pow_M_l0_D (by exact fun x_1002 g m R =>
  (Hkr x_1002 _ _ R.sub)) N n1001 1 0 _ _ R.sub)

theorem spec_l1Pow_M_call {n1 : Int} {h : H} {K : Value → H → Prop} (hs : spec_l1Pow_M (fun n300001 h =>
  K (.int .u64 n300001) h) n1 h) : callD Try.prog 64 ⟨[.int .i64 n1]⟩ h K :=
  fun g r => spec_l1Pow_call (spec_l1Pow_M_D (by exact fun n300001 g m R =>
(fun h => ⟨m, R.af, h⟩)) _ _ _ (Md.start r) hs)

end Go.Proofs.Ytgcjjapmdbgofaa
