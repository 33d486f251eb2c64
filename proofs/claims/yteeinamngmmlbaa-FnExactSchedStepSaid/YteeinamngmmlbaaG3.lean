import Derived.Test.YteeinamngmmlbaaProg
import Derived.Test.YteeinamngmmlbaaG2
set_option linter.unusedVariables false
set_option maxRecDepth 100000
namespace Go.Proofs.Yteeinamngmmlbaa
open Go.Eng

noncomputable def code29 : Code := codeOf Try.f29
theorem body29 : Try.f29.body = some code29 := by kernel_rfl
def spec_l11Thread_l0 (kx0 : H → Prop) (kr : Int → H → Prop) : Nat → Int → Nat → Int → H → Prop
 | 0, _, _, _, _ => False
 | N + 1, id_7, s_8, i_9, h =>
  ldL h s_8 2 fun a10 l10 c10 =>
  ifB (decide ((i_9 : Int) < (l10 : Nat)))
  (ldL h s_8 2 fun a11 l11 c11 =>
  req (0 ≤ (i_9 : Int) ∧ (i_9 : Int) < (l11 : Nat))
  (nz a11 fun b12 o13 =>
  ldI .i64 h b12 (o13 + i_9.toNat * 8) fun n14 =>
  ifB ((n14 : Int) == id_7)
  (kr i_9 h)
  (spec_l11Thread_l0 kx0 kr N id_7 s_8 (IntKind.i64.wrap (i_9 + 1)) h)))
  (kx0 h)

def spec_l11Thread (kr : Int → H → Prop) (s_1 : Int) (s_2 : Int) (s_3 : Option Addr) (s_l3 : Nat) (s_c3 : Nat) (s_4 : Option Addr) (s_l4 : Nat) (s_c4 : Nat) (id_5 : Int) (h : H) : Prop :=
  new h [.int .i64 s_1, .int .i64 s_2, .slice s_3 s_l3 s_c3, .slice s_4 s_l4 s_c4] 32 fun b6 h =>
  ∃ M7, spec_l11Thread_l0 (fun h =>
  kr (-1) h) kr M7 id_5 b6 0 h

theorem spec_l11Thread_l0_eq (K : Cont) (N : Nat) (id_7 : Int) (s_8 : Nat) (i_9 : Int) (h : H) :
  spec_l11Thread_l0 (curV [] (K (.exit 0))) (curV [(4, .int .i64)] (K .ret)) (N + 1) id_7 s_8 i_9 h = evC Try.prog 22 [] [] (sub code29 [true, false, true, false, false]) [(1, .int .i64 id_7), (2, .pointer (some ⟨s_8, 0, none⟩)), (5, .int .i64 i_9)] h ((outsOf none [(0, [])] (some [(4, .int .i64)]) K).loop [(1, .int .i64), (2, .blk), (5, .int .i64)] (spec_l11Thread_l0 (curV [] (K (.exit 0))) (curV [(4, .int .i64)] (K .ret)) N)).K := by kernel_rfl

def spec_l11Thread_l0_F : PT := mkL [(1, .int .i64), (2, .blk), (5, .int .i64)] fun K N => spec_l11Thread_l0 (curV [] (K (.exit 0))) (curV [(4, .int .i64)] (K .ret)) N

theorem spec_l11Thread_l0_V : Valid Try.prog 22 (sub code29 [true, false, true, false]) spec_l11Thread_l0_F :=
  loop_at (code29) [true, false, true, false] (loop_piece (c := (sub code29 [true, false, true, false, false])) mixed rows_nil (fun K => by intro id_7 s_8 i_9 h hd; exact hd) (fun K N => by intro id_7 s_8 i_9 h hd; exact (spec_l11Thread_l0_eq K N id_7 s_8 i_9 h) ▸ hd))

theorem spec_l11Thread_eq (K : Cont) (s_1 : Int) (s_2 : Int) (s_3 : Option Addr) (s_l3 : Nat) (s_c3 : Nat) (s_4 : Option Addr) (s_l4 : Nat) (s_c4 : Nat) (id_5 : Int) (h : H) :
  spec_l11Thread (curV [(4, .int .i64)] (K .ret)) s_1 s_2 s_3 s_l3 s_c3 s_4 s_l4 s_c4 id_5 h = evC Try.prog 22 [([false, false, true, false, true], spec_l11Thread_l0_F)] [] code29 [(0, .agg ⟨[.int .i64 s_1, .int .i64 s_2, .slice s_3 s_l3 s_c3, .slice s_4 s_l4 s_c4]⟩), (1, .int .i64 id_5)] h (outsOf none [] (some [(4, .int .i64)]) K).K := by kernel_rfl

def spec_l11Thread_F : PT := mkF [(0, .agg [.int .i64, .int .i64, .slice, .slice]), (1, .int .i64)] fun K => spec_l11Thread (curV [(4, .int .i64)] (K .ret))

theorem spec_l11Thread_V : Valid Try.prog 22 code29 spec_l11Thread_F :=
  piece mixed (rows_cons (q' := [true, false, true, false]) spec_l11Thread_l0_V rfl rows_nil) (fun K => by intro s_1 s_2 s_3 s_l3 s_c3 s_4 s_l4 s_c4 id_5 h hd; exact (spec_l11Thread_eq K s_1 s_2 s_3 s_l3 s_c3 s_4 s_l4 s_c4 id_5 h) ▸ hd)

theorem spec_l11Thread_c0 (s_1 : Int) (s_2 : Int) (s_3 : Option Addr) (s_l3 : Nat) (s_c3 : Nat) (s_4 : Option Addr) (s_l4 : Nat) (s_c4 : Nat) (id_5 : Int) (h : H) (K : Value → H → Prop) :
  spec_l11Thread (fun n100001 h =>
  K (.int .i64 n100001) h) s_1 s_2 s_3 s_l3 s_c3 s_4 s_l4 s_c4 id_5 h = callF Try.prog Try.f29.results.toList spec_l11Thread_F [.agg ⟨[.int .i64 s_1, .int .i64 s_2, .slice s_3 s_l3 s_c3, .slice s_4 s_l4 s_c4]⟩, .int .i64 id_5] h K := by kernel_rfl

theorem spec_l11Thread_call {s_1 : Int} {s_2 : Int} {s_3 : Option Addr} {s_l3 : Nat} {s_c3 : Nat} {s_4 : Option Addr} {s_l4 : Nat} {s_c4 : Nat} {id_5 : Int} {h : H} {K : Value → H → Prop} (hs : spec_l11Thread (fun n100001 h =>
  K (.int .i64 n100001) h) s_1 s_2 s_3 s_l3 s_c3 s_4 s_l4 s_c4 id_5 h) : callK Try.prog 29 ⟨[.agg ⟨[.int .i64 s_1, .int .i64 s_2, .slice s_3 s_l3 s_c3, .slice s_4 s_l4 s_c4]⟩, .int .i64 id_5]⟩ h K :=
  func_calls Try.func29 body29 spec_l11Thread_V (Nat.le_of_ble_eq_true (by kernel_rfl)) (spec_l11Thread_c0 s_1 s_2 s_3 s_l3 s_c3 s_4 s_l4 s_c4 id_5 h K ▸ hs)

def spec_l11Thread_M_l0 (kx0 : H → Prop) (kr : Int → H → Prop) : Nat → Int → Int → Option Addr → Nat → H → Prop
 | 0, _, _, _, _, _ => False
 | N + 1, id_6, i_7, a10, l10, h =>
  ifB (decide ((i_7 : Int) < (l10 : Nat)))
  (req (0 ≤ (i_7 : Int) ∧ (i_7 : Int) < (l10 : Nat))
  (nz a10 fun b13 o14 =>
  ldI .i64 h b13 (o14 + i_7.toNat * 8) fun n15 =>
  ifB ((n15 : Int) == id_6)
  (kr i_7 h)
  (spec_l11Thread_M_l0 kx0 kr N id_6 (IntKind.i64.wrap (i_7 + 1)) a10 l10 h)))
  (kx0 h)

def spec_l11Thread_M (kr : Int → H → Prop) (s_1 : Int) (s_2 : Int) (s_3 : Option Addr) (s_l3 : Nat) (s_c3 : Nat) (s_4 : Option Addr) (s_l4 : Nat) (s_c4 : Nat) (id_5 : Int) (h : H) : Prop :=
  ∃ M6, spec_l11Thread_M_l0 (fun h =>
  kr (-1) h) kr M6 id_5 0 s_3 s_l3 h

theorem spec_l11Thread_M_l0_D {g0 m0 : H} {kx0_1 : H → Prop} {kx0_2 : H → Prop} (Hkx0 : ∀ (g m : H), Md g0 m0 g m [] → kx0_2 m → kx0_1 g)
  {kr_1 : Int → H → Prop} {kr_2 : Int → H → Prop} (Hkr : ∀ (n200001 : Int) (g m : H), Md g0 m0 g m [] → kr_2 n200001 m → kr_1 n200001 g) : ∀ (N : Nat) (id_1006 : Int) (i_1007 : Int) (n1008 : Int) (n1009 : Int) (a1010 : Option Addr) (l1010 : Nat) (c1010 : Nat) (a1011 : Option Addr) (l1011 : Nat) (c1011 : Nat) (p1012 : Nat) (g m : H), Md g0 m0 g m [lo p1012 [.int .i64 n1008, .int .i64 n1009, .slice a1010 l1010 c1010, .slice a1011 l1011 c1011]] → spec_l11Thread_M_l0 kx0_2 kr_2 N id_1006 i_1007 a1010 l1010 m → spec_l11Thread_l0 kx0_1 kr_1 N id_1006 p1012 i_1007 g := by
  intro N
  induction N with
  | zero => intro id_1006 i_1007 n1008 n1009 a1010 l1010 c1010 a1011 l1011 c1011 p1012 g m R h0; exact h0.elim
  | succ N ih =>
    intro id_1006 i_1007 n1008 n1009 a1010 l1010 c1010 a1011 l1011 c1011 p1012 g m R
    rw [spec_l11Thread_M_l0, spec_l11Thread_l0]
    exact (p_ldL R rfl (d_if (p_ldL R rfl (d_req (d_nz fun b1013 o1014 =>
  (d_ldI R fun n1015 =>
  (d_if (Hkr i_1007 _ _ R.sub)
  (ih id_1006 (IntKind.i64.wrap (i_1007 + 1)) n1008 n1009 a1010 l1010 c1010 a1011 l1011 c1011 p1012 _ _ R.sub))))))
  (Hkx0 _ _ R.sub)))

theorem spec_l11Thread_M_D {g0 m0 : H} {kr_1 : Int → H → Prop} {kr_2 : Int → H → Prop} (Hkr : ∀ (n200001 : Int) (g m : H), Md g0 m0 g m [] → kr_2 n200001 m → kr_1 n200001 g) : ∀ (s_1001 : Int) (s_1002 : Int) (s_1003 : Option Addr) (s_l1003 : Nat) (s_c1003 : Nat) (s_1004 : Option Addr) (s_l1004 : Nat) (s_c1004 : Nat) (id_1005 : Int) (g m : H), Md g0 m0 g m [] → spec_l11Thread_M kr_2 s_1001 s_1002 s_1003 s_l1003 s_c1003 s_1004 s_l1004 s_c1004 id_1005 m → spec_l11Thread kr_1 s_1001 s_1002 s_1003 s_l1003 s_c1003 s_1004 s_l1004 s_c1004 id_1005 g := by
  intro s_1001 s_1002 s_1003 s_l1003 s_c1003 s_1004 s_l1004 s_c1004 id_1005 g m R
  rw [spec_l11Thread_M, spec_l11Thread]
  exact (p_new R fun p1006 g R =>
  (d_ex fun N => spec_l11Thread_M_l0_D (by exact fun g m R =>
  (Hkr (-1) _ _ R.sub))
  (by exact fun n1007 g m R =>
  (Hkr n1007 _ _ R.sub)) N id_1005 0 s_1001 s_1002 s_1003 s_l1003 s_c1003 s_1004 s_l1004 s_c1004 p1006 _ _ R.sub))

theorem spec_l11Thread_M_call {s_1 : Int} {s_2 : Int} {s_3 : Option Addr} {s_l3 : Nat} {s_c3 : Nat} {s_4 : Option Addr} {s_l4 : Nat} {s_c4 : Nat} {id_5 : Int} {h : H} {K : Value → H → Prop} (hs : spec_l11Thread_M (fun n300001 h =>
  K (.int .i64 n300001) h) s_1 s_2 s_3 s_l3 s_c3 s_4 s_l4 s_c4 id_5 h) : callD Try.prog 29 ⟨[.agg ⟨[.int .i64 s_1, .int .i64 s_2, .slice s_3 s_l3 s_c3, .slice s_4 s_l4 s_c4]⟩, .int .i64 id_5]⟩ h K :=
  fun g r => spec_l11Thread_call (spec_l11Thread_M_D (by exact fun n300001 g m R =>
(fun h => ⟨m, R.af, h⟩)) _ _ _ _ _ _ _ _ _ _ _ (Md.start r) hs)

noncomputable def code30 : Code := codeOf Try.f30
theorem body30 : Try.f30.body = some code30 := by kernel_rfl
def spec_l11ThreadOk (kr : Bool → H → Prop) (n1 : Int) (n2 : Int) (a3 : Option Addr) (l3 : Nat) (c3 : Nat) (a4 : Option Addr) (l4 : Nat) (c4 : Nat) (n5 : Int) (n6 : Int) (n7 : Int) (n8 : Int) (n9 : Int) (n10 : Int) (n11 : Int) (n12 : Int) (h : H) : Prop :=
  new h [.int .i64 n1, .int .i64 n2, .slice a3 l3 c3, .slice a4 l4 c4] 32 fun b13 h =>
  new h [.int .i64 n5, .int .i64 n6, .int .i64 n7, .int .i64 n8, .int .i64 n9, .int .i64 n10, .int .i64 n11, .int .i64 n12] 60 fun b14 h =>
  ldI .i64 h b14 0 fun n15 =>
  ifB (decide ((n15 : Int) < 0))
  (kr false h)
  (ldI .i64 h b14 0 fun n16 =>
  ifB (decide ((n16 : Int) ≥ 32))
  (kr false h)
  (ldI .i64 h b14 1 fun n17 =>
  ifB (decide ((n17 : Int) < 0))
  (kr false h)
  (ldI .i64 h b14 1 fun n18 =>
  ifB (decide ((n18 : Int) > 7))
  (kr false h)
  (ldI .i64 h b14 3 fun n19 =>
  ifB (decide ((n19 : Int) < 1))
  (kr false h)
  (ldI .i64 h b14 3 fun n20 =>
  ldI .i64 h b13 1 fun n21 =>
  ifB (decide ((n20 : Int) > n21))
  (kr false h)
  (ldI .i64 h b14 4 fun n22 =>
  ifB (decide ((n22 : Int) < 1))
  (kr false h)
  (ldI .i64 h b14 4 fun n23 =>
  ifB (decide ((n23 : Int) > 4))
  (kr false h)
  (ldI .i64 h b14 5 fun n24 =>
  ifB (decide ((n24 : Int) < 0))
  (kr false h)
  (ldI .i64 h b14 5 fun n25 =>
  ldI .i64 h b13 0 fun n26 =>
  ifB (decide ((n25 : Int) > n26))
  (kr false h)
  (ldI .i64 h b14 2 fun n27 =>
  ifB ((n27 : Int) == 1)
  (ldI .i64 h b14 7 fun n28 =>
  ifB ((n28 : Int) == (-1))
  (ldI .i64 h b14 6 fun n29 =>
  kr ((n29 : Int) == 0) h)
  (kr false h))
  (ifB ((n27 : Int) == 2)
  (ldRow h b13 0 0 [.int .i64, .int .i64, .slice, .slice] fun n30 n31 a32 l32 c32 a33 l33 c33 =>
  ldI .i64 h b14 7 fun n34 =>
  callK Try.prog 48 ⟨[.agg ⟨[.int .i64 n30, .int .i64 n31, .slice a32 l32 c32, .slice a33 l33 c33]⟩, .int .i64 n34]⟩ h fun v35 h =>
  asI .i64 v35 fun n36 =>
  ifB (decide ((n36 : Int) ≥ 0))
  (ldI .i64 h b14 6 fun n37 =>
  kr ((n37 : Int) == 0) h)
  (kr false h))
  (ldI .i64 h b14 2 fun n38 =>
  ifB ((n38 : Int) == 3)
  (ldI .i64 h b14 7 fun n39 =>
  ifB ((n39 : Int) == (-1))
  (ldI .i64 h b14 6 fun n40 =>
  kr (decide ((n40 : Int) > 0)) h)
  (kr false h))
  (kr false h)))))))))))))

theorem spec_l11ThreadOk_eq (K : Cont) (n1 : Int) (n2 : Int) (a3 : Option Addr) (l3 : Nat) (c3 : Nat) (a4 : Option Addr) (l4 : Nat) (c4 : Nat) (n5 : Int) (n6 : Int) (n7 : Int) (n8 : Int) (n9 : Int) (n10 : Int) (n11 : Int) (n12 : Int) (h : H) :
  spec_l11ThreadOk (curV [(4, .bool)] (K .ret)) n1 n2 a3 l3 c3 a4 l4 c4 n5 n6 n7 n8 n9 n10 n11 n12 h = evC Try.prog 94 [] [] code30 [(0, .agg ⟨[.int .i64 n1, .int .i64 n2, .slice a3 l3 c3, .slice a4 l4 c4]⟩), (1, .agg ⟨[.int .i64 n5, .int .i64 n6, .int .i64 n7, .int .i64 n8, .int .i64 n9, .int .i64 n10, .int .i64 n11, .int .i64 n12]⟩)] h (outsOf none [] (some [(4, .bool)]) K).K := by kernel_rfl

def spec_l11ThreadOk_F : PT := mkF [(0, .agg [.int .i64, .int .i64, .slice, .slice]), (1, .agg [.int .i64, .int .i64, .int .i64, .int .i64, .int .i64, .int .i64, .int .i64, .int .i64])] fun K => spec_l11ThreadOk (curV [(4, .bool)] (K .ret))

theorem spec_l11ThreadOk_V : Valid Try.prog 94 code30 spec_l11ThreadOk_F :=
  piece mixed rows_nil (fun K => by intro n1 n2 a3 l3 c3 a4 l4 c4 n5 n6 n7 n8 n9 n10 n11 n12 h hd; exact (spec_l11ThreadOk_eq K n1 n2 a3 l3 c3 a4 l4 c4 n5 n6 n7 n8 n9 n10 n11 n12 h) ▸ hd)

theorem spec_l11ThreadOk_c0 (n1 : Int) (n2 : Int) (a3 : Option Addr) (l3 : Nat) (c3 : Nat) (a4 : Option Addr) (l4 : Nat) (c4 : Nat) (n5 : Int) (n6 : Int) (n7 : Int) (n8 : Int) (n9 : Int) (n10 : Int) (n11 : Int) (n12 : Int) (h : H) (K : Value → H → Prop) :
  spec_l11ThreadOk (fun t100001 h =>
  K (.bool t100001) h) n1 n2 a3 l3 c3 a4 l4 c4 n5 n6 n7 n8 n9 n10 n11 n12 h = callF Try.prog Try.f30.results.toList spec_l11ThreadOk_F [.agg ⟨[.int .i64 n1, .int .i64 n2, .slice a3 l3 c3, .slice a4 l4 c4]⟩, .agg ⟨[.int .i64 n5, .int .i64 n6, .int .i64 n7, .int .i64 n8, .int .i64 n9, .int .i64 n10, .int .i64 n11, .int .i64 n12]⟩] h K := by kernel_rfl

theorem spec_l11ThreadOk_call {n1 : Int} {n2 : Int} {a3 : Option Addr} {l3 : Nat} {c3 : Nat} {a4 : Option Addr} {l4 : Nat} {c4 : Nat} {n5 : Int} {n6 : Int} {n7 : Int} {n8 : Int} {n9 : Int} {n10 : Int} {n11 : Int} {n12 : Int} {h : H} {K : Value → H → Prop} (hs : spec_l11ThreadOk (fun t100001 h =>
  K (.bool t100001) h) n1 n2 a3 l3 c3 a4 l4 c4 n5 n6 n7 n8 n9 n10 n11 n12 h) : callK Try.prog 30 ⟨[.agg ⟨[.int .i64 n1, .int .i64 n2, .slice a3 l3 c3, .slice a4 l4 c4]⟩, .agg ⟨[.int .i64 n5, .int .i64 n6, .int .i64 n7, .int .i64 n8, .int .i64 n9, .int .i64 n10, .int .i64 n11, .int .i64 n12]⟩]⟩ h K :=
  func_calls Try.func30 body30 spec_l11ThreadOk_V (Nat.le_of_ble_eq_true (by kernel_rfl)) (spec_l11ThreadOk_c0 n1 n2 a3 l3 c3 a4 l4 c4 n5 n6 n7 n8 n9 n10 n11 n12 h K ▸ hs)

def spec_l11ThreadOk_M (kr : Bool → H → Prop) (n1 : Int) (n2 : Int) (a3 : Option Addr) (l3 : Nat) (c3 : Nat) (a4 : Option Addr) (l4 : Nat) (c4 : Nat) (n5 : Int) (n6 : Int) (n7 : Int) (n8 : Int) (n9 : Int) (n10 : Int) (n11 : Int) (n12 : Int) (h : H) : Prop :=
  ifB (decide ((n5 : Int) < 0))
  (kr false h)
  (ifB (decide ((n5 : Int) ≥ 32))
  (kr false h)
  (ifB (decide ((n6 : Int) < 0))
  (kr false h)
  (ifB (decide ((n6 : Int) > 7))
  (kr false h)
  (ifB (decide ((n8 : Int) < 1))
  (kr false h)
  (ifB (decide ((n8 : Int) > n2))
  (kr false h)
  (ifB (decide ((n9 : Int) < 1))
  (kr false h)
  (ifB (decide ((n9 : Int) > 4))
  (kr false h)
  (ifB (decide ((n10 : Int) < 0))
  (kr false h)
  (ifB (decide ((n10 : Int) > n1))
  (kr false h)
  (ifB ((n7 : Int) == 1)
  (ifB ((n12 : Int) == (-1))
  (kr ((n11 : Int) == 0) h)
  (kr false h))
  (ifB ((n7 : Int) == 2)
  (callD Try.prog 48 ⟨[.agg ⟨[.int .i64 n1, .int .i64 n2, .slice a3 l3 c3, .slice a4 l4 c4]⟩, .int .i64 n12]⟩ h fun v13 h =>
  asI .i64 v13 fun n14 =>
  ifB (decide ((n14 : Int) ≥ 0))
  (kr ((n11 : Int) == 0) h)
  (kr false h))
  (ifB ((n7 : Int) == 3)
  (ifB ((n12 : Int) == (-1))
  (kr (decide ((n11 : Int) > 0)) h)
  (kr false h))
  (kr false h)))))))))))))

theorem spec_l11ThreadOk_M_D {g0 m0 : H} {kr_1 : Bool → H → Prop} {kr_2 : Bool → H → Prop} (Hkr : ∀ (t200001 : Bool) (g m : H), Md g0 m0 g m [] → kr_2 t200001 m → kr_1 t200001 g) : ∀ (n1001 : Int) (n1002 : Int) (a1003 : Option Addr) (l1003 : Nat) (c1003 : Nat) (a1004 : Option Addr) (l1004 : Nat) (c1004 : Nat) (n1005 : Int) (n1006 : Int) (n1007 : Int) (n1008 : Int) (n1009 : Int) (n1010 : Int) (n1011 : Int) (n1012 : Int) (g m : H), Md g0 m0 g m [] → spec_l11ThreadOk_M kr_2 n1001 n1002 a1003 l1003 c1003 a1004 l1004 c1004 n1005 n1006 n1007 n1008 n1009 n1010 n1011 n1012 m → spec_l11ThreadOk kr_1 n1001 n1002 a1003 l1003 c1003 a1004 l1004 c1004 n1005 n1006 n1007 n1008 n1009 n1010 n1011 n1012 g := by
  intro n1001 n1002 a1003 l1003 c1003 a1004 l1004 c1004 n1005 n1006 n1007 n1008 n1009 n1010 n1011 n1012 g m R
  rw [spec_l11ThreadOk_M, spec_l11ThreadOk]
  exact (p_new R fun p1013 g R =>
  (p_new R fun p1014 g R =>
  (p_ldI R rfl (d_if (Hkr false _ _ R.sub)
  (p_ldI R rfl (d_if (Hkr false _ _ R.sub)
  (p_ldI R rfl (d_if (Hkr false _ _ R.sub)
  (p_ldI R rfl (d_if (Hkr false _ _ R.sub)
  (p_ldI R rfl (d_if (Hkr false _ _ R.sub)
  (p_ldI R rfl (p_ldI R rfl (d_if (Hkr false _ _ R.sub)
  (p_ldI R rfl (d_if (Hkr false _ _ R.sub)
  (p_ldI R rfl (d_if (Hkr false _ _ R.sub)
  (p_ldI R rfl (d_if (Hkr false _ _ R.sub)
  (p_ldI R rfl (p_ldI R rfl (d_if (Hkr false _ _ R.sub)
  (p_ldI R rfl (d_if (p_ldI R rfl (d_if (p_ldI R rfl (Hkr ((n1011 : Int) == 0) _ _ R.sub))
  (Hkr false _ _ R.sub)))
  (d_if (p_row_I2L2 R rfl rfl rfl rfl (p_ldI R rfl (d_call R fun v1015 g m R =>
  (d_asI fun n1016 =>
  (d_if (p_ldI R rfl (Hkr ((n1011 : Int) == 0) _ _ R.sub))
  (Hkr false _ _ R.sub))))))
  (p_ldI R rfl (d_if (p_ldI R rfl (d_if (p_ldI R rfl (Hkr (decide ((n1011 : Int) > 0)) _ _ R.sub))
  (Hkr false _ _ R.sub)))
  (Hkr false _ _ R.sub))))))))))))))))))))))))))))))

theorem spec_l11ThreadOk_M_call {n1 : Int} {n2 : Int} {a3 : Option Addr} {l3 : Nat} {c3 : Nat} {a4 : Option Addr} {l4 : Nat} {c4 : Nat} {n5 : Int} {n6 : Int} {n7 : Int} {n8 : Int} {n9 : Int} {n10 : Int} {n11 : Int} {n12 : Int} {h : H} {K : Value → H → Prop} (hs : spec_l11ThreadOk_M (fun t300001 h =>
  K (.bool t300001) h) n1 n2 a3 l3 c3 a4 l4 c4 n5 n6 n7 n8 n9 n10 n11 n12 h) : callD Try.prog 30 ⟨[.agg ⟨[.int .i64 n1, .int .i64 n2, .slice a3 l3 c3, .slice a4 l4 c4]⟩, .agg ⟨[.int .i64 n5, .int .i64 n6, .int .i64 n7, .int .i64 n8, .int .i64 n9, .int .i64 n10, .int .i64 n11, .int .i64 n12]⟩]⟩ h K :=
  fun g r => spec_l11ThreadOk_call (spec_l11ThreadOk_M_D (by exact fun t300001 g m R =>
(fun h => ⟨m, R.af, h⟩)) _ _ _ _ _ _ _ _ _ _ _ _ _ _ _ _ _ _ (Md.start r) hs)

noncomputable def code31 : Code := codeOf Try.f31
theorem body31 : Try.f31.body = some code31 := by kernel_rfl
def spec_l11Waits_l0 (kx0 : H → Prop) (kr : Bool → H → Prop) : Nat → Int → Nat → Int → Int → H → Prop
 | 0, _, _, _, _, _ => False
 | N + 1, on_14, s_15, n16, i_17, h =>
  ldL h s_15 2 fun a18 l18 c18 =>
  ifB (decide ((i_17 : Int) ≤ (l18 : Nat)))
  (ifB (decide ((n16 : Int) ≥ 0))
  (ifB ((n16 : Int) == on_14)
  (kr true h)
  (ldRow h s_15 0 0 [.int .i64, .int .i64, .slice, .slice] fun n19 n20 a21 l21 c21 a22 l22 c22 =>
  callK Try.prog 49 ⟨[.agg ⟨[.int .i64 n19, .int .i64 n20, .slice a21 l21 c21, .slice a22 l22 c22]⟩, .int .i64 n16]⟩ h fun v23 h =>
  asI .i64 v23 fun n24 =>
  spec_l11Waits_l0 kx0 kr N on_14 s_15 n24 (IntKind.i64.wrap (i_17 + 1)) h))
  (kx0 h))
  (kx0 h)

def spec_l11Waits (kr : Bool → H → Prop) (s_1 : Int) (s_2 : Int) (s_3 : Option Addr) (s_l3 : Nat) (s_c3 : Nat) (s_4 : Option Addr) (s_l4 : Nat) (s_c4 : Nat) (id_5 : Int) (on_6 : Int) (h : H) : Prop :=
  new h [.int .i64 s_1, .int .i64 s_2, .slice s_3 s_l3 s_c3, .slice s_4 s_l4 s_c4] 32 fun b7 h =>
  ldRow h b7 0 0 [.int .i64, .int .i64, .slice, .slice] fun n8 n9 a10 l10 c10 a11 l11 c11 =>
  callK Try.prog 49 ⟨[.agg ⟨[.int .i64 n8, .int .i64 n9, .slice a10 l10 c10, .slice a11 l11 c11]⟩, .int .i64 id_5]⟩ h fun v12 h =>
  asI .i64 v12 fun n13 =>
  ∃ M14, spec_l11Waits_l0 (fun h =>
  kr false h) kr M14 on_6 b7 n13 0 h

theorem spec_l11Waits_l0_eq (K : Cont) (N : Nat) (on_14 : Int) (s_15 : Nat) (n16 : Int) (i_17 : Int) (h : H) :
  spec_l11Waits_l0 (curV [] (K (.exit 0))) (curV [(6, .bool)] (K .ret)) (N + 1) on_14 s_15 n16 i_17 h = evC Try.prog 29 [] [] (sub code31 [true, true, false, true, false, false]) [(2, .int .i64 on_14), (3, .pointer (some ⟨s_15, 0, none⟩)), (7, .int .i64 n16), (8, .int .i64 i_17)] h ((outsOf none [(0, [])] (some [(6, .bool)]) K).loop [(2, .int .i64), (3, .blk), (7, .int .i64), (8, .int .i64)] (spec_l11Waits_l0 (curV [] (K (.exit 0))) (curV [(6, .bool)] (K .ret)) N)).K := by kernel_rfl

def spec_l11Waits_l0_F : PT := mkL [(2, .int .i64), (3, .blk), (7, .int .i64), (8, .int .i64)] fun K N => spec_l11Waits_l0 (curV [] (K (.exit 0))) (curV [(6, .bool)] (K .ret)) N

theorem spec_l11Waits_l0_V : Valid Try.prog 29 (sub code31 [true, true, false, true, false]) spec_l11Waits_l0_F :=
  loop_at (code31) [true, true, false, true, false] (loop_piece (c := (sub code31 [true, true, false, true, false, false])) mixed rows_nil (fun K => by intro on_14 s_15 n16 i_17 h hd; exact hd) (fun K N => by intro on_14 s_15 n16 i_17 h hd; exact (spec_l11Waits_l0_eq K N on_14 s_15 n16 i_17 h) ▸ hd))

theorem spec_l11Waits_eq (K : Cont) (s_1 : Int) (s_2 : Int) (s_3 : Option Addr) (s_l3 : Nat) (s_c3 : Nat) (s_4 : Option Addr) (s_l4 : Nat) (s_c4 : Nat) (id_5 : Int) (on_6 : Int) (h : H) :
  spec_l11Waits (curV [(6, .bool)] (K .ret)) s_1 s_2 s_3 s_l3 s_c3 s_4 s_l4 s_c4 id_5 on_6 h = evC Try.prog 29 [([false, false, true, false, true, true], spec_l11Waits_l0_F)] [] code31 [(0, .agg ⟨[.int .i64 s_1, .int .i64 s_2, .slice s_3 s_l3 s_c3, .slice s_4 s_l4 s_c4]⟩), (1, .int .i64 id_5), (2, .int .i64 on_6)] h (outsOf none [] (some [(6, .bool)]) K).K := by kernel_rfl

def spec_l11Waits_F : PT := mkF [(0, .agg [.int .i64, .int .i64, .slice, .slice]), (1, .int .i64), (2, .int .i64)] fun K => spec_l11Waits (curV [(6, .bool)] (K .ret))

theorem spec_l11Waits_V : Valid Try.prog 29 code31 spec_l11Waits_F :=
  piece mixed (rows_cons (q' := [true, true, false, true, false]) spec_l11Waits_l0_V rfl rows_nil) (fun K => by intro s_1 s_2 s_3 s_l3 s_c3 s_4 s_l4 s_c4 id_5 on_6 h hd; exact (spec_l11Waits_eq K s_1 s_2 s_3 s_l3 s_c3 s_4 s_l4 s_c4 id_5 on_6 h) ▸ hd)

theorem spec_l11Waits_c0 (s_1 : Int) (s_2 : Int) (s_3 : Option Addr) (s_l3 : Nat) (s_c3 : Nat) (s_4 : Option Addr) (s_l4 : Nat) (s_c4 : Nat) (id_5 : Int) (on_6 : Int) (h : H) (K : Value → H → Prop) :
  spec_l11Waits (fun t100001 h =>
  K (.bool t100001) h) s_1 s_2 s_3 s_l3 s_c3 s_4 s_l4 s_c4 id_5 on_6 h = callF Try.prog Try.f31.results.toList spec_l11Waits_F [.agg ⟨[.int .i64 s_1, .int .i64 s_2, .slice s_3 s_l3 s_c3, .slice s_4 s_l4 s_c4]⟩, .int .i64 id_5, .int .i64 on_6] h K := by kernel_rfl

theorem spec_l11Waits_call {s_1 : Int} {s_2 : Int} {s_3 : Option Addr} {s_l3 : Nat} {s_c3 : Nat} {s_4 : Option Addr} {s_l4 : Nat} {s_c4 : Nat} {id_5 : Int} {on_6 : Int} {h : H} {K : Value → H → Prop} (hs : spec_l11Waits (fun t100001 h =>
  K (.bool t100001) h) s_1 s_2 s_3 s_l3 s_c3 s_4 s_l4 s_c4 id_5 on_6 h) : callK Try.prog 31 ⟨[.agg ⟨[.int .i64 s_1, .int .i64 s_2, .slice s_3 s_l3 s_c3, .slice s_4 s_l4 s_c4]⟩, .int .i64 id_5, .int .i64 on_6]⟩ h K :=
  func_calls Try.func31 body31 spec_l11Waits_V (Nat.le_of_ble_eq_true (by kernel_rfl)) (spec_l11Waits_c0 s_1 s_2 s_3 s_l3 s_c3 s_4 s_l4 s_c4 id_5 on_6 h K ▸ hs)

def spec_l11Waits_M_l0 (kx0 : H → Prop) (kr : Bool → H → Prop) : Nat → Int → Int → Int → Int → Int → Option Addr → Nat → Nat → Option Addr → Nat → Nat → H → Prop
 | 0, _, _, _, _, _, _, _, _, _, _, _, _ => False
 | N + 1, on_9, n10, i_11, n12, n13, a14, l14, c14, a15, l15, c15, h =>
  ifB (decide ((i_11 : Int) ≤ (l14 : Nat)))
  (ifB (decide ((n10 : Int) ≥ 0))
  (ifB ((n10 : Int) == on_9)
  (kr true h)
  (callD Try.prog 49 ⟨[.agg ⟨[.int .i64 n12, .int .i64 n13, .slice a14 l14 c14, .slice a15 l15 c15]⟩, .int .i64 n10]⟩ h fun v17 h =>
  asI .i64 v17 fun n18 =>
  spec_l11Waits_M_l0 kx0 kr N on_9 n18 (IntKind.i64.wrap (i_11 + 1)) n12 n13 a14 l14 c14 a15 l15 c15 h))
  (kx0 h))
  (kx0 h)

def spec_l11Waits_M (kr : Bool → H → Prop) (s_1 : Int) (s_2 : Int) (s_3 : Option Addr) (s_l3 : Nat) (s_c3 : Nat) (s_4 : Option Addr) (s_l4 : Nat) (s_c4 : Nat) (id_5 : Int) (on_6 : Int) (h : H) : Prop :=
  callD Try.prog 49 ⟨[.agg ⟨[.int .i64 s_1, .int .i64 s_2, .slice s_3 s_l3 s_c3, .slice s_4 s_l4 s_c4]⟩, .int .i64 id_5]⟩ h fun v7 h =>
  asI .i64 v7 fun n8 =>
  ∃ M9, spec_l11Waits_M_l0 (fun h =>
  kr false h) kr M9 on_6 n8 0 s_1 s_2 s_3 s_l3 s_c3 s_4 s_l4 s_c4 h

theorem spec_l11Waits_M_l0_D {g0 m0 : H} {kx0_1 : H → Prop} {kx0_2 : H → Prop} (Hkx0 : ∀ (g m : H), Md g0 m0 g m [] → kx0_2 m → kx0_1 g)
  {kr_1 : Bool → H → Prop} {kr_2 : Bool → H → Prop} (Hkr : ∀ (t200001 : Bool) (g m : H), Md g0 m0 g m [] → kr_2 t200001 m → kr_1 t200001 g) : ∀ (N : Nat) (on_1009 : Int) (n1010 : Int) (i_1011 : Int) (n1012 : Int) (n1013 : Int) (a1014 : Option Addr) (l1014 : Nat) (c1014 : Nat) (a1015 : Option Addr) (l1015 : Nat) (c1015 : Nat) (p1016 : Nat) (g m : H), Md g0 m0 g m [lo p1016 [.int .i64 n1012, .int .i64 n1013, .slice a1014 l1014 c1014, .slice a1015 l1015 c1015]] → spec_l11Waits_M_l0 kx0_2 kr_2 N on_1009 n1010 i_1011 n1012 n1013 a1014 l1014 c1014 a1015 l1015 c1015 m → spec_l11Waits_l0 kx0_1 kr_1 N on_1009 p1016 n1010 i_1011 g := by
  intro N
  induction N with
  | zero => intro on_1009 n1010 i_1011 n1012 n1013 a1014 l1014 c1014 a1015 l1015 c1015 p1016 g m R h0; exact h0.elim
  | succ N ih =>
    intro on_1009 n1010 i_1011 n1012 n1013 a1014 l1014 c1014 a1015 l1015 c1015 p1016 g m R
    rw [spec_l11Waits_M_l0, spec_l11Waits_l0]
    exact (p_ldL R rfl (d_if (d_if (d_if (Hkr true _ _ R.sub)
  (p_row_I2L2 R rfl rfl rfl rfl (d_call R fun v1017 g m R =>
  (d_asI fun n1018 =>
  (ih on_1009 n1018 (IntKind.i64.wrap (i_1011 + 1)) n1012 n1013 a1014 l1014 c1014 a1015 l1015 c1015 p1016 _ _ R.sub)))))
  (Hkx0 _ _ R.sub))
  (Hkx0 _ _ R.sub)))

theorem spec_l11Waits_M_D {g0 m0 : H} {kr_1 : Bool → H → Prop} {kr_2 : Bool → H → Prop} (Hkr : ∀ (t200001 : Bool) (g m : H), Md g0 m0 g m [] → kr_2 t200001 m → kr_1 t200001 g) : ∀ (s_1001 : Int) (s_1002 : Int) (s_1003 : Option Addr) (s_l1003 : Nat) (s_c1003 : Nat) (s_1004 : Option Addr) (s_l1004 : Nat) (s_c1004 : Nat) (id_1005 : Int) (on_1006 : Int) (g m : H), Md g0 m0 g m [] → spec_l11Waits_M kr_2 s_1001 s_1002 s_1003 s_l1003 s_c1003 s_1004 s_l1004 s_c1004 id_1005 on_1006 m → spec_l11Waits kr_1 s_1001 s_1002 s_1003 s_l1003 s_c1003 s_1004 s_l1004 s_c1004 id_1005 on_1006 g := by
  intro s_1001 s_1002 s_1003 s_l1003 s_c1003 s_1004 s_l1004 s_c1004 id_1005 on_1006 g m R
  rw [spec_l11Waits_M, spec_l11Waits]
  exact (p_new R fun p1007 g R =>
  (p_row_I2L2 R rfl rfl rfl rfl (d_call R fun v1008 g m R =>
  (d_asI fun n1009 =>
  (d_ex fun N => spec_l11Waits_M_l0_D (by exact fun g m R =>
  (Hkr false _ _ R.sub))
  (by exact fun t1010 g m R =>
  (Hkr t1010 _ _ R.sub)) N on_1006 n1009 0 s_1001 s_1002 s_1003 s_l1003 s_c1003 s_1004 s_l1004 s_c1004 p1007 _ _ R.sub)))))

theorem spec_l11Waits_M_call {s_1 : Int} {s_2 : Int} {s_3 : Option Addr} {s_l3 : Nat} {s_c3 : Nat} {s_4 : Option Addr} {s_l4 : Nat} {s_c4 : Nat} {id_5 : Int} {on_6 : Int} {h : H} {K : Value → H → Prop} (hs : spec_l11Waits_M (fun t300001 h =>
  K (.bool t300001) h) s_1 s_2 s_3 s_l3 s_c3 s_4 s_l4 s_c4 id_5 on_6 h) : callD Try.prog 31 ⟨[.agg ⟨[.int .i64 s_1, .int .i64 s_2, .slice s_3 s_l3 s_c3, .slice s_4 s_l4 s_c4]⟩, .int .i64 id_5, .int .i64 on_6]⟩ h K :=
  fun g r => spec_l11Waits_call (spec_l11Waits_M_D (by exact fun t300001 g m R =>
(fun h => ⟨m, R.af, h⟩)) _ _ _ _ _ _ _ _ _ _ _ _ (Md.start r) hs)

noncomputable def code32 : Code := codeOf Try.f32
theorem body32 : Try.f32.body = some code32 := by kernel_rfl
def spec_l11Spawn_l0 (kx0 : Int → Nat → Nat → Nat → Int → H → Prop) : Nat → Int → Nat → Nat → Nat → Int → H → Prop
 | 0, _, _, _, _, _, _ => False
 | N + 1, base_17, s_18, b19, b20, id_21, h =>
  ifB (decide ((id_21 : Int) < 32))
  (ldRow h s_18 0 0 [.int .i64, .int .i64, .slice, .slice] fun n22 n23 a24 l24 c24 a25 l25 c25 =>
  callK Try.prog 29 ⟨[.agg ⟨[.int .i64 n22, .int .i64 n23, .slice a24 l24 c24, .slice a25 l25 c25]⟩, .int .i64 id_21]⟩ h fun v26 h =>
  asI .i64 v26 fun n27 =>
  ifB (decide ((n27 : Int) ≥ 0))
  (spec_l11Spawn_l0 kx0 N base_17 s_18 b19 b20 (IntKind.i64.wrap (id_21 + 1)) h)
  (kx0 base_17 s_18 b19 b20 id_21 h))
  (kx0 base_17 s_18 b19 b20 id_21 h)

def spec_l11Spawn (kr : Nat → Nat → H → Prop) (s_1 : Int) (s_2 : Int) (s_3 : Option Addr) (s_l3 : Nat) (s_c3 : Nat) (s_4 : Option Addr) (s_l4 : Nat) (s_c4 : Nat) (base_5 : Int) (h : H) : Prop :=
  new h [.int .i64 s_1, .int .i64 s_2, .slice s_3 s_l3 s_c3, .slice s_4 s_l4 s_c4] 32 fun b6 h =>
  new h [.int .i64 0, .int .i64 0, .slice none 0 0, .slice none 0 0] 32 fun b7 h =>
  new h [.int .i64 0, .int .i64 0] 34 fun b8 h =>
  ifB (decide ((base_5 : Int) < 0))
  (ldRow h b6 0 0 [.int .i64, .int .i64, .slice, .slice] fun n9 n10 a11 l11 c11 a12 l12 c12 =>
  stRow h b7 0 0 [.int .i64 n9, .int .i64 n10, .slice a11 l11 c11, .slice a12 l12 c12] fun h =>
  stRow h b8 0 0 [.int .i64 1, .int .i64 0] fun h =>
  kr b7 b8 h)
  (ifB (decide ((base_5 : Int) > 7))
  (ldRow h b6 0 0 [.int .i64, .int .i64, .slice, .slice] fun n13 n14 a15 l15 c15 a16 l16 c16 =>
  stRow h b7 0 0 [.int .i64 n13, .int .i64 n14, .slice a15 l15 c15, .slice a16 l16 c16] fun h =>
  stRow h b8 0 0 [.int .i64 1, .int .i64 0] fun h =>
  kr b7 b8 h)
  (∃ M43, spec_l11Spawn_l0 (fun base_17 s_18 b19 b20 id_21 h =>
  ifB ((id_21 : Int) == 32)
  (ldRow h s_18 0 0 [.int .i64, .int .i64, .slice, .slice] fun n22 n23 a24 l24 c24 a25 l25 c25 =>
  stRow h b19 0 0 [.int .i64 n22, .int .i64 n23, .slice a24 l24 c24, .slice a25 l25 c25] fun h =>
  stRow h b20 0 0 [.int .i64 18, .int .i64 0] fun h =>
  kr b19 b20 h)
  (new h [] 60 fun b26 h =>
  ldL h s_18 2 fun a27 l27 c27 =>
  req (0 ≤ (id_21 : Int) ∧ (id_21 : Int) ≤ (c27 : Nat))
  (req (plainA a27 = true)
  (appendK Try.prog 60 h (some ⟨b26, 0, none⟩) 0 0 (.slice (slB a27 0 c27 8) (id_21.toNat - 0) (c27 - 0)) fun a28 l28 c28 h =>
  new h [.int .i64 id_21, .int .i64 base_17, .int .i64 0, .int .i64 0, .int .i64 0, .int .i64 0, .int .i64 0, .int .i64 0] 60 fun b29 h =>
  appendK Try.prog 60 h a28 l28 c28 (.slice (some ⟨b29, 0, none⟩) 1 1) fun a30 l30 c30 h =>
  ldL h s_18 2 fun a31 l31 c31 =>
  req (0 ≤ (id_21 : Int) ∧ (id_21 : Int) ≤ (l31 : Nat))
  (req (plainA a31 = true)
  (appendK Try.prog 60 h a30 l30 c30 (.slice (slB a31 id_21.toNat c31 8) (l31 - id_21.toNat) (c31 - id_21.toNat)) fun a32 l32 c32 h =>
  st h s_18 2 (.slice a32 l32 c32) fun h =>
  ldRow h s_18 0 0 [.int .i64, .int .i64, .slice, .slice] fun n33 n34 a35 l35 c35 a36 l36 c36 =>
  ldI .i64 h s_18 0 fun n37 =>
  callK Try.prog 36 ⟨[.agg ⟨[.int .i64 n33, .int .i64 n34, .slice a35 l35 c35, .slice a36 l36 c36]⟩, .int .i64 id_21, .int .i64 n37]⟩ h fun v38 h =>
  elF False (.agg [.int .i64, .int .i64, .slice, .slice]) v38 fun n39 n40 a41 l41 c41 a42 l42 c42 =>
  stRow h b19 0 0 [.int .i64 n39, .int .i64 n40, .slice a41 l41 c41, .slice a42 l42 c42] fun h =>
  stRow h b20 0 0 [.int .i64 0, .int .i64 id_21] fun h =>
  kr b19 b20 h)))))) M43 base_5 b6 b7 b8 0 h))

theorem spec_l11Spawn_l0_eq (K : Cont) (N : Nat) (base_17 : Int) (s_18 : Nat) (b19 : Nat) (b20 : Nat) (id_21 : Int) (h : H) :
  spec_l11Spawn_l0 (curV [(1, .int .i64), (2, .blk), (4, .blk), (5, .blk), (6, .int .i64)] (K (.exit 0))) (N + 1) base_17 s_18 b19 b20 id_21 h = evC Try.prog 56 [] [] (sub code32 [true, true, true, false, false, false]) [(1, .int .i64 base_17), (2, .pointer (some ⟨s_18, 0, none⟩)), (4, .pointer (some ⟨b19, 0, none⟩)), (5, .pointer (some ⟨b20, 0, none⟩)), (6, .int .i64 id_21)] h ((outsOf none [(0, [(1, .int .i64), (2, .blk), (4, .blk), (5, .blk), (6, .int .i64)])] none K).loop [(1, .int .i64), (2, .blk), (4, .blk), (5, .blk), (6, .int .i64)] (spec_l11Spawn_l0 (curV [(1, .int .i64), (2, .blk), (4, .blk), (5, .blk), (6, .int .i64)] (K (.exit 0))) N)).K := by kernel_rfl

def spec_l11Spawn_l0_F : PT := mkL [(1, .int .i64), (2, .blk), (4, .blk), (5, .blk), (6, .int .i64)] fun K N => spec_l11Spawn_l0 (curV [(1, .int .i64), (2, .blk), (4, .blk), (5, .blk), (6, .int .i64)] (K (.exit 0))) N

theorem spec_l11Spawn_l0_V : Valid Try.prog 56 (sub code32 [true, true, true, false, false]) spec_l11Spawn_l0_F :=
  loop_at (code32) [true, true, true, false, false] (loop_piece (c := (sub code32 [true, true, true, false, false, false])) mixed rows_nil (fun K => by intro base_17 s_18 b19 b20 id_21 h hd; exact hd) (fun K N => by intro base_17 s_18 b19 b20 id_21 h hd; exact (spec_l11Spawn_l0_eq K N base_17 s_18 b19 b20 id_21 h) ▸ hd))

theorem spec_l11Spawn_eq (K : Cont) (s_1 : Int) (s_2 : Int) (s_3 : Option Addr) (s_l3 : Nat) (s_c3 : Nat) (s_4 : Option Addr) (s_l4 : Nat) (s_c4 : Nat) (base_5 : Int) (h : H) :
  spec_l11Spawn (curV [(4, .blk), (5, .blk)] (K .ret)) s_1 s_2 s_3 s_l3 s_c3 s_4 s_l4 s_c4 base_5 h = evC Try.prog 56 [([false, false, false, true, true, true], spec_l11Spawn_l0_F)] [] code32 [(0, .agg ⟨[.int .i64 s_1, .int .i64 s_2, .slice s_3 s_l3 s_c3, .slice s_4 s_l4 s_c4]⟩), (1, .int .i64 base_5)] h (outsOf none [] (some [(4, .blk), (5, .blk)]) K).K := by kernel_rfl

def spec_l11Spawn_F : PT := mkF [(0, .agg [.int .i64, .int .i64, .slice, .slice]), (1, .int .i64)] fun K => spec_l11Spawn (curV [(4, .blk), (5, .blk)] (K .ret))

theorem spec_l11Spawn_V : Valid Try.prog 56 code32 spec_l11Spawn_F :=
  piece mixed (rows_cons (q' := [true, true, true, false, false]) spec_l11Spawn_l0_V rfl rows_nil) (fun K => by intro s_1 s_2 s_3 s_l3 s_c3 s_4 s_l4 s_c4 base_5 h hd; exact (spec_l11Spawn_eq K s_1 s_2 s_3 s_l3 s_c3 s_4 s_l4 s_c4 base_5 h) ▸ hd)

theorem spec_l11Spawn_c0 (s_1 : Int) (s_2 : Int) (s_3 : Option Addr) (s_l3 : Nat) (s_c3 : Nat) (s_4 : Option Addr) (s_l4 : Nat) (s_c4 : Nat) (base_5 : Int) (h : H) (K : Value → H → Prop) :
  spec_l11Spawn (fun b100001 b100002 h =>
  ldRow h b100001 0 0 [.int .i64, .int .i64, .slice, .slice] fun n100003 n100004 a100005 l100005 c100005 a100006 l100006 c100006 =>
  ldRow h b100002 0 0 [.int .i64, .int .i64] fun n100007 n100008 =>
  K (.tuple ⟨[.agg ⟨[.int .i64 n100003, .int .i64 n100004, .slice a100005 l100005 c100005, .slice a100006 l100006 c100006]⟩, .agg ⟨[.int .i64 n100007, .int .i64 n100008]⟩]⟩) h) s_1 s_2 s_3 s_l3 s_c3 s_4 s_l4 s_c4 base_5 h = callF Try.prog Try.f32.results.toList spec_l11Spawn_F [.agg ⟨[.int .i64 s_1, .int .i64 s_2, .slice s_3 s_l3 s_c3, .slice s_4 s_l4 s_c4]⟩, .int .i64 base_5] h K := by kernel_rfl

theorem spec_l11Spawn_call {s_1 : Int} {s_2 : Int} {s_3 : Option Addr} {s_l3 : Nat} {s_c3 : Nat} {s_4 : Option Addr} {s_l4 : Nat} {s_c4 : Nat} {base_5 : Int} {h : H} {K : Value → H → Prop} (hs : spec_l11Spawn (fun b100001 b100002 h =>
  ldRow h b100001 0 0 [.int .i64, .int .i64, .slice, .slice] fun n100003 n100004 a100005 l100005 c100005 a100006 l100006 c100006 =>
  ldRow h b100002 0 0 [.int .i64, .int .i64] fun n100007 n100008 =>
  K (.tuple ⟨[.agg ⟨[.int .i64 n100003, .int .i64 n100004, .slice a100005 l100005 c100005, .slice a100006 l100006 c100006]⟩, .agg ⟨[.int .i64 n100007, .int .i64 n100008]⟩]⟩) h) s_1 s_2 s_3 s_l3 s_c3 s_4 s_l4 s_c4 base_5 h) : callK Try.prog 32 ⟨[.agg ⟨[.int .i64 s_1, .int .i64 s_2, .slice s_3 s_l3 s_c3, .slice s_4 s_l4 s_c4]⟩, .int .i64 base_5]⟩ h K :=
  func_calls Try.func32 body32 spec_l11Spawn_V (Nat.le_of_ble_eq_true (by kernel_rfl)) (spec_l11Spawn_c0 s_1 s_2 s_3 s_l3 s_c3 s_4 s_l4 s_c4 base_5 h K ▸ hs)

def spec_l11Spawn_M_l0 (kx0 : Int → Int → Int → Int → Option Addr → Nat → Nat → Option Addr → Nat → Nat → H → Prop) : Nat → Int → Int → Int → Int → Option Addr → Nat → Nat → Option Addr → Nat → Nat → H → Prop
 | 0, _, _, _, _, _, _, _, _, _, _, _ => False
 | N + 1, base_6, id_7, n8, n9, a10, l10, c10, a11, l11, c11, h =>
  ifB (decide ((id_7 : Int) < 32))
  (callD Try.prog 29 ⟨[.agg ⟨[.int .i64 n8, .int .i64 n9, .slice a10 l10 c10, .slice a11 l11 c11]⟩, .int .i64 id_7]⟩ h fun v21 h =>
  asI .i64 v21 fun n22 =>
  ifB (decide ((n22 : Int) ≥ 0))
  (spec_l11Spawn_M_l0 kx0 N base_6 (IntKind.i64.wrap (id_7 + 1)) n8 n9 a10 l10 c10 a11 l11 c11 h)
  (kx0 base_6 id_7 n8 n9 a10 l10 c10 a11 l11 c11 h))
  (kx0 base_6 id_7 n8 n9 a10 l10 c10 a11 l11 c11 h)

def spec_l11Spawn_M (kr : Int → Int → Option Addr → Nat → Nat → Option Addr → Nat → Nat → Int → Int → H → Prop) (s_1 : Int) (s_2 : Int) (s_3 : Option Addr) (s_l3 : Nat) (s_c3 : Nat) (s_4 : Option Addr) (s_l4 : Nat) (s_c4 : Nat) (base_5 : Int) (h : H) : Prop :=
  ifB (decide ((base_5 : Int) < 0))
  (kr s_1 s_2 s_3 s_l3 s_c3 s_4 s_l4 s_c4 1 0 h)
  (ifB (decide ((base_5 : Int) > 7))
  (kr s_1 s_2 s_3 s_l3 s_c3 s_4 s_l4 s_c4 1 0 h)
  (∃ M31, spec_l11Spawn_M_l0 (fun base_6 id_7 n8 n9 a10 l10 c10 a11 l11 c11 h =>
  ifB ((id_7 : Int) == 32)
  (kr n8 n9 a10 l10 c10 a11 l11 c11 18 0 h)
  (newD h [] 60 fun b21 h =>
  req (0 ≤ (id_7 : Int) ∧ (id_7 : Int) ≤ (c10 : Nat))
  (req (plainA a10 = true)
  (appendD Try.prog 60 h (some ⟨b21, 0, none⟩) 0 0 (.slice (slB a10 0 c10 8) (id_7.toNat - 0) (c10 - 0)) fun a22 l22 c22 h =>
  newD h [.int .i64 id_7, .int .i64 base_6, .int .i64 0, .int .i64 0, .int .i64 0, .int .i64 0, .int .i64 0, .int .i64 0] 60 fun b23 h =>
  appendD Try.prog 60 h a22 l22 c22 (.slice (some ⟨b23, 0, none⟩) 1 1) fun a24 l24 c24 h =>
  req (0 ≤ (id_7 : Int) ∧ (id_7 : Int) ≤ (l10 : Nat))
  (req (plainA a10 = true)
  (appendD Try.prog 60 h a24 l24 c24 (.slice (slB a10 id_7.toNat c10 8) (l10 - id_7.toNat) (c10 - id_7.toNat)) fun a25 l25 c25 h =>
  callD Try.prog 36 ⟨[.agg ⟨[.int .i64 n8, .int .i64 n9, .slice a25 l25 c25, .slice a11 l11 c11]⟩, .int .i64 id_7, .int .i64 n8]⟩ h fun v26 h =>
  elF False (.agg [.int .i64, .int .i64, .slice, .slice]) v26 fun n27 n28 a29 l29 c29 a30 l30 c30 =>
  kr n27 n28 a29 l29 c29 a30 l30 c30 0 id_7 h)))))) M31 base_5 0 s_1 s_2 s_3 s_l3 s_c3 s_4 s_l4 s_c4 h))

theorem spec_l11Spawn_M_l0_D {g0 m0 : H} {kx0_1 : Int → Nat → Nat → Nat → Int → H → Prop} {kx0_2 : Int → Int → Int → Int → Option Addr → Nat → Nat → Option Addr → Nat → Nat → H → Prop} (Hkx0 : ∀ (base_200001 : Int) (id_200002 : Int) (n200003 : Int) (n200004 : Int) (a200005 : Option Addr) (l200005 : Nat) (c200005 : Nat) (a200006 : Option Addr) (l200006 : Nat) (c200006 : Nat) (n200008 : Int) (n200009 : Int) (a200010 : Option Addr) (l200010 : Nat) (c200010 : Nat) (a200011 : Option Addr) (l200011 : Nat) (c200011 : Nat) (n200013 : Int) (n200014 : Int) (p200007 : Nat) (p200012 : Nat) (p200015 : Nat) (g m : H), Md g0 m0 g m [lo p200007 [.int .i64 n200003, .int .i64 n200004, .slice a200005 l200005 c200005, .slice a200006 l200006 c200006], lo p200012 [.int .i64 n200008, .int .i64 n200009, .slice a200010 l200010 c200010, .slice a200011 l200011 c200011], lo p200015 [.int .i64 n200013, .int .i64 n200014]] → kx0_2 base_200001 id_200002 n200003 n200004 a200005 l200005 c200005 a200006 l200006 c200006 m → kx0_1 base_200001 p200007 p200012 p200015 id_200002 g) : ∀ (N : Nat) (base_1006 : Int) (id_1007 : Int) (n1008 : Int) (n1009 : Int) (a1010 : Option Addr) (l1010 : Nat) (c1010 : Nat) (a1011 : Option Addr) (l1011 : Nat) (c1011 : Nat) (n1013 : Int) (n1014 : Int) (a1015 : Option Addr) (l1015 : Nat) (c1015 : Nat) (a1016 : Option Addr) (l1016 : Nat) (c1016 : Nat) (n1018 : Int) (n1019 : Int) (p1012 : Nat) (p1017 : Nat) (p1020 : Nat) (g m : H), Md g0 m0 g m [lo p1012 [.int .i64 n1008, .int .i64 n1009, .slice a1010 l1010 c1010, .slice a1011 l1011 c1011], lo p1017 [.int .i64 n1013, .int .i64 n1014, .slice a1015 l1015 c1015, .slice a1016 l1016 c1016], lo p1020 [.int .i64 n1018, .int .i64 n1019]] → spec_l11Spawn_M_l0 kx0_2 N base_1006 id_1007 n1008 n1009 a1010 l1010 c1010 a1011 l1011 c1011 m → spec_l11Spawn_l0 kx0_1 N base_1006 p1012 p1017 p1020 id_1007 g := by
  intro N
  induction N with
  | zero => intro base_1006 id_1007 n1008 n1009 a1010 l1010 c1010 a1011 l1011 c1011 n1013 n1014 a1015 l1015 c1015 a1016 l1016 c1016 n1018 n1019 p1012 p1017 p1020 g m R h0; exact h0.elim
  | succ N ih =>
    intro base_1006 id_1007 n1008 n1009 a1010 l1010 c1010 a1011 l1011 c1011 n1013 n1014 a1015 l1015 c1015 a1016 l1016 c1016 n1018 n1019 p1012 p1017 p1020 g m R
    rw [spec_l11Spawn_M_l0, spec_l11Spawn_l0]
    exact (d_if (p_row_I2L2 R rfl rfl rfl rfl (d_call R fun v1021 g m R =>
  (d_asI fun n1022 =>
  (d_if (ih base_1006 (IntKind.i64.wrap (id_1007 + 1)) n1008 n1009 a1010 l1010 c1010 a1011 l1011 c1011 n1013 n1014 a1015 l1015 c1015 a1016 l1016 c1016 n1018 n1019 p1012 p1017 p1020 _ _ R.sub)
  (Hkx0 base_1006 id_1007 n1008 n1009 a1010 l1010 c1010 a1011 l1011 c1011 n1013 n1014 a1015 l1015 c1015 a1016 l1016 c1016 n1018 n1019 p1012 p1017 p1020 _ _ R.sub)))))
  (Hkx0 base_1006 id_1007 n1008 n1009 a1010 l1010 c1010 a1011 l1011 c1011 n1013 n1014 a1015 l1015 c1015 a1016 l1016 c1016 n1018 n1019 p1012 p1017 p1020 _ _ R.sub))

theorem spec_l11Spawn_M_D {g0 m0 : H} {kr_1 : Nat → Nat → H → Prop} {kr_2 : Int → Int → Option Addr → Nat → Nat → Option Addr → Nat → Nat → Int → Int → H → Prop} (Hkr : ∀ (n200001 : Int) (n200002 : Int) (a200003 : Option Addr) (l200003 : Nat) (c200003 : Nat) (a200004 : Option Addr) (l200004 : Nat) (c200004 : Nat) (n200006 : Int) (n200007 : Int) (p200005 : Nat) (p200008 : Nat) (g m : H), Md g0 m0 g m [lo p200005 [.int .i64 n200001, .int .i64 n200002, .slice a200003 l200003 c200003, .slice a200004 l200004 c200004], lo p200008 [.int .i64 n200006, .int .i64 n200007]] → kr_2 n200001 n200002 a200003 l200003 c200003 a200004 l200004 c200004 n200006 n200007 m → kr_1 p200005 p200008 g) : ∀ (s_1001 : Int) (s_1002 : Int) (s_1003 : Option Addr) (s_l1003 : Nat) (s_c1003 : Nat) (s_1004 : Option Addr) (s_l1004 : Nat) (s_c1004 : Nat) (base_1005 : Int) (g m : H), Md g0 m0 g m [] → spec_l11Spawn_M kr_2 s_1001 s_1002 s_1003 s_l1003 s_c1003 s_1004 s_l1004 s_c1004 base_1005 m → spec_l11Spawn kr_1 s_1001 s_1002 s_1003 s_l1003 s_c1003 s_1004 s_l1004 s_c1004 base_1005 g := by
  intro s_1001 s_1002 s_1003 s_l1003 s_c1003 s_1004 s_l1004 s_c1004 base_1005 g m R
  rw [spec_l11Spawn_M, spec_l11Spawn]
  exact (p_new R fun p1006 g R =>
  (p_new R fun p1007 g R =>
  (p_new R fun p1008 g R =>
  (d_if (p_row_I2L2 R rfl rfl rfl rfl (p_stRow R (cs' := [.int .i64 s_1001, .int .i64 s_1002, .slice s_1003 s_l1003 s_c1003, .slice s_1004 s_l1004 s_c1004]) ⟨rfl, rfl, rfl⟩ fun g R =>
  (p_stRow R (cs' := [.int .i64 1, .int .i64 0]) ⟨rfl, rfl, rfl⟩ fun g R =>
  (Hkr s_1001 s_1002 s_1003 s_l1003 s_c1003 s_1004 s_l1004 s_c1004 1 0 p1007 p1008 _ _ R.sub))))
  (d_if (p_row_I2L2 R rfl rfl rfl rfl (p_stRow R (cs' := [.int .i64 s_1001, .int .i64 s_1002, .slice s_1003 s_l1003 s_c1003, .slice s_1004 s_l1004 s_c1004]) ⟨rfl, rfl, rfl⟩ fun g R =>
  (p_stRow R (cs' := [.int .i64 1, .int .i64 0]) ⟨rfl, rfl, rfl⟩ fun g R =>
  (Hkr s_1001 s_1002 s_1003 s_l1003 s_c1003 s_1004 s_l1004 s_c1004 1 0 p1007 p1008 _ _ R.sub))))
  (d_ex fun N => spec_l11Spawn_M_l0_D (by exact fun base_1009 id_1010 n1011 n1012 a1013 l1013 c1013 a1014 l1014 c1014 n1016 n1017 a1018 l1018 c1018 a1019 l1019 c1019 n1021 n1022 p1015 p1020 p1023 g m R =>
  (d_if (p_row_I2L2 R rfl rfl rfl rfl (p_stRow R (cs' := [.int .i64 n1011, .int .i64 n1012, .slice a1013 l1013 c1013, .slice a1014 l1014 c1014]) ⟨rfl, rfl, rfl⟩ fun g R =>
  (p_stRow R (cs' := [.int .i64 18, .int .i64 0]) ⟨rfl, rfl, rfl⟩ fun g R =>
  (Hkr n1011 n1012 a1013 l1013 c1013 a1014 l1014 c1014 18 0 p1020 p1023 _ _ R.sub))))
  (d_new R fun b1024 g m R =>
  (p_ldL R rfl (d_req (d_req (d_append R fun a1025 l1025 c1025 g m R =>
  (d_new R fun b1026 g m R =>
  (d_append R fun a1027 l1027 c1027 g m R =>
  (p_ldL R rfl (d_req (d_req (d_append R fun a1028 l1028 c1028 g m R =>
  (p_st R (cs' := [.int .i64 n1011, .int .i64 n1012, .slice a1028 l1028 c1028, .slice a1014 l1014 c1014]) ⟨rfl, rfl⟩ fun g R =>
  (p_row_I2L2 R rfl rfl rfl rfl (p_ldI R rfl (d_call R fun v1029 g m R =>
  (d_el_AI2L2E fun n1030 n1031 a1032 l1032 c1032 a1033 l1033 c1033 =>
  (p_stRow R (cs' := [.int .i64 n1030, .int .i64 n1031, .slice a1032 l1032 c1032, .slice a1033 l1033 c1033]) ⟨rfl, rfl, rfl⟩ fun g R =>
  (p_stRow R (cs' := [.int .i64 0, .int .i64 id_1010]) ⟨rfl, rfl, rfl⟩ fun g R =>
  (Hkr n1030 n1031 a1032 l1032 c1032 a1033 l1033 c1033 0 id_1010 p1020 p1023 _ _ R.sub))))))))))))))))))))) N base_1005 0 s_1001 s_1002 s_1003 s_l1003 s_c1003 s_1004 s_l1004 s_c1004 0 0 none 0 0 none 0 0 0 0 p1006 p1007 p1008 _ _ R.sub))))))

theorem spec_l11Spawn_M_call {s_1 : Int} {s_2 : Int} {s_3 : Option Addr} {s_l3 : Nat} {s_c3 : Nat} {s_4 : Option Addr} {s_l4 : Nat} {s_c4 : Nat} {base_5 : Int} {h : H} {K : Value → H → Prop} (hs : spec_l11Spawn_M (fun n300001 n300002 a300003 l300003 c300003 a300004 l300004 c300004 n300006 n300007 h =>
  K (.tuple ⟨[.agg ⟨[.int .i64 n300001, .int .i64 n300002, .slice a300003 l300003 c300003, .slice a300004 l300004 c300004]⟩, .agg ⟨[.int .i64 n300006, .int .i64 n300007]⟩]⟩) h) s_1 s_2 s_3 s_l3 s_c3 s_4 s_l4 s_c4 base_5 h) : callD Try.prog 32 ⟨[.agg ⟨[.int .i64 s_1, .int .i64 s_2, .slice s_3 s_l3 s_c3, .slice s_4 s_l4 s_c4]⟩, .int .i64 base_5]⟩ h K :=
  fun g r => spec_l11Spawn_call (spec_l11Spawn_M_D (by exact fun n300001 n300002 a300003 l300003 c300003 a300004 l300004 c300004 n300006 n300007 p300005 p300008 g m R =>
(p_row_I2L2 R rfl rfl rfl rfl (p_row_I2 R rfl rfl (fun h => ⟨m, R.af, h⟩)))) _ _ _ _ _ _ _ _ _ _ _ (Md.start r) hs)

noncomputable def code33 : Code := codeOf Try.f33
theorem body33 : Try.f33.body = some code33 := by kernel_rfl
def spec_l11Tick_l0 (kx0 : Nat → Nat → Nat → H → Prop) : Nat → Nat → Nat → Nat → Int → H → Prop
 | 0, _, _, _, _, _ => False
 | N + 1, b8, b9, b10, n11, h =>
  ldL h b8 2 fun a12 l12 c12 =>
  ifB (decide ((n11 : Int) < (l12 : Nat)))
  (ldL h b8 2 fun a13 l13 c13 =>
  req (0 ≤ (n11 : Int) ∧ (n11 : Int) < (l13 : Nat))
  (nz a13 fun b14 o15 =>
  ldI .i64 h b14 ((o15 + n11.toNat * 8) + 2) fun n16 =>
  ifB ((n16 : Int) == 3)
  (ldL h b8 2 fun a17 l17 c17 =>
  req (0 ≤ (n11 : Int) ∧ (n11 : Int) < (l17 : Nat))
  (nz a17 fun b18 o19 =>
  ldI .i64 h b18 ((o19 + n11.toNat * 8) + 6) fun n20 =>
  ldI .i64 h b8 0 fun n21 =>
  ifB (decide ((n20 : Int) ≤ n21))
  (ldRow h b8 0 0 [.int .i64, .int .i64, .slice, .slice] fun n22 n23 a24 l24 c24 a25 l25 c25 =>
  ldI .i64 h b8 0 fun n26 =>
  callK Try.prog 36 ⟨[.agg ⟨[.int .i64 n22, .int .i64 n23, .slice a24 l24 c24, .slice a25 l25 c25]⟩, .int .i64 n11, .int .i64 n26]⟩ h fun v27 h =>
  elF False (.agg [.int .i64, .int .i64, .slice, .slice]) v27 fun n28 n29 a30 l30 c30 a31 l31 c31 =>
  stRow h b8 0 0 [.int .i64 n28, .int .i64 n29, .slice a30 l30 c30, .slice a31 l31 c31] fun h =>
  spec_l11Tick_l0 kx0 N b8 b9 b10 (IntKind.i64.wrap (n11 + 1)) h)
  (spec_l11Tick_l0 kx0 N b8 b9 b10 (IntKind.i64.wrap (n11 + 1)) h)))
  (spec_l11Tick_l0 kx0 N b8 b9 b10 (IntKind.i64.wrap (n11 + 1)) h)))
  (kx0 b8 b9 b10 h)

def spec_l11Tick_j1 (kr : Nat → Nat → H → Prop) (b41 : Nat) (b42 : Nat) (b43 : Nat) (n44 : Int) (h : H) : Prop :=
  ldI .i64 h b41 0 fun n45 =>
  st h b41 0 (.int .i64 (IntKind.i64.wrap (n45 + 1))) fun h =>
  ldRow h b41 0 0 [.int .i64, .int .i64, .slice, .slice] fun n46 n47 a48 l48 c48 a49 l49 c49 =>
  stRow h b42 0 0 [.int .i64 n46, .int .i64 n47, .slice a48 l48 c48, .slice a49 l49 c49] fun h =>
  stRow h b43 0 0 [.int .i64 0, .int .i64 n44] fun h =>
  kr b42 b43 h

def spec_l11Tick (kr : Nat → Nat → H → Prop) (n1 : Int) (n2 : Int) (a3 : Option Addr) (l3 : Nat) (c3 : Nat) (a4 : Option Addr) (l4 : Nat) (c4 : Nat) (h : H) : Prop :=
  new h [.int .i64 n1, .int .i64 n2, .slice a3 l3 c3, .slice a4 l4 c4] 32 fun b5 h =>
  new h [.int .i64 0, .int .i64 0, .slice none 0 0, .slice none 0 0] 32 fun b6 h =>
  new h [.int .i64 0, .int .i64 0] 34 fun b7 h =>
  ∃ M48, spec_l11Tick_l0 (fun b8 b9 b10 h =>
  ldRow h b8 0 0 [.int .i64, .int .i64, .slice, .slice] fun n11 n12 a13 l13 c13 a14 l14 c14 =>
  callK Try.prog 50 ⟨[.agg ⟨[.int .i64 n11, .int .i64 n12, .slice a13 l13 c13, .slice a14 l14 c14]⟩]⟩ h fun v15 h =>
  asI .i64 v15 fun n16 =>
  ifB (decide ((n16 : Int) ≥ 0))
  (ldRow h b8 0 0 [.int .i64, .int .i64, .slice, .slice] fun n17 n18 a19 l19 c19 a20 l20 c20 =>
  callK Try.prog 29 ⟨[.agg ⟨[.int .i64 n17, .int .i64 n18, .slice a19 l19 c19, .slice a20 l20 c20]⟩, .int .i64 n16]⟩ h fun v21 h =>
  asI .i64 v21 fun n22 =>
  ldL h b8 2 fun a23 l23 c23 =>
  ldL h b8 2 fun a24 l24 c24 =>
  req (0 ≤ (n22 : Int) ∧ (n22 : Int) < (l24 : Nat))
  (nz a24 fun b25 o26 =>
  ldI .i64 h b25 ((o26 + n22.toNat * 8) + 4) fun n27 =>
  req (0 ≤ (n22 : Int) ∧ (n22 : Int) < (l23 : Nat))
  (nz a23 fun b28 o29 =>
  st h b28 ((o29 + n22.toNat * 8) + 4) (.int .i64 (IntKind.i64.wrap (n27 - 1))) fun h =>
  ldL h b8 2 fun a30 l30 c30 =>
  ldI .i64 h b8 0 fun n31 =>
  req (0 ≤ (n22 : Int) ∧ (n22 : Int) < (l30 : Nat))
  (nz a30 fun b32 o33 =>
  st h b32 ((o33 + n22.toNat * 8) + 5) (.int .i64 (IntKind.i64.wrap (n31 + 1))) fun h =>
  ldL h b8 2 fun a34 l34 c34 =>
  req (0 ≤ (n22 : Int) ∧ (n22 : Int) < (l34 : Nat))
  (nz a34 fun b35 o36 =>
  ldI .i64 h b35 ((o36 + n22.toNat * 8) + 4) fun n37 =>
  ifB ((n37 : Int) == 0)
  (ldRow h b8 0 0 [.int .i64, .int .i64, .slice, .slice] fun n38 n39 a40 l40 c40 a41 l41 c41 =>
  ldI .i64 h b8 0 fun n42 =>
  callK Try.prog 36 ⟨[.agg ⟨[.int .i64 n38, .int .i64 n39, .slice a40 l40 c40, .slice a41 l41 c41]⟩, .int .i64 n22, .int .i64 (IntKind.i64.wrap (n42 + 1))]⟩ h fun v43 h =>
  elF False (.agg [.int .i64, .int .i64, .slice, .slice]) v43 fun n44 n45 a46 l46 c46 a47 l47 c47 =>
  stRow h b8 0 0 [.int .i64 n44, .int .i64 n45, .slice a46 l46 c46, .slice a47 l47 c47] fun h =>
  spec_l11Tick_j1 kr b8 b9 b10 n16 h)
  (spec_l11Tick_j1 kr b8 b9 b10 n16 h))))))
  (spec_l11Tick_j1 kr b8 b9 b10 n16 h)) M48 b5 b6 b7 0 h

theorem spec_l11Tick_l0_eq (K : Cont) (N : Nat) (b8 : Nat) (b9 : Nat) (b10 : Nat) (n11 : Int) (h : H) :
  spec_l11Tick_l0 (curV [(1, .blk), (2, .blk), (3, .blk)] (K (.exit 0))) (N + 1) b8 b9 b10 n11 h = evC Try.prog 84 [] [] (sub code33 [true, false, true, false, false]) [(1, .pointer (some ⟨b8, 0, none⟩)), (2, .pointer (some ⟨b9, 0, none⟩)), (3, .pointer (some ⟨b10, 0, none⟩)), (4, .int .i64 n11)] h ((outsOf none [(0, [(1, .blk), (2, .blk), (3, .blk)])] none K).loop [(1, .blk), (2, .blk), (3, .blk), (4, .int .i64)] (spec_l11Tick_l0 (curV [(1, .blk), (2, .blk), (3, .blk)] (K (.exit 0))) N)).K := by kernel_rfl

def spec_l11Tick_l0_F : PT := mkL [(1, .blk), (2, .blk), (3, .blk), (4, .int .i64)] fun K N => spec_l11Tick_l0 (curV [(1, .blk), (2, .blk), (3, .blk)] (K (.exit 0))) N

theorem spec_l11Tick_l0_V : Valid Try.prog 84 (sub code33 [true, false, true, false]) spec_l11Tick_l0_F :=
  loop_at (code33) [true, false, true, false] (loop_piece (c := (sub code33 [true, false, true, false, false])) mixed rows_nil (fun K => by intro b8 b9 b10 n11 h hd; exact hd) (fun K N => by intro b8 b9 b10 n11 h hd; exact (spec_l11Tick_l0_eq K N b8 b9 b10 n11 h) ▸ hd))

theorem spec_l11Tick_j1_eq (K : Cont) (b41 : Nat) (b42 : Nat) (b43 : Nat) (n44 : Int) (h : H) :
  spec_l11Tick_j1 (curV [(2, .blk), (3, .blk)] (K .ret)) b41 b42 b43 n44 h = evC Try.prog 84 [] [] (sub code33 [true, true, true, true]) [(1, .pointer (some ⟨b41, 0, none⟩)), (2, .pointer (some ⟨b42, 0, none⟩)), (3, .pointer (some ⟨b43, 0, none⟩)), (5, .int .i64 n44)] h (outsOf none [] (some [(2, .blk), (3, .blk)]) K).K := by kernel_rfl

def spec_l11Tick_j1_F : PT := mkF [(1, .blk), (2, .blk), (3, .blk), (5, .int .i64)] fun K => spec_l11Tick_j1 (curV [(2, .blk), (3, .blk)] (K .ret))

theorem spec_l11Tick_j1_V : Valid Try.prog 84 (sub code33 [true, true, true, true]) spec_l11Tick_j1_F :=
  piece mixed rows_nil (fun K => by intro b41 b42 b43 n44 h hd; exact (spec_l11Tick_j1_eq K b41 b42 b43 n44 h) ▸ hd)

theorem spec_l11Tick_eq (K : Cont) (n1 : Int) (n2 : Int) (a3 : Option Addr) (l3 : Nat) (c3 : Nat) (a4 : Option Addr) (l4 : Nat) (c4 : Nat) (h : H) :
  spec_l11Tick (curV [(2, .blk), (3, .blk)] (K .ret)) n1 n2 a3 l3 c3 a4 l4 c4 h = evC Try.prog 84 [([false, false, true, false, true], spec_l11Tick_l0_F), ([true, true, true, true], spec_l11Tick_j1_F)] [] code33 [(0, .agg ⟨[.int .i64 n1, .int .i64 n2, .slice a3 l3 c3, .slice a4 l4 c4]⟩)] h (outsOf none [] (some [(2, .blk), (3, .blk)]) K).K := by kernel_rfl

def spec_l11Tick_F : PT := mkF [(0, .agg [.int .i64, .int .i64, .slice, .slice])] fun K => spec_l11Tick (curV [(2, .blk), (3, .blk)] (K .ret))

theorem spec_l11Tick_V : Valid Try.prog 84 code33 spec_l11Tick_F :=
  piece mixed (rows_cons (q' := [true, false, true, false]) spec_l11Tick_l0_V rfl (rows_cons (q' := [true, true, true, true]) spec_l11Tick_j1_V rfl rows_nil)) (fun K => by intro n1 n2 a3 l3 c3 a4 l4 c4 h hd; exact (spec_l11Tick_eq K n1 n2 a3 l3 c3 a4 l4 c4 h) ▸ hd)

theorem spec_l11Tick_c0 (n1 : Int) (n2 : Int) (a3 : Option Addr) (l3 : Nat) (c3 : Nat) (a4 : Option Addr) (l4 : Nat) (c4 : Nat) (h : H) (K : Value → H → Prop) :
  spec_l11Tick (fun b100001 b100002 h =>
  ldRow h b100001 0 0 [.int .i64, .int .i64, .slice, .slice] fun n100003 n100004 a100005 l100005 c100005 a100006 l100006 c100006 =>
  ldRow h b100002 0 0 [.int .i64, .int .i64] fun n100007 n100008 =>
  K (.tuple ⟨[.agg ⟨[.int .i64 n100003, .int .i64 n100004, .slice a100005 l100005 c100005, .slice a100006 l100006 c100006]⟩, .agg ⟨[.int .i64 n100007, .int .i64 n100008]⟩]⟩) h) n1 n2 a3 l3 c3 a4 l4 c4 h = callF Try.prog Try.f33.results.toList spec_l11Tick_F [.agg ⟨[.int .i64 n1, .int .i64 n2, .slice a3 l3 c3, .slice a4 l4 c4]⟩] h K := by kernel_rfl

theorem spec_l11Tick_call {n1 : Int} {n2 : Int} {a3 : Option Addr} {l3 : Nat} {c3 : Nat} {a4 : Option Addr} {l4 : Nat} {c4 : Nat} {h : H} {K : Value → H → Prop} (hs : spec_l11Tick (fun b100001 b100002 h =>
  ldRow h b100001 0 0 [.int .i64, .int .i64, .slice, .slice] fun n100003 n100004 a100005 l100005 c100005 a100006 l100006 c100006 =>
  ldRow h b100002 0 0 [.int .i64, .int .i64] fun n100007 n100008 =>
  K (.tuple ⟨[.agg ⟨[.int .i64 n100003, .int .i64 n100004, .slice a100005 l100005 c100005, .slice a100006 l100006 c100006]⟩, .agg ⟨[.int .i64 n100007, .int .i64 n100008]⟩]⟩) h) n1 n2 a3 l3 c3 a4 l4 c4 h) : callK Try.prog 33 ⟨[.agg ⟨[.int .i64 n1, .int .i64 n2, .slice a3 l3 c3, .slice a4 l4 c4]⟩]⟩ h K :=
  func_calls Try.func33 body33 spec_l11Tick_V (Nat.le_of_ble_eq_true (by kernel_rfl)) (spec_l11Tick_c0 n1 n2 a3 l3 c3 a4 l4 c4 h K ▸ hs)

def spec_l11Tick_M_l0 (kx0 : Int → Int → Option Addr → Nat → Nat → Option Addr → Nat → Nat → H → Prop) : Nat → Int → Int → Int → Option Addr → Nat → Nat → Option Addr → Nat → Nat → H → Prop
 | 0, _, _, _, _, _, _, _, _, _, _ => False
 | N + 1, n5, n6, n7, a8, l8, c8, a9, l9, c9, h =>
  ifB (decide ((n5 : Int) < (l8 : Nat)))
  (req (0 ≤ (n5 : Int) ∧ (n5 : Int) < (l8 : Nat))
  (nz a8 fun b19 o20 =>
  ldI .i64 h b19 ((o20 + n5.toNat * 8) + 2) fun n21 =>
  ifB ((n21 : Int) == 3)
  (req (0 ≤ (n5 : Int) ∧ (n5 : Int) < (l8 : Nat))
  (nz a8 fun b22 o23 =>
  ldI .i64 h b22 ((o23 + n5.toNat * 8) + 6) fun n24 =>
  ifB (decide ((n24 : Int) ≤ n6))
  (callD Try.prog 36 ⟨[.agg ⟨[.int .i64 n6, .int .i64 n7, .slice a8 l8 c8, .slice a9 l9 c9]⟩, .int .i64 n5, .int .i64 n6]⟩ h fun v25 h =>
  elF False (.agg [.int .i64, .int .i64, .slice, .slice]) v25 fun n26 n27 a28 l28 c28 a29 l29 c29 =>
  spec_l11Tick_M_l0 kx0 N (IntKind.i64.wrap (n5 + 1)) n26 n27 a28 l28 c28 a29 l29 c29 h)
  (spec_l11Tick_M_l0 kx0 N (IntKind.i64.wrap (n5 + 1)) n6 n7 a8 l8 c8 a9 l9 c9 h)))
  (spec_l11Tick_M_l0 kx0 N (IntKind.i64.wrap (n5 + 1)) n6 n7 a8 l8 c8 a9 l9 c9 h)))
  (kx0 n6 n7 a8 l8 c8 a9 l9 c9 h)

def spec_l11Tick_M_j1 (kr : Int → Int → Option Addr → Nat → Nat → Option Addr → Nat → Nat → Int → Int → H → Prop) (n1045 : Int) (n1046 : Int) (n1047 : Int) (a1048 : Option Addr) (l1048 : Nat) (c1048 : Nat) (a1049 : Option Addr) (l1049 : Nat) (c1049 : Nat) (h : H) : Prop :=
  kr (IntKind.i64.wrap (n1046 + 1)) n1047 a1048 l1048 c1048 a1049 l1049 c1049 0 n1045 h

def spec_l11Tick_M (kr : Int → Int → Option Addr → Nat → Nat → Option Addr → Nat → Nat → Int → Int → H → Prop) (n1 : Int) (n2 : Int) (a3 : Option Addr) (l3 : Nat) (c3 : Nat) (a4 : Option Addr) (l4 : Nat) (c4 : Nat) (h : H) : Prop :=
  ∃ M37, spec_l11Tick_M_l0 (fun n5 n6 a7 l7 c7 a8 l8 c8 h =>
  callD Try.prog 50 ⟨[.agg ⟨[.int .i64 n5, .int .i64 n6, .slice a7 l7 c7, .slice a8 l8 c8]⟩]⟩ h fun v18 h =>
  asI .i64 v18 fun n19 =>
  ifB (decide ((n19 : Int) ≥ 0))
  (callD Try.prog 29 ⟨[.agg ⟨[.int .i64 n5, .int .i64 n6, .slice a7 l7 c7, .slice a8 l8 c8]⟩, .int .i64 n19]⟩ h fun v20 h =>
  asI .i64 v20 fun n21 =>
  req (0 ≤ (n21 : Int) ∧ (n21 : Int) < (l7 : Nat))
  (nz a7 fun b22 o23 =>
  ldI .i64 h b22 ((o23 + n21.toNat * 8) + 4) fun n24 =>
  req (0 ≤ (n21 : Int) ∧ (n21 : Int) < (l7 : Nat))
  (nz a7 fun b25 o26 =>
  st h b25 ((o26 + n21.toNat * 8) + 4) (.int .i64 (IntKind.i64.wrap (n24 - 1))) fun h =>
  req (0 ≤ (n21 : Int) ∧ (n21 : Int) < (l7 : Nat))
  (nz a7 fun b27 o28 =>
  st h b27 ((o28 + n21.toNat * 8) + 5) (.int .i64 (IntKind.i64.wrap (n5 + 1))) fun h =>
  req (0 ≤ (n21 : Int) ∧ (n21 : Int) < (l7 : Nat))
  (nz a7 fun b29 o30 =>
  ldI .i64 h b29 ((o30 + n21.toNat * 8) + 4) fun n31 =>
  ifB ((n31 : Int) == 0)
  (callD Try.prog 36 ⟨[.agg ⟨[.int .i64 n5, .int .i64 n6, .slice a7 l7 c7, .slice a8 l8 c8]⟩, .int .i64 n21, .int .i64 (IntKind.i64.wrap (n5 + 1))]⟩ h fun v32 h =>
  elF False (.agg [.int .i64, .int .i64, .slice, .slice]) v32 fun n33 n34 a35 l35 c35 a36 l36 c36 =>
  spec_l11Tick_M_j1 kr n19 n33 n34 a35 l35 c35 a36 l36 c36 h)
  (spec_l11Tick_M_j1 kr n19 n5 n6 a7 l7 c7 a8 l8 c8 h))))))
  (spec_l11Tick_M_j1 kr n19 n5 n6 a7 l7 c7 a8 l8 c8 h)) M37 0 n1 n2 a3 l3 c3 a4 l4 c4 h

theorem spec_l11Tick_M_l0_D {g0 m0 : H} {kx0_1 : Nat → Nat → Nat → H → Prop} {kx0_2 : Int → Int → Option Addr → Nat → Nat → Option Addr → Nat → Nat → H → Prop} (Hkx0 : ∀ (n200001 : Int) (n200002 : Int) (a200003 : Option Addr) (l200003 : Nat) (c200003 : Nat) (a200004 : Option Addr) (l200004 : Nat) (c200004 : Nat) (n200006 : Int) (n200007 : Int) (a200008 : Option Addr) (l200008 : Nat) (c200008 : Nat) (a200009 : Option Addr) (l200009 : Nat) (c200009 : Nat) (n200011 : Int) (n200012 : Int) (p200005 : Nat) (p200010 : Nat) (p200013 : Nat) (g m : H), Md g0 m0 g m [lo p200005 [.int .i64 n200001, .int .i64 n200002, .slice a200003 l200003 c200003, .slice a200004 l200004 c200004], lo p200010 [.int .i64 n200006, .int .i64 n200007, .slice a200008 l200008 c200008, .slice a200009 l200009 c200009], lo p200013 [.int .i64 n200011, .int .i64 n200012]] → kx0_2 n200001 n200002 a200003 l200003 c200003 a200004 l200004 c200004 m → kx0_1 p200005 p200010 p200013 g) : ∀ (N : Nat) (n1005 : Int) (n1006 : Int) (n1007 : Int) (a1008 : Option Addr) (l1008 : Nat) (c1008 : Nat) (a1009 : Option Addr) (l1009 : Nat) (c1009 : Nat) (n1011 : Int) (n1012 : Int) (a1013 : Option Addr) (l1013 : Nat) (c1013 : Nat) (a1014 : Option Addr) (l1014 : Nat) (c1014 : Nat) (n1016 : Int) (n1017 : Int) (p1010 : Nat) (p1015 : Nat) (p1018 : Nat) (g m : H), Md g0 m0 g m [lo p1010 [.int .i64 n1006, .int .i64 n1007, .slice a1008 l1008 c1008, .slice a1009 l1009 c1009], lo p1015 [.int .i64 n1011, .int .i64 n1012, .slice a1013 l1013 c1013, .slice a1014 l1014 c1014], lo p1018 [.int .i64 n1016, .int .i64 n1017]] → spec_l11Tick_M_l0 kx0_2 N n1005 n1006 n1007 a1008 l1008 c1008 a1009 l1009 c1009 m → spec_l11Tick_l0 kx0_1 N p1010 p1015 p1018 n1005 g := by
  intro N
  induction N with
  | zero => intro n1005 n1006 n1007 a1008 l1008 c1008 a1009 l1009 c1009 n1011 n1012 a1013 l1013 c1013 a1014 l1014 c1014 n1016 n1017 p1010 p1015 p1018 g m R h0; exact h0.elim
  | succ N ih =>
    intro n1005 n1006 n1007 a1008 l1008 c1008 a1009 l1009 c1009 n1011 n1012 a1013 l1013 c1013 a1014 l1014 c1014 n1016 n1017 p1010 p1015 p1018 g m R
    rw [spec_l11Tick_M_l0, spec_l11Tick_l0]
    exact (p_ldL R rfl (d_if (p_ldL R rfl (d_req (d_nz fun b1019 o1020 =>
  (d_ldI R fun n1021 =>
  (d_if (p_ldL R rfl (d_req (d_nz fun b1022 o1023 =>
  (d_ldI R fun n1024 =>
  (p_ldI R rfl (d_if (p_row_I2L2 R rfl rfl rfl rfl (p_ldI R rfl (d_call R fun v1025 g m R =>
  (d_el_AI2L2E fun n1026 n1027 a1028 l1028 c1028 a1029 l1029 c1029 =>
  (p_stRow R (cs' := [.int .i64 n1026, .int .i64 n1027, .slice a1028 l1028 c1028, .slice a1029 l1029 c1029]) ⟨rfl, rfl, rfl⟩ fun g R =>
  (ih (IntKind.i64.wrap (n1005 + 1)) n1026 n1027 a1028 l1028 c1028 a1029 l1029 c1029 n1011 n1012 a1013 l1013 c1013 a1014 l1014 c1014 n1016 n1017 p1010 p1015 p1018 _ _ R.sub))))))
  (ih (IntKind.i64.wrap (n1005 + 1)) n1006 n1007 a1008 l1008 c1008 a1009 l1009 c1009 n1011 n1012 a1013 l1013 c1013 a1014 l1014 c1014 n1016 n1017 p1010 p1015 p1018 _ _ R.sub)))))))
  (ih (IntKind.i64.wrap (n1005 + 1)) n1006 n1007 a1008 l1008 c1008 a1009 l1009 c1009 n1011 n1012 a1013 l1013 c1013 a1014 l1014 c1014 n1016 n1017 p1010 p1015 p1018 _ _ R.sub))))))
  (Hkx0 n1006 n1007 a1008 l1008 c1008 a1009 l1009 c1009 n1011 n1012 a1013 l1013 c1013 a1014 l1014 c1014 n1016 n1017 p1010 p1015 p1018 _ _ R.sub)))

theorem spec_l11Tick_M_j1_D {g0 m0 : H} {kr_1 : Nat → Nat → H → Prop} {kr_2 : Int → Int → Option Addr → Nat → Nat → Option Addr → Nat → Nat → Int → Int → H → Prop} (Hkr : ∀ (n200001 : Int) (n200002 : Int) (a200003 : Option Addr) (l200003 : Nat) (c200003 : Nat) (a200004 : Option Addr) (l200004 : Nat) (c200004 : Nat) (n200006 : Int) (n200007 : Int) (p200005 : Nat) (p200008 : Nat) (g m : H), Md g0 m0 g m [lo p200005 [.int .i64 n200001, .int .i64 n200002, .slice a200003 l200003 c200003, .slice a200004 l200004 c200004], lo p200008 [.int .i64 n200006, .int .i64 n200007]] → kr_2 n200001 n200002 a200003 l200003 c200003 a200004 l200004 c200004 n200006 n200007 m → kr_1 p200005 p200008 g) : ∀ (n2045 : Int) (n2046 : Int) (n2047 : Int) (a2048 : Option Addr) (l2048 : Nat) (c2048 : Nat) (a2049 : Option Addr) (l2049 : Nat) (c2049 : Nat) (n2051 : Int) (n2052 : Int) (a2053 : Option Addr) (l2053 : Nat) (c2053 : Nat) (a2054 : Option Addr) (l2054 : Nat) (c2054 : Nat) (n2056 : Int) (n2057 : Int) (p2050 : Nat) (p2055 : Nat) (p2058 : Nat) (g m : H), Md g0 m0 g m [lo p2050 [.int .i64 n2046, .int .i64 n2047, .slice a2048 l2048 c2048, .slice a2049 l2049 c2049], lo p2055 [.int .i64 n2051, .int .i64 n2052, .slice a2053 l2053 c2053, .slice a2054 l2054 c2054], lo p2058 [.int .i64 n2056, .int .i64 n2057]] → spec_l11Tick_M_j1 kr_2 n2045 n2046 n2047 a2048 l2048 c2048 a2049 l2049 c2049 m → spec_l11Tick_j1 kr_1 p2050 p2055 p2058 n2045 g := by
  intro n2045 n2046 n2047 a2048 l2048 c2048 a2049 l2049 c2049 n2051 n2052 a2053 l2053 c2053 a2054 l2054 c2054 n2056 n2057 p2050 p2055 p2058 g m R
  rw [spec_l11Tick_M_j1, spec_l11Tick_j1]
  exact (p_ldI R rfl (p_st R (cs' := [.int .i64 (IntKind.i64.wrap (n2046 + 1)), .int .i64 n2047, .slice a2048 l2048 c2048, .slice a2049 l2049 c2049]) ⟨rfl, rfl⟩ fun g R =>
  (p_row_I2L2 R rfl rfl rfl rfl (p_stRow R (cs' := [.int .i64 (IntKind.i64.wrap (n2046 + 1)), .int .i64 n2047, .slice a2048 l2048 c2048, .slice a2049 l2049 c2049]) ⟨rfl, rfl, rfl⟩ fun g R =>
  (p_stRow R (cs' := [.int .i64 0, .int .i64 n2045]) ⟨rfl, rfl, rfl⟩ fun g R =>
  (Hkr (IntKind.i64.wrap (n2046 + 1)) n2047 a2048 l2048 c2048 a2049 l2049 c2049 0 n2045 p2055 p2058 _ _ R.sub))))))

theorem spec_l11Tick_M_D {g0 m0 : H} {kr_1 : Nat → Nat → H → Prop} {kr_2 : Int → Int → Option Addr → Nat → Nat → Option Addr → Nat → Nat → Int → Int → H → Prop} (Hkr : ∀ (n200001 : Int) (n200002 : Int) (a200003 : Option Addr) (l200003 : Nat) (c200003 : Nat) (a200004 : Option Addr) (l200004 : Nat) (c200004 : Nat) (n200006 : Int) (n200007 : Int) (p200005 : Nat) (p200008 : Nat) (g m : H), Md g0 m0 g m [lo p200005 [.int .i64 n200001, .int .i64 n200002, .slice a200003 l200003 c200003, .slice a200004 l200004 c200004], lo p200008 [.int .i64 n200006, .int .i64 n200007]] → kr_2 n200001 n200002 a200003 l200003 c200003 a200004 l200004 c200004 n200006 n200007 m → kr_1 p200005 p200008 g) : ∀ (n1001 : Int) (n1002 : Int) (a1003 : Option Addr) (l1003 : Nat) (c1003 : Nat) (a1004 : Option Addr) (l1004 : Nat) (c1004 : Nat) (g m : H), Md g0 m0 g m [] → spec_l11Tick_M kr_2 n1001 n1002 a1003 l1003 c1003 a1004 l1004 c1004 m → spec_l11Tick kr_1 n1001 n1002 a1003 l1003 c1003 a1004 l1004 c1004 g := by
  intro n1001 n1002 a1003 l1003 c1003 a1004 l1004 c1004 g m R
  rw [spec_l11Tick_M, spec_l11Tick]
  exact (p_new R fun p1005 g R =>
  (p_new R fun p1006 g R =>
  (p_new R fun p1007 g R =>
  (d_ex fun N => spec_l11Tick_M_l0_D (by exact fun n1008 n1009 a1010 l1010 c1010 a1011 l1011 c1011 n1013 n1014 a1015 l1015 c1015 a1016 l1016 c1016 n1018 n1019 p1012 p1017 p1020 g m R =>
  (p_row_I2L2 R rfl rfl rfl rfl (d_call R fun v1021 g m R =>
  (d_asI fun n1022 =>
  (d_if (p_row_I2L2 R rfl rfl rfl rfl (d_call R fun v1023 g m R =>
  (d_asI fun n1024 =>
  (p_ldL R rfl (p_ldL R rfl (d_req (d_nz fun b1025 o1026 =>
  (d_ldI R fun n1027 =>
  (d_req (d_nz fun b1028 o1029 =>
  (d_st R fun g m R =>
  (p_ldL R rfl (p_ldI R rfl (d_req (d_nz fun b1030 o1031 =>
  (d_st R fun g m R =>
  (p_ldL R rfl (d_req (d_nz fun b1032 o1033 =>
  (d_ldI R fun n1034 =>
  (d_if (p_row_I2L2 R rfl rfl rfl rfl (p_ldI R rfl (d_call R fun v1035 g m R =>
  (d_el_AI2L2E fun n1036 n1037 a1038 l1038 c1038 a1039 l1039 c1039 =>
  (p_stRow R (cs' := [.int .i64 n1036, .int .i64 n1037, .slice a1038 l1038 c1038, .slice a1039 l1039 c1039]) ⟨rfl, rfl, rfl⟩ fun g R =>
  (spec_l11Tick_M_j1_D (by exact fun n1040 n1041 a1042 l1042 c1042 a1043 l1043 c1043 n1045 n1046 p1044 p1047 g m R =>
  (Hkr n1040 n1041 a1042 l1042 c1042 a1043 l1043 c1043 n1045 n1046 p1044 p1047 _ _ R.sub)) n1022 n1036 n1037 a1038 l1038 c1038 a1039 l1039 c1039 n1013 n1014 a1015 l1015 c1015 a1016 l1016 c1016 n1018 n1019 p1012 p1017 p1020 _ _ R.sub))))))
  (spec_l11Tick_M_j1_D (by exact fun n1048 n1049 a1050 l1050 c1050 a1051 l1051 c1051 n1053 n1054 p1052 p1055 g m R =>
  (Hkr n1048 n1049 a1050 l1050 c1050 a1051 l1051 c1051 n1053 n1054 p1052 p1055 _ _ R.sub)) n1022 n1008 n1009 a1010 l1010 c1010 a1011 l1011 c1011 n1013 n1014 a1015 l1015 c1015 a1016 l1016 c1016 n1018 n1019 p1012 p1017 p1020 _ _ R.sub))))))))))))))))))))))
  (spec_l11Tick_M_j1_D (by exact fun n1056 n1057 a1058 l1058 c1058 a1059 l1059 c1059 n1061 n1062 p1060 p1063 g m R =>
  (Hkr n1056 n1057 a1058 l1058 c1058 a1059 l1059 c1059 n1061 n1062 p1060 p1063 _ _ R.sub)) n1022 n1008 n1009 a1010 l1010 c1010 a1011 l1011 c1011 n1013 n1014 a1015 l1015 c1015 a1016 l1016 c1016 n1018 n1019 p1012 p1017 p1020 _ _ R.sub)))))) N 0 n1001 n1002 a1003 l1003 c1003 a1004 l1004 c1004 0 0 none 0 0 none 0 0 0 0 p1005 p1006 p1007 _ _ R.sub))))

theorem spec_l11Tick_M_call {n1 : Int} {n2 : Int} {a3 : Option Addr} {l3 : Nat} {c3 : Nat} {a4 : Option Addr} {l4 : Nat} {c4 : Nat} {h : H} {K : Value → H → Prop} (hs : spec_l11Tick_M (fun n300001 n300002 a300003 l300003 c300003 a300004 l300004 c300004 n300006 n300007 h =>
  K (.tuple ⟨[.agg ⟨[.int .i64 n300001, .int .i64 n300002, .slice a300003 l300003 c300003, .slice a300004 l300004 c300004]⟩, .agg ⟨[.int .i64 n300006, .int .i64 n300007]⟩]⟩) h) n1 n2 a3 l3 c3 a4 l4 c4 h) : callD Try.prog 33 ⟨[.agg ⟨[.int .i64 n1, .int .i64 n2, .slice a3 l3 c3, .slice a4 l4 c4]⟩]⟩ h K :=
  fun g r => spec_l11Tick_call (spec_l11Tick_M_D (by exact fun n300001 n300002 a300003 l300003 c300003 a300004 l300004 c300004 n300006 n300007 p300005 p300008 g m R =>
(p_row_I2L2 R rfl rfl rfl rfl (p_row_I2 R rfl rfl (fun h => ⟨m, R.af, h⟩)))) _ _ _ _ _ _ _ _ _ _ (Md.start r) hs)

noncomputable def code34 : Code := codeOf Try.f34
theorem body34 : Try.f34.body = some code34 := by kernel_rfl
def spec_l11Exit_l0 (kx0 : Nat → Nat → H → Prop) : Nat → Nat → Nat → Int → Int → H → Prop
 | 0, _, _, _, _, _ => False
 | N + 1, s_17, b18, id_19, k_20, h =>
  ifB (decide ((k_20 : Int) < 16))
  (ldRow h s_17 0 0 [.int .i64, .int .i64, .slice, .slice] fun n21 n22 a23 l23 c23 a24 l24 c24 =>
  callK Try.prog 48 ⟨[.agg ⟨[.int .i64 n21, .int .i64 n22, .slice a23 l23 c23, .slice a24 l24 c24]⟩, .int .i64 k_20]⟩ h fun v25 h =>
  asI .i64 v25 fun n26 =>
  ifB (decide ((n26 : Int) ≥ 0))
  (ldL h s_17 3 fun a27 l27 c27 =>
  req (0 ≤ (n26 : Int) ∧ (n26 : Int) < (l27 : Nat))
  (nz a27 fun b28 o29 =>
  ldI .i64 h b28 ((o29 + n26.toNat * 2) + 1) fun n30 =>
  ifB ((n30 : Int) == id_19)
  (ldRow h s_17 0 0 [.int .i64, .int .i64, .slice, .slice] fun n31 n32 a33 l33 c33 a34 l34 c34 =>
  callK Try.prog 51 ⟨[.agg ⟨[.int .i64 n31, .int .i64 n32, .slice a33 l33 c33, .slice a34 l34 c34]⟩, .int .i64 k_20]⟩ h fun v35 h =>
  elF False (.agg [.int .i64, .int .i64, .slice, .slice]) v35 fun n36 n37 a38 l38 c38 a39 l39 c39 =>
  stRow h s_17 0 0 [.int .i64 n36, .int .i64 n37, .slice a38 l38 c38, .slice a39 l39 c39] fun h =>
  spec_l11Exit_l0 kx0 N s_17 b18 id_19 (IntKind.i64.wrap (k_20 + 1)) h)
  (spec_l11Exit_l0 kx0 N s_17 b18 id_19 (IntKind.i64.wrap (k_20 + 1)) h)))
  (spec_l11Exit_l0 kx0 N s_17 b18 id_19 (IntKind.i64.wrap (k_20 + 1)) h))
  (kx0 s_17 b18 h)

def spec_l11Exit (kr : Nat → H → Prop) (s_1 : Int) (s_2 : Int) (s_3 : Option Addr) (s_l3 : Nat) (s_c3 : Nat) (s_4 : Option Addr) (s_l4 : Nat) (s_c4 : Nat) (i_5 : Int) (h : H) : Prop :=
  new h [.int .i64 s_1, .int .i64 s_2, .slice s_3 s_l3 s_c3, .slice s_4 s_l4 s_c4] 32 fun b6 h =>
  new h [.int .i64 0, .int .i64 0, .slice none 0 0, .slice none 0 0] 32 fun b7 h =>
  ldL h b6 2 fun a8 l8 c8 =>
  req (0 ≤ (i_5 : Int) ∧ (i_5 : Int) < (l8 : Nat))
  (nz a8 fun b9 o10 =>
  ldI .i64 h b9 (o10 + i_5.toNat * 8) fun n11 =>
  ldL h b6 2 fun a12 l12 c12 =>
  req (0 ≤ (i_5 : Int) ∧ (i_5 : Int) ≤ (c12 : Nat))
  (req (plainA a12 = true)
  (ldL h b6 2 fun a13 l13 c13 =>
  req (0 ≤ (IntKind.i64.wrap (i_5 + 1) : Int) ∧ (IntKind.i64.wrap (i_5 + 1) : Int) ≤ (l13 : Nat))
  (req (plainA a13 = true)
  (new h [] 60 fun b14 h =>
  cell h b6 2 = some (.slice a13 l13 c13) ∧ (cell h b6 2 = some (.slice a12 l12 c12) ∧ (appendK Try.prog 60 h (some ⟨b14, 0, none⟩) 0 0 (.slice (slB a12 0 c12 8) (i_5.toNat - 0) (c12 - 0)) fun a15 l15 c15 h =>
  cell h b6 2 = some (.slice a13 l13 c13) ∧ (appendK Try.prog 60 h a15 l15 c15 (.slice (slB a13 ((IntKind.i64.wrap (i_5 + 1)).toNat) c13 8) (l13 - (IntKind.i64.wrap (i_5 + 1)).toNat) (c13 - (IntKind.i64.wrap (i_5 + 1)).toNat)) fun a16 l16 c16 h =>
  st h b6 2 (.slice a16 l16 c16) fun h =>
  ∃ M23, spec_l11Exit_l0 (fun s_17 b18 h =>
  ldRow h s_17 0 0 [.int .i64, .int .i64, .slice, .slice] fun n19 n20 a21 l21 c21 a22 l22 c22 =>
  stRow h b18 0 0 [.int .i64 n19, .int .i64 n20, .slice a21 l21 c21, .slice a22 l22 c22] fun h =>
  kr b18 h) M23 b6 b7 n11 0 h))))))))

theorem spec_l11Exit_l0_eq (K : Cont) (N : Nat) (s_17 : Nat) (b18 : Nat) (id_19 : Int) (k_20 : Int) (h : H) :
  spec_l11Exit_l0 (curV [(2, .blk), (4, .blk)] (K (.exit 0))) (N + 1) s_17 b18 id_19 k_20 h = evC Try.prog 50 [] [] (sub code34 [true, true, true, false, true, false, false]) [(2, .pointer (some ⟨s_17, 0, none⟩)), (4, .pointer (some ⟨b18, 0, none⟩)), (5, .int .i64 id_19), (6, .int .i64 k_20)] h ((outsOf none [(0, [(2, .blk), (4, .blk)])] none K).loop [(2, .blk), (4, .blk), (5, .int .i64), (6, .int .i64)] (spec_l11Exit_l0 (curV [(2, .blk), (4, .blk)] (K (.exit 0))) N)).K := by kernel_rfl

def spec_l11Exit_l0_F : PT := mkL [(2, .blk), (4, .blk), (5, .int .i64), (6, .int .i64)] fun K N => spec_l11Exit_l0 (curV [(2, .blk), (4, .blk)] (K (.exit 0))) N

theorem spec_l11Exit_l0_V : Valid Try.prog 50 (sub code34 [true, true, true, false, true, false]) spec_l11Exit_l0_F :=
  loop_at (code34) [true, true, true, false, true, false] (loop_piece (c := (sub code34 [true, true, true, false, true, false, false])) mixed rows_nil (fun K => by intro s_17 b18 id_19 k_20 h hd; exact hd) (fun K N => by intro s_17 b18 id_19 k_20 h hd; exact (spec_l11Exit_l0_eq K N s_17 b18 id_19 k_20 h) ▸ hd))

theorem spec_l11Exit_eq (K : Cont) (s_1 : Int) (s_2 : Int) (s_3 : Option Addr) (s_l3 : Nat) (s_c3 : Nat) (s_4 : Option Addr) (s_l4 : Nat) (s_c4 : Nat) (i_5 : Int) (h : H) :
  spec_l11Exit (curV [(4, .blk)] (K .ret)) s_1 s_2 s_3 s_l3 s_c3 s_4 s_l4 s_c4 i_5 h = evC Try.prog 50 [([false, false, true, false, true, true, true], spec_l11Exit_l0_F)] [] code34 [(0, .agg ⟨[.int .i64 s_1, .int .i64 s_2, .slice s_3 s_l3 s_c3, .slice s_4 s_l4 s_c4]⟩), (1, .int .i64 i_5)] h (outsOf none [] (some [(4, .blk)]) K).K := by kernel_rfl

def spec_l11Exit_F : PT := mkF [(0, .agg [.int .i64, .int .i64, .slice, .slice]), (1, .int .i64)] fun K => spec_l11Exit (curV [(4, .blk)] (K .ret))

theorem spec_l11Exit_V : Valid Try.prog 50 code34 spec_l11Exit_F :=
  piece mixed (rows_cons (q' := [true, true, true, false, true, false]) spec_l11Exit_l0_V rfl rows_nil) (fun K => by intro s_1 s_2 s_3 s_l3 s_c3 s_4 s_l4 s_c4 i_5 h hd; exact (spec_l11Exit_eq K s_1 s_2 s_3 s_l3 s_c3 s_4 s_l4 s_c4 i_5 h) ▸ hd)

theorem spec_l11Exit_c0 (s_1 : Int) (s_2 : Int) (s_3 : Option Addr) (s_l3 : Nat) (s_c3 : Nat) (s_4 : Option Addr) (s_l4 : Nat) (s_c4 : Nat) (i_5 : Int) (h : H) (K : Value → H → Prop) :
  spec_l11Exit (fun b100001 h =>
  ldRow h b100001 0 0 [.int .i64, .int .i64, .slice, .slice] fun n100002 n100003 a100004 l100004 c100004 a100005 l100005 c100005 =>
  K (.agg ⟨[.int .i64 n100002, .int .i64 n100003, .slice a100004 l100004 c100004, .slice a100005 l100005 c100005]⟩) h) s_1 s_2 s_3 s_l3 s_c3 s_4 s_l4 s_c4 i_5 h = callF Try.prog Try.f34.results.toList spec_l11Exit_F [.agg ⟨[.int .i64 s_1, .int .i64 s_2, .slice s_3 s_l3 s_c3, .slice s_4 s_l4 s_c4]⟩, .int .i64 i_5] h K := by kernel_rfl

theorem spec_l11Exit_call {s_1 : Int} {s_2 : Int} {s_3 : Option Addr} {s_l3 : Nat} {s_c3 : Nat} {s_4 : Option Addr} {s_l4 : Nat} {s_c4 : Nat} {i_5 : Int} {h : H} {K : Value → H → Prop} (hs : spec_l11Exit (fun b100001 h =>
  ldRow h b100001 0 0 [.int .i64, .int .i64, .slice, .slice] fun n100002 n100003 a100004 l100004 c100004 a100005 l100005 c100005 =>
  K (.agg ⟨[.int .i64 n100002, .int .i64 n100003, .slice a100004 l100004 c100004, .slice a100005 l100005 c100005]⟩) h) s_1 s_2 s_3 s_l3 s_c3 s_4 s_l4 s_c4 i_5 h) : callK Try.prog 34 ⟨[.agg ⟨[.int .i64 s_1, .int .i64 s_2, .slice s_3 s_l3 s_c3, .slice s_4 s_l4 s_c4]⟩, .int .i64 i_5]⟩ h K :=
  func_calls Try.func34 body34 spec_l11Exit_V (Nat.le_of_ble_eq_true (by kernel_rfl)) (spec_l11Exit_c0 s_1 s_2 s_3 s_l3 s_c3 s_4 s_l4 s_c4 i_5 h K ▸ hs)

def spec_l11Exit_M_l0 (kx0 : Int → Int → Option Addr → Nat → Nat → Option Addr → Nat → Nat → H → Prop) : Nat → Int → Int → Int → Int → Option Addr → Nat → Nat → Option Addr → Nat → Nat → H → Prop
 | 0, _, _, _, _, _, _, _, _, _, _, _ => False
 | N + 1, id_12, k_13, n14, n15, a16, l16, c16, a17, l17, c17, h =>
  ifB (decide ((k_13 : Int) < 16))
  (callD Try.prog 48 ⟨[.agg ⟨[.int .i64 n14, .int .i64 n15, .slice a16 l16 c16, .slice a17 l17 c17]⟩, .int .i64 k_13]⟩ h fun v24 h =>
  asI .i64 v24 fun n25 =>
  ifB (decide ((n25 : Int) ≥ 0))
  (req (0 ≤ (n25 : Int) ∧ (n25 : Int) < (l17 : Nat))
  (nz a17 fun b26 o27 =>
  ldI .i64 h b26 ((o27 + n25.toNat * 2) + 1) fun n28 =>
  ifB ((n28 : Int) == id_12)
  (callD Try.prog 51 ⟨[.agg ⟨[.int .i64 n14, .int .i64 n15, .slice a16 l16 c16, .slice a17 l17 c17]⟩, .int .i64 k_13]⟩ h fun v29 h =>
  elF False (.agg [.int .i64, .int .i64, .slice, .slice]) v29 fun n30 n31 a32 l32 c32 a33 l33 c33 =>
  spec_l11Exit_M_l0 kx0 N id_12 (IntKind.i64.wrap (k_13 + 1)) n30 n31 a32 l32 c32 a33 l33 c33 h)
  (spec_l11Exit_M_l0 kx0 N id_12 (IntKind.i64.wrap (k_13 + 1)) n14 n15 a16 l16 c16 a17 l17 c17 h)))
  (spec_l11Exit_M_l0 kx0 N id_12 (IntKind.i64.wrap (k_13 + 1)) n14 n15 a16 l16 c16 a17 l17 c17 h))
  (kx0 n14 n15 a16 l16 c16 a17 l17 c17 h)

def spec_l11Exit_M (kr : Int → Int → Option Addr → Nat → Nat → Option Addr → Nat → Nat → H → Prop) (s_1 : Int) (s_2 : Int) (s_3 : Option Addr) (s_l3 : Nat) (s_c3 : Nat) (s_4 : Option Addr) (s_l4 : Nat) (s_c4 : Nat) (i_5 : Int) (h : H) : Prop :=
  req (0 ≤ (i_5 : Int) ∧ (i_5 : Int) < (s_l3 : Nat))
  (nz s_3 fun b6 o7 =>
  ldI .i64 h b6 (o7 + i_5.toNat * 8) fun n8 =>
  req (0 ≤ (i_5 : Int) ∧ (i_5 : Int) ≤ (s_c3 : Nat))
  (req (plainA s_3 = true)
  (req (0 ≤ (IntKind.i64.wrap (i_5 + 1) : Int) ∧ (IntKind.i64.wrap (i_5 + 1) : Int) ≤ (s_l3 : Nat))
  (req (plainA s_3 = true)
  (newD h [] 60 fun b9 h =>
  appendD Try.prog 60 h (some ⟨b9, 0, none⟩) 0 0 (.slice (slB s_3 0 s_c3 8) (i_5.toNat - 0) (s_c3 - 0)) fun a10 l10 c10 h =>
  appendD Try.prog 60 h a10 l10 c10 (.slice (slB s_3 ((IntKind.i64.wrap (i_5 + 1)).toNat) s_c3 8) (s_l3 - (IntKind.i64.wrap (i_5 + 1)).toNat) (s_c3 - (IntKind.i64.wrap (i_5 + 1)).toNat)) fun a11 l11 c11 h =>
  ∃ M22, spec_l11Exit_M_l0 (fun n12 n13 a14 l14 c14 a15 l15 c15 h =>
  kr n12 n13 a14 l14 c14 a15 l15 c15 h) M22 n8 0 s_1 s_2 a11 l11 c11 s_4 s_l4 s_c4 h)))))

theorem spec_l11Exit_M_l0_D {g0 m0 : H} {kx0_1 : Nat → Nat → H → Prop} {kx0_2 : Int → Int → Option Addr → Nat → Nat → Option Addr → Nat → Nat → H → Prop} (Hkx0 : ∀ (n200001 : Int) (n200002 : Int) (a200003 : Option Addr) (l200003 : Nat) (c200003 : Nat) (a200004 : Option Addr) (l200004 : Nat) (c200004 : Nat) (n200006 : Int) (n200007 : Int) (a200008 : Option Addr) (l200008 : Nat) (c200008 : Nat) (a200009 : Option Addr) (l200009 : Nat) (c200009 : Nat) (p200005 : Nat) (p200010 : Nat) (g m : H), Md g0 m0 g m [lo p200005 [.int .i64 n200001, .int .i64 n200002, .slice a200003 l200003 c200003, .slice a200004 l200004 c200004], lo p200010 [.int .i64 n200006, .int .i64 n200007, .slice a200008 l200008 c200008, .slice a200009 l200009 c200009]] → kx0_2 n200001 n200002 a200003 l200003 c200003 a200004 l200004 c200004 m → kx0_1 p200005 p200010 g) : ∀ (N : Nat) (id_1012 : Int) (k_1013 : Int) (n1014 : Int) (n1015 : Int) (a1016 : Option Addr) (l1016 : Nat) (c1016 : Nat) (a1017 : Option Addr) (l1017 : Nat) (c1017 : Nat) (n1019 : Int) (n1020 : Int) (a1021 : Option Addr) (l1021 : Nat) (c1021 : Nat) (a1022 : Option Addr) (l1022 : Nat) (c1022 : Nat) (p1018 : Nat) (p1023 : Nat) (g m : H), Md g0 m0 g m [lo p1018 [.int .i64 n1014, .int .i64 n1015, .slice a1016 l1016 c1016, .slice a1017 l1017 c1017], lo p1023 [.int .i64 n1019, .int .i64 n1020, .slice a1021 l1021 c1021, .slice a1022 l1022 c1022]] → spec_l11Exit_M_l0 kx0_2 N id_1012 k_1013 n1014 n1015 a1016 l1016 c1016 a1017 l1017 c1017 m → spec_l11Exit_l0 kx0_1 N p1018 p1023 id_1012 k_1013 g := by
  intro N
  induction N with
  | zero => intro id_1012 k_1013 n1014 n1015 a1016 l1016 c1016 a1017 l1017 c1017 n1019 n1020 a1021 l1021 c1021 a1022 l1022 c1022 p1018 p1023 g m R h0; exact h0.elim
  | succ N ih =>
    intro id_1012 k_1013 n1014 n1015 a1016 l1016 c1016 a1017 l1017 c1017 n1019 n1020 a1021 l1021 c1021 a1022 l1022 c1022 p1018 p1023 g m R
    rw [spec_l11Exit_M_l0, spec_l11Exit_l0]
    exact (d_if (p_row_I2L2 R rfl rfl rfl rfl (d_call R fun v1024 g m R =>
  (d_asI fun n1025 =>
  (d_if (p_ldL R rfl (d_req (d_nz fun b1026 o1027 =>
  (d_ldI R fun n1028 =>
  (d_if (p_row_I2L2 R rfl rfl rfl rfl (d_call R fun v1029 g m R =>
  (d_el_AI2L2E fun n1030 n1031 a1032 l1032 c1032 a1033 l1033 c1033 =>
  (p_stRow R (cs' := [.int .i64 n1030, .int .i64 n1031, .slice a1032 l1032 c1032, .slice a1033 l1033 c1033]) ⟨rfl, rfl, rfl⟩ fun g R =>
  (ih id_1012 (IntKind.i64.wrap (k_1013 + 1)) n1030 n1031 a1032 l1032 c1032 a1033 l1033 c1033 n1019 n1020 a1021 l1021 c1021 a1022 l1022 c1022 p1018 p1023 _ _ R.sub)))))
  (ih id_1012 (IntKind.i64.wrap (k_1013 + 1)) n1014 n1015 a1016 l1016 c1016 a1017 l1017 c1017 n1019 n1020 a1021 l1021 c1021 a1022 l1022 c1022 p1018 p1023 _ _ R.sub))))))
  (ih id_1012 (IntKind.i64.wrap (k_1013 + 1)) n1014 n1015 a1016 l1016 c1016 a1017 l1017 c1017 n1019 n1020 a1021 l1021 c1021 a1022 l1022 c1022 p1018 p1023 _ _ R.sub)))))
  (Hkx0 n1014 n1015 a1016 l1016 c1016 a1017 l1017 c1017 n1019 n1020 a1021 l1021 c1021 a1022 l1022 c1022 p1018 p1023 _ _ R.sub))

theorem spec_l11Exit_M_D {g0 m0 : H} {kr_1 : Nat → H → Prop} {kr_2 : Int → Int → Option Addr → Nat → Nat → Option Addr → Nat → Nat → H → Prop} (Hkr : ∀ (n200001 : Int) (n200002 : Int) (a200003 : Option Addr) (l200003 : Nat) (c200003 : Nat) (a200004 : Option Addr) (l200004 : Nat) (c200004 : Nat) (p200005 : Nat) (g m : H), Md g0 m0 g m [lo p200005 [.int .i64 n200001, .int .i64 n200002, .slice a200003 l200003 c200003, .slice a200004 l200004 c200004]] → kr_2 n200001 n200002 a200003 l200003 c200003 a200004 l200004 c200004 m → kr_1 p200005 g) : ∀ (s_1001 : Int) (s_1002 : Int) (s_1003 : Option Addr) (s_l1003 : Nat) (s_c1003 : Nat) (s_1004 : Option Addr) (s_l1004 : Nat) (s_c1004 : Nat) (i_1005 : Int) (g m : H), Md g0 m0 g m [] → spec_l11Exit_M kr_2 s_1001 s_1002 s_1003 s_l1003 s_c1003 s_1004 s_l1004 s_c1004 i_1005 m → spec_l11Exit kr_1 s_1001 s_1002 s_1003 s_l1003 s_c1003 s_1004 s_l1004 s_c1004 i_1005 g := by
  intro s_1001 s_1002 s_1003 s_l1003 s_c1003 s_1004 s_l1004 s_c1004 i_1005 g m R
  rw [spec_l11Exit_M, spec_l11Exit]
  exact (p_new R fun p1006 g R =>
  (p_new R fun p1007 g R =>
  (p_ldL R rfl (d_req (d_nz fun b1008 o1009 =>
  (d_ldI R fun n1010 =>
  (p_ldL R rfl (d_req (d_req (p_ldL R rfl (d_req (d_req (d_new R fun b1011 g m R =>
  (p_cell R rfl (p_cell R rfl (d_append R fun a1012 l1012 c1012 g m R =>
  (p_cell R rfl (d_append R fun a1013 l1013 c1013 g m R =>
  (p_st R (cs' := [.int .i64 s_1001, .int .i64 s_1002, .slice a1013 l1013 c1013, .slice s_1004 s_l1004 s_c1004]) ⟨rfl, rfl⟩ fun g R =>
  (d_ex fun N => spec_l11Exit_M_l0_D (by exact fun n1014 n1015 a1016 l1016 c1016 a1017 l1017 c1017 n1019 n1020 a1021 l1021 c1021 a1022 l1022 c1022 p1018 p1023 g m R =>
  (p_row_I2L2 R rfl rfl rfl rfl (p_stRow R (cs' := [.int .i64 n1014, .int .i64 n1015, .slice a1016 l1016 c1016, .slice a1017 l1017 c1017]) ⟨rfl, rfl, rfl⟩ fun g R =>
  (Hkr n1014 n1015 a1016 l1016 c1016 a1017 l1017 c1017 p1023 _ _ R.sub)))) N n1010 0 s_1001 s_1002 a1013 l1013 c1013 s_1004 s_l1004 s_c1004 0 0 none 0 0 none 0 0 p1006 p1007 _ _ R.sub))))))))))))))))))))

theorem spec_l11Exit_M_call {s_1 : Int} {s_2 : Int} {s_3 : Option Addr} {s_l3 : Nat} {s_c3 : Nat} {s_4 : Option Addr} {s_l4 : Nat} {s_c4 : Nat} {i_5 : Int} {h : H} {K : Value → H → Prop} (hs : spec_l11Exit_M (fun n300001 n300002 a300003 l300003 c300003 a300004 l300004 c300004 h =>
  K (.agg ⟨[.int .i64 n300001, .int .i64 n300002, .slice a300003 l300003 c300003, .slice a300004 l300004 c300004]⟩) h) s_1 s_2 s_3 s_l3 s_c3 s_4 s_l4 s_c4 i_5 h) : callD Try.prog 34 ⟨[.agg ⟨[.int .i64 s_1, .int .i64 s_2, .slice s_3 s_l3 s_c3, .slice s_4 s_l4 s_c4]⟩, .int .i64 i_5]⟩ h K :=
  fun g r => spec_l11Exit_call (spec_l11Exit_M_D (by exact fun n300001 n300002 a300003 l300003 c300003 a300004 l300004 c300004 p300005 g m R =>
(p_row_I2L2 R rfl rfl rfl rfl (fun h => ⟨m, R.af, h⟩))) _ _ _ _ _ _ _ _ _ _ _ (Md.start r) hs)

noncomputable def code35 : Code := codeOf Try.f35
theorem body35 : Try.f35.body = some code35 := by kernel_rfl
def spec_l11Locking (kr : Nat → Nat → H → Prop) (s_1 : Int) (s_2 : Int) (s_3 : Option Addr) (s_l3 : Nat) (s_c3 : Nat) (s_4 : Option Addr) (s_l4 : Nat) (s_c4 : Nat) (i_5 : Int) (op_6 : Int) (op_7 : Int) (op_8 : Int) (h : H) : Prop :=
  new h [.int .i64 s_1, .int .i64 s_2, .slice s_3 s_l3 s_c3, .slice s_4 s_l4 s_c4] 32 fun b9 h =>
  new h [.int .i64 op_6, .int .i64 op_7, .int .i64 op_8] 38 fun b10 h =>
  new h [.int .i64 0, .int .i64 0, .slice none 0 0, .slice none 0 0] 32 fun b11 h =>
  new h [.int .i64 0, .int .i64 0] 34 fun b12 h =>
  ldI .i64 h b10 2 fun n13 =>
  ifB (decide ((n13 : Int) < 0))
  (ldRow h b9 0 0 [.int .i64, .int .i64, .slice, .slice] fun n14 n15 a16 l16 c16 a17 l17 c17 =>
  stRow h b11 0 0 [.int .i64 n14, .int .i64 n15, .slice a16 l16 c16, .slice a17 l17 c17] fun h =>
  stRow h b12 0 0 [.int .i64 1, .int .i64 0] fun h =>
  kr b11 b12 h)
  (ldI .i64 h b10 2 fun n18 =>
  ifB (decide ((n18 : Int) ≥ 16))
  (ldRow h b9 0 0 [.int .i64, .int .i64, .slice, .slice] fun n19 n20 a21 l21 c21 a22 l22 c22 =>
  stRow h b11 0 0 [.int .i64 n19, .int .i64 n20, .slice a21 l21 c21, .slice a22 l22 c22] fun h =>
  stRow h b12 0 0 [.int .i64 1, .int .i64 0] fun h =>
  kr b11 b12 h)
  (ldL h b9 2 fun a23 l23 c23 =>
  req (0 ≤ (i_5 : Int) ∧ (i_5 : Int) < (l23 : Nat))
  (nz a23 fun b24 o25 =>
  ldI .i64 h b24 ((o25 + i_5.toNat * 8) + 2) fun n26 =>
  ifB ((n26 : Int) != 1)
  (ldRow h b9 0 0 [.int .i64, .int .i64, .slice, .slice] fun n27 n28 a29 l29 c29 a30 l30 c30 =>
  stRow h b11 0 0 [.int .i64 n27, .int .i64 n28, .slice a29 l29 c29, .slice a30 l30 c30] fun h =>
  stRow h b12 0 0 [.int .i64 21, .int .i64 0] fun h =>
  kr b11 b12 h)
  (ldI .i64 h b10 0 fun n31 =>
  ifB ((n31 : Int) == 4)
  (ldRow h b9 0 0 [.int .i64, .int .i64, .slice, .slice] fun n32 n33 a34 l34 c34 a35 l35 c35 =>
  ldI .i64 h b10 2 fun n36 =>
  callK Try.prog 52 ⟨[.agg ⟨[.int .i64 n32, .int .i64 n33, .slice a34 l34 c34, .slice a35 l35 c35]⟩, .int .i64 i_5, .int .i64 n36]⟩ h fun v37 h =>
  elF False (.tuple [.agg [.int .i64, .int .i64, .slice, .slice], .agg [.int .i64, .int .i64]]) v37 fun n38 n39 a40 l40 c40 a41 l41 c41 n42 n43 =>
  stRow h b11 0 0 [.int .i64 n38, .int .i64 n39, .slice a40 l40 c40, .slice a41 l41 c41] fun h =>
  stRow h b12 0 0 [.int .i64 n42, .int .i64 n43] fun h =>
  kr b11 b12 h)
  (ldRow h b9 0 0 [.int .i64, .int .i64, .slice, .slice] fun n44 n45 a46 l46 c46 a47 l47 c47 =>
  ldI .i64 h b10 2 fun n48 =>
  callK Try.prog 48 ⟨[.agg ⟨[.int .i64 n44, .int .i64 n45, .slice a46 l46 c46, .slice a47 l47 c47]⟩, .int .i64 n48]⟩ h fun v49 h =>
  asI .i64 v49 fun n50 =>
  ifB (decide ((n50 : Int) < 0))
  (ldRow h b9 0 0 [.int .i64, .int .i64, .slice, .slice] fun n51 n52 a53 l53 c53 a54 l54 c54 =>
  stRow h b11 0 0 [.int .i64 n51, .int .i64 n52, .slice a53 l53 c53, .slice a54 l54 c54] fun h =>
  stRow h b12 0 0 [.int .i64 2, .int .i64 0] fun h =>
  kr b11 b12 h)
  (ldL h b9 3 fun a55 l55 c55 =>
  req (0 ≤ (n50 : Int) ∧ (n50 : Int) < (l55 : Nat))
  (nz a55 fun b56 o57 =>
  ldI .i64 h b56 ((o57 + n50.toNat * 2) + 1) fun n58 =>
  ldI .i64 h b10 1 fun n59 =>
  ifB ((n58 : Int) != n59)
  (ldRow h b9 0 0 [.int .i64, .int .i64, .slice, .slice] fun n60 n61 a62 l62 c62 a63 l63 c63 =>
  stRow h b11 0 0 [.int .i64 n60, .int .i64 n61, .slice a62 l62 c62, .slice a63 l63 c63] fun h =>
  stRow h b12 0 0 [.int .i64 2, .int .i64 0] fun h =>
  kr b11 b12 h)
  (ldRow h b9 0 0 [.int .i64, .int .i64, .slice, .slice] fun n64 n65 a66 l66 c66 a67 l67 c67 =>
  ldI .i64 h b10 2 fun n68 =>
  callK Try.prog 51 ⟨[.agg ⟨[.int .i64 n64, .int .i64 n65, .slice a66 l66 c66, .slice a67 l67 c67]⟩, .int .i64 n68]⟩ h fun v69 h =>
  elF False (.agg [.int .i64, .int .i64, .slice, .slice]) v69 fun n70 n71 a72 l72 c72 a73 l73 c73 =>
  stRow h b11 0 0 [.int .i64 n70, .int .i64 n71, .slice a72 l72 c72, .slice a73 l73 c73] fun h =>
  stRow h b12 0 0 [.int .i64 0, .int .i64 0] fun h =>
  kr b11 b12 h))))))))

theorem spec_l11Locking_eq (K : Cont) (s_1 : Int) (s_2 : Int) (s_3 : Option Addr) (s_l3 : Nat) (s_c3 : Nat) (s_4 : Option Addr) (s_l4 : Nat) (s_c4 : Nat) (i_5 : Int) (op_6 : Int) (op_7 : Int) (op_8 : Int) (h : H) :
  spec_l11Locking (curV [(6, .blk), (7, .blk)] (K .ret)) s_1 s_2 s_3 s_l3 s_c3 s_4 s_l4 s_c4 i_5 op_6 op_7 op_8 h = evC Try.prog 62 [] [] code35 [(0, .agg ⟨[.int .i64 s_1, .int .i64 s_2, .slice s_3 s_l3 s_c3, .slice s_4 s_l4 s_c4]⟩), (1, .int .i64 i_5), (2, .agg ⟨[.int .i64 op_6, .int .i64 op_7, .int .i64 op_8]⟩)] h (outsOf none [] (some [(6, .blk), (7, .blk)]) K).K := by kernel_rfl

def spec_l11Locking_F : PT := mkF [(0, .agg [.int .i64, .int .i64, .slice, .slice]), (1, .int .i64), (2, .agg [.int .i64, .int .i64, .int .i64])] fun K => spec_l11Locking (curV [(6, .blk), (7, .blk)] (K .ret))

theorem spec_l11Locking_V : Valid Try.prog 62 code35 spec_l11Locking_F :=
  piece mixed rows_nil (fun K => by intro s_1 s_2 s_3 s_l3 s_c3 s_4 s_l4 s_c4 i_5 op_6 op_7 op_8 h hd; exact (spec_l11Locking_eq K s_1 s_2 s_3 s_l3 s_c3 s_4 s_l4 s_c4 i_5 op_6 op_7 op_8 h) ▸ hd)

theorem spec_l11Locking_c0 (s_1 : Int) (s_2 : Int) (s_3 : Option Addr) (s_l3 : Nat) (s_c3 : Nat) (s_4 : Option Addr) (s_l4 : Nat) (s_c4 : Nat) (i_5 : Int) (op_6 : Int) (op_7 : Int) (op_8 : Int) (h : H) (K : Value → H → Prop) :
  spec_l11Locking (fun b100001 b100002 h =>
  ldRow h b100001 0 0 [.int .i64, .int .i64, .slice, .slice] fun n100003 n100004 a100005 l100005 c100005 a100006 l100006 c100006 =>
  ldRow h b100002 0 0 [.int .i64, .int .i64] fun n100007 n100008 =>
  K (.tuple ⟨[.agg ⟨[.int .i64 n100003, .int .i64 n100004, .slice a100005 l100005 c100005, .slice a100006 l100006 c100006]⟩, .agg ⟨[.int .i64 n100007, .int .i64 n100008]⟩]⟩) h) s_1 s_2 s_3 s_l3 s_c3 s_4 s_l4 s_c4 i_5 op_6 op_7 op_8 h = callF Try.prog Try.f35.results.toList spec_l11Locking_F [.agg ⟨[.int .i64 s_1, .int .i64 s_2, .slice s_3 s_l3 s_c3, .slice s_4 s_l4 s_c4]⟩, .int .i64 i_5, .agg ⟨[.int .i64 op_6, .int .i64 op_7, .int .i64 op_8]⟩] h K := by kernel_rfl

theorem spec_l11Locking_call {s_1 : Int} {s_2 : Int} {s_3 : Option Addr} {s_l3 : Nat} {s_c3 : Nat} {s_4 : Option Addr} {s_l4 : Nat} {s_c4 : Nat} {i_5 : Int} {op_6 : Int} {op_7 : Int} {op_8 : Int} {h : H} {K : Value → H → Prop} (hs : spec_l11Locking (fun b100001 b100002 h =>
  ldRow h b100001 0 0 [.int .i64, .int .i64, .slice, .slice] fun n100003 n100004 a100005 l100005 c100005 a100006 l100006 c100006 =>
  ldRow h b100002 0 0 [.int .i64, .int .i64] fun n100007 n100008 =>
  K (.tuple ⟨[.agg ⟨[.int .i64 n100003, .int .i64 n100004, .slice a100005 l100005 c100005, .slice a100006 l100006 c100006]⟩, .agg ⟨[.int .i64 n100007, .int .i64 n100008]⟩]⟩) h) s_1 s_2 s_3 s_l3 s_c3 s_4 s_l4 s_c4 i_5 op_6 op_7 op_8 h) : callK Try.prog 35 ⟨[.agg ⟨[.int .i64 s_1, .int .i64 s_2, .slice s_3 s_l3 s_c3, .slice s_4 s_l4 s_c4]⟩, .int .i64 i_5, .agg ⟨[.int .i64 op_6, .int .i64 op_7, .int .i64 op_8]⟩]⟩ h K :=
  func_calls Try.func35 body35 spec_l11Locking_V (Nat.le_of_ble_eq_true (by kernel_rfl)) (spec_l11Locking_c0 s_1 s_2 s_3 s_l3 s_c3 s_4 s_l4 s_c4 i_5 op_6 op_7 op_8 h K ▸ hs)

def spec_l11Locking_M (kr : Int → Int → Option Addr → Nat → Nat → Option Addr → Nat → Nat → Int → Int → H → Prop) (s_1 : Int) (s_2 : Int) (s_3 : Option Addr) (s_l3 : Nat) (s_c3 : Nat) (s_4 : Option Addr) (s_l4 : Nat) (s_c4 : Nat) (i_5 : Int) (op_6 : Int) (op_7 : Int) (op_8 : Int) (h : H) : Prop :=
  ifB (decide ((op_8 : Int) < 0))
  (kr s_1 s_2 s_3 s_l3 s_c3 s_4 s_l4 s_c4 1 0 h)
  (ifB (decide ((op_8 : Int) ≥ 16))
  (kr s_1 s_2 s_3 s_l3 s_c3 s_4 s_l4 s_c4 1 0 h)
  (req (0 ≤ (i_5 : Int) ∧ (i_5 : Int) < (s_l3 : Nat))
  (nz s_3 fun b9 o10 =>
  ldI .i64 h b9 ((o10 + i_5.toNat * 8) + 2) fun n11 =>
  ifB ((n11 : Int) != 1)
  (kr s_1 s_2 s_3 s_l3 s_c3 s_4 s_l4 s_c4 21 0 h)
  (ifB ((op_6 : Int) == 4)
  (callD Try.prog 52 ⟨[.agg ⟨[.int .i64 s_1, .int .i64 s_2, .slice s_3 s_l3 s_c3, .slice s_4 s_l4 s_c4]⟩, .int .i64 i_5, .int .i64 op_8]⟩ h fun v12 h =>
  elF False (.tuple [.agg [.int .i64, .int .i64, .slice, .slice], .agg [.int .i64, .int .i64]]) v12 fun n13 n14 a15 l15 c15 a16 l16 c16 n17 n18 =>
  kr n13 n14 a15 l15 c15 a16 l16 c16 n17 n18 h)
  (callD Try.prog 48 ⟨[.agg ⟨[.int .i64 s_1, .int .i64 s_2, .slice s_3 s_l3 s_c3, .slice s_4 s_l4 s_c4]⟩, .int .i64 op_8]⟩ h fun v19 h =>
  asI .i64 v19 fun n20 =>
  ifB (decide ((n20 : Int) < 0))
  (kr s_1 s_2 s_3 s_l3 s_c3 s_4 s_l4 s_c4 2 0 h)
  (req (0 ≤ (n20 : Int) ∧ (n20 : Int) < (s_l4 : Nat))
  (nz s_4 fun b21 o22 =>
  ldI .i64 h b21 ((o22 + n20.toNat * 2) + 1) fun n23 =>
  ifB ((n23 : Int) != op_7)
  (kr s_1 s_2 s_3 s_l3 s_c3 s_4 s_l4 s_c4 2 0 h)
  (callD Try.prog 51 ⟨[.agg ⟨[.int .i64 s_1, .int .i64 s_2, .slice s_3 s_l3 s_c3, .slice s_4 s_l4 s_c4]⟩, .int .i64 op_8]⟩ h fun v24 h =>
  elF False (.agg [.int .i64, .int .i64, .slice, .slice]) v24 fun n25 n26 a27 l27 c27 a28 l28 c28 =>
  kr n25 n26 a27 l27 c27 a28 l28 c28 0 0 h))))))))

theorem spec_l11Locking_M_D {g0 m0 : H} {kr_1 : Nat → Nat → H → Prop} {kr_2 : Int → Int → Option Addr → Nat → Nat → Option Addr → Nat → Nat → Int → Int → H → Prop} (Hkr : ∀ (n200001 : Int) (n200002 : Int) (a200003 : Option Addr) (l200003 : Nat) (c200003 : Nat) (a200004 : Option Addr) (l200004 : Nat) (c200004 : Nat) (n200006 : Int) (n200007 : Int) (p200005 : Nat) (p200008 : Nat) (g m : H), Md g0 m0 g m [lo p200005 [.int .i64 n200001, .int .i64 n200002, .slice a200003 l200003 c200003, .slice a200004 l200004 c200004], lo p200008 [.int .i64 n200006, .int .i64 n200007]] → kr_2 n200001 n200002 a200003 l200003 c200003 a200004 l200004 c200004 n200006 n200007 m → kr_1 p200005 p200008 g) : ∀ (s_1001 : Int) (s_1002 : Int) (s_1003 : Option Addr) (s_l1003 : Nat) (s_c1003 : Nat) (s_1004 : Option Addr) (s_l1004 : Nat) (s_c1004 : Nat) (i_1005 : Int) (op_1006 : Int) (op_1007 : Int) (op_1008 : Int) (g m : H), Md g0 m0 g m [] → spec_l11Locking_M kr_2 s_1001 s_1002 s_1003 s_l1003 s_c1003 s_1004 s_l1004 s_c1004 i_1005 op_1006 op_1007 op_1008 m → spec_l11Locking kr_1 s_1001 s_1002 s_1003 s_l1003 s_c1003 s_1004 s_l1004 s_c1004 i_1005 op_1006 op_1007 op_1008 g := by
  intro s_1001 s_1002 s_1003 s_l1003 s_c1003 s_1004 s_l1004 s_c1004 i_1005 op_1006 op_1007 op_1008 g m R
  rw [spec_l11Locking_M, spec_l11Locking]
  exact (p_new R fun p1009 g R =>
  (p_new R fun p1010 g R =>
  (p_new R fun p1011 g R =>
  (p_new R fun p1012 g R =>
  (p_ldI R rfl (d_if (p_row_I2L2 R rfl rfl rfl rfl (p_stRow R (cs' := [.int .i64 s_1001, .int .i64 s_1002, .slice s_1003 s_l1003 s_c1003, .slice s_1004 s_l1004 s_c1004]) ⟨rfl, rfl, rfl⟩ fun g R =>
  (p_stRow R (cs' := [.int .i64 1, .int .i64 0]) ⟨rfl, rfl, rfl⟩ fun g R =>
  (Hkr s_1001 s_1002 s_1003 s_l1003 s_c1003 s_1004 s_l1004 s_c1004 1 0 p1011 p1012 _ _ R.sub))))
  (p_ldI R rfl (d_if (p_row_I2L2 R rfl rfl rfl rfl (p_stRow R (cs' := [.int .i64 s_1001, .int .i64 s_1002, .slice s_1003 s_l1003 s_c1003, .slice s_1004 s_l1004 s_c1004]) ⟨rfl, rfl, rfl⟩ fun g R =>
  (p_stRow R (cs' := [.int .i64 1, .int .i64 0]) ⟨rfl, rfl, rfl⟩ fun g R =>
  (Hkr s_1001 s_1002 s_1003 s_l1003 s_c1003 s_1004 s_l1004 s_c1004 1 0 p1011 p1012 _ _ R.sub))))
  (p_ldL R rfl (d_req (d_nz fun b1013 o1014 =>
  (d_ldI R fun n1015 =>
  (d_if (p_row_I2L2 R rfl rfl rfl rfl (p_stRow R (cs' := [.int .i64 s_1001, .int .i64 s_1002, .slice s_1003 s_l1003 s_c1003, .slice s_1004 s_l1004 s_c1004]) ⟨rfl, rfl, rfl⟩ fun g R =>
  (p_stRow R (cs' := [.int .i64 21, .int .i64 0]) ⟨rfl, rfl, rfl⟩ fun g R =>
  (Hkr s_1001 s_1002 s_1003 s_l1003 s_c1003 s_1004 s_l1004 s_c1004 21 0 p1011 p1012 _ _ R.sub))))
  (p_ldI R rfl (d_if (p_row_I2L2 R rfl rfl rfl rfl (p_ldI R rfl (d_call R fun v1016 g m R =>
  (d_el_TAI2L2EAI2EE fun n1017 n1018 a1019 l1019 c1019 a1020 l1020 c1020 n1021 n1022 =>
  (p_stRow R (cs' := [.int .i64 n1017, .int .i64 n1018, .slice a1019 l1019 c1019, .slice a1020 l1020 c1020]) ⟨rfl, rfl, rfl⟩ fun g R =>
  (p_stRow R (cs' := [.int .i64 n1021, .int .i64 n1022]) ⟨rfl, rfl, rfl⟩ fun g R =>
  (Hkr n1017 n1018 a1019 l1019 c1019 a1020 l1020 c1020 n1021 n1022 p1011 p1012 _ _ R.sub)))))))
  (p_row_I2L2 R rfl rfl rfl rfl (p_ldI R rfl (d_call R fun v1023 g m R =>
  (d_asI fun n1024 =>
  (d_if (p_row_I2L2 R rfl rfl rfl rfl (p_stRow R (cs' := [.int .i64 s_1001, .int .i64 s_1002, .slice s_1003 s_l1003 s_c1003, .slice s_1004 s_l1004 s_c1004]) ⟨rfl, rfl, rfl⟩ fun g R =>
  (p_stRow R (cs' := [.int .i64 2, .int .i64 0]) ⟨rfl, rfl, rfl⟩ fun g R =>
  (Hkr s_1001 s_1002 s_1003 s_l1003 s_c1003 s_1004 s_l1004 s_c1004 2 0 p1011 p1012 _ _ R.sub))))
  (p_ldL R rfl (d_req (d_nz fun b1025 o1026 =>
  (d_ldI R fun n1027 =>
  (p_ldI R rfl (d_if (p_row_I2L2 R rfl rfl rfl rfl (p_stRow R (cs' := [.int .i64 s_1001, .int .i64 s_1002, .slice s_1003 s_l1003 s_c1003, .slice s_1004 s_l1004 s_c1004]) ⟨rfl, rfl, rfl⟩ fun g R =>
  (p_stRow R (cs' := [.int .i64 2, .int .i64 0]) ⟨rfl, rfl, rfl⟩ fun g R =>
  (Hkr s_1001 s_1002 s_1003 s_l1003 s_c1003 s_1004 s_l1004 s_c1004 2 0 p1011 p1012 _ _ R.sub))))
  (p_row_I2L2 R rfl rfl rfl rfl (p_ldI R rfl (d_call R fun v1028 g m R =>
  (d_el_AI2L2E fun n1029 n1030 a1031 l1031 c1031 a1032 l1032 c1032 =>
  (p_stRow R (cs' := [.int .i64 n1029, .int .i64 n1030, .slice a1031 l1031 c1031, .slice a1032 l1032 c1032]) ⟨rfl, rfl, rfl⟩ fun g R =>
  (p_stRow R (cs' := [.int .i64 0, .int .i64 0]) ⟨rfl, rfl, rfl⟩ fun g R =>
  (Hkr n1029 n1030 a1031 l1031 c1031 a1032 l1032 c1032 0 0 p1011 p1012 _ _ R.sub)))))))))))))))))))))))))))))))))

theorem spec_l11Locking_M_call {s_1 : Int} {s_2 : Int} {s_3 : Option Addr} {s_l3 : Nat} {s_c3 : Nat} {s_4 : Option Addr} {s_l4 : Nat} {s_c4 : Nat} {i_5 : Int} {op_6 : Int} {op_7 : Int} {op_8 : Int} {h : H} {K : Value → H → Prop} (hs : spec_l11Locking_M (fun n300001 n300002 a300003 l300003 c300003 a300004 l300004 c300004 n300006 n300007 h =>
  K (.tuple ⟨[.agg ⟨[.int .i64 n300001, .int .i64 n300002, .slice a300003 l300003 c300003, .slice a300004 l300004 c300004]⟩, .agg ⟨[.int .i64 n300006, .int .i64 n300007]⟩]⟩) h) s_1 s_2 s_3 s_l3 s_c3 s_4 s_l4 s_c4 i_5 op_6 op_7 op_8 h) : callD Try.prog 35 ⟨[.agg ⟨[.int .i64 s_1, .int .i64 s_2, .slice s_3 s_l3 s_c3, .slice s_4 s_l4 s_c4]⟩, .int .i64 i_5, .agg ⟨[.int .i64 op_6, .int .i64 op_7, .int .i64 op_8]⟩]⟩ h K :=
  fun g r => spec_l11Locking_call (spec_l11Locking_M_D (by exact fun n300001 n300002 a300003 l300003 c300003 a300004 l300004 c300004 n300006 n300007 p300005 p300008 g m R =>
(p_row_I2L2 R rfl rfl rfl rfl (p_row_I2 R rfl rfl (fun h => ⟨m, R.af, h⟩)))) _ _ _ _ _ _ _ _ _ _ _ _ _ _ (Md.start r) hs)

noncomputable def code36 : Code := codeOf Try.f36
theorem body36 : Try.f36.body = some code36 := by kernel_rfl
def spec_l11Stand (kr : Nat → H → Prop) (s_1 : Int) (s_2 : Int) (s_3 : Option Addr) (s_l3 : Nat) (s_c3 : Nat) (s_4 : Option Addr) (s_l4 : Nat) (s_c4 : Nat) (i_5 : Int) (since_6 : Int) (h : H) : Prop :=
  new h [.int .i64 s_1, .int .i64 s_2, .slice s_3 s_l3 s_c3, .slice s_4 s_l4 s_c4] 32 fun b7 h =>
  new h [.int .i64 0, .int .i64 0, .slice none 0 0, .slice none 0 0] 32 fun b8 h =>
  ldI .i64 h b7 1 fun n9 =>
  st h b7 1 (.int .i64 (IntKind.i64.wrap (n9 + 1))) fun h =>
  ldL h b7 2 fun a10 l10 c10 =>
  req (0 ≤ (i_5 : Int) ∧ (i_5 : Int) < (l10 : Nat))
  (nz a10 fun b11 o12 =>
  ldRow h b11 (o12 + i_5.toNat * 8) 0 [.int .i64, .int .i64, .int .i64, .int .i64, .int .i64, .int .i64, .int .i64, .int .i64] fun n13 n14 n15 n16 n17 n18 n19 n20 =>
  new h [.int .i64 0, .int .i64 0, .int .i64 0, .int .i64 0, .int .i64 0, .int .i64 0, .int .i64 0, .int .i64 0] 60 fun b21 h =>
  stRow h b21 0 0 [.int .i64 n13, .int .i64 n14, .int .i64 n15, .int .i64 n16, .int .i64 n17, .int .i64 n18, .int .i64 n19, .int .i64 n20] fun h =>
  ldL h b7 2 fun a22 l22 c22 =>
  ldI .i64 h b21 0 fun n23 =>
  ldI .i64 h b21 1 fun n24 =>
  ldI .i64 h b7 1 fun n25 =>
  req (0 ≤ (i_5 : Int) ∧ (i_5 : Int) < (l22 : Nat))
  (nz a22 fun b26 o27 =>
  stRow h b26 (o27 + i_5.toNat * 8) 0 [.int .i64 n23, .int .i64 n24, .int .i64 1, .int .i64 n25, .int .i64 4, .int .i64 since_6, .int .i64 0, .int .i64 (-1)] fun h =>
  ldRow h b7 0 0 [.int .i64, .int .i64, .slice, .slice] fun n28 n29 a30 l30 c30 a31 l31 c31 =>
  stRow h b8 0 0 [.int .i64 n28, .int .i64 n29, .slice a30 l30 c30, .slice a31 l31 c31] fun h =>
  kr b8 h))

theorem spec_l11Stand_eq (K : Cont) (s_1 : Int) (s_2 : Int) (s_3 : Option Addr) (s_l3 : Nat) (s_c3 : Nat) (s_4 : Option Addr) (s_l4 : Nat) (s_c4 : Nat) (i_5 : Int) (since_6 : Int) (h : H) :
  spec_l11Stand (curV [(6, .blk)] (K .ret)) s_1 s_2 s_3 s_l3 s_c3 s_4 s_l4 s_c4 i_5 since_6 h = evC Try.prog 30 [] [] code36 [(0, .agg ⟨[.int .i64 s_1, .int .i64 s_2, .slice s_3 s_l3 s_c3, .slice s_4 s_l4 s_c4]⟩), (1, .int .i64 i_5), (2, .int .i64 since_6)] h (outsOf none [] (some [(6, .blk)]) K).K := by kernel_rfl

def spec_l11Stand_F : PT := mkF [(0, .agg [.int .i64, .int .i64, .slice, .slice]), (1, .int .i64), (2, .int .i64)] fun K => spec_l11Stand (curV [(6, .blk)] (K .ret))

theorem spec_l11Stand_V : Valid Try.prog 30 code36 spec_l11Stand_F :=
  piece mixed rows_nil (fun K => by intro s_1 s_2 s_3 s_l3 s_c3 s_4 s_l4 s_c4 i_5 since_6 h hd; exact (spec_l11Stand_eq K s_1 s_2 s_3 s_l3 s_c3 s_4 s_l4 s_c4 i_5 since_6 h) ▸ hd)

theorem spec_l11Stand_c0 (s_1 : Int) (s_2 : Int) (s_3 : Option Addr) (s_l3 : Nat) (s_c3 : Nat) (s_4 : Option Addr) (s_l4 : Nat) (s_c4 : Nat) (i_5 : Int) (since_6 : Int) (h : H) (K : Value → H → Prop) :
  spec_l11Stand (fun b100001 h =>
  ldRow h b100001 0 0 [.int .i64, .int .i64, .slice, .slice] fun n100002 n100003 a100004 l100004 c100004 a100005 l100005 c100005 =>
  K (.agg ⟨[.int .i64 n100002, .int .i64 n100003, .slice a100004 l100004 c100004, .slice a100005 l100005 c100005]⟩) h) s_1 s_2 s_3 s_l3 s_c3 s_4 s_l4 s_c4 i_5 since_6 h = callF Try.prog Try.f36.results.toList spec_l11Stand_F [.agg ⟨[.int .i64 s_1, .int .i64 s_2, .slice s_3 s_l3 s_c3, .slice s_4 s_l4 s_c4]⟩, .int .i64 i_5, .int .i64 since_6] h K := by kernel_rfl

theorem spec_l11Stand_call {s_1 : Int} {s_2 : Int} {s_3 : Option Addr} {s_l3 : Nat} {s_c3 : Nat} {s_4 : Option Addr} {s_l4 : Nat} {s_c4 : Nat} {i_5 : Int} {since_6 : Int} {h : H} {K : Value → H → Prop} (hs : spec_l11Stand (fun b100001 h =>
  ldRow h b100001 0 0 [.int .i64, .int .i64, .slice, .slice] fun n100002 n100003 a100004 l100004 c100004 a100005 l100005 c100005 =>
  K (.agg ⟨[.int .i64 n100002, .int .i64 n100003, .slice a100004 l100004 c100004, .slice a100005 l100005 c100005]⟩) h) s_1 s_2 s_3 s_l3 s_c3 s_4 s_l4 s_c4 i_5 since_6 h) : callK Try.prog 36 ⟨[.agg ⟨[.int .i64 s_1, .int .i64 s_2, .slice s_3 s_l3 s_c3, .slice s_4 s_l4 s_c4]⟩, .int .i64 i_5, .int .i64 since_6]⟩ h K :=
  func_calls Try.func36 body36 spec_l11Stand_V (Nat.le_of_ble_eq_true (by kernel_rfl)) (spec_l11Stand_c0 s_1 s_2 s_3 s_l3 s_c3 s_4 s_l4 s_c4 i_5 since_6 h K ▸ hs)

def spec_l11Stand_M (kr : Int → Int → Option Addr → Nat → Nat → Option Addr → Nat → Nat → H → Prop) (s_1 : Int) (s_2 : Int) (s_3 : Option Addr) (s_l3 : Nat) (s_c3 : Nat) (s_4 : Option Addr) (s_l4 : Nat) (s_c4 : Nat) (i_5 : Int) (since_6 : Int) (h : H) : Prop :=
  req (0 ≤ (i_5 : Int) ∧ (i_5 : Int) < (s_l3 : Nat))
  (nz s_3 fun b7 o8 =>
  ldRow h b7 (o8 + i_5.toNat * 8) 0 [.int .i64, .int .i64, .int .i64, .int .i64, .int .i64, .int .i64, .int .i64, .int .i64] fun n9 n10 n11 n12 n13 n14 n15 n16 =>
  req (0 ≤ (i_5 : Int) ∧ (i_5 : Int) < (s_l3 : Nat))
  (nz s_3 fun b17 o18 =>
  stRow h b17 (o18 + i_5.toNat * 8) 0 [.int .i64 n9, .int .i64 n10, .int .i64 1, .int .i64 (IntKind.i64.wrap (s_2 + 1)), .int .i64 4, .int .i64 since_6, .int .i64 0, .int .i64 (-1)] fun h =>
  kr s_1 (IntKind.i64.wrap (s_2 + 1)) s_3 s_l3 s_c3 s_4 s_l4 s_c4 h))

theorem spec_l11Stand_M_D {g0 m0 : H} {kr_1 : Nat → H → Prop} {kr_2 : Int → Int → Option Addr → Nat → Nat → Option Addr → Nat → Nat → H → Prop} (Hkr : ∀ (n200001 : Int) (n200002 : Int) (a200003 : Option Addr) (l200003 : Nat) (c200003 : Nat) (a200004 : Option Addr) (l200004 : Nat) (c200004 : Nat) (p200005 : Nat) (g m : H), Md g0 m0 g m [lo p200005 [.int .i64 n200001, .int .i64 n200002, .slice a200003 l200003 c200003, .slice a200004 l200004 c200004]] → kr_2 n200001 n200002 a200003 l200003 c200003 a200004 l200004 c200004 m → kr_1 p200005 g) : ∀ (s_1001 : Int) (s_1002 : Int) (s_1003 : Option Addr) (s_l1003 : Nat) (s_c1003 : Nat) (s_1004 : Option Addr) (s_l1004 : Nat) (s_c1004 : Nat) (i_1005 : Int) (since_1006 : Int) (g m : H), Md g0 m0 g m [] → spec_l11Stand_M kr_2 s_1001 s_1002 s_1003 s_l1003 s_c1003 s_1004 s_l1004 s_c1004 i_1005 since_1006 m → spec_l11Stand kr_1 s_1001 s_1002 s_1003 s_l1003 s_c1003 s_1004 s_l1004 s_c1004 i_1005 since_1006 g := by
  intro s_1001 s_1002 s_1003 s_l1003 s_c1003 s_1004 s_l1004 s_c1004 i_1005 since_1006 g m R
  rw [spec_l11Stand_M, spec_l11Stand]
  exact (p_new R fun p1007 g R =>
  (p_new R fun p1008 g R =>
  (p_ldI R rfl (p_st R (cs' := [.int .i64 s_1001, .int .i64 (IntKind.i64.wrap (s_1002 + 1)), .slice s_1003 s_l1003 s_c1003, .slice s_1004 s_l1004 s_c1004]) ⟨rfl, rfl⟩ fun g R =>
  (p_ldL R rfl (d_req (d_nz fun b1009 o1010 =>
  (d_row_I8 R fun n1011 n1012 n1013 n1014 n1015 n1016 n1017 n1018 =>
  (p_new R fun p1019 g R =>
  (p_stRow R (cs' := [.int .i64 n1011, .int .i64 n1012, .int .i64 n1013, .int .i64 n1014, .int .i64 n1015, .int .i64 n1016, .int .i64 n1017, .int .i64 n1018]) ⟨rfl, rfl, rfl⟩ fun g R =>
  (p_ldL R rfl (p_ldI R rfl (p_ldI R rfl (p_ldI R rfl (d_req (d_nz fun b1020 o1021 =>
  (d_stRow R fun g m R =>
  (p_row_I2L2 R rfl rfl rfl rfl (p_stRow R (cs' := [.int .i64 s_1001, .int .i64 (IntKind.i64.wrap (s_1002 + 1)), .slice s_1003 s_l1003 s_c1003, .slice s_1004 s_l1004 s_c1004]) ⟨rfl, rfl, rfl⟩ fun g R =>
  (Hkr s_1001 (IntKind.i64.wrap (s_1002 + 1)) s_1003 s_l1003 s_c1003 s_1004 s_l1004 s_c1004 p1008 _ _ R.sub))))))))))))))))))))

theorem spec_l11Stand_M_call {s_1 : Int} {s_2 : Int} {s_3 : Option Addr} {s_l3 : Nat} {s_c3 : Nat} {s_4 : Option Addr} {s_l4 : Nat} {s_c4 : Nat} {i_5 : Int} {since_6 : Int} {h : H} {K : Value → H → Prop} (hs : spec_l11Stand_M (fun n300001 n300002 a300003 l300003 c300003 a300004 l300004 c300004 h =>
  K (.agg ⟨[.int .i64 n300001, .int .i64 n300002, .slice a300003 l300003 c300003, .slice a300004 l300004 c300004]⟩) h) s_1 s_2 s_3 s_l3 s_c3 s_4 s_l4 s_c4 i_5 since_6 h) : callD Try.prog 36 ⟨[.agg ⟨[.int .i64 s_1, .int .i64 s_2, .slice s_3 s_l3 s_c3, .slice s_4 s_l4 s_c4]⟩, .int .i64 i_5, .int .i64 since_6]⟩ h K :=
  fun g r => spec_l11Stand_call (spec_l11Stand_M_D (by exact fun n300001 n300002 a300003 l300003 c300003 a300004 l300004 c300004 p300005 g m R =>
(p_row_I2L2 R rfl rfl rfl rfl (fun h => ⟨m, R.af, h⟩))) _ _ _ _ _ _ _ _ _ _ _ _ (Md.start r) hs)

noncomputable def code37 : Code := codeOf Try.f37
theorem body37 : Try.f37.body = some code37 := by kernel_rfl
def laws_toThread (kr : Nat → H → Prop) (a_1 : Int) (a_2 : Int) (a_3 : Int) (a_4 : Int) (a_5 : Int) (a_6 : Int) (a_7 : Int) (a_8 : Int) (h : H) : Prop :=
  new h [.int .i64 a_1, .int .i64 a_2, .int .i64 a_3, .int .i64 a_4, .int .i64 a_5, .int .i64 a_6, .int .i64 a_7, .int .i64 a_8] 69 fun b9 h =>
  new h [.int .i64 0, .int .i64 0, .int .i64 0, .int .i64 0, .int .i64 0, .int .i64 0, .int .i64 0, .int .i64 0] 60 fun b10 h =>
  new h [.int .i64 0, .int .i64 0, .int .i64 0, .int .i64 0, .int .i64 0, .int .i64 0, .int .i64 0, .int .i64 0] 60 fun b11 h =>
  ldI .i64 h b9 0 fun n12 =>
  st h b11 0 (.int .i64 n12) fun h =>
  ldI .i64 h b9 1 fun n13 =>
  st h b11 1 (.int .i64 n13) fun h =>
  ldI .i64 h b9 2 fun n14 =>
  st h b11 2 (.int .i64 n14) fun h =>
  ldI .i64 h b9 3 fun n15 =>
  st h b11 3 (.int .i64 n15) fun h =>
  ldI .i64 h b9 4 fun n16 =>
  st h b11 4 (.int .i64 n16) fun h =>
  ldI .i64 h b9 5 fun n17 =>
  st h b11 5 (.int .i64 n17) fun h =>
  ldI .i64 h b9 6 fun n18 =>
  st h b11 6 (.int .i64 n18) fun h =>
  ldI .i64 h b9 7 fun n19 =>
  st h b11 7 (.int .i64 n19) fun h =>
  ldRow h b11 0 0 [.int .i64, .int .i64, .int .i64, .int .i64, .int .i64, .int .i64, .int .i64, .int .i64] fun n20 n21 n22 n23 n24 n25 n26 n27 =>
  stRow h b10 0 0 [.int .i64 n20, .int .i64 n21, .int .i64 n22, .int .i64 n23, .int .i64 n24, .int .i64 n25, .int .i64 n26, .int .i64 n27] fun h =>
  kr b10 h

theorem laws_toThread_eq (K : Cont) (a_1 : Int) (a_2 : Int) (a_3 : Int) (a_4 : Int) (a_5 : Int) (a_6 : Int) (a_7 : Int) (a_8 : Int) (h : H) :
  laws_toThread (curV [(2, .blk)] (K .ret)) a_1 a_2 a_3 a_4 a_5 a_6 a_7 a_8 h = evC Try.prog 29 [] [] code37 [(0, .agg ⟨[.int .i64 a_1, .int .i64 a_2, .int .i64 a_3, .int .i64 a_4, .int .i64 a_5, .int .i64 a_6, .int .i64 a_7, .int .i64 a_8]⟩)] h (outsOf none [] (some [(2, .blk)]) K).K := by kernel_rfl

def laws_toThread_F : PT := mkF [(0, .agg [.int .i64, .int .i64, .int .i64, .int .i64, .int .i64, .int .i64, .int .i64, .int .i64])] fun K => laws_toThread (curV [(2, .blk)] (K .ret))

theorem laws_toThread_V : Valid Try.prog 29 code37 laws_toThread_F :=
  piece mixed rows_nil (fun K => by intro a_1 a_2 a_3 a_4 a_5 a_6 a_7 a_8 h hd; exact (laws_toThread_eq K a_1 a_2 a_3 a_4 a_5 a_6 a_7 a_8 h) ▸ hd)

theorem laws_toThread_c0 (a_1 : Int) (a_2 : Int) (a_3 : Int) (a_4 : Int) (a_5 : Int) (a_6 : Int) (a_7 : Int) (a_8 : Int) (h : H) (K : Value → H → Prop) :
  laws_toThread (fun b100001 h =>
  ldRow h b100001 0 0 [.int .i64, .int .i64, .int .i64, .int .i64, .int .i64, .int .i64, .int .i64, .int .i64] fun n100002 n100003 n100004 n100005 n100006 n100007 n100008 n100009 =>
  K (.agg ⟨[.int .i64 n100002, .int .i64 n100003, .int .i64 n100004, .int .i64 n100005, .int .i64 n100006, .int .i64 n100007, .int .i64 n100008, .int .i64 n100009]⟩) h) a_1 a_2 a_3 a_4 a_5 a_6 a_7 a_8 h = callF Try.prog Try.f37.results.toList laws_toThread_F [.agg ⟨[.int .i64 a_1, .int .i64 a_2, .int .i64 a_3, .int .i64 a_4, .int .i64 a_5, .int .i64 a_6, .int .i64 a_7, .int .i64 a_8]⟩] h K := by kernel_rfl

theorem laws_toThread_call {a_1 : Int} {a_2 : Int} {a_3 : Int} {a_4 : Int} {a_5 : Int} {a_6 : Int} {a_7 : Int} {a_8 : Int} {h : H} {K : Value → H → Prop} (hs : laws_toThread (fun b100001 h =>
  ldRow h b100001 0 0 [.int .i64, .int .i64, .int .i64, .int .i64, .int .i64, .int .i64, .int .i64, .int .i64] fun n100002 n100003 n100004 n100005 n100006 n100007 n100008 n100009 =>
  K (.agg ⟨[.int .i64 n100002, .int .i64 n100003, .int .i64 n100004, .int .i64 n100005, .int .i64 n100006, .int .i64 n100007, .int .i64 n100008, .int .i64 n100009]⟩) h) a_1 a_2 a_3 a_4 a_5 a_6 a_7 a_8 h) : callK Try.prog 37 ⟨[.agg ⟨[.int .i64 a_1, .int .i64 a_2, .int .i64 a_3, .int .i64 a_4, .int .i64 a_5, .int .i64 a_6, .int .i64 a_7, .int .i64 a_8]⟩]⟩ h K :=
  func_calls Try.func37 body37 laws_toThread_V (Nat.le_of_ble_eq_true (by kernel_rfl)) (laws_toThread_c0 a_1 a_2 a_3 a_4 a_5 a_6 a_7 a_8 h K ▸ hs)

def laws_toThread_M (kr : Int → Int → Int → Int → Int → Int → Int → Int → H → Prop) (a_1 : Int) (a_2 : Int) (a_3 : Int) (a_4 : Int) (a_5 : Int) (a_6 : Int) (a_7 : Int) (a_8 : Int) (h : H) : Prop :=
  kr a_1 a_2 a_3 a_4 a_5 a_6 a_7 a_8 h

theorem laws_toThread_M_D {g0 m0 : H} {kr_1 : Nat → H → Prop} {kr_2 : Int → Int → Int → Int → Int → Int → Int → Int → H → Prop} (Hkr : ∀ (n200001 : Int) (n200002 : Int) (n200003 : Int) (n200004 : Int) (n200005 : Int) (n200006 : Int) (n200007 : Int) (n200008 : Int) (p200009 : Nat) (g m : H), Md g0 m0 g m [lo p200009 [.int .i64 n200001, .int .i64 n200002, .int .i64 n200003, .int .i64 n200004, .int .i64 n200005, .int .i64 n200006, .int .i64 n200007, .int .i64 n200008]] → kr_2 n200001 n200002 n200003 n200004 n200005 n200006 n200007 n200008 m → kr_1 p200009 g) : ∀ (a_1001 : Int) (a_1002 : Int) (a_1003 : Int) (a_1004 : Int) (a_1005 : Int) (a_1006 : Int) (a_1007 : Int) (a_1008 : Int) (g m : H), Md g0 m0 g m [] → laws_toThread_M kr_2 a_1001 a_1002 a_1003 a_1004 a_1005 a_1006 a_1007 a_1008 m → laws_toThread kr_1 a_1001 a_1002 a_1003 a_1004 a_1005 a_1006 a_1007 a_1008 g := by
  intro a_1001 a_1002 a_1003 a_1004 a_1005 a_1006 a_1007 a_1008 g m R
  rw [laws_toThread_M, laws_toThread]
  exact (p_new R fun p1009 g R =>
  (p_new R fun p1010 g R =>
  (p_new R fun p1011 g R =>
  (p_ldI R rfl (p_st R (cs' := [.int .i64 a_1001, .int .i64 0, .int .i64 0, .int .i64 0, .int .i64 0, .int .i64 0, .int .i64 0, .int .i64 0]) ⟨rfl, rfl⟩ fun g R =>
  (p_ldI R rfl (p_st R (cs' := [.int .i64 a_1001, .int .i64 a_1002, .int .i64 0, .int .i64 0, .int .i64 0, .int .i64 0, .int .i64 0, .int .i64 0]) ⟨rfl, rfl⟩ fun g R =>
  (p_ldI R rfl (p_st R (cs' := [.int .i64 a_1001, .int .i64 a_1002, .int .i64 a_1003, .int .i64 0, .int .i64 0, .int .i64 0, .int .i64 0, .int .i64 0]) ⟨rfl, rfl⟩ fun g R =>
  (p_ldI R rfl (p_st R (cs' := [.int .i64 a_1001, .int .i64 a_1002, .int .i64 a_1003, .int .i64 a_1004, .int .i64 0, .int .i64 0, .int .i64 0, .int .i64 0]) ⟨rfl, rfl⟩ fun g R =>
  (p_ldI R rfl (p_st R (cs' := [.int .i64 a_1001, .int .i64 a_1002, .int .i64 a_1003, .int .i64 a_1004, .int .i64 a_1005, .int .i64 0, .int .i64 0, .int .i64 0]) ⟨rfl, rfl⟩ fun g R =>
  (p_ldI R rfl (p_st R (cs' := [.int .i64 a_1001, .int .i64 a_1002, .int .i64 a_1003, .int .i64 a_1004, .int .i64 a_1005, .int .i64 a_1006, .int .i64 0, .int .i64 0]) ⟨rfl, rfl⟩ fun g R =>
  (p_ldI R rfl (p_st R (cs' := [.int .i64 a_1001, .int .i64 a_1002, .int .i64 a_1003, .int .i64 a_1004, .int .i64 a_1005, .int .i64 a_1006, .int .i64 a_1007, .int .i64 0]) ⟨rfl, rfl⟩ fun g R =>
  (p_ldI R rfl (p_st R (cs' := [.int .i64 a_1001, .int .i64 a_1002, .int .i64 a_1003, .int .i64 a_1004, .int .i64 a_1005, .int .i64 a_1006, .int .i64 a_1007, .int .i64 a_1008]) ⟨rfl, rfl⟩ fun g R =>
  (p_row_I8 R rfl rfl rfl rfl rfl rfl rfl rfl (p_stRow R (cs' := [.int .i64 a_1001, .int .i64 a_1002, .int .i64 a_1003, .int .i64 a_1004, .int .i64 a_1005, .int .i64 a_1006, .int .i64 a_1007, .int .i64 a_1008]) ⟨rfl, rfl, rfl⟩ fun g R =>
  (Hkr a_1001 a_1002 a_1003 a_1004 a_1005 a_1006 a_1007 a_1008 p1010 _ _ R.sub))))))))))))))))))))))

theorem laws_toThread_M_call {a_1 : Int} {a_2 : Int} {a_3 : Int} {a_4 : Int} {a_5 : Int} {a_6 : Int} {a_7 : Int} {a_8 : Int} {h : H} {K : Value → H → Prop} (hs : laws_toThread_M (fun n300001 n300002 n300003 n300004 n300005 n300006 n300007 n300008 h =>
  K (.agg ⟨[.int .i64 n300001, .int .i64 n300002, .int .i64 n300003, .int .i64 n300004, .int .i64 n300005, .int .i64 n300006, .int .i64 n300007, .int .i64 n300008]⟩) h) a_1 a_2 a_3 a_4 a_5 a_6 a_7 a_8 h) : callD Try.prog 37 ⟨[.agg ⟨[.int .i64 a_1, .int .i64 a_2, .int .i64 a_3, .int .i64 a_4, .int .i64 a_5, .int .i64 a_6, .int .i64 a_7, .int .i64 a_8]⟩]⟩ h K :=
  fun g r => laws_toThread_call (laws_toThread_M_D (by exact fun n300001 n300002 n300003 n300004 n300005 n300006 n300007 n300008 p300009 g m R =>
(p_row_I8 R rfl rfl rfl rfl rfl rfl rfl rfl (fun h => ⟨m, R.af, h⟩))) _ _ _ _ _ _ _ _ _ _ (Md.start r) hs)

noncomputable def code38 : Code := codeOf Try.f38
theorem body38 : Try.f38.body = some code38 := by kernel_rfl
def laws_toLock (kr : Nat → H → Prop) (a_1 : Int) (a_2 : Int) (h : H) : Prop :=
  new h [.int .i64 a_1, .int .i64 a_2] 71 fun b3 h =>
  new h [.int .i64 0, .int .i64 0] 57 fun b4 h =>
  new h [.int .i64 0, .int .i64 0] 57 fun b5 h =>
  ldI .i64 h b3 0 fun n6 =>
  st h b5 0 (.int .i64 n6) fun h =>
  ldI .i64 h b3 1 fun n7 =>
  st h b5 1 (.int .i64 n7) fun h =>
  ldRow h b5 0 0 [.int .i64, .int .i64] fun n8 n9 =>
  stRow h b4 0 0 [.int .i64 n8, .int .i64 n9] fun h =>
  kr b4 h

theorem laws_toLock_eq (K : Cont) (a_1 : Int) (a_2 : Int) (h : H) :
  laws_toLock (curV [(2, .blk)] (K .ret)) a_1 a_2 h = evC Try.prog 11 [] [] code38 [(0, .agg ⟨[.int .i64 a_1, .int .i64 a_2]⟩)] h (outsOf none [] (some [(2, .blk)]) K).K := by kernel_rfl

def laws_toLock_F : PT := mkF [(0, .agg [.int .i64, .int .i64])] fun K => laws_toLock (curV [(2, .blk)] (K .ret))

theorem laws_toLock_V : Valid Try.prog 11 code38 laws_toLock_F :=
  piece mixed rows_nil (fun K => by intro a_1 a_2 h hd; exact (laws_toLock_eq K a_1 a_2 h) ▸ hd)

theorem laws_toLock_c0 (a_1 : Int) (a_2 : Int) (h : H) (K : Value → H → Prop) :
  laws_toLock (fun b100001 h =>
  ldRow h b100001 0 0 [.int .i64, .int .i64] fun n100002 n100003 =>
  K (.agg ⟨[.int .i64 n100002, .int .i64 n100003]⟩) h) a_1 a_2 h = callF Try.prog Try.f38.results.toList laws_toLock_F [.agg ⟨[.int .i64 a_1, .int .i64 a_2]⟩] h K := by kernel_rfl

theorem laws_toLock_call {a_1 : Int} {a_2 : Int} {h : H} {K : Value → H → Prop} (hs : laws_toLock (fun b100001 h =>
  ldRow h b100001 0 0 [.int .i64, .int .i64] fun n100002 n100003 =>
  K (.agg ⟨[.int .i64 n100002, .int .i64 n100003]⟩) h) a_1 a_2 h) : callK Try.prog 38 ⟨[.agg ⟨[.int .i64 a_1, .int .i64 a_2]⟩]⟩ h K :=
  func_calls Try.func38 body38 laws_toLock_V (Nat.le_of_ble_eq_true (by kernel_rfl)) (laws_toLock_c0 a_1 a_2 h K ▸ hs)

def laws_toLock_M (kr : Int → Int → H → Prop) (a_1 : Int) (a_2 : Int) (h : H) : Prop :=
  kr a_1 a_2 h

theorem laws_toLock_M_D {g0 m0 : H} {kr_1 : Nat → H → Prop} {kr_2 : Int → Int → H → Prop} (Hkr : ∀ (n200001 : Int) (n200002 : Int) (p200003 : Nat) (g m : H), Md g0 m0 g m [lo p200003 [.int .i64 n200001, .int .i64 n200002]] → kr_2 n200001 n200002 m → kr_1 p200003 g) : ∀ (a_1001 : Int) (a_1002 : Int) (g m : H), Md g0 m0 g m [] → laws_toLock_M kr_2 a_1001 a_1002 m → laws_toLock kr_1 a_1001 a_1002 g := by
  intro a_1001 a_1002 g m R
  rw [laws_toLock_M, laws_toLock]
  exact (p_new R fun p1003 g R =>
  (p_new R fun p1004 g R =>
  (p_new R fun p1005 g R =>
  (p_ldI R rfl (p_st R (cs' := [.int .i64 a_1001, .int .i64 0]) ⟨rfl, rfl⟩ fun g R =>
  (p_ldI R rfl (p_st R (cs' := [.int .i64 a_1001, .int .i64 a_1002]) ⟨rfl, rfl⟩ fun g R =>
  (p_row_I2 R rfl rfl (p_stRow R (cs' := [.int .i64 a_1001, .int .i64 a_1002]) ⟨rfl, rfl, rfl⟩ fun g R =>
  (Hkr a_1001 a_1002 p1004 _ _ R.sub))))))))))

theorem laws_toLock_M_call {a_1 : Int} {a_2 : Int} {h : H} {K : Value → H → Prop} (hs : laws_toLock_M (fun n300001 n300002 h =>
  K (.agg ⟨[.int .i64 n300001, .int .i64 n300002]⟩) h) a_1 a_2 h) : callD Try.prog 38 ⟨[.agg ⟨[.int .i64 a_1, .int .i64 a_2]⟩]⟩ h K :=
  fun g r => laws_toLock_call (laws_toLock_M_D (by exact fun n300001 n300002 p300003 g m R =>
(p_row_I2 R rfl rfl (fun h => ⟨m, R.af, h⟩))) _ _ _ _ (Md.start r) hs)

noncomputable def code39 : Code := codeOf Try.f39
theorem body39 : Try.f39.body = some code39 := by kernel_rfl
def impl_Sched_lock_l0 (kx0 : H → Prop) (kr : Nat → Nat → H → Prop) : Nat → Option Addr → Int → Int → Int → H → Prop
 | 0, _, _, _, _, _ => False
 | N + 1, s_6, id_7, n8, n9, h =>
  ifB (decide ((n9 : Int) < n8))
  (nz s_6 fun b10 o11 =>
  ldL h b10 (o11 + 3) fun a12 l12 c12 =>
  req (0 ≤ (n9 : Int) ∧ (n9 : Int) < (l12 : Nat))
  (nz a12 fun b13 o14 =>
  ldI .i64 h b13 (o14 + n9.toNat * 2) fun n15 =>
  ifB ((n15 : Int) == id_7)
  (nz s_6 fun b16 o17 =>
  ldL h b16 (o17 + 3) fun a18 l18 c18 =>
  req (0 ≤ (n9 : Int) ∧ (n9 : Int) < (l18 : Nat))
  (nz a18 fun b19 o20 =>
  kr b19 (o20 + n9.toNat * 2) h))
  (impl_Sched_lock_l0 kx0 kr N s_6 id_7 n8 (IntKind.i64.wrap (n9 + 1)) h)))
  (kx0 h)

def impl_Sched_lock (kr : Option Addr → H → Prop) (s_1 : Option Addr) (id_2 : Int) (h : H) : Prop :=
  nz s_1 fun b3 o4 =>
  ldL h b3 (o4 + 3) fun a5 l5 c5 =>
  ∃ M8, impl_Sched_lock_l0 (fun h =>
  kr none h) (fun b6 o7 h =>
  kr (some ⟨b6, o7, none⟩) h) M8 s_1 id_2 (l5 : Nat) 0 h

theorem impl_Sched_lock_l0_eq (K : Cont) (N : Nat) (s_6 : Option Addr) (id_7 : Int) (n8 : Int) (n9 : Int) (h : H) :
  impl_Sched_lock_l0 (curV [] (K (.exit 0))) (curV [(4, .adr)] (K .ret)) (N + 1) s_6 id_7 n8 n9 h = evC Try.prog 31 [] [] (sub code39 [true, false, true, false, false]) [(0, .pointer s_6), (1, .int .i64 id_7), (10, .int .i64 n8), (11, .int .i64 n9)] h ((outsOf none [(0, [])] (some [(4, .adr)]) K).loop [(0, .ptr), (1, .int .i64), (10, .int .i64), (11, .int .i64)] (impl_Sched_lock_l0 (curV [] (K (.exit 0))) (curV [(4, .adr)] (K .ret)) N)).K := by kernel_rfl

def impl_Sched_lock_l0_F : PT := mkL [(0, .ptr), (1, .int .i64), (10, .int .i64), (11, .int .i64)] fun K N => impl_Sched_lock_l0 (curV [] (K (.exit 0))) (curV [(4, .adr)] (K .ret)) N

theorem impl_Sched_lock_l0_V : Valid Try.prog 31 (sub code39 [true, false, true, false]) impl_Sched_lock_l0_F :=
  loop_at (code39) [true, false, true, false] (loop_piece (c := (sub code39 [true, false, true, false, false])) mixed rows_nil (fun K => by intro s_6 id_7 n8 n9 h hd; exact hd) (fun K N => by intro s_6 id_7 n8 n9 h hd; exact (impl_Sched_lock_l0_eq K N s_6 id_7 n8 n9 h) ▸ hd))

theorem impl_Sched_lock_eq (K : Cont) (s_1 : Option Addr) (id_2 : Int) (h : H) :
  impl_Sched_lock (curV [(4, .ptr)] (K .ret)) s_1 id_2 h = evC Try.prog 31 [([false, false, true, false, true], impl_Sched_lock_l0_F)] [] code39 [(0, .pointer s_1), (1, .int .i64 id_2)] h (outsOf none [] (some [(4, .ptr)]) K).K := by kernel_rfl

def impl_Sched_lock_F : PT := mkF [(0, .ptr), (1, .int .i64)] fun K => impl_Sched_lock (curV [(4, .ptr)] (K .ret))

theorem impl_Sched_lock_V : Valid Try.prog 31 code39 impl_Sched_lock_F :=
  piece mixed (rows_cons (q' := [true, false, true, false]) impl_Sched_lock_l0_V rfl rows_nil) (fun K => by intro s_1 id_2 h hd; exact (impl_Sched_lock_eq K s_1 id_2 h) ▸ hd)

theorem impl_Sched_lock_c0 (s_1 : Option Addr) (id_2 : Int) (h : H) (K : Value → H → Prop) :
  impl_Sched_lock (fun p100001 h =>
  K (.pointer p100001) h) s_1 id_2 h = callF Try.prog Try.f39.results.toList impl_Sched_lock_F [.pointer s_1, .int .i64 id_2] h K := by kernel_rfl

theorem impl_Sched_lock_call {s_1 : Option Addr} {id_2 : Int} {h : H} {K : Value → H → Prop} (hs : impl_Sched_lock (fun p100001 h =>
  K (.pointer p100001) h) s_1 id_2 h) : callK Try.prog 39 ⟨[.pointer s_1, .int .i64 id_2]⟩ h K :=
  func_calls Try.func39 body39 impl_Sched_lock_V (Nat.le_of_ble_eq_true (by kernel_rfl)) (impl_Sched_lock_c0 s_1 id_2 h K ▸ hs)

def impl_Sched_lock_M_l0 (kx0 : H → Prop) (kr : Nat → Nat → H → Prop) : Nat → Option Addr → Int → Int → Int → H → Prop
 | 0, _, _, _, _, _ => False
 | N + 1, s_6, id_7, n8, n9, h =>
  ifB (decide ((n9 : Int) < n8))
  (nz s_6 fun b10 o11 =>
  ldL h b10 (o11 + 3) fun a12 l12 c12 =>
  req (0 ≤ (n9 : Int) ∧ (n9 : Int) < (l12 : Nat))
  (nz a12 fun b13 o14 =>
  ldI .i64 h b13 (o14 + n9.toNat * 2) fun n15 =>
  ifB ((n15 : Int) == id_7)
  (nz s_6 fun b16 o17 =>
  ldL h b16 (o17 + 3) fun a18 l18 c18 =>
  req (0 ≤ (n9 : Int) ∧ (n9 : Int) < (l18 : Nat))
  (nz a18 fun b19 o20 =>
  kr b19 (o20 + n9.toNat * 2) h))
  (impl_Sched_lock_M_l0 kx0 kr N s_6 id_7 n8 (IntKind.i64.wrap (n9 + 1)) h)))
  (kx0 h)

def impl_Sched_lock_M (kr : Option Addr → H → Prop) (s_1 : Option Addr) (id_2 : Int) (h : H) : Prop :=
  nz s_1 fun b3 o4 =>
  ldL h b3 (o4 + 3) fun a5 l5 c5 =>
  ∃ M8, impl_Sched_lock_M_l0 (fun h =>
  kr none h) (fun b6 o7 h =>
  kr (some ⟨b6, o7, none⟩) h) M8 s_1 id_2 (l5 : Nat) 0 h

theorem impl_Sched_lock_M_l0_D {g0 m0 : H} {kx0_1 : H → Prop} {kx0_2 : H → Prop} (Hkx0 : ∀ (g m : H), Md g0 m0 g m [] → kx0_2 m → kx0_1 g)
  {kr_1 : Nat → Nat → H → Prop} {kr_2 : Nat → Nat → H → Prop} (Hkr : ∀ (b200001 : Nat) (o200002 : Nat) (g m : H), Md g0 m0 g m [] → kr_2 b200001 o200002 m → kr_1 b200001 o200002 g) : ∀ (N : Nat) (s_1006 : Option Addr) (id_1007 : Int) (n1008 : Int) (n1009 : Int) (g m : H), Md g0 m0 g m [] → impl_Sched_lock_M_l0 kx0_2 kr_2 N s_1006 id_1007 n1008 n1009 m → impl_Sched_lock_l0 kx0_1 kr_1 N s_1006 id_1007 n1008 n1009 g := by
  intro N
  induction N with
  | zero => intro s_1006 id_1007 n1008 n1009 g m R h0; exact h0.elim
  | succ N ih =>
    intro s_1006 id_1007 n1008 n1009 g m R
    rw [impl_Sched_lock_M_l0, impl_Sched_lock_l0]
    exact (d_if (d_nz fun b1010 o1011 =>
  (d_ldL R fun a1012 l1012 c1012 =>
  (d_req (d_nz fun b1013 o1014 =>
  (d_ldI R fun n1015 =>
  (d_if (d_nz fun b1016 o1017 =>
  (d_ldL R fun a1018 l1018 c1018 =>
  (d_req (d_nz fun b1019 o1020 =>
  (Hkr b1019 (o1020 + n1009.toNat * 2) _ _ R.sub)))))
  (ih s_1006 id_1007 n1008 (IntKind.i64.wrap (n1009 + 1)) _ _ R.sub)))))))
  (Hkx0 _ _ R.sub))

theorem impl_Sched_lock_M_D {g0 m0 : H} {kr_1 : Option Addr → H → Prop} {kr_2 : Option Addr → H → Prop} (Hkr : ∀ (p200001 : Option Addr) (g m : H), Md g0 m0 g m [] → kr_2 p200001 m → kr_1 p200001 g) : ∀ (s_1001 : Option Addr) (id_1002 : Int) (g m : H), Md g0 m0 g m [] → impl_Sched_lock_M kr_2 s_1001 id_1002 m → impl_Sched_lock kr_1 s_1001 id_1002 g := by
  intro s_1001 id_1002 g m R
  rw [impl_Sched_lock_M, impl_Sched_lock]
  exact (d_nz fun b1003 o1004 =>
  (d_ldL R fun a1005 l1005 c1005 =>
  (d_ex fun N => impl_Sched_lock_M_l0_D (by exact fun g m R =>
  (Hkr none _ _ R.sub))
  (by exact fun b1006 o1007 g m R =>
  (Hkr (some ⟨b1006, o1007, none⟩) _ _ R.sub)) N s_1001 id_1002 (l1005 : Nat) 0 _ _ R.sub)))

theorem impl_Sched_lock_M_call {s_1 : Option Addr} {id_2 : Int} {h : H} {K : Value → H → Prop} (hs : impl_Sched_lock_M (fun p300001 h =>
  K (.pointer p300001) h) s_1 id_2 h) : callD Try.prog 39 ⟨[.pointer s_1, .int .i64 id_2]⟩ h K :=
  fun g r => impl_Sched_lock_call (impl_Sched_lock_M_D (by exact fun p300001 g m R =>
(fun h => ⟨m, R.af, h⟩)) _ _ _ _ (Md.start r) hs)

noncomputable def code40 : Code := codeOf Try.f40
theorem body40 : Try.f40.body = some code40 := by kernel_rfl
def impl_Sched_thread_l0 (kx0 : H → Prop) (kr : Nat → Nat → H → Prop) : Nat → Option Addr → Int → Int → Int → H → Prop
 | 0, _, _, _, _, _ => False
 | N + 1, s_6, id_7, n8, n9, h =>
  ifB (decide ((n9 : Int) < n8))
  (nz s_6 fun b10 o11 =>
  ldL h b10 (o11 + 2) fun a12 l12 c12 =>
  req (0 ≤ (n9 : Int) ∧ (n9 : Int) < (l12 : Nat))
  (nz a12 fun b13 o14 =>
  ldI .i64 h b13 (o14 + n9.toNat * 8) fun n15 =>
  ifB ((n15 : Int) == id_7)
  (nz s_6 fun b16 o17 =>
  ldL h b16 (o17 + 2) fun a18 l18 c18 =>
  req (0 ≤ (n9 : Int) ∧ (n9 : Int) < (l18 : Nat))
  (nz a18 fun b19 o20 =>
  kr b19 (o20 + n9.toNat * 8) h))
  (impl_Sched_thread_l0 kx0 kr N s_6 id_7 n8 (IntKind.i64.wrap (n9 + 1)) h)))
  (kx0 h)

def impl_Sched_thread (kr : Option Addr → H → Prop) (s_1 : Option Addr) (id_2 : Int) (h : H) : Prop :=
  nz s_1 fun b3 o4 =>
  ldL h b3 (o4 + 2) fun a5 l5 c5 =>
  ∃ M8, impl_Sched_thread_l0 (fun h =>
  kr none h) (fun b6 o7 h =>
  kr (some ⟨b6, o7, none⟩) h) M8 s_1 id_2 (l5 : Nat) 0 h

theorem impl_Sched_thread_l0_eq (K : Cont) (N : Nat) (s_6 : Option Addr) (id_7 : Int) (n8 : Int) (n9 : Int) (h : H) :
  impl_Sched_thread_l0 (curV [] (K (.exit 0))) (curV [(4, .adr)] (K .ret)) (N + 1) s_6 id_7 n8 n9 h = evC Try.prog 31 [] [] (sub code40 [true, false, true, false, false]) [(0, .pointer s_6), (1, .int .i64 id_7), (10, .int .i64 n8), (11, .int .i64 n9)] h ((outsOf none [(0, [])] (some [(4, .adr)]) K).loop [(0, .ptr), (1, .int .i64), (10, .int .i64), (11, .int .i64)] (impl_Sched_thread_l0 (curV [] (K (.exit 0))) (curV [(4, .adr)] (K .ret)) N)).K := by kernel_rfl

def impl_Sched_thread_l0_F : PT := mkL [(0, .ptr), (1, .int .i64), (10, .int .i64), (11, .int .i64)] fun K N => impl_Sched_thread_l0 (curV [] (K (.exit 0))) (curV [(4, .adr)] (K .ret)) N

theorem impl_Sched_thread_l0_V : Valid Try.prog 31 (sub code40 [true, false, true, false]) impl_Sched_thread_l0_F :=
  loop_at (code40) [true, false, true, false] (loop_piece (c := (sub code40 [true, false, true, false, false])) mixed rows_nil (fun K => by intro s_6 id_7 n8 n9 h hd; exact hd) (fun K N => by intro s_6 id_7 n8 n9 h hd; exact (impl_Sched_thread_l0_eq K N s_6 id_7 n8 n9 h) ▸ hd))

theorem impl_Sched_thread_eq (K : Cont) (s_1 : Option Addr) (id_2 : Int) (h : H) :
  impl_Sched_thread (curV [(4, .ptr)] (K .ret)) s_1 id_2 h = evC Try.prog 31 [([false, false, true, false, true], impl_Sched_thread_l0_F)] [] code40 [(0, .pointer s_1), (1, .int .i64 id_2)] h (outsOf none [] (some [(4, .ptr)]) K).K := by kernel_rfl

def impl_Sched_thread_F : PT := mkF [(0, .ptr), (1, .int .i64)] fun K => impl_Sched_thread (curV [(4, .ptr)] (K .ret))

theorem impl_Sched_thread_V : Valid Try.prog 31 code40 impl_Sched_thread_F :=
  piece mixed (rows_cons (q' := [true, false, true, false]) impl_Sched_thread_l0_V rfl rows_nil) (fun K => by intro s_1 id_2 h hd; exact (impl_Sched_thread_eq K s_1 id_2 h) ▸ hd)

theorem impl_Sched_thread_c0 (s_1 : Option Addr) (id_2 : Int) (h : H) (K : Value → H → Prop) :
  impl_Sched_thread (fun p100001 h =>
  K (.pointer p100001) h) s_1 id_2 h = callF Try.prog Try.f40.results.toList impl_Sched_thread_F [.pointer s_1, .int .i64 id_2] h K := by kernel_rfl

theorem impl_Sched_thread_call {s_1 : Option Addr} {id_2 : Int} {h : H} {K : Value → H → Prop} (hs : impl_Sched_thread (fun p100001 h =>
  K (.pointer p100001) h) s_1 id_2 h) : callK Try.prog 40 ⟨[.pointer s_1, .int .i64 id_2]⟩ h K :=
  func_calls Try.func40 body40 impl_Sched_thread_V (Nat.le_of_ble_eq_true (by kernel_rfl)) (impl_Sched_thread_c0 s_1 id_2 h K ▸ hs)

def impl_Sched_thread_M_l0 (kx0 : H → Prop) (kr : Nat → Nat → H → Prop) : Nat → Option Addr → Int → Int → Int → H → Prop
 | 0, _, _, _, _, _ => False
 | N + 1, s_6, id_7, n8, n9, h =>
  ifB (decide ((n9 : Int) < n8))
  (nz s_6 fun b10 o11 =>
  ldL h b10 (o11 + 2) fun a12 l12 c12 =>
  req (0 ≤ (n9 : Int) ∧ (n9 : Int) < (l12 : Nat))
  (nz a12 fun b13 o14 =>
  ldI .i64 h b13 (o14 + n9.toNat * 8) fun n15 =>
  ifB ((n15 : Int) == id_7)
  (nz s_6 fun b16 o17 =>
  ldL h b16 (o17 + 2) fun a18 l18 c18 =>
  req (0 ≤ (n9 : Int) ∧ (n9 : Int) < (l18 : Nat))
  (nz a18 fun b19 o20 =>
  kr b19 (o20 + n9.toNat * 8) h))
  (impl_Sched_thread_M_l0 kx0 kr N s_6 id_7 n8 (IntKind.i64.wrap (n9 + 1)) h)))
  (kx0 h)

def impl_Sched_thread_M (kr : Option Addr → H → Prop) (s_1 : Option Addr) (id_2 : Int) (h : H) : Prop :=
  nz s_1 fun b3 o4 =>
  ldL h b3 (o4 + 2) fun a5 l5 c5 =>
  ∃ M8, impl_Sched_thread_M_l0 (fun h =>
  kr none h) (fun b6 o7 h =>
  kr (some ⟨b6, o7, none⟩) h) M8 s_1 id_2 (l5 : Nat) 0 h

theorem impl_Sched_thread_M_l0_D {g0 m0 : H} {kx0_1 : H → Prop} {kx0_2 : H → Prop} (Hkx0 : ∀ (g m : H), Md g0 m0 g m [] → kx0_2 m → kx0_1 g)
  {kr_1 : Nat → Nat → H → Prop} {kr_2 : Nat → Nat → H → Prop} (Hkr : ∀ (b200001 : Nat) (o200002 : Nat) (g m : H), Md g0 m0 g m [] → kr_2 b200001 o200002 m → kr_1 b200001 o200002 g) : ∀ (N : Nat) (s_1006 : Option Addr) (id_1007 : Int) (n1008 : Int) (n1009 : Int) (g m : H), Md g0 m0 g m [] → impl_Sched_thread_M_l0 kx0_2 kr_2 N s_1006 id_1007 n1008 n1009 m → impl_Sched_thread_l0 kx0_1 kr_1 N s_1006 id_1007 n1008 n1009 g := by
  intro N
  induction N with
  | zero => intro s_1006 id_1007 n1008 n1009 g m R h0; exact h0.elim
  | succ N ih =>
    intro s_1006 id_1007 n1008 n1009 g m R
    rw [impl_Sched_thread_M_l0, impl_Sched_thread_l0]
    exact (d_if (d_nz fun b1010 o1011 =>
  (d_ldL R fun a1012 l1012 c1012 =>
  (d_req (d_nz fun b1013 o1014 =>
  (d_ldI R fun n1015 =>
  (d_if (d_nz fun b1016 o1017 =>
  (d_ldL R fun a1018 l1018 c1018 =>
  (d_req (d_nz fun b1019 o1020 =>
  (Hkr b1019 (o1020 + n1009.toNat * 8) _ _ R.sub)))))
  (ih s_1006 id_1007 n1008 (IntKind.i64.wrap (n1009 + 1)) _ _ R.sub)))))))
  (Hkx0 _ _ R.sub))

theorem impl_Sched_thread_M_D {g0 m0 : H} {kr_1 : Option Addr → H → Prop} {kr_2 : Option Addr → H → Prop} (Hkr : ∀ (p200001 : Option Addr) (g m : H), Md g0 m0 g m [] → kr_2 p200001 m → kr_1 p200001 g) : ∀ (s_1001 : Option Addr) (id_1002 : Int) (g m : H), Md g0 m0 g m [] → impl_Sched_thread_M kr_2 s_1001 id_1002 m → impl_Sched_thread kr_1 s_1001 id_1002 g := by
  intro s_1001 id_1002 g m R
  rw [impl_Sched_thread_M, impl_Sched_thread]
  exact (d_nz fun b1003 o1004 =>
  (d_ldL R fun a1005 l1005 c1005 =>
  (d_ex fun N => impl_Sched_thread_M_l0_D (by exact fun g m R =>
  (Hkr none _ _ R.sub))
  (by exact fun b1006 o1007 g m R =>
  (Hkr (some ⟨b1006, o1007, none⟩) _ _ R.sub)) N s_1001 id_1002 (l1005 : Nat) 0 _ _ R.sub)))

theorem impl_Sched_thread_M_call {s_1 : Option Addr} {id_2 : Int} {h : H} {K : Value → H → Prop} (hs : impl_Sched_thread_M (fun p300001 h =>
  K (.pointer p300001) h) s_1 id_2 h) : callD Try.prog 40 ⟨[.pointer s_1, .int .i64 id_2]⟩ h K :=
  fun g r => impl_Sched_thread_call (impl_Sched_thread_M_D (by exact fun p300001 g m R =>
(fun h => ⟨m, R.af, h⟩)) _ _ _ _ (Md.start r) hs)

noncomputable def code41 : Code := codeOf Try.f41
theorem body41 : Try.f41.body = some code41 := by kernel_rfl
def impl_Sched_schedWaits_l0 (kx0 : H → Prop) (kr : Bool → H → Prop) : Nat → Option Addr → Int → Int → Int → H → Prop
 | 0, _, _, _, _, _ => False
 | N + 1, s_4, n5, n6, n7, h =>
  ifB (decide ((n7 : Int) < 34))
  (callK Try.prog 40 ⟨[.pointer s_4, .int .i64 n5]⟩ h fun v8 h =>
  asP v8 fun p9 =>
  ifB p9.isNone
  (kr false h)
  (nz p9 fun b10 o11 =>
  ldI .i64 h b10 (o11 + 2) fun n12 =>
  ifB ((n12 : Int) != 2)
  (kr false h)
  (nz p9 fun b13 o14 =>
  ldI .i64 h b13 (o14 + 7) fun n15 =>
  callK Try.prog 39 ⟨[.pointer s_4, .int .i64 n15]⟩ h fun v16 h =>
  asP v16 fun p17 =>
  ifB p17.isNone
  (kr false h)
  (nz p17 fun b18 o19 =>
  ldI .i64 h b18 (o19 + 1) fun n20 =>
  ifB ((n20 : Int) == n6)
  (kr true h)
  (impl_Sched_schedWaits_l0 kx0 kr N s_4 n20 n6 (IntKind.i64.wrap (n7 + 1)) h)))))
  (kx0 h)

def impl_Sched_schedWaits (kr : Bool → H → Prop) (s_1 : Option Addr) (n2 : Int) (n3 : Int) (h : H) : Prop :=
  ∃ M4, impl_Sched_schedWaits_l0 (fun h =>
  kr false h) kr M4 s_1 n2 n3 0 h

theorem impl_Sched_schedWaits_l0_eq (K : Cont) (N : Nat) (s_4 : Option Addr) (n5 : Int) (n6 : Int) (n7 : Int) (h : H) :
  impl_Sched_schedWaits_l0 (curV [] (K (.exit 0))) (curV [(6, .bool)] (K .ret)) (N + 1) s_4 n5 n6 n7 h = evC Try.prog 39 [] [] (sub code41 [true, false, true, false, false]) [(0, .pointer s_4), (1, .int .i64 n5), (2, .int .i64 n6), (9, .int .i64 n7)] h ((outsOf none [(0, [])] (some [(6, .bool)]) K).loop [(0, .ptr), (1, .int .i64), (2, .int .i64), (9, .int .i64)] (impl_Sched_schedWaits_l0 (curV [] (K (.exit 0))) (curV [(6, .bool)] (K .ret)) N)).K := by kernel_rfl

def impl_Sched_schedWaits_l0_F : PT := mkL [(0, .ptr), (1, .int .i64), (2, .int .i64), (9, .int .i64)] fun K N => impl_Sched_schedWaits_l0 (curV [] (K (.exit 0))) (curV [(6, .bool)] (K .ret)) N

theorem impl_Sched_schedWaits_l0_V : Valid Try.prog 39 (sub code41 [true, false, true, false]) impl_Sched_schedWaits_l0_F :=
  loop_at (code41) [true, false, true, false] (loop_piece (c := (sub code41 [true, false, true, false, false])) mixed rows_nil (fun K => by intro s_4 n5 n6 n7 h hd; exact hd) (fun K N => by intro s_4 n5 n6 n7 h hd; exact (impl_Sched_schedWaits_l0_eq K N s_4 n5 n6 n7 h) ▸ hd))

theorem impl_Sched_schedWaits_eq (K : Cont) (s_1 : Option Addr) (n2 : Int) (n3 : Int) (h : H) :
  impl_Sched_schedWaits (curV [(6, .bool)] (K .ret)) s_1 n2 n3 h = evC Try.prog 39 [([false, false, true, false, true], impl_Sched_schedWaits_l0_F)] [] code41 [(0, .pointer s_1), (1, .int .i64 n2), (2, .int .i64 n3)] h (outsOf none [] (some [(6, .bool)]) K).K := by kernel_rfl

def impl_Sched_schedWaits_F : PT := mkF [(0, .ptr), (1, .int .i64), (2, .int .i64)] fun K => impl_Sched_schedWaits (curV [(6, .bool)] (K .ret))

theorem impl_Sched_schedWaits_V : Valid Try.prog 39 code41 impl_Sched_schedWaits_F :=
  piece mixed (rows_cons (q' := [true, false, true, false]) impl_Sched_schedWaits_l0_V rfl rows_nil) (fun K => by intro s_1 n2 n3 h hd; exact (impl_Sched_schedWaits_eq K s_1 n2 n3 h) ▸ hd)

theorem impl_Sched_schedWaits_c0 (s_1 : Option Addr) (n2 : Int) (n3 : Int) (h : H) (K : Value → H → Prop) :
  impl_Sched_schedWaits (fun t100001 h =>
  K (.bool t100001) h) s_1 n2 n3 h = callF Try.prog Try.f41.results.toList impl_Sched_schedWaits_F [.pointer s_1, .int .i64 n2, .int .i64 n3] h K := by kernel_rfl

theorem impl_Sched_schedWaits_call {s_1 : Option Addr} {n2 : Int} {n3 : Int} {h : H} {K : Value → H → Prop} (hs : impl_Sched_schedWaits (fun t100001 h =>
  K (.bool t100001) h) s_1 n2 n3 h) : callK Try.prog 41 ⟨[.pointer s_1, .int .i64 n2, .int .i64 n3]⟩ h K :=
  func_calls Try.func41 body41 impl_Sched_schedWaits_V (Nat.le_of_ble_eq_true (by kernel_rfl)) (impl_Sched_schedWaits_c0 s_1 n2 n3 h K ▸ hs)

def impl_Sched_schedWaits_M_l0 (kx0 : H → Prop) (kr : Bool → H → Prop) : Nat → Option Addr → Int → Int → Int → H → Prop
 | 0, _, _, _, _, _ => False
 | N + 1, s_4, n5, n6, n7, h =>
  ifB (decide ((n7 : Int) < 34))
  (callD Try.prog 40 ⟨[.pointer s_4, .int .i64 n5]⟩ h fun v8 h =>
  asP v8 fun p9 =>
  ifB p9.isNone
  (kr false h)
  (nz p9 fun b10 o11 =>
  ldI .i64 h b10 (o11 + 2) fun n12 =>
  ifB ((n12 : Int) != 2)
  (kr false h)
  (nz p9 fun b13 o14 =>
  ldI .i64 h b13 (o14 + 7) fun n15 =>
  callD Try.prog 39 ⟨[.pointer s_4, .int .i64 n15]⟩ h fun v16 h =>
  asP v16 fun p17 =>
  ifB p17.isNone
  (kr false h)
  (nz p17 fun b18 o19 =>
  ldI .i64 h b18 (o19 + 1) fun n20 =>
  ifB ((n20 : Int) == n6)
  (kr true h)
  (impl_Sched_schedWaits_M_l0 kx0 kr N s_4 n20 n6 (IntKind.i64.wrap (n7 + 1)) h)))))
  (kx0 h)

def impl_Sched_schedWaits_M (kr : Bool → H → Prop) (s_1 : Option Addr) (n2 : Int) (n3 : Int) (h : H) : Prop :=
  ∃ M4, impl_Sched_schedWaits_M_l0 (fun h =>
  kr false h) kr M4 s_1 n2 n3 0 h

theorem impl_Sched_schedWaits_M_l0_D {g0 m0 : H} {kx0_1 : H → Prop} {kx0_2 : H → Prop} (Hkx0 : ∀ (g m : H), Md g0 m0 g m [] → kx0_2 m → kx0_1 g)
  {kr_1 : Bool → H → Prop} {kr_2 : Bool → H → Prop} (Hkr : ∀ (t200001 : Bool) (g m : H), Md g0 m0 g m [] → kr_2 t200001 m → kr_1 t200001 g) : ∀ (N : Nat) (s_1004 : Option Addr) (n1005 : Int) (n1006 : Int) (n1007 : Int) (g m : H), Md g0 m0 g m [] → impl_Sched_schedWaits_M_l0 kx0_2 kr_2 N s_1004 n1005 n1006 n1007 m → impl_Sched_schedWaits_l0 kx0_1 kr_1 N s_1004 n1005 n1006 n1007 g := by
  intro N
  induction N with
  | zero => intro s_1004 n1005 n1006 n1007 g m R h0; exact h0.elim
  | succ N ih =>
    intro s_1004 n1005 n1006 n1007 g m R
    rw [impl_Sched_schedWaits_M_l0, impl_Sched_schedWaits_l0]
    exact (d_if (d_call R fun v1008 g m R =>
  (d_asP fun p1009 =>
  (d_if (Hkr false _ _ R.sub)
  (d_nz fun b1010 o1011 =>
  (d_ldI R fun n1012 =>
  (d_if (Hkr false _ _ R.sub)
  (d_nz fun b1013 o1014 =>
  (d_ldI R fun n1015 =>
  (d_call R fun v1016 g m R =>
  (d_asP fun p1017 =>
  (d_if (Hkr false _ _ R.sub)
  (d_nz fun b1018 o1019 =>
  (d_ldI R fun n1020 =>
  (d_if (Hkr true _ _ R.sub)
  (ih s_1004 n1020 n1006 (IntKind.i64.wrap (n1007 + 1)) _ _ R.sub)))))))))))))))
  (Hkx0 _ _ R.sub))

theorem impl_Sched_schedWaits_M_D {g0 m0 : H} {kr_1 : Bool → H → Prop} {kr_2 : Bool → H → Prop} (Hkr : ∀ (t200001 : Bool) (g m : H), Md g0 m0 g m [] → kr_2 t200001 m → kr_1 t200001 g) : ∀ (s_1001 : Option Addr) (n1002 : Int) (n1003 : Int) (g m : H), Md g0 m0 g m [] → impl_Sched_schedWaits_M kr_2 s_1001 n1002 n1003 m → impl_Sched_schedWaits kr_1 s_1001 n1002 n1003 g := by
  intro s_1001 n1002 n1003 g m R
  rw [impl_Sched_schedWaits_M, impl_Sched_schedWaits]
  exact (d_ex fun N => impl_Sched_schedWaits_M_l0_D (by exact fun g m R =>
  (Hkr false _ _ R.sub))
  (by exact fun t1004 g m R =>
  (Hkr t1004 _ _ R.sub)) N s_1001 n1002 n1003 0 _ _ R.sub)

theorem impl_Sched_schedWaits_M_call {s_1 : Option Addr} {n2 : Int} {n3 : Int} {h : H} {K : Value → H → Prop} (hs : impl_Sched_schedWaits_M (fun t300001 h =>
  K (.bool t300001) h) s_1 n2 n3 h) : callD Try.prog 41 ⟨[.pointer s_1, .int .i64 n2, .int .i64 n3]⟩ h K :=
  fun g r => impl_Sched_schedWaits_call (impl_Sched_schedWaits_M_D (by exact fun t300001 g m R =>
(fun h => ⟨m, R.af, h⟩)) _ _ _ _ _ (Md.start r) hs)

noncomputable def code42 : Code := codeOf Try.f42
theorem body42 : Try.f42.body = some code42 := by kernel_rfl
def impl_Sched_step_c1 (kr : Nat → H → Prop) (c_1 : Int) (h : H) : Prop :=
  new h [.int .i64 0, .int .i64 0] 34 fun b2 h =>
  stRow h b2 0 0 [.int .i64 c_1, .int .i64 0] fun h =>
  kr b2 h

theorem impl_Sched_step_c1_eq (K : Cont) (c_1 : Int) (h : H) :
  impl_Sched_step_c1 (curV [(2, .blk)] (K .ret)) c_1 h = evC Try.prog 5 [] [] code42 [(0, .int .i64 c_1)] h (outsOf none [] (some [(2, .blk)]) K).K := by kernel_rfl

def impl_Sched_step_c1_F : PT := mkF [(0, .int .i64)] fun K => impl_Sched_step_c1 (curV [(2, .blk)] (K .ret))

theorem impl_Sched_step_c1_V : Valid Try.prog 5 code42 impl_Sched_step_c1_F :=
  piece mixed rows_nil (fun K => by intro c_1 h hd; exact (impl_Sched_step_c1_eq K c_1 h) ▸ hd)

theorem impl_Sched_step_c1_c0 (c_1 : Int) (h : H) (K : Value → H → Prop) :
  impl_Sched_step_c1 (fun b100001 h =>
  ldRow h b100001 0 0 [.int .i64, .int .i64] fun n100002 n100003 =>
  K (.agg ⟨[.int .i64 n100002, .int .i64 n100003]⟩) h) c_1 h = callF Try.prog Try.f42.results.toList impl_Sched_step_c1_F [.int .i64 c_1] h K := by kernel_rfl

theorem impl_Sched_step_c1_call {c_1 : Int} {h : H} {K : Value → H → Prop} (hs : impl_Sched_step_c1 (fun b100001 h =>
  ldRow h b100001 0 0 [.int .i64, .int .i64] fun n100002 n100003 =>
  K (.agg ⟨[.int .i64 n100002, .int .i64 n100003]⟩) h) c_1 h) : callK Try.prog 42 ⟨[.int .i64 c_1]⟩ h K :=
  func_calls Try.func42 body42 impl_Sched_step_c1_V (Nat.le_of_ble_eq_true (by kernel_rfl)) (impl_Sched_step_c1_c0 c_1 h K ▸ hs)

def impl_Sched_step_c1_M (kr : Int → Int → H → Prop) (c_1 : Int) (h : H) : Prop :=
  kr c_1 0 h

theorem impl_Sched_step_c1_M_D {g0 m0 : H} {kr_1 : Nat → H → Prop} {kr_2 : Int → Int → H → Prop} (Hkr : ∀ (n200001 : Int) (n200002 : Int) (p200003 : Nat) (g m : H), Md g0 m0 g m [lo p200003 [.int .i64 n200001, .int .i64 n200002]] → kr_2 n200001 n200002 m → kr_1 p200003 g) : ∀ (c_1001 : Int) (g m : H), Md g0 m0 g m [] → impl_Sched_step_c1_M kr_2 c_1001 m → impl_Sched_step_c1 kr_1 c_1001 g := by
  intro c_1001 g m R
  rw [impl_Sched_step_c1_M, impl_Sched_step_c1]
  exact (p_new R fun p1002 g R =>
  (p_stRow R (cs' := [.int .i64 c_1001, .int .i64 0]) ⟨rfl, rfl, rfl⟩ fun g R =>
  (Hkr c_1001 0 p1002 _ _ R.sub)))

theorem impl_Sched_step_c1_M_call {c_1 : Int} {h : H} {K : Value → H → Prop} (hs : impl_Sched_step_c1_M (fun n300001 n300002 h =>
  K (.agg ⟨[.int .i64 n300001, .int .i64 n300002]⟩) h) c_1 h) : callD Try.prog 42 ⟨[.int .i64 c_1]⟩ h K :=
  fun g r => impl_Sched_step_c1_call (impl_Sched_step_c1_M_D (by exact fun n300001 n300002 p300003 g m R =>
(p_row_I2 R rfl rfl (fun h => ⟨m, R.af, h⟩))) _ _ _ (Md.start r) hs)

noncomputable def code43 : Code := codeOf Try.f43
theorem body43 : Try.f43.body = some code43 := by kernel_rfl
def impl_Sched_stand (kn : H → Prop) (s_1 : Option Addr) (t_2 : Option Addr) (h : H) : Prop :=
  nz s_1 fun b3 o4 =>
  ldI .i64 h b3 (o4 + 1) fun n5 =>
  nz s_1 fun b6 o7 =>
  st h b6 (o7 + 1) (.int .i64 (IntKind.i64.wrap (n5 + 1))) fun h =>
  nz s_1 fun b8 o9 =>
  ldI .i64 h b8 (o9 + 1) fun n10 =>
  nz s_1 fun b11 o12 =>
  ldI .i64 h b11 o12 fun n13 =>
  nz t_2 fun b14 o15 =>
  st h b14 (o15 + 2) (.int .i64 1) fun h =>
  nz t_2 fun b16 o17 =>
  st h b16 (o17 + 3) (.int .i64 n10) fun h =>
  nz t_2 fun b18 o19 =>
  st h b18 (o19 + 4) (.int .i64 4) fun h =>
  nz t_2 fun b20 o21 =>
  st h b20 (o21 + 5) (.int .i64 n13) fun h =>
  nz t_2 fun b22 o23 =>
  st h b22 (o23 + 7) (.int .i64 (-1)) fun h =>
  nz t_2 fun b24 o25 =>
  st h b24 (o25 + 6) (.int .i64 0) fun h =>
  kn h

theorem impl_Sched_stand_eq (K : Cont) (s_1 : Option Addr) (t_2 : Option Addr) (h : H) :
  impl_Sched_stand (curV [] (K .normal)) s_1 t_2 h = evC Try.prog 37 [] [] code43 [(0, .pointer s_1), (1, .pointer t_2)] h (outsOf (some []) [] none K).K := by kernel_rfl

def impl_Sched_stand_F : PT := mkF [(0, .ptr), (1, .ptr)] fun K => impl_Sched_stand (curV [] (K .normal))

theorem impl_Sched_stand_V : Valid Try.prog 37 code43 impl_Sched_stand_F :=
  piece mixed rows_nil (fun K => by intro s_1 t_2 h hd; exact (impl_Sched_stand_eq K s_1 t_2 h) ▸ hd)

theorem impl_Sched_stand_c0 (s_1 : Option Addr) (t_2 : Option Addr) (h : H) (K : Value → H → Prop) :
  impl_Sched_stand (fun h =>
  K (.tuple ⟨[]⟩) h) s_1 t_2 h = callF Try.prog Try.f43.results.toList impl_Sched_stand_F [.pointer s_1, .pointer t_2] h K := by kernel_rfl

theorem impl_Sched_stand_call {s_1 : Option Addr} {t_2 : Option Addr} {h : H} {K : Value → H → Prop} (hs : impl_Sched_stand (fun h =>
  K (.tuple ⟨[]⟩) h) s_1 t_2 h) : callK Try.prog 43 ⟨[.pointer s_1, .pointer t_2]⟩ h K :=
  func_calls Try.func43 body43 impl_Sched_stand_V (Nat.le_of_ble_eq_true (by kernel_rfl)) (impl_Sched_stand_c0 s_1 t_2 h K ▸ hs)

def impl_Sched_stand_M (kn : H → Prop) (s_1 : Option Addr) (t_2 : Option Addr) (h : H) : Prop :=
  nz s_1 fun b3 o4 =>
  ldI .i64 h b3 (o4 + 1) fun n5 =>
  nz s_1 fun b6 o7 =>
  st h b6 (o7 + 1) (.int .i64 (IntKind.i64.wrap (n5 + 1))) fun h =>
  nz s_1 fun b8 o9 =>
  ldI .i64 h b8 (o9 + 1) fun n10 =>
  nz s_1 fun b11 o12 =>
  ldI .i64 h b11 o12 fun n13 =>
  nz t_2 fun b14 o15 =>
  st h b14 (o15 + 2) (.int .i64 1) fun h =>
  nz t_2 fun b16 o17 =>
  st h b16 (o17 + 3) (.int .i64 n10) fun h =>
  nz t_2 fun b18 o19 =>
  st h b18 (o19 + 4) (.int .i64 4) fun h =>
  nz t_2 fun b20 o21 =>
  st h b20 (o21 + 5) (.int .i64 n13) fun h =>
  nz t_2 fun b22 o23 =>
  st h b22 (o23 + 7) (.int .i64 (-1)) fun h =>
  nz t_2 fun b24 o25 =>
  st h b24 (o25 + 6) (.int .i64 0) fun h =>
  kn h

theorem impl_Sched_stand_M_D {g0 m0 : H} {kn_1 : H → Prop} {kn_2 : H → Prop} (Hkn : ∀ (g m : H), Md g0 m0 g m [] → kn_2 m → kn_1 g) : ∀ (s_1001 : Option Addr) (t_1002 : Option Addr) (g m : H), Md g0 m0 g m [] → impl_Sched_stand_M kn_2 s_1001 t_1002 m → impl_Sched_stand kn_1 s_1001 t_1002 g := by
  intro s_1001 t_1002 g m R
  rw [impl_Sched_stand_M, impl_Sched_stand]
  exact (d_nz fun b1003 o1004 =>
  (d_ldI R fun n1005 =>
  (d_nz fun b1006 o1007 =>
  (d_st R fun g m R =>
  (d_nz fun b1008 o1009 =>
  (d_ldI R fun n1010 =>
  (d_nz fun b1011 o1012 =>
  (d_ldI R fun n1013 =>
  (d_nz fun b1014 o1015 =>
  (d_st R fun g m R =>
  (d_nz fun b1016 o1017 =>
  (d_st R fun g m R =>
  (d_nz fun b1018 o1019 =>
  (d_st R fun g m R =>
  (d_nz fun b1020 o1021 =>
  (d_st R fun g m R =>
  (d_nz fun b1022 o1023 =>
  (d_st R fun g m R =>
  (d_nz fun b1024 o1025 =>
  (d_st R fun g m R =>
  (Hkn _ _ R.sub)))))))))))))))))))))

theorem impl_Sched_stand_M_call {s_1 : Option Addr} {t_2 : Option Addr} {h : H} {K : Value → H → Prop} (hs : impl_Sched_stand_M (fun h =>
  K (.tuple ⟨[]⟩) h) s_1 t_2 h) : callD Try.prog 43 ⟨[.pointer s_1, .pointer t_2]⟩ h K :=
  fun g r => impl_Sched_stand_call (impl_Sched_stand_M_D (by exact fun g m R =>
(fun h => ⟨m, R.af, h⟩)) _ _ _ _ (Md.start r) hs)

noncomputable def code44 : Code := codeOf Try.f44
theorem body44 : Try.f44.body = some code44 := by kernel_rfl
def impl_Sched_pick (kr : Option Addr → H → Prop) (s_1 : Option Addr) (h : H) : Prop :=
  callK Try.prog 53 ⟨[.pointer s_1, .func (.func 54) #[] ⟨[]⟩]⟩ h fun v2 h =>
  asP v2 fun p3 =>
  kr p3 h

theorem impl_Sched_pick_eq (K : Cont) (s_1 : Option Addr) (h : H) :
  impl_Sched_pick (curV [(2, .ptr)] (K .ret)) s_1 h = evC Try.prog 5 [] [] code44 [(0, .pointer s_1)] h (outsOf none [] (some [(2, .ptr)]) K).K := by kernel_rfl

def impl_Sched_pick_F : PT := mkF [(0, .ptr)] fun K => impl_Sched_pick (curV [(2, .ptr)] (K .ret))

theorem impl_Sched_pick_V : Valid Try.prog 5 code44 impl_Sched_pick_F :=
  piece mixed rows_nil (fun K => by intro s_1 h hd; exact (impl_Sched_pick_eq K s_1 h) ▸ hd)

theorem impl_Sched_pick_c0 (s_1 : Option Addr) (h : H) (K : Value → H → Prop) :
  impl_Sched_pick (fun p100001 h =>
  K (.pointer p100001) h) s_1 h = callF Try.prog Try.f44.results.toList impl_Sched_pick_F [.pointer s_1] h K := by kernel_rfl

theorem impl_Sched_pick_call {s_1 : Option Addr} {h : H} {K : Value → H → Prop} (hs : impl_Sched_pick (fun p100001 h =>
  K (.pointer p100001) h) s_1 h) : callK Try.prog 44 ⟨[.pointer s_1]⟩ h K :=
  func_calls Try.func44 body44 impl_Sched_pick_V (Nat.le_of_ble_eq_true (by kernel_rfl)) (impl_Sched_pick_c0 s_1 h K ▸ hs)

def impl_Sched_pick_M (kr : Option Addr → H → Prop) (s_1 : Option Addr) (h : H) : Prop :=
  callD Try.prog 53 ⟨[.pointer s_1, .func (.func 54) #[] ⟨[]⟩]⟩ h fun v2 h =>
  asP v2 fun p3 =>
  kr p3 h

theorem impl_Sched_pick_M_D {g0 m0 : H} {kr_1 : Option Addr → H → Prop} {kr_2 : Option Addr → H → Prop} (Hkr : ∀ (p200001 : Option Addr) (g m : H), Md g0 m0 g m [] → kr_2 p200001 m → kr_1 p200001 g) : ∀ (s_1001 : Option Addr) (g m : H), Md g0 m0 g m [] → impl_Sched_pick_M kr_2 s_1001 m → impl_Sched_pick kr_1 s_1001 g := by
  intro s_1001 g m R
  rw [impl_Sched_pick_M, impl_Sched_pick]
  exact (d_call R fun v1002 g m R =>
  (d_asP fun p1003 =>
  (Hkr p1003 _ _ R.sub)))

theorem impl_Sched_pick_M_call {s_1 : Option Addr} {h : H} {K : Value → H → Prop} (hs : impl_Sched_pick_M (fun p300001 h =>
  K (.pointer p300001) h) s_1 h) : callD Try.prog 44 ⟨[.pointer s_1]⟩ h K :=
  fun g r => impl_Sched_pick_call (impl_Sched_pick_M_D (by exact fun p300001 g m R =>
(fun h => ⟨m, R.af, h⟩)) _ _ _ (Md.start r) hs)

end Go.Proofs.Yteeinamngmmlbaa
