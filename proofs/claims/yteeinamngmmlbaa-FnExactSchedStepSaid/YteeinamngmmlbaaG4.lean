import Derived.Test.YteeinamngmmlbaaProg
import Derived.Test.YteeinamngmmlbaaG3
set_option linter.unusedVariables false
set_option maxRecDepth 100000
namespace Go.Proofs.Yteeinamngmmlbaa
open Go.Eng

noncomputable def code45 : Code := codeOf Try.f45
theorem body45 : Try.f45.body = some code45 := by kernel_rfl
def impl_Sched_hand_l0 (kx0 : Option Addr → Option Addr → Nat → Nat → H → Prop) : Nat → Option Addr → Nat → Option Addr → Nat → Nat → Option Addr → Nat → Nat → Int → Int → H → Prop
 | 0, _, _, _, _, _, _, _, _, _, _, _ => False
 | N + 1, s_9, id_10, l_11, l_l11, l_c11, a12, l12, c12, n13, n14, h =>
  ifB (decide ((n14 : Int) < n13))
  (req (0 ≤ (n14 : Int) ∧ (n14 : Int) < (l12 : Nat))
  (nz a12 fun b15 o16 =>
  ldRow h b15 (o16 + n14.toNat * 2) 0 [.int .i64, .int .i64] fun n17 n18 =>
  new h [.int .i64 0, .int .i64 0] 57 fun b19 h =>
  stRow h b19 0 0 [.int .i64 n17, .int .i64 n18] fun h =>
  ldI .i64 h b19 0 fun n20 =>
  ldI .i64 h id_10 0 fun n21 =>
  ifB ((n20 : Int) != n21)
  (ldRow h b19 0 0 [.int .i64, .int .i64] fun n22 n23 =>
  new h [.int .i64 n22, .int .i64 n23] 57 fun b24 h =>
  appendK Try.prog 57 h l_11 l_l11 l_c11 (.slice (some ⟨b24, 0, none⟩) 1 1) fun a25 l25 c25 h =>
  impl_Sched_hand_l0 kx0 N s_9 id_10 a25 l25 c25 a12 l12 c12 n13 (IntKind.i64.wrap (n14 + 1)) h)
  (impl_Sched_hand_l0 kx0 N s_9 id_10 l_11 l_l11 l_c11 a12 l12 c12 n13 (IntKind.i64.wrap (n14 + 1)) h)))
  (kx0 s_9 l_11 l_l11 l_c11 h)

def impl_Sched_hand (kn : H → Prop) (kr : H → Prop) (s_1 : Option Addr) (id_2 : Int) (h : H) : Prop :=
  new h [.int .i64 id_2] 2 fun b3 h =>
  callK Try.prog 53 ⟨[.pointer s_1, .func (.func 55) #[] ⟨[.pointer (some ⟨b3, 0, none⟩)]⟩]⟩ h fun v4 h =>
  asP v4 fun p5 =>
  ifB p5.isNone
  (nz s_1 fun b6 o7 =>
  ldL h b6 (o7 + 3) fun a8 l8 c8 =>
  ∃ M13, impl_Sched_hand_l0 (fun s_9 l_10 l_l10 l_c10 h =>
  nz s_9 fun b11 o12 =>
  st h b11 (o12 + 3) (.slice l_10 l_l10 l_c10) fun h =>
  kr h) M13 s_1 b3 none 0 0 a8 l8 c8 (l8 : Nat) 0 h)
  (ldI .i64 h b3 0 fun n14 =>
  nz p5 fun b15 o16 =>
  ldI .i64 h b15 o16 fun n17 =>
  callK Try.prog 39 ⟨[.pointer s_1, .int .i64 n14]⟩ h fun v18 h =>
  asP v18 fun p19 =>
  cell h b15 o16 = some (.int .i64 n17) ∧ (nz p19 fun b20 o21 =>
  st h b20 (o21 + 1) (.int .i64 n17) fun h =>
  callK Try.prog 43 ⟨[.pointer s_1, .pointer p5]⟩ h fun v22 h =>
  elF False (.tuple []) v22
  (kn h)))

theorem impl_Sched_hand_l0_eq (K : Cont) (N : Nat) (s_9 : Option Addr) (id_10 : Nat) (l_11 : Option Addr) (l_l11 : Nat) (l_c11 : Nat) (a12 : Option Addr) (l12 : Nat) (c12 : Nat) (n13 : Int) (n14 : Int) (h : H) :
  impl_Sched_hand_l0 (curV [(0, .ptr), (5, .slice)] (K (.exit 0))) (N + 1) s_9 id_10 l_11 l_l11 l_c11 a12 l12 c12 n13 n14 h = evC Try.prog 47 [] [] (sub code45 [true, true, false, true, false, true, false, true, false, false]) [(0, .pointer s_9), (3, .pointer (some ⟨id_10, 0, none⟩)), (5, .slice l_11 l_l11 l_c11), (16, .slice a12 l12 c12), (17, .int .i64 n13), (18, .int .i64 n14)] h ((outsOf none [(0, [(0, .ptr), (5, .slice)])] none K).loop [(0, .ptr), (3, .blk), (5, .slice), (16, .slice), (17, .int .i64), (18, .int .i64)] (impl_Sched_hand_l0 (curV [(0, .ptr), (5, .slice)] (K (.exit 0))) N)).K := by kernel_rfl

def impl_Sched_hand_l0_F : PT := mkL [(0, .ptr), (3, .blk), (5, .slice), (16, .slice), (17, .int .i64), (18, .int .i64)] fun K N => impl_Sched_hand_l0 (curV [(0, .ptr), (5, .slice)] (K (.exit 0))) N

theorem impl_Sched_hand_l0_V : Valid Try.prog 47 (sub code45 [true, true, false, true, false, true, false, true, false]) impl_Sched_hand_l0_F :=
  loop_at (code45) [true, true, false, true, false, true, false, true, false] (loop_piece (c := (sub code45 [true, true, false, true, false, true, false, true, false, false])) mixed rows_nil (fun K => by intro s_9 id_10 l_11 l_l11 l_c11 a12 l12 c12 n13 n14 h hd; exact hd) (fun K N => by intro s_9 id_10 l_11 l_l11 l_c11 a12 l12 c12 n13 n14 h hd; exact (impl_Sched_hand_l0_eq K N s_9 id_10 l_11 l_l11 l_c11 a12 l12 c12 n13 n14 h) ▸ hd))

theorem impl_Sched_hand_eq (K : Cont) (s_1 : Option Addr) (id_2 : Int) (h : H) :
  impl_Sched_hand (curV [] (K .normal)) (curV [] (K .ret)) s_1 id_2 h = evC Try.prog 47 [([false, false, true, false, true, false, true, false, true, true], impl_Sched_hand_l0_F)] [] code45 [(0, .pointer s_1), (1, .int .i64 id_2)] h (outsOf (some []) [] (some []) K).K := by kernel_rfl

def impl_Sched_hand_F : PT := mkF [(0, .ptr), (1, .int .i64)] fun K => impl_Sched_hand (curV [] (K .normal)) (curV [] (K .ret))

theorem impl_Sched_hand_V : Valid Try.prog 47 code45 impl_Sched_hand_F :=
  piece mixed (rows_cons (q' := [true, true, false, true, false, true, false, true, false]) impl_Sched_hand_l0_V rfl rows_nil) (fun K => by intro s_1 id_2 h hd; exact (impl_Sched_hand_eq K s_1 id_2 h) ▸ hd)

theorem impl_Sched_hand_c0 (s_1 : Option Addr) (id_2 : Int) (h : H) (K : Value → H → Prop) :
  impl_Sched_hand (fun h =>
  K (.tuple ⟨[]⟩) h) (fun h =>
  K (.tuple ⟨[]⟩) h) s_1 id_2 h = callF Try.prog Try.f45.results.toList impl_Sched_hand_F [.pointer s_1, .int .i64 id_2] h K := by kernel_rfl

theorem impl_Sched_hand_call {s_1 : Option Addr} {id_2 : Int} {h : H} {K : Value → H → Prop} (hs : impl_Sched_hand (fun h =>
  K (.tuple ⟨[]⟩) h) (fun h =>
  K (.tuple ⟨[]⟩) h) s_1 id_2 h) : callK Try.prog 45 ⟨[.pointer s_1, .int .i64 id_2]⟩ h K :=
  func_calls Try.func45 body45 impl_Sched_hand_V (Nat.le_of_ble_eq_true (by kernel_rfl)) (impl_Sched_hand_c0 s_1 id_2 h K ▸ hs)

def impl_Sched_hand_M_l0 (kx0 : Option Addr → Option Addr → Nat → Nat → H → Prop) : Nat → Option Addr → Nat → Option Addr → Nat → Nat → Option Addr → Nat → Int → Int → H → Prop
 | 0, _, _, _, _, _, _, _, _, _, _ => False
 | N + 1, s_9, id_10, l_11, l_l11, l_c11, a12, l12, n13, n14, h =>
  ifB (decide ((n14 : Int) < n13))
  (req (0 ≤ (n14 : Int) ∧ (n14 : Int) < (l12 : Nat))
  (nz a12 fun b15 o16 =>
  ldRow h b15 (o16 + n14.toNat * 2) 0 [.int .i64, .int .i64] fun n17 n18 =>
  ldI .i64 h id_10 0 fun n19 =>
  ifB ((n17 : Int) != n19)
  (newD h [.int .i64 n17, .int .i64 n18] 57 fun b20 h =>
  appendD Try.prog 57 h l_11 l_l11 l_c11 (.slice (some ⟨b20, 0, none⟩) 1 1) fun a21 l21 c21 h =>
  impl_Sched_hand_M_l0 kx0 N s_9 id_10 a21 l21 c21 a12 l12 n13 (IntKind.i64.wrap (n14 + 1)) h)
  (impl_Sched_hand_M_l0 kx0 N s_9 id_10 l_11 l_l11 l_c11 a12 l12 n13 (IntKind.i64.wrap (n14 + 1)) h)))
  (kx0 s_9 l_11 l_l11 l_c11 h)

def impl_Sched_hand_M (kn : H → Prop) (kr : H → Prop) (s_1 : Option Addr) (id_2 : Int) (h : H) : Prop :=
  newD h [.int .i64 id_2] 2 fun b3 h =>
  callD Try.prog 53 ⟨[.pointer s_1, .func (.func 55) #[] ⟨[.pointer (some ⟨b3, 0, none⟩)]⟩]⟩ h fun v4 h =>
  asP v4 fun p5 =>
  ifB p5.isNone
  (nz s_1 fun b6 o7 =>
  ldL h b6 (o7 + 3) fun a8 l8 c8 =>
  ∃ M13, impl_Sched_hand_M_l0 (fun s_9 l_10 l_l10 l_c10 h =>
  nz s_9 fun b11 o12 =>
  st h b11 (o12 + 3) (.slice l_10 l_l10 l_c10) fun h =>
  kr h) M13 s_1 b3 none 0 0 a8 l8 (l8 : Nat) 0 h)
  (ldI .i64 h b3 0 fun n14 =>
  nz p5 fun b15 o16 =>
  ldI .i64 h b15 o16 fun n17 =>
  callD Try.prog 39 ⟨[.pointer s_1, .int .i64 n14]⟩ h fun v18 h =>
  asP v18 fun p19 =>
  cell h b15 o16 = some (.int .i64 n17) ∧ (nz p19 fun b20 o21 =>
  st h b20 (o21 + 1) (.int .i64 n17) fun h =>
  callD Try.prog 43 ⟨[.pointer s_1, .pointer p5]⟩ h fun v22 h =>
  elF False (.tuple []) v22
  (kn h)))

theorem impl_Sched_hand_M_l0_D {g0 m0 : H} {kx0_1 : Option Addr → Option Addr → Nat → Nat → H → Prop} {kx0_2 : Option Addr → Option Addr → Nat → Nat → H → Prop} (Hkx0 : ∀ (s_200001 : Option Addr) (l_200002 : Option Addr) (l_l200002 : Nat) (l_c200002 : Nat) (g m : H), Md g0 m0 g m [] → kx0_2 s_200001 l_200002 l_l200002 l_c200002 m → kx0_1 s_200001 l_200002 l_l200002 l_c200002 g) : ∀ (N : Nat) (s_1009 : Option Addr) (id_1010 : Nat) (l_1011 : Option Addr) (l_l1011 : Nat) (l_c1011 : Nat) (a1012 : Option Addr) (l1012 : Nat) (c1012 : Nat) (n1013 : Int) (n1014 : Int) (g m : H), Md g0 m0 g m [] → impl_Sched_hand_M_l0 kx0_2 N s_1009 id_1010 l_1011 l_l1011 l_c1011 a1012 l1012 n1013 n1014 m → impl_Sched_hand_l0 kx0_1 N s_1009 id_1010 l_1011 l_l1011 l_c1011 a1012 l1012 c1012 n1013 n1014 g := by
  intro N
  induction N with
  | zero => intro s_1009 id_1010 l_1011 l_l1011 l_c1011 a1012 l1012 c1012 n1013 n1014 g m R h0; exact h0.elim
  | succ N ih =>
    intro s_1009 id_1010 l_1011 l_l1011 l_c1011 a1012 l1012 c1012 n1013 n1014 g m R
    rw [impl_Sched_hand_M_l0, impl_Sched_hand_l0]
    exact (d_if (d_req (d_nz fun b1015 o1016 =>
  (d_row_I2 R fun n1017 n1018 =>
  (p_new R fun p1019 g R =>
  (p_stRow R (cs' := [.int .i64 n1017, .int .i64 n1018]) ⟨rfl, rfl, rfl⟩ fun g R =>
  (p_ldI R rfl (d_ldI R fun n1020 =>
  (d_if (p_row_I2 R rfl rfl (d_new R fun b1021 g m R =>
  (d_append R fun a1022 l1022 c1022 g m R =>
  (ih s_1009 id_1010 a1022 l1022 c1022 a1012 l1012 c1012 n1013 (IntKind.i64.wrap (n1014 + 1)) _ _ R.sub))))
  (ih s_1009 id_1010 l_1011 l_l1011 l_c1011 a1012 l1012 c1012 n1013 (IntKind.i64.wrap (n1014 + 1)) _ _ R.sub)))))))))
  (Hkx0 s_1009 l_1011 l_l1011 l_c1011 _ _ R.sub))

theorem impl_Sched_hand_M_D {g0 m0 : H} {kn_1 : H → Prop} {kn_2 : H → Prop} (Hkn : ∀ (g m : H), Md g0 m0 g m [] → kn_2 m → kn_1 g)
  {kr_1 : H → Prop} {kr_2 : H → Prop} (Hkr : ∀ (g m : H), Md g0 m0 g m [] → kr_2 m → kr_1 g) : ∀ (s_1001 : Option Addr) (id_1002 : Int) (g m : H), Md g0 m0 g m [] → impl_Sched_hand_M kn_2 kr_2 s_1001 id_1002 m → impl_Sched_hand kn_1 kr_1 s_1001 id_1002 g := by
  intro s_1001 id_1002 g m R
  rw [impl_Sched_hand_M, impl_Sched_hand]
  exact (d_new R fun b1003 g m R =>
  (d_call R fun v1004 g m R =>
  (d_asP fun p1005 =>
  (d_if (d_nz fun b1006 o1007 =>
  (d_ldL R fun a1008 l1008 c1008 =>
  (d_ex fun N => impl_Sched_hand_M_l0_D (by exact fun s_1009 l_1010 l_l1010 l_c1010 g m R =>
  (d_nz fun b1011 o1012 =>
  (d_st R fun g m R =>
  (Hkr _ _ R.sub)))) N s_1001 b1003 none 0 0 a1008 l1008 c1008 (l1008 : Nat) 0 _ _ R.sub)))
  (d_ldI R fun n1013 =>
  (d_nz fun b1014 o1015 =>
  (d_ldI R fun n1016 =>
  (d_call R fun v1017 g m R =>
  (d_asP fun p1018 =>
  (d_cell R (d_nz fun b1019 o1020 =>
  (d_st R fun g m R =>
  (d_call R fun v1021 g m R =>
  (d_el_TE (Hkn _ _ R.sub)))))))))))))))

theorem impl_Sched_hand_M_call {s_1 : Option Addr} {id_2 : Int} {h : H} {K : Value → H → Prop} (hs : impl_Sched_hand_M (fun h =>
  K (.tuple ⟨[]⟩) h) (fun h =>
  K (.tuple ⟨[]⟩) h) s_1 id_2 h) : callD Try.prog 45 ⟨[.pointer s_1, .int .i64 id_2]⟩ h K :=
  fun g r => impl_Sched_hand_call (impl_Sched_hand_M_D (by exact fun g m R =>
(fun h => ⟨m, R.af, h⟩))
(by exact fun g m R =>
(fun h => ⟨m, R.af, h⟩)) _ _ _ _ (Md.start r) hs)

noncomputable def code46 : Code := codeOf Try.f46
theorem body46 : Try.f46.body = some code46 := by kernel_rfl
def laws_eqThread (kr : Bool → H → Prop) (a_1 : Int) (a_2 : Int) (a_3 : Int) (a_4 : Int) (a_5 : Int) (a_6 : Int) (a_7 : Int) (a_8 : Int) (b_9 : Int) (b_10 : Int) (b_11 : Int) (b_12 : Int) (b_13 : Int) (b_14 : Int) (b_15 : Int) (b_16 : Int) (h : H) : Prop :=
  new h [.int .i64 a_1, .int .i64 a_2, .int .i64 a_3, .int .i64 a_4, .int .i64 a_5, .int .i64 a_6, .int .i64 a_7, .int .i64 a_8] 60 fun b17 h =>
  new h [.int .i64 b_9, .int .i64 b_10, .int .i64 b_11, .int .i64 b_12, .int .i64 b_13, .int .i64 b_14, .int .i64 b_15, .int .i64 b_16] 60 fun b18 h =>
  ldI .i64 h b17 0 fun n19 =>
  ldI .i64 h b18 0 fun n20 =>
  ifB ((n19 : Int) != n20)
  (kr false h)
  (ldI .i64 h b17 1 fun n21 =>
  ldI .i64 h b18 1 fun n22 =>
  ifB ((n21 : Int) != n22)
  (kr false h)
  (ldI .i64 h b17 2 fun n23 =>
  ldI .i64 h b18 2 fun n24 =>
  ifB ((n23 : Int) != n24)
  (kr false h)
  (ldI .i64 h b17 3 fun n25 =>
  ldI .i64 h b18 3 fun n26 =>
  ifB ((n25 : Int) != n26)
  (kr false h)
  (ldI .i64 h b17 4 fun n27 =>
  ldI .i64 h b18 4 fun n28 =>
  ifB ((n27 : Int) != n28)
  (kr false h)
  (ldI .i64 h b17 5 fun n29 =>
  ldI .i64 h b18 5 fun n30 =>
  ifB ((n29 : Int) != n30)
  (kr false h)
  (ldI .i64 h b17 6 fun n31 =>
  ldI .i64 h b18 6 fun n32 =>
  ifB ((n31 : Int) != n32)
  (kr false h)
  (ldI .i64 h b17 7 fun n33 =>
  ldI .i64 h b18 7 fun n34 =>
  ifB ((n33 : Int) != n34)
  (kr false h)
  (kr true h))))))))

theorem laws_eqThread_eq (K : Cont) (a_1 : Int) (a_2 : Int) (a_3 : Int) (a_4 : Int) (a_5 : Int) (a_6 : Int) (a_7 : Int) (a_8 : Int) (b_9 : Int) (b_10 : Int) (b_11 : Int) (b_12 : Int) (b_13 : Int) (b_14 : Int) (b_15 : Int) (b_16 : Int) (h : H) :
  laws_eqThread (curV [(4, .bool)] (K .ret)) a_1 a_2 a_3 a_4 a_5 a_6 a_7 a_8 b_9 b_10 b_11 b_12 b_13 b_14 b_15 b_16 h = evC Try.prog 45 [] [] code46 [(0, .agg ⟨[.int .i64 a_1, .int .i64 a_2, .int .i64 a_3, .int .i64 a_4, .int .i64 a_5, .int .i64 a_6, .int .i64 a_7, .int .i64 a_8]⟩), (1, .agg ⟨[.int .i64 b_9, .int .i64 b_10, .int .i64 b_11, .int .i64 b_12, .int .i64 b_13, .int .i64 b_14, .int .i64 b_15, .int .i64 b_16]⟩)] h (outsOf none [] (some [(4, .bool)]) K).K := by kernel_rfl

def laws_eqThread_F : PT := mkF [(0, .agg [.int .i64, .int .i64, .int .i64, .int .i64, .int .i64, .int .i64, .int .i64, .int .i64]), (1, .agg [.int .i64, .int .i64, .int .i64, .int .i64, .int .i64, .int .i64, .int .i64, .int .i64])] fun K => laws_eqThread (curV [(4, .bool)] (K .ret))

theorem laws_eqThread_V : Valid Try.prog 45 code46 laws_eqThread_F :=
  piece mixed rows_nil (fun K => by intro a_1 a_2 a_3 a_4 a_5 a_6 a_7 a_8 b_9 b_10 b_11 b_12 b_13 b_14 b_15 b_16 h hd; exact (laws_eqThread_eq K a_1 a_2 a_3 a_4 a_5 a_6 a_7 a_8 b_9 b_10 b_11 b_12 b_13 b_14 b_15 b_16 h) ▸ hd)

theorem laws_eqThread_c0 (a_1 : Int) (a_2 : Int) (a_3 : Int) (a_4 : Int) (a_5 : Int) (a_6 : Int) (a_7 : Int) (a_8 : Int) (b_9 : Int) (b_10 : Int) (b_11 : Int) (b_12 : Int) (b_13 : Int) (b_14 : Int) (b_15 : Int) (b_16 : Int) (h : H) (K : Value → H → Prop) :
  laws_eqThread (fun t100001 h =>
  K (.bool t100001) h) a_1 a_2 a_3 a_4 a_5 a_6 a_7 a_8 b_9 b_10 b_11 b_12 b_13 b_14 b_15 b_16 h = callF Try.prog Try.f46.results.toList laws_eqThread_F [.agg ⟨[.int .i64 a_1, .int .i64 a_2, .int .i64 a_3, .int .i64 a_4, .int .i64 a_5, .int .i64 a_6, .int .i64 a_7, .int .i64 a_8]⟩, .agg ⟨[.int .i64 b_9, .int .i64 b_10, .int .i64 b_11, .int .i64 b_12, .int .i64 b_13, .int .i64 b_14, .int .i64 b_15, .int .i64 b_16]⟩] h K := by kernel_rfl

theorem laws_eqThread_call {a_1 : Int} {a_2 : Int} {a_3 : Int} {a_4 : Int} {a_5 : Int} {a_6 : Int} {a_7 : Int} {a_8 : Int} {b_9 : Int} {b_10 : Int} {b_11 : Int} {b_12 : Int} {b_13 : Int} {b_14 : Int} {b_15 : Int} {b_16 : Int} {h : H} {K : Value → H → Prop} (hs : laws_eqThread (fun t100001 h =>
  K (.bool t100001) h) a_1 a_2 a_3 a_4 a_5 a_6 a_7 a_8 b_9 b_10 b_11 b_12 b_13 b_14 b_15 b_16 h) : callK Try.prog 46 ⟨[.agg ⟨[.int .i64 a_1, .int .i64 a_2, .int .i64 a_3, .int .i64 a_4, .int .i64 a_5, .int .i64 a_6, .int .i64 a_7, .int .i64 a_8]⟩, .agg ⟨[.int .i64 b_9, .int .i64 b_10, .int .i64 b_11, .int .i64 b_12, .int .i64 b_13, .int .i64 b_14, .int .i64 b_15, .int .i64 b_16]⟩]⟩ h K :=
  func_calls Try.func46 body46 laws_eqThread_V (Nat.le_of_ble_eq_true (by kernel_rfl)) (laws_eqThread_c0 a_1 a_2 a_3 a_4 a_5 a_6 a_7 a_8 b_9 b_10 b_11 b_12 b_13 b_14 b_15 b_16 h K ▸ hs)

def laws_eqThread_M (kr : Bool → H → Prop) (a_1 : Int) (a_2 : Int) (a_3 : Int) (a_4 : Int) (a_5 : Int) (a_6 : Int) (a_7 : Int) (a_8 : Int) (b_9 : Int) (b_10 : Int) (b_11 : Int) (b_12 : Int) (b_13 : Int) (b_14 : Int) (b_15 : Int) (b_16 : Int) (h : H) : Prop :=
  ifB ((a_1 : Int) != b_9)
  (kr false h)
  (ifB ((a_2 : Int) != b_10)
  (kr false h)
  (ifB ((a_3 : Int) != b_11)
  (kr false h)
  (ifB ((a_4 : Int) != b_12)
  (kr false h)
  (ifB ((a_5 : Int) != b_13)
  (kr false h)
  (ifB ((a_6 : Int) != b_14)
  (kr false h)
  (ifB ((a_7 : Int) != b_15)
  (kr false h)
  (ifB ((a_8 : Int) != b_16)
  (kr false h)
  (kr true h))))))))

theorem laws_eqThread_M_D {g0 m0 : H} {kr_1 : Bool → H → Prop} {kr_2 : Bool → H → Prop} (Hkr : ∀ (t200001 : Bool) (g m : H), Md g0 m0 g m [] → kr_2 t200001 m → kr_1 t200001 g) : ∀ (a_1001 : Int) (a_1002 : Int) (a_1003 : Int) (a_1004 : Int) (a_1005 : Int) (a_1006 : Int) (a_1007 : Int) (a_1008 : Int) (b_1009 : Int) (b_1010 : Int) (b_1011 : Int) (b_1012 : Int) (b_1013 : Int) (b_1014 : Int) (b_1015 : Int) (b_1016 : Int) (g m : H), Md g0 m0 g m [] → laws_eqThread_M kr_2 a_1001 a_1002 a_1003 a_1004 a_1005 a_1006 a_1007 a_1008 b_1009 b_1010 b_1011 b_1012 b_1013 b_1014 b_1015 b_1016 m → laws_eqThread kr_1 a_1001 a_1002 a_1003 a_1004 a_1005 a_1006 a_1007 a_1008 b_1009 b_1010 b_1011 b_1012 b_1013 b_1014 b_1015 b_1016 g := by
  intro a_1001 a_1002 a_1003 a_1004 a_1005 a_1006 a_1007 a_1008 b_1009 b_1010 b_1011 b_1012 b_1013 b_1014 b_1015 b_1016 g m R
  rw [laws_eqThread_M, laws_eqThread]
  exact (p_new R fun p1017 g R =>
  (p_new R fun p1018 g R =>
  (p_ldI R rfl (p_ldI R rfl (d_if (Hkr false _ _ R.sub)
  (p_ldI R rfl (p_ldI R rfl (d_if (Hkr false _ _ R.sub)
  (p_ldI R rfl (p_ldI R rfl (d_if (Hkr false _ _ R.sub)
  (p_ldI R rfl (p_ldI R rfl (d_if (Hkr false _ _ R.sub)
  (p_ldI R rfl (p_ldI R rfl (d_if (Hkr false _ _ R.sub)
  (p_ldI R rfl (p_ldI R rfl (d_if (Hkr false _ _ R.sub)
  (p_ldI R rfl (p_ldI R rfl (d_if (Hkr false _ _ R.sub)
  (p_ldI R rfl (p_ldI R rfl (d_if (Hkr false _ _ R.sub)
  (Hkr true _ _ R.sub)))))))))))))))))))))))))))

theorem laws_eqThread_M_call {a_1 : Int} {a_2 : Int} {a_3 : Int} {a_4 : Int} {a_5 : Int} {a_6 : Int} {a_7 : Int} {a_8 : Int} {b_9 : Int} {b_10 : Int} {b_11 : Int} {b_12 : Int} {b_13 : Int} {b_14 : Int} {b_15 : Int} {b_16 : Int} {h : H} {K : Value → H → Prop} (hs : laws_eqThread_M (fun t300001 h =>
  K (.bool t300001) h) a_1 a_2 a_3 a_4 a_5 a_6 a_7 a_8 b_9 b_10 b_11 b_12 b_13 b_14 b_15 b_16 h) : callD Try.prog 46 ⟨[.agg ⟨[.int .i64 a_1, .int .i64 a_2, .int .i64 a_3, .int .i64 a_4, .int .i64 a_5, .int .i64 a_6, .int .i64 a_7, .int .i64 a_8]⟩, .agg ⟨[.int .i64 b_9, .int .i64 b_10, .int .i64 b_11, .int .i64 b_12, .int .i64 b_13, .int .i64 b_14, .int .i64 b_15, .int .i64 b_16]⟩]⟩ h K :=
  fun g r => laws_eqThread_call (laws_eqThread_M_D (by exact fun t300001 g m R =>
(fun h => ⟨m, R.af, h⟩)) _ _ _ _ _ _ _ _ _ _ _ _ _ _ _ _ _ _ (Md.start r) hs)

noncomputable def code47 : Code := codeOf Try.f47
theorem body47 : Try.f47.body = some code47 := by kernel_rfl
def laws_eqLock (kr : Bool → H → Prop) (a_1 : Int) (a_2 : Int) (b_3 : Int) (b_4 : Int) (h : H) : Prop :=
  new h [.int .i64 a_1, .int .i64 a_2] 57 fun b5 h =>
  new h [.int .i64 b_3, .int .i64 b_4] 57 fun b6 h =>
  ldI .i64 h b5 0 fun n7 =>
  ldI .i64 h b6 0 fun n8 =>
  ifB ((n7 : Int) != n8)
  (kr false h)
  (ldI .i64 h b5 1 fun n9 =>
  ldI .i64 h b6 1 fun n10 =>
  ifB ((n9 : Int) != n10)
  (kr false h)
  (kr true h))

theorem laws_eqLock_eq (K : Cont) (a_1 : Int) (a_2 : Int) (b_3 : Int) (b_4 : Int) (h : H) :
  laws_eqLock (curV [(4, .bool)] (K .ret)) a_1 a_2 b_3 b_4 h = evC Try.prog 15 [] [] code47 [(0, .agg ⟨[.int .i64 a_1, .int .i64 a_2]⟩), (1, .agg ⟨[.int .i64 b_3, .int .i64 b_4]⟩)] h (outsOf none [] (some [(4, .bool)]) K).K := by kernel_rfl

def laws_eqLock_F : PT := mkF [(0, .agg [.int .i64, .int .i64]), (1, .agg [.int .i64, .int .i64])] fun K => laws_eqLock (curV [(4, .bool)] (K .ret))

theorem laws_eqLock_V : Valid Try.prog 15 code47 laws_eqLock_F :=
  piece mixed rows_nil (fun K => by intro a_1 a_2 b_3 b_4 h hd; exact (laws_eqLock_eq K a_1 a_2 b_3 b_4 h) ▸ hd)

theorem laws_eqLock_c0 (a_1 : Int) (a_2 : Int) (b_3 : Int) (b_4 : Int) (h : H) (K : Value → H → Prop) :
  laws_eqLock (fun t100001 h =>
  K (.bool t100001) h) a_1 a_2 b_3 b_4 h = callF Try.prog Try.f47.results.toList laws_eqLock_F [.agg ⟨[.int .i64 a_1, .int .i64 a_2]⟩, .agg ⟨[.int .i64 b_3, .int .i64 b_4]⟩] h K := by kernel_rfl

theorem laws_eqLock_call {a_1 : Int} {a_2 : Int} {b_3 : Int} {b_4 : Int} {h : H} {K : Value → H → Prop} (hs : laws_eqLock (fun t100001 h =>
  K (.bool t100001) h) a_1 a_2 b_3 b_4 h) : callK Try.prog 47 ⟨[.agg ⟨[.int .i64 a_1, .int .i64 a_2]⟩, .agg ⟨[.int .i64 b_3, .int .i64 b_4]⟩]⟩ h K :=
  func_calls Try.func47 body47 laws_eqLock_V (Nat.le_of_ble_eq_true (by kernel_rfl)) (laws_eqLock_c0 a_1 a_2 b_3 b_4 h K ▸ hs)

def laws_eqLock_M (kr : Bool → H → Prop) (a_1 : Int) (a_2 : Int) (b_3 : Int) (b_4 : Int) (h : H) : Prop :=
  ifB ((a_1 : Int) != b_3)
  (kr false h)
  (ifB ((a_2 : Int) != b_4)
  (kr false h)
  (kr true h))

theorem laws_eqLock_M_D {g0 m0 : H} {kr_1 : Bool → H → Prop} {kr_2 : Bool → H → Prop} (Hkr : ∀ (t200001 : Bool) (g m : H), Md g0 m0 g m [] → kr_2 t200001 m → kr_1 t200001 g) : ∀ (a_1001 : Int) (a_1002 : Int) (b_1003 : Int) (b_1004 : Int) (g m : H), Md g0 m0 g m [] → laws_eqLock_M kr_2 a_1001 a_1002 b_1003 b_1004 m → laws_eqLock kr_1 a_1001 a_1002 b_1003 b_1004 g := by
  intro a_1001 a_1002 b_1003 b_1004 g m R
  rw [laws_eqLock_M, laws_eqLock]
  exact (p_new R fun p1005 g R =>
  (p_new R fun p1006 g R =>
  (p_ldI R rfl (p_ldI R rfl (d_if (Hkr false _ _ R.sub)
  (p_ldI R rfl (p_ldI R rfl (d_if (Hkr false _ _ R.sub)
  (Hkr true _ _ R.sub)))))))))

theorem laws_eqLock_M_call {a_1 : Int} {a_2 : Int} {b_3 : Int} {b_4 : Int} {h : H} {K : Value → H → Prop} (hs : laws_eqLock_M (fun t300001 h =>
  K (.bool t300001) h) a_1 a_2 b_3 b_4 h) : callD Try.prog 47 ⟨[.agg ⟨[.int .i64 a_1, .int .i64 a_2]⟩, .agg ⟨[.int .i64 b_3, .int .i64 b_4]⟩]⟩ h K :=
  fun g r => laws_eqLock_call (laws_eqLock_M_D (by exact fun t300001 g m R =>
(fun h => ⟨m, R.af, h⟩)) _ _ _ _ _ _ (Md.start r) hs)

noncomputable def code48 : Code := codeOf Try.f48
theorem body48 : Try.f48.body = some code48 := by kernel_rfl
def spec_l11Lock_l0 (kx0 : H → Prop) (kr : Int → H → Prop) : Nat → Int → Nat → Int → H → Prop
 | 0, _, _, _, _ => False
 | N + 1, id_7, s_8, i_9, h =>
  ldL h s_8 3 fun a10 l10 c10 =>
  ifB (decide ((i_9 : Int) < (l10 : Nat)))
  (ldL h s_8 3 fun a11 l11 c11 =>
  req (0 ≤ (i_9 : Int) ∧ (i_9 : Int) < (l11 : Nat))
  (nz a11 fun b12 o13 =>
  ldI .i64 h b12 (o13 + i_9.toNat * 2) fun n14 =>
  ifB ((n14 : Int) == id_7)
  (kr i_9 h)
  (spec_l11Lock_l0 kx0 kr N id_7 s_8 (IntKind.i64.wrap (i_9 + 1)) h)))
  (kx0 h)

def spec_l11Lock (kr : Int → H → Prop) (s_1 : Int) (s_2 : Int) (s_3 : Option Addr) (s_l3 : Nat) (s_c3 : Nat) (s_4 : Option Addr) (s_l4 : Nat) (s_c4 : Nat) (id_5 : Int) (h : H) : Prop :=
  new h [.int .i64 s_1, .int .i64 s_2, .slice s_3 s_l3 s_c3, .slice s_4 s_l4 s_c4] 32 fun b6 h =>
  ∃ M7, spec_l11Lock_l0 (fun h =>
  kr (-1) h) kr M7 id_5 b6 0 h

theorem spec_l11Lock_l0_eq (K : Cont) (N : Nat) (id_7 : Int) (s_8 : Nat) (i_9 : Int) (h : H) :
  spec_l11Lock_l0 (curV [] (K (.exit 0))) (curV [(4, .int .i64)] (K .ret)) (N + 1) id_7 s_8 i_9 h = evC Try.prog 22 [] [] (sub code48 [true, false, true, false, false]) [(1, .int .i64 id_7), (2, .pointer (some ⟨s_8, 0, none⟩)), (5, .int .i64 i_9)] h ((outsOf none [(0, [])] (some [(4, .int .i64)]) K).loop [(1, .int .i64), (2, .blk), (5, .int .i64)] (spec_l11Lock_l0 (curV [] (K (.exit 0))) (curV [(4, .int .i64)] (K .ret)) N)).K := by kernel_rfl

def spec_l11Lock_l0_F : PT := mkL [(1, .int .i64), (2, .blk), (5, .int .i64)] fun K N => spec_l11Lock_l0 (curV [] (K (.exit 0))) (curV [(4, .int .i64)] (K .ret)) N

theorem spec_l11Lock_l0_V : Valid Try.prog 22 (sub code48 [true, false, true, false]) spec_l11Lock_l0_F :=
  loop_at (code48) [true, false, true, false] (loop_piece (c := (sub code48 [true, false, true, false, false])) mixed rows_nil (fun K => by intro id_7 s_8 i_9 h hd; exact hd) (fun K N => by intro id_7 s_8 i_9 h hd; exact (spec_l11Lock_l0_eq K N id_7 s_8 i_9 h) ▸ hd))

theorem spec_l11Lock_eq (K : Cont) (s_1 : Int) (s_2 : Int) (s_3 : Option Addr) (s_l3 : Nat) (s_c3 : Nat) (s_4 : Option Addr) (s_l4 : Nat) (s_c4 : Nat) (id_5 : Int) (h : H) :
  spec_l11Lock (curV [(4, .int .i64)] (K .ret)) s_1 s_2 s_3 s_l3 s_c3 s_4 s_l4 s_c4 id_5 h = evC Try.prog 22 [([false, false, true, false, true], spec_l11Lock_l0_F)] [] code48 [(0, .agg ⟨[.int .i64 s_1, .int .i64 s_2, .slice s_3 s_l3 s_c3, .slice s_4 s_l4 s_c4]⟩), (1, .int .i64 id_5)] h (outsOf none [] (some [(4, .int .i64)]) K).K := by kernel_rfl

def spec_l11Lock_F : PT := mkF [(0, .agg [.int .i64, .int .i64, .slice, .slice]), (1, .int .i64)] fun K => spec_l11Lock (curV [(4, .int .i64)] (K .ret))

theorem spec_l11Lock_V : Valid Try.prog 22 code48 spec_l11Lock_F :=
  piece mixed (rows_cons (q' := [true, false, true, false]) spec_l11Lock_l0_V rfl rows_nil) (fun K => by intro s_1 s_2 s_3 s_l3 s_c3 s_4 s_l4 s_c4 id_5 h hd; exact (spec_l11Lock_eq K s_1 s_2 s_3 s_l3 s_c3 s_4 s_l4 s_c4 id_5 h) ▸ hd)

theorem spec_l11Lock_c0 (s_1 : Int) (s_2 : Int) (s_3 : Option Addr) (s_l3 : Nat) (s_c3 : Nat) (s_4 : Option Addr) (s_l4 : Nat) (s_c4 : Nat) (id_5 : Int) (h : H) (K : Value → H → Prop) :
  spec_l11Lock (fun n100001 h =>
  K (.int .i64 n100001) h) s_1 s_2 s_3 s_l3 s_c3 s_4 s_l4 s_c4 id_5 h = callF Try.prog Try.f48.results.toList spec_l11Lock_F [.agg ⟨[.int .i64 s_1, .int .i64 s_2, .slice s_3 s_l3 s_c3, .slice s_4 s_l4 s_c4]⟩, .int .i64 id_5] h K := by kernel_rfl

theorem spec_l11Lock_call {s_1 : Int} {s_2 : Int} {s_3 : Option Addr} {s_l3 : Nat} {s_c3 : Nat} {s_4 : Option Addr} {s_l4 : Nat} {s_c4 : Nat} {id_5 : Int} {h : H} {K : Value → H → Prop} (hs : spec_l11Lock (fun n100001 h =>
  K (.int .i64 n100001) h) s_1 s_2 s_3 s_l3 s_c3 s_4 s_l4 s_c4 id_5 h) : callK Try.prog 48 ⟨[.agg ⟨[.int .i64 s_1, .int .i64 s_2, .slice s_3 s_l3 s_c3, .slice s_4 s_l4 s_c4]⟩, .int .i64 id_5]⟩ h K :=
  func_calls Try.func48 body48 spec_l11Lock_V (Nat.le_of_ble_eq_true (by kernel_rfl)) (spec_l11Lock_c0 s_1 s_2 s_3 s_l3 s_c3 s_4 s_l4 s_c4 id_5 h K ▸ hs)

def spec_l11Lock_M_l0 (kx0 : H → Prop) (kr : Int → H → Prop) : Nat → Int → Int → Option Addr → Nat → H → Prop
 | 0, _, _, _, _, _ => False
 | N + 1, id_6, i_7, a11, l11, h =>
  ifB (decide ((i_7 : Int) < (l11 : Nat)))
  (req (0 ≤ (i_7 : Int) ∧ (i_7 : Int) < (l11 : Nat))
  (nz a11 fun b13 o14 =>
  ldI .i64 h b13 (o14 + i_7.toNat * 2) fun n15 =>
  ifB ((n15 : Int) == id_6)
  (kr i_7 h)
  (spec_l11Lock_M_l0 kx0 kr N id_6 (IntKind.i64.wrap (i_7 + 1)) a11 l11 h)))
  (kx0 h)

def spec_l11Lock_M (kr : Int → H → Prop) (s_1 : Int) (s_2 : Int) (s_3 : Option Addr) (s_l3 : Nat) (s_c3 : Nat) (s_4 : Option Addr) (s_l4 : Nat) (s_c4 : Nat) (id_5 : Int) (h : H) : Prop :=
  ∃ M6, spec_l11Lock_M_l0 (fun h =>
  kr (-1) h) kr M6 id_5 0 s_4 s_l4 h

theorem spec_l11Lock_M_l0_D {g0 m0 : H} {kx0_1 : H → Prop} {kx0_2 : H → Prop} (Hkx0 : ∀ (g m : H), Md g0 m0 g m [] → kx0_2 m → kx0_1 g)
  {kr_1 : Int → H → Prop} {kr_2 : Int → H → Prop} (Hkr : ∀ (n200001 : Int) (g m : H), Md g0 m0 g m [] → kr_2 n200001 m → kr_1 n200001 g) : ∀ (N : Nat) (id_1006 : Int) (i_1007 : Int) (n1008 : Int) (n1009 : Int) (a1010 : Option Addr) (l1010 : Nat) (c1010 : Nat) (a1011 : Option Addr) (l1011 : Nat) (c1011 : Nat) (p1012 : Nat) (g m : H), Md g0 m0 g m [lo p1012 [.int .i64 n1008, .int .i64 n1009, .slice a1010 l1010 c1010, .slice a1011 l1011 c1011]] → spec_l11Lock_M_l0 kx0_2 kr_2 N id_1006 i_1007 a1011 l1011 m → spec_l11Lock_l0 kx0_1 kr_1 N id_1006 p1012 i_1007 g := by
  intro N
  induction N with
  | zero => intro id_1006 i_1007 n1008 n1009 a1010 l1010 c1010 a1011 l1011 c1011 p1012 g m R h0; exact h0.elim
  | succ N ih =>
    intro id_1006 i_1007 n1008 n1009 a1010 l1010 c1010 a1011 l1011 c1011 p1012 g m R
    rw [spec_l11Lock_M_l0, spec_l11Lock_l0]
    exact (p_ldL R rfl (d_if (p_ldL R rfl (d_req (d_nz fun b1013 o1014 =>
  (d_ldI R fun n1015 =>
  (d_if (Hkr i_1007 _ _ R.sub)
  (ih id_1006 (IntKind.i64.wrap (i_1007 + 1)) n1008 n1009 a1010 l1010 c1010 a1011 l1011 c1011 p1012 _ _ R.sub))))))
  (Hkx0 _ _ R.sub)))

theorem spec_l11Lock_M_D {g0 m0 : H} {kr_1 : Int → H → Prop} {kr_2 : Int → H → Prop} (Hkr : ∀ (n200001 : Int) (g m : H), Md g0 m0 g m [] → kr_2 n200001 m → kr_1 n200001 g) : ∀ (s_1001 : Int) (s_1002 : Int) (s_1003 : Option Addr) (s_l1003 : Nat) (s_c1003 : Nat) (s_1004 : Option Addr) (s_l1004 : Nat) (s_c1004 : Nat) (id_1005 : Int) (g m : H), Md g0 m0 g m [] → spec_l11Lock_M kr_2 s_1001 s_1002 s_1003 s_l1003 s_c1003 s_1004 s_l1004 s_c1004 id_1005 m → spec_l11Lock kr_1 s_1001 s_1002 s_1003 s_l1003 s_c1003 s_1004 s_l1004 s_c1004 id_1005 g := by
  intro s_1001 s_1002 s_1003 s_l1003 s_c1003 s_1004 s_l1004 s_c1004 id_1005 g m R
  rw [spec_l11Lock_M, spec_l11Lock]
  exact (p_new R fun p1006 g R =>
  (d_ex fun N => spec_l11Lock_M_l0_D (by exact fun g m R =>
  (Hkr (-1) _ _ R.sub))
  (by exact fun n1007 g m R =>
  (Hkr n1007 _ _ R.sub)) N id_1005 0 s_1001 s_1002 s_1003 s_l1003 s_c1003 s_1004 s_l1004 s_c1004 p1006 _ _ R.sub))

theorem spec_l11Lock_M_call {s_1 : Int} {s_2 : Int} {s_3 : Option Addr} {s_l3 : Nat} {s_c3 : Nat} {s_4 : Option Addr} {s_l4 : Nat} {s_c4 : Nat} {id_5 : Int} {h : H} {K : Value → H → Prop} (hs : spec_l11Lock_M (fun n300001 h =>
  K (.int .i64 n300001) h) s_1 s_2 s_3 s_l3 s_c3 s_4 s_l4 s_c4 id_5 h) : callD Try.prog 48 ⟨[.agg ⟨[.int .i64 s_1, .int .i64 s_2, .slice s_3 s_l3 s_c3, .slice s_4 s_l4 s_c4]⟩, .int .i64 id_5]⟩ h K :=
  fun g r => spec_l11Lock_call (spec_l11Lock_M_D (by exact fun n300001 g m R =>
(fun h => ⟨m, R.af, h⟩)) _ _ _ _ _ _ _ _ _ _ _ (Md.start r) hs)

noncomputable def code49 : Code := codeOf Try.f49
theorem body49 : Try.f49.body = some code49 := by kernel_rfl
def spec_l11Next (kr : Int → H → Prop) (s_1 : Int) (s_2 : Int) (s_3 : Option Addr) (s_l3 : Nat) (s_c3 : Nat) (s_4 : Option Addr) (s_l4 : Nat) (s_c4 : Nat) (id_5 : Int) (h : H) : Prop :=
  new h [.int .i64 s_1, .int .i64 s_2, .slice s_3 s_l3 s_c3, .slice s_4 s_l4 s_c4] 32 fun b6 h =>
  ldRow h b6 0 0 [.int .i64, .int .i64, .slice, .slice] fun n7 n8 a9 l9 c9 a10 l10 c10 =>
  callK Try.prog 29 ⟨[.agg ⟨[.int .i64 n7, .int .i64 n8, .slice a9 l9 c9, .slice a10 l10 c10]⟩, .int .i64 id_5]⟩ h fun v11 h =>
  asI .i64 v11 fun n12 =>
  ifB (decide ((n12 : Int) < 0))
  (kr (-1) h)
  (ldL h b6 2 fun a13 l13 c13 =>
  req (0 ≤ (n12 : Int) ∧ (n12 : Int) < (l13 : Nat))
  (nz a13 fun b14 o15 =>
  ldI .i64 h b14 ((o15 + n12.toNat * 8) + 2) fun n16 =>
  ifB ((n16 : Int) != 2)
  (kr (-1) h)
  (ldRow h b6 0 0 [.int .i64, .int .i64, .slice, .slice] fun n17 n18 a19 l19 c19 a20 l20 c20 =>
  ldL h b6 2 fun a21 l21 c21 =>
  req (0 ≤ (n12 : Int) ∧ (n12 : Int) < (l21 : Nat))
  (nz a21 fun b22 o23 =>
  ldI .i64 h b22 ((o23 + n12.toNat * 8) + 7) fun n24 =>
  callK Try.prog 48 ⟨[.agg ⟨[.int .i64 n17, .int .i64 n18, .slice a19 l19 c19, .slice a20 l20 c20]⟩, .int .i64 n24]⟩ h fun v25 h =>
  asI .i64 v25 fun n26 =>
  ifB (decide ((n26 : Int) < 0))
  (kr (-1) h)
  (ldL h b6 3 fun a27 l27 c27 =>
  req (0 ≤ (n26 : Int) ∧ (n26 : Int) < (l27 : Nat))
  (nz a27 fun b28 o29 =>
  ldI .i64 h b28 ((o29 + n26.toNat * 2) + 1) fun n30 =>
  kr n30 h))))))

theorem spec_l11Next_eq (K : Cont) (s_1 : Int) (s_2 : Int) (s_3 : Option Addr) (s_l3 : Nat) (s_c3 : Nat) (s_4 : Option Addr) (s_l4 : Nat) (s_c4 : Nat) (id_5 : Int) (h : H) :
  spec_l11Next (curV [(4, .int .i64)] (K .ret)) s_1 s_2 s_3 s_l3 s_c3 s_4 s_l4 s_c4 id_5 h = evC Try.prog 37 [] [] code49 [(0, .agg ⟨[.int .i64 s_1, .int .i64 s_2, .slice s_3 s_l3 s_c3, .slice s_4 s_l4 s_c4]⟩), (1, .int .i64 id_5)] h (outsOf none [] (some [(4, .int .i64)]) K).K := by kernel_rfl

def spec_l11Next_F : PT := mkF [(0, .agg [.int .i64, .int .i64, .slice, .slice]), (1, .int .i64)] fun K => spec_l11Next (curV [(4, .int .i64)] (K .ret))

theorem spec_l11Next_V : Valid Try.prog 37 code49 spec_l11Next_F :=
  piece mixed rows_nil (fun K => by intro s_1 s_2 s_3 s_l3 s_c3 s_4 s_l4 s_c4 id_5 h hd; exact (spec_l11Next_eq K s_1 s_2 s_3 s_l3 s_c3 s_4 s_l4 s_c4 id_5 h) ▸ hd)

theorem spec_l11Next_c0 (s_1 : Int) (s_2 : Int) (s_3 : Option Addr) (s_l3 : Nat) (s_c3 : Nat) (s_4 : Option Addr) (s_l4 : Nat) (s_c4 : Nat) (id_5 : Int) (h : H) (K : Value → H → Prop) :
  spec_l11Next (fun n100001 h =>
  K (.int .i64 n100001) h) s_1 s_2 s_3 s_l3 s_c3 s_4 s_l4 s_c4 id_5 h = callF Try.prog Try.f49.results.toList spec_l11Next_F [.agg ⟨[.int .i64 s_1, .int .i64 s_2, .slice s_3 s_l3 s_c3, .slice s_4 s_l4 s_c4]⟩, .int .i64 id_5] h K := by kernel_rfl

theorem spec_l11Next_call {s_1 : Int} {s_2 : Int} {s_3 : Option Addr} {s_l3 : Nat} {s_c3 : Nat} {s_4 : Option Addr} {s_l4 : Nat} {s_c4 : Nat} {id_5 : Int} {h : H} {K : Value → H → Prop} (hs : spec_l11Next (fun n100001 h =>
  K (.int .i64 n100001) h) s_1 s_2 s_3 s_l3 s_c3 s_4 s_l4 s_c4 id_5 h) : callK Try.prog 49 ⟨[.agg ⟨[.int .i64 s_1, .int .i64 s_2, .slice s_3 s_l3 s_c3, .slice s_4 s_l4 s_c4]⟩, .int .i64 id_5]⟩ h K :=
  func_calls Try.func49 body49 spec_l11Next_V (Nat.le_of_ble_eq_true (by kernel_rfl)) (spec_l11Next_c0 s_1 s_2 s_3 s_l3 s_c3 s_4 s_l4 s_c4 id_5 h K ▸ hs)

def spec_l11Next_M (kr : Int → H → Prop) (s_1 : Int) (s_2 : Int) (s_3 : Option Addr) (s_l3 : Nat) (s_c3 : Nat) (s_4 : Option Addr) (s_l4 : Nat) (s_c4 : Nat) (id_5 : Int) (h : H) : Prop :=
  callD Try.prog 29 ⟨[.agg ⟨[.int .i64 s_1, .int .i64 s_2, .slice s_3 s_l3 s_c3, .slice s_4 s_l4 s_c4]⟩, .int .i64 id_5]⟩ h fun v6 h =>
  asI .i64 v6 fun n7 =>
  ifB (decide ((n7 : Int) < 0))
  (kr (-1) h)
  (req (0 ≤ (n7 : Int) ∧ (n7 : Int) < (s_l3 : Nat))
  (nz s_3 fun b8 o9 =>
  ldI .i64 h b8 ((o9 + n7.toNat * 8) + 2) fun n10 =>
  ifB ((n10 : Int) != 2)
  (kr (-1) h)
  (req (0 ≤ (n7 : Int) ∧ (n7 : Int) < (s_l3 : Nat))
  (nz s_3 fun b11 o12 =>
  ldI .i64 h b11 ((o12 + n7.toNat * 8) + 7) fun n13 =>
  callD Try.prog 48 ⟨[.agg ⟨[.int .i64 s_1, .int .i64 s_2, .slice s_3 s_l3 s_c3, .slice s_4 s_l4 s_c4]⟩, .int .i64 n13]⟩ h fun v14 h =>
  asI .i64 v14 fun n15 =>
  ifB (decide ((n15 : Int) < 0))
  (kr (-1) h)
  (req (0 ≤ (n15 : Int) ∧ (n15 : Int) < (s_l4 : Nat))
  (nz s_4 fun b16 o17 =>
  ldI .i64 h b16 ((o17 + n15.toNat * 2) + 1) fun n18 =>
  kr n18 h))))))

theorem spec_l11Next_M_D {g0 m0 : H} {kr_1 : Int → H → Prop} {kr_2 : Int → H → Prop} (Hkr : ∀ (n200001 : Int) (g m : H), Md g0 m0 g m [] → kr_2 n200001 m → kr_1 n200001 g) : ∀ (s_1001 : Int) (s_1002 : Int) (s_1003 : Option Addr) (s_l1003 : Nat) (s_c1003 : Nat) (s_1004 : Option Addr) (s_l1004 : Nat) (s_c1004 : Nat) (id_1005 : Int) (g m : H), Md g0 m0 g m [] → spec_l11Next_M kr_2 s_1001 s_1002 s_1003 s_l1003 s_c1003 s_1004 s_l1004 s_c1004 id_1005 m → spec_l11Next kr_1 s_1001 s_1002 s_1003 s_l1003 s_c1003 s_1004 s_l1004 s_c1004 id_1005 g := by
  intro s_1001 s_1002 s_1003 s_l1003 s_c1003 s_1004 s_l1004 s_c1004 id_1005 g m R
  rw [spec_l11Next_M, spec_l11Next]
  exact (p_new R fun p1006 g R =>
  (p_row_I2L2 R rfl rfl rfl rfl (d_call R fun v1007 g m R =>
  (d_asI fun n1008 =>
  (d_if (Hkr (-1) _ _ R.sub)
  (p_ldL R rfl (d_req (d_nz fun b1009 o1010 =>
  (d_ldI R fun n1011 =>
  (d_if (Hkr (-1) _ _ R.sub)
  (p_row_I2L2 R rfl rfl rfl rfl (p_ldL R rfl (d_req (d_nz fun b1012 o1013 =>
  (d_ldI R fun n1014 =>
  (d_call R fun v1015 g m R =>
  (d_asI fun n1016 =>
  (d_if (Hkr (-1) _ _ R.sub)
  (p_ldL R rfl (d_req (d_nz fun b1017 o1018 =>
  (d_ldI R fun n1019 =>
  (Hkr n1019 _ _ R.sub)))))))))))))))))))))))

theorem spec_l11Next_M_call {s_1 : Int} {s_2 : Int} {s_3 : Option Addr} {s_l3 : Nat} {s_c3 : Nat} {s_4 : Option Addr} {s_l4 : Nat} {s_c4 : Nat} {id_5 : Int} {h : H} {K : Value → H → Prop} (hs : spec_l11Next_M (fun n300001 h =>
  K (.int .i64 n300001) h) s_1 s_2 s_3 s_l3 s_c3 s_4 s_l4 s_c4 id_5 h) : callD Try.prog 49 ⟨[.agg ⟨[.int .i64 s_1, .int .i64 s_2, .slice s_3 s_l3 s_c3, .slice s_4 s_l4 s_c4]⟩, .int .i64 id_5]⟩ h K :=
  fun g r => spec_l11Next_call (spec_l11Next_M_D (by exact fun n300001 g m R =>
(fun h => ⟨m, R.af, h⟩)) _ _ _ _ _ _ _ _ _ _ _ (Md.start r) hs)

noncomputable def code50 : Code := codeOf Try.f50
theorem body50 : Try.f50.body = some code50 := by kernel_rfl
def spec_l11Pick_l0 (kx0 : Nat → Int → H → Prop) : Nat → Nat → Int → Int → Int → H → Prop
 | 0, _, _, _, _, _ => False
 | N + 1, s_6, best_7, most_8, i_9, h =>
  ldL h s_6 2 fun a10 l10 c10 =>
  ifB (decide ((i_9 : Int) < (l10 : Nat)))
  (ldL h s_6 2 fun a11 l11 c11 =>
  req (0 ≤ (i_9 : Int) ∧ (i_9 : Int) < (l11 : Nat))
  (nz a11 fun b12 o13 =>
  ldRow h b12 (o13 + i_9.toNat * 8) 0 [.int .i64, .int .i64, .int .i64, .int .i64, .int .i64, .int .i64, .int .i64, .int .i64] fun n14 n15 n16 n17 n18 n19 n20 n21 =>
  new h [.int .i64 0, .int .i64 0, .int .i64 0, .int .i64 0, .int .i64 0, .int .i64 0, .int .i64 0, .int .i64 0] 60 fun b22 h =>
  stRow h b22 0 0 [.int .i64 n14, .int .i64 n15, .int .i64 n16, .int .i64 n17, .int .i64 n18, .int .i64 n19, .int .i64 n20, .int .i64 n21] fun h =>
  ldI .i64 h b22 2 fun n23 =>
  ifB ((n23 : Int) != 1)
  (spec_l11Pick_l0 kx0 N s_6 best_7 most_8 (IntKind.i64.wrap (i_9 + 1)) h)
  (ldRow h s_6 0 0 [.int .i64, .int .i64, .slice, .slice] fun n24 n25 a26 l26 c26 a27 l27 c27 =>
  ldI .i64 h b22 0 fun n28 =>
  callK Try.prog 56 ⟨[.agg ⟨[.int .i64 n24, .int .i64 n25, .slice a26 l26 c26, .slice a27 l27 c27]⟩, .int .i64 n28]⟩ h fun v29 h =>
  asI .i64 v29 fun n30 =>
  ifB (decide ((n30 : Int) > most_8))
  (spec_l11Pick_l0 kx0 N s_6 i_9 n30 (IntKind.i64.wrap (i_9 + 1)) h)
  (ifB ((n30 : Int) == most_8)
  (ldI .i64 h b22 3 fun n31 =>
  ldL h s_6 2 fun a32 l32 c32 =>
  req (0 ≤ (best_7 : Int) ∧ (best_7 : Int) < (l32 : Nat))
  (nz a32 fun b33 o34 =>
  ldI .i64 h b33 ((o34 + best_7.toNat * 8) + 3) fun n35 =>
  ifB (decide ((n31 : Int) < n35))
  (spec_l11Pick_l0 kx0 N s_6 i_9 n30 (IntKind.i64.wrap (i_9 + 1)) h)
  (spec_l11Pick_l0 kx0 N s_6 best_7 most_8 (IntKind.i64.wrap (i_9 + 1)) h)))
  (spec_l11Pick_l0 kx0 N s_6 best_7 most_8 (IntKind.i64.wrap (i_9 + 1)) h)))))
  (kx0 s_6 best_7 h)

def spec_l11Pick (kr : Int → H → Prop) (s_1 : Int) (s_2 : Int) (s_3 : Option Addr) (s_l3 : Nat) (s_c3 : Nat) (s_4 : Option Addr) (s_l4 : Nat) (s_c4 : Nat) (h : H) : Prop :=
  new h [.int .i64 s_1, .int .i64 s_2, .slice s_3 s_l3 s_c3, .slice s_4 s_l4 s_c4] 32 fun b5 h =>
  ∃ M12, spec_l11Pick_l0 (fun s_6 best_7 h =>
  ifB (decide ((best_7 : Int) < 0))
  (kr (-1) h)
  (ldL h s_6 2 fun a8 l8 c8 =>
  req (0 ≤ (best_7 : Int) ∧ (best_7 : Int) < (l8 : Nat))
  (nz a8 fun b9 o10 =>
  ldI .i64 h b9 (o10 + best_7.toNat * 8) fun n11 =>
  kr n11 h))) M12 b5 (-1) (-1) 0 h

theorem spec_l11Pick_l0_eq (K : Cont) (N : Nat) (s_6 : Nat) (best_7 : Int) (most_8 : Int) (i_9 : Int) (h : H) :
  spec_l11Pick_l0 (curV [(1, .blk), (3, .int .i64)] (K (.exit 0))) (N + 1) s_6 best_7 most_8 i_9 h = evC Try.prog 56 [] [] (sub code50 [true, true, true, false, true, false, false]) [(1, .pointer (some ⟨s_6, 0, none⟩)), (3, .int .i64 best_7), (4, .int .i64 most_8), (5, .int .i64 i_9)] h ((outsOf none [(0, [(1, .blk), (3, .int .i64)])] none K).loop [(1, .blk), (3, .int .i64), (4, .int .i64), (5, .int .i64)] (spec_l11Pick_l0 (curV [(1, .blk), (3, .int .i64)] (K (.exit 0))) N)).K := by kernel_rfl

def spec_l11Pick_l0_F : PT := mkL [(1, .blk), (3, .int .i64), (4, .int .i64), (5, .int .i64)] fun K N => spec_l11Pick_l0 (curV [(1, .blk), (3, .int .i64)] (K (.exit 0))) N

theorem spec_l11Pick_l0_V : Valid Try.prog 56 (sub code50 [true, true, true, false, true, false]) spec_l11Pick_l0_F :=
  loop_at (code50) [true, true, true, false, true, false] (loop_piece (c := (sub code50 [true, true, true, false, true, false, false])) mixed rows_nil (fun K => by intro s_6 best_7 most_8 i_9 h hd; exact hd) (fun K N => by intro s_6 best_7 most_8 i_9 h hd; exact (spec_l11Pick_l0_eq K N s_6 best_7 most_8 i_9 h) ▸ hd))

theorem spec_l11Pick_eq (K : Cont) (s_1 : Int) (s_2 : Int) (s_3 : Option Addr) (s_l3 : Nat) (s_c3 : Nat) (s_4 : Option Addr) (s_l4 : Nat) (s_c4 : Nat) (h : H) :
  spec_l11Pick (curV [(2, .int .i64)] (K .ret)) s_1 s_2 s_3 s_l3 s_c3 s_4 s_l4 s_c4 h = evC Try.prog 56 [([false, false, true, false, true, true, true], spec_l11Pick_l0_F)] [] code50 [(0, .agg ⟨[.int .i64 s_1, .int .i64 s_2, .slice s_3 s_l3 s_c3, .slice s_4 s_l4 s_c4]⟩)] h (outsOf none [] (some [(2, .int .i64)]) K).K := by kernel_rfl

def spec_l11Pick_F : PT := mkF [(0, .agg [.int .i64, .int .i64, .slice, .slice])] fun K => spec_l11Pick (curV [(2, .int .i64)] (K .ret))

theorem spec_l11Pick_V : Valid Try.prog 56 code50 spec_l11Pick_F :=
  piece mixed (rows_cons (q' := [true, true, true, false, true, false]) spec_l11Pick_l0_V rfl rows_nil) (fun K => by intro s_1 s_2 s_3 s_l3 s_c3 s_4 s_l4 s_c4 h hd; exact (spec_l11Pick_eq K s_1 s_2 s_3 s_l3 s_c3 s_4 s_l4 s_c4 h) ▸ hd)

theorem spec_l11Pick_c0 (s_1 : Int) (s_2 : Int) (s_3 : Option Addr) (s_l3 : Nat) (s_c3 : Nat) (s_4 : Option Addr) (s_l4 : Nat) (s_c4 : Nat) (h : H) (K : Value → H → Prop) :
  spec_l11Pick (fun n100001 h =>
  K (.int .i64 n100001) h) s_1 s_2 s_3 s_l3 s_c3 s_4 s_l4 s_c4 h = callF Try.prog Try.f50.results.toList spec_l11Pick_F [.agg ⟨[.int .i64 s_1, .int .i64 s_2, .slice s_3 s_l3 s_c3, .slice s_4 s_l4 s_c4]⟩] h K := by kernel_rfl

theorem spec_l11Pick_call {s_1 : Int} {s_2 : Int} {s_3 : Option Addr} {s_l3 : Nat} {s_c3 : Nat} {s_4 : Option Addr} {s_l4 : Nat} {s_c4 : Nat} {h : H} {K : Value → H → Prop} (hs : spec_l11Pick (fun n100001 h =>
  K (.int .i64 n100001) h) s_1 s_2 s_3 s_l3 s_c3 s_4 s_l4 s_c4 h) : callK Try.prog 50 ⟨[.agg ⟨[.int .i64 s_1, .int .i64 s_2, .slice s_3 s_l3 s_c3, .slice s_4 s_l4 s_c4]⟩]⟩ h K :=
  func_calls Try.func50 body50 spec_l11Pick_V (Nat.le_of_ble_eq_true (by kernel_rfl)) (spec_l11Pick_c0 s_1 s_2 s_3 s_l3 s_c3 s_4 s_l4 s_c4 h K ▸ hs)

def spec_l11Pick_M_l0 (kx0 : Int → Option Addr → Nat → H → Prop) : Nat → Int → Int → Int → Int → Int → Option Addr → Nat → Nat → Option Addr → Nat → Nat → H → Prop
 | 0, _, _, _, _, _, _, _, _, _, _, _, _ => False
 | N + 1, best_5, most_6, i_7, n8, n9, a10, l10, c10, a11, l11, c11, h =>
  ifB (decide ((i_7 : Int) < (l10 : Nat)))
  (req (0 ≤ (i_7 : Int) ∧ (i_7 : Int) < (l10 : Nat))
  (nz a10 fun b13 o14 =>
  ldRow h b13 (o14 + i_7.toNat * 8) 0 [.int .i64, .int .i64, .int .i64, .int .i64, .int .i64, .int .i64, .int .i64, .int .i64] fun n15 n16 n17 n18 n19 n20 n21 n22 =>
  ifB ((n17 : Int) != 1)
  (spec_l11Pick_M_l0 kx0 N best_5 most_6 (IntKind.i64.wrap (i_7 + 1)) n8 n9 a10 l10 c10 a11 l11 c11 h)
  (callD Try.prog 56 ⟨[.agg ⟨[.int .i64 n8, .int .i64 n9, .slice a10 l10 c10, .slice a11 l11 c11]⟩, .int .i64 n15]⟩ h fun v23 h =>
  asI .i64 v23 fun n24 =>
  ifB (decide ((n24 : Int) > most_6))
  (spec_l11Pick_M_l0 kx0 N i_7 n24 (IntKind.i64.wrap (i_7 + 1)) n8 n9 a10 l10 c10 a11 l11 c11 h)
  (ifB ((n24 : Int) == most_6)
  (req (0 ≤ (best_5 : Int) ∧ (best_5 : Int) < (l10 : Nat))
  (nz a10 fun b25 o26 =>
  ldI .i64 h b25 ((o26 + best_5.toNat * 8) + 3) fun n27 =>
  ifB (decide ((n18 : Int) < n27))
  (spec_l11Pick_M_l0 kx0 N i_7 n24 (IntKind.i64.wrap (i_7 + 1)) n8 n9 a10 l10 c10 a11 l11 c11 h)
  (spec_l11Pick_M_l0 kx0 N best_5 most_6 (IntKind.i64.wrap (i_7 + 1)) n8 n9 a10 l10 c10 a11 l11 c11 h)))
  (spec_l11Pick_M_l0 kx0 N best_5 most_6 (IntKind.i64.wrap (i_7 + 1)) n8 n9 a10 l10 c10 a11 l11 c11 h)))))
  (kx0 best_5 a10 l10 h)

def spec_l11Pick_M (kr : Int → H → Prop) (s_1 : Int) (s_2 : Int) (s_3 : Option Addr) (s_l3 : Nat) (s_c3 : Nat) (s_4 : Option Addr) (s_l4 : Nat) (s_c4 : Nat) (h : H) : Prop :=
  ∃ M14, spec_l11Pick_M_l0 (fun best_5 a8 l8 h =>
  ifB (decide ((best_5 : Int) < 0))
  (kr (-1) h)
  (req (0 ≤ (best_5 : Int) ∧ (best_5 : Int) < (l8 : Nat))
  (nz a8 fun b11 o12 =>
  ldI .i64 h b11 (o12 + best_5.toNat * 8) fun n13 =>
  kr n13 h))) M14 (-1) (-1) 0 s_1 s_2 s_3 s_l3 s_c3 s_4 s_l4 s_c4 h

theorem spec_l11Pick_M_l0_D {g0 m0 : H} {kx0_1 : Nat → Int → H → Prop} {kx0_2 : Int → Option Addr → Nat → H → Prop} (Hkx0 : ∀ (best_200001 : Int) (n200002 : Int) (n200003 : Int) (a200004 : Option Addr) (l200004 : Nat) (c200004 : Nat) (a200005 : Option Addr) (l200005 : Nat) (c200005 : Nat) (p200006 : Nat) (g m : H), Md g0 m0 g m [lo p200006 [.int .i64 n200002, .int .i64 n200003, .slice a200004 l200004 c200004, .slice a200005 l200005 c200005]] → kx0_2 best_200001 a200004 l200004 m → kx0_1 p200006 best_200001 g) : ∀ (N : Nat) (best_1005 : Int) (most_1006 : Int) (i_1007 : Int) (n1008 : Int) (n1009 : Int) (a1010 : Option Addr) (l1010 : Nat) (c1010 : Nat) (a1011 : Option Addr) (l1011 : Nat) (c1011 : Nat) (p1012 : Nat) (g m : H), Md g0 m0 g m [lo p1012 [.int .i64 n1008, .int .i64 n1009, .slice a1010 l1010 c1010, .slice a1011 l1011 c1011]] → spec_l11Pick_M_l0 kx0_2 N best_1005 most_1006 i_1007 n1008 n1009 a1010 l1010 c1010 a1011 l1011 c1011 m → spec_l11Pick_l0 kx0_1 N p1012 best_1005 most_1006 i_1007 g := by
  intro N
  induction N with
  | zero => intro best_1005 most_1006 i_1007 n1008 n1009 a1010 l1010 c1010 a1011 l1011 c1011 p1012 g m R h0; exact h0.elim
  | succ N ih =>
    intro best_1005 most_1006 i_1007 n1008 n1009 a1010 l1010 c1010 a1011 l1011 c1011 p1012 g m R
    rw [spec_l11Pick_M_l0, spec_l11Pick_l0]
    exact (p_ldL R rfl (d_if (p_ldL R rfl (d_req (d_nz fun b1013 o1014 =>
  (d_row_I8 R fun n1015 n1016 n1017 n1018 n1019 n1020 n1021 n1022 =>
  (p_new R fun p1023 g R =>
  (p_stRow R (cs' := [.int .i64 n1015, .int .i64 n1016, .int .i64 n1017, .int .i64 n1018, .int .i64 n1019, .int .i64 n1020, .int .i64 n1021, .int .i64 n1022]) ⟨rfl, rfl, rfl⟩ fun g R =>
  (p_ldI R rfl (d_if (ih best_1005 most_1006 (IntKind.i64.wrap (i_1007 + 1)) n1008 n1009 a1010 l1010 c1010 a1011 l1011 c1011 p1012 _ _ R.sub)
  (p_row_I2L2 R rfl rfl rfl rfl (p_ldI R rfl (d_call R fun v1024 g m R =>
  (d_asI fun n1025 =>
  (d_if (ih i_1007 n1025 (IntKind.i64.wrap (i_1007 + 1)) n1008 n1009 a1010 l1010 c1010 a1011 l1011 c1011 p1012 _ _ R.sub)
  (d_if (p_ldI R rfl (p_ldL R rfl (d_req (d_nz fun b1026 o1027 =>
  (d_ldI R fun n1028 =>
  (d_if (ih i_1007 n1025 (IntKind.i64.wrap (i_1007 + 1)) n1008 n1009 a1010 l1010 c1010 a1011 l1011 c1011 p1012 _ _ R.sub)
  (ih best_1005 most_1006 (IntKind.i64.wrap (i_1007 + 1)) n1008 n1009 a1010 l1010 c1010 a1011 l1011 c1011 p1012 _ _ R.sub)))))))
  (ih best_1005 most_1006 (IntKind.i64.wrap (i_1007 + 1)) n1008 n1009 a1010 l1010 c1010 a1011 l1011 c1011 p1012 _ _ R.sub)))))))))))))))
  (Hkx0 best_1005 n1008 n1009 a1010 l1010 c1010 a1011 l1011 c1011 p1012 _ _ R.sub)))

theorem spec_l11Pick_M_D {g0 m0 : H} {kr_1 : Int → H → Prop} {kr_2 : Int → H → Prop} (Hkr : ∀ (n200001 : Int) (g m : H), Md g0 m0 g m [] → kr_2 n200001 m → kr_1 n200001 g) : ∀ (s_1001 : Int) (s_1002 : Int) (s_1003 : Option Addr) (s_l1003 : Nat) (s_c1003 : Nat) (s_1004 : Option Addr) (s_l1004 : Nat) (s_c1004 : Nat) (g m : H), Md g0 m0 g m [] → spec_l11Pick_M kr_2 s_1001 s_1002 s_1003 s_l1003 s_c1003 s_1004 s_l1004 s_c1004 m → spec_l11Pick kr_1 s_1001 s_1002 s_1003 s_l1003 s_c1003 s_1004 s_l1004 s_c1004 g := by
  intro s_1001 s_1002 s_1003 s_l1003 s_c1003 s_1004 s_l1004 s_c1004 g m R
  rw [spec_l11Pick_M, spec_l11Pick]
  exact (p_new R fun p1005 g R =>
  (d_ex fun N => spec_l11Pick_M_l0_D (by exact fun best_1006 n1007 n1008 a1009 l1009 c1009 a1010 l1010 c1010 p1011 g m R =>
  (d_if (Hkr (-1) _ _ R.sub)
  (p_ldL R rfl (d_req (d_nz fun b1012 o1013 =>
  (d_ldI R fun n1014 =>
  (Hkr n1014 _ _ R.sub))))))) N (-1) (-1) 0 s_1001 s_1002 s_1003 s_l1003 s_c1003 s_1004 s_l1004 s_c1004 p1005 _ _ R.sub))

theorem spec_l11Pick_M_call {s_1 : Int} {s_2 : Int} {s_3 : Option Addr} {s_l3 : Nat} {s_c3 : Nat} {s_4 : Option Addr} {s_l4 : Nat} {s_c4 : Nat} {h : H} {K : Value → H → Prop} (hs : spec_l11Pick_M (fun n300001 h =>
  K (.int .i64 n300001) h) s_1 s_2 s_3 s_l3 s_c3 s_4 s_l4 s_c4 h) : callD Try.prog 50 ⟨[.agg ⟨[.int .i64 s_1, .int .i64 s_2, .slice s_3 s_l3 s_c3, .slice s_4 s_l4 s_c4]⟩]⟩ h K :=
  fun g r => spec_l11Pick_call (spec_l11Pick_M_D (by exact fun n300001 g m R =>
(fun h => ⟨m, R.af, h⟩)) _ _ _ _ _ _ _ _ _ _ (Md.start r) hs)

noncomputable def code51 : Code := codeOf Try.f51
theorem body51 : Try.f51.body = some code51 := by kernel_rfl
def spec_l11HandOn_l0 (kx0 : Int → Nat → Nat → Int → H → Prop) : Nat → Int → Nat → Nat → Int → Int → Int → H → Prop
 | 0, _, _, _, _, _, _, _ => False
 | N + 1, n8, b9, b10, n11, n12, n13, h =>
  ldL h b9 2 fun a14 l14 c14 =>
  ifB (decide ((n13 : Int) < (l14 : Nat)))
  (ldL h b9 2 fun a15 l15 c15 =>
  req (0 ≤ (n13 : Int) ∧ (n13 : Int) < (l15 : Nat))
  (nz a15 fun b16 o17 =>
  ldRow h b16 (o17 + n13.toNat * 8) 0 [.int .i64, .int .i64, .int .i64, .int .i64, .int .i64, .int .i64, .int .i64, .int .i64] fun n18 n19 n20 n21 n22 n23 n24 n25 =>
  new h [.int .i64 0, .int .i64 0, .int .i64 0, .int .i64 0, .int .i64 0, .int .i64 0, .int .i64 0, .int .i64 0] 60 fun b26 h =>
  stRow h b26 0 0 [.int .i64 n18, .int .i64 n19, .int .i64 n20, .int .i64 n21, .int .i64 n22, .int .i64 n23, .int .i64 n24, .int .i64 n25] fun h =>
  ldI .i64 h b26 2 fun n27 =>
  ifB ((n27 : Int) != 2)
  (spec_l11HandOn_l0 kx0 N n8 b9 b10 n11 n12 (IntKind.i64.wrap (n13 + 1)) h)
  (ldI .i64 h b26 7 fun n28 =>
  ifB ((n28 : Int) != n8)
  (spec_l11HandOn_l0 kx0 N n8 b9 b10 n11 n12 (IntKind.i64.wrap (n13 + 1)) h)
  (ldRow h b9 0 0 [.int .i64, .int .i64, .slice, .slice] fun n29 n30 a31 l31 c31 a32 l32 c32 =>
  ldI .i64 h b26 0 fun n33 =>
  callK Try.prog 56 ⟨[.agg ⟨[.int .i64 n29, .int .i64 n30, .slice a31 l31 c31, .slice a32 l32 c32]⟩, .int .i64 n33]⟩ h fun v34 h =>
  asI .i64 v34 fun n35 =>
  ifB (decide ((n35 : Int) > n12))
  (spec_l11HandOn_l0 kx0 N n8 b9 b10 n13 n35 (IntKind.i64.wrap (n13 + 1)) h)
  (ifB ((n35 : Int) == n12)
  (ldI .i64 h b26 3 fun n36 =>
  ldL h b9 2 fun a37 l37 c37 =>
  req (0 ≤ (n11 : Int) ∧ (n11 : Int) < (l37 : Nat))
  (nz a37 fun b38 o39 =>
  ldI .i64 h b38 ((o39 + n11.toNat * 8) + 3) fun n40 =>
  ifB (decide ((n36 : Int) < n40))
  (spec_l11HandOn_l0 kx0 N n8 b9 b10 n13 n35 (IntKind.i64.wrap (n13 + 1)) h)
  (spec_l11HandOn_l0 kx0 N n8 b9 b10 n11 n12 (IntKind.i64.wrap (n13 + 1)) h)))
  (spec_l11HandOn_l0 kx0 N n8 b9 b10 n11 n12 (IntKind.i64.wrap (n13 + 1)) h))))))
  (kx0 n8 b9 b10 n11 h)

def spec_l11HandOn (kr : Nat → H → Prop) (n1 : Int) (n2 : Int) (a3 : Option Addr) (l3 : Nat) (c3 : Nat) (a4 : Option Addr) (l4 : Nat) (c4 : Nat) (n5 : Int) (h : H) : Prop :=
  new h [.int .i64 n1, .int .i64 n2, .slice a3 l3 c3, .slice a4 l4 c4] 32 fun b6 h =>
  new h [.int .i64 0, .int .i64 0, .slice none 0 0, .slice none 0 0] 32 fun b7 h =>
  ∃ M44, spec_l11HandOn_l0 (fun n8 b9 b10 n11 h =>
  ldRow h b9 0 0 [.int .i64, .int .i64, .slice, .slice] fun n12 n13 a14 l14 c14 a15 l15 c15 =>
  callK Try.prog 48 ⟨[.agg ⟨[.int .i64 n12, .int .i64 n13, .slice a14 l14 c14, .slice a15 l15 c15]⟩, .int .i64 n8]⟩ h fun v16 h =>
  asI .i64 v16 fun n17 =>
  ifB (decide ((n11 : Int) < 0))
  (ldL h b9 3 fun a18 l18 c18 =>
  req (0 ≤ (n17 : Int) ∧ (n17 : Int) ≤ (c18 : Nat))
  (req (plainA a18 = true)
  (ldL h b9 3 fun a19 l19 c19 =>
  req (0 ≤ (IntKind.i64.wrap (n17 + 1) : Int) ∧ (IntKind.i64.wrap (n17 + 1) : Int) ≤ (l19 : Nat))
  (req (plainA a19 = true)
  (new h [] 57 fun b20 h =>
  cell h b9 3 = some (.slice a19 l19 c19) ∧ (cell h b9 3 = some (.slice a18 l18 c18) ∧ (appendK Try.prog 57 h (some ⟨b20, 0, none⟩) 0 0 (.slice (slB a18 0 c18 2) (n17.toNat - 0) (c18 - 0)) fun a21 l21 c21 h =>
  cell h b9 3 = some (.slice a19 l19 c19) ∧ (appendK Try.prog 57 h a21 l21 c21 (.slice (slB a19 ((IntKind.i64.wrap (n17 + 1)).toNat) c19 2) (l19 - (IntKind.i64.wrap (n17 + 1)).toNat) (c19 - (IntKind.i64.wrap (n17 + 1)).toNat)) fun a22 l22 c22 h =>
  st h b9 3 (.slice a22 l22 c22) fun h =>
  ldRow h b9 0 0 [.int .i64, .int .i64, .slice, .slice] fun n23 n24 a25 l25 c25 a26 l26 c26 =>
  stRow h b10 0 0 [.int .i64 n23, .int .i64 n24, .slice a25 l25 c25, .slice a26 l26 c26] fun h =>
  kr b10 h))))))))
  (ldL h b9 3 fun a27 l27 c27 =>
  ldL h b9 2 fun a28 l28 c28 =>
  req (0 ≤ (n11 : Int) ∧ (n11 : Int) < (l28 : Nat))
  (nz a28 fun b29 o30 =>
  ldI .i64 h b29 (o30 + n11.toNat * 8) fun n31 =>
  req (0 ≤ (n17 : Int) ∧ (n17 : Int) < (l27 : Nat))
  (nz a27 fun b32 o33 =>
  st h b32 ((o33 + n17.toNat * 2) + 1) (.int .i64 n31) fun h =>
  ldRow h b9 0 0 [.int .i64, .int .i64, .slice, .slice] fun n34 n35 a36 l36 c36 a37 l37 c37 =>
  ldI .i64 h b9 0 fun n38 =>
  callK Try.prog 36 ⟨[.agg ⟨[.int .i64 n34, .int .i64 n35, .slice a36 l36 c36, .slice a37 l37 c37]⟩, .int .i64 n11, .int .i64 n38]⟩ h fun v39 h =>
  elF False (.agg [.int .i64, .int .i64, .slice, .slice]) v39 fun n40 n41 a42 l42 c42 a43 l43 c43 =>
  stRow h b10 0 0 [.int .i64 n40, .int .i64 n41, .slice a42 l42 c42, .slice a43 l43 c43] fun h =>
  kr b10 h)))) M44 n5 b6 b7 (-1) (-1) 0 h

theorem spec_l11HandOn_l0_eq (K : Cont) (N : Nat) (n8 : Int) (b9 : Nat) (b10 : Nat) (n11 : Int) (n12 : Int) (n13 : Int) (h : H) :
  spec_l11HandOn_l0 (curV [(1, .int .i64), (2, .blk), (4, .blk), (5, .int .i64)] (K (.exit 0))) (N + 1) n8 b9 b10 n11 n12 n13 h = evC Try.prog 92 [] [] (sub code51 [true, true, true, false, true, false, false]) [(1, .int .i64 n8), (2, .pointer (some ⟨b9, 0, none⟩)), (4, .pointer (some ⟨b10, 0, none⟩)), (5, .int .i64 n11), (6, .int .i64 n12), (7, .int .i64 n13)] h ((outsOf none [(0, [(1, .int .i64), (2, .blk), (4, .blk), (5, .int .i64)])] none K).loop [(1, .int .i64), (2, .blk), (4, .blk), (5, .int .i64), (6, .int .i64), (7, .int .i64)] (spec_l11HandOn_l0 (curV [(1, .int .i64), (2, .blk), (4, .blk), (5, .int .i64)] (K (.exit 0))) N)).K := by kernel_rfl

def spec_l11HandOn_l0_F : PT := mkL [(1, .int .i64), (2, .blk), (4, .blk), (5, .int .i64), (6, .int .i64), (7, .int .i64)] fun K N => spec_l11HandOn_l0 (curV [(1, .int .i64), (2, .blk), (4, .blk), (5, .int .i64)] (K (.exit 0))) N

theorem spec_l11HandOn_l0_V : Valid Try.prog 92 (sub code51 [true, true, true, false, true, false]) spec_l11HandOn_l0_F :=
  loop_at (code51) [true, true, true, false, true, false] (loop_piece (c := (sub code51 [true, true, true, false, true, false, false])) mixed rows_nil (fun K => by intro n8 b9 b10 n11 n12 n13 h hd; exact hd) (fun K N => by intro n8 b9 b10 n11 n12 n13 h hd; exact (spec_l11HandOn_l0_eq K N n8 b9 b10 n11 n12 n13 h) ▸ hd))

theorem spec_l11HandOn_eq (K : Cont) (n1 : Int) (n2 : Int) (a3 : Option Addr) (l3 : Nat) (c3 : Nat) (a4 : Option Addr) (l4 : Nat) (c4 : Nat) (n5 : Int) (h : H) :
  spec_l11HandOn (curV [(4, .blk)] (K .ret)) n1 n2 a3 l3 c3 a4 l4 c4 n5 h = evC Try.prog 92 [([false, false, true, false, true, true, true], spec_l11HandOn_l0_F)] [] code51 [(0, .agg ⟨[.int .i64 n1, .int .i64 n2, .slice a3 l3 c3, .slice a4 l4 c4]⟩), (1, .int .i64 n5)] h (outsOf none [] (some [(4, .blk)]) K).K := by kernel_rfl

def spec_l11HandOn_F : PT := mkF [(0, .agg [.int .i64, .int .i64, .slice, .slice]), (1, .int .i64)] fun K => spec_l11HandOn (curV [(4, .blk)] (K .ret))

theorem spec_l11HandOn_V : Valid Try.prog 92 code51 spec_l11HandOn_F :=
  piece mixed (rows_cons (q' := [true, true, true, false, true, false]) spec_l11HandOn_l0_V rfl rows_nil) (fun K => by intro n1 n2 a3 l3 c3 a4 l4 c4 n5 h hd; exact (spec_l11HandOn_eq K n1 n2 a3 l3 c3 a4 l4 c4 n5 h) ▸ hd)

theorem spec_l11HandOn_c0 (n1 : Int) (n2 : Int) (a3 : Option Addr) (l3 : Nat) (c3 : Nat) (a4 : Option Addr) (l4 : Nat) (c4 : Nat) (n5 : Int) (h : H) (K : Value → H → Prop) :
  spec_l11HandOn (fun b100001 h =>
  ldRow h b100001 0 0 [.int .i64, .int .i64, .slice, .slice] fun n100002 n100003 a100004 l100004 c100004 a100005 l100005 c100005 =>
  K (.agg ⟨[.int .i64 n100002, .int .i64 n100003, .slice a100004 l100004 c100004, .slice a100005 l100005 c100005]⟩) h) n1 n2 a3 l3 c3 a4 l4 c4 n5 h = callF Try.prog Try.f51.results.toList spec_l11HandOn_F [.agg ⟨[.int .i64 n1, .int .i64 n2, .slice a3 l3 c3, .slice a4 l4 c4]⟩, .int .i64 n5] h K := by kernel_rfl

theorem spec_l11HandOn_call {n1 : Int} {n2 : Int} {a3 : Option Addr} {l3 : Nat} {c3 : Nat} {a4 : Option Addr} {l4 : Nat} {c4 : Nat} {n5 : Int} {h : H} {K : Value → H → Prop} (hs : spec_l11HandOn (fun b100001 h =>
  ldRow h b100001 0 0 [.int .i64, .int .i64, .slice, .slice] fun n100002 n100003 a100004 l100004 c100004 a100005 l100005 c100005 =>
  K (.agg ⟨[.int .i64 n100002, .int .i64 n100003, .slice a100004 l100004 c100004, .slice a100005 l100005 c100005]⟩) h) n1 n2 a3 l3 c3 a4 l4 c4 n5 h) : callK Try.prog 51 ⟨[.agg ⟨[.int .i64 n1, .int .i64 n2, .slice a3 l3 c3, .slice a4 l4 c4]⟩, .int .i64 n5]⟩ h K :=
  func_calls Try.func51 body51 spec_l11HandOn_V (Nat.le_of_ble_eq_true (by kernel_rfl)) (spec_l11HandOn_c0 n1 n2 a3 l3 c3 a4 l4 c4 n5 h K ▸ hs)

def spec_l11HandOn_M_l0 (kx0 : Int → Int → Int → Int → Option Addr → Nat → Nat → Option Addr → Nat → Nat → H → Prop) : Nat → Int → Int → Int → Int → Int → Int → Option Addr → Nat → Nat → Option Addr → Nat → Nat → H → Prop
 | 0, _, _, _, _, _, _, _, _, _, _, _, _, _ => False
 | N + 1, n6, n7, n8, n9, n10, n11, a12, l12, c12, a13, l13, c13, h =>
  ifB (decide ((n9 : Int) < (l12 : Nat)))
  (req (0 ≤ (n9 : Int) ∧ (n9 : Int) < (l12 : Nat))
  (nz a12 fun b20 o21 =>
  ldRow h b20 (o21 + n9.toNat * 8) 0 [.int .i64, .int .i64, .int .i64, .int .i64, .int .i64, .int .i64, .int .i64, .int .i64] fun n22 n23 n24 n25 n26 n27 n28 n29 =>
  ifB ((n24 : Int) != 2)
  (spec_l11HandOn_M_l0 kx0 N n6 n7 n8 (IntKind.i64.wrap (n9 + 1)) n10 n11 a12 l12 c12 a13 l13 c13 h)
  (ifB ((n29 : Int) != n6)
  (spec_l11HandOn_M_l0 kx0 N n6 n7 n8 (IntKind.i64.wrap (n9 + 1)) n10 n11 a12 l12 c12 a13 l13 c13 h)
  (callD Try.prog 56 ⟨[.agg ⟨[.int .i64 n10, .int .i64 n11, .slice a12 l12 c12, .slice a13 l13 c13]⟩, .int .i64 n22]⟩ h fun v30 h =>
  asI .i64 v30 fun n31 =>
  ifB (decide ((n31 : Int) > n8))
  (spec_l11HandOn_M_l0 kx0 N n6 n9 n31 (IntKind.i64.wrap (n9 + 1)) n10 n11 a12 l12 c12 a13 l13 c13 h)
  (ifB ((n31 : Int) == n8)
  (req (0 ≤ (n7 : Int) ∧ (n7 : Int) < (l12 : Nat))
  (nz a12 fun b32 o33 =>
  ldI .i64 h b32 ((o33 + n7.toNat * 8) + 3) fun n34 =>
  ifB (decide ((n25 : Int) < n34))
  (spec_l11HandOn_M_l0 kx0 N n6 n9 n31 (IntKind.i64.wrap (n9 + 1)) n10 n11 a12 l12 c12 a13 l13 c13 h)
  (spec_l11HandOn_M_l0 kx0 N n6 n7 n8 (IntKind.i64.wrap (n9 + 1)) n10 n11 a12 l12 c12 a13 l13 c13 h)))
  (spec_l11HandOn_M_l0 kx0 N n6 n7 n8 (IntKind.i64.wrap (n9 + 1)) n10 n11 a12 l12 c12 a13 l13 c13 h))))))
  (kx0 n6 n7 n10 n11 a12 l12 c12 a13 l13 c13 h)

def spec_l11HandOn_M (kr : Int → Int → Option Addr → Nat → Nat → Option Addr → Nat → Nat → H → Prop) (n1 : Int) (n2 : Int) (a3 : Option Addr) (l3 : Nat) (c3 : Nat) (a4 : Option Addr) (l4 : Nat) (c4 : Nat) (n5 : Int) (h : H) : Prop :=
  ∃ M33, spec_l11HandOn_M_l0 (fun n6 n7 n8 n9 a10 l10 c10 a11 l11 c11 h =>
  callD Try.prog 48 ⟨[.agg ⟨[.int .i64 n8, .int .i64 n9, .slice a10 l10 c10, .slice a11 l11 c11]⟩, .int .i64 n6]⟩ h fun v18 h =>
  asI .i64 v18 fun n19 =>
  ifB (decide ((n7 : Int) < 0))
  (req (0 ≤ (n19 : Int) ∧ (n19 : Int) ≤ (c11 : Nat))
  (req (plainA a11 = true)
  (req (0 ≤ (IntKind.i64.wrap (n19 + 1) : Int) ∧ (IntKind.i64.wrap (n19 + 1) : Int) ≤ (l11 : Nat))
  (req (plainA a11 = true)
  (newD h [] 57 fun b20 h =>
  appendD Try.prog 57 h (some ⟨b20, 0, none⟩) 0 0 (.slice (slB a11 0 c11 2) (n19.toNat - 0) (c11 - 0)) fun a21 l21 c21 h =>
  appendD Try.prog 57 h a21 l21 c21 (.slice (slB a11 ((IntKind.i64.wrap (n19 + 1)).toNat) c11 2) (l11 - (IntKind.i64.wrap (n19 + 1)).toNat) (c11 - (IntKind.i64.wrap (n19 + 1)).toNat)) fun a22 l22 c22 h =>
  kr n8 n9 a10 l10 c10 a22 l22 c22 h)))))
  (req (0 ≤ (n7 : Int) ∧ (n7 : Int) < (l10 : Nat))
  (nz a10 fun b23 o24 =>
  ldI .i64 h b23 (o24 + n7.toNat * 8) fun n25 =>
  req (0 ≤ (n19 : Int) ∧ (n19 : Int) < (l11 : Nat))
  (nz a11 fun b26 o27 =>
  st h b26 ((o27 + n19.toNat * 2) + 1) (.int .i64 n25) fun h =>
  callD Try.prog 36 ⟨[.agg ⟨[.int .i64 n8, .int .i64 n9, .slice a10 l10 c10, .slice a11 l11 c11]⟩, .int .i64 n7, .int .i64 n8]⟩ h fun v28 h =>
  elF False (.agg [.int .i64, .int .i64, .slice, .slice]) v28 fun n29 n30 a31 l31 c31 a32 l32 c32 =>
  kr n29 n30 a31 l31 c31 a32 l32 c32 h)))) M33 n5 (-1) (-1) 0 n1 n2 a3 l3 c3 a4 l4 c4 h

theorem spec_l11HandOn_M_l0_D {g0 m0 : H} {kx0_1 : Int → Nat → Nat → Int → H → Prop} {kx0_2 : Int → Int → Int → Int → Option Addr → Nat → Nat → Option Addr → Nat → Nat → H → Prop} (Hkx0 : ∀ (n200001 : Int) (n200002 : Int) (n200003 : Int) (n200004 : Int) (a200005 : Option Addr) (l200005 : Nat) (c200005 : Nat) (a200006 : Option Addr) (l200006 : Nat) (c200006 : Nat) (n200008 : Int) (n200009 : Int) (a200010 : Option Addr) (l200010 : Nat) (c200010 : Nat) (a200011 : Option Addr) (l200011 : Nat) (c200011 : Nat) (p200007 : Nat) (p200012 : Nat) (g m : H), Md g0 m0 g m [lo p200007 [.int .i64 n200003, .int .i64 n200004, .slice a200005 l200005 c200005, .slice a200006 l200006 c200006], lo p200012 [.int .i64 n200008, .int .i64 n200009, .slice a200010 l200010 c200010, .slice a200011 l200011 c200011]] → kx0_2 n200001 n200002 n200003 n200004 a200005 l200005 c200005 a200006 l200006 c200006 m → kx0_1 n200001 p200007 p200012 n200002 g) : ∀ (N : Nat) (n1006 : Int) (n1007 : Int) (n1008 : Int) (n1009 : Int) (n1010 : Int) (n1011 : Int) (a1012 : Option Addr) (l1012 : Nat) (c1012 : Nat) (a1013 : Option Addr) (l1013 : Nat) (c1013 : Nat) (n1015 : Int) (n1016 : Int) (a1017 : Option Addr) (l1017 : Nat) (c1017 : Nat) (a1018 : Option Addr) (l1018 : Nat) (c1018 : Nat) (p1014 : Nat) (p1019 : Nat) (g m : H), Md g0 m0 g m [lo p1014 [.int .i64 n1010, .int .i64 n1011, .slice a1012 l1012 c1012, .slice a1013 l1013 c1013], lo p1019 [.int .i64 n1015, .int .i64 n1016, .slice a1017 l1017 c1017, .slice a1018 l1018 c1018]] → spec_l11HandOn_M_l0 kx0_2 N n1006 n1007 n1008 n1009 n1010 n1011 a1012 l1012 c1012 a1013 l1013 c1013 m → spec_l11HandOn_l0 kx0_1 N n1006 p1014 p1019 n1007 n1008 n1009 g := by
  intro N
  induction N with
  | zero => intro n1006 n1007 n1008 n1009 n1010 n1011 a1012 l1012 c1012 a1013 l1013 c1013 n1015 n1016 a1017 l1017 c1017 a1018 l1018 c1018 p1014 p1019 g m R h0; exact h0.elim
  | succ N ih =>
    intro n1006 n1007 n1008 n1009 n1010 n1011 a1012 l1012 c1012 a1013 l1013 c1013 n1015 n1016 a1017 l1017 c1017 a1018 l1018 c1018 p1014 p1019 g m R
    rw [spec_l11HandOn_M_l0, spec_l11HandOn_l0]
    exact (p_ldL R rfl (d_if (p_ldL R rfl (d_req (d_nz fun b1020 o1021 =>
  (d_row_I8 R fun n1022 n1023 n1024 n1025 n1026 n1027 n1028 n1029 =>
  (p_new R fun p1030 g R =>
  (p_stRow R (cs' := [.int .i64 n1022, .int .i64 n1023, .int .i64 n1024, .int .i64 n1025, .int .i64 n1026, .int .i64 n1027, .int .i64 n1028, .int .i64 n1029]) ⟨rfl, rfl, rfl⟩ fun g R =>
  (p_ldI R rfl (d_if (ih n1006 n1007 n1008 (IntKind.i64.wrap (n1009 + 1)) n1010 n1011 a1012 l1012 c1012 a1013 l1013 c1013 n1015 n1016 a1017 l1017 c1017 a1018 l1018 c1018 p1014 p1019 _ _ R.sub)
  (p_ldI R rfl (d_if (ih n1006 n1007 n1008 (IntKind.i64.wrap (n1009 + 1)) n1010 n1011 a1012 l1012 c1012 a1013 l1013 c1013 n1015 n1016 a1017 l1017 c1017 a1018 l1018 c1018 p1014 p1019 _ _ R.sub)
  (p_row_I2L2 R rfl rfl rfl rfl (p_ldI R rfl (d_call R fun v1031 g m R =>
  (d_asI fun n1032 =>
  (d_if (ih n1006 n1009 n1032 (IntKind.i64.wrap (n1009 + 1)) n1010 n1011 a1012 l1012 c1012 a1013 l1013 c1013 n1015 n1016 a1017 l1017 c1017 a1018 l1018 c1018 p1014 p1019 _ _ R.sub)
  (d_if (p_ldI R rfl (p_ldL R rfl (d_req (d_nz fun b1033 o1034 =>
  (d_ldI R fun n1035 =>
  (d_if (ih n1006 n1009 n1032 (IntKind.i64.wrap (n1009 + 1)) n1010 n1011 a1012 l1012 c1012 a1013 l1013 c1013 n1015 n1016 a1017 l1017 c1017 a1018 l1018 c1018 p1014 p1019 _ _ R.sub)
  (ih n1006 n1007 n1008 (IntKind.i64.wrap (n1009 + 1)) n1010 n1011 a1012 l1012 c1012 a1013 l1013 c1013 n1015 n1016 a1017 l1017 c1017 a1018 l1018 c1018 p1014 p1019 _ _ R.sub)))))))
  (ih n1006 n1007 n1008 (IntKind.i64.wrap (n1009 + 1)) n1010 n1011 a1012 l1012 c1012 a1013 l1013 c1013 n1015 n1016 a1017 l1017 c1017 a1018 l1018 c1018 p1014 p1019 _ _ R.sub)))))))))))))))))
  (Hkx0 n1006 n1007 n1010 n1011 a1012 l1012 c1012 a1013 l1013 c1013 n1015 n1016 a1017 l1017 c1017 a1018 l1018 c1018 p1014 p1019 _ _ R.sub)))

theorem spec_l11HandOn_M_D {g0 m0 : H} {kr_1 : Nat → H → Prop} {kr_2 : Int → Int → Option Addr → Nat → Nat → Option Addr → Nat → Nat → H → Prop} (Hkr : ∀ (n200001 : Int) (n200002 : Int) (a200003 : Option Addr) (l200003 : Nat) (c200003 : Nat) (a200004 : Option Addr) (l200004 : Nat) (c200004 : Nat) (p200005 : Nat) (g m : H), Md g0 m0 g m [lo p200005 [.int .i64 n200001, .int .i64 n200002, .slice a200003 l200003 c200003, .slice a200004 l200004 c200004]] → kr_2 n200001 n200002 a200003 l200003 c200003 a200004 l200004 c200004 m → kr_1 p200005 g) : ∀ (n1001 : Int) (n1002 : Int) (a1003 : Option Addr) (l1003 : Nat) (c1003 : Nat) (a1004 : Option Addr) (l1004 : Nat) (c1004 : Nat) (n1005 : Int) (g m : H), Md g0 m0 g m [] → spec_l11HandOn_M kr_2 n1001 n1002 a1003 l1003 c1003 a1004 l1004 c1004 n1005 m → spec_l11HandOn kr_1 n1001 n1002 a1003 l1003 c1003 a1004 l1004 c1004 n1005 g := by
  intro n1001 n1002 a1003 l1003 c1003 a1004 l1004 c1004 n1005 g m R
  rw [spec_l11HandOn_M, spec_l11HandOn]
  exact (p_new R fun p1006 g R =>
  (p_new R fun p1007 g R =>
  (d_ex fun N => spec_l11HandOn_M_l0_D (by exact fun n1008 n1009 n1010 n1011 a1012 l1012 c1012 a1013 l1013 c1013 n1015 n1016 a1017 l1017 c1017 a1018 l1018 c1018 p1014 p1019 g m R =>
  (p_row_I2L2 R rfl rfl rfl rfl (d_call R fun v1020 g m R =>
  (d_asI fun n1021 =>
  (d_if (p_ldL R rfl (d_req (d_req (p_ldL R rfl (d_req (d_req (d_new R fun b1022 g m R =>
  (p_cell R rfl (p_cell R rfl (d_append R fun a1023 l1023 c1023 g m R =>
  (p_cell R rfl (d_append R fun a1024 l1024 c1024 g m R =>
  (p_st R (cs' := [.int .i64 n1010, .int .i64 n1011, .slice a1012 l1012 c1012, .slice a1024 l1024 c1024]) ⟨rfl, rfl⟩ fun g R =>
  (p_row_I2L2 R rfl rfl rfl rfl (p_stRow R (cs' := [.int .i64 n1010, .int .i64 n1011, .slice a1012 l1012 c1012, .slice a1024 l1024 c1024]) ⟨rfl, rfl, rfl⟩ fun g R =>
  (Hkr n1010 n1011 a1012 l1012 c1012 a1024 l1024 c1024 p1019 _ _ R.sub))))))))))))))))
  (p_ldL R rfl (p_ldL R rfl (d_req (d_nz fun b1025 o1026 =>
  (d_ldI R fun n1027 =>
  (d_req (d_nz fun b1028 o1029 =>
  (d_st R fun g m R =>
  (p_row_I2L2 R rfl rfl rfl rfl (p_ldI R rfl (d_call R fun v1030 g m R =>
  (d_el_AI2L2E fun n1031 n1032 a1033 l1033 c1033 a1034 l1034 c1034 =>
  (p_stRow R (cs' := [.int .i64 n1031, .int .i64 n1032, .slice a1033 l1033 c1033, .slice a1034 l1034 c1034]) ⟨rfl, rfl, rfl⟩ fun g R =>
  (Hkr n1031 n1032 a1033 l1033 c1033 a1034 l1034 c1034 p1019 _ _ R.sub))))))))))))))))))) N n1005 (-1) (-1) 0 n1001 n1002 a1003 l1003 c1003 a1004 l1004 c1004 0 0 none 0 0 none 0 0 p1006 p1007 _ _ R.sub)))

theorem spec_l11HandOn_M_call {n1 : Int} {n2 : Int} {a3 : Option Addr} {l3 : Nat} {c3 : Nat} {a4 : Option Addr} {l4 : Nat} {c4 : Nat} {n5 : Int} {h : H} {K : Value → H → Prop} (hs : spec_l11HandOn_M (fun n300001 n300002 a300003 l300003 c300003 a300004 l300004 c300004 h =>
  K (.agg ⟨[.int .i64 n300001, .int .i64 n300002, .slice a300003 l300003 c300003, .slice a300004 l300004 c300004]⟩) h) n1 n2 a3 l3 c3 a4 l4 c4 n5 h) : callD Try.prog 51 ⟨[.agg ⟨[.int .i64 n1, .int .i64 n2, .slice a3 l3 c3, .slice a4 l4 c4]⟩, .int .i64 n5]⟩ h K :=
  fun g r => spec_l11HandOn_call (spec_l11HandOn_M_D (by exact fun n300001 n300002 a300003 l300003 c300003 a300004 l300004 c300004 p300005 g m R =>
(p_row_I2L2 R rfl rfl rfl rfl (fun h => ⟨m, R.af, h⟩))) _ _ _ _ _ _ _ _ _ _ _ (Md.start r) hs)

noncomputable def code52 : Code := codeOf Try.f52
theorem body52 : Try.f52.body = some code52 := by kernel_rfl
def spec_l11TakeLock_l0 (kx0 : Int → Nat → Nat → Nat → Int → Option Addr → Nat → Nat → H → Prop) : Nat → Int → Nat → Nat → Nat → Int → Option Addr → Nat → Nat → Int → H → Prop
 | 0, _, _, _, _, _, _, _, _, _, _ => False
 | N + 1, n21, b22, b23, b24, n25, a26, l26, c26, n27, h =>
  ldL h b22 3 fun a28 l28 c28 =>
  ifB (decide ((n27 : Int) < (l28 : Nat)))
  (ldL h b22 3 fun a29 l29 c29 =>
  req (0 ≤ (n27 : Int) ∧ (n27 : Int) < (l29 : Nat))
  (nz a29 fun b30 o31 =>
  ldI .i64 h b30 (o31 + n27.toNat * 2) fun n32 =>
  ifB (decide ((n32 : Int) < n21))
  (ldL h b22 3 fun a33 l33 c33 =>
  req (0 ≤ (n27 : Int) ∧ (n27 : Int) < (l33 : Nat))
  (nz a33 fun b34 o35 =>
  ldRow h b34 (o35 + n27.toNat * 2) 0 [.int .i64, .int .i64] fun n36 n37 =>
  new h [.int .i64 n36, .int .i64 n37] 57 fun b38 h =>
  appendK Try.prog 57 h a26 l26 c26 (.slice (some ⟨b38, 0, none⟩) 1 1) fun a39 l39 c39 h =>
  spec_l11TakeLock_l0 kx0 N n21 b22 b23 b24 n25 a39 l39 c39 (IntKind.i64.wrap (n27 + 1)) h))
  (spec_l11TakeLock_l0 kx0 N n21 b22 b23 b24 n25 a26 l26 c26 (IntKind.i64.wrap (n27 + 1)) h)))
  (kx0 n21 b22 b23 b24 n25 a26 l26 c26 h)

def spec_l11TakeLock_l1 (kx2 : Nat → Nat → Nat → Option Addr → Nat → Nat → H → Prop) : Nat → Int → Nat → Nat → Nat → Option Addr → Nat → Nat → Int → H → Prop
 | 0, _, _, _, _, _, _, _, _, _ => False
 | N + 1, n48, b49, b50, b51, a52, l52, c52, n53, h =>
  ldL h b49 3 fun a54 l54 c54 =>
  ifB (decide ((n53 : Int) < (l54 : Nat)))
  (ldL h b49 3 fun a55 l55 c55 =>
  req (0 ≤ (n53 : Int) ∧ (n53 : Int) < (l55 : Nat))
  (nz a55 fun b56 o57 =>
  ldI .i64 h b56 (o57 + n53.toNat * 2) fun n58 =>
  ifB (decide ((n58 : Int) > n48))
  (ldL h b49 3 fun a59 l59 c59 =>
  req (0 ≤ (n53 : Int) ∧ (n53 : Int) < (l59 : Nat))
  (nz a59 fun b60 o61 =>
  ldRow h b60 (o61 + n53.toNat * 2) 0 [.int .i64, .int .i64] fun n62 n63 =>
  new h [.int .i64 n62, .int .i64 n63] 57 fun b64 h =>
  appendK Try.prog 57 h a52 l52 c52 (.slice (some ⟨b64, 0, none⟩) 1 1) fun a65 l65 c65 h =>
  spec_l11TakeLock_l1 kx2 N n48 b49 b50 b51 a65 l65 c65 (IntKind.i64.wrap (n53 + 1)) h))
  (spec_l11TakeLock_l1 kx2 N n48 b49 b50 b51 a52 l52 c52 (IntKind.i64.wrap (n53 + 1)) h)))
  (kx2 b49 b50 b51 a52 l52 c52 h)

def spec_l11TakeLock (kr : Nat → Nat → H → Prop) (n1 : Int) (n2 : Int) (a3 : Option Addr) (l3 : Nat) (c3 : Nat) (a4 : Option Addr) (l4 : Nat) (c4 : Nat) (n5 : Int) (n6 : Int) (h : H) : Prop :=
  new h [.int .i64 n1, .int .i64 n2, .slice a3 l3 c3, .slice a4 l4 c4] 32 fun b7 h =>
  new h [.int .i64 0, .int .i64 0, .slice none 0 0, .slice none 0 0] 32 fun b8 h =>
  new h [.int .i64 0, .int .i64 0] 34 fun b9 h =>
  ldRow h b7 0 0 [.int .i64, .int .i64, .slice, .slice] fun n10 n11 a12 l12 c12 a13 l13 c13 =>
  callK Try.prog 48 ⟨[.agg ⟨[.int .i64 n10, .int .i64 n11, .slice a12 l12 c12, .slice a13 l13 c13]⟩, .int .i64 n6]⟩ h fun v14 h =>
  asI .i64 v14 fun n15 =>
  ldL h b7 2 fun a16 l16 c16 =>
  req (0 ≤ (n5 : Int) ∧ (n5 : Int) < (l16 : Nat))
  (nz a16 fun b17 o18 =>
  ldI .i64 h b17 (o18 + n5.toNat * 8) fun n19 =>
  ifB (decide ((n15 : Int) < 0))
  (new h [] 57 fun b20 h =>
  ∃ M38, spec_l11TakeLock_l0 (fun n21 b22 b23 b24 n25 a26 l26 c26 h =>
  new h [.int .i64 n21, .int .i64 n25] 57 fun b27 h =>
  appendK Try.prog 57 h a26 l26 c26 (.slice (some ⟨b27, 0, none⟩) 1 1) fun a28 l28 c28 h =>
  ∃ M37, spec_l11TakeLock_l1 (fun b29 b30 b31 a32 l32 c32 h =>
  st h b29 3 (.slice a32 l32 c32) fun h =>
  ldRow h b29 0 0 [.int .i64, .int .i64, .slice, .slice] fun n33 n34 a35 l35 c35 a36 l36 c36 =>
  stRow h b30 0 0 [.int .i64 n33, .int .i64 n34, .slice a35 l35 c35, .slice a36 l36 c36] fun h =>
  stRow h b31 0 0 [.int .i64 0, .int .i64 0] fun h =>
  kr b30 b31 h) M37 n21 b22 b23 b24 a28 l28 c28 0 h) M38 n6 b7 b8 b9 n19 (some ⟨b20, 0, none⟩) 0 0 0 h)
  (ldL h b7 3 fun a39 l39 c39 =>
  req (0 ≤ (n15 : Int) ∧ (n15 : Int) < (l39 : Nat))
  (nz a39 fun b40 o41 =>
  ldI .i64 h b40 ((o41 + n15.toNat * 2) + 1) fun n42 =>
  ifB ((n42 : Int) == n19)
  (ldRow h b7 0 0 [.int .i64, .int .i64, .slice, .slice] fun n43 n44 a45 l45 c45 a46 l46 c46 =>
  stRow h b8 0 0 [.int .i64 n43, .int .i64 n44, .slice a45 l45 c45, .slice a46 l46 c46] fun h =>
  stRow h b9 0 0 [.int .i64 4, .int .i64 0] fun h =>
  kr b8 b9 h)
  (ldRow h b7 0 0 [.int .i64, .int .i64, .slice, .slice] fun n47 n48 a49 l49 c49 a50 l50 c50 =>
  ldL h b7 3 fun a51 l51 c51 =>
  req (0 ≤ (n15 : Int) ∧ (n15 : Int) < (l51 : Nat))
  (nz a51 fun b52 o53 =>
  ldI .i64 h b52 ((o53 + n15.toNat * 2) + 1) fun n54 =>
  callK Try.prog 31 ⟨[.agg ⟨[.int .i64 n47, .int .i64 n48, .slice a49 l49 c49, .slice a50 l50 c50]⟩, .int .i64 n54, .int .i64 n19]⟩ h fun v55 h =>
  asB v55 fun t56 =>
  ifB t56
  (ldRow h b7 0 0 [.int .i64, .int .i64, .slice, .slice] fun n57 n58 a59 l59 c59 a60 l60 c60 =>
  stRow h b8 0 0 [.int .i64 n57, .int .i64 n58, .slice a59 l59 c59, .slice a60 l60 c60] fun h =>
  stRow h b9 0 0 [.int .i64 17, .int .i64 0] fun h =>
  kr b8 b9 h)
  (ldL h b7 2 fun a61 l61 c61 =>
  req (0 ≤ (n5 : Int) ∧ (n5 : Int) < (l61 : Nat))
  (nz a61 fun b62 o63 =>
  st h b62 ((o63 + n5.toNat * 8) + 2) (.int .i64 2) fun h =>
  ldL h b7 2 fun a64 l64 c64 =>
  req (0 ≤ (n5 : Int) ∧ (n5 : Int) < (l64 : Nat))
  (nz a64 fun b65 o66 =>
  st h b65 ((o66 + n5.toNat * 8) + 7) (.int .i64 n6) fun h =>
  ldRow h b7 0 0 [.int .i64, .int .i64, .slice, .slice] fun n67 n68 a69 l69 c69 a70 l70 c70 =>
  stRow h b8 0 0 [.int .i64 n67, .int .i64 n68, .slice a69 l69 c69, .slice a70 l70 c70] fun h =>
  stRow h b9 0 0 [.int .i64 0, .int .i64 1] fun h =>
  kr b8 b9 h))))))))

theorem spec_l11TakeLock_l0_eq (K : Cont) (N : Nat) (n21 : Int) (b22 : Nat) (b23 : Nat) (b24 : Nat) (n25 : Int) (a26 : Option Addr) (l26 : Nat) (c26 : Nat) (n27 : Int) (h : H) :
  spec_l11TakeLock_l0 (curV [(2, .int .i64), (3, .blk), (6, .blk), (7, .blk), (9, .int .i64), (10, .slice)] (K (.exit 0))) (N + 1) n21 b22 b23 b24 n25 a26 l26 c26 n27 h = evC Try.prog 115 [] [] (sub code52 [true, true, true, false, true, false, true, false, true, false, false]) [(2, .int .i64 n21), (3, .pointer (some ⟨b22, 0, none⟩)), (6, .pointer (some ⟨b23, 0, none⟩)), (7, .pointer (some ⟨b24, 0, none⟩)), (9, .int .i64 n25), (10, .slice a26 l26 c26), (11, .int .i64 n27)] h ((outsOf none [(0, [(2, .int .i64), (3, .blk), (6, .blk), (7, .blk), (9, .int .i64), (10, .slice)])] none K).loop [(2, .int .i64), (3, .blk), (6, .blk), (7, .blk), (9, .int .i64), (10, .slice), (11, .int .i64)] (spec_l11TakeLock_l0 (curV [(2, .int .i64), (3, .blk), (6, .blk), (7, .blk), (9, .int .i64), (10, .slice)] (K (.exit 0))) N)).K := by kernel_rfl

def spec_l11TakeLock_l0_F : PT := mkL [(2, .int .i64), (3, .blk), (6, .blk), (7, .blk), (9, .int .i64), (10, .slice), (11, .int .i64)] fun K N => spec_l11TakeLock_l0 (curV [(2, .int .i64), (3, .blk), (6, .blk), (7, .blk), (9, .int .i64), (10, .slice)] (K (.exit 0))) N

theorem spec_l11TakeLock_l0_V : Valid Try.prog 115 (sub code52 [true, true, true, false, true, false, true, false, true, false]) spec_l11TakeLock_l0_F :=
  loop_at (code52) [true, true, true, false, true, false, true, false, true, false] (loop_piece (c := (sub code52 [true, true, true, false, true, false, true, false, true, false, false])) mixed rows_nil (fun K => by intro n21 b22 b23 b24 n25 a26 l26 c26 n27 h hd; exact hd) (fun K N => by intro n21 b22 b23 b24 n25 a26 l26 c26 n27 h hd; exact (spec_l11TakeLock_l0_eq K N n21 b22 b23 b24 n25 a26 l26 c26 n27 h) ▸ hd))

theorem spec_l11TakeLock_l1_eq (K : Cont) (N : Nat) (n48 : Int) (b49 : Nat) (b50 : Nat) (b51 : Nat) (a52 : Option Addr) (l52 : Nat) (c52 : Nat) (n53 : Int) (h : H) :
  spec_l11TakeLock_l1 (curV [(3, .blk), (6, .blk), (7, .blk), (10, .slice)] (K (.exit 2))) (N + 1) n48 b49 b50 b51 a52 l52 c52 n53 h = evC Try.prog 115 [] [] (sub code52 [true, true, true, false, true, false, true, true, true, false, true, false, false]) [(2, .int .i64 n48), (3, .pointer (some ⟨b49, 0, none⟩)), (6, .pointer (some ⟨b50, 0, none⟩)), (7, .pointer (some ⟨b51, 0, none⟩)), (10, .slice a52 l52 c52), (12, .int .i64 n53)] h ((outsOf none [(2, [(3, .blk), (6, .blk), (7, .blk), (10, .slice)])] none K).loop [(2, .int .i64), (3, .blk), (6, .blk), (7, .blk), (10, .slice), (12, .int .i64)] (spec_l11TakeLock_l1 (curV [(3, .blk), (6, .blk), (7, .blk), (10, .slice)] (K (.exit 2))) N)).K := by kernel_rfl

def spec_l11TakeLock_l1_F : PT := mkL [(2, .int .i64), (3, .blk), (6, .blk), (7, .blk), (10, .slice), (12, .int .i64)] fun K N => spec_l11TakeLock_l1 (curV [(3, .blk), (6, .blk), (7, .blk), (10, .slice)] (K (.exit 2))) N

theorem spec_l11TakeLock_l1_V : Valid Try.prog 115 (sub code52 [true, true, true, false, true, false, true, true, true, false, true, false]) spec_l11TakeLock_l1_F :=
  loop_at (code52) [true, true, true, false, true, false, true, true, true, false, true, false] (loop_piece (c := (sub code52 [true, true, true, false, true, false, true, true, true, false, true, false, false])) mixed rows_nil (fun K => by intro n48 b49 b50 b51 a52 l52 c52 n53 h hd; exact hd) (fun K N => by intro n48 b49 b50 b51 a52 l52 c52 n53 h hd; exact (spec_l11TakeLock_l1_eq K N n48 b49 b50 b51 a52 l52 c52 n53 h) ▸ hd))

theorem spec_l11TakeLock_eq (K : Cont) (n1 : Int) (n2 : Int) (a3 : Option Addr) (l3 : Nat) (c3 : Nat) (a4 : Option Addr) (l4 : Nat) (c4 : Nat) (n5 : Int) (n6 : Int) (h : H) :
  spec_l11TakeLock (curV [(6, .blk), (7, .blk)] (K .ret)) n1 n2 a3 l3 c3 a4 l4 c4 n5 n6 h = evC Try.prog 115 [([false, false, true, false, true, false, true, false, true, true, true], spec_l11TakeLock_l0_F), ([false, false, true, false, true, true, true, false, true, false, true, true, true], spec_l11TakeLock_l1_F)] [] code52 [(0, .agg ⟨[.int .i64 n1, .int .i64 n2, .slice a3 l3 c3, .slice a4 l4 c4]⟩), (1, .int .i64 n5), (2, .int .i64 n6)] h (outsOf none [] (some [(6, .blk), (7, .blk)]) K).K := by kernel_rfl

def spec_l11TakeLock_F : PT := mkF [(0, .agg [.int .i64, .int .i64, .slice, .slice]), (1, .int .i64), (2, .int .i64)] fun K => spec_l11TakeLock (curV [(6, .blk), (7, .blk)] (K .ret))

theorem spec_l11TakeLock_V : Valid Try.prog 115 code52 spec_l11TakeLock_F :=
  piece mixed (rows_cons (q' := [true, true, true, false, true, false, true, false, true, false]) spec_l11TakeLock_l0_V rfl (rows_cons (q' := [true, true, true, false, true, false, true, true, true, false, true, false]) spec_l11TakeLock_l1_V rfl rows_nil)) (fun K => by intro n1 n2 a3 l3 c3 a4 l4 c4 n5 n6 h hd; exact (spec_l11TakeLock_eq K n1 n2 a3 l3 c3 a4 l4 c4 n5 n6 h) ▸ hd)

theorem spec_l11TakeLock_c0 (n1 : Int) (n2 : Int) (a3 : Option Addr) (l3 : Nat) (c3 : Nat) (a4 : Option Addr) (l4 : Nat) (c4 : Nat) (n5 : Int) (n6 : Int) (h : H) (K : Value → H → Prop) :
  spec_l11TakeLock (fun b100001 b100002 h =>
  ldRow h b100001 0 0 [.int .i64, .int .i64, .slice, .slice] fun n100003 n100004 a100005 l100005 c100005 a100006 l100006 c100006 =>
  ldRow h b100002 0 0 [.int .i64, .int .i64] fun n100007 n100008 =>
  K (.tuple ⟨[.agg ⟨[.int .i64 n100003, .int .i64 n100004, .slice a100005 l100005 c100005, .slice a100006 l100006 c100006]⟩, .agg ⟨[.int .i64 n100007, .int .i64 n100008]⟩]⟩) h) n1 n2 a3 l3 c3 a4 l4 c4 n5 n6 h = callF Try.prog Try.f52.results.toList spec_l11TakeLock_F [.agg ⟨[.int .i64 n1, .int .i64 n2, .slice a3 l3 c3, .slice a4 l4 c4]⟩, .int .i64 n5, .int .i64 n6] h K := by kernel_rfl

theorem spec_l11TakeLock_call {n1 : Int} {n2 : Int} {a3 : Option Addr} {l3 : Nat} {c3 : Nat} {a4 : Option Addr} {l4 : Nat} {c4 : Nat} {n5 : Int} {n6 : Int} {h : H} {K : Value → H → Prop} (hs : spec_l11TakeLock (fun b100001 b100002 h =>
  ldRow h b100001 0 0 [.int .i64, .int .i64, .slice, .slice] fun n100003 n100004 a100005 l100005 c100005 a100006 l100006 c100006 =>
  ldRow h b100002 0 0 [.int .i64, .int .i64] fun n100007 n100008 =>
  K (.tuple ⟨[.agg ⟨[.int .i64 n100003, .int .i64 n100004, .slice a100005 l100005 c100005, .slice a100006 l100006 c100006]⟩, .agg ⟨[.int .i64 n100007, .int .i64 n100008]⟩]⟩) h) n1 n2 a3 l3 c3 a4 l4 c4 n5 n6 h) : callK Try.prog 52 ⟨[.agg ⟨[.int .i64 n1, .int .i64 n2, .slice a3 l3 c3, .slice a4 l4 c4]⟩, .int .i64 n5, .int .i64 n6]⟩ h K :=
  func_calls Try.func52 body52 spec_l11TakeLock_V (Nat.le_of_ble_eq_true (by kernel_rfl)) (spec_l11TakeLock_c0 n1 n2 a3 l3 c3 a4 l4 c4 n5 n6 h K ▸ hs)

def spec_l11TakeLock_M_l0 (kx0 : Int → Int → Option Addr → Nat → Nat → Int → Int → Option Addr → Nat → Nat → Option Addr → Nat → H → Prop) : Nat → Int → Int → Option Addr → Nat → Nat → Int → Int → Int → Option Addr → Nat → Nat → Option Addr → Nat → H → Prop
 | 0, _, _, _, _, _, _, _, _, _, _, _, _, _, _ => False
 | N + 1, n13, n14, a15, l15, c15, n16, n17, n18, a19, l19, c19, a20, l20, h =>
  ifB (decide ((n16 : Int) < (l20 : Nat)))
  (req (0 ≤ (n16 : Int) ∧ (n16 : Int) < (l20 : Nat))
  (nz a20 fun b30 o31 =>
  ldI .i64 h b30 (o31 + n16.toNat * 2) fun n32 =>
  ifB (decide ((n32 : Int) < n13))
  (req (0 ≤ (n16 : Int) ∧ (n16 : Int) < (l20 : Nat))
  (nz a20 fun b33 o34 =>
  ldRow h b33 (o34 + n16.toNat * 2) 0 [.int .i64, .int .i64] fun n35 n36 =>
  newD h [.int .i64 n35, .int .i64 n36] 57 fun b37 h =>
  appendD Try.prog 57 h a15 l15 c15 (.slice (some ⟨b37, 0, none⟩) 1 1) fun a38 l38 c38 h =>
  spec_l11TakeLock_M_l0 kx0 N n13 n14 a38 l38 c38 (IntKind.i64.wrap (n16 + 1)) n17 n18 a19 l19 c19 a20 l20 h))
  (spec_l11TakeLock_M_l0 kx0 N n13 n14 a15 l15 c15 (IntKind.i64.wrap (n16 + 1)) n17 n18 a19 l19 c19 a20 l20 h)))
  (kx0 n13 n14 a15 l15 c15 n17 n18 a19 l19 c19 a20 l20 h)

def spec_l11TakeLock_M_l1 (kx2 : Option Addr → Nat → Nat → Int → Int → Option Addr → Nat → Nat → H → Prop) : Nat → Int → Option Addr → Nat → Nat → Int → Int → Int → Option Addr → Nat → Nat → Option Addr → Nat → H → Prop
 | 0, _, _, _, _, _, _, _, _, _, _, _, _, _ => False
 | N + 1, n1057, a1058, l1058, c1058, n1059, n1060, n1061, a1062, l1062, c1062, a1063, l1063, h =>
  ifB (decide ((n1059 : Int) < (l1063 : Nat)))
  (req (0 ≤ (n1059 : Int) ∧ (n1059 : Int) < (l1063 : Nat))
  (nz a1063 fun b1073 o1074 =>
  ldI .i64 h b1073 (o1074 + n1059.toNat * 2) fun n1075 =>
  ifB (decide ((n1075 : Int) > n1057))
  (req (0 ≤ (n1059 : Int) ∧ (n1059 : Int) < (l1063 : Nat))
  (nz a1063 fun b1076 o1077 =>
  ldRow h b1076 (o1077 + n1059.toNat * 2) 0 [.int .i64, .int .i64] fun n1078 n1079 =>
  newD h [.int .i64 n1078, .int .i64 n1079] 57 fun b1080 h =>
  appendD Try.prog 57 h a1058 l1058 c1058 (.slice (some ⟨b1080, 0, none⟩) 1 1) fun a1081 l1081 c1081 h =>
  spec_l11TakeLock_M_l1 kx2 N n1057 a1081 l1081 c1081 (IntKind.i64.wrap (n1059 + 1)) n1060 n1061 a1062 l1062 c1062 a1063 l1063 h))
  (spec_l11TakeLock_M_l1 kx2 N n1057 a1058 l1058 c1058 (IntKind.i64.wrap (n1059 + 1)) n1060 n1061 a1062 l1062 c1062 a1063 l1063 h)))
  (kx2 a1058 l1058 c1058 n1060 n1061 a1062 l1062 c1062 h)

def spec_l11TakeLock_M (kr : Int → Int → Option Addr → Nat → Nat → Option Addr → Nat → Nat → Int → Int → H → Prop) (n1 : Int) (n2 : Int) (a3 : Option Addr) (l3 : Nat) (c3 : Nat) (a4 : Option Addr) (l4 : Nat) (c4 : Nat) (n5 : Int) (n6 : Int) (h : H) : Prop :=
  callD Try.prog 48 ⟨[.agg ⟨[.int .i64 n1, .int .i64 n2, .slice a3 l3 c3, .slice a4 l4 c4]⟩, .int .i64 n6]⟩ h fun v7 h =>
  asI .i64 v7 fun n8 =>
  req (0 ≤ (n5 : Int) ∧ (n5 : Int) < (l3 : Nat))
  (nz a3 fun b9 o10 =>
  ldI .i64 h b9 (o10 + n5.toNat * 8) fun n11 =>
  ifB (decide ((n8 : Int) < 0))
  (newD h [] 57 fun b12 h =>
  ∃ M46, spec_l11TakeLock_M_l0 (fun n13 n14 a15 l15 c15 n16 n17 a18 l18 c18 a19 l19 h =>
  newD h [.int .i64 n13, .int .i64 n14] 57 fun b29 h =>
  appendD Try.prog 57 h a15 l15 c15 (.slice (some ⟨b29, 0, none⟩) 1 1) fun a30 l30 c30 h =>
  ∃ M45, spec_l11TakeLock_M_l1 (fun a31 l31 c31 n32 n33 a34 l34 c34 h =>
  kr n32 n33 a34 l34 c34 a31 l31 c31 0 0 h) M45 n13 a30 l30 c30 0 n16 n17 a18 l18 c18 a19 l19 h) M46 n6 n11 (some ⟨b12, 0, none⟩) 0 0 0 n1 n2 a3 l3 c3 a4 l4 h)
  (req (0 ≤ (n8 : Int) ∧ (n8 : Int) < (l4 : Nat))
  (nz a4 fun b47 o48 =>
  ldI .i64 h b47 ((o48 + n8.toNat * 2) + 1) fun n49 =>
  ifB ((n49 : Int) == n11)
  (kr n1 n2 a3 l3 c3 a4 l4 c4 4 0 h)
  (req (0 ≤ (n8 : Int) ∧ (n8 : Int) < (l4 : Nat))
  (nz a4 fun b50 o51 =>
  ldI .i64 h b50 ((o51 + n8.toNat * 2) + 1) fun n52 =>
  callD Try.prog 31 ⟨[.agg ⟨[.int .i64 n1, .int .i64 n2, .slice a3 l3 c3, .slice a4 l4 c4]⟩, .int .i64 n52, .int .i64 n11]⟩ h fun v53 h =>
  asB v53 fun t54 =>
  ifB t54
  (kr n1 n2 a3 l3 c3 a4 l4 c4 17 0 h)
  (req (0 ≤ (n5 : Int) ∧ (n5 : Int) < (l3 : Nat))
  (nz a3 fun b55 o56 =>
  st h b55 ((o56 + n5.toNat * 8) + 2) (.int .i64 2) fun h =>
  req (0 ≤ (n5 : Int) ∧ (n5 : Int) < (l3 : Nat))
  (nz a3 fun b57 o58 =>
  st h b57 ((o58 + n5.toNat * 8) + 7) (.int .i64 n6) fun h =>
  kr n1 n2 a3 l3 c3 a4 l4 c4 0 1 h))))))))

theorem spec_l11TakeLock_M_l0_D {g0 m0 : H} {kx0_1 : Int → Nat → Nat → Nat → Int → Option Addr → Nat → Nat → H → Prop} {kx0_2 : Int → Int → Option Addr → Nat → Nat → Int → Int → Option Addr → Nat → Nat → Option Addr → Nat → H → Prop} (Hkx0 : ∀ (n200001 : Int) (n200002 : Int) (a200003 : Option Addr) (l200003 : Nat) (c200003 : Nat) (n200004 : Int) (n200005 : Int) (a200006 : Option Addr) (l200006 : Nat) (c200006 : Nat) (a200007 : Option Addr) (l200007 : Nat) (c200007 : Nat) (n200009 : Int) (n200010 : Int) (a200011 : Option Addr) (l200011 : Nat) (c200011 : Nat) (a200012 : Option Addr) (l200012 : Nat) (c200012 : Nat) (n200014 : Int) (n200015 : Int) (p200008 : Nat) (p200013 : Nat) (p200016 : Nat) (g m : H), Md g0 m0 g m [lo p200008 [.int .i64 n200004, .int .i64 n200005, .slice a200006 l200006 c200006, .slice a200007 l200007 c200007], lo p200013 [.int .i64 n200009, .int .i64 n200010, .slice a200011 l200011 c200011, .slice a200012 l200012 c200012], lo p200016 [.int .i64 n200014, .int .i64 n200015]] → kx0_2 n200001 n200002 a200003 l200003 c200003 n200004 n200005 a200006 l200006 c200006 a200007 l200007 m → kx0_1 n200001 p200008 p200013 p200016 n200002 a200003 l200003 c200003 g) : ∀ (N : Nat) (n1013 : Int) (n1014 : Int) (a1015 : Option Addr) (l1015 : Nat) (c1015 : Nat) (n1016 : Int) (n1017 : Int) (n1018 : Int) (a1019 : Option Addr) (l1019 : Nat) (c1019 : Nat) (a1020 : Option Addr) (l1020 : Nat) (c1020 : Nat) (n1022 : Int) (n1023 : Int) (a1024 : Option Addr) (l1024 : Nat) (c1024 : Nat) (a1025 : Option Addr) (l1025 : Nat) (c1025 : Nat) (n1027 : Int) (n1028 : Int) (p1021 : Nat) (p1026 : Nat) (p1029 : Nat) (g m : H), Md g0 m0 g m [lo p1021 [.int .i64 n1017, .int .i64 n1018, .slice a1019 l1019 c1019, .slice a1020 l1020 c1020], lo p1026 [.int .i64 n1022, .int .i64 n1023, .slice a1024 l1024 c1024, .slice a1025 l1025 c1025], lo p1029 [.int .i64 n1027, .int .i64 n1028]] → spec_l11TakeLock_M_l0 kx0_2 N n1013 n1014 a1015 l1015 c1015 n1016 n1017 n1018 a1019 l1019 c1019 a1020 l1020 m → spec_l11TakeLock_l0 kx0_1 N n1013 p1021 p1026 p1029 n1014 a1015 l1015 c1015 n1016 g := by
  intro N
  induction N with
  | zero => intro n1013 n1014 a1015 l1015 c1015 n1016 n1017 n1018 a1019 l1019 c1019 a1020 l1020 c1020 n1022 n1023 a1024 l1024 c1024 a1025 l1025 c1025 n1027 n1028 p1021 p1026 p1029 g m R h0; exact h0.elim
  | succ N ih =>
    intro n1013 n1014 a1015 l1015 c1015 n1016 n1017 n1018 a1019 l1019 c1019 a1020 l1020 c1020 n1022 n1023 a1024 l1024 c1024 a1025 l1025 c1025 n1027 n1028 p1021 p1026 p1029 g m R
    rw [spec_l11TakeLock_M_l0, spec_l11TakeLock_l0]
    exact (p_ldL R rfl (d_if (p_ldL R rfl (d_req (d_nz fun b1030 o1031 =>
  (d_ldI R fun n1032 =>
  (d_if (p_ldL R rfl (d_req (d_nz fun b1033 o1034 =>
  (d_row_I2 R fun n1035 n1036 =>
  (d_new R fun b1037 g m R =>
  (d_append R fun a1038 l1038 c1038 g m R =>
  (ih n1013 n1014 a1038 l1038 c1038 (IntKind.i64.wrap (n1016 + 1)) n1017 n1018 a1019 l1019 c1019 a1020 l1020 c1020 n1022 n1023 a1024 l1024 c1024 a1025 l1025 c1025 n1027 n1028 p1021 p1026 p1029 _ _ R.sub)))))))
  (ih n1013 n1014 a1015 l1015 c1015 (IntKind.i64.wrap (n1016 + 1)) n1017 n1018 a1019 l1019 c1019 a1020 l1020 c1020 n1022 n1023 a1024 l1024 c1024 a1025 l1025 c1025 n1027 n1028 p1021 p1026 p1029 _ _ R.sub))))))
  (Hkx0 n1013 n1014 a1015 l1015 c1015 n1017 n1018 a1019 l1019 c1019 a1020 l1020 c1020 n1022 n1023 a1024 l1024 c1024 a1025 l1025 c1025 n1027 n1028 p1021 p1026 p1029 _ _ R.sub)))

theorem spec_l11TakeLock_M_l1_D {g0 m0 : H} {kx2_1 : Nat → Nat → Nat → Option Addr → Nat → Nat → H → Prop} {kx2_2 : Option Addr → Nat → Nat → Int → Int → Option Addr → Nat → Nat → H → Prop} (Hkx2 : ∀ (a200001 : Option Addr) (l200001 : Nat) (c200001 : Nat) (n200002 : Int) (n200003 : Int) (a200004 : Option Addr) (l200004 : Nat) (c200004 : Nat) (a200005 : Option Addr) (l200005 : Nat) (c200005 : Nat) (n200007 : Int) (n200008 : Int) (a200009 : Option Addr) (l200009 : Nat) (c200009 : Nat) (a200010 : Option Addr) (l200010 : Nat) (c200010 : Nat) (n200012 : Int) (n200013 : Int) (p200006 : Nat) (p200011 : Nat) (p200014 : Nat) (g m : H), Md g0 m0 g m [lo p200006 [.int .i64 n200002, .int .i64 n200003, .slice a200004 l200004 c200004, .slice a200005 l200005 c200005], lo p200011 [.int .i64 n200007, .int .i64 n200008, .slice a200009 l200009 c200009, .slice a200010 l200010 c200010], lo p200014 [.int .i64 n200012, .int .i64 n200013]] → kx2_2 a200001 l200001 c200001 n200002 n200003 a200004 l200004 c200004 m → kx2_1 p200006 p200011 p200014 a200001 l200001 c200001 g) : ∀ (N : Nat) (n2057 : Int) (a2058 : Option Addr) (l2058 : Nat) (c2058 : Nat) (n2059 : Int) (n2060 : Int) (n2061 : Int) (a2062 : Option Addr) (l2062 : Nat) (c2062 : Nat) (a2063 : Option Addr) (l2063 : Nat) (c2063 : Nat) (n2065 : Int) (n2066 : Int) (a2067 : Option Addr) (l2067 : Nat) (c2067 : Nat) (a2068 : Option Addr) (l2068 : Nat) (c2068 : Nat) (n2070 : Int) (n2071 : Int) (p2064 : Nat) (p2069 : Nat) (p2072 : Nat) (g m : H), Md g0 m0 g m [lo p2064 [.int .i64 n2060, .int .i64 n2061, .slice a2062 l2062 c2062, .slice a2063 l2063 c2063], lo p2069 [.int .i64 n2065, .int .i64 n2066, .slice a2067 l2067 c2067, .slice a2068 l2068 c2068], lo p2072 [.int .i64 n2070, .int .i64 n2071]] → spec_l11TakeLock_M_l1 kx2_2 N n2057 a2058 l2058 c2058 n2059 n2060 n2061 a2062 l2062 c2062 a2063 l2063 m → spec_l11TakeLock_l1 kx2_1 N n2057 p2064 p2069 p2072 a2058 l2058 c2058 n2059 g := by
  intro N
  induction N with
  | zero => intro n2057 a2058 l2058 c2058 n2059 n2060 n2061 a2062 l2062 c2062 a2063 l2063 c2063 n2065 n2066 a2067 l2067 c2067 a2068 l2068 c2068 n2070 n2071 p2064 p2069 p2072 g m R h0; exact h0.elim
  | succ N ih =>
    intro n2057 a2058 l2058 c2058 n2059 n2060 n2061 a2062 l2062 c2062 a2063 l2063 c2063 n2065 n2066 a2067 l2067 c2067 a2068 l2068 c2068 n2070 n2071 p2064 p2069 p2072 g m R
    rw [spec_l11TakeLock_M_l1, spec_l11TakeLock_l1]
    exact (p_ldL R rfl (d_if (p_ldL R rfl (d_req (d_nz fun b2073 o2074 =>
  (d_ldI R fun n2075 =>
  (d_if (p_ldL R rfl (d_req (d_nz fun b2076 o2077 =>
  (d_row_I2 R fun n2078 n2079 =>
  (d_new R fun b2080 g m R =>
  (d_append R fun a2081 l2081 c2081 g m R =>
  (ih n2057 a2081 l2081 c2081 (IntKind.i64.wrap (n2059 + 1)) n2060 n2061 a2062 l2062 c2062 a2063 l2063 c2063 n2065 n2066 a2067 l2067 c2067 a2068 l2068 c2068 n2070 n2071 p2064 p2069 p2072 _ _ R.sub)))))))
  (ih n2057 a2058 l2058 c2058 (IntKind.i64.wrap (n2059 + 1)) n2060 n2061 a2062 l2062 c2062 a2063 l2063 c2063 n2065 n2066 a2067 l2067 c2067 a2068 l2068 c2068 n2070 n2071 p2064 p2069 p2072 _ _ R.sub))))))
  (Hkx2 a2058 l2058 c2058 n2060 n2061 a2062 l2062 c2062 a2063 l2063 c2063 n2065 n2066 a2067 l2067 c2067 a2068 l2068 c2068 n2070 n2071 p2064 p2069 p2072 _ _ R.sub)))

theorem spec_l11TakeLock_M_D {g0 m0 : H} {kr_1 : Nat → Nat → H → Prop} {kr_2 : Int → Int → Option Addr → Nat → Nat → Option Addr → Nat → Nat → Int → Int → H → Prop} (Hkr : ∀ (n200001 : Int) (n200002 : Int) (a200003 : Option Addr) (l200003 : Nat) (c200003 : Nat) (a200004 : Option Addr) (l200004 : Nat) (c200004 : Nat) (n200006 : Int) (n200007 : Int) (p200005 : Nat) (p200008 : Nat) (g m : H), Md g0 m0 g m [lo p200005 [.int .i64 n200001, .int .i64 n200002, .slice a200003 l200003 c200003, .slice a200004 l200004 c200004], lo p200008 [.int .i64 n200006, .int .i64 n200007]] → kr_2 n200001 n200002 a200003 l200003 c200003 a200004 l200004 c200004 n200006 n200007 m → kr_1 p200005 p200008 g) : ∀ (n1001 : Int) (n1002 : Int) (a1003 : Option Addr) (l1003 : Nat) (c1003 : Nat) (a1004 : Option Addr) (l1004 : Nat) (c1004 : Nat) (n1005 : Int) (n1006 : Int) (g m : H), Md g0 m0 g m [] → spec_l11TakeLock_M kr_2 n1001 n1002 a1003 l1003 c1003 a1004 l1004 c1004 n1005 n1006 m → spec_l11TakeLock kr_1 n1001 n1002 a1003 l1003 c1003 a1004 l1004 c1004 n1005 n1006 g := by
  intro n1001 n1002 a1003 l1003 c1003 a1004 l1004 c1004 n1005 n1006 g m R
  rw [spec_l11TakeLock_M, spec_l11TakeLock]
  exact (p_new R fun p1007 g R =>
  (p_new R fun p1008 g R =>
  (p_new R fun p1009 g R =>
  (p_row_I2L2 R rfl rfl rfl rfl (d_call R fun v1010 g m R =>
  (d_asI fun n1011 =>
  (p_ldL R rfl (d_req (d_nz fun b1012 o1013 =>
  (d_ldI R fun n1014 =>
  (d_if (d_new R fun b1015 g m R =>
  (d_ex fun N => spec_l11TakeLock_M_l0_D (by exact fun n1016 n1017 a1018 l1018 c1018 n1019 n1020 a1021 l1021 c1021 a1022 l1022 c1022 n1024 n1025 a1026 l1026 c1026 a1027 l1027 c1027 n1029 n1030 p1023 p1028 p1031 g m R =>
  (d_new R fun b1032 g m R =>
  (d_append R fun a1033 l1033 c1033 g m R =>
  (d_ex fun N => spec_l11TakeLock_M_l1_D (by exact fun a1034 l1034 c1034 n1035 n1036 a1037 l1037 c1037 a1038 l1038 c1038 n1040 n1041 a1042 l1042 c1042 a1043 l1043 c1043 n1045 n1046 p1039 p1044 p1047 g m R =>
  (p_st R (cs' := [.int .i64 n1035, .int .i64 n1036, .slice a1037 l1037 c1037, .slice a1034 l1034 c1034]) ⟨rfl, rfl⟩ fun g R =>
  (p_row_I2L2 R rfl rfl rfl rfl (p_stRow R (cs' := [.int .i64 n1035, .int .i64 n1036, .slice a1037 l1037 c1037, .slice a1034 l1034 c1034]) ⟨rfl, rfl, rfl⟩ fun g R =>
  (p_stRow R (cs' := [.int .i64 0, .int .i64 0]) ⟨rfl, rfl, rfl⟩ fun g R =>
  (Hkr n1035 n1036 a1037 l1037 c1037 a1034 l1034 c1034 0 0 p1044 p1047 _ _ R.sub)))))) N n1016 a1033 l1033 c1033 0 n1019 n1020 a1021 l1021 c1021 a1022 l1022 c1022 n1024 n1025 a1026 l1026 c1026 a1027 l1027 c1027 n1029 n1030 p1023 p1028 p1031 _ _ R.sub)))) N n1006 n1014 (some ⟨b1015, 0, none⟩) 0 0 0 n1001 n1002 a1003 l1003 c1003 a1004 l1004 c1004 0 0 none 0 0 none 0 0 0 0 p1007 p1008 p1009 _ _ R.sub))
  (p_ldL R rfl (d_req (d_nz fun b1048 o1049 =>
  (d_ldI R fun n1050 =>
  (d_if (p_row_I2L2 R rfl rfl rfl rfl (p_stRow R (cs' := [.int .i64 n1001, .int .i64 n1002, .slice a1003 l1003 c1003, .slice a1004 l1004 c1004]) ⟨rfl, rfl, rfl⟩ fun g R =>
  (p_stRow R (cs' := [.int .i64 4, .int .i64 0]) ⟨rfl, rfl, rfl⟩ fun g R =>
  (Hkr n1001 n1002 a1003 l1003 c1003 a1004 l1004 c1004 4 0 p1008 p1009 _ _ R.sub))))
  (p_row_I2L2 R rfl rfl rfl rfl (p_ldL R rfl (d_req (d_nz fun b1051 o1052 =>
  (d_ldI R fun n1053 =>
  (d_call R fun v1054 g m R =>
  (d_asB fun t1055 =>
  (d_if (p_row_I2L2 R rfl rfl rfl rfl (p_stRow R (cs' := [.int .i64 n1001, .int .i64 n1002, .slice a1003 l1003 c1003, .slice a1004 l1004 c1004]) ⟨rfl, rfl, rfl⟩ fun g R =>
  (p_stRow R (cs' := [.int .i64 17, .int .i64 0]) ⟨rfl, rfl, rfl⟩ fun g R =>
  (Hkr n1001 n1002 a1003 l1003 c1003 a1004 l1004 c1004 17 0 p1008 p1009 _ _ R.sub))))
  (p_ldL R rfl (d_req (d_nz fun b1056 o1057 =>
  (d_st R fun g m R =>
  (p_ldL R rfl (d_req (d_nz fun b1058 o1059 =>
  (d_st R fun g m R =>
  (p_row_I2L2 R rfl rfl rfl rfl (p_stRow R (cs' := [.int .i64 n1001, .int .i64 n1002, .slice a1003 l1003 c1003, .slice a1004 l1004 c1004]) ⟨rfl, rfl, rfl⟩ fun g R =>
  (p_stRow R (cs' := [.int .i64 0, .int .i64 1]) ⟨rfl, rfl, rfl⟩ fun g R =>
  (Hkr n1001 n1002 a1003 l1003 c1003 a1004 l1004 c1004 0 1 p1008 p1009 _ _ R.sub))))))))))))))))))))))))))))))))))))

theorem spec_l11TakeLock_M_call {n1 : Int} {n2 : Int} {a3 : Option Addr} {l3 : Nat} {c3 : Nat} {a4 : Option Addr} {l4 : Nat} {c4 : Nat} {n5 : Int} {n6 : Int} {h : H} {K : Value → H → Prop} (hs : spec_l11TakeLock_M (fun n300001 n300002 a300003 l300003 c300003 a300004 l300004 c300004 n300006 n300007 h =>
  K (.tuple ⟨[.agg ⟨[.int .i64 n300001, .int .i64 n300002, .slice a300003 l300003 c300003, .slice a300004 l300004 c300004]⟩, .agg ⟨[.int .i64 n300006, .int .i64 n300007]⟩]⟩) h) n1 n2 a3 l3 c3 a4 l4 c4 n5 n6 h) : callD Try.prog 52 ⟨[.agg ⟨[.int .i64 n1, .int .i64 n2, .slice a3 l3 c3, .slice a4 l4 c4]⟩, .int .i64 n5, .int .i64 n6]⟩ h K :=
  fun g r => spec_l11TakeLock_call (spec_l11TakeLock_M_D (by exact fun n300001 n300002 a300003 l300003 c300003 a300004 l300004 c300004 n300006 n300007 p300005 p300008 g m R =>
(p_row_I2L2 R rfl rfl rfl rfl (p_row_I2 R rfl rfl (fun h => ⟨m, R.af, h⟩)))) _ _ _ _ _ _ _ _ _ _ _ _ (Md.start r) hs)

noncomputable def code53 : Code := codeOf Try.f53
theorem body53 : Try.f53.body = some code53 := by kernel_rfl
def impl_Sched_first_l0 (kx0 : Option Addr → H → Prop) : Nat → Option Addr → Value → Option Addr → Int → Int → Int → H → Prop
 | 0, _, _, _, _, _, _, _ => False
 | N + 1, s_6, ok_7, best_8, bp_9, n10, n11, h =>
  ifB (decide ((n11 : Int) < n10))
  (nz s_6 fun b12 o13 =>
  ldL h b12 (o13 + 2) fun a14 l14 c14 =>
  req (0 ≤ (n11 : Int) ∧ (n11 : Int) < (l14 : Nat))
  (nz a14 fun b15 o16 =>
  callVK Try.prog ok_7 [.pointer (some ⟨b15, (o16 + n11.toNat * 8), none⟩)] h fun v17 h =>
  unK .not v17 fun v18 =>
  asB v18 fun t19 =>
  ifB t19
  (impl_Sched_first_l0 kx0 N s_6 ok_7 best_8 bp_9 n10 (IntKind.i64.wrap (n11 + 1)) h)
  (callK Try.prog 57 ⟨[.pointer s_6, .pointer (some ⟨b15, (o16 + n11.toNat * 8), none⟩)]⟩ h fun v20 h =>
  asI .i64 v20 fun n21 =>
  ifB best_8.isNone
  (impl_Sched_first_l0 kx0 N s_6 ok_7 (some ⟨b15, (o16 + n11.toNat * 8), none⟩) n21 n10 (IntKind.i64.wrap (n11 + 1)) h)
  (ifB (decide ((n21 : Int) > bp_9))
  (impl_Sched_first_l0 kx0 N s_6 ok_7 (some ⟨b15, (o16 + n11.toNat * 8), none⟩) n21 n10 (IntKind.i64.wrap (n11 + 1)) h)
  (ifB ((n21 : Int) == bp_9)
  (ldI .i64 h b15 ((o16 + n11.toNat * 8) + 3) fun n22 =>
  nz best_8 fun b23 o24 =>
  ldI .i64 h b23 (o24 + 3) fun n25 =>
  ifB (decide ((n22 : Int) < n25))
  (impl_Sched_first_l0 kx0 N s_6 ok_7 (some ⟨b15, (o16 + n11.toNat * 8), none⟩) n21 n10 (IntKind.i64.wrap (n11 + 1)) h)
  (impl_Sched_first_l0 kx0 N s_6 ok_7 best_8 bp_9 n10 (IntKind.i64.wrap (n11 + 1)) h))
  (impl_Sched_first_l0 kx0 N s_6 ok_7 best_8 bp_9 n10 (IntKind.i64.wrap (n11 + 1)) h))))))
  (kx0 best_8 h)

def impl_Sched_first (kr : Option Addr → H → Prop) (s_1 : Option Addr) (ok_2 : Value) (h : H) : Prop :=
  nz s_1 fun b3 o4 =>
  ldL h b3 (o4 + 2) fun a5 l5 c5 =>
  ∃ M7, impl_Sched_first_l0 (fun best_6 h =>
  kr best_6 h) M7 s_1 ok_2 none 0 (l5 : Nat) 0 h

theorem impl_Sched_first_l0_eq (K : Cont) (N : Nat) (s_6 : Option Addr) (ok_7 : Value) (best_8 : Option Addr) (bp_9 : Int) (n10 : Int) (n11 : Int) (h : H) :
  impl_Sched_first_l0 (curV [(5, .ptr)] (K (.exit 0))) (N + 1) s_6 ok_7 best_8 bp_9 n10 n11 h = evC Try.prog 58 [] [] (sub code53 [true, true, true, false, true, false, false]) [(0, .pointer s_6), (1, ok_7), (5, .pointer best_8), (6, .int .i64 bp_9), (14, .int .i64 n10), (15, .int .i64 n11)] h ((outsOf none [(0, [(5, .ptr)])] none K).loop [(0, .ptr), (1, .any), (5, .ptr), (6, .int .i64), (14, .int .i64), (15, .int .i64)] (impl_Sched_first_l0 (curV [(5, .ptr)] (K (.exit 0))) N)).K := by kernel_rfl

def impl_Sched_first_l0_F : PT := mkL [(0, .ptr), (1, .any), (5, .ptr), (6, .int .i64), (14, .int .i64), (15, .int .i64)] fun K N => impl_Sched_first_l0 (curV [(5, .ptr)] (K (.exit 0))) N

theorem impl_Sched_first_l0_V : Valid Try.prog 58 (sub code53 [true, true, true, false, true, false]) impl_Sched_first_l0_F :=
  loop_at (code53) [true, true, true, false, true, false] (loop_piece (c := (sub code53 [true, true, true, false, true, false, false])) mixed rows_nil (fun K => by intro s_6 ok_7 best_8 bp_9 n10 n11 h hd; exact hd) (fun K N => by intro s_6 ok_7 best_8 bp_9 n10 n11 h hd; exact (impl_Sched_first_l0_eq K N s_6 ok_7 best_8 bp_9 n10 n11 h) ▸ hd))

theorem impl_Sched_first_eq (K : Cont) (s_1 : Option Addr) (ok_2 : Value) (h : H) :
  impl_Sched_first (curV [(4, .ptr)] (K .ret)) s_1 ok_2 h = evC Try.prog 58 [([false, false, true, false, true, true, true], impl_Sched_first_l0_F)] [] code53 [(0, .pointer s_1), (1, ok_2)] h (outsOf none [] (some [(4, .ptr)]) K).K := by kernel_rfl

def impl_Sched_first_F : PT := mkF [(0, .ptr), (1, .any)] fun K => impl_Sched_first (curV [(4, .ptr)] (K .ret))

theorem impl_Sched_first_V : Valid Try.prog 58 code53 impl_Sched_first_F :=
  piece mixed (rows_cons (q' := [true, true, true, false, true, false]) impl_Sched_first_l0_V rfl rows_nil) (fun K => by intro s_1 ok_2 h hd; exact (impl_Sched_first_eq K s_1 ok_2 h) ▸ hd)

theorem impl_Sched_first_c0 (s_1 : Option Addr) (ok_2 : Value) (h : H) (K : Value → H → Prop) :
  impl_Sched_first (fun p100001 h =>
  K (.pointer p100001) h) s_1 ok_2 h = callF Try.prog Try.f53.results.toList impl_Sched_first_F [.pointer s_1, ok_2] h K := by kernel_rfl

theorem impl_Sched_first_call {s_1 : Option Addr} {ok_2 : Value} {h : H} {K : Value → H → Prop} (hs : impl_Sched_first (fun p100001 h =>
  K (.pointer p100001) h) s_1 ok_2 h) : callK Try.prog 53 ⟨[.pointer s_1, ok_2]⟩ h K :=
  func_calls Try.func53 body53 impl_Sched_first_V (Nat.le_of_ble_eq_true (by kernel_rfl)) (impl_Sched_first_c0 s_1 ok_2 h K ▸ hs)

def impl_Sched_first_M_l0 (kx0 : Option Addr → H → Prop) : Nat → Option Addr → Value → Option Addr → Int → Int → Int → H → Prop
 | 0, _, _, _, _, _, _, _ => False
 | N + 1, s_6, ok_7, best_8, bp_9, n10, n11, h =>
  ifB (decide ((n11 : Int) < n10))
  (nz s_6 fun b12 o13 =>
  ldL h b12 (o13 + 2) fun a14 l14 c14 =>
  req (0 ≤ (n11 : Int) ∧ (n11 : Int) < (l14 : Nat))
  (nz a14 fun b15 o16 =>
  callVD Try.prog ok_7 [.pointer (some ⟨b15, (o16 + n11.toNat * 8), none⟩)] h fun v17 h =>
  unK .not v17 fun v18 =>
  asB v18 fun t19 =>
  ifB t19
  (impl_Sched_first_M_l0 kx0 N s_6 ok_7 best_8 bp_9 n10 (IntKind.i64.wrap (n11 + 1)) h)
  (callD Try.prog 57 ⟨[.pointer s_6, .pointer (some ⟨b15, (o16 + n11.toNat * 8), none⟩)]⟩ h fun v20 h =>
  asI .i64 v20 fun n21 =>
  ifB best_8.isNone
  (impl_Sched_first_M_l0 kx0 N s_6 ok_7 (some ⟨b15, (o16 + n11.toNat * 8), none⟩) n21 n10 (IntKind.i64.wrap (n11 + 1)) h)
  (ifB (decide ((n21 : Int) > bp_9))
  (impl_Sched_first_M_l0 kx0 N s_6 ok_7 (some ⟨b15, (o16 + n11.toNat * 8), none⟩) n21 n10 (IntKind.i64.wrap (n11 + 1)) h)
  (ifB ((n21 : Int) == bp_9)
  (ldI .i64 h b15 ((o16 + n11.toNat * 8) + 3) fun n22 =>
  nz best_8 fun b23 o24 =>
  ldI .i64 h b23 (o24 + 3) fun n25 =>
  ifB (decide ((n22 : Int) < n25))
  (impl_Sched_first_M_l0 kx0 N s_6 ok_7 (some ⟨b15, (o16 + n11.toNat * 8), none⟩) n21 n10 (IntKind.i64.wrap (n11 + 1)) h)
  (impl_Sched_first_M_l0 kx0 N s_6 ok_7 best_8 bp_9 n10 (IntKind.i64.wrap (n11 + 1)) h))
  (impl_Sched_first_M_l0 kx0 N s_6 ok_7 best_8 bp_9 n10 (IntKind.i64.wrap (n11 + 1)) h))))))
  (kx0 best_8 h)

def impl_Sched_first_M (kr : Option Addr → H → Prop) (s_1 : Option Addr) (ok_2 : Value) (h : H) : Prop :=
  nz s_1 fun b3 o4 =>
  ldL h b3 (o4 + 2) fun a5 l5 c5 =>
  ∃ M7, impl_Sched_first_M_l0 (fun best_6 h =>
  kr best_6 h) M7 s_1 ok_2 none 0 (l5 : Nat) 0 h

theorem impl_Sched_first_M_l0_D {g0 m0 : H} {kx0_1 : Option Addr → H → Prop} {kx0_2 : Option Addr → H → Prop} (Hkx0 : ∀ (best_200001 : Option Addr) (g m : H), Md g0 m0 g m [] → kx0_2 best_200001 m → kx0_1 best_200001 g) : ∀ (N : Nat) (s_1006 : Option Addr) (ok_1007 : Value) (best_1008 : Option Addr) (bp_1009 : Int) (n1010 : Int) (n1011 : Int) (g m : H), Md g0 m0 g m [] → impl_Sched_first_M_l0 kx0_2 N s_1006 ok_1007 best_1008 bp_1009 n1010 n1011 m → impl_Sched_first_l0 kx0_1 N s_1006 ok_1007 best_1008 bp_1009 n1010 n1011 g := by
  intro N
  induction N with
  | zero => intro s_1006 ok_1007 best_1008 bp_1009 n1010 n1011 g m R h0; exact h0.elim
  | succ N ih =>
    intro s_1006 ok_1007 best_1008 bp_1009 n1010 n1011 g m R
    rw [impl_Sched_first_M_l0, impl_Sched_first_l0]
    exact (d_if (d_nz fun b1012 o1013 =>
  (d_ldL R fun a1014 l1014 c1014 =>
  (d_req (d_nz fun b1015 o1016 =>
  (d_callV R fun v1017 g m R =>
  (d_unK fun v1018 =>
  (d_asB fun t1019 =>
  (d_if (ih s_1006 ok_1007 best_1008 bp_1009 n1010 (IntKind.i64.wrap (n1011 + 1)) _ _ R.sub)
  (d_call R fun v1020 g m R =>
  (d_asI fun n1021 =>
  (d_if (ih s_1006 ok_1007 (some ⟨b1015, (o1016 + n1011.toNat * 8), none⟩) n1021 n1010 (IntKind.i64.wrap (n1011 + 1)) _ _ R.sub)
  (d_if (ih s_1006 ok_1007 (some ⟨b1015, (o1016 + n1011.toNat * 8), none⟩) n1021 n1010 (IntKind.i64.wrap (n1011 + 1)) _ _ R.sub)
  (d_if (d_ldI R fun n1022 =>
  (d_nz fun b1023 o1024 =>
  (d_ldI R fun n1025 =>
  (d_if (ih s_1006 ok_1007 (some ⟨b1015, (o1016 + n1011.toNat * 8), none⟩) n1021 n1010 (IntKind.i64.wrap (n1011 + 1)) _ _ R.sub)
  (ih s_1006 ok_1007 best_1008 bp_1009 n1010 (IntKind.i64.wrap (n1011 + 1)) _ _ R.sub)))))
  (ih s_1006 ok_1007 best_1008 bp_1009 n1010 (IntKind.i64.wrap (n1011 + 1)) _ _ R.sub))))))))))))))
  (Hkx0 best_1008 _ _ R.sub))

theorem impl_Sched_first_M_D {g0 m0 : H} {kr_1 : Option Addr → H → Prop} {kr_2 : Option Addr → H → Prop} (Hkr : ∀ (p200001 : Option Addr) (g m : H), Md g0 m0 g m [] → kr_2 p200001 m → kr_1 p200001 g) : ∀ (s_1001 : Option Addr) (ok_1002 : Value) (g m : H), Md g0 m0 g m [] → impl_Sched_first_M kr_2 s_1001 ok_1002 m → impl_Sched_first kr_1 s_1001 ok_1002 g := by
  intro s_1001 ok_1002 g m R
  rw [impl_Sched_first_M, impl_Sched_first]
  exact (d_nz fun b1003 o1004 =>
  (d_ldL R fun a1005 l1005 c1005 =>
  (d_ex fun N => impl_Sched_first_M_l0_D (by exact fun best_1006 g m R =>
  (Hkr best_1006 _ _ R.sub)) N s_1001 ok_1002 none 0 (l1005 : Nat) 0 _ _ R.sub)))

theorem impl_Sched_first_M_call {s_1 : Option Addr} {ok_2 : Value} {h : H} {K : Value → H → Prop} (hs : impl_Sched_first_M (fun p300001 h =>
  K (.pointer p300001) h) s_1 ok_2 h) : callD Try.prog 53 ⟨[.pointer s_1, ok_2]⟩ h K :=
  fun g r => impl_Sched_first_call (impl_Sched_first_M_D (by exact fun p300001 g m R =>
(fun h => ⟨m, R.af, h⟩)) _ _ _ _ (Md.start r) hs)

noncomputable def code54 : Code := codeOf Try.f54
theorem body54 : Try.f54.body = some code54 := by kernel_rfl
def impl_Sched_pick_c1 (kr : Bool → H → Prop) (t_1 : Option Addr) (h : H) : Prop :=
  nz t_1 fun b2 o3 =>
  ldI .i64 h b2 (o3 + 2) fun n4 =>
  kr ((n4 : Int) == 1) h

theorem impl_Sched_pick_c1_eq (K : Cont) (t_1 : Option Addr) (h : H) :
  impl_Sched_pick_c1 (curV [(2, .bool)] (K .ret)) t_1 h = evC Try.prog 8 [] [] code54 [(0, .pointer t_1)] h (outsOf none [] (some [(2, .bool)]) K).K := by kernel_rfl

def impl_Sched_pick_c1_F : PT := mkF [(0, .ptr)] fun K => impl_Sched_pick_c1 (curV [(2, .bool)] (K .ret))

theorem impl_Sched_pick_c1_V : Valid Try.prog 8 code54 impl_Sched_pick_c1_F :=
  piece mixed rows_nil (fun K => by intro t_1 h hd; exact (impl_Sched_pick_c1_eq K t_1 h) ▸ hd)

theorem impl_Sched_pick_c1_c0 (t_1 : Option Addr) (h : H) (K : Value → H → Prop) :
  impl_Sched_pick_c1 (fun t100001 h =>
  K (.bool t100001) h) t_1 h = callF Try.prog Try.f54.results.toList impl_Sched_pick_c1_F [.pointer t_1] h K := by kernel_rfl

theorem impl_Sched_pick_c1_call {t_1 : Option Addr} {h : H} {K : Value → H → Prop} (hs : impl_Sched_pick_c1 (fun t100001 h =>
  K (.bool t100001) h) t_1 h) : callK Try.prog 54 ⟨[.pointer t_1]⟩ h K :=
  func_calls Try.func54 body54 impl_Sched_pick_c1_V (Nat.le_of_ble_eq_true (by kernel_rfl)) (impl_Sched_pick_c1_c0 t_1 h K ▸ hs)

def impl_Sched_pick_c1_M (kr : Bool → H → Prop) (t_1 : Option Addr) (h : H) : Prop :=
  nz t_1 fun b2 o3 =>
  ldI .i64 h b2 (o3 + 2) fun n4 =>
  kr ((n4 : Int) == 1) h

theorem impl_Sched_pick_c1_M_D {g0 m0 : H} {kr_1 : Bool → H → Prop} {kr_2 : Bool → H → Prop} (Hkr : ∀ (t200001 : Bool) (g m : H), Md g0 m0 g m [] → kr_2 t200001 m → kr_1 t200001 g) : ∀ (t_1001 : Option Addr) (g m : H), Md g0 m0 g m [] → impl_Sched_pick_c1_M kr_2 t_1001 m → impl_Sched_pick_c1 kr_1 t_1001 g := by
  intro t_1001 g m R
  rw [impl_Sched_pick_c1_M, impl_Sched_pick_c1]
  exact (d_nz fun b1002 o1003 =>
  (d_ldI R fun n1004 =>
  (Hkr ((n1004 : Int) == 1) _ _ R.sub)))

theorem impl_Sched_pick_c1_M_call {t_1 : Option Addr} {h : H} {K : Value → H → Prop} (hs : impl_Sched_pick_c1_M (fun t300001 h =>
  K (.bool t300001) h) t_1 h) : callD Try.prog 54 ⟨[.pointer t_1]⟩ h K :=
  fun g r => impl_Sched_pick_c1_call (impl_Sched_pick_c1_M_D (by exact fun t300001 g m R =>
(fun h => ⟨m, R.af, h⟩)) _ _ _ (Md.start r) hs)

noncomputable def code55 : Code := codeOf Try.f55
theorem body55 : Try.f55.body = some code55 := by kernel_rfl
def impl_Sched_hand_c1 (kr : Bool → H → Prop) (t_1 : Option Addr) (b2 : Nat) (o3 : Nat) (h : H) : Prop :=
  nz t_1 fun b4 o5 =>
  ldI .i64 h b4 (o5 + 2) fun n6 =>
  ifB ((n6 : Int) == 2)
  (nz t_1 fun b7 o8 =>
  ldI .i64 h b7 (o8 + 7) fun n9 =>
  ldI .i64 h b2 o3 fun n10 =>
  kr ((n9 : Int) == n10) h)
  (kr false h)

theorem impl_Sched_hand_c1_eq (K : Cont) (t_1 : Option Addr) (b2 : Nat) (o3 : Nat) (h : H) :
  impl_Sched_hand_c1 (curV [(3, .bool)] (K .ret)) t_1 b2 o3 h = evC Try.prog 17 [] [] code55 [(0, .pointer t_1), (1, .pointer (some ⟨b2, o3, none⟩))] h (outsOf none [] (some [(3, .bool)]) K).K := by kernel_rfl

def impl_Sched_hand_c1_F : PT := mkF [(0, .ptr), (1, .adr)] fun K => impl_Sched_hand_c1 (curV [(3, .bool)] (K .ret))

theorem impl_Sched_hand_c1_V : Valid Try.prog 17 code55 impl_Sched_hand_c1_F :=
  piece mixed rows_nil (fun K => by intro t_1 b2 o3 h hd; exact (impl_Sched_hand_c1_eq K t_1 b2 o3 h) ▸ hd)

theorem impl_Sched_hand_c1_c0 (t_1 : Option Addr) (b2 : Nat) (o3 : Nat) (h : H) (K : Value → H → Prop) :
  impl_Sched_hand_c1 (fun t100001 h =>
  K (.bool t100001) h) t_1 b2 o3 h = callF Try.prog Try.f55.results.toList impl_Sched_hand_c1_F [.pointer t_1, .pointer (some ⟨b2, o3, none⟩)] h K := by kernel_rfl

theorem impl_Sched_hand_c1_call {t_1 : Option Addr} {b2 : Nat} {o3 : Nat} {h : H} {K : Value → H → Prop} (hs : impl_Sched_hand_c1 (fun t100001 h =>
  K (.bool t100001) h) t_1 b2 o3 h) : callK Try.prog 55 ⟨[.pointer t_1, .pointer (some ⟨b2, o3, none⟩)]⟩ h K :=
  func_calls Try.func55 body55 impl_Sched_hand_c1_V (Nat.le_of_ble_eq_true (by kernel_rfl)) (impl_Sched_hand_c1_c0 t_1 b2 o3 h K ▸ hs)

def impl_Sched_hand_c1_M (kr : Bool → H → Prop) (t_1 : Option Addr) (b2 : Nat) (o3 : Nat) (h : H) : Prop :=
  nz t_1 fun b4 o5 =>
  ldI .i64 h b4 (o5 + 2) fun n6 =>
  ifB ((n6 : Int) == 2)
  (nz t_1 fun b7 o8 =>
  ldI .i64 h b7 (o8 + 7) fun n9 =>
  ldI .i64 h b2 o3 fun n10 =>
  kr ((n9 : Int) == n10) h)
  (kr false h)

theorem impl_Sched_hand_c1_M_D {g0 m0 : H} {kr_1 : Bool → H → Prop} {kr_2 : Bool → H → Prop} (Hkr : ∀ (t200001 : Bool) (g m : H), Md g0 m0 g m [] → kr_2 t200001 m → kr_1 t200001 g) : ∀ (t_1001 : Option Addr) (b1002 : Nat) (o1003 : Nat) (g m : H), Md g0 m0 g m [] → impl_Sched_hand_c1_M kr_2 t_1001 b1002 o1003 m → impl_Sched_hand_c1 kr_1 t_1001 b1002 o1003 g := by
  intro t_1001 b1002 o1003 g m R
  rw [impl_Sched_hand_c1_M, impl_Sched_hand_c1]
  exact (d_nz fun b1004 o1005 =>
  (d_ldI R fun n1006 =>
  (d_if (d_nz fun b1007 o1008 =>
  (d_ldI R fun n1009 =>
  (d_ldI R fun n1010 =>
  (Hkr ((n1009 : Int) == n1010) _ _ R.sub))))
  (Hkr false _ _ R.sub))))

theorem impl_Sched_hand_c1_M_call {t_1 : Option Addr} {b2 : Nat} {o3 : Nat} {h : H} {K : Value → H → Prop} (hs : impl_Sched_hand_c1_M (fun t300001 h =>
  K (.bool t300001) h) t_1 b2 o3 h) : callD Try.prog 55 ⟨[.pointer t_1, .pointer (some ⟨b2, o3, none⟩)]⟩ h K :=
  fun g r => impl_Sched_hand_c1_call (impl_Sched_hand_c1_M_D (by exact fun t300001 g m R =>
(fun h => ⟨m, R.af, h⟩)) _ _ _ _ _ (Md.start r) hs)

noncomputable def code56 : Code := codeOf Try.f56
theorem body56 : Try.f56.body = some code56 := by kernel_rfl
def spec_l11Prio_l0 (kx0 : Int → H → Prop) : Nat → Int → Nat → Int → Int → H → Prop
 | 0, _, _, _, _, _ => False
 | N + 1, id_30, s_31, p_32, i_33, h =>
  ldL h s_31 2 fun a34 l34 c34 =>
  ifB (decide ((i_33 : Int) < (l34 : Nat)))
  (ldRow h s_31 0 0 [.int .i64, .int .i64, .slice, .slice] fun n35 n36 a37 l37 c37 a38 l38 c38 =>
  ldL h s_31 2 fun a39 l39 c39 =>
  req (0 ≤ (i_33 : Int) ∧ (i_33 : Int) < (l39 : Nat))
  (nz a39 fun b40 o41 =>
  ldI .i64 h b40 (o41 + i_33.toNat * 8) fun n42 =>
  callK Try.prog 31 ⟨[.agg ⟨[.int .i64 n35, .int .i64 n36, .slice a37 l37 c37, .slice a38 l38 c38]⟩, .int .i64 n42, .int .i64 id_30]⟩ h fun v43 h =>
  asB v43 fun t44 =>
  ifB t44
  (ldRow h s_31 0 0 [.int .i64, .int .i64, .slice, .slice] fun n45 n46 a47 l47 c47 a48 l48 c48 =>
  ldL h s_31 2 fun a49 l49 c49 =>
  req (0 ≤ (i_33 : Int) ∧ (i_33 : Int) < (l49 : Nat))
  (nz a49 fun b50 o51 =>
  ldRow h b50 (o51 + i_33.toNat * 8) 0 [.int .i64, .int .i64, .int .i64, .int .i64, .int .i64, .int .i64, .int .i64, .int .i64] fun n52 n53 n54 n55 n56 n57 n58 n59 =>
  callK Try.prog 58 ⟨[.agg ⟨[.int .i64 n45, .int .i64 n46, .slice a47 l47 c47, .slice a48 l48 c48]⟩, .agg ⟨[.int .i64 n52, .int .i64 n53, .int .i64 n54, .int .i64 n55, .int .i64 n56, .int .i64 n57, .int .i64 n58, .int .i64 n59]⟩]⟩ h fun v60 h =>
  asI .i64 v60 fun n61 =>
  ifB (decide ((n61 : Int) > p_32))
  (spec_l11Prio_l0 kx0 N id_30 s_31 n61 (IntKind.i64.wrap (i_33 + 1)) h)
  (spec_l11Prio_l0 kx0 N id_30 s_31 p_32 (IntKind.i64.wrap (i_33 + 1)) h)))
  (spec_l11Prio_l0 kx0 N id_30 s_31 p_32 (IntKind.i64.wrap (i_33 + 1)) h)))
  (kx0 p_32 h)

def spec_l11Prio (kr : Int → H → Prop) (s_1 : Int) (s_2 : Int) (s_3 : Option Addr) (s_l3 : Nat) (s_c3 : Nat) (s_4 : Option Addr) (s_l4 : Nat) (s_c4 : Nat) (id_5 : Int) (h : H) : Prop :=
  new h [.int .i64 s_1, .int .i64 s_2, .slice s_3 s_l3 s_c3, .slice s_4 s_l4 s_c4] 32 fun b6 h =>
  ldRow h b6 0 0 [.int .i64, .int .i64, .slice, .slice] fun n7 n8 a9 l9 c9 a10 l10 c10 =>
  ldL h b6 2 fun a11 l11 c11 =>
  ldRow h b6 0 0 [.int .i64, .int .i64, .slice, .slice] fun n12 n13 a14 l14 c14 a15 l15 c15 =>
  callK Try.prog 29 ⟨[.agg ⟨[.int .i64 n12, .int .i64 n13, .slice a14 l14 c14, .slice a15 l15 c15]⟩, .int .i64 id_5]⟩ h fun v16 h =>
  asI .i64 v16 fun n17 =>
  cell h b6 2 = some (.slice a11 l11 c11) ∧ (heldRow h b6 0 0 [.int .i64 n7, .int .i64 n8, .slice a9 l9 c9, .slice a10 l10 c10] (req (0 ≤ (n17 : Int) ∧ (n17 : Int) < (l11 : Nat))
  (nz a11 fun b18 o19 =>
  ldRow h b18 (o19 + n17.toNat * 8) 0 [.int .i64, .int .i64, .int .i64, .int .i64, .int .i64, .int .i64, .int .i64, .int .i64] fun n20 n21 n22 n23 n24 n25 n26 n27 =>
  callK Try.prog 58 ⟨[.agg ⟨[.int .i64 n7, .int .i64 n8, .slice a9 l9 c9, .slice a10 l10 c10]⟩, .agg ⟨[.int .i64 n20, .int .i64 n21, .int .i64 n22, .int .i64 n23, .int .i64 n24, .int .i64 n25, .int .i64 n26, .int .i64 n27]⟩]⟩ h fun v28 h =>
  asI .i64 v28 fun n29 =>
  ∃ M31, spec_l11Prio_l0 (fun p_30 h =>
  kr p_30 h) M31 id_5 b6 n29 0 h)))

theorem spec_l11Prio_l0_eq (K : Cont) (N : Nat) (id_30 : Int) (s_31 : Nat) (p_32 : Int) (i_33 : Int) (h : H) :
  spec_l11Prio_l0 (curV [(5, .int .i64)] (K (.exit 0))) (N + 1) id_30 s_31 p_32 i_33 h = evC Try.prog 45 [] [] (sub code56 [true, true, false, true, false, false]) [(1, .int .i64 id_30), (2, .pointer (some ⟨s_31, 0, none⟩)), (5, .int .i64 p_32), (6, .int .i64 i_33)] h ((outsOf none [(0, [(5, .int .i64)])] none K).loop [(1, .int .i64), (2, .blk), (5, .int .i64), (6, .int .i64)] (spec_l11Prio_l0 (curV [(5, .int .i64)] (K (.exit 0))) N)).K := by kernel_rfl

def spec_l11Prio_l0_F : PT := mkL [(1, .int .i64), (2, .blk), (5, .int .i64), (6, .int .i64)] fun K N => spec_l11Prio_l0 (curV [(5, .int .i64)] (K (.exit 0))) N

theorem spec_l11Prio_l0_V : Valid Try.prog 45 (sub code56 [true, true, false, true, false]) spec_l11Prio_l0_F :=
  loop_at (code56) [true, true, false, true, false] (loop_piece (c := (sub code56 [true, true, false, true, false, false])) mixed rows_nil (fun K => by intro id_30 s_31 p_32 i_33 h hd; exact hd) (fun K N => by intro id_30 s_31 p_32 i_33 h hd; exact (spec_l11Prio_l0_eq K N id_30 s_31 p_32 i_33 h) ▸ hd))

theorem spec_l11Prio_eq (K : Cont) (s_1 : Int) (s_2 : Int) (s_3 : Option Addr) (s_l3 : Nat) (s_c3 : Nat) (s_4 : Option Addr) (s_l4 : Nat) (s_c4 : Nat) (id_5 : Int) (h : H) :
  spec_l11Prio (curV [(4, .int .i64)] (K .ret)) s_1 s_2 s_3 s_l3 s_c3 s_4 s_l4 s_c4 id_5 h = evC Try.prog 45 [([false, false, true, false, true, true], spec_l11Prio_l0_F)] [] code56 [(0, .agg ⟨[.int .i64 s_1, .int .i64 s_2, .slice s_3 s_l3 s_c3, .slice s_4 s_l4 s_c4]⟩), (1, .int .i64 id_5)] h (outsOf none [] (some [(4, .int .i64)]) K).K := by kernel_rfl

def spec_l11Prio_F : PT := mkF [(0, .agg [.int .i64, .int .i64, .slice, .slice]), (1, .int .i64)] fun K => spec_l11Prio (curV [(4, .int .i64)] (K .ret))

theorem spec_l11Prio_V : Valid Try.prog 45 code56 spec_l11Prio_F :=
  piece mixed (rows_cons (q' := [true, true, false, true, false]) spec_l11Prio_l0_V rfl rows_nil) (fun K => by intro s_1 s_2 s_3 s_l3 s_c3 s_4 s_l4 s_c4 id_5 h hd; exact (spec_l11Prio_eq K s_1 s_2 s_3 s_l3 s_c3 s_4 s_l4 s_c4 id_5 h) ▸ hd)

theorem spec_l11Prio_c0 (s_1 : Int) (s_2 : Int) (s_3 : Option Addr) (s_l3 : Nat) (s_c3 : Nat) (s_4 : Option Addr) (s_l4 : Nat) (s_c4 : Nat) (id_5 : Int) (h : H) (K : Value → H → Prop) :
  spec_l11Prio (fun n100001 h =>
  K (.int .i64 n100001) h) s_1 s_2 s_3 s_l3 s_c3 s_4 s_l4 s_c4 id_5 h = callF Try.prog Try.f56.results.toList spec_l11Prio_F [.agg ⟨[.int .i64 s_1, .int .i64 s_2, .slice s_3 s_l3 s_c3, .slice s_4 s_l4 s_c4]⟩, .int .i64 id_5] h K := by kernel_rfl

theorem spec_l11Prio_call {s_1 : Int} {s_2 : Int} {s_3 : Option Addr} {s_l3 : Nat} {s_c3 : Nat} {s_4 : Option Addr} {s_l4 : Nat} {s_c4 : Nat} {id_5 : Int} {h : H} {K : Value → H → Prop} (hs : spec_l11Prio (fun n100001 h =>
  K (.int .i64 n100001) h) s_1 s_2 s_3 s_l3 s_c3 s_4 s_l4 s_c4 id_5 h) : callK Try.prog 56 ⟨[.agg ⟨[.int .i64 s_1, .int .i64 s_2, .slice s_3 s_l3 s_c3, .slice s_4 s_l4 s_c4]⟩, .int .i64 id_5]⟩ h K :=
  func_calls Try.func56 body56 spec_l11Prio_V (Nat.le_of_ble_eq_true (by kernel_rfl)) (spec_l11Prio_c0 s_1 s_2 s_3 s_l3 s_c3 s_4 s_l4 s_c4 id_5 h K ▸ hs)

def spec_l11Prio_M_l0 (kx0 : Int → H → Prop) : Nat → Int → Int → Int → Int → Int → Option Addr → Nat → Nat → Option Addr → Nat → Nat → H → Prop
 | 0, _, _, _, _, _, _, _, _, _, _, _, _ => False
 | N + 1, id_20, p_21, i_22, n23, n24, a25, l25, c25, a26, l26, c26, h =>
  ifB (decide ((i_22 : Int) < (l25 : Nat)))
  (req (0 ≤ (i_22 : Int) ∧ (i_22 : Int) < (l25 : Nat))
  (nz a25 fun b28 o29 =>
  ldI .i64 h b28 (o29 + i_22.toNat * 8) fun n30 =>
  callD Try.prog 31 ⟨[.agg ⟨[.int .i64 n23, .int .i64 n24, .slice a25 l25 c25, .slice a26 l26 c26]⟩, .int .i64 n30, .int .i64 id_20]⟩ h fun v31 h =>
  asB v31 fun t32 =>
  ifB t32
  (req (0 ≤ (i_22 : Int) ∧ (i_22 : Int) < (l25 : Nat))
  (nz a25 fun b33 o34 =>
  ldRow h b33 (o34 + i_22.toNat * 8) 0 [.int .i64, .int .i64, .int .i64, .int .i64, .int .i64, .int .i64, .int .i64, .int .i64] fun n35 n36 n37 n38 n39 n40 n41 n42 =>
  callD Try.prog 58 ⟨[.agg ⟨[.int .i64 n23, .int .i64 n24, .slice a25 l25 c25, .slice a26 l26 c26]⟩, .agg ⟨[.int .i64 n35, .int .i64 n36, .int .i64 n37, .int .i64 n38, .int .i64 n39, .int .i64 n40, .int .i64 n41, .int .i64 n42]⟩]⟩ h fun v43 h =>
  asI .i64 v43 fun n44 =>
  ifB (decide ((n44 : Int) > p_21))
  (spec_l11Prio_M_l0 kx0 N id_20 n44 (IntKind.i64.wrap (i_22 + 1)) n23 n24 a25 l25 c25 a26 l26 c26 h)
  (spec_l11Prio_M_l0 kx0 N id_20 p_21 (IntKind.i64.wrap (i_22 + 1)) n23 n24 a25 l25 c25 a26 l26 c26 h)))
  (spec_l11Prio_M_l0 kx0 N id_20 p_21 (IntKind.i64.wrap (i_22 + 1)) n23 n24 a25 l25 c25 a26 l26 c26 h)))
  (kx0 p_21 h)

def spec_l11Prio_M (kr : Int → H → Prop) (s_1 : Int) (s_2 : Int) (s_3 : Option Addr) (s_l3 : Nat) (s_c3 : Nat) (s_4 : Option Addr) (s_l4 : Nat) (s_c4 : Nat) (id_5 : Int) (h : H) : Prop :=
  callD Try.prog 29 ⟨[.agg ⟨[.int .i64 s_1, .int .i64 s_2, .slice s_3 s_l3 s_c3, .slice s_4 s_l4 s_c4]⟩, .int .i64 id_5]⟩ h fun v6 h =>
  asI .i64 v6 fun n7 =>
  req (0 ≤ (n7 : Int) ∧ (n7 : Int) < (s_l3 : Nat))
  (nz s_3 fun b8 o9 =>
  ldRow h b8 (o9 + n7.toNat * 8) 0 [.int .i64, .int .i64, .int .i64, .int .i64, .int .i64, .int .i64, .int .i64, .int .i64] fun n10 n11 n12 n13 n14 n15 n16 n17 =>
  callD Try.prog 58 ⟨[.agg ⟨[.int .i64 s_1, .int .i64 s_2, .slice s_3 s_l3 s_c3, .slice s_4 s_l4 s_c4]⟩, .agg ⟨[.int .i64 n10, .int .i64 n11, .int .i64 n12, .int .i64 n13, .int .i64 n14, .int .i64 n15, .int .i64 n16, .int .i64 n17]⟩]⟩ h fun v18 h =>
  asI .i64 v18 fun n19 =>
  ∃ M21, spec_l11Prio_M_l0 (fun p_20 h =>
  kr p_20 h) M21 id_5 n19 0 s_1 s_2 s_3 s_l3 s_c3 s_4 s_l4 s_c4 h)

theorem spec_l11Prio_M_l0_D {g0 m0 : H} {kx0_1 : Int → H → Prop} {kx0_2 : Int → H → Prop} (Hkx0 : ∀ (p_200001 : Int) (g m : H), Md g0 m0 g m [] → kx0_2 p_200001 m → kx0_1 p_200001 g) : ∀ (N : Nat) (id_1020 : Int) (p_1021 : Int) (i_1022 : Int) (n1023 : Int) (n1024 : Int) (a1025 : Option Addr) (l1025 : Nat) (c1025 : Nat) (a1026 : Option Addr) (l1026 : Nat) (c1026 : Nat) (p1027 : Nat) (g m : H), Md g0 m0 g m [lo p1027 [.int .i64 n1023, .int .i64 n1024, .slice a1025 l1025 c1025, .slice a1026 l1026 c1026]] → spec_l11Prio_M_l0 kx0_2 N id_1020 p_1021 i_1022 n1023 n1024 a1025 l1025 c1025 a1026 l1026 c1026 m → spec_l11Prio_l0 kx0_1 N id_1020 p1027 p_1021 i_1022 g := by
  intro N
  induction N with
  | zero => intro id_1020 p_1021 i_1022 n1023 n1024 a1025 l1025 c1025 a1026 l1026 c1026 p1027 g m R h0; exact h0.elim
  | succ N ih =>
    intro id_1020 p_1021 i_1022 n1023 n1024 a1025 l1025 c1025 a1026 l1026 c1026 p1027 g m R
    rw [spec_l11Prio_M_l0, spec_l11Prio_l0]
    exact (p_ldL R rfl (d_if (p_row_I2L2 R rfl rfl rfl rfl (p_ldL R rfl (d_req (d_nz fun b1028 o1029 =>
  (d_ldI R fun n1030 =>
  (d_call R fun v1031 g m R =>
  (d_asB fun t1032 =>
  (d_if (p_row_I2L2 R rfl rfl rfl rfl (p_ldL R rfl (d_req (d_nz fun b1033 o1034 =>
  (d_row_I8 R fun n1035 n1036 n1037 n1038 n1039 n1040 n1041 n1042 =>
  (d_call R fun v1043 g m R =>
  (d_asI fun n1044 =>
  (d_if (ih id_1020 n1044 (IntKind.i64.wrap (i_1022 + 1)) n1023 n1024 a1025 l1025 c1025 a1026 l1026 c1026 p1027 _ _ R.sub)
  (ih id_1020 p_1021 (IntKind.i64.wrap (i_1022 + 1)) n1023 n1024 a1025 l1025 c1025 a1026 l1026 c1026 p1027 _ _ R.sub)))))))))
  (ih id_1020 p_1021 (IntKind.i64.wrap (i_1022 + 1)) n1023 n1024 a1025 l1025 c1025 a1026 l1026 c1026 p1027 _ _ R.sub)))))))))
  (Hkx0 p_1021 _ _ R.sub)))

theorem spec_l11Prio_M_D {g0 m0 : H} {kr_1 : Int → H → Prop} {kr_2 : Int → H → Prop} (Hkr : ∀ (n200001 : Int) (g m : H), Md g0 m0 g m [] → kr_2 n200001 m → kr_1 n200001 g) : ∀ (s_1001 : Int) (s_1002 : Int) (s_1003 : Option Addr) (s_l1003 : Nat) (s_c1003 : Nat) (s_1004 : Option Addr) (s_l1004 : Nat) (s_c1004 : Nat) (id_1005 : Int) (g m : H), Md g0 m0 g m [] → spec_l11Prio_M kr_2 s_1001 s_1002 s_1003 s_l1003 s_c1003 s_1004 s_l1004 s_c1004 id_1005 m → spec_l11Prio kr_1 s_1001 s_1002 s_1003 s_l1003 s_c1003 s_1004 s_l1004 s_c1004 id_1005 g := by
  intro s_1001 s_1002 s_1003 s_l1003 s_c1003 s_1004 s_l1004 s_c1004 id_1005 g m R
  rw [spec_l11Prio_M, spec_l11Prio]
  exact (p_new R fun p1006 g R =>
  (p_row_I2L2 R rfl rfl rfl rfl (p_ldL R rfl (p_row_I2L2 R rfl rfl rfl rfl (d_call R fun v1007 g m R =>
  (d_asI fun n1008 =>
  (p_cell R rfl (p_held R rfl (d_req (d_nz fun b1009 o1010 =>
  (d_row_I8 R fun n1011 n1012 n1013 n1014 n1015 n1016 n1017 n1018 =>
  (d_call R fun v1019 g m R =>
  (d_asI fun n1020 =>
  (d_ex fun N => spec_l11Prio_M_l0_D (by exact fun p_1021 g m R =>
  (Hkr p_1021 _ _ R.sub)) N id_1005 n1020 0 s_1001 s_1002 s_1003 s_l1003 s_c1003 s_1004 s_l1004 s_c1004 p1006 _ _ R.sub))))))))))))))

theorem spec_l11Prio_M_call {s_1 : Int} {s_2 : Int} {s_3 : Option Addr} {s_l3 : Nat} {s_c3 : Nat} {s_4 : Option Addr} {s_l4 : Nat} {s_c4 : Nat} {id_5 : Int} {h : H} {K : Value → H → Prop} (hs : spec_l11Prio_M (fun n300001 h =>
  K (.int .i64 n300001) h) s_1 s_2 s_3 s_l3 s_c3 s_4 s_l4 s_c4 id_5 h) : callD Try.prog 56 ⟨[.agg ⟨[.int .i64 s_1, .int .i64 s_2, .slice s_3 s_l3 s_c3, .slice s_4 s_l4 s_c4]⟩, .int .i64 id_5]⟩ h K :=
  fun g r => spec_l11Prio_call (spec_l11Prio_M_D (by exact fun n300001 g m R =>
(fun h => ⟨m, R.af, h⟩)) _ _ _ _ _ _ _ _ _ _ _ (Md.start r) hs)

noncomputable def code57 : Code := codeOf Try.f57
theorem body57 : Try.f57.body = some code57 := by kernel_rfl
def impl_Sched_prio_l2 (kx2 : Option Addr → Option Addr → Int → Option Addr → Nat → Nat → Int → Int → H → Prop) : Nat → Option Addr → Option Addr → Int → Nat → Option Addr → Nat → Nat → Int → Int → Int → Int → H → Prop
 | 0, _, _, _, _, _, _, _, _, _, _, _, _ => False
 | N + 1, p30, p31, n32, b33, a34, l34, c34, n35, n36, n37, n38, h =>
  ifB (decide ((n38 : Int) < n37))
  (nz p30 fun b39 o40 =>
  ldL h b39 (o40 + 2) fun a41 l41 c41 =>
  req (0 ≤ (n38 : Int) ∧ (n38 : Int) < (l41 : Nat))
  (nz a41 fun b42 o43 =>
  ldI .i64 h b42 ((o43 + n38.toNat * 8) + 2) fun n44 =>
  ifB ((n44 : Int) == 2)
  (ldI .i64 h b42 ((o43 + n38.toNat * 8) + 7) fun n45 =>
  ldI .i64 h b33 0 fun n46 =>
  ifB ((n45 : Int) == n46)
  (callK Try.prog 57 ⟨[.pointer p30, .pointer (some ⟨b42, (o43 + n38.toNat * 8), none⟩)]⟩ h fun v47 h =>
  asI .i64 v47 fun n48 =>
  impl_Sched_prio_l2 kx2 N p30 p31 (if n48 > n32 then n48 else n32) b33 a34 l34 c34 n35 n36 n37 (IntKind.i64.wrap (n38 + 1)) h)
  (impl_Sched_prio_l2 kx2 N p30 p31 n32 b33 a34 l34 c34 n35 n36 n37 (IntKind.i64.wrap (n38 + 1)) h))
  (impl_Sched_prio_l2 kx2 N p30 p31 n32 b33 a34 l34 c34 n35 n36 n37 (IntKind.i64.wrap (n38 + 1)) h)))
  (kx2 p30 p31 n32 a34 l34 c34 n35 n36 h)

def impl_Sched_prio_l1 (kx0 : Int → H → Prop) : Nat → Option Addr → Option Addr → Int → Option Addr → Nat → Nat → Int → Int → H → Prop
 | 0, _, _, _, _, _, _, _, _, _ => False
 | N + 1, p12, p13, n14, a15, l15, c15, n16, n17, h =>
  ifB (decide ((n17 : Int) < n16))
  (req (0 ≤ (n17 : Int) ∧ (n17 : Int) < (l15 : Nat))
  (nz a15 fun b18 o19 =>
  ldRow h b18 (o19 + n17.toNat * 2) 0 [.int .i64, .int .i64] fun n20 n21 =>
  new h [.int .i64 0, .int .i64 0] 57 fun b22 h =>
  stRow h b22 0 0 [.int .i64 n20, .int .i64 n21] fun h =>
  ldI .i64 h b22 1 fun n23 =>
  nz p13 fun b24 o25 =>
  ldI .i64 h b24 o25 fun n26 =>
  ifB ((n23 : Int) != n26)
  (impl_Sched_prio_l1 kx0 N p12 p13 n14 a15 l15 c15 n16 (IntKind.i64.wrap (n17 + 1)) h)
  (nz p12 fun b27 o28 =>
  ldL h b27 (o28 + 2) fun a29 l29 c29 =>
  ∃ M36, impl_Sched_prio_l2 (fun p30 p31 n32 a33 l33 c33 n34 n35 h =>
  impl_Sched_prio_l1 kx0 N p30 p31 n32 a33 l33 c33 n34 (IntKind.i64.wrap (n35 + 1)) h) M36 p12 p13 n14 b22 a15 l15 c15 n16 n17 (l29 : Nat) 0 h)))
  (kx0 n14 h)

def impl_Sched_prio_j0 (kr : Int → H → Prop) (p6 : Option Addr) (p7 : Option Addr) (n8 : Int) (h : H) : Prop :=
  nz p6 fun b9 o10 =>
  ldL h b9 (o10 + 3) fun a11 l11 c11 =>
  ∃ M13, impl_Sched_prio_l1 (fun n12 h =>
  kr n12 h) M13 p6 p7 n8 a11 l11 c11 (l11 : Nat) 0 h

def impl_Sched_prio (kr : Int → H → Prop) (p1 : Option Addr) (p2 : Option Addr) (h : H) : Prop :=
  nz p2 fun b3 o4 =>
  ldI .i64 h b3 (o4 + 1) fun n5 =>
  nz p2 fun b6 o7 =>
  ldI .i64 h b6 (o7 + 2) fun n8 =>
  ifB ((n8 : Int) == 1)
  (nz p1 fun b9 o10 =>
  ldI .i64 h b9 o10 fun n11 =>
  nz p2 fun b12 o13 =>
  ldI .i64 h b12 (o13 + 5) fun n14 =>
  impl_Sched_prio_j0 kr p1 p2 (if IntKind.i64.wrap (n5 + (IntKind.i64.wrap ((IntKind.i64.wrap (n11 - n14) : Int).tdiv 16))) < 7 then IntKind.i64.wrap (n5 + (IntKind.i64.wrap ((IntKind.i64.wrap (n11 - n14) : Int).tdiv 16))) else 7) h)
  (impl_Sched_prio_j0 kr p1 p2 n5 h)

theorem impl_Sched_prio_l2_eq (K : Cont) (N : Nat) (p30 : Option Addr) (p31 : Option Addr) (n32 : Int) (b33 : Nat) (a34 : Option Addr) (l34 : Nat) (c34 : Nat) (n35 : Int) (n36 : Int) (n37 : Int) (n38 : Int) (h : H) :
  impl_Sched_prio_l2 (curV [(0, .ptr), (1, .ptr), (5, .int .i64), (35, .slice), (36, .int .i64), (37, .int .i64)] (K (.exit 2))) (N + 1) p30 p31 n32 b33 a34 l34 c34 n35 n36 n37 n38 h = evC Try.prog 84 [] [] (sub code57 [true, true, true, false, true, false, false, true, true, false, false, true, true, true, false, false]) [(0, .pointer p30), (1, .pointer p31), (5, .int .i64 n32), (7, .pointer (some ⟨b33, 0, none⟩)), (35, .slice a34 l34 c34), (36, .int .i64 n35), (37, .int .i64 n36), (52, .int .i64 n37), (53, .int .i64 n38)] h ((outsOf none [(2, [(0, .ptr), (1, .ptr), (5, .int .i64), (35, .slice), (36, .int .i64), (37, .int .i64)])] none K).loop [(0, .ptr), (1, .ptr), (5, .int .i64), (7, .blk), (35, .slice), (36, .int .i64), (37, .int .i64), (52, .int .i64), (53, .int .i64)] (impl_Sched_prio_l2 (curV [(0, .ptr), (1, .ptr), (5, .int .i64), (35, .slice), (36, .int .i64), (37, .int .i64)] (K (.exit 2))) N)).K := by kernel_rfl

def impl_Sched_prio_l2_F : PT := mkL [(0, .ptr), (1, .ptr), (5, .int .i64), (7, .blk), (35, .slice), (36, .int .i64), (37, .int .i64), (52, .int .i64), (53, .int .i64)] fun K N => impl_Sched_prio_l2 (curV [(0, .ptr), (1, .ptr), (5, .int .i64), (35, .slice), (36, .int .i64), (37, .int .i64)] (K (.exit 2))) N

theorem impl_Sched_prio_l2_V : Valid Try.prog 84 (sub code57 [true, true, true, false, true, false, false, true, true, false, false, true, true, true, false]) impl_Sched_prio_l2_F :=
  loop_at (code57) [true, true, true, false, true, false, false, true, true, false, false, true, true, true, false] (loop_piece (c := (sub code57 [true, true, true, false, true, false, false, true, true, false, false, true, true, true, false, false])) mixed rows_nil (fun K => by intro p30 p31 n32 b33 a34 l34 c34 n35 n36 n37 n38 h hd; exact hd) (fun K N => by intro p30 p31 n32 b33 a34 l34 c34 n35 n36 n37 n38 h hd; exact (impl_Sched_prio_l2_eq K N p30 p31 n32 b33 a34 l34 c34 n35 n36 n37 n38 h) ▸ hd))

theorem impl_Sched_prio_l1_eq (K : Cont) (N : Nat) (p12 : Option Addr) (p13 : Option Addr) (n14 : Int) (a15 : Option Addr) (l15 : Nat) (c15 : Nat) (n16 : Int) (n17 : Int) (h : H) :
  impl_Sched_prio_l1 (curV [(5, .int .i64)] (K (.exit 0))) (N + 1) p12 p13 n14 a15 l15 c15 n16 n17 h = evC Try.prog 84 [([false, false, true, true, true, false, false, true, true], impl_Sched_prio_l2_F)] [] (sub code57 [true, true, true, false, true, false, false]) [(0, .pointer p12), (1, .pointer p13), (5, .int .i64 n14), (35, .slice a15 l15 c15), (36, .int .i64 n16), (37, .int .i64 n17)] h ((outsOf none [(0, [(5, .int .i64)])] none K).loop [(0, .ptr), (1, .ptr), (5, .int .i64), (35, .slice), (36, .int .i64), (37, .int .i64)] (impl_Sched_prio_l1 (curV [(5, .int .i64)] (K (.exit 0))) N)).K := by kernel_rfl

def impl_Sched_prio_l1_F : PT := mkL [(0, .ptr), (1, .ptr), (5, .int .i64), (35, .slice), (36, .int .i64), (37, .int .i64)] fun K N => impl_Sched_prio_l1 (curV [(5, .int .i64)] (K (.exit 0))) N

theorem impl_Sched_prio_l1_V : Valid Try.prog 84 (sub code57 [true, true, true, false, true, false]) impl_Sched_prio_l1_F :=
  loop_at (code57) [true, true, true, false, true, false] (loop_piece (c := (sub code57 [true, true, true, false, true, false, false])) mixed (rows_cons (q' := [true, true, false, false, true, true, true, false]) (valid_at (p := [true, true, true, false, true, false, false]) impl_Sched_prio_l2_V rfl) rfl rows_nil) (fun K => by intro p12 p13 n14 a15 l15 c15 n16 n17 h hd; exact hd) (fun K N => by intro p12 p13 n14 a15 l15 c15 n16 n17 h hd; exact (impl_Sched_prio_l1_eq K N p12 p13 n14 a15 l15 c15 n16 n17 h) ▸ hd))

theorem impl_Sched_prio_j0_eq (K : Cont) (p6 : Option Addr) (p7 : Option Addr) (n8 : Int) (h : H) :
  impl_Sched_prio_j0 (curV [(4, .int .i64)] (K .ret)) p6 p7 n8 h = evC Try.prog 84 [([false, false, true, false], impl_Sched_prio_l1_F)] [] (sub code57 [true, true, true]) [(0, .pointer p6), (1, .pointer p7), (5, .int .i64 n8)] h (outsOf none [] (some [(4, .int .i64)]) K).K := by kernel_rfl

def impl_Sched_prio_j0_F : PT := mkF [(0, .ptr), (1, .ptr), (5, .int .i64)] fun K => impl_Sched_prio_j0 (curV [(4, .int .i64)] (K .ret))

theorem impl_Sched_prio_j0_V : Valid Try.prog 84 (sub code57 [true, true, true]) impl_Sched_prio_j0_F :=
  piece mixed (rows_cons (q' := [false, true, false]) (valid_at (p := [true, true, true]) impl_Sched_prio_l1_V rfl) rfl rows_nil) (fun K => by intro p6 p7 n8 h hd; exact (impl_Sched_prio_j0_eq K p6 p7 n8 h) ▸ hd)

theorem impl_Sched_prio_eq (K : Cont) (p1 : Option Addr) (p2 : Option Addr) (h : H) :
  impl_Sched_prio (curV [(4, .int .i64)] (K .ret)) p1 p2 h = evC Try.prog 84 [([true, true, true], impl_Sched_prio_j0_F)] [] code57 [(0, .pointer p1), (1, .pointer p2)] h (outsOf none [] (some [(4, .int .i64)]) K).K := by kernel_rfl

def impl_Sched_prio_F : PT := mkF [(0, .ptr), (1, .ptr)] fun K => impl_Sched_prio (curV [(4, .int .i64)] (K .ret))

theorem impl_Sched_prio_V : Valid Try.prog 84 code57 impl_Sched_prio_F :=
  piece mixed (rows_cons (q' := [true, true, true]) impl_Sched_prio_j0_V rfl rows_nil) (fun K => by intro p1 p2 h hd; exact (impl_Sched_prio_eq K p1 p2 h) ▸ hd)

theorem impl_Sched_prio_c0 (p1 : Option Addr) (p2 : Option Addr) (h : H) (K : Value → H → Prop) :
  impl_Sched_prio (fun n100001 h =>
  K (.int .i64 n100001) h) p1 p2 h = callF Try.prog Try.f57.results.toList impl_Sched_prio_F [.pointer p1, .pointer p2] h K := by kernel_rfl

theorem impl_Sched_prio_call {p1 : Option Addr} {p2 : Option Addr} {h : H} {K : Value → H → Prop} (hs : impl_Sched_prio (fun n100001 h =>
  K (.int .i64 n100001) h) p1 p2 h) : callK Try.prog 57 ⟨[.pointer p1, .pointer p2]⟩ h K :=
  func_calls Try.func57 body57 impl_Sched_prio_V (Nat.le_of_ble_eq_true (by kernel_rfl)) (impl_Sched_prio_c0 p1 p2 h K ▸ hs)

def impl_Sched_prio_M_l2 (kx2 : Option Addr → Option Addr → Int → Option Addr → Nat → Int → Int → H → Prop) : Nat → Option Addr → Option Addr → Int → Option Addr → Nat → Int → Int → Int → Int → Int → H → Prop
 | 0, _, _, _, _, _, _, _, _, _, _, _ => False
 | N + 1, p28, p29, n30, a31, l31, n32, n33, n34, n35, n36, h =>
  ifB (decide ((n35 : Int) < n34))
  (nz p28 fun b39 o40 =>
  ldL h b39 (o40 + 2) fun a41 l41 c41 =>
  req (0 ≤ (n35 : Int) ∧ (n35 : Int) < (l41 : Nat))
  (nz a41 fun b42 o43 =>
  ldI .i64 h b42 ((o43 + n35.toNat * 8) + 2) fun n44 =>
  ifB ((n44 : Int) == 2)
  (ldI .i64 h b42 ((o43 + n35.toNat * 8) + 7) fun n45 =>
  ifB ((n45 : Int) == n36)
  (callD Try.prog 57 ⟨[.pointer p28, .pointer (some ⟨b42, (o43 + n35.toNat * 8), none⟩)]⟩ h fun v46 h =>
  asI .i64 v46 fun n47 =>
  impl_Sched_prio_M_l2 kx2 N p28 p29 (if n47 > n30 then n47 else n30) a31 l31 n32 n33 n34 (IntKind.i64.wrap (n35 + 1)) n36 h)
  (impl_Sched_prio_M_l2 kx2 N p28 p29 n30 a31 l31 n32 n33 n34 (IntKind.i64.wrap (n35 + 1)) n36 h))
  (impl_Sched_prio_M_l2 kx2 N p28 p29 n30 a31 l31 n32 n33 n34 (IntKind.i64.wrap (n35 + 1)) n36 h)))
  (kx2 p28 p29 n30 a31 l31 n32 n33 h)

def impl_Sched_prio_M_l1 (kx0 : Int → H → Prop) : Nat → Option Addr → Option Addr → Int → Option Addr → Nat → Int → Int → H → Prop
 | 0, _, _, _, _, _, _, _, _ => False
 | N + 1, p12, p13, n14, a15, l15, n16, n17, h =>
  ifB (decide ((n17 : Int) < n16))
  (req (0 ≤ (n17 : Int) ∧ (n17 : Int) < (l15 : Nat))
  (nz a15 fun b18 o19 =>
  ldRow h b18 (o19 + n17.toNat * 2) 0 [.int .i64, .int .i64] fun n20 n21 =>
  nz p13 fun b22 o23 =>
  ldI .i64 h b22 o23 fun n24 =>
  ifB ((n21 : Int) != n24)
  (impl_Sched_prio_M_l1 kx0 N p12 p13 n14 a15 l15 n16 (IntKind.i64.wrap (n17 + 1)) h)
  (nz p12 fun b25 o26 =>
  ldL h b25 (o26 + 2) fun a27 l27 c27 =>
  ∃ M34, impl_Sched_prio_M_l2 (fun p28 p29 n30 a31 l31 n32 n33 h =>
  impl_Sched_prio_M_l1 kx0 N p28 p29 n30 a31 l31 n32 (IntKind.i64.wrap (n33 + 1)) h) M34 p12 p13 n14 a15 l15 n16 n17 (l27 : Nat) 0 n20 h)))
  (kx0 n14 h)

def impl_Sched_prio_M_j0 (kr : Int → H → Prop) (p6 : Option Addr) (p7 : Option Addr) (n8 : Int) (h : H) : Prop :=
  nz p6 fun b9 o10 =>
  ldL h b9 (o10 + 3) fun a11 l11 c11 =>
  ∃ M13, impl_Sched_prio_M_l1 (fun n12 h =>
  kr n12 h) M13 p6 p7 n8 a11 l11 (l11 : Nat) 0 h

def impl_Sched_prio_M (kr : Int → H → Prop) (p1 : Option Addr) (p2 : Option Addr) (h : H) : Prop :=
  nz p2 fun b3 o4 =>
  ldI .i64 h b3 (o4 + 1) fun n5 =>
  nz p2 fun b6 o7 =>
  ldI .i64 h b6 (o7 + 2) fun n8 =>
  ifB ((n8 : Int) == 1)
  (nz p1 fun b9 o10 =>
  ldI .i64 h b9 o10 fun n11 =>
  nz p2 fun b12 o13 =>
  ldI .i64 h b12 (o13 + 5) fun n14 =>
  impl_Sched_prio_M_j0 kr p1 p2 (if IntKind.i64.wrap (n5 + (IntKind.i64.wrap ((IntKind.i64.wrap (n11 - n14) : Int).tdiv 16))) < 7 then IntKind.i64.wrap (n5 + (IntKind.i64.wrap ((IntKind.i64.wrap (n11 - n14) : Int).tdiv 16))) else 7) h)
  (impl_Sched_prio_M_j0 kr p1 p2 n5 h)

theorem impl_Sched_prio_M_l2_D {g0 m0 : H} {kx2_1 : Option Addr → Option Addr → Int → Option Addr → Nat → Nat → Int → Int → H → Prop} {kx2_2 : Option Addr → Option Addr → Int → Option Addr → Nat → Int → Int → H → Prop} (Hkx2 : ∀ (p200001 : Option Addr) (p200002 : Option Addr) (n200003 : Int) (a200004 : Option Addr) (l200004 : Nat) (c200004 : Nat) (n200005 : Int) (n200006 : Int) (g m : H), Md g0 m0 g m [] → kx2_2 p200001 p200002 n200003 a200004 l200004 n200005 n200006 m → kx2_1 p200001 p200002 n200003 a200004 l200004 c200004 n200005 n200006 g) : ∀ (N : Nat) (p1028 : Option Addr) (p1029 : Option Addr) (n1030 : Int) (a1031 : Option Addr) (l1031 : Nat) (c1031 : Nat) (n1032 : Int) (n1033 : Int) (n1034 : Int) (n1035 : Int) (n1036 : Int) (n1037 : Int) (p1038 : Nat) (g m : H), Md g0 m0 g m [lo p1038 [.int .i64 n1036, .int .i64 n1037]] → impl_Sched_prio_M_l2 kx2_2 N p1028 p1029 n1030 a1031 l1031 n1032 n1033 n1034 n1035 n1036 m → impl_Sched_prio_l2 kx2_1 N p1028 p1029 n1030 p1038 a1031 l1031 c1031 n1032 n1033 n1034 n1035 g := by
  intro N
  induction N with
  | zero => intro p1028 p1029 n1030 a1031 l1031 c1031 n1032 n1033 n1034 n1035 n1036 n1037 p1038 g m R h0; exact h0.elim
  | succ N ih =>
    intro p1028 p1029 n1030 a1031 l1031 c1031 n1032 n1033 n1034 n1035 n1036 n1037 p1038 g m R
    rw [impl_Sched_prio_M_l2, impl_Sched_prio_l2]
    exact (d_if (d_nz fun b1039 o1040 =>
  (d_ldL R fun a1041 l1041 c1041 =>
  (d_req (d_nz fun b1042 o1043 =>
  (d_ldI R fun n1044 =>
  (d_if (d_ldI R fun n1045 =>
  (p_ldI R rfl (d_if (d_call R fun v1046 g m R =>
  (d_asI fun n1047 =>
  (ih p1028 p1029 (if n1047 > n1030 then n1047 else n1030) a1031 l1031 c1031 n1032 n1033 n1034 (IntKind.i64.wrap (n1035 + 1)) n1036 n1037 p1038 _ _ R.sub)))
  (ih p1028 p1029 n1030 a1031 l1031 c1031 n1032 n1033 n1034 (IntKind.i64.wrap (n1035 + 1)) n1036 n1037 p1038 _ _ R.sub))))
  (ih p1028 p1029 n1030 a1031 l1031 c1031 n1032 n1033 n1034 (IntKind.i64.wrap (n1035 + 1)) n1036 n1037 p1038 _ _ R.sub)))))))
  (Hkx2 p1028 p1029 n1030 a1031 l1031 c1031 n1032 n1033 _ _ R.sub))

theorem impl_Sched_prio_M_l1_D {g0 m0 : H} {kx0_1 : Int → H → Prop} {kx0_2 : Int → H → Prop} (Hkx0 : ∀ (n200001 : Int) (g m : H), Md g0 m0 g m [] → kx0_2 n200001 m → kx0_1 n200001 g) : ∀ (N : Nat) (p1012 : Option Addr) (p1013 : Option Addr) (n1014 : Int) (a1015 : Option Addr) (l1015 : Nat) (c1015 : Nat) (n1016 : Int) (n1017 : Int) (g m : H), Md g0 m0 g m [] → impl_Sched_prio_M_l1 kx0_2 N p1012 p1013 n1014 a1015 l1015 n1016 n1017 m → impl_Sched_prio_l1 kx0_1 N p1012 p1013 n1014 a1015 l1015 c1015 n1016 n1017 g := by
  intro N
  induction N with
  | zero => intro p1012 p1013 n1014 a1015 l1015 c1015 n1016 n1017 g m R h0; exact h0.elim
  | succ N ih =>
    intro p1012 p1013 n1014 a1015 l1015 c1015 n1016 n1017 g m R
    rw [impl_Sched_prio_M_l1, impl_Sched_prio_l1]
    exact (d_if (d_req (d_nz fun b1018 o1019 =>
  (d_row_I2 R fun n1020 n1021 =>
  (p_new R fun p1022 g R =>
  (p_stRow R (cs' := [.int .i64 n1020, .int .i64 n1021]) ⟨rfl, rfl, rfl⟩ fun g R =>
  (p_ldI R rfl (d_nz fun b1023 o1024 =>
  (d_ldI R fun n1025 =>
  (d_if (ih p1012 p1013 n1014 a1015 l1015 c1015 n1016 (IntKind.i64.wrap (n1017 + 1)) _ _ R.sub)
  (d_nz fun b1026 o1027 =>
  (d_ldL R fun a1028 l1028 c1028 =>
  (d_ex fun N => impl_Sched_prio_M_l2_D (by exact fun p1029 p1030 n1031 a1032 l1032 c1032 n1033 n1034 g m R =>
  (ih p1029 p1030 n1031 a1032 l1032 c1032 n1033 (IntKind.i64.wrap (n1034 + 1)) _ _ R.sub)) N p1012 p1013 n1014 a1015 l1015 c1015 n1016 n1017 (l1028 : Nat) 0 n1020 n1021 p1022 _ _ R.sub))))))))))))
  (Hkx0 n1014 _ _ R.sub))

theorem impl_Sched_prio_M_j0_D {g0 m0 : H} {kr_1 : Int → H → Prop} {kr_2 : Int → H → Prop} (Hkr : ∀ (n200001 : Int) (g m : H), Md g0 m0 g m [] → kr_2 n200001 m → kr_1 n200001 g) : ∀ (p1006 : Option Addr) (p1007 : Option Addr) (n1008 : Int) (g m : H), Md g0 m0 g m [] → impl_Sched_prio_M_j0 kr_2 p1006 p1007 n1008 m → impl_Sched_prio_j0 kr_1 p1006 p1007 n1008 g := by
  intro p1006 p1007 n1008 g m R
  rw [impl_Sched_prio_M_j0, impl_Sched_prio_j0]
  exact (d_nz fun b1009 o1010 =>
  (d_ldL R fun a1011 l1011 c1011 =>
  (d_ex fun N => impl_Sched_prio_M_l1_D (by exact fun n1012 g m R =>
  (Hkr n1012 _ _ R.sub)) N p1006 p1007 n1008 a1011 l1011 c1011 (l1011 : Nat) 0 _ _ R.sub)))

theorem impl_Sched_prio_M_D {g0 m0 : H} {kr_1 : Int → H → Prop} {kr_2 : Int → H → Prop} (Hkr : ∀ (n200001 : Int) (g m : H), Md g0 m0 g m [] → kr_2 n200001 m → kr_1 n200001 g) : ∀ (p1001 : Option Addr) (p1002 : Option Addr) (g m : H), Md g0 m0 g m [] → impl_Sched_prio_M kr_2 p1001 p1002 m → impl_Sched_prio kr_1 p1001 p1002 g := by
  intro p1001 p1002 g m R
  rw [impl_Sched_prio_M, impl_Sched_prio]
  exact (d_nz fun b1003 o1004 =>
  (d_ldI R fun n1005 =>
  (d_nz fun b1006 o1007 =>
  (d_ldI R fun n1008 =>
  (d_if (d_nz fun b1009 o1010 =>
  (d_ldI R fun n1011 =>
  (d_nz fun b1012 o1013 =>
  (d_ldI R fun n1014 =>
  (impl_Sched_prio_M_j0_D (by exact fun n1015 g m R =>
  (Hkr n1015 _ _ R.sub)) p1001 p1002 (if IntKind.i64.wrap (n1005 + (IntKind.i64.wrap ((IntKind.i64.wrap (n1011 - n1014) : Int).tdiv 16))) < 7 then IntKind.i64.wrap (n1005 + (IntKind.i64.wrap ((IntKind.i64.wrap (n1011 - n1014) : Int).tdiv 16))) else 7) _ _ R.sub)))))
  (impl_Sched_prio_M_j0_D (by exact fun n1016 g m R =>
  (Hkr n1016 _ _ R.sub)) p1001 p1002 n1005 _ _ R.sub))))))

theorem impl_Sched_prio_M_call {p1 : Option Addr} {p2 : Option Addr} {h : H} {K : Value → H → Prop} (hs : impl_Sched_prio_M (fun n300001 h =>
  K (.int .i64 n300001) h) p1 p2 h) : callD Try.prog 57 ⟨[.pointer p1, .pointer p2]⟩ h K :=
  fun g r => impl_Sched_prio_call (impl_Sched_prio_M_D (by exact fun n300001 g m R =>
(fun h => ⟨m, R.af, h⟩)) _ _ _ _ (Md.start r) hs)

noncomputable def code58 : Code := codeOf Try.f58
theorem body58 : Try.f58.body = some code58 := by kernel_rfl
def spec_l11Own_j0 (kr : Int → H → Prop) (p_16 : Int) (h : H) : Prop :=
  ifB (decide ((p_16 : Int) > 7))
  (kr 7 h)
  (kr p_16 h)

def spec_l11Own (kr : Int → H → Prop) (s_1 : Int) (s_2 : Int) (s_3 : Option Addr) (s_l3 : Nat) (s_c3 : Nat) (s_4 : Option Addr) (s_l4 : Nat) (s_c4 : Nat) (t_5 : Int) (t_6 : Int) (t_7 : Int) (t_8 : Int) (t_9 : Int) (t_10 : Int) (t_11 : Int) (t_12 : Int) (h : H) : Prop :=
  new h [.int .i64 s_1, .int .i64 s_2, .slice s_3 s_l3 s_c3, .slice s_4 s_l4 s_c4] 32 fun b13 h =>
  new h [.int .i64 t_5, .int .i64 t_6, .int .i64 t_7, .int .i64 t_8, .int .i64 t_9, .int .i64 t_10, .int .i64 t_11, .int .i64 t_12] 60 fun b14 h =>
  ldI .i64 h b14 1 fun n15 =>
  ldI .i64 h b14 2 fun n16 =>
  ifB ((n16 : Int) == 1)
  (ldI .i64 h b13 0 fun n17 =>
  ldI .i64 h b14 5 fun n18 =>
  spec_l11Own_j0 kr (IntKind.i64.wrap (n15 + (IntKind.i64.wrap ((IntKind.i64.wrap (n17 - n18) : Int).tdiv 16)))) h)
  (spec_l11Own_j0 kr n15 h)

theorem spec_l11Own_j0_eq (K : Cont) (p_16 : Int) (h : H) :
  spec_l11Own_j0 (curV [(4, .int .i64)] (K .ret)) p_16 h = evC Try.prog 22 [] [] (sub code58 [true, true, true]) [(5, .int .i64 p_16)] h (outsOf none [] (some [(4, .int .i64)]) K).K := by kernel_rfl

def spec_l11Own_j0_F : PT := mkF [(5, .int .i64)] fun K => spec_l11Own_j0 (curV [(4, .int .i64)] (K .ret))

theorem spec_l11Own_j0_V : Valid Try.prog 22 (sub code58 [true, true, true]) spec_l11Own_j0_F :=
  piece mixed rows_nil (fun K => by intro p_16 h hd; exact (spec_l11Own_j0_eq K p_16 h) ▸ hd)

theorem spec_l11Own_eq (K : Cont) (s_1 : Int) (s_2 : Int) (s_3 : Option Addr) (s_l3 : Nat) (s_c3 : Nat) (s_4 : Option Addr) (s_l4 : Nat) (s_c4 : Nat) (t_5 : Int) (t_6 : Int) (t_7 : Int) (t_8 : Int) (t_9 : Int) (t_10 : Int) (t_11 : Int) (t_12 : Int) (h : H) :
  spec_l11Own (curV [(4, .int .i64)] (K .ret)) s_1 s_2 s_3 s_l3 s_c3 s_4 s_l4 s_c4 t_5 t_6 t_7 t_8 t_9 t_10 t_11 t_12 h = evC Try.prog 22 [([true, true, true], spec_l11Own_j0_F)] [] code58 [(0, .agg ⟨[.int .i64 s_1, .int .i64 s_2, .slice s_3 s_l3 s_c3, .slice s_4 s_l4 s_c4]⟩), (1, .agg ⟨[.int .i64 t_5, .int .i64 t_6, .int .i64 t_7, .int .i64 t_8, .int .i64 t_9, .int .i64 t_10, .int .i64 t_11, .int .i64 t_12]⟩)] h (outsOf none [] (some [(4, .int .i64)]) K).K := by kernel_rfl

def spec_l11Own_F : PT := mkF [(0, .agg [.int .i64, .int .i64, .slice, .slice]), (1, .agg [.int .i64, .int .i64, .int .i64, .int .i64, .int .i64, .int .i64, .int .i64, .int .i64])] fun K => spec_l11Own (curV [(4, .int .i64)] (K .ret))

theorem spec_l11Own_V : Valid Try.prog 22 code58 spec_l11Own_F :=
  piece mixed (rows_cons (q' := [true, true, true]) spec_l11Own_j0_V rfl rows_nil) (fun K => by intro s_1 s_2 s_3 s_l3 s_c3 s_4 s_l4 s_c4 t_5 t_6 t_7 t_8 t_9 t_10 t_11 t_12 h hd; exact (spec_l11Own_eq K s_1 s_2 s_3 s_l3 s_c3 s_4 s_l4 s_c4 t_5 t_6 t_7 t_8 t_9 t_10 t_11 t_12 h) ▸ hd)

theorem spec_l11Own_c0 (s_1 : Int) (s_2 : Int) (s_3 : Option Addr) (s_l3 : Nat) (s_c3 : Nat) (s_4 : Option Addr) (s_l4 : Nat) (s_c4 : Nat) (t_5 : Int) (t_6 : Int) (t_7 : Int) (t_8 : Int) (t_9 : Int) (t_10 : Int) (t_11 : Int) (t_12 : Int) (h : H) (K : Value → H → Prop) :
  spec_l11Own (fun n100001 h =>
  K (.int .i64 n100001) h) s_1 s_2 s_3 s_l3 s_c3 s_4 s_l4 s_c4 t_5 t_6 t_7 t_8 t_9 t_10 t_11 t_12 h = callF Try.prog Try.f58.results.toList spec_l11Own_F [.agg ⟨[.int .i64 s_1, .int .i64 s_2, .slice s_3 s_l3 s_c3, .slice s_4 s_l4 s_c4]⟩, .agg ⟨[.int .i64 t_5, .int .i64 t_6, .int .i64 t_7, .int .i64 t_8, .int .i64 t_9, .int .i64 t_10, .int .i64 t_11, .int .i64 t_12]⟩] h K := by kernel_rfl

theorem spec_l11Own_call {s_1 : Int} {s_2 : Int} {s_3 : Option Addr} {s_l3 : Nat} {s_c3 : Nat} {s_4 : Option Addr} {s_l4 : Nat} {s_c4 : Nat} {t_5 : Int} {t_6 : Int} {t_7 : Int} {t_8 : Int} {t_9 : Int} {t_10 : Int} {t_11 : Int} {t_12 : Int} {h : H} {K : Value → H → Prop} (hs : spec_l11Own (fun n100001 h =>
  K (.int .i64 n100001) h) s_1 s_2 s_3 s_l3 s_c3 s_4 s_l4 s_c4 t_5 t_6 t_7 t_8 t_9 t_10 t_11 t_12 h) : callK Try.prog 58 ⟨[.agg ⟨[.int .i64 s_1, .int .i64 s_2, .slice s_3 s_l3 s_c3, .slice s_4 s_l4 s_c4]⟩, .agg ⟨[.int .i64 t_5, .int .i64 t_6, .int .i64 t_7, .int .i64 t_8, .int .i64 t_9, .int .i64 t_10, .int .i64 t_11, .int .i64 t_12]⟩]⟩ h K :=
  func_calls Try.func58 body58 spec_l11Own_V (Nat.le_of_ble_eq_true (by kernel_rfl)) (spec_l11Own_c0 s_1 s_2 s_3 s_l3 s_c3 s_4 s_l4 s_c4 t_5 t_6 t_7 t_8 t_9 t_10 t_11 t_12 h K ▸ hs)

def spec_l11Own_M_j0 (kr : Int → H → Prop) (p_13 : Int) (h : H) : Prop :=
  ifB (decide ((p_13 : Int) > 7))
  (kr 7 h)
  (kr p_13 h)

def spec_l11Own_M (kr : Int → H → Prop) (s_1 : Int) (s_2 : Int) (s_3 : Option Addr) (s_l3 : Nat) (s_c3 : Nat) (s_4 : Option Addr) (s_l4 : Nat) (s_c4 : Nat) (t_5 : Int) (t_6 : Int) (t_7 : Int) (t_8 : Int) (t_9 : Int) (t_10 : Int) (t_11 : Int) (t_12 : Int) (h : H) : Prop :=
  ifB ((t_7 : Int) == 1)
  (spec_l11Own_M_j0 kr (IntKind.i64.wrap (t_6 + (IntKind.i64.wrap ((IntKind.i64.wrap (s_1 - t_10) : Int).tdiv 16)))) h)
  (spec_l11Own_M_j0 kr t_6 h)

theorem spec_l11Own_M_j0_D {g0 m0 : H} {kr_1 : Int → H → Prop} {kr_2 : Int → H → Prop} (Hkr : ∀ (n200001 : Int) (g m : H), Md g0 m0 g m [] → kr_2 n200001 m → kr_1 n200001 g) : ∀ (p_1013 : Int) (g m : H), Md g0 m0 g m [] → spec_l11Own_M_j0 kr_2 p_1013 m → spec_l11Own_j0 kr_1 p_1013 g := by
  intro p_1013 g m R
  rw [spec_l11Own_M_j0, spec_l11Own_j0]
  exact (d_if (Hkr 7 _ _ R.sub)
  (Hkr p_1013 _ _ R.sub))

theorem spec_l11Own_M_D {g0 m0 : H} {kr_1 : Int → H → Prop} {kr_2 : Int → H → Prop} (Hkr : ∀ (n200001 : Int) (g m : H), Md g0 m0 g m [] → kr_2 n200001 m → kr_1 n200001 g) : ∀ (s_1001 : Int) (s_1002 : Int) (s_1003 : Option Addr) (s_l1003 : Nat) (s_c1003 : Nat) (s_1004 : Option Addr) (s_l1004 : Nat) (s_c1004 : Nat) (t_1005 : Int) (t_1006 : Int) (t_1007 : Int) (t_1008 : Int) (t_1009 : Int) (t_1010 : Int) (t_1011 : Int) (t_1012 : Int) (g m : H), Md g0 m0 g m [] → spec_l11Own_M kr_2 s_1001 s_1002 s_1003 s_l1003 s_c1003 s_1004 s_l1004 s_c1004 t_1005 t_1006 t_1007 t_1008 t_1009 t_1010 t_1011 t_1012 m → spec_l11Own kr_1 s_1001 s_1002 s_1003 s_l1003 s_c1003 s_1004 s_l1004 s_c1004 t_1005 t_1006 t_1007 t_1008 t_1009 t_1010 t_1011 t_1012 g := by
  intro s_1001 s_1002 s_1003 s_l1003 s_c1003 s_1004 s_l1004 s_c1004 t_1005 t_1006 t_1007 t_1008 t_1009 t_1010 t_1011 t_1012 g m R
  rw [spec_l11Own_M, spec_l11Own]
  exact (p_new R fun p1013 g R =>
  (p_new R fun p1014 g R =>
  (p_ldI R rfl (p_ldI R rfl (d_if (p_ldI R rfl (p_ldI R rfl (spec_l11Own_M_j0_D (by exact fun n1015 g m R =>
  (Hkr n1015 _ _ R.sub)) (IntKind.i64.wrap (t_1006 + (IntKind.i64.wrap ((IntKind.i64.wrap (s_1001 - t_1010) : Int).tdiv 16)))) _ _ R.sub)))
  (spec_l11Own_M_j0_D (by exact fun n1016 g m R =>
  (Hkr n1016 _ _ R.sub)) t_1006 _ _ R.sub))))))

theorem spec_l11Own_M_call {s_1 : Int} {s_2 : Int} {s_3 : Option Addr} {s_l3 : Nat} {s_c3 : Nat} {s_4 : Option Addr} {s_l4 : Nat} {s_c4 : Nat} {t_5 : Int} {t_6 : Int} {t_7 : Int} {t_8 : Int} {t_9 : Int} {t_10 : Int} {t_11 : Int} {t_12 : Int} {h : H} {K : Value → H → Prop} (hs : spec_l11Own_M (fun n300001 h =>
  K (.int .i64 n300001) h) s_1 s_2 s_3 s_l3 s_c3 s_4 s_l4 s_c4 t_5 t_6 t_7 t_8 t_9 t_10 t_11 t_12 h) : callD Try.prog 58 ⟨[.agg ⟨[.int .i64 s_1, .int .i64 s_2, .slice s_3 s_l3 s_c3, .slice s_4 s_l4 s_c4]⟩, .agg ⟨[.int .i64 t_5, .int .i64 t_6, .int .i64 t_7, .int .i64 t_8, .int .i64 t_9, .int .i64 t_10, .int .i64 t_11, .int .i64 t_12]⟩]⟩ h K :=
  fun g r => spec_l11Own_call (spec_l11Own_M_D (by exact fun n300001 g m R =>
(fun h => ⟨m, R.af, h⟩)) _ _ _ _ _ _ _ _ _ _ _ _ _ _ _ _ _ _ (Md.start r) hs)

end Go.Proofs.Yteeinamngmmlbaa
