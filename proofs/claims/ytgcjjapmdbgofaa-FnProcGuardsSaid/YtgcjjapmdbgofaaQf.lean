import Derived.Test.YtgcjjapmdbgofaaQe
set_option linter.unusedVariables false
namespace Go.Proofs.Ytgcjjapmdbgofaa
open Go.Eng
variable {h h0 h' : H} {b o c n i j p : Nat} {a : Option Addr} {xs : List P} {x : P} {K : Value → H → Prop} {s k : Int}

def orphan (id : Int) (x : P) : P := if x.parent = id then { x with parent := 1 } else x
def deadF (xs : List P) (id : Int) (i : Nat) : Bool := (xs.take i).any fun x => x.parent == id && x.state == 3
theorem dead_succ {id : Int} (hx : xs[i]? = some x) : deadF xs id (i + 1) = (deadF xs id i || (x.parent == id && x.state == 3)) := by
  rw [deadF, List.take_add_one, hx]; simp [deadF]
def endMid (xs : List P) (id : Int) : List P := if deadF xs id xs.length then sendAt (xs.map (orphan id)) 0 14 else xs.map (orphan id)
theorem endMid_len {id : Int} : (endMid xs id).length = xs.length := by
  unfold endMid; split <;> simp [sendAt_len]
theorem endS_loop {kx : Int → Int → Bool → Option Addr → Nat → Nat → H → Prop} {id st : Int} (hl : n = xs.length) (hb : n ≤ 140737488355328)
    (k : ∀ h, OutP h0 a (xs.map (orphan id)) h a n c → kx id st (deadF xs id xs.length) a n c h) :
    ∀ (m i : Nat) h, i + m = n → OutP h0 a (mix (orphan id) xs i) h a n c → spec_l16End_M_l0 kx (m + 1) id st (deadF xs id i) i a n c h := by
  intro m
  induction m with
  | zero =>
    intro i h e out
    rw [spec_l16End_M_l0]
    have : i = xs.length := by omega
    subst this
    rw [mix_all] at out
    exact ifD_f (by omega) (k h out)
  | succ m ih =>
    intro i h e out
    obtain ⟨x, hx⟩ : ∃ x, xs[i]? = some x := ⟨_, List.getElem?_eq_getElem (by omega)⟩
    have hx' : (mix (orphan id) xs i)[i]? = some x := by rw [mix_get, if_neg (by omega), hx]
    rw [spec_l16End_M_l0]
    have ed := dead_succ (id := id) hx
    refine ifD_t (by omega) (out.sl.gI hx' (ifB_eqI (fun f => ?_) fun f => ?_))
    · refine out.sl.gSt hx' { x with parent := 1 } encP_len (fun h1 k1 _ s1 => ?_) rfl (by decide) rfl
      have eo : orphan id x = { x with parent := 1 } := by rw [orphan, if_pos f]
      rw [← eo, ← mix_succ hx] at s1
      have out1 := out.trans (.set k1 s1)
      have hx1 : (mix (orphan id) xs (i + 1))[i]? = some { x with parent := 1 } := by rw [mix_get, if_pos (by omega), hx, ← eo]; rfl
      have hi1 := ih (i + 1) h1 (by omega) out1
      rw [show (x.parent == id) = true by simp [f], Bool.true_and] at ed
      rw [wrap_suc (by omega)]
      cases g : deadF xs id i with
      | true => rw [g, Bool.true_or] at ed; rw [ed] at hi1; exact hi1
      | false =>
        rw [g, Bool.false_or] at ed; rw [ed] at hi1
        exact s1.gI hx1 hi1
    · have eo : orphan id x = x := by rw [orphan, if_neg f]
      have em : mix (orphan id) xs (i + 1) = mix (orphan id) xs i := by rw [mix_succ hx, eo, set_same hx']
      rw [show (x.parent == id) = false by simp [f], Bool.false_and, Bool.or_false] at ed
      have := ih (i + 1) h (by omega) (by rw [em]; exact out)
      rw [ed] at this
      rw [wrap_suc (by omega)]; exact this
def zombie (x : P) (st : Int) : P := { x with state := 3, status := st, pending := 0, mask := 0, ignored := 0, caught := 0 }
def endF (xs : List P) (id st : Int) : List P :=
  let ys := endMid xs id
  match ys[(posP ys id).toNat]? with
  | none => ys
  | some x => match ys[(posP ys x.parent).toNat]? with
    | none => ys
    | some y => if hasI y.ignored 14 then ys.eraseIdx (posP ys id).toNat else sendAt (ys.set (posP ys id).toNat (zombie x st)) (posP ys x.parent).toNat 14
/-- there is the one that ends, and its parent -/
def EndOk (xs : List P) (id : Int) : Prop := 1 ≤ xs.length ∧ ∃ i x u y, At1 (endMid xs id) id i x ∧ At1 (endMid xs id) x.parent u y
theorem end_spec {id st : Int} (hs : SlP h a n c xs) (hn : n ≤ 1048576) (ok : EndOk xs id)
    (k : ∀ h' a' n' c', OutP h a (endF xs id st) h' a' n' c' → K (.agg ⟨[.slice a' n' c']⟩) h') :
    callD Try.prog 49 ⟨[.agg ⟨[.slice a n c]⟩, .int .i64 id, .int .i64 st]⟩ h K := by
  have hl := hs.le
  obtain ⟨l1, i, x, u, y, ti, tu⟩ := ok
  have eF : endF xs id st = if hasI y.ignored 14 then (endMid xs id).eraseIdx i else sendAt ((endMid xs id).set i (zombie x st)) u 14 := by
    simp only [endF, ti.pos, tu.pos, Int.toNat_natCast, ti.1, tu.1]
  refine spec_l16End_M_call ?_
  rw [spec_l16End_M]
  have j1 (h3 : H) (out : OutP h a (endMid xs id) h3 a n c) : spec_l16End_M_j1 (fun a l c h => K (.agg ⟨[.slice a l c]⟩) h) id st a n c h3 := by
    rw [spec_l16End_M_j1]
    refine find_spec out.sl (asI_of ?_)
    rw [ti.pos]
    refine SlP.gRow out.sl ti.1 (find_spec out.sl (asI_of ?_))
    rw [tu.pos]
    refine out.sl.gI tu.1 (has_spec (by omega) (by omega) (ifB_b (fun g => ?_) fun g => ?_))
    · rw [g, if_pos rfl] at eF
      refine cut_spec out.sl (get_lt ti.1) hn fun h7 a7 c7 k7 w7 s7 => o_el_ALE ?_
      exact k h7 a7 (n - 1) c7 (by rw [eF]; exact out.trans (.new k7 w7 s7))
    · rw [g] at eF
      have eF : endF xs id st = sendAt ((endMid xs id).set i (zombie x st)) u 14 := eF
      refine out.sl.req ti.1 rfl (out.sl.StR (get_lt ti.1) (zombie x st) encP_len (encP_one _) (fun h7 k7 _ s7 => ?_) rfl rfl)
      obtain ⟨y', hy'⟩ : ∃ y', ((endMid xs id).set i (zombie x st))[u]? = some y' := ⟨_, List.getElem?_eq_getElem (by simpa using get_lt tu.1)⟩
      refine send_spec (by omega) (by omega) s7 hy' fun h8 o8 => o_el_TE (k h8 a n c ?_)
      rw [eF, sendAt, hy']
      exact out.trans ((OutP.set k7 s7).trans o8)
  refine ⟨n + 1, endS_loop hl.1 hl.2.2 (fun h3 out => ifB_b (fun g => ?_) fun g => j1 h3 (by rw [endMid, g]; exact out)) n 0 h (by omega) (by rw [mix_zero]; exact .refl hs)⟩
  obtain ⟨y', hy'⟩ : ∃ y', (xs.map (orphan id))[0]? = some y' := ⟨_, List.getElem?_eq_getElem (by simp; omega)⟩
  refine send_spec (i := 0) (by omega) (by omega) out.sl hy' fun h8 o8 => o_el_TE (j1 h8 ?_)
  rw [endMid, g, if_pos rfl, sendAt, hy']
  exact out.trans o8
/-- the least id that is free, from i on -/
def freeId (xs : List P) : Nat → Int → Int
  | 0, i => i
  | m + 1, i => if i ≤ 32 ∧ (getP xs i).isSome then freeId xs m (i + 1) else i
def child (x : P) (id : Int) : P := { x with parent := x.id, id := id, state := 1, pending := 0 }
theorem fork_loop {kx : Int → Int → Option Addr → Nat → Nat → H → Prop} {ix : Int} (hs : SlP h a n c xs) (k : kx ix (freeId xs 33 1) a n c h) :
    ∀ (m : Nat) (i : Int), i + m = 34 → 1 ≤ i → freeId xs m i = freeId xs 33 1 → spec_l16Fork_M_l0 kx (m + 1) ix i a n c h := by
  intro m
  induction m with
  | zero =>
    intro i e i1 ef
    rw [spec_l16Fork_M_l0]
    rw [freeId] at ef
    exact ifD_f (by omega) (by rw [ef]; exact k)
  | succ m ih =>
    intro i e i1 ef
    rw [spec_l16Fork_M_l0]
    refine ifB_dec (fun f => find_spec hs (asI_of ?_)) fun f => ?_
    · rcases at_cases xs i with g | ⟨j, y, t⟩
      · rw [posP_none g]
        rw [freeId, getP_none.mpr g, if_neg (by simp)] at ef
        exact ifD_f (by omega) (by rw [ef]; exact k)
      · rw [t.pos]
        rw [freeId, t.get, if_pos ⟨f, rfl⟩] at ef
        refine ifD_t (by omega) ?_
        rw [wrap64 (by omega) (by omega)]
        exact ih (i + 1) (by omega) (by omega) ef
    · rw [freeId, if_neg (by intro t; exact f t.1)] at ef
      rw [ef]; exact k
def forkF (xs : List P) (x : P) (id : Int) : List P := xs.take (id.toNat - 1) ++ [child x id] ++ xs.drop (id.toNat - 1)
theorem fork_spec (hs : SlP h a n c xs) (hx : xs[i]? = some x) (hn : n ≤ 1048576) (f1 : 1 ≤ freeId xs 33 1) (fl : freeId xs 33 1 ≤ 32 → freeId xs 33 1 ≤ n + 1)
    (k1 : 32 < freeId xs 33 1 → K (.tuple ⟨[.agg ⟨[.slice a n c]⟩, .agg ⟨[.int .i64 18, .int .i64 0, .int .i64 0]⟩]⟩) h)
    (k2 : ∀ h' a' c', freeId xs 33 1 ≤ 32 → OutP h a (forkF xs x (freeId xs 33 1)) h' a' (n + 1) c' →
      K (.tuple ⟨[.agg ⟨[.slice a' (n + 1) c']⟩, .agg ⟨[.int .i64 0, .int .i64 (freeId xs 33 1), .int .i64 0]⟩]⟩) h') :
    callD Try.prog 37 ⟨[.agg ⟨[.slice a n c]⟩, .int .i64 i]⟩ h K := by
  have hl := hs.le
  refine spec_l16Fork_M_call ?_
  rw [spec_l16Fork_M]
  refine ⟨34, fork_loop hs ?_ 33 1 (by omega) (by omega) rfl⟩
  generalize freeId xs 33 1 = id at *
  refine ifB_dec (fun f => k1 (by omega)) fun f => ?_
  have fl := fl (by omega)
  refine SlP.gRow hs hx ?_
  have ei : IntKind.i64.wrap (id - 1) = ((id.toNat - 1 : Nat) : Int) := by rw [wrap64 (by omega) (by omega)]; omega
  refine newP fun v h1 le k1' s1 => ?_
  rw [ei, req_eq (by omega), req_eq hs.plain]
  simp only [Int.toNat_natCast]
  have z1 := k1'.le
  refine appendP s1 ((hs.keep0 k1').part (l := 0) (m := id.toNat - 1) (by omega) (by omega)) (by omega) fun a2 c2 h2 k2' w2 s2 => ?_
  have k02 : Keep [] h h2 := k1'.trans k2' (by intro d dl t; simp [own] at t; omega)
  have f2 : ∀ d ∈ own a2, h.size ≤ d := fun d hd => by
    rcases w2 d hd with t | t
    · simp [own] at t; omega
    · omega
  have z2 := k02.le
  refine oneP (x := child x id) rfl fun u h3 le3 k3 s3 => ?_
  have z3 := k3.le
  refine appendP (s2.keep0 k3) s3 (by omega) fun a4 c4 h4 k4 w4 s4 => ?_
  have k04 : Keep [] h h4 := (k02.trans k3 (U := []) (by simp)).trans k4 (by intro d dl t; simp only [List.not_mem_nil, false_or] at t; have := f2 d t; omega)
  have f4 : ∀ d ∈ own a4, h.size ≤ d := fun d hd => by
    rcases w4 d hd with t | t
    · exact f2 d t
    · omega
  have z4 := k04.le
  rw [req_eq (by omega), req_eq hs.plain]
  refine appendP s4 ((hs.keep0 k04).part (l := id.toNat - 1) (m := n) (by omega) (by omega)) (by omega) fun a5 c5 h5 k5 w5 s5 => ?_
  have ex : [] ++ List.take (id.toNat - 1 - 0) (List.drop 0 xs) ++ [child x id] ++ List.take (n - (id.toNat - 1)) (List.drop (id.toNat - 1) xs) = forkF xs x id := by
    rw [forkF, List.nil_append, List.drop_zero, Nat.sub_zero, part_self hl.1]
  rw [ex] at s5
  have es : 0 + (id.toNat - 1 - 0) + 1 + (n - (id.toNat - 1)) = n + 1 := by omega
  rw [es] at s5 ⊢
  refine k2 h5 a5 c5 (by omega) (.new (k04.trans k5 (by intro d dl t; simp only [List.not_mem_nil, false_or] at t; have := f4 d t; omega)) (fun d hd => ?_) s5)
  rcases w5 d hd with t | t
  · exact f4 d t
  · omega
end Go.Proofs.Ytgcjjapmdbgofaa
