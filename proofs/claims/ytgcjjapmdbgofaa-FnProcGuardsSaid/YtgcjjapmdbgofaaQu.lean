import Derived.Test.YtgcjjapmdbgofaaQt
set_option linter.unusedVariables false
namespace Go.Proofs.Ytgcjjapmdbgofaa
open Go.Eng
variable {b o c n i j p : Nat} {xs ys : List P} {x y : P} {id kind g to sig : Int}
theorem free_at' (s : Srt xs) (l32 : xs.length ≤ 32) : ∃ d, d ≤ xs.length ∧ freeId xs 33 1 = (d : Int) + 1 ∧ (∀ (j : Nat) (y : P), j < d → xs[j]? = some y → y.id = (j : Int) + 1) ∧ ∀ y, xs[d]? = some y → y.id ≠ (d : Int) + 1 := by
  have key : ∀ (t d : Nat), d + t = xs.length → (∀ (j : Nat) (y : P), j < d → xs[j]? = some y → y.id = (j : Int) + 1) →
      ∃ d, d ≤ xs.length ∧ (∀ (j : Nat) (y : P), j < d → xs[j]? = some y → y.id = (j : Int) + 1) ∧ ∀ y, xs[d]? = some y → y.id ≠ (d : Int) + 1 := by
    intro t
    induction t with
    | zero =>
      intro d e eq
      exact ⟨d, by omega, eq, fun y hy => by have := get_lt hy; omega⟩
    | succ t ih =>
      intro d e eq
      obtain ⟨y, hy⟩ : ∃ y, xs[d]? = some y := ⟨_, List.getElem?_eq_getElem (by omega)⟩
      by_cases ey : y.id = (d : Int) + 1
      · refine ih (d + 1) (by omega) fun j z hj hz => ?_
        by_cases q : j = d
        · subst q; rw [hy] at hz; injection hz with hz; subst hz; exact ey
        · exact eq j z (by omega) hz
      · exact ⟨d, by omega, eq, fun z hz => by rw [hy] at hz; injection hz with hz; subst hz; exact ey⟩
  obtain ⟨d, dl, eq, st⟩ := key xs.length 0 (by omega) (by intros; omega)
  exact ⟨d, dl, free_at s l32 d dl eq st, eq, st⟩
theorem ins_get {d : Nat} (dl : d ≤ xs.length) {z : P} : (xs.take d ++ [z] ++ xs.drop d)[j]? = if j < d then xs[j]? else if j = d then some z else xs[j - 1]? := by
  by_cases q : j < d
  · rw [if_pos q, List.append_assoc, List.getElem?_append_left (by simp; omega), List.getElem?_take, if_pos q]
  · rw [if_neg q]
    by_cases e : j = d
    · subst e
      rw [if_pos rfl, List.append_assoc, List.getElem?_append_right (by simp; omega)]
      simp [Nat.min_eq_left dl]
    · rw [if_neg e, List.getElem?_append_right (by simp; omega), List.getElem?_drop]
      congr 1; simp; omega
theorem Inv.fork (v : Inv xs) (hx : xs[i]? = some x) (sx : x.state ≠ 3) (f : freeId xs 33 1 ≤ 32) : Inv (forkF xs x (freeId xs 33 1)) := by
  obtain ⟨d, dl, ef, eq, stop⟩ := free_at' v.srt v.l32
  have l1 := v.l1
  have hd : (freeId xs 33 1).toNat - 1 = d := by omega
  obtain ⟨x0, hx0⟩ : ∃ x0, xs[0]? = some x0 := ⟨_, List.getElem?_eq_getElem (by omega)⟩
  have r1 := v.srt.root x0 hx0
  have d0 : d ≠ 0 := fun e => by subst e; exact stop x0 hx0 (by rw [r1]; rfl)
  have ge : ∀ (j : Nat) (y : P), xs[j]? = some y → d ≤ j → (d : Int) + 1 < y.id := fun j y hy l => by
    have := v.srt.ge j y hy
    by_cases q : j = d
    · subst q; have := stop y hy; omega
    · omega
  have ne : ∀ y ∈ xs, y.id ≠ (d : Int) + 1 := fun y my e => by
    obtain ⟨j, hj⟩ := List.mem_iff_getElem?.mp my
    by_cases q : j < d
    · have := eq j y q hj; omega
    · have := ge j y hj (by omega); omega
  unfold forkF
  rw [hd, ef]
  have mem : ∀ y, y ∈ xs → y ∈ xs.take d ++ [child x ((d : Int) + 1)] ++ xs.drop d := fun y my => by
    rw [← List.take_append_drop d xs] at my
    rcases List.mem_append.mp my with t | t <;> simp [t]
  refine ⟨by simp; omega, ⟨fun y hy => ?_, fun j y z hy hz => ?_, fun j y hy => ?_⟩, fun y hy => ?_, fun y my n1 => ?_⟩
  · rw [ins_get dl, if_pos (by omega)] at hy; exact v.srt.root y hy
  · rw [ins_get dl] at hy hz
    by_cases q : j + 1 < d
    · rw [if_pos (by omega)] at hy; rw [if_pos q] at hz; exact v.srt.inc j y z hy hz
    · rw [if_neg q] at hz
      by_cases q1 : j + 1 = d
      · rw [if_pos q1] at hz; injection hz with hz; subst hz
        rw [if_pos (by omega)] at hy
        have := eq j y (by omega) hy
        show y.id < (d : Int) + 1; omega
      · rw [if_neg q1] at hz
        simp only [Nat.add_sub_cancel] at hz
        rw [if_neg (by omega)] at hy
        have := ge j z hz (by omega)
        by_cases q2 : j = d
        · rw [if_pos q2] at hy; injection hy with hy; subst hy
          show (d : Int) + 1 < z.id; omega
        · rw [if_neg q2] at hy
          exact v.srt.inc (j - 1) y z hy (by rw [show j - 1 + 1 = j by omega]; exact hz)
  · rw [ins_get dl] at hy
    split at hy
    · exact v.srt.hi _ y hy
    · split at hy
      · injection hy with hy; subst hy; show (d : Int) + 1 ≤ 32; omega
      · exact v.srt.hi _ y hy
  · rw [ins_get dl, if_pos (by omega)] at hy; exact v.r0 y hy
  · simp only [List.append_assoc, List.mem_append, List.mem_singleton] at my
    have old (my : y ∈ xs) : y.parent ≠ y.id ∧ ∃ z ∈ xs.take d ++ [child x ((d : Int) + 1)] ++ xs.drop d, z.id = y.parent ∧ z.state ≠ 3 := by
      obtain ⟨nn, u, mu, eu, su⟩ := v.par y my n1
      exact ⟨nn, u, mem u mu, eu, su⟩
    rcases my with t | t | t
    · exact old (List.mem_of_mem_take t)
    · subst t
      exact ⟨ne x (List.mem_of_getElem? hx), x, mem x (List.mem_of_getElem? hx), rfl, sx⟩
    · exact old (List.mem_of_mem_drop t)
theorem Inv.step (v : Inv xs) : Inv (stepP xs kind id to g).1 := by
  rw [stepP]
  split
  · exact v
  rcases at_cases xs id with f | ⟨i, x, t⟩
  · rw [getP_none.mpr f]; exact v
  rw [t.get, t.pos, Int.toNat_natCast]
  dsimp only
  have ok := v.ok
  split
  · exact v
  rename_i ns
  unfold stepAt
  split
  · unfold forkS; split
    · exact v
    · exact v.fork t.1 ns (by omega)
  split
  · unfold exitS; split
    · exact v
    split
    · exact v
    · rename_i d1
      have := ok.ex i x t.1 ns; rw [t.2.1] at this
      exact v.end d1 (this d1)
  split
  · unfold waitS; split
    · rename_i k hk
      rw [List.findIdx?_eq_some_iff_getElem] at hk
      obtain ⟨hl, hw, _⟩ := hk
      have hz : xs[k]? = some xs[k] := List.getElem?_eq_getElem _
      generalize xs[k] = z at hz hw
      have zs : z.state = 3 := by simp at hw; exact hw.2
      refine v.erase hz (fun e => ?_) fun y my n1 e => ?_
      · obtain ⟨x0, hx0⟩ : ∃ x0, xs[0]? = some x0 := ⟨_, List.getElem?_eq_getElem (by omega)⟩
        have := v.srt.uni k 0 z x0 hz hx0 (by rw [e, v.srt.root x0 hx0])
        subst this
        exact v.r0 z hz zs
      · obtain ⟨_, u, mu, eu, su⟩ := v.par y my n1
        obtain ⟨j, hj⟩ := List.mem_iff_getElem?.mp mu
        have := v.srt.uni k j z u hz hj (by rw [eu, e])
        subst this
        rw [hz] at hj; injection hj with hj; subst hj; exact su zs
    · exact v
  split
  · unfold killS
    repeat' split
    · exact v
    all_goals exact v.sim killF_sim
  split
  · unfold maskS; split
    · exact v.sim (.set t.1 ⟨rfl, rfl, fun h => h⟩)
    · exact v
  split
  · unfold actS; split
    · exact v
    · exact v.sim (.set t.1 actX_sim)
  split
  · unfold takeS
    split
    · exact v
    rename_i nz
    split
    · exact v.sim (.set t.1 ⟨rfl, rfl, fun h => h⟩)
    split
    · exact v.sim (.set t.1 ⟨rfl, rfl, fun _ => by show (2 : Int) ≠ 3; omega⟩)
    split
    · exact v.sim (.set t.1 ⟨rfl, rfl, fun h => h⟩)
    · rename_i n
      have d1 : x.id ≠ 1 := fun e => n (.inr (.inr e))
      have sm : Sim xs (xs.set i { x with pending := lessI x.pending (takeSig x) }) := .set t.1 ⟨rfl, rfl, fun h => h⟩
      exact (v.sim sm).end d1 (ok.tk i x t.1 ns nz d1)
  split
  · unfold grpS; split
    · exact v
    · rename_i y hy
      rcases at_cases xs to with f | ⟨u, y', ty⟩
      · rw [getP_none.mpr f] at hy; cases hy
      rw [ty.get] at hy; injection hy with hy; subst hy
      rw [ty.pos, Int.toNat_natCast]
      repeat' split
      · exact v
      · exact v
      · exact v.sim (.set ty.1 ⟨rfl, rfl, fun h => h⟩)
      · exact v
  · unfold userS
    repeat' split
    · exact v
    · exact v
    · exact v.sim (.set t.1 ⟨rfl, rfl, fun h => h⟩)
/-- a list that is not full has a number free -/
theorem Inv.room (v : Inv xs) (l : xs.length < 32) : freeId xs 33 1 ≤ 32 := by
  obtain ⟨d, dl, ef⟩ := free_ex v.srt v.l32; omega
theorem Inv.new : Inv [⟨1, 0, 1, 0, 1, 0, 0, 0, 0, 0⟩] := by
  have one : ∀ (j : Nat) (y : P), ([⟨1, 0, 1, 0, 1, 0, 0, 0, 0, 0⟩] : List P)[j]? = some y → j = 0 ∧ y = ⟨1, 0, 1, 0, 1, 0, 0, 0, 0, 0⟩ := fun j y hy => by
    have := get_lt hy; simp at this; subst this; simp at hy; exact ⟨rfl, hy.symm⟩
  refine ⟨by simp, ⟨fun y hy => ?_, fun j y z hy hz => ?_, fun j y hy => ?_⟩, fun y hy => ?_, fun y my n1 => ?_⟩
  · rw [(one 0 y hy).2]
  · have := (one _ z hz).1; omega
  · rw [(one j y hy).2]; show (1 : Int) ≤ 32; omega
  · rw [(one 0 y hy).2]; show (1 : Int) ≠ 3; omega
  · simp at my; subst my; exact absurd rfl n1
end Go.Proofs.Ytgcjjapmdbgofaa
