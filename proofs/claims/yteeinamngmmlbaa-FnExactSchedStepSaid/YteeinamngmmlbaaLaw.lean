import Derived.Test.YteeinamngmmlbaaRs2
import Derived.Test.YteeinamngmmlbaaRows
import Derived.Carry
import Derived.OpenShut
import Derived.JoinedOf
import Derived.JoinedCond
import Derived.ProofKit
set_option linter.unusedVariables false
/-! From a contract to a row. -/
namespace Go.Eng
open Go.RowKit
/-- what a law does: it answers true, and nothing that was there is changed -/
theorem calls_law {P : Program} {f : FuncId} {args : Array Value} {W : World} (c : callD P f args W.heap fun v m => v = .bool true ∧ Keep [] W.heap m) :
    Calls P f args W fun e W' => ∃ v, e = .returned v ∧ v = .bool true ∧ Below W.heap.size W W' := by
  refine (c W.heap Md0.refl W rfl).mono fun e W' ⟨v, he, h1, h2, h3, m', a, hv, kp⟩ => ⟨v, he, hv, h1, h2, h3, a.sz, fun b hb => ?_⟩
  by_cases d : W.heap[b]? = some dmy
  · exact (a.pv b hb (.inr d)).2
  · have e := kp.2 b hb (by simp)
    rcases a.md.2 b (Nat.lt_of_lt_of_le hb kp.le) with t | t
    · rw [← t]; exact e
    · rw [e] at t; exact absurd t d
section
variable {H' : Type} {enc : TypeId × Value → H'} {P : Program} {w : World} {sp : Nat → Bool} {held : Bool}
theorem cell_of {a : Addr} {v : Value} (h : w.cell? a = some v) : a.spot = none ∧ cell w.heap a.block a.off = some v := by
  unfold World.cell? at h
  split at h
  · rename_i c t f e
    by_cases s : a.spot.isSome = true
    · rw [if_pos s] at h; cases h
    · rw [if_neg s] at h
      refine ⟨by cases e : a.spot <;> simp [e] at s ⊢, ?_⟩
      rw [Eng.cell, e]; exact h
  · cases h
theorem add_none (b o k : Nat) : (⟨b, o, none⟩ : Addr).add k = ⟨b, o + k, none⟩ := by
  unfold Addr.add; split
  · rename_i e; rw [e]; rfl
  · rfl
theorem list_of {α : Type} (R : Nat → α → Prop) : ∀ n, (∀ i, i < n → ∃ x, R i x) → ∃ xs : List α, xs.length = n ∧ ∀ i x, xs[i]? = some x → R i x := by
  intro n
  induction n with
  | zero => intro _; exact ⟨[], rfl, fun i x h => by simp at h⟩
  | succ n ih =>
    intro h
    obtain ⟨xs, l, r⟩ := ih fun i hi => h i (by omega)
    obtain ⟨x, hx⟩ := h n (by omega)
    refine ⟨xs ++ [x], by simp [l], fun i y hy => ?_⟩
    by_cases q : i < n
    · rw [List.getElem?_append_left (by omega)] at hy; exact r i y hy
    · rw [List.getElem?_append_right (by omega), l] at hy
      by_cases q2 : i = n
      · subst q2; simp at hy; subst hy; exact hx
      · rw [List.getElem?_eq_none (by simp; omega)] at hy; cases hy
/-- a slice of records, opened -/
theorem open_slice {α : Type} {t e : TypeId} {s : Nat} (en : α → List Value) (Q : α → Prop) (s0 : 0 < s) (hel : ∀ n cs y, DataW.trod enc P w 0 sp held n e cs = some y → ∃ x, cs = en x ∧ Q x)
    (ht : P.underlying t = some (.slice e)) (hc : P.cellsOf e = s) {fuel : Nat} {cs : List Value} {y : DataW H' × List MemPlace} (h : DataW.trod enc P w 0 sp held fuel t cs = some y) :
    ∃ a n c xs, cs = [.slice a n c] ∧ SlR w.heap a n s en xs ∧ ∀ x ∈ xs, Q x := by
  rcases DataW.trod_slice ht h with ⟨rfl, rfl⟩ | ⟨a, len, cap, elems, rest, n, rfl, rfl, rfl, hb, hl, hm, hlen, hel', _⟩
  · exact ⟨none, 0, 0, [], rfl, ⟨⟨rfl, by omega⟩, fun i x hx => by simp at hx⟩, by simp⟩
  · obtain ⟨b, o, spot⟩ := a
    have none_ : 0 < len → spot = none := by
      intro hi
      have h1 := hel' 0 hi
      rw [List.getElem?_eq_getElem (by omega), Option.bind_eq_some_iff] at h1
      obtain ⟨cs, h1, _⟩ := h1
      obtain ⟨_, l2, h3⟩ := World.cells?_some h1
      rw [hc] at h3 l2
      have c0 := h3 0 s0
      rw [List.getElem?_eq_getElem (by omega)] at c0
      have := (cell_of c0).1
      rw [Nat.zero_mul] at this
      exact this
    have one : ∀ i, i < len → ∃ x, Q x ∧ ∀ j v, (en x)[j]? = some v → cell w.heap b (o + i * s + j) = some v := by
      intro i hi
      have := none_ (by omega)
      subst this
      have h1 := hel' i hi
      rw [List.getElem?_eq_getElem (by omega), Option.bind_eq_some_iff] at h1
      obtain ⟨cs, h1, h2⟩ := h1
      obtain ⟨x, rfl, qx⟩ := hel _ _ _ h2
      obtain ⟨_, l2, h3⟩ := World.cells?_some h1
      rw [hc] at h3 l2
      refine ⟨x, qx, fun j v hv => ?_⟩
      have hj : j < s := by rw [← l2]; exact (List.getElem?_eq_some_iff.mp hv).1
      have := h3 j hj
      rw [hv, add_none, add_none] at this
      exact (cell_of this).2
    obtain ⟨xs, hx1, hx2⟩ := list_of _ len one
    refine ⟨some ⟨b, o, spot⟩, len, cap, xs, rfl, ⟨⟨hx1.symm, (show len ≤ 9223372036854775807 from Nat.le_trans hl hm)⟩, fun i x hx => ?_⟩, fun x hx => ?_⟩
    · have := none_ (by have := (List.getElem?_eq_some_iff.mp hx).1; omega)
      subst this
      exact ⟨b, o, rfl, (hx2 i x hx).2⟩
    · obtain ⟨i, hi, e⟩ := List.getElem_of_mem hx
      exact (hx2 i x (by rw [List.getElem?_eq_getElem hi, e])).1
theorem int_in {k : IntKind} {n : Int} (h : (Lit.int k n).wf = true) : k.min ≤ n ∧ n ≤ k.max := by simpa [Lit.wf] using h
end
end Go.Eng
