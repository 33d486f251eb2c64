import Derived.Test.YteeinamngmmlbaaEngA
/-! The code; pieces that are put for places of it; loops; functions. -/
set_option linter.unusedVariables false
set_option linter.unusedSimpArgs false
namespace Go.Eng
open Go

def KQ (nt : Nat) (w0 : World) (K : Cont) : Exit → Act → World → Prop
  | .normal, a, w => ∃ e, St nt w0 e w.heap a w ∧ K .normal e w.heap
  | .exit i, a, w => ∃ e, St nt w0 e w.heap a w ∧ K (.exit i) e w.heap
  | .ret, a, w => ∃ e, St nt w0 e w.heap a w ∧ K .ret e w.heap
  | _, _, _ => False
def Valid (P : Program) (nt : Nat) (c : Code) (F : PT) : Prop := ∀ e h K, F e h K → ∀ w0 a w, St nt w0 e h a w → c.wp P (KQ nt w0 K) a w
theorem KQ_mono {nt : Nat} {w0 : World} {K K' : Cont} (h : ∀ x e h, K x e h → ∃ e', K' x e' h ∧ ∀ tmps, Match e tmps → Match e' tmps) : ∀ x a w, KQ nt w0 K x a w → KQ nt w0 K' x a w := by
  intro x a w hk
  cases x <;> try exact hk.elim
  all_goals
    obtain ⟨e, hs, hk⟩ := hk
    obtain ⟨e', hk', hm⟩ := h _ _ _ hk
    exact ⟨e', ⟨hm _ hs.ok, hs.size, hs.defers, hs.heap, hs.rest⟩, hk'⟩

/-- the place that a row of the table speaks of (its ways, the last first) -/
def tgt : List Bool → List Bool
  | true :: p => true :: p
  | false :: p => p
  | [] => []
def RowsOk (P : Program) (nt : Nat) (c0 : Code) (js : List (List Bool × PT)) : Prop := ∀ x ∈ js, Valid P nt (sub c0 (tgt x.1).reverse) x.2
theorem lookJ_mem : ∀ {js : List (List Bool × PT)} {p : List Bool} {F : PT}, lookJ p js = some F → (p, F) ∈ js
  | [], p, F, h => by simp [lookJ] at h
  | (q, G) :: js, p, F, h => by
    simp only [lookJ] at h
    split at h
    · rename_i hq
      simp only [Option.some.injEq] at h
      have : q = p := by simpa using hq
      subst this; subst h; simp
    · exact List.mem_cons_of_mem _ (lookJ_mem h)
theorem sub_snoc : ∀ (c : Code) (p : List Bool) (d : Bool), sub c (p ++ [d]) = sub (sub c p) [d]
  | c, [], d => by simp [sub]
  | c, x :: p, d => by
    cases c <;> simp only [List.cons_append, sub] <;> first | exact sub_snoc _ p d | skip
    all_goals (cases p <;> rfl)
theorem sub_rev (c : Code) (p : List Bool) (d : Bool) : sub c (d :: p).reverse = sub (sub c p.reverse) [d] := by
  rw [List.reverse_cons]; exact sub_snoc c _ d

theorem evC_valid {P : Program} {nt : Nat} {c0 : Code} {js : List (List Bool × PT)} (hm : P.follows .mixedOrders = true) (hj : RowsOk P nt c0 js) :
    ∀ (c : Code) (p : List Bool), sub c0 p.reverse = c → Valid P nt c (evC P nt js p c) := by
  intro c
  induction c with
  | skip => intro p _ e h K hev w0 a w hs; exact wp_skip ⟨e, by rw [hs.heap]; exact hs, by rw [hs.heap]; exact hev⟩
  | exit id => intro p _ e h K hev w0 a w hs; exact wp_exit ⟨e, by rw [hs.heap]; exact hs, by rw [hs.heap]; exact hev⟩
  | ret => intro p _ e h K hev w0 a w hs; exact wp_ret ⟨e, by rw [hs.heap]; exact hs, by rw [hs.heap]; exact hev⟩
  | region id ops draw =>
    intro p _ e h K hev w0 a w hs
    have hQ : ∀ e h a w, St nt w0 e h a w → K .normal e h → KQ nt w0 K .normal a w := fun e h a w hs hk => ⟨e, by rw [hs.heap]; exact hs, by rw [hs.heap]; exact hk⟩
    cases draw with
    | false =>
      refine wp_region ?_
      have := evOps_sound (P := P) (ops := ops) (Q := KQ nt w0 K) (K := K .normal) hQ ops.toList 0 rfl e h a w hs hev
      rw [List.range_eq_range']
      simpa using this
    | true =>
      have hev : evDraw P nt ops e h (K .normal) := hev
      unfold evDraw at hev
      rcases ifB_spec hev with ⟨hb, hev⟩ | ⟨_, hev⟩
      · rw [Bool.and_eq_true] at hb
        have hbf : BfOk ops (befores ops.toList []) := fun j o ho => by
          have := bfOk_spec hb.1 j o (by simpa using ho)
          rwa [Nat.zero_add] at this
        have hr0 : Rel ops (Array.replicate ops.size false) 0 := ⟨by simp, fun i => by simp [Array.getD]⟩
        have hc0 : Closed ops (befores ops.toList []) (Array.replicate ops.size false) := fun j hj => by
          rw [hr0.bit] at hj; simp at hj
        have hs1 : St nt w0 e h a { w with drawn := w.drawn + 1 } := ⟨hs.ok, hs.size, hs.defers, hs.heap, ⟨hs.rest.os, hs.rest.tape, hs.rest.output⟩⟩
        have := evAny_sound (Q := KQ nt w0 K) hbf hb.2 hQ (fun c a w h => h) _ 0 e h [] hev _ a _ hr0 hc0 hs1 (by simp)
        have := wpD_any _ _ _ _ _ this
        exact wp_region_any hm (by simpa using this)
      · exact hev.elim
  | seq x y ihx ihy =>
    intro p hp e h K hev w0 a w hs
    have h1 := ihx (false :: p) (by rw [sub_rev, hp]; rfl) e h _ hev w0 a w hs
    refine wp_seq (wp_mono h1 fun ex a' w' hk => ?_)
    cases ex with
    | normal =>
      obtain ⟨e', hs', hk⟩ := hk
      simp only at hk
      show y.wp P (KQ nt w0 K) a' w'
      split at hk
      · rename_i F hF
        have hv := hj _ (lookJ_mem hF)
        simp only [tgt] at hv
        rw [sub_rev, hp] at hv
        exact hv e' w'.heap K hk w0 a' w' hs'
      · exact ihy (true :: p) (by rw [sub_rev, hp]; rfl) e' w'.heap K hk w0 a' w' hs'
    | exit i => exact hk
    | ret => exact hk
    | goto l => exact hk.elim
    | panic c => exact hk.elim
    | outgrown => exact hk.elim
  | cond c x y ihx ihy =>
    intro p hp e h K hev w0 a w hs
    have hev : rd e c _ := hev
    obtain ⟨t, ht, hev⟩ := asB_spec (rd_spec (x := c) hs.ok hev)
    refine wp_cond ht ?_
    rcases ifB_spec hev with ⟨rfl, hev⟩ | ⟨rfl, hev⟩
    · exact ihx (false :: p) (by rw [sub_rev, hp]; rfl) e h K hev w0 a w hs
    · exact ihy (true :: p) (by rw [sub_rev, hp]; rfl) e h K hev w0 a w hs
  | block id c ih =>
    intro p hp e h K hev w0 a w hs
    have h1 := ih (false :: p) (by rw [sub_rev, hp]; rfl) e h _ hev w0 a w hs
    refine wp_block (wp_mono h1 fun ex a' w' hk => ?_)
    cases ex with
    | normal => exact hk
    | exit i =>
      obtain ⟨e', hs', hk⟩ := hk
      show if i = id then _ else _
      have hk : (match Nat.beq i id with | true => K .normal e' w'.heap | false => K (.exit i) e' w'.heap) := hk
      split at hk
      · rename_i hb
        rw [if_pos (Nat.eq_of_beq_eq_true hb)]
        exact ⟨e', hs', hk⟩
      · rename_i hb
        rw [if_neg (fun h => by subst h; simp at hb)]
        exact ⟨e', hs', hk⟩
    | ret => exact hk
    | goto l => exact hk.elim
    | panic c => exact hk.elim
    | outgrown => exact hk.elim
  | loop c ih =>
    intro p hp e h K hev w0 a w hs
    have hev : (match lookJ (false :: p) js with
      | some F => F e h K
      | none => False) := hev
    split at hev
    · rename_i F hF
      have hv := hj _ (lookJ_mem hF)
      simp only [tgt] at hv
      rw [hp] at hv
      exact hv e h K hev w0 a w hs
    · exact hev.elim
  | _ => intro p _ e h K hev; exact hev.elim
end Go.Eng
