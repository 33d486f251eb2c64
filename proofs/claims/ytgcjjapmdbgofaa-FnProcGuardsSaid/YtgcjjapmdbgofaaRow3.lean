/-
  FnProcGuards: for every input the law answers true, and the argument reads afterwards as it read before. No condition.
-/
import Derived.Test.YtgcjjapmdbgofaaLaw
import Derived.Test.YtgcjjapmdbgofaaQx
set_option linter.unusedVariables false
namespace Go.Proofs.Ytgcjjapmdbgofaa.row3
open Go.Eng Go.ChangeShapes Go.WideShapes Go.ChangeAt Go.RowKit

theorem own : ownKnob Try.prog.godebug = none := by kernel_rfl
theorem laidOut : laidOutB Try.prog = true := by kernel_rfl
theorem kindL : (match Try.prog.underlying 22 with | some (.slice e) => e | _ => 0) = 5 := by kernel_rfl
theorem cellsE : Try.prog.cellsOf 5 = 1 := by kernel_rfl
theorem kindE : (match Try.prog.underlying 5 with | some (.int .u8) => true | _ => false) = true := by kernel_rfl
theorem undE : Try.prog.underlying 5 = some (.int .u8) := by
  have := kindE
  split at this
  · assumption
  · cases this
theorem undL : ∃ e, Try.prog.underlying 22 = some (.slice e) ∧ e = 5 := by
  have := kindL
  split at this
  · rename_i e h; exact ⟨e, h, this⟩
  · cases this
variable {H : Type} {enc : TypeId × Value → H} {w : World} {sp : Nat → Bool} {held : Bool}
theorem openB {v : Value} {d : DataW H} {ps : List MemPlace} (hv : v.cells.toList = [v]) (h : DataW.Trod enc Try.prog w 0 sp held 22 v d ps) :
    ∃ a n c bs, v = .slice a n c ∧ SlR w.heap a n 1 encB bs := by
  obtain ⟨fuel, h⟩ := h
  obtain ⟨e, ue, rfl⟩ := undL
  obtain ⟨a, n, c, xs, hc, hs, _⟩ := open_slice encB (fun _ => True) (by omega) (fun n cs y hy => by
    obtain ⟨m, e, _⟩ := DataW.trod_int undE hy
    exact ⟨m, e, trivial⟩) ue cellsE h
  rw [hv] at hc
  injection hc with hc _
  exact ⟨a, n, c, xs, hc, hs⟩
theorem slice_of {base : Nat} {r : Reach} {v : Value} (ok : Value.okWide Try.prog w r base 22 v) : v.cells.toList = [v] := by
  obtain ⟨e, ue, _⟩ := undL
  cases v <;> first | rfl | (exfalso; simp [Value.okWide, Cell.okWide, Cell.ok, ue] at ok)
theorem params : Try.f3.params.toList = [22] := by kernel_rfl
theorem results : Try.f3.resultTypes.toList = [4] := by kernel_rfl
theorem rsize : Try.f3.resultTypes.size = 1 := by kernel_rfl
theorem boolT : (match Try.prog.underlying 4 with | some .bool => true | _ => false) = true := by kernel_rfl
theorem undB : Try.prog.underlying 4 = some .bool := by
  have := boolT
  split at this
  · assumption
  · cases this
set_option maxRecDepth 100000 in
theorem lifted (os : Os) (started : os.Started) (H : Type) (enc : TypeId × Value → H) :
    ReturnsInHanded {} Try.checked os 3 .any (Rows.fnProcGuardsSpec.pre6 enc Try.prog Try.f3 Rows.fnProcGuardsRow.domain false) (Rows.fnProcGuardsSpec.post enc Try.prog Try.f3 false true false false) := by
  refine returnsInHanded_of_change (C := Try.checked) own started (by kernel_rfl) Try.func3
    (ChangeSpec.witness6 (enc := enc) (C := Try.checked) false ⟨#[], #[.slice none 0 0], []⟩ 8 (by kernel_rfl) (by kernel_rfl) (by kernel_rfl) (by kernel_rfl)) ?_
  intro W base args ds gs before hval hW _ _
  have hval : ∀ (j : Nat) t v, Try.f3.params[j]? = some t → args[j]? = some v → Value.okWide Try.prog W .any base t v := hval
  have hW' := hW
  obtain ⟨p, q, hA, hV, rfl, _, _⟩ := hW
  have hA : DataW.TrodAll enc Try.prog W 0 (fun _ => true) true Try.f3.params.toList args.toList ds p := hA
  rw [params] at hA
  obtain ⟨v0, d0, rfl, rfl, h0⟩ := trodAll_one hA
  obtain ⟨rfl, rfl⟩ := trodVars_none hV
  simp only [List.append_nil] at hW'
  have hlt : ∀ x ∈ p, x.block < W.heap.size := fun x hx => by simpa using hW'.lt x hx
  have e0 : Try.f3.params[0]? = some 22 := by kernel_rfl
  obtain ⟨a, n, c, bs, rfl, hs⟩ := openB (slice_of (hval 0 22 v0 e0 rfl)) h0
  refine (calls_law (guards_spec (c := c) (K := fun v m => v = .bool true ∧ Keep [] W.heap m) hs fun h' k => ⟨rfl, k⟩)).mono fun e W' ⟨v, he, hv, hb⟩ => ⟨v, he, ?_⟩
  subst hv
  refine ⟨[d0], [], p, [], p, [], hW', ?_, ?_, rfl, hb.frame _, fun h => by cases h⟩
  · rw [results, rsize]
    exact trodAll_cons_mk (shut_bool undB true) trodAll_mk0
  · rw [params]
    exact trodAll_mk1 (Below.trod laidOut (by kernel_rfl) (of_decide_eq_true (by kernel_rfl)) h0 hb fun x hx => hlt x hx)
theorem holds : Rows.FnProcGuardsSaid :=
  OpenClaim.holds_of_wide 3 Try.f3 rfl rfl rfl rfl rfl rfl rfl ⟨rfl, rfl, rfl, rfl, rfl⟩ rfl rfl rfl rfl rfl (by kernel_rfl) Try.func3 (by kernel_rfl)
    (of_decide_eq_true (by kernel_rfl)) (by unfold Func.isWrapper; first | (rw [if_pos (by decide +kernel)]; kernel_rfl) | (rw [if_neg (by decide +kernel)]; exact ⟨rfl, rfl⟩))
    (fun os started H enc _ => lifted os started H enc)
end Go.Proofs.Ytgcjjapmdbgofaa.row3
#print axioms Go.Proofs.Ytgcjjapmdbgofaa.row3.holds
