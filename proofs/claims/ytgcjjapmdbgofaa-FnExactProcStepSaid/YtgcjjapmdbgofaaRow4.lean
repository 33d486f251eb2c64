/-
  FnExactProcStep: for every input the law answers true, and each argument reads afterwards as it read before. No condition.
-/
import Derived.Test.YtgcjjapmdbgofaaLaw
import Derived.Test.YtgcjjapmdbgofaaQs
set_option linter.unusedVariables false
namespace Go.Proofs.Ytgcjjapmdbgofaa.step
open Go.Eng Go.ChangeShapes Go.WideShapes Go.ChangeAt Go.RowKit

theorem own : ownKnob Try.prog.godebug = none := by kernel_rfl
theorem laidOut : laidOutB Try.prog = true := by kernel_rfl
theorem u41 : Try.prog.underlying 41 = Try.prog.underlying 40 := by kernel_rfl
theorem kindP : (match Try.prog.underlying 41 with | some (.struct fs) => fs.toList.map (fun f => (f.type, f.offset)) | _ => []) = [(39, 0)] := by kernel_rfl
theorem kindL : (match Try.prog.underlying 39 with | some (.slice e) => e | _ => 0) = 89 := by kernel_rfl
theorem cellsE : Try.prog.cellsOf 89 = 10 := by kernel_rfl
theorem cellsL : Try.prog.cellsOf 39 = 1 := by kernel_rfl
theorem cells2 : Try.prog.cellsOf 2 = 1 := by kernel_rfl
theorem kind2 : (match Try.prog.underlying 2 with | some (.int .i64) => true | _ => false) = true := by kernel_rfl
theorem kindE : (match Try.prog.underlying 89 with | some (.struct fs) => fs.toList.map (fun f => (f.type, f.offset)) | _ => []) = [(2, 0), (2, 1), (2, 2), (2, 3), (2, 4), (2, 5), (2, 6), (2, 7), (2, 8), (2, 9)] := by kernel_rfl
theorem kindO : (match Try.prog.underlying 42 with | some (.struct fs) => fs.toList.map (fun f => (f.type, f.offset)) | _ => []) = [(2, 0), (2, 1), (2, 2), (2, 3)] := by kernel_rfl
theorem und2 : Try.prog.underlying 2 = some (.int .i64) := by
  have := kind2
  split at this
  · assumption
  · cases this
theorem und39 : ∃ e, Try.prog.underlying 39 = some (.slice e) ∧ e = 89 := by
  have := kindL
  split at this
  · rename_i e h; exact ⟨e, h, this⟩
  · cases this
theorem struct_of {t : TypeId} {l : List (TypeId × Nat)} (h : (match Try.prog.underlying t with | some (.struct fs) => fs.toList.map (fun f => (f.type, f.offset)) | _ => []) = l) (ne : l ≠ []) :
    ∃ fs : Array Field, Try.prog.underlying t = some (.struct fs) ∧ fs.toList.map (fun f => (f.type, f.offset)) = l := by
  split at h
  · rename_i fs e; exact ⟨fs, e, h⟩
  · exact absurd h.symm ne
variable {H : Type} {enc : TypeId × Value → H} {w : World} {sp : Nat → Bool} {held : Bool}
/-- a struct's parts, one by one -/
theorem parts {t : TypeId} {l : List (TypeId × Nat)} (h : (match Try.prog.underlying t with | some (.struct fs) => fs.toList.map (fun f => (f.type, f.offset)) | _ => []) = l) (ne : l ≠ [])
    {fuel : Nat} {cs : List Value} {y : DataW H × List MemPlace} (ht : DataW.trod enc Try.prog w 0 sp held fuel t cs = some y) :
    cs.length = Try.prog.cellsOf t ∧ ∃ n, ∀ (i : Nat) (u : TypeId) (o : Nat), l[i]? = some (u, o) → ∃ z, DataW.trod enc Try.prog w 0 sp held n u ((cs.drop o).take (Try.prog.cellsOf u)) = some z := by
  obtain ⟨fs, e1, e2⟩ := struct_of h ne
  obtain ⟨xs, n, rfl, rfl, hl, hx, hp⟩ := DataW.trod_struct e1 ht
  refine ⟨hl, n, fun i u o hi => ?_⟩
  rw [← e2, List.getElem?_map] at hi
  obtain ⟨f, hf, e⟩ := Option.map_eq_some_iff.mp hi
  have hf' : fs[i]? = some f := by rw [← hf]; simp
  have := hp i f hf'
  injection e with ea eb
  rw [ea, eb] at this
  have il : i < xs.length := by
    rw [hx]; exact (Array.getElem?_eq_some_iff.mp hf').1
  exact ⟨_, this.trans (List.getElem?_eq_getElem il)⟩
theorem int_part {n : Nat} {cs : List Value} {o : Nat} {z : DataW H × List MemPlace} (h : DataW.trod enc Try.prog w 0 sp held n 2 ((cs.drop o).take (Try.prog.cellsOf 2)) = some z) : ∃ m, cs[o]? = some (.int .i64 m) ∧ In m := by
  rw [cells2] at h
  obtain ⟨m, e, _, wf⟩ := DataW.trod_int und2 h
  refine ⟨m, ?_, ?_⟩
  · have := congrArg (fun l => l[0]?) e
    simpa [List.getElem?_take] using this
  · have := int_in wf
    exact this
theorem openE (n : Nat) (cs : List Value) (y : DataW H × List MemPlace) (h : DataW.trod enc Try.prog w 0 sp held n 89 cs = some y) : ∃ x, cs = encP x ∧ InP x := by
  obtain ⟨hl, m, hp⟩ := parts kindE (by simp) h
  rw [cellsE] at hl
  obtain ⟨_, h0⟩ := hp 0 2 0 rfl
  obtain ⟨_, h1⟩ := hp 1 2 1 rfl
  obtain ⟨_, h2⟩ := hp 2 2 2 rfl
  obtain ⟨_, h3⟩ := hp 3 2 3 rfl
  obtain ⟨_, h4⟩ := hp 4 2 4 rfl
  obtain ⟨_, h5⟩ := hp 5 2 5 rfl
  obtain ⟨_, h6⟩ := hp 6 2 6 rfl
  obtain ⟨_, h7⟩ := hp 7 2 7 rfl
  obtain ⟨_, h8⟩ := hp 8 2 8 rfl
  obtain ⟨_, h9⟩ := hp 9 2 9 rfl
  obtain ⟨z0, c0, _⟩ := int_part h0
  obtain ⟨z1, c1, _⟩ := int_part h1
  obtain ⟨z2, c2, _⟩ := int_part h2
  obtain ⟨z3, c3, _⟩ := int_part h3
  obtain ⟨z4, c4, _⟩ := int_part h4
  obtain ⟨z5, c5, _⟩ := int_part h5
  obtain ⟨z6, c6, i6⟩ := int_part h6
  obtain ⟨z7, c7, i7⟩ := int_part h7
  obtain ⟨z8, c8, i8⟩ := int_part h8
  obtain ⟨z9, c9, i9⟩ := int_part h9
  refine ⟨⟨z0, z1, z2, z3, z4, z5, z6, z7, z8, z9⟩, ?_, ⟨i6, i7, i8, i9⟩⟩
  match cs, hl with
  | [v0, v1, v2, v3, v4, v5, v6, v7, v8, v9], _ =>
    simp at c0 c1 c2 c3 c4 c5 c6 c7 c8 c9
    subst c0 c1 c2 c3 c4 c5 c6 c7 c8 c9
    rfl
theorem openP {v : Value} {d : DataW H} {ps : List MemPlace} (ha : ∃ cs : Array Value, v = .agg cs) (h : DataW.Trod enc Try.prog w 0 sp held 41 v d ps) :
    ∃ a n c xs, v = .agg ⟨[.slice a n c]⟩ ∧ SlR w.heap a n 10 encP xs ∧ InL xs := by
  obtain ⟨cs, rfl⟩ := ha
  obtain ⟨fuel, h⟩ := h
  have h : DataW.trod enc Try.prog w 0 sp held fuel 41 cs.toList = some (d, ps) := h
  obtain ⟨hl, m, hp⟩ := parts kindP (by simp) h
  obtain ⟨z, h0⟩ := hp 0 39 0 rfl
  have e1 : Try.prog.cellsOf 41 = 1 := by kernel_rfl
  rw [e1] at hl
  rw [cellsL] at h0
  obtain ⟨e, ue, rfl⟩ := und39
  obtain ⟨a, n, c, xs, hc, hs, hq⟩ := open_slice encP InP (by omega) (fun n cs y => openE n cs y) ue cellsE h0
  refine ⟨a, n, c, xs, ?_, hs, hq⟩
  have : cs.toList = [.slice a n c] := by
    rw [List.drop_zero, List.take_of_length_le (by omega)] at hc; exact hc
  cases cs
  simp only at this; rw [this]
theorem openO {v : Value} {d : DataW H} {ps : List MemPlace} (ha : ∃ cs : Array Value, v = .agg cs) (h : DataW.Trod enc Try.prog w 0 sp held 42 v d ps) :
    ∃ z0 z1 z2 z3, v = .agg ⟨[.int .i64 z0, .int .i64 z1, .int .i64 z2, .int .i64 z3]⟩ ∧ In z2 := by
  obtain ⟨cs, rfl⟩ := ha
  obtain ⟨fuel, h⟩ := h
  have h : DataW.trod enc Try.prog w 0 sp held fuel 42 cs.toList = some (d, ps) := h
  obtain ⟨hl, m, hp⟩ := parts kindO (by simp) h
  have e1 : Try.prog.cellsOf 42 = 4 := by kernel_rfl
  rw [e1] at hl
  obtain ⟨_, h0⟩ := hp 0 2 0 rfl
  obtain ⟨_, h1⟩ := hp 1 2 1 rfl
  obtain ⟨_, h2⟩ := hp 2 2 2 rfl
  obtain ⟨_, h3⟩ := hp 3 2 3 rfl
  obtain ⟨z0, c0, _⟩ := int_part h0
  obtain ⟨z1, c1, _⟩ := int_part h1
  obtain ⟨z2, c2, i2⟩ := int_part h2
  obtain ⟨z3, c3, _⟩ := int_part h3
  refine ⟨z0, z1, z2, z3, ?_, i2⟩
  obtain ⟨cs⟩ := cs
  match cs, hl with
  | [v0, v1, v2, v3], _ =>
    simp at c0 c1 c2 c3
    subst c0 c1 c2 c3
    rfl
theorem agg_of {t : TypeId} {base : Nat} {r : Reach} {v : Value} {l : List (TypeId × Nat)} (h : (match Try.prog.underlying t with | some (.struct fs) => fs.toList.map (fun f => (f.type, f.offset)) | _ => []) = l) (ne : l ≠ [])
    (ok : Value.okWide Try.prog w r base t v) : ∃ cs : Array Value, v = .agg cs := by
  obtain ⟨fs, e1, _⟩ := struct_of h ne
  unfold Value.okWide at ok
  rw [e1] at ok
  obtain ⟨cs, e, _⟩ := ok
  exact ⟨cs, e⟩
theorem params : Try.f4.params.toList = [41, 42] := by kernel_rfl
theorem results : Try.f4.resultTypes.toList = [4] := by kernel_rfl
theorem rsize : Try.f4.resultTypes.size = 1 := by kernel_rfl
theorem bool4 : (match Try.prog.underlying 4 with | some .bool => true | _ => false) = true := by kernel_rfl
theorem und4 : Try.prog.underlying 4 = some .bool := by
  have := bool4
  split at this
  · assumption
  · cases this
set_option maxRecDepth 100000 in
theorem lifted (os : Os) (started : os.Started) (H : Type) (enc : TypeId × Value → H) :
    ReturnsInHanded {} Try.checked os 4 .any (Rows.fnExactProcStepSpec.pre6 enc Try.prog Try.f4 Rows.fnExactProcStepRow.domain false) (Rows.fnExactProcStepSpec.post enc Try.prog Try.f4 false true false false) := by
  refine returnsInHanded_of_change (C := Try.checked) own started (by kernel_rfl) Try.func4
    (ChangeSpec.witness6 (enc := enc) (C := Try.checked) false ⟨#[], #[.agg #[.slice none 0 0], .agg #[.int .i64 0, .int .i64 0, .int .i64 0, .int .i64 0]], []⟩ 8 (by kernel_rfl) (by kernel_rfl) (by kernel_rfl) (by kernel_rfl)) ?_
  intro W base args ds gs before hval hW _ _
  have hval : ∀ (j : Nat) t v, Try.f4.params[j]? = some t → args[j]? = some v → Value.okWide Try.prog W .any base t v := hval
  have hW' := hW
  obtain ⟨p, q, hA, hV, rfl, _, _⟩ := hW
  have hA : DataW.TrodAll enc Try.prog W 0 (fun _ => true) true Try.f4.params.toList args.toList ds p := hA
  rw [params] at hA
  obtain ⟨v0, v1, d0, d1, p0, p1, rfl, rfl, rfl, h0, h1⟩ := trodAll_two hA
  obtain ⟨rfl, rfl⟩ := trodVars_none hV
  simp only [List.append_nil] at hW'
  have hlt : ∀ x ∈ p0 ++ p1, x.block < W.heap.size := fun x hx => by simpa using hW'.lt x hx
  have e0 : Try.f4.params[0]? = some 41 := by kernel_rfl
  have e1 : Try.f4.params[1]? = some 42 := by kernel_rfl
  obtain ⟨a, n, c, xs, rfl, hs, hin⟩ := openP (agg_of kindP (by simp) (hval 0 41 v0 e0 rfl)) h0
  obtain ⟨z0, z1, z2, z3, rfl, hz⟩ := openO (agg_of kindO (by simp) (hval 1 42 v1 e1 rfl)) h1
  refine (calls_law (law_spec (K := fun v m => v = .bool true ∧ Keep [] W.heap m) hs hin hz.1 hz.2 fun h' k => ⟨rfl, k⟩)).mono fun e W' ⟨v, he, hv, hb⟩ => ⟨v, he, ?_⟩
  subst hv
  refine ⟨[d0, d1], [], p0 ++ p1, [], p0 ++ p1, [], hW', ?_, ?_, rfl, hb.frame _, fun h => by cases h⟩
  · rw [results, rsize]
    exact trodAll_cons_mk (shut_bool und4 true) trodAll_mk0
  · rw [params]
    exact trodAll_mk2 (Below.trod laidOut (by kernel_rfl) (of_decide_eq_true (by kernel_rfl)) h0 hb fun x hx => hlt x (by simp [hx]))
      (Below.trod laidOut (by kernel_rfl) (of_decide_eq_true (by kernel_rfl)) h1 hb fun x hx => hlt x (by simp [hx]))
theorem holds : Rows.FnExactProcStepSaid :=
  OpenClaim.holds_of_wide 4 Try.f4 rfl rfl rfl rfl rfl rfl rfl ⟨rfl, rfl, rfl, rfl, rfl⟩ rfl rfl rfl rfl rfl (by kernel_rfl) Try.func4 (by kernel_rfl)
    (of_decide_eq_true (by kernel_rfl)) (by unfold Func.isWrapper; first | (rw [if_pos (by decide +kernel)]; kernel_rfl) | (rw [if_neg (by decide +kernel)]; exact ⟨rfl, rfl⟩))
    (fun os started H enc _ => lifted os started H enc)
end Go.Proofs.Ytgcjjapmdbgofaa.step
#print axioms Go.Proofs.Ytgcjjapmdbgofaa.step.holds
