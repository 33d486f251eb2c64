/-
  FnExactSchedStep: for every input the law answers true, and each argument reads afterwards as it read before. No condition.
-/
import Derived.Test.YteeinamngmmlbaaLaw
import Derived.Test.YteeinamngmmlbaaSv
set_option linter.unusedVariables false
namespace Go.Proofs.Yteeinamngmmlbaa.row3
open Go.Eng Go.ChangeShapes Go.WideShapes Go.ChangeAt Go.RowKit

theorem own : ownKnob Try.prog.godebug = none := by kernel_rfl
theorem laidOut : laidOutB Try.prog = true := by kernel_rfl
theorem kindS : (match Try.prog.underlying 25 with | some (.struct fs) => fs.toList.map (fun f => (f.type, f.offset)) | _ => []) = [(2, 0), (2, 1), (22, 2), (23, 3)] := by kernel_rfl
theorem kindO : (match Try.prog.underlying 27 with | some (.struct fs) => fs.toList.map (fun f => (f.type, f.offset)) | _ => []) = [(2, 0), (2, 1), (2, 2)] := by kernel_rfl
theorem kindT : (match Try.prog.underlying 69 with | some (.struct fs) => fs.toList.map (fun f => (f.type, f.offset)) | _ => []) = [(2, 0), (2, 1), (2, 2), (2, 3), (2, 4), (2, 5), (2, 6), (2, 7)] := by kernel_rfl
theorem kindL : (match Try.prog.underlying 71 with | some (.struct fs) => fs.toList.map (fun f => (f.type, f.offset)) | _ => []) = [(2, 0), (2, 1)] := by kernel_rfl
theorem cellsT : Try.prog.cellsOf 69 = 8 := by kernel_rfl
theorem cellsL : Try.prog.cellsOf 71 = 2 := by kernel_rfl
theorem cells22 : Try.prog.cellsOf 22 = 1 := by kernel_rfl
theorem cells23 : Try.prog.cellsOf 23 = 1 := by kernel_rfl
theorem cells25 : Try.prog.cellsOf 25 = 4 := by kernel_rfl
theorem cells27 : Try.prog.cellsOf 27 = 3 := by kernel_rfl
theorem cells2 : Try.prog.cellsOf 2 = 1 := by kernel_rfl
theorem kind2 : (match Try.prog.underlying 2 with | some (.int .i64) => true | _ => false) = true := by kernel_rfl
theorem und2 : Try.prog.underlying 2 = some (.int .i64) := by
  have := kind2
  split at this
  · assumption
  · cases this
theorem kind22 : (match Try.prog.underlying 22 with | some (.slice e) => e | _ => 0) = 69 := by kernel_rfl
theorem und22 : ∃ e, Try.prog.underlying 22 = some (.slice e) ∧ e = 69 := by
  have := kind22
  split at this
  · rename_i e h; exact ⟨e, h, this⟩
  · cases this
theorem kind23 : (match Try.prog.underlying 23 with | some (.slice e) => e | _ => 0) = 71 := by kernel_rfl
theorem und23 : ∃ e, Try.prog.underlying 23 = some (.slice e) ∧ e = 71 := by
  have := kind23
  split at this
  · rename_i e h; exact ⟨e, h, this⟩
  · cases this
theorem struct_of {t : TypeId} {l : List (TypeId × Nat)} (h : (match Try.prog.underlying t with | some (.struct fs) => fs.toList.map (fun f => (f.type, f.offset)) | _ => []) = l) (ne : l ≠ []) :
    ∃ fs : Array Field, Try.prog.underlying t = some (.struct fs) ∧ fs.toList.map (fun f => (f.type, f.offset)) = l := by
  split at h
  · rename_i fs e; exact ⟨fs, e, h⟩
  · exact absurd h.symm ne
variable {H : Type} {enc : TypeId × Value → H} {w : World} {sp : Nat → Bool} {held : Bool}
/-- a struct's parts, one by one -/
theorem parts {t : TypeId} {l : List (TypeId × Nat)} (h : (match Try.prog.underlying t with | some (.struct fs) => fs.toList.map (fun f => (f.type, f.offset)) | _ => []) = l) (ne : l ≠ [])
    {fuel : Nat} {cs : List Value} {y : DataW H × List MemPlace} (ht : DataW.trod enc Try.prog w 0 sp held fuel t cs = some y) :
    cs.length = Try.prog.cellsOf t ∧ ∃ n, ∀ (i : Nat) (u : TypeId) (o : Nat), l[i]? = some (u, o) → ∃ z, DataW.trod enc Try.prog w 0 sp held n u ((cs.drop o).take (Try.prog.cellsOf u)) = some z := by
  obtain ⟨fs, e1, e2⟩ := struct_of h ne
  obtain ⟨xs, n, rfl, rfl, hl, hx, hp⟩ := DataW.trod_struct e1 ht
  refine ⟨hl, n, fun i u o hi => ?_⟩
  rw [← e2, List.getElem?_map] at hi
  obtain ⟨f, hf, e⟩ := Option.map_eq_some_iff.mp hi
  have hf' : fs[i]? = some f := by rw [← hf]; simp
  have := hp i f hf'
  injection e with ea eb
  rw [ea, eb] at this
  have il : i < xs.length := by
    rw [hx]; exact (Array.getElem?_eq_some_iff.mp hf').1
  exact ⟨_, this.trans (List.getElem?_eq_getElem il)⟩
theorem int_part {n : Nat} {cs : List Value} {o : Nat} {z : DataW H × List MemPlace} (h : DataW.trod enc Try.prog w 0 sp held n 2 ((cs.drop o).take (Try.prog.cellsOf 2)) = some z) : ∃ m, cs[o]? = some (.int .i64 m) ∧ True := by
  rw [cells2] at h
  obtain ⟨m, e, _, wf⟩ := DataW.trod_int und2 h
  refine ⟨m, ?_, ?_⟩
  · have := congrArg (fun l => l[0]?) e
    simpa [List.getElem?_take] using this
  · trivial
theorem openT (n : Nat) (cs : List Value) (y : DataW H × List MemPlace) (h : DataW.trod enc Try.prog w 0 sp held n 69 cs = some y) : ∃ x, cs = encT x ∧ True := by
  obtain ⟨hl, m, hp⟩ := parts kindT (by simp) h
  rw [cellsT] at hl
  obtain ⟨_, h0⟩ := hp 0 2 0 rfl
  obtain ⟨_, h1⟩ := hp 1 2 1 rfl
  obtain ⟨_, h2⟩ := hp 2 2 2 rfl
  obtain ⟨_, h3⟩ := hp 3 2 3 rfl
  obtain ⟨_, h4⟩ := hp 4 2 4 rfl
  obtain ⟨_, h5⟩ := hp 5 2 5 rfl
  obtain ⟨_, h6⟩ := hp 6 2 6 rfl
  obtain ⟨_, h7⟩ := hp 7 2 7 rfl
  obtain ⟨z0, c0, _⟩ := int_part h0
  obtain ⟨z1, c1, _⟩ := int_part h1
  obtain ⟨z2, c2, _⟩ := int_part h2
  obtain ⟨z3, c3, _⟩ := int_part h3
  obtain ⟨z4, c4, _⟩ := int_part h4
  obtain ⟨z5, c5, _⟩ := int_part h5
  obtain ⟨z6, c6, _⟩ := int_part h6
  obtain ⟨z7, c7, _⟩ := int_part h7
  refine ⟨⟨z0, z1, z2, z3, z4, z5, z6, z7⟩, ?_, trivial⟩
  match cs, hl with
  | [v0, v1, v2, v3, v4, v5, v6, v7], _ =>
    simp at c0 c1 c2 c3 c4 c5 c6 c7
    subst c0 c1 c2 c3 c4 c5 c6 c7
    rfl
theorem openL (n : Nat) (cs : List Value) (y : DataW H × List MemPlace) (h : DataW.trod enc Try.prog w 0 sp held n 71 cs = some y) : ∃ x, cs = encL x ∧ True := by
  obtain ⟨hl, m, hp⟩ := parts kindL (by simp) h
  rw [cellsL] at hl
  obtain ⟨_, h0⟩ := hp 0 2 0 rfl
  obtain ⟨_, h1⟩ := hp 1 2 1 rfl
  obtain ⟨z0, c0, _⟩ := int_part h0
  obtain ⟨z1, c1, _⟩ := int_part h1
  refine ⟨⟨z0, z1⟩, ?_, trivial⟩
  match cs, hl with
  | [v0, v1], _ =>
    simp at c0 c1
    subst c0 c1
    rfl
theorem openS {v : Value} {d : DataW H} {ps : List MemPlace} (ha : ∃ cs : Array Value, v = .agg cs) (h : DataW.Trod enc Try.prog w 0 sp held 25 v d ps) :
    ∃ now seq a n c b m d s, v = val now seq a n c b m d ∧ RdS w.heap now seq a n b m s := by
  obtain ⟨cs, rfl⟩ := ha
  obtain ⟨fuel, h⟩ := h
  have h : DataW.trod enc Try.prog w 0 sp held fuel 25 cs.toList = some (d, ps) := h
  obtain ⟨hl, m, hp⟩ := parts kindS (by simp) h
  obtain ⟨_, h0⟩ := hp 0 2 0 rfl
  obtain ⟨_, h1⟩ := hp 1 2 1 rfl
  obtain ⟨_, h2⟩ := hp 2 22 2 rfl
  obtain ⟨_, h3⟩ := hp 3 23 3 rfl
  rw [cells25] at hl
  rw [cells22] at h2
  rw [cells23] at h3
  obtain ⟨z0, c0, _⟩ := int_part h0
  obtain ⟨z1, c1, _⟩ := int_part h1
  obtain ⟨e2, ue2, rfl⟩ := und22
  obtain ⟨e3, ue3, rfl⟩ := und23
  obtain ⟨a, n, c, xs, hc2, hs2, _⟩ := open_slice encT (fun _ => True) (by omega) (fun n cs y => openT n cs y) ue2 cellsT h2
  obtain ⟨b, m, d, ys, hc3, hs3, _⟩ := open_slice encL (fun _ => True) (by omega) (fun n cs y => openL n cs y) ue3 cellsL h3
  refine ⟨z0, z1, a, n, c, b, m, d, ⟨z0, z1, xs, ys⟩, ?_, ⟨rfl, rfl, hs2, hs3⟩⟩
  obtain ⟨cs⟩ := cs
  match cs, hl with
  | [v0, v1, v2, v3], _ =>
    simp at c0 c1 hc2 hc3
    subst c0 c1 hc2 hc3
    rfl
theorem openO {v : Value} {d : DataW H} {ps : List MemPlace} (ha : ∃ cs : Array Value, v = .agg cs) (h : DataW.Trod enc Try.prog w 0 sp held 27 v d ps) :
    ∃ z0 z1 z2, v = .agg ⟨[.int .i64 z0, .int .i64 z1, .int .i64 z2]⟩ := by
  obtain ⟨cs, rfl⟩ := ha
  obtain ⟨fuel, h⟩ := h
  have h : DataW.trod enc Try.prog w 0 sp held fuel 27 cs.toList = some (d, ps) := h
  obtain ⟨hl, m, hp⟩ := parts kindO (by simp) h
  rw [cells27] at hl
  obtain ⟨_, h0⟩ := hp 0 2 0 rfl
  obtain ⟨_, h1⟩ := hp 1 2 1 rfl
  obtain ⟨_, h2⟩ := hp 2 2 2 rfl
  obtain ⟨z0, c0, _⟩ := int_part h0
  obtain ⟨z1, c1, _⟩ := int_part h1
  obtain ⟨z2, c2, _⟩ := int_part h2
  refine ⟨z0, z1, z2, ?_⟩
  obtain ⟨cs⟩ := cs
  match cs, hl with
  | [v0, v1, v2], _ =>
    simp at c0 c1 c2
    subst c0 c1 c2
    rfl
theorem agg_of {t : TypeId} {base : Nat} {r : Reach} {v : Value} {l : List (TypeId × Nat)} (h : (match Try.prog.underlying t with | some (.struct fs) => fs.toList.map (fun f => (f.type, f.offset)) | _ => []) = l) (ne : l ≠ [])
    (ok : Value.okWide Try.prog w r base t v) : ∃ cs : Array Value, v = .agg cs := by
  obtain ⟨fs, e1, _⟩ := struct_of h ne
  unfold Value.okWide at ok
  rw [e1] at ok
  obtain ⟨cs, e, _⟩ := ok
  exact ⟨cs, e⟩
theorem params : Try.f3.params.toList = [25, 27] := by kernel_rfl
theorem results : Try.f3.resultTypes.toList = [4] := by kernel_rfl
theorem rsize : Try.f3.resultTypes.size = 1 := by kernel_rfl
theorem bool4 : (match Try.prog.underlying 4 with | some .bool => true | _ => false) = true := by kernel_rfl
theorem und4 : Try.prog.underlying 4 = some .bool := by
  have := bool4
  split at this
  · assumption
  · cases this
set_option maxRecDepth 100000 in
theorem lifted (os : Os) (started : os.Started) (H : Type) (enc : TypeId × Value → H) :
    ReturnsInHanded {} Try.checked os 3 .any (Rows.fnExactSchedStepSpec.pre6 enc Try.prog Try.f3 Rows.fnExactSchedStepRow.domain false) (Rows.fnExactSchedStepSpec.post enc Try.prog Try.f3 false true false false) := by
  refine returnsInHanded_of_change (C := Try.checked) own started (by kernel_rfl) Try.func3
    (ChangeSpec.witness6 (enc := enc) (C := Try.checked) false ⟨#[], #[.agg #[.int .i64 0, .int .i64 0, .slice none 0 0, .slice none 0 0], .agg #[.int .i64 0, .int .i64 0, .int .i64 0]], []⟩ 8 (by kernel_rfl) (by kernel_rfl) (by kernel_rfl) (by kernel_rfl)) ?_
  intro W base args ds gs before hval hW _ _
  have hval : ∀ (j : Nat) t v, Try.f3.params[j]? = some t → args[j]? = some v → Value.okWide Try.prog W .any base t v := hval
  have hW' := hW
  obtain ⟨p, q, hA, hV, rfl, _, _⟩ := hW
  have hA : DataW.TrodAll enc Try.prog W 0 (fun _ => true) true Try.f3.params.toList args.toList ds p := hA
  rw [params] at hA
  obtain ⟨v0, v1, d0, d1, p0, p1, rfl, rfl, rfl, h0, h1⟩ := trodAll_two hA
  obtain ⟨rfl, rfl⟩ := trodVars_none hV
  simp only [List.append_nil] at hW'
  have hlt : ∀ x ∈ p0 ++ p1, x.block < W.heap.size := fun x hx => by simpa using hW'.lt x hx
  have e0 : Try.f3.params[0]? = some 25 := by kernel_rfl
  have e1 : Try.f3.params[1]? = some 27 := by kernel_rfl
  obtain ⟨now, seq, a, n, c, b, m, d, s, rfl, hs⟩ := openS (agg_of kindS (by simp) (hval 0 25 v0 e0 rfl)) h0
  obtain ⟨z0, z1, z2, rfl⟩ := openO (agg_of kindO (by simp) (hval 1 27 v1 e1 rfl)) h1
  refine (calls_law (law_spec (K := fun v m => v = .bool true ∧ Keep [] W.heap m) hs fun h' k => ⟨rfl, k⟩)).mono fun e W' ⟨v, he, hv, hb⟩ => ⟨v, he, ?_⟩
  subst hv
  refine ⟨[d0, d1], [], p0 ++ p1, [], p0 ++ p1, [], hW', ?_, ?_, rfl, hb.frame _, fun h => by cases h⟩
  · rw [results, rsize]
    exact trodAll_cons_mk (shut_bool und4 true) trodAll_mk0
  · rw [params]
    exact trodAll_mk2 (Below.trod laidOut (by kernel_rfl) (of_decide_eq_true (by kernel_rfl)) h0 hb fun x hx => hlt x (by simp [hx]))
      (Below.trod laidOut (by kernel_rfl) (of_decide_eq_true (by kernel_rfl)) h1 hb fun x hx => hlt x (by simp [hx]))
theorem holds : Rows.FnExactSchedStepSaid :=
  OpenClaim.holds_of_wide 3 Try.f3 rfl rfl rfl rfl rfl rfl rfl ⟨rfl, rfl, rfl, rfl, rfl⟩ rfl rfl rfl rfl rfl (by kernel_rfl) Try.func3 (by kernel_rfl)
    (of_decide_eq_true (by kernel_rfl)) (by unfold Func.isWrapper; first | (rw [if_pos (by decide +kernel)]; kernel_rfl) | (rw [if_neg (by decide +kernel)]; exact ⟨rfl, rfl⟩))
    (fun os started H enc _ => lifted os started H enc)
end Go.Proofs.Yteeinamngmmlbaa.row3
#print axioms Go.Proofs.Yteeinamngmmlbaa.row3.holds
