import Derived.Test.YteeinamngmmlbaaEng1
/-! What the evaluator says of one operation is what the machine does: the operations one by one. -/
set_option linter.unusedVariables false
set_option linter.unusedSimpArgs false
namespace Go.Eng
open Go

theorem info_run {P : Program} {t : TypeId} {i : TypeInfo} (h : P.info? t = some i) (w : World) : (typeInfo t).run P w = .ok i w := by simp [typeInfo, h]
theorem size_run {P : Program} {t : TypeId} {i : TypeInfo} (h : P.info? t = some i) (w : World) : (sizeOf t).run P w = .ok i.size w := by simp [sizeOf, info_run h]
theorem zero_run {P : Program} {t : TypeId} {i : TypeInfo} {z : Value} (h : P.info? t = some i) (hz : i.zero = some z) (w : World) : (zeroValue t).run P w = .ok z w := by simp [zeroValue, info_run h, hz]
theorem zeroOf_spec {P : Program} {t : TypeId} {K : Value → Prop} (h : opt (zeroOf P t) K) : ∃ i z, P.info? t = some i ∧ i.zero = some z ∧ K z := by
  obtain ⟨z, hz, h⟩ := opt_spec h
  obtain ⟨i, hi, hz⟩ := Option.bind_eq_some_iff.1 hz
  exact ⟨i, z, hi, hz, h⟩
theorem cells_eq (v : Value) : v.cells.toList = cellsOf v := by cases v <;> rfl
theorem cells_mk (v : Value) : v.cells = ⟨cellsOf v⟩ := by cases v <;> rfl

theorem loadAt_res {P : Program} {w : World} {b o : Nat} {t : TypeId} {K : Value → H → Prop} (h : ldT P w.heap b o t fun v => K v w.heap) :
    ResQ w K ((Instr.loadAt t (.pointer (some ⟨b, o, none⟩))).run P w) := by
  unfold ldT at h
  have hone : ∀ d, P.underlying t = some d → aggD d = false → ldF w.heap b o (shape P 5 t) (cur (shape P 5 t) fun v => K v w.heap) →
      ResQ w K ((Instr.loadAt t (.pointer (some ⟨b, o, none⟩))).run P w) := by
    intro d hd hf h
    obtain ⟨v, hv, h⟩ := ldF_spec h
    rw [← cell?_eq] at hv
    refine ⟨v, w, ?_, rfl, h⟩
    simp only [Instr.loadAt, Instr.sureAddr, loadVar, Sem.run_bind, Sem.run_pure, Result.andThen_ok, isAgg_run P t w d hd, hf]
    simp [hv]
  have hrow : ∀ d, P.underlying t = some d → aggD d = true → ∀ l, opt (P.info? t) (fun i => ifB (Nat.beq l.length i.size) (ldRow w.heap b o 0 l (curL l fun vs => K (.agg ⟨vs⟩) w.heap)) False) →
      ResQ w K ((Instr.loadAt t (.pointer (some ⟨b, o, none⟩))).run P w) := by
    intro d hd hf l h
    obtain ⟨i, hi, h⟩ := opt_spec h
    rcases ifB_spec h with ⟨hl, h⟩ | ⟨_, h⟩
    · obtain ⟨vs, hlen, hr, h⟩ := ldRow_spec h
      have hl : l.length = i.size := Nat.eq_of_beq_eq_true hl
      refine ⟨.agg ⟨vs⟩, w, ?_, rfl, h⟩
      simp only [Instr.loadAt, Instr.sureAddr, loadVar, Sem.run_bind, Sem.run_pure, Result.andThen_ok, isAgg_run P t w d hd, hf, if_true, size_run hi]
      rw [← hl, ← hlen, run_loadCells_row P w b o vs hr]
      rfl
    · exact h.elim
  cases hu : P.underlying t with
  | none => rw [hu] at h; exact h.elim
  | some d =>
    rw [hu] at h
    cases d with
    | struct fs =>
      simp only at h
      split at h
      · exact hrow _ hu rfl _ h
      · exact h.elim
    | array n e =>
      simp only at h
      split at h
      · exact hrow _ hu rfl _ h
      · exact h.elim
    | _ => exact hone _ hu rfl h

theorem stV_spec {P : Program} {w : World} {b o : Nat} {v : Value} {K : H → Prop} (h : stV w.heap b o v K) :
    ∃ w', (storeCells ⟨b, o, none⟩ v.cells.toList).run P w = .ok () w' ∧ Rest w w' ∧ K w'.heap := by
  have hone : ∀ v : Value, ifB (one v) (st w.heap b o v K) False → ∃ w', (storeCells ⟨b, o, none⟩ [v]).run P w = .ok () w' ∧ Rest w w' ∧ K w'.heap := by
    intro v h
    rcases ifB_spec h with ⟨h1, h⟩ | ⟨_, h⟩
    · obtain ⟨hw, hK⟩ := h
      refine ⟨w.setCell ⟨b, o, none⟩ v, ?_, setCell_rest w _ v, by rw [put_eq]; exact hK⟩
      simp only [storeCells, Sem.run_bind, Addr.add_lit, Nat.add_zero, run_store_put P w b o v h1 hw, Result.andThen_ok, Sem.run_pure]
    · exact h.elim
  cases v with
  | agg c => exact stRow_spec h
  | tuple c => exact h.elim
  | _ => exact hone _ h
theorem storeAt_res {P : Program} {w : World} {b o : Nat} {t : TypeId} {x : Value} {K : H → Prop} (h : szK P t fun s => ifB (Nat.beq (cellsOf x).length s) (stV w.heap b o x K) False) :
    ∃ w', (Instr.storeAt t (.pointer (some ⟨b, o, none⟩)) x).run P w = .ok () w' ∧ Rest w w' ∧ K w'.heap := by
  obtain ⟨i, hi, h⟩ := opt_spec h
  rcases ifB_spec h with ⟨hl, h⟩ | ⟨_, h⟩
  · have hl : (cellsOf x).length = i.size := Nat.eq_of_beq_eq_true hl
    obtain ⟨w', hr, h1, h2⟩ := stV_spec (P := P) h
    refine ⟨w', ?_, h1, h2⟩
    have hs : x.cells.size = i.size := by rw [← hl, ← cells_eq]; simp
    simp only [Instr.storeAt, Instr.sureAddr, storeVar, Sem.run_bind, Sem.run_pure, Result.andThen_ok, size_run hi, hs, ne_eq, not_true, if_false, hr]
  · exact h.elim
theorem new_res {P : Program} {w : World} {cs : List Value} {t : TypeId} {K : Value → H → Prop} (h : new w.heap cs t fun b h => K (.pointer (some ⟨b, 0, none⟩)) h) :
    ResV w K ((do pure (Value.pointer (some (← newRow t ⟨cs⟩))) : Sem Value).run P w) :=
  ⟨_, { w with heap := w.heap.push (.cells ⟨cs⟩ t) }, rfl, ⟨rfl, rfl, rfl⟩, h⟩

theorem fieldAt_res {P : Program} {w : World} {b o : Nat} {t : TypeId} {f : Nat} {K : Value → H → Prop} (h : fieldOf P t f fun off _ => K (.pointer (some ⟨b, o + off, none⟩)) w.heap) :
    ResQ w K ((Instr.fieldAt t (.pointer (some ⟨b, o, none⟩)) f).run P w) := by
  unfold fieldOf at h
  split at h
  · rename_i fs hu
    obtain ⟨x, hx, h⟩ := opt_spec h
    obtain ⟨i, hi, h⟩ := opt_spec h
    rcases ifB_spec h with ⟨_, h⟩ | ⟨hs, h⟩
    · exact h.elim
    · have hs : ¬ i.size = 0 := fun e => by rw [e] at hs; exact absurd hs (by decide)
      refine ⟨_, w, ?_, rfl, h⟩
      have hx' : fs[f]? = some x := by rw [← Array.getElem?_toList]; exact hx
      simp only [Instr.fieldAt, Instr.sureAddr, fieldPlace, Sem.run_bind, und hu, Sem.run_pure, Result.andThen_ok, hx', size_run hi, hs, if_false, Addr.add_lit]
  · exact h.elim
theorem indexAt_res {P : Program} {w : World} {t : TypeId} {x i : Value} {K : Value → H → Prop} (h : indexK P t x i fun b o => K (.pointer (some ⟨b, o, none⟩)) w.heap) :
    ResQ w K ((Instr.indexAt t x i).run P w) := by
  unfold indexK at h
  split at h
  · rename_i k n
    split at h
    · rename_i e hu
      obtain ⟨i, hi, h⟩ := opt_spec h
      obtain ⟨base, len, c, rfl, h⟩ := asL_spec h
      obtain ⟨hb, h⟩ := req_spec h
      obtain ⟨b, o, rfl, h⟩ := nz_spec h
      refine ⟨_, w, ?_, rfl, h⟩
      simp only [Instr.indexAt, asIntOf, Sem.run_bind, und hu, Sem.run_pure, Result.andThen_ok, hb, and_self, if_true, size_run hi, Addr.add_lit]
    · rename_i len e hu
      obtain ⟨i, hi, h⟩ := opt_spec h
      obtain ⟨b, o, rfl, h⟩ := deref_spec h
      obtain ⟨hb, h⟩ := req_spec h
      refine ⟨_, w, ?_, rfl, h⟩
      simp only [Instr.indexAt, asIntOf, Instr.sureAddr, Sem.run_bind, und hu, Sem.run_pure, Result.andThen_ok, hb, and_self, if_true, size_run hi, Addr.add_lit]
    · exact h.elim
  · exact h.elim

theorem bound_spec {P : Program} {w : World} {x : Option Value} {d y : Nat} {code : BoundsCode} {K : Nat → Prop} (h : bound x d y K) :
    ∃ n, (match x with | some v => Instr.sliceBound v y code | none => (Pure.pure d : Sem Nat)).run P w = .ok n w ∧ K n := by
  unfold bound at h
  split at h
  · exact ⟨d, rfl, h⟩
  · rename_i k i
    obtain ⟨hb, h⟩ := req_spec h
    exact ⟨i.toNat, by simp only [Instr.sliceBound, asIntOf, Sem.run_bind, Sem.run_pure, Result.andThen_ok, hb, and_self, if_true], h⟩
  · exact h.elim
theorem slB_eq {a : Option Addr} (ha : plainA a = true) (l m s : Nat) : (if m = l then a else a.map (·.add (l * s))) = slB a l m s := by
  unfold slB
  split
  · rfl
  · match a, ha with
    | none, _ => rfl
    | some ⟨b, o, none⟩, _ => simp [Addr.add_lit]
    | some ⟨b, o, some x⟩, ha => simp [plainA] at ha
theorem slice_res {P : Program} {w : World} {t : TypeId} {x : Value} {lo hi mx : Option Value} {K : Value → H → Prop} (h : sliceK P t x lo hi mx fun v => K v w.heap) :
    ResQ w K ((Instr.sliceAt t x lo hi mx).run P w) := by
  unfold sliceK at h
  split at h
  · rename_i hu
    obtain ⟨s, rfl, h2⟩ := asS_spec h
    clear h
    split at h2
    · exact h2.elim
    · obtain ⟨h1, hr1, h⟩ := bound_spec (P := P) (w := w) (code := .sliceAlen) h2
      obtain ⟨l1, hr2, h⟩ := bound_spec (P := P) (w := w) (code := .sliceB) h
      refine ⟨_, w, ?_, rfl, h⟩
      simp only [Instr.sliceAt, Instr.slice, Instr.sliceBounds, Sem.run_bind, und hu, Result.andThen_ok, Option.isSome_none, Bool.false_eq_true, if_false, Sem.run_pure]
      cases hi <;> cases lo <;> simp_all
  · rename_i e hu
    rcases ifB_spec h with ⟨hm, h⟩ | ⟨_, h⟩
    · obtain ⟨i, hi', h⟩ := opt_spec h
      obtain ⟨a, len, cap, rfl, h2⟩ := asL_spec h
      clear h
      obtain ⟨m1, hr0, h⟩ := bound_spec (P := P) (w := w) (code := .slice3Acap) h2
      obtain ⟨h1, hr1, h⟩ := bound_spec (P := P) (w := w) (code := if mx.isSome then .slice3B else .sliceAcap) h
      obtain ⟨l1, hr2, h⟩ := bound_spec (P := P) (w := w) (code := if mx.isSome then .slice3C else .sliceB) h
      obtain ⟨hp, h⟩ := req_spec h
      refine ⟨_, w, ?_, rfl, h⟩
      rw [← slB_eq hp]
      simp only [Instr.sliceAt, Instr.slice, Instr.sliceBounds, Sem.run_bind, und hu, Result.andThen_ok, Sem.run_pure, size_run hi']
      cases mx <;> cases hi <;> cases lo <;> simp_all [size_run hi']
    · exact h.elim
  · exact h.elim
end Go.Eng
