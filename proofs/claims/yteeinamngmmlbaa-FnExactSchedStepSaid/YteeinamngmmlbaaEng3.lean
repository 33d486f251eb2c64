import Derived.Test.YteeinamngmmlbaaEng2
import Derived.Laws.Tables
import Derived.Laws.Append
/-! What the evaluator says of one operation is what the machine does: what is built, rows, numbers. -/
set_option linter.unusedVariables false
set_option linter.unusedSimpArgs false
namespace Go.Eng
open Go

theorem fold_set (off : Nat) : ∀ (vs : List Value) (k : Nat) (cs : Array Value), off + k + vs.length ≤ cs.size →
    ((vs.zipIdx k).foldl (fun cs x => cs.setIfInBounds (off + x.2) x.1) cs).toList = cs.toList.take (off + k) ++ vs ++ cs.toList.drop (off + k + vs.length)
  | [], k, cs, _ => by simp
  | v :: vs, k, cs, h => by
    simp only [List.length_cons] at h
    rw [List.zipIdx_cons, List.foldl_cons, fold_set off vs (k + 1) _ (by simp; omega)]
    have h1 : (cs.setIfInBounds (off + k) v).toList = cs.toList.set (off + k) v := by simp
    have hk : off + k < cs.toList.length := by simp; omega
    rw [h1, show off + (k + 1) = off + k + 1 by omega, List.take_add_one, List.getElem?_set_self hk, List.take_set_of_le (Nat.le_refl _), List.drop_set_of_lt (by omega)]
    simp [show off + k + 1 + vs.length = off + k + (vs.length + 1) by omega]

theorem fill_eq (pl : Nat → Option (Nat × Nat)) : ∀ (parts : List (Nat × Value)) (cells cs : List Value), fillL pl cells parts = some cs → Instr.fill pl ⟨cells⟩ parts = some ⟨cs⟩
  | [], cells, cs, h => by simp only [fillL, Option.some.injEq] at h; subst h; rfl
  | (i, v) :: rest, cells, cs, h => by
    simp only [fillL] at h
    simp only [Instr.fill]
    cases hp : pl i with
    | none => rw [hp] at h; simp at h
    | some x =>
      obtain ⟨off, size⟩ := x
      rw [hp] at h
      simp only at h ⊢
      split at h
      · rename_i hb
        have hb1 : (cellsOf v).length = size := Nat.eq_of_beq_eq_true (by rw [Bool.and_eq_true] at hb; exact hb.1)
        have hb2 : off + size ≤ cells.length := Nat.le_of_ble_eq_true (by rw [Bool.and_eq_true] at hb; exact hb.2)
        have hs : v.cells.size = size := by rw [← hb1, ← cells_eq]; simp
        have hc : ¬ (v.cells.size ≠ size || off + v.cells.size > (⟨cells⟩ : Array Value).size) = true := by
          simp [hs]; omega
        rw [if_neg (by simpa using hc)]
        have key : Array.foldl (fun cs x => cs.setIfInBounds (off + x.2) x.1) (⟨cells⟩ : Array Value) v.cells.zipIdx = ⟨cells.take off ++ cellsOf v ++ cells.drop (off + size)⟩ := by
          apply Array.toList_inj.1
          rw [← Array.foldl_toList, Array.toList_zipIdx, cells_eq]
          have := fold_set off (cellsOf v) 0 ⟨cells⟩ (by simp; omega)
          simpa [hb1] using this
        have := fill_eq pl rest _ cs h
        rw [← key] at this
        exact this
      · simp at h

theorem places_run {P : Program} (w : World) : ∀ (fs : List Field), (fs.all fun f => (P.info? f.type).isSome) = true →
    (fs.mapM fun (f : Field) => Prod.mk f.offset <$> sizeOf f.type).run P w = .ok (fs.map fun (f : Field) => (f.offset, P.cellsOf f.type)) w
  | [], _ => rfl
  | f :: fs, h => by
    simp only [List.all_cons, Bool.and_eq_true] at h
    obtain ⟨i, hi⟩ := Option.isSome_iff_exists.1 h.1
    simp only [List.mapM_cons, Sem.run_bind, Sem.run_map, size_run hi, Result.andThen_ok, places_run w fs h.2, Sem.run_pure, List.map_cons, Program.cellsOf, hi, Option.map_some, Option.getD_some]
theorem build_res {P : Program} {w : World} {t : TypeId} {parts : List (Nat × Value)} {K : Value → H → Prop} (h : buildK P t parts fun v => K v w.heap) :
    ResQ w K ((Instr.build t ⟨parts⟩).run P w) := by
  obtain ⟨i, z, hi, hz, h⟩ := zeroOf_spec h
  split at h
  · rename_i fs hu
    rcases ifB_spec h with ⟨hall, h⟩ | ⟨_, h⟩
    · obtain ⟨cs, hcs, h⟩ := opt_spec h
      refine ⟨_, w, ?_, rfl, h⟩
      have hf := fill_eq _ _ _ _ hcs
      have hp : (fun (i : Nat) => (fs.toList[i]?).map fun (f : Field) => (f.offset, P.cellsOf f.type)) = fun i => (fs.toList.map fun f => (f.offset, P.cellsOf f.type)).toArray[i]? := by
        funext i; simp
      rw [hp, ← cells_mk] at hf
      simp only [Instr.build, Sem.run_bind, zero_run hi hz, und hu, Result.andThen_ok]
      have hm := places_run (P := P) w fs.toList hall
      simp only [map_eq_pure_bind] at hm
      rw [Array.mapM_eq_mapM_toList]
      simp only [Sem.run_map, hm, Result.andThen_ok]
      rw [hf]
      rfl
    · exact h.elim
  · rename_i n e hu
    obtain ⟨i', hi', h⟩ := opt_spec h
    obtain ⟨cs, hcs, h⟩ := opt_spec h
    refine ⟨_, w, ?_, rfl, h⟩
    have hf := fill_eq _ _ _ _ hcs
    rw [← cells_mk] at hf
    simp only [Instr.build, Sem.run_bind, zero_run hi hz, und hu, Result.andThen_ok, size_run hi']
    rw [hf]
    rfl
  · exact h.elim

theorem range_mod (z : List Value) (n : Nat) (hz : z.length ≠ 0) : (Array.range (n * z.length)).map (fun i => (⟨z⟩ : Array Value)[i % z.length]!) = ⟨(List.replicate n z).flatten⟩ := by
  apply Array.ext_getElem?
  intro i
  simp only [Array.getElem?_map, Array.getElem?_range]
  have h1 : (⟨(List.replicate n z).flatten⟩ : Array Value)[i]? = (List.replicate n z).flatten[i]? := by simp
  rw [h1]
  clear h1
  induction n generalizing i with
  | zero => simp
  | succ n ih =>
    rw [List.replicate_succ, List.flatten_cons, List.getElem?_append]
    by_cases hi : i < z.length
    · rw [if_pos hi, if_pos (by rw [Nat.succ_mul]; omega)]
      simp [hi, Nat.mod_eq_of_lt hi]
    · rw [if_neg hi, ← ih (i - z.length)]
      by_cases h2 : i < (n + 1) * z.length
      · rw [if_pos h2, if_pos (by rw [Nat.succ_mul] at h2; omega)]
        simp only [Option.map_some, Option.some.injEq]
        congr 1
        rw [Nat.mod_eq_sub_mod (by omega)]
      · rw [if_neg h2, if_neg (by rw [Nat.succ_mul] at h2; omega)]
theorem zeros_mk (z : Value) (n s : Nat) (hs : (cellsOf z).length = s) (h0 : s ≠ 0) : (Array.range (n * s)).map (fun i => z.cells[i % s]!) = ⟨zerosL z n⟩ := by
  subst hs
  rw [cells_mk]
  exact range_mod (cellsOf z) n h0
theorem zeroCells_mk (z : Value) (n : Nat) (h0 : (cellsOf z).length ≠ 0) : Builtin.zeroCells z.cells n = ⟨zerosL z n⟩ := by
  have hs : z.cells.size = (cellsOf z).length := by rw [← cells_eq]; simp
  unfold Builtin.zeroCells
  rw [hs]
  exact zeros_mk z n _ rfl h0
theorem zerosL_length (z : Value) (n : Nat) : (zerosL z n).length = n * (cellsOf z).length := by simp [zerosL]
end Go.Eng
