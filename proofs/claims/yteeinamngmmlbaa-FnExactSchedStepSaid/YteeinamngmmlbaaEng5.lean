import Derived.Test.YteeinamngmmlbaaEng4
import Derived.Laws.AppendOwn
/-! What the evaluator says of one operation is what the machine does: rows, conversions, maps; and all of them. -/
set_option linter.unusedVariables false
set_option linter.unusedSimpArgs false
namespace Go.Eng
open Go

theorem cellsAt_spec {h : H} {b o : Nat} : ∀ {n j : Nat} {cs : List Value}, cellsAt h b (o + j) n = some cs → cs.length = n ∧ rowIs h b o j cs
  | 0, j, cs, hh => by simp only [cellsAt, Option.some.injEq] at hh; subst hh; exact ⟨rfl, trivial⟩
  | n + 1, j, cs, hh => by
    simp only [cellsAt] at hh
    obtain ⟨v, hv, hh⟩ := Option.bind_eq_some_iff.1 hh
    obtain ⟨vs, hvs, rfl⟩ := Option.map_eq_some_iff.1 hh
    obtain ⟨hl, hr⟩ := cellsAt_spec (n := n) (j := j + 1) (by rw [← hvs]; rfl)
    exact ⟨by simp [hl], hv, hr⟩
theorem elems_run {P : Program} {h : H} {size n : Nat} {x : Value} {K : List Value → Prop} (hh : elemsK h size n x K) :
    ∃ cs, (∀ w : World, w.heap = h → (Builtin.firstCells size n x).run P w = .ok ⟨cs⟩ w) ∧ K cs := by
  unfold elemsK at hh
  split at hh
  · exact ⟨[], fun _ _ => rfl, hh⟩
  · rename_i b o l c
    obtain ⟨cs, hcs, hh⟩ := opt_spec hh
    obtain ⟨hl, hr⟩ := cellsAt_spec (o := o) (j := 0) hcs
    refine ⟨cs, fun w hw => ?_, hh⟩
    subst hw
    simp only [Builtin.firstCells, ← hl, run_loadCells_row P w b o cs hr]
  · rename_i s
    refine ⟨_, fun w _ => ?_, hh⟩
    simp only [Builtin.firstCells, Sem.run_pure]
    congr 1
    apply Array.toList_inj.1
    simp [bytesOf, ByteArray.data_extract, List.map_take, List.extract_eq_take_drop]
  · exact hh.elim
theorem len_run {P : Program} {w : World} {x : Value} {K : Nat → Prop} (h : lenK x K) : ∃ n, (Builtin.lenOf x).run P w = .ok n w ∧ K n := by
  unfold lenK at h
  split at h
  · exact ⟨_, rfl, h⟩
  · exact ⟨_, rfl, h⟩
  · exact h.elim
theorem append_res {P : Program} {w : World} {t u ty e : TypeId} {base : Option Addr} {len cap : Nat} {x : Value} {K : Option Addr → Nat → Nat → H → Prop} (ht : P.underlying t = some (.slice e))
    (hu : (∃ e', P.underlying u = some (.slice e')) ∨ P.underlying u = some .string) (h : appendK P e w.heap base len cap x K) :
    ResV w (fun v h => ∃ b l c, v = .slice b l c ∧ K b l c h) ((Builtin.append_ #[t, u] ty #[.slice base len cap, x]).run P w) := by
  obtain ⟨i, hi, h⟩ := opt_spec h
  obtain ⟨z, hz, h⟩ := opt_spec h
  obtain ⟨⟨hs0, hzs⟩, h⟩ := req_spec h
  obtain ⟨n, hn, h⟩ := len_run (P := P) (w := w) h
  obtain ⟨new, hnew0, h⟩ := elems_run (P := P) h
  have hnew := hnew0 w rfl
  by_cases hc : len + n ≤ cap
  · rw [if_pos hc] at h
    split at h
    · rename_i b o
      obtain ⟨w', hr, h1, h2⟩ := stRow_spec (P := P) h
      refine ⟨_, w', ?_, h1, _, _, _, rfl, h2⟩
      rcases hu with ⟨e', hu⟩ | hu <;>
      simp [Builtin.append_, und ht, und hu, size_run hi, hn, hc, hnew, Addr.add_lit, hr]
    · refine ⟨_, w, ?_, Rest.refl w, _, _, _, rfl, h⟩
      rcases hu with ⟨e', hu⟩ | hu <;>
      simp [Builtin.append_, und ht, und hu, size_run hi, hn, hc, hnew]
    · exact h.elim
  · rw [if_neg hc] at h
    obtain ⟨old, hold, h⟩ := elems_run (P := P) h
    obtain ⟨⟨hb, hbig⟩, h⟩ := req_spec h
    have hfit : ¬ Builtin.nextslicecap (len + n) cap * i.bytes > 2 ^ 48 := by
      have := growslice_fits (need := len + n) (old := cap) (bytes := i.bytes) (by omega) hb
      omega
    have hint : ¬ (((len + n : Nat) : Int) > IntKind.i64.max ∧ (i.bytes = 0)) := by
      rw [IntKind.max_i64]; omega
    have hge := grownCap_ge w (len + n) cap e
    have hzc : Builtin.zeroCells z.cells (grownCap w (len + n) cap e - (len + n)) = ⟨zerosL z (grownCap w (len + n) cap e - (len + n))⟩ := zeroCells_mk z _ (by omega)
    refine ⟨_, w.drew.alloc (.cells ⟨old ++ new ++ zerosL z (grownCap w (len + n) cap e - (len + n))⟩ e (0, 0)), ?_, ⟨rfl, rfl, rfl⟩, _, _, _, rfl, h (grownCap w (len + n) cap e) hge⟩
    have ho := hold w.drew rfl
    have hn' := hnew0 w.drew rfl
    simp only [grownCap] at hzc ⊢
    have hi' : ¬ ((len : Int) + (n : Int) > 9223372036854775807 ∧ i.bytes = 0) := by omega
    rcases hu with ⟨e', hu⟩ | hu <;>
    simp [Builtin.append_, und ht, und hu, size_run hi, info_run hi, hn, hc, hfit, Question.forced, ho, hn', zero_run hi hz, hzc, newRow, IntKind.max_i64, hi', List.append_assoc]

theorem copy_res {P : Program} {w : World} {t u ty e : TypeId} {d s : Value} {K : Int → H → Prop} (ht : P.underlying t = some (.slice e)) (h : copyK P e w.heap d s K) :
    ResV w (fun v h => ∃ n, v = .int .i64 n ∧ K n h) ((Builtin.copy_ #[t, u] ty #[d, s]).run P w) := by
  obtain ⟨i, hi, h⟩ := opt_spec h
  obtain ⟨base, dl, c, rfl, h2⟩ := asL_spec h
  clear h
  obtain ⟨sl, hsl, h⟩ := len_run (P := P) (w := w) h2
  obtain ⟨cs, hcs, h⟩ := elems_run (P := P) h
  have hcs := hcs w rfl
  split at h
  · rename_i b o
    obtain ⟨w', hr, h1, h2⟩ := stRow_spec (P := P) h
    refine ⟨_, w', ?_, h1, _, rfl, h2⟩
    simp only [Builtin.copy_, und ht, size_run hi, hsl, hcs, hr, Sem.run_bind, Result.andThen_ok, List.getElem?_toArray, List.getElem?_cons_zero, List.getElem?_cons_succ, Sem.run_pure, goInt]
  · refine ⟨_, w, ?_, Rest.refl w, _, rfl, h⟩
    simp only [Builtin.copy_, und ht, size_run hi, hsl, hcs, Sem.run_bind, Result.andThen_ok, List.getElem?_toArray, List.getElem?_cons_zero, List.getElem?_cons_succ, Sem.run_pure, goInt]
  · exact h.elim
theorem clear_res {P : Program} {w : World} {t ty e : TypeId} {base : Option Addr} {n c : Nat} {K : Value → H → Prop} (ht : P.underlying t = some (.slice e))
    (h : opt (zeroOf P e) fun z => req ((cellsOf z).length ≠ 0) (clearK w.heap z base n fun h => K (.tuple #[]) h)) :
    ResV w K ((Builtin.clear_ #[t] ty #[.slice base n c]).run P w) := by
  obtain ⟨i, z, hi, hz, h⟩ := zeroOf_spec h
  obtain ⟨h0, h⟩ := req_spec h
  unfold clearK at h
  split at h
  · rename_i b o
    obtain ⟨w', hr, h1, h2⟩ := stRow_spec (P := P) h
    refine ⟨_, w', ?_, h1, h2⟩
    cases n with
    | zero =>
      have : w' = w := by simp [zerosL, storeCells] at hr; exact hr.symm
      subst this
      simp [Builtin.clear_, und ht]
    | succ n =>
      simp [Builtin.clear_, und ht, zero_run hi hz, zeroCells_mk z _ h0, hr]
  · refine ⟨_, w, ?_, Rest.refl w, h⟩
    simp [Builtin.clear_, und ht]
  · exact h.elim

theorem strBytes_res {P : Program} {w : World} {e : TypeId} {s : ByteArray} {K : Option Addr → Nat → Nat → H → Prop} (h : strBytesK w.heap e s K) :
    ResV w (fun v h => ∃ b l c, v = .slice b l c ∧ K b l c h) ((Conv.stringToBytes e s).run P w) := by
  obtain ⟨hs, h⟩ := req_spec h
  have hge := grownCap_ge w s.size 0 e
  refine ⟨_, w.drew.alloc (.cells ⟨bytesOf s ++ List.replicate (grownCap w s.size 0 e - s.size) (.int .u8 0)⟩ e (grownCap w s.size 0 e, grownCap w s.size 0 e + 1)), ?_, ⟨rfl, rfl, rfl⟩, _, _, _, rfl, h _ hge⟩
  generalize hA : (⟨bytesOf s ++ List.replicate (grownCap w s.size 0 e - s.size) (.int .u8 0)⟩ : Array Value) = A
  have hel : (s.data.map fun b => Value.int .u8 b.toNat) ++ Array.replicate (grownCap w s.size 0 e - s.size) (Value.int .u8 0) = A := by
    subst hA; apply Array.toList_inj.1; simp [bytesOf]
  have hsz : A.size = grownCap w s.size 0 e := by
    subst hA
    have h0 : (bytesOf s).length = s.size := by simp only [bytesOf, List.length_map, Array.length_toList]; rfl
    show (bytesOf s ++ List.replicate (grownCap w s.size 0 e - s.size) (Value.int .u8 0)).length = _
    rw [List.length_append, List.length_replicate, h0]; omega
  clear hA
  have hsh : (w.drew.alloc (.cells A e (0, 0))).shape? w.heap.size = some (e, grownCap w s.size 0 e) := by
    show (match (w.heap.push (.cells A e (0, 0)))[w.heap.size]? with | some (.cells c elem _) => some (elem, c.size) | _ => none) = _
    rw [Array.getElem?_push_size]; simp [hsz]
  have hfr : (w.drew.alloc (.cells A e (0, 0))).freeze { block := w.heap.size, off := grownCap w s.size 0 e } 1 = w.drew.alloc (.cells A e (grownCap w s.size 0 e, grownCap w s.size 0 e + 1)) := by
    have hm : (w.heap.push (Obj.cells A e (0, 0))).modify w.heap.size (fun
        | .cells c elem (lo, hi) => .cells c elem (if lo == hi then (grownCap w s.size 0 e, grownCap w s.size 0 e + 1) else (min lo (grownCap w s.size 0 e), max hi (grownCap w s.size 0 e + 1)))
        | o => o) = w.heap.push (.cells A e (grownCap w s.size 0 e, grownCap w s.size 0 e + 1)) := by
      apply Array.ext_getElem?
      intro i
      simp only [Array.getElem?_modify, Array.getElem?_push]
      by_cases hi : w.heap.size = i
      · subst hi; simp
      · have hi' : ¬ i = w.heap.size := fun e => hi e.symm
        simp only [hi, hi', if_false]
    unfold World.freeze
    simp only [show ¬ (1 : Nat) = 0 by decide, if_false]
    show ({ heap := (w.heap.push (Obj.cells A e (0, 0))).modify w.heap.size _, tape := w.tape, drawn := w.drawn + 1, os := w.os, output := w.output } : World) = _
    exact congrArg (fun h => ({ heap := h, tape := w.tape, drawn := w.drawn + 1, os := w.os, output := w.output } : World)) hm
  have hno : ({ heap := w.heap.push (.cells A e (0, 0)), tape := w.tape, drawn := w.drawn + 1, os := w.os, output := w.output } : World) = w.drew.alloc (.cells A e (0, 0)) := rfl
  simp only [grownCap] at hel hsh hfr ⊢
  simp only [Conv.stringToBytes, Sem.run_bind, run_choose, Question.forced, Bool.false_eq_true, if_false, Result.andThen_ok, hel, newRow, run_newObj, Sem.run_pure, markStringish, run_shape, hno, hsh, run_freeze, hfr]

theorem bytesV_spec : ∀ {cs : List Value} {l : List UInt8}, bytesV cs = some l → ∃ ns : List Int, cs = ns.map (Value.int .u8) ∧ l = ns.map fun n => UInt8.ofNat n.toNat
  | [], l, h => by simp only [bytesV, Option.some.injEq] at h; subst h; exact ⟨[], rfl, rfl⟩
  | v :: cs, l, h => by
    unfold bytesV at h
    split at h
    · rename_i e; cases e
    · rename_i n r e
      simp only [List.cons.injEq] at e
      obtain ⟨rfl, rfl⟩ := e
      obtain ⟨l', hl', rfl⟩ := Option.map_eq_some_iff.1 h
      obtain ⟨ns, rfl, rfl⟩ := bytesV_spec hl'
      exact ⟨n :: ns, rfl, rfl⟩
    · simp at h
end Go.Eng
