import Derived.Test.YteeinamngmmlbaaEng6
/-! What the evaluator says of one operation is what the machine does: all of them. -/
set_option linter.unusedVariables false
set_option linter.unusedSimpArgs false
namespace Go.Eng
open Go

theorem Res.of_v {P : Program} {w : World} {K : Value → H → Prop} {s : Sem Value} {r : Result Value} (hr : s.run P w = r) (h : ResV w K r) : Res P w K ((do pure (Next.value (← s)) : Sem Next).run P w) :=
  Res.of_value (hr ▸ h)
theorem Res.of_unit {P : Program} {w : World} {K : Value → H → Prop} {s : Sem Unit} (h : ∃ w', s.run P w = .ok () w' ∧ Rest w w' ∧ K undef w'.heap) : Res P w K ((do s; pure Next.skip : Sem Next).run P w) := by
  obtain ⟨w', hr, h1, h2⟩ := h
  simp only [Sem.run_bind, hr, Result.andThen_ok, Sem.run_pure]
  exact ⟨h1, h2⟩
theorem ResV.mono {w : World} {K K' : Value → H → Prop} {r : Result Value} (h : ResV w K r) (hk : ∀ v h, K v h → K' v h) : ResV w K' r := by
  obtain ⟨v, w', h1, h2, h3⟩ := h
  exact ⟨v, w', h1, h2, hk _ _ h3⟩

theorem len_res {P : Program} {w : World} {t ty : TypeId} {x : Value} {K : Value → H → Prop} (h : builtinK P .len [t] [x] w.heap K) : ResQ w K ((Builtin.len_ #[t] ty #[x]).run P w) := by
  have h : (match P.underlying t with
    | some .string => asS x fun s => K (.int .i64 s.size) w.heap
    | some (.slice _) => asL x fun _ n _ => K (.int .i64 n) w.heap
    | some (.map _ _) => asM x fun r => ldMap w.heap r fun es _ => K (.int .i64 es.size) w.heap
    | some (.array n _) => K (.int .i64 n) w.heap
    | _ => False) := h
  split at h
  · rename_i hu
    obtain ⟨s, rfl, h2⟩ := asS_spec h
    exact ⟨_, w, by simp [Builtin.len_, und hu, goInt], rfl, h2⟩
  · rename_i e hu
    obtain ⟨b, n, c, rfl, h2⟩ := asL_spec h
    exact ⟨_, w, by simp [Builtin.len_, und hu, goInt], rfl, h2⟩
  · rename_i k e hu
    obtain ⟨r, rfl, h2⟩ := asM_spec h
    obtain ⟨es, c, h3, hor⟩ := ldMap_spec h2
    rcases hor with ⟨rfl, rfl⟩ | ⟨b, rfl, hb⟩
    · exact ⟨_, w, by simp [Builtin.len_, und hu, goInt], rfl, h3⟩
    · exact ⟨_, w, by simp [Builtin.len_, und hu, goInt, getObj_run hb], rfl, h3⟩
  · rename_i n e hu
    exact ⟨_, w, by simp [Builtin.len_, und hu, goInt], rfl, h⟩
  · exact h.elim
theorem toArr1 {α : Type} (a : Array α) {x : α} (h : a.toList = [x]) : a = #[x] := by cases a; simp_all
theorem toArr2 {α : Type} (a : Array α) {x y : α} (h : a.toList = [x, y]) : a = #[x, y] := by cases a; simp_all

theorem builtin_res {P : Program} {w : World} {b : Builtin} {ts : Array TypeId} {ty : TypeId} {cs : Array Bool} {args : Array Value} {K : Value → H → Prop} (h : builtinK P b ts.toList args.toList w.heap K) :
    Res P w K ((builtin b ts ty cs args).run P w) := by
  unfold builtinK at h
  split at h
  · rename_i t x ht hx
    rw [toArr1 _ ht, toArr1 _ hx]
    exact Res.of_value (len_res h).toV
  · rename_i t u s x ht hx
    rw [toArr2 _ ht, toArr2 _ hx]
    split at h
    · rename_i e e' h1 h2
      obtain ⟨base, l, c, rfl, h3⟩ := asL_spec h
      exact Res.of_value ((append_res h1 (.inl ⟨_, h2⟩) h3).mono fun v h ⟨b, l, c, e, hk⟩ => e ▸ hk)
    · rename_i e h1 h2
      obtain ⟨base, l, c, rfl, h3⟩ := asL_spec h
      exact Res.of_value ((append_res h1 (.inr h2) h3).mono fun v h ⟨b, l, c, e, hk⟩ => e ▸ hk)
    · exact h.elim
  · rename_i t u d s ht hx
    rw [toArr2 _ ht, toArr2 _ hx]
    split at h
    · rename_i e h1
      exact Res.of_value ((copy_res h1 h).mono fun v h ⟨n, e, hk⟩ => e ▸ hk)
    · exact h.elim
  · rename_i k a k' b hx
    rw [toArr2 _ hx]
    split at h
    · subst_vars
      exact Res.of_value ⟨_, w, by simp [Builtin.min_, Builtin.min2], Rest.refl w, h⟩
    · exact h.elim
  · rename_i k a k' b hx
    rw [toArr2 _ hx]
    split at h
    · subst_vars
      exact Res.of_value ⟨_, w, by simp [Builtin.max_, Builtin.max2], Rest.refl w, h⟩
    · exact h.elim
  · rename_i t u m k ht hx
    rw [toArr2 _ ht, toArr2 _ hx]
    split at h
    · rename_i kt et h1
      exact Res.of_value ((del_res h1 h).mono fun v h ⟨e, hk⟩ => e ▸ hk)
    · exact h.elim
  · rename_i t x ht hx
    rw [toArr1 _ ht, toArr1 _ hx]
    split at h
    · rename_i e h1
      obtain ⟨base, l, c, rfl, h3⟩ := asL_spec h
      exact Res.of_value (clear_res h1 h3)
    · exact h.elim
  · exact h.elim
theorem callK_elim {P : Program} {f : FuncId} {args : Array Value} {h : H} {s : Sh} {K : Value → H → Prop} (hc : callK P f args h fun v h => elim s v fun v => K v h) : callK P f args h K := by
  intro w hw
  refine (hc w hw).mono ?_
  rintro e w' ⟨v, h1, h2, h3, h4, h5⟩
  exact ⟨v, h1, h2, h3, h4, elF_cur s v _ h5⟩
theorem callFunc_res {P : Program} {w : World} {f : FuncId} {args : Array Value} {K : Value → H → Prop} (hb : hasBody P f = true) (h : callK P f args w.heap K) : Res P w K ((callFunc f args).run P w) := by
  unfold hasBody at hb
  split at hb
  · rename_i fn hf
    rw [Bool.and_eq_true] at hb
    have h1 : (fn.name == "runtime.NumGoroutine") = false := by simpa using hb.2
    have h2 : fn.body.isNone = false := by
      have := hb.1; cases hfn : fn.body <;> simp_all
    simp only [callFunc, Sem.run_bind, run_program, Result.andThen_ok, hf, h1, h2, Bool.false_eq_true, if_false, Sem.run_pure]
    exact ⟨Rest.refl w, h⟩
  · simp at hb

theorem arr_map {α β : Type} (f : α → β) (a : Array α) : a.map f = ⟨a.toList.map f⟩ := by apply Array.toList_inj.1; simp

theorem buildSlice_res {P : Program} {w : World} {t : TypeId} {n : Nat} {ps : List (Nat × Value)} {K : Value → H → Prop} (h : buildSliceK P t n ps w.heap K) : ResV w K ((Instr.buildSlice t n ⟨ps⟩).run P w) := by
  unfold buildSliceK at h
  split at h
  · rename_i u hu
    obtain ⟨i, hi, h⟩ := opt_spec h
    obtain ⟨z, hz, h⟩ := opt_spec h
    obtain ⟨⟨h1, h2, h3⟩, h⟩ := req_spec h
    obtain ⟨cs, hcs, h⟩ := opt_spec h
    refine ⟨_, { w with heap := w.heap.push (.cells ⟨cs⟩ u) }, ?_, ⟨rfl, rfl, rfl⟩, h⟩
    have hf := fill_eq _ _ _ _ hcs
    have hzs : z.cells.size = i.size := by rw [← h3, ← cells_eq]; simp
    simp only [Instr.buildSlice, Sem.run_bind, und hu, size_run hi, Result.andThen_ok]
    rw [if_neg (by omega)]
    by_cases h0 : n = 0
    · subst h0
      simp only [zerosL, List.replicate_zero, List.flatten_nil] at hf
      simp only [Nat.zero_mul, if_true, Sem.run_bind, Sem.run_pure, Result.andThen_ok, Array.range_zero', Array.map_empty]
      rw [hf]
      rfl
    · have hne : ¬ n * i.size = 0 := by
        intro e; rcases Nat.mul_eq_zero.1 e with e | e
        · exact h0 e
        · exact h2 e
      simp only [hne, if_false, Sem.run_bind, Sem.run_pure, zero_run hi hz, Result.andThen_ok, hzs]
      rw [zeros_mk z n i.size h3 h2, hf]
      rfl
  · exact h.elim
theorem makeSlice_res {P : Program} {w : World} {t : TypeId} {l c : Value} {K : Value → H → Prop} (h : makeSliceK P t l c w.heap K) : ResV w K ((Instr.makeSlice t l c).run P w) := by
  unfold makeSliceK at h
  split at h
  · rename_i u l' c' hu
    obtain ⟨i, hi, h⟩ := opt_spec h
    obtain ⟨z, hz, h⟩ := opt_spec h
    obtain ⟨⟨h2, h3⟩, h⟩ := req_spec h
    obtain ⟨⟨hl0, hlc, hb, hc0⟩, h⟩ := req_spec h
    refine ⟨_, { w with heap := w.heap.push (.cells ⟨zerosL z c'.toNat⟩ u) }, ?_, ⟨rfl, rfl, rfl⟩, h⟩
    have w1 : IntKind.i64.wrap l' = l' := IntWalk.i64_in _ (by omega)
    have w2 : IntKind.i64.wrap c' = c' := IntWalk.i64_in _ (by omega)
    have hzs : z.cells.size = i.size := by rw [← h3, ← cells_eq]; simp
    have hbn : ¬ (i.bytes * c' > 2 ^ 48) := by
      have : (c' * (i.bytes : Int)) = i.bytes * c' := Int.mul_comm _ _
      omega
    simp only [Instr.makeSlice, Sem.run_bind, und hu, Result.andThen_ok, asInt, asIntOf, Sem.run_pure, info_run hi, w1, w2]
    rw [if_neg (by simp only [Bool.or_eq_true, decide_eq_true_eq]; omega)]
    simp only [Sem.run_bind, run_askRoom, Result.andThen_ok, size_run hi]
    by_cases h0 : c'.toNat = 0
    · simp only [h0, Nat.zero_mul, if_true, Sem.run_pure, Result.andThen_ok, Array.range_zero', Array.map_empty, newRow, Sem.run_bind, run_newObj, zerosL, List.replicate_zero, List.flatten_nil]
    · have hne : ¬ c'.toNat * i.size = 0 := by
        intro e; rcases Nat.mul_eq_zero.1 e with e | e
        · exact h0 e
        · exact h2 e
      simp only [hne, if_false, Sem.run_bind, Sem.run_pure, zero_run hi hz, Result.andThen_ok, hzs, newRow, run_newObj]
      rw [zeros_mk z _ i.size h3 h2]
  · exact h.elim
theorem field_res {P : Program} {w : World} {t : TypeId} {f : Nat} {x : Value} {K : Value → H → Prop} (h : getF P t f x fun v => K v w.heap) : ResQ w K ((Instr.field t x f).run P w) := by
  unfold getF at h
  unfold fieldOf at h
  split at h
  · rename_i fs hu
    obtain ⟨g, hg, h⟩ := opt_spec h
    obtain ⟨i, hi, h⟩ := opt_spec h
    rcases ifB_spec h with ⟨_, h1⟩ | ⟨hs, h1⟩
    · exact h1.elim
    · clear h
      have hg' : fs[f]? = some g := by rw [← Array.getElem?_toList]; exact hg
      split at h1
      · rename_i cs _
        unfold fieldV at h1
        cases hd : P.underlying g.type with
        | none => rw [hd] at h1; exact h1.elim
        | some d =>
          rw [hd] at h1
          cases hag : aggD d with
          | true =>
            simp only [hag, ifB_eq] at h1
            obtain ⟨i', hi', h1⟩ := opt_spec h1
            refine ⟨_, w, ?_, rfl, h1⟩
            simp only [Instr.field, Sem.run_bind, und hu, Result.andThen_ok, hg', asAgg, Sem.run_pure, part, isAgg_run P _ w d hd, hag, if_true, size_run hi']
            congr 2
            apply Array.toList_inj.1; simp [List.extract_eq_take_drop]
          | false =>
            simp only [hag, ifB_eq] at h1
            obtain ⟨v, hv, h1⟩ := opt_spec h1
            refine ⟨v, w, ?_, rfl, h1⟩
            have hv' : cs[g.offset]? = some v := by simpa using hv
            simp only [Instr.field, Sem.run_bind, und hu, Result.andThen_ok, hg', asAgg, Sem.run_pure, part, isAgg_run P _ w d hd, hag, Bool.false_eq_true, if_false, hv']
      · exact h1.elim
  · exact h.elim
theorem index_res {P : Program} {w : World} {t : TypeId} {x i : Value} {K : Value → H → Prop} (h : strIndexK P t x i fun v => K v w.heap) : ResQ w K ((Instr.index t x i).run P w) := by
  unfold strIndexK at h
  split at h
  · rename_i s k n hu
    obtain ⟨⟨h1, h2⟩, h⟩ := req_spec h
    refine ⟨_, w, ?_, rfl, h⟩
    have hlt : n.toNat < s.size := by omega
    have hg : s[n.toNat]? = some (s.data.toList.getD n.toNat 0) := by
      rw [getElem?_pos s n.toNat hlt]
      have hl : n.toNat < s.data.toList.length := by simpa using hlt
      rw [List.getD_eq_getElem?_getD, List.getElem?_eq_getElem hl]; rfl
    simp only [Instr.index, asIntOf, Sem.run_bind, Sem.run_pure, Result.andThen_ok, und hu, h1, if_true, hg]
  · exact h.elim
theorem nilCheck_res {P : Program} {w : World} {a : Act} {x : Operand} {type : TypeId} {dst : Option Tmp} {pos : String} {after : Array Edge} {guard : Option (Nat × Bool)} {K : Value → H → Prop} (h : nilK (a.eval x) fun v => K v w.heap) : Res P w K ((execOp a.eval ⟨dst, .nilCheck x, type, pos, after, guard⟩).run P w) := by
  unfold nilK at h
  unfold execOp
  simp only
  split at h
  · rename_i p hx
    obtain ⟨b, o, rfl, h⟩ := nz_spec h
    rw [hx]; exact ⟨Rest.refl w, h⟩
  · rename_i f a' c hx
    rw [hx]; exact ⟨Rest.refl w, h⟩
  · exact h.elim
theorem callV_res {P : Program} {w : World} {a : Act} {f : Operand} {args : Array Operand} {argTypes : Array TypeId} {type : TypeId} {K : Value → H → Prop} (h : callVK P (a.eval f) (args.toList.map a.eval) w.heap K) : Res P w K (Sem.run P (do let d ← resolve a.eval ⟨.value f, args, argTypes⟩ type; invoke d.target d.args) w) := by
  unfold callVK at h
  split at h
  · rename_i g first captured hf
    rcases ifB_spec h with ⟨hb, h⟩ | ⟨_, h⟩
    · simp only [resolve, hf, Deferred.ofValue, Sem.run_bind, Sem.run_pure, Result.andThen_ok, invoke]
      have he : first ++ Array.map a.eval args ++ captured = ⟨first.toList ++ args.toList.map a.eval ++ captured.toList⟩ := by
        apply Array.toList_inj.1; simp
      rw [he]
      exact callFunc_res hb (callK_elim h)
    · exact h.elim
  · exact h.elim

theorem makeMap_res {P : Program} {w : World} {t : TypeId} {K : Value → H → Prop} (h : makeMapK P t w.heap K) : ResV w K ((Instr.makeMap t none).run P w) := by
  unfold makeMapK at h
  split at h
  · exact ⟨_, { w with heap := w.heap.push (.map #[] 0) }, rfl, ⟨rfl, rfl, rfl⟩, h⟩
  · exact h.elim
theorem lookup_res {P : Program} {w : World} {t : TypeId} {m k : Value} {ok : Bool} {K : Value → H → Prop} (h : lookupK P t w.heap m k ok fun v => K v w.heap) : ResV w K ((Instr.lookup t m k ok).run P w) := by
  unfold lookupK at h
  split at h
  · rename_i kt et hu
    obtain ⟨r, rfl, h2⟩ := asM_spec h
    exact look_res hu h2
  · exact h.elim
theorem mapSet_res {P : Program} {w : World} {t : TypeId} {m k v : Value} {K : H → Prop} (h : mapSetK P t w.heap m k v K) : ∃ w', (Instr.mapUpdate t m k v).run P w = .ok () w' ∧ Rest w w' ∧ K w'.heap := by
  unfold mapSetK at h
  split at h
  · rename_i kt et hu
    exact put_res hu h
  · exact h.elim
theorem extract_res {P : Program} {w : World} {x : Value} {i : Nat} {K : Value → H → Prop} (h : extractK x i fun v => K v w.heap) : ResQ w K ((Instr.extract x i).run P w) := by
  unfold extractK at h
  split at h
  · rename_i vs
    obtain ⟨v, hv, h⟩ := opt_spec h
    have hv' : vs[i]? = some v := by simpa using hv
    exact ⟨v, w, by simp [Instr.extract, hv'], rfl, h⟩
  · exact h.elim
theorem new_ResV {P : Program} {w : World} {K : Value → H → Prop} {cs : List Value} {t : TypeId} {s : Sem Value} (h : new w.heap cs t fun b h => K (.pointer (some ⟨b, 0, none⟩)) h)
    (hs : s.run P w = .ok (.pointer (some ⟨w.heap.size, 0, none⟩)) { w with heap := w.heap.push (.cells ⟨cs⟩ t) }) : ResV w K (s.run P w) :=
  ⟨_, _, hs, ⟨rfl, rfl, rfl⟩, h⟩
theorem exec_build (ρ : Operand → Value) (dst : Option Tmp) (t : TypeId) (parts : Array (Nat × Operand)) (type : TypeId) (pos : String) (after : Array Edge) (guard : Option (Nat × Bool)) :
    execOp ρ ⟨dst, .build t parts, type, pos, after, guard⟩ = (do pure (Next.value (← Instr.build t ⟨parts.toList.map fun p => (p.1, ρ p.2)⟩))) := by
  have : (parts.map fun (i, x) => (i, ρ x)) = ⟨parts.toList.map fun p => (p.1, ρ p.2)⟩ := by
    apply Array.toList_inj.1; simp
  rw [← this]; rfl
theorem exec_buildSlice (ρ : Operand → Value) (dst : Option Tmp) (t : TypeId) (n : Nat) (parts : Array (Nat × Operand)) (type : TypeId) (pos : String) (after : Array Edge) (guard : Option (Nat × Bool)) :
    execOp ρ ⟨dst, .buildSlice t n parts, type, pos, after, guard⟩ = (do pure (Next.value (← Instr.buildSlice t n ⟨parts.toList.map fun p => (p.1, ρ p.2)⟩))) := by
  have : (parts.map fun (i, x) => (i, ρ x)) = ⟨parts.toList.map fun p => (p.1, ρ p.2)⟩ := by
    apply Array.toList_inj.1; simp
  rw [← this]; rfl
theorem evOp_res {P : Program} {e : Env} {a : Act} {w : World} {K : Value → H → Prop} {o : Oper} (hm : Match e a.tmps) (h : evOp P e w.heap o.op K) : Res P w K ((execOp a.eval o).run P w) := by
  obtain ⟨dst, op, type, pos, after, guard⟩ := o
  cases op with
  | move x => exact ⟨Rest.refl w, rd_spec (K := fun v => K v w.heap) hm h⟩
  | assign x => exact ⟨Rest.refl w, rd_spec (K := fun v => K v w.heap) hm h⟩
  | pick c x y =>
    have h : rd e c _ := h
    have h := rd_spec (x := c) hm h
    obtain ⟨t, ht, h⟩ := asB_spec h
    show Res P w K ((do pure (.value (if ← asBool (a.eval c) then a.eval x else a.eval y)) : Sem Next).run P w)
    rw [ht]
    rcases ifB_spec h with ⟨rfl, h⟩ | ⟨rfl, h⟩
    · exact ⟨Rest.refl w, rd_spec (K := fun v => K v w.heap) hm h⟩
    · exact ⟨Rest.refl w, rd_spec (K := fun v => K v w.heap) hm h⟩
  | alloc t =>
    have h : opt (zeroOf P t) _ := h
    obtain ⟨i, z, hi, hz, h⟩ := zeroOf_spec h
    exact Res.of_value (s := Instr.alloc t true (.tuple #[])) (new_ResV h (by simp only [Instr.alloc, Sem.run_bind, zero_run hi hz, Result.andThen_ok, newVar, newRow, run_newObj, Sem.run_pure, cells_mk]))
  | box t x =>
    have h : rd e x _ := h
    have h := rd_spec (x := x) hm h
    exact Res.of_value (s := Instr.box t (a.eval x)) (new_ResV h (by simp only [Instr.box, Sem.run_bind, Result.andThen_ok, newVar, newRow, run_newObj, Sem.run_pure, cells_mk]))
  | build t parts =>
    have h : rdParts e parts.toList _ := h
    have h := rdParts_spec (xs := parts.toList) hm h
    rw [exec_build]
    exact Res.of_value (build_res h).toV
  | buildSlice t n parts =>
    have h : rdParts e parts.toList _ := h
    have h := rdParts_spec (xs := parts.toList) hm h
    rw [exec_buildSlice]
    exact Res.of_value (buildSlice_res h)
  | load t x =>
    have h : rd e x _ := h
    have h := rd_spec (x := x) hm h
    obtain ⟨b, o, hx, h⟩ := deref_spec h
    refine Res.of_value (s := Instr.loadAt t (a.eval x)) ?_
    rw [hx]; exact (loadAt_res h).toV
  | store t x y =>
    have h : rd e x _ := h
    have h := rd_spec (x := y) hm (rd_spec (x := x) hm h)
    obtain ⟨b, o, hx, h⟩ := deref_spec h
    refine Res.of_unit (s := Instr.storeAt t (a.eval x) (a.eval y)) ?_
    rw [hx]; exact storeAt_res h
  | nilCheck x =>
    have h : rd e x _ := h
    have h := rd_spec (x := x) hm h
    exact nilCheck_res h
  | binOp op t x y yt =>
    have h : rd e x _ := h
    have h := rd_spec (x := y) hm (rd_spec (x := x) hm h)
    exact Res.of_value (bin_res x y h).toV
  | unOp op t x =>
    have h : rd e x _ := h
    have h := rd_spec (x := x) hm h
    exact Res.of_value (un_res h).toV
  | convert src dst x =>
    have h : rd e x _ := h
    have h := rd_spec (x := x) hm h
    exact Res.of_value (conv_res h)
  | makeFunc fn first captured =>
    have h : rdL e (first.toList) _ := h
    have h := rdL_spec (xs := captured.toList) hm (rdL_spec (xs := first.toList) hm h)
    refine Res.of_value (s := Instr.makeFunc fn (first.map a.eval) (captured.map a.eval)) ?_
    rw [arr_map, arr_map]
    exact ⟨_, w, rfl, Rest.refl w, h⟩
  | makeMap t r =>
    cases r with
    | none => exact Res.of_value (s := Instr.makeMap t none) (makeMap_res h)
    | some r => exact False.elim h
  | makeSlice t l c =>
    have h : rd e l _ := h
    have h := rd_spec (x := c) hm (rd_spec (x := l) hm h)
    exact Res.of_value (s := Instr.makeSlice t (a.eval l) (a.eval c)) (makeSlice_res h)
  | slice t x lo hi mx =>
    have h : rd e x _ := h
    have h := rdL_spec (xs := lo.toList ++ hi.toList ++ mx.toList) hm (rd_spec (x := x) hm h)
    refine Res.of_value (s := Instr.sliceAt t (a.eval x) (lo.map a.eval) (hi.map a.eval) (mx.map a.eval)) ?_
    cases lo <;> cases hi <;> cases mx <;> exact (slice_res h).toV
  | fieldAddr t x f =>
    have h : rd e x _ := h
    have h := rd_spec (x := x) hm h
    obtain ⟨b, o, hx, h⟩ := deref_spec h
    refine Res.of_value (s := Instr.fieldAt t (a.eval x) f) ?_
    rw [hx]; exact (fieldAt_res h).toV
  | field t x f =>
    have h : rd e x _ := h
    have h := rd_spec (x := x) hm h
    exact Res.of_value (s := Instr.field t (a.eval x) f) (field_res h).toV
  | indexAddr t x i =>
    have h : rd e x _ := h
    have h := rd_spec (x := i) hm (rd_spec (x := x) hm h)
    exact Res.of_value (indexAt_res h).toV
  | index t x i =>
    have h : rd e x _ := h
    have h := rd_spec (x := i) hm (rd_spec (x := x) hm h)
    exact Res.of_value (s := Instr.index t (a.eval x) (a.eval i)) (index_res h).toV
  | lookup t m k ok =>
    have h : rd e m _ := h
    have h := rd_spec (x := k) hm (rd_spec (x := m) hm h)
    exact Res.of_value (s := Instr.lookup t (a.eval m) (a.eval k) ok) (lookup_res h)
  | mapUpdate t m k v =>
    have h : rd e m _ := h
    have h := rd_spec (x := v) hm (rd_spec (x := k) hm (rd_spec (x := m) hm h))
    exact Res.of_unit (s := Instr.mapUpdate t (a.eval m) (a.eval k) (a.eval v)) (mapSet_res h)
  | insert t m k v =>
    have h : rd e m _ := h
    have h := rd_spec (x := v) hm (rd_spec (x := k) hm (rd_spec (x := m) hm h))
    exact Res.of_unit (s := Instr.mapUpdate t (a.eval m) (a.eval k) (a.eval v)) (mapSet_res h)
  | extract x i =>
    have h : rd e x _ := h
    have h := rd_spec (x := x) hm h
    exact Res.of_value (s := Instr.extract (a.eval x) i) (extract_res h).toV
  | call c =>
    obtain ⟨callee, args, argTypes⟩ := c
    cases callee with
    | builtin b =>
      have h : rdL e (args.toList) _ := h
      have h := rdL_spec (xs := args.toList) hm h
      show Res P w K (Sem.run P (do let d ← resolve a.eval ⟨.builtin b, args, argTypes⟩ type; invoke d.target d.args) w)
      simp only [resolve, Sem.run_bind, Sem.run_pure, Result.andThen_ok, invoke]
      have h' : builtinK P b argTypes.toList (Array.map a.eval args).toList w.heap K := by rw [arr_map]; exact h
      exact builtin_res h'
    | value f =>
      have h : rd e f _ := h
      have h := rdL_spec (xs := args.toList) hm (rd_spec (x := f) hm h)
      exact callV_res h
    | invoke r n => exact False.elim h
  | _ => exact False.elim h
end Go.Eng
