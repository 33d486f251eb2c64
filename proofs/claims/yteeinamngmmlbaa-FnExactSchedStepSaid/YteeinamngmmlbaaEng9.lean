import Derived.Test.YteeinamngmmlbaaEng8
/-! A drawn region: what only looks is taken first. -/
set_option linter.unusedVariables false
set_option linter.unusedSimpArgs false
namespace Go.Eng
open Go

/-- a transformer that hands on one value -/
def Det (F : (Value → Prop) → Prop) : Prop := ∀ K, F K → ∃ v, K v ∧ F (fun u => u = v)
theorem opt_mk {α : Type} {x : Option α} {a : α} {K : α → Prop} (h : x = some a) (hk : K a) : opt x K := by subst h; exact hk
theorem req_mk {p : Prop} [Decidable p] {K : Prop} (h : p) (hk : K) : req p K := by unfold req; rw [if_pos h]; exact hk
theorem det_val (v : Value) : Det fun K => K v := fun K h => ⟨v, h, rfl⟩
theorem det_false : Det fun _ => False := fun K h => h.elim
theorem det_opt {α : Type} {x : Option α} {F : α → (Value → Prop) → Prop} (h : ∀ a, Det (F a)) : Det fun K => opt x fun a => F a K := by
  intro K hk; obtain ⟨a, rfl, hk⟩ := opt_spec hk; exact h a K hk
theorem det_req {p : Prop} [Decidable p] {F : (Value → Prop) → Prop} (h : Det F) : Det fun K => req p (F K) := by
  intro K hk; obtain ⟨hp, hk⟩ := req_spec hk; obtain ⟨v, h1, h2⟩ := h K hk; exact ⟨v, h1, req_mk hp h2⟩
theorem det_ifB {b : Bool} {F G : (Value → Prop) → Prop} (h : Det F) (h' : Det G) : Det fun K => ifB b (F K) (G K) := by
  cases b
  · exact h'
  · exact h
theorem det_ite {p : Prop} [Decidable p] {F G : (Value → Prop) → Prop} (h : Det F) (h' : Det G) : Det fun K => if p then F K else G K := by
  by_cases hp : p
  · simp only [hp, if_true]; exact h
  · simp only [hp, if_false]; exact h'
theorem det_asL {x : Value} {F : Option Addr → Nat → Nat → (Value → Prop) → Prop} (h : ∀ a l c, Det (F a l c)) : Det fun K => asL x fun a l c => F a l c K := by
  cases x <;> first | exact det_false | exact h _ _ _
theorem det_asS {x : Value} {F : ByteArray → (Value → Prop) → Prop} (h : ∀ a, Det (F a)) : Det fun K => asS x fun a => F a K := by
  cases x <;> first | exact det_false | exact h _
theorem det_asP {x : Value} {F : Option Addr → (Value → Prop) → Prop} (h : ∀ a, Det (F a)) : Det fun K => asP x fun a => F a K := by
  cases x <;> first | exact det_false | exact h _
theorem det_nz {x : Option Addr} {F : Nat → Nat → (Value → Prop) → Prop} (h : ∀ a b, Det (F a b)) : Det fun K => nz x fun a b => F a b K := by
  match x with
  | none => exact det_false
  | some ⟨b, o, none⟩ => exact h b o
  | some ⟨b, o, some _⟩ => exact det_false
theorem det_deref {x : Value} {F : Nat → Nat → (Value → Prop) → Prop} (h : ∀ a b, Det (F a b)) : Det fun K => deref x fun a b => F a b K := det_asP fun p => det_nz h
theorem det_bound {x : Option Value} {d y : Nat} {F : Nat → (Value → Prop) → Prop} (h : ∀ a, Det (F a)) : Det fun K => bound x d y fun a => F a K := by
  cases x with
  | none => exact h d
  | some v => cases v <;> first | exact det_false | exact det_req (h _)
theorem det_intOp {op : BinOp} {k : IntKind} {a b : Int} : Det (intOp op k a b) := by
  cases op <;> first | exact det_val _ | exact det_false | exact det_req (det_val _)
theorem det_strOp {op : BinOp} {a b : ByteArray} : Det (strOp op a b) := by
  cases op <;> first | exact det_val _ | exact det_false | exact det_req (det_val _)
theorem det_eqS {P : Program} {t : TypeId} {xs ys : List Value} {F : Bool → (Value → Prop) → Prop} (h : ∀ b, Det (F b)) : Det fun K => eqS P t xs ys fun b => F b K := by
  unfold eqS
  cases hu : P.underlying t with
  | none => exact det_false
  | some d => cases d <;> first | exact det_false | exact det_ifB (det_opt h) det_false
theorem binK_int {P : Program} {op : BinOp} {t : TypeId} {k k' : IntKind} {a b : Int} (K : Value → Prop) (h : op ≠ .shl) (h' : op ≠ .shr) : binK P op t (.int k a) (.int k' b) K = if k = k' then intOp op k a b K else False := by
  cases op <;> first | rfl | contradiction
theorem binK_str {P : Program} {op : BinOp} {t : TypeId} {a b : ByteArray} (K : Value → Prop) : binK P op t (.string a) (.string b) K = strOp op a b K := by
  cases op <;> rfl
theorem det_und {P : Program} {t : TypeId} {F : TypeDesc → (Value → Prop) → Prop} (h : ∀ d, Det (F d)) : Det fun K => match P.underlying t with | some d => F d K | none => False := by
  cases P.underlying t with
  | none => exact det_false
  | some d => exact h d
theorem det_binK {P : Program} {op : BinOp} {t : TypeId} {x y : Value} : Det (binK P op t x y) := by
  intro K h
  have h0 := h
  unfold binK at h
  split at h
  · obtain ⟨hp, hk⟩ := req_spec h; exact ⟨_, hk, req_mk hp rfl⟩
  · obtain ⟨hp, hk⟩ := req_spec h; exact ⟨_, hk, req_mk hp rfl⟩
  · rename_i h1 h2
    have hne : _ ≠ BinOp.shl := fun e => h1 e
    have hne' : _ ≠ BinOp.shr := fun e => h2 e
    obtain ⟨v, hv, h3⟩ := det_ite det_intOp det_false K h
    exact ⟨v, hv, by rw [binK_int _ hne hne']; exact h3⟩
  · obtain ⟨v, hv, h3⟩ := det_strOp K h
    exact ⟨v, hv, by rw [binK_str]; exact h3⟩
  all_goals try exact h.elim
  all_goals
    first
    | (split at h
       · rename_i hu
         refine ⟨_, h, ?_⟩
         simp only [binK, hu]
       · exact h.elim)
    | (obtain ⟨v, hv, h3⟩ := det_eqS (F := fun b K => K (.bool b)) (fun b => det_val _) K h; exact ⟨v, hv, h3⟩)
    | (obtain ⟨v, hv, h3⟩ := det_eqS (F := fun b K => K (.bool (!b))) (fun b => det_val _) K h; exact ⟨v, hv, h3⟩)
theorem det_unK {op : UnOp} {x : Value} : Det (unK op x) := by
  cases op <;> cases x <;> first | exact det_false | exact det_val _
theorem det_sliceK {P : Program} {t : TypeId} {x : Value} {lo hi mx : Option Value} : Det (sliceK P t x lo hi mx) := by
  unfold sliceK
  cases hu : P.underlying t with
  | none => exact det_false
  | some d =>
    cases d <;> try exact det_false
    · refine det_asS fun s => ?_
      cases mx with
      | none => exact det_bound fun h => det_bound fun l => det_val _
      | some v => exact det_false
    · exact det_ifB (det_opt fun i => det_asL fun a len cap => det_bound fun m => det_bound fun h => det_bound fun l => det_req (det_val _)) det_false
theorem det_fieldOf {P : Program} {t : TypeId} {f : Nat} {F : Nat → TypeId → (Value → Prop) → Prop} (h : ∀ a b, Det (F a b)) : Det fun K => fieldOf P t f fun a b => F a b K := by
  unfold fieldOf
  cases hu : P.underlying t with
  | none => exact det_false
  | some d => cases d <;> first | exact det_false | exact det_opt fun x => det_opt fun i => det_ifB det_false (h _ _)
theorem det_indexK {P : Program} {t : TypeId} {x i : Value} {F : Nat → Nat → (Value → Prop) → Prop} (h : ∀ a b, Det (F a b)) : Det fun K => indexK P t x i fun a b => F a b K := by
  unfold indexK
  cases i <;> try exact det_false
  cases hu : P.underlying t with
  | none => exact det_false
  | some d =>
    cases d <;> try exact det_false
    · exact det_opt fun i => det_asL fun a len cap => det_req (det_nz fun b o => h _ _)
    · exact det_opt fun i => det_deref fun b o => det_req (h _ _)
theorem det_buildK {P : Program} {t : TypeId} {ps : List (Nat × Value)} : Det (buildK P t ps) := by
  unfold buildK
  refine det_opt fun z => ?_
  cases hu : P.underlying t with
  | none => exact det_false
  | some d =>
    cases d <;> try exact det_false
    · exact det_opt fun i => det_opt fun cs => det_val _
    · exact det_ifB (det_opt fun cs => det_val _) det_false
theorem det_fieldV {P : Program} {u : TypeId} {cs : Array Value} {off : Nat} : Det (fieldV P u cs off) := by
  unfold fieldV
  cases hu : P.underlying u with
  | none => exact det_false
  | some d => exact det_ifB (det_opt fun i => det_val _) (det_opt fun v => det_val v)
theorem det_getF {P : Program} {t : TypeId} {f : Nat} {x : Value} : Det (getF P t f x) := by
  unfold getF
  refine det_fieldOf fun a b => ?_
  cases x <;> first | exact det_false | exact det_fieldV
theorem det_nilK {x : Value} : Det (nilK x) := by
  cases x with
  | pointer p => exact det_nz fun b o => det_val _
  | func fn a c => cases fn <;> first | exact det_false | exact det_val _
  | _ => exact det_false
theorem det_strIndexK {P : Program} {t : TypeId} {x i : Value} : Det (strIndexK P t x i) := by
  unfold strIndexK
  cases hu : P.underlying t with
  | none => exact det_false
  | some d =>
    cases d <;> try exact det_false
    cases x <;> try exact det_false
    cases i <;> try exact det_false
    exact det_req (det_val _)
theorem det_extractK {x : Value} {i : Nat} : Det (extractK x i) := by
  cases x <;> first | exact det_false | exact det_opt fun v => det_val v

theorem builtin_min {P : Program} {ts : List TypeId} {vs : List Value} {h0 : H} {K : Value → H → Prop} (h : builtinK P .min ts vs h0 K) : ∃ k a b, vs = [.int k a, .int k b] ∧ K (.int k (if b < a then b else a)) h0 := by
  unfold builtinK at h
  split at h <;> rename_i e1 <;> first | contradiction | skip
  · split at h
    · subst_vars; exact ⟨_, _, _, rfl, h⟩
    · exact h.elim
theorem builtin_max {P : Program} {ts : List TypeId} {vs : List Value} {h0 : H} {K : Value → H → Prop} (h : builtinK P .max ts vs h0 K) : ∃ k a b, vs = [.int k a, .int k b] ∧ K (.int k (if b > a then b else a)) h0 := by
  unfold builtinK at h
  split at h <;> rename_i e1 <;> first | contradiction | skip
  · split at h
    · subst_vars; exact ⟨_, _, _, rfl, h⟩
    · exact h.elim
theorem val_run {P : Program} {s : Sem Value} {v : Value} (h : ∀ w, ResQ w (fun u _ => u = v) (s.run P w)) (w : World) : (do pure (Next.value (← s)) : Sem Next).run P w = .ok (.value v) w := by
  obtain ⟨u, w', hr, rfl, rfl⟩ := h w
  simp only [Sem.run_bind, hr, Result.andThen_ok, Sem.run_pure]
theorem quiet_run {P : Program} {e : Env} {a : Act} {h0 : H} {K : Value → Prop} {o : Oper} (hq : quietOp o.op = true) (hm : Match e a.tmps) (h : evOp P e h0 o.op fun v _ => K v) :
    ∃ v, K v ∧ ∀ w, (execOp a.eval o).run P w = .ok (.value v) w := by
  obtain ⟨dst, op, type, pos, after, guard⟩ := o
  cases op with
  | move x => exact ⟨_, rd_spec (K := K) hm h, fun w => rfl⟩
  | assign x => exact ⟨_, rd_spec (K := K) hm h, fun w => rfl⟩
  | pick c x y =>
    have h : rd e c _ := h
    have h := rd_spec (x := c) hm h
    obtain ⟨t, ht, h⟩ := asB_spec h
    have hx : ∀ w, (do pure (.value (if ← asBool (a.eval c) then a.eval x else a.eval y)) : Sem Next).run P w = .ok (.value (if t = true then a.eval x else a.eval y)) w := fun w => by rw [ht]; rfl
    rcases ifB_spec h with ⟨rfl, h⟩ | ⟨rfl, h⟩
    · exact ⟨_, rd_spec (K := K) hm h, hx⟩
    · exact ⟨_, rd_spec (K := K) hm h, hx⟩
  | build t parts =>
    have h : rdParts e parts.toList _ := h
    have h := rdParts_spec (xs := parts.toList) hm h
    obtain ⟨v, hv, hd⟩ := det_buildK K h
    refine ⟨v, hv, fun w => ?_⟩
    rw [exec_build]
    exact val_run (fun w => build_res (K := fun u _ => u = v) hd) w
  | nilCheck x =>
    have h : rd e x _ := h
    have h := rd_spec (x := x) hm h
    obtain ⟨v, hv, hd⟩ := det_nilK K h
    refine ⟨v, hv, fun w => ?_⟩
    unfold nilK at hd
    unfold execOp
    simp only
    split at hd
    · rename_i p hx
      obtain ⟨b, o, rfl, hd⟩ := nz_spec hd
      subst hd; rw [hx]; rfl
    · rename_i f a' c hx
      subst hd; rw [hx]; rfl
    · exact hd.elim
  | binOp op t x y yt =>
    have h : rd e x _ := h
    have h := rd_spec (x := y) hm (rd_spec (x := x) hm h)
    obtain ⟨v, hv, hd⟩ := det_binK K h
    exact ⟨v, hv, val_run (fun w => bin_res x y (K := fun u _ => u = v) hd)⟩
  | unOp op t x =>
    have h : rd e x _ := h
    have h := rd_spec (x := x) hm h
    obtain ⟨v, hv, hd⟩ := det_unK K h
    exact ⟨v, hv, val_run (fun w => un_res (K := fun u _ => u = v) hd)⟩
  | makeFunc fn first captured =>
    have h : rdL e (first.toList) _ := h
    have h := rdL_spec (xs := captured.toList) hm (rdL_spec (xs := first.toList) hm h)
    refine ⟨_, h, fun w => ?_⟩
    show (do pure (Next.value (← Instr.makeFunc fn (first.map a.eval) (captured.map a.eval))) : Sem Next).run P w = _
    rw [arr_map, arr_map]; rfl
  | slice t x lo hi mx =>
    have h : rd e x _ := h
    have h := rdL_spec (xs := lo.toList ++ hi.toList ++ mx.toList) hm (rd_spec (x := x) hm h)
    obtain ⟨v, hv, hd⟩ := det_sliceK K h
    refine ⟨v, hv, val_run (s := Instr.sliceAt t (a.eval x) (lo.map a.eval) (hi.map a.eval) (mx.map a.eval)) fun w => ?_⟩
    cases lo <;> cases hi <;> cases mx <;> exact slice_res (K := fun u _ => u = v) hd
  | fieldAddr t x f =>
    have h : rd e x _ := h
    have h := rd_spec (x := x) hm h
    obtain ⟨b, o, hx, h⟩ := deref_spec h
    obtain ⟨v, hv, hd⟩ := det_fieldOf (F := fun off _ K => K (.pointer (some ⟨b, o + off, none⟩))) (fun _ _ => det_val _) K h
    refine ⟨v, hv, val_run (s := Instr.fieldAt t (a.eval x) f) fun w => ?_⟩
    rw [hx]; exact fieldAt_res (K := fun u _ => u = v) hd
  | field t x f =>
    have h : rd e x _ := h
    have h := rd_spec (x := x) hm h
    obtain ⟨v, hv, hd⟩ := det_getF K h
    exact ⟨v, hv, val_run (s := Instr.field t (a.eval x) f) fun w => field_res (K := fun u _ => u = v) hd⟩
  | indexAddr t x i =>
    have h : rd e x _ := h
    have h := rd_spec (x := i) hm (rd_spec (x := x) hm h)
    obtain ⟨v, hv, hd⟩ := det_indexK (F := fun b o K => K (.pointer (some ⟨b, o, none⟩))) (fun _ _ => det_val _) K h
    exact ⟨v, hv, val_run fun w => indexAt_res (K := fun u _ => u = v) hd⟩
  | index t x i =>
    have h : rd e x _ := h
    have h := rd_spec (x := i) hm (rd_spec (x := x) hm h)
    obtain ⟨v, hv, hd⟩ := det_strIndexK K h
    exact ⟨v, hv, val_run (s := Instr.index t (a.eval x) (a.eval i)) fun w => index_res (K := fun u _ => u = v) hd⟩
  | extract x i =>
    have h : rd e x _ := h
    have h := rd_spec (x := x) hm h
    obtain ⟨v, hv, hd⟩ := det_extractK K h
    exact ⟨v, hv, val_run (s := Instr.extract (a.eval x) i) fun w => extract_res (K := fun u _ => u = v) hd⟩
  | call c =>
    obtain ⟨callee, args, argTypes⟩ := c
    cases callee with
    | builtin b =>
      have h : rdL e (args.toList) _ := h
      have h := rdL_spec (xs := args.toList) hm h
      have key : ∃ v, K v ∧ ∀ w, (builtin b argTypes type (args.map fun | .const _ => true | _ => false) (args.map a.eval)).run P w = .ok (.value v) w := by
        generalize hA : args.toList.map a.eval = vs at h
        have hA' : args.map a.eval = ⟨vs⟩ := by rw [arr_map, hA]
        rw [hA']
        cases b with
        | min =>
          obtain ⟨k, x, y, rfl, h2⟩ := builtin_min h
          exact ⟨_, h2, fun w => by simp [builtin, Builtin.min_, Builtin.min2]⟩
        | max =>
          obtain ⟨k, x, y, rfl, h2⟩ := builtin_max h
          exact ⟨_, h2, fun w => by simp [builtin, Builtin.max_, Builtin.max2]⟩
        | _ => exact absurd hq (by simp [quietOp])
      obtain ⟨v, hv, hr⟩ := key
      refine ⟨v, hv, fun w => ?_⟩
      show (Sem.run P (do let d ← resolve a.eval ⟨.builtin b, args, argTypes⟩ type; invoke d.target d.args) w) = _
      simp only [resolve, Sem.run_bind, Sem.run_pure, Result.andThen_ok, invoke]
      exact hr w
    | value f => exact absurd hq (by simp [quietOp])
    | invoke r n => exact absurd hq (by simp [quietOp])
  | _ => exact absurd hq (by simp [quietOp])

/-- a length -/
theorem len_any {P : Program} {e : Env} {a : Act} {h0 : H} {K : Value → Prop} {o : Oper} (hq : isLen P o.op = true) (hm : Match e a.tmps) (h : evOp P e h0 o.op fun v _ => K v) :
    ∃ v, K v ∧ ∀ w, (execOp a.eval o).run P w = .ok (.value v) w := by
  obtain ⟨dst, op, type, pos, after, guard⟩ := o
  unfold isLen at hq
  split at hq
  · rename_i args argTypes hop
    simp only at hop
    subst hop
    split at hq
    · rename_i t ht
      have h : rdL e args.toList _ := h
      have h := rdL_spec (xs := args.toList) hm h
      have hex : ∀ w, (execOp a.eval ⟨dst, .call ⟨.builtin .len, args, argTypes⟩, type, pos, after, guard⟩).run P w = (do pure (Next.value (← Builtin.len_ argTypes type (args.map a.eval))) : Sem Next).run P w := fun w => rfl
      generalize hA : args.toList.map a.eval = vs at h
      have hA' : args.map a.eval = ⟨vs⟩ := by rw [arr_map, hA]
      rw [ht] at h
      have h1 : ∃ x, vs = [x] := by
        unfold builtinK at h
        split at h <;> rename_i e1 <;> first | contradiction | exact ⟨_, rfl⟩ | exact h.elim
      obtain ⟨x, rfl⟩ := h1
      have h : (match P.underlying t with
        | some .string => asS x fun s => K (.int .i64 s.size)
        | some (.slice _) => asL x fun _ n _ => K (.int .i64 n)
        | some (.map _ _) => asM x fun r => ldMap h0 r fun es _ => K (.int .i64 es.size)
        | some (.array n _) => K (.int .i64 n)
        | _ => False) := h
      have hd : ∃ v, K v ∧ ∀ w : World, builtinK P .len [t] [x] w.heap (fun u _ => u = v) := by
        cases hu : P.underlying t with
        | none => rw [hu] at h; exact h.elim
        | some d =>
          rw [hu] at h hq
          cases d <;> try exact h.elim
          · obtain ⟨s, rfl, h2⟩ := asS_spec h
            exact ⟨_, h2, fun w => by simp only [builtinK, hu]; rfl⟩
          · obtain ⟨b, n, c, rfl, h2⟩ := asL_spec h
            exact ⟨_, h2, fun w => by simp only [builtinK, hu]; rfl⟩
          · exact ⟨_, h, fun w => by simp only [builtinK, hu]⟩
          · simp at hq
      obtain ⟨v, hv, hd⟩ := hd
      refine ⟨v, hv, fun w => ?_⟩
      rw [hex, hA', toArr1 _ ht]
      exact val_run (fun w => len_res (hd w)) w
    · simp at hq
  · simp at hq
/-- a load: what it finds, and that it finds it wherever that stands -/
theorem load_run {P : Program} {h : H} {b o : Nat} {t : TypeId} {K : Value → Prop} (hh : ldT P h b o t K) :
    ∃ v, K v ∧ rowIs h b o 0 (lcells P t v) ∧ ∀ w : World, rowIs w.heap b o 0 (lcells P t v) → (Instr.loadAt t (.pointer (some ⟨b, o, none⟩))).run P w = .ok v w := by
  unfold ldT at hh
  have hone : ∀ d, P.underlying t = some d → aggD d = false → ldF h b o (shape P 5 t) (cur (shape P 5 t) K) →
      ∃ v, K v ∧ rowIs h b o 0 (lcells P t v) ∧ ∀ w : World, rowIs w.heap b o 0 (lcells P t v) → (Instr.loadAt t (.pointer (some ⟨b, o, none⟩))).run P w = .ok v w := by
    intro d hd hf hh
    obtain ⟨v, hv, hk⟩ := ldF_spec hh
    have hl : lcells P t v = [v] := by
      unfold lcells; rw [hd]
      cases d <;> first | rfl | cases hf
    refine ⟨v, hk, by rw [hl]; exact ⟨hv, trivial⟩, fun w hw => ?_⟩
    rw [hl] at hw
    have hv' : w.cell? ⟨b, o, none⟩ = some v := by rw [cell?_eq]; exact hw.1
    simp only [Instr.loadAt, Instr.sureAddr, loadVar, Sem.run_bind, Sem.run_pure, Result.andThen_ok, isAgg_run P t w d hd, hf]
    simp [hv']
  have hrow : ∀ d, P.underlying t = some d → aggD d = true → ∀ l, opt (P.info? t) (fun i => ifB (Nat.beq l.length i.size) (ldRow h b o 0 l (curL l fun vs => K (.agg ⟨vs⟩))) False) →
      ∃ v, K v ∧ rowIs h b o 0 (lcells P t v) ∧ ∀ w : World, rowIs w.heap b o 0 (lcells P t v) → (Instr.loadAt t (.pointer (some ⟨b, o, none⟩))).run P w = .ok v w := by
    intro d hd hf l hh
    obtain ⟨i, hi, hh⟩ := opt_spec hh
    rcases ifB_spec hh with ⟨hl, hh⟩ | ⟨_, hh⟩
    · obtain ⟨vs, hlen, hr, hk⟩ := ldRow_spec hh
      have hl : l.length = i.size := Nat.eq_of_beq_eq_true hl
      have hc : lcells P t (.agg ⟨vs⟩) = vs := by
        unfold lcells; rw [hd]
        cases d <;> first | rfl | cases hf
      refine ⟨.agg ⟨vs⟩, hk, by rw [hc]; exact hr, fun w hw => ?_⟩
      rw [hc] at hw
      simp only [Instr.loadAt, Instr.sureAddr, loadVar, Sem.run_bind, Sem.run_pure, Result.andThen_ok, isAgg_run P t w d hd, hf, if_true, size_run hi]
      rw [← hl, ← hlen, run_loadCells_row P w b o vs hw]
      rfl
    · exact hh.elim
  cases hu : P.underlying t with
  | none => rw [hu] at hh; exact hh.elim
  | some d =>
    rw [hu] at hh
    cases d with
    | struct fs =>
      simp only at hh
      split at hh
      · exact hrow _ hu rfl _ hh
      · exact hh.elim
    | array n e =>
      simp only at hh
      split at hh
      · exact hrow _ hu rfl _ hh
      · exact hh.elim
    | _ => exact hone _ hu rfl hh

/-! the whole of a drawn region -/
def condsOf (S : Seen) : Conds := S.map fun x => (x.1, fun w => rowIs w.heap x.2.1 x.2.2.1 0 x.2.2.2)
theorem condsOf_fil (bf : List Nat) (i : Nat) : ∀ S : Seen, condsOf (filS (bf.getD i 0) S) = fil bf i (condsOf S)
  | [] => rfl
  | x :: S => by
    have ih := condsOf_fil bf i S
    cases hb : (bf.getD i 0).testBit x.1 with
    | true =>
      have h1 : filS (bf.getD i 0) (x :: S) = filS (bf.getD i 0) S := by simp only [filS, hb]
      have h2 : fil bf i (condsOf (x :: S)) = fil bf i (condsOf S) := by
        show List.filter _ (_ :: condsOf S) = _
        rw [List.filter_cons_of_neg (by show ¬ (!(bf.getD i 0).testBit x.1) = true; rw [hb]; decide)]
        rfl
      rw [h1, h2, ih]
    | false =>
      have h1 : filS (bf.getD i 0) (x :: S) = x :: filS (bf.getD i 0) S := by simp only [filS, hb]
      have h2 : fil bf i (condsOf (x :: S)) = (x.1, fun w => rowIs w.heap x.2.1 x.2.2.1 0 x.2.2.2) :: fil bf i (condsOf S) := by
        show List.filter _ (_ :: condsOf S) = _
        rw [List.filter_cons_of_pos (by show (!(bf.getD i 0).testBit x.1) = true; rw [hb]; rfl)]
        rfl
      rw [h1, h2, ← ih]; rfl
theorem heldRow_spec {h : H} {b o : Nat} {K : Prop} : ∀ {vs : List Value} {j : Nat}, heldRow h b o j vs K → rowIs h b o j vs ∧ K
  | [], _, hh => ⟨trivial, hh⟩
  | v :: vs, j, hh => by
    obtain ⟨h1, h2⟩ := heldRow_spec (vs := vs) hh.2
    exact ⟨⟨hh.1, h1⟩, h2⟩
theorem held_spec {h : H} {bf : Nat} {K : Prop} : ∀ {S : Seen}, held h bf S K → (∀ x ∈ filS bf S, rowIs h x.2.1 x.2.2.1 0 x.2.2.2) ∧ K
  | [], hh => ⟨by simp [filS], hh⟩
  | (i, b, o, vs) :: S, hh => by
    simp only [held] at hh
    split at hh
    · rename_i hb
      obtain ⟨h1, h2⟩ := held_spec (S := S) hh
      refine ⟨fun x hx => h1 x ?_, h2⟩
      simpa only [filS, hb] using hx
    · rename_i hb
      obtain ⟨h0, hh⟩ := heldRow_spec hh
      obtain ⟨h1, h2⟩ := held_spec (S := S) hh
      refine ⟨fun x hx => ?_, h2⟩
      simp only [filS, hb] at hx
      rcases List.mem_cons.1 hx with rfl | hx
      · exact h0
      · exact h1 x hx
theorem allL_spec {α : Type} {F : α → Prop} : ∀ {l : List α}, allL F l → ∀ x ∈ l, F x
  | [], _, x, hx => by simp at hx
  | [y], h, x, hx => by simp at hx; subst hx; exact h
  | y :: z :: l, h, x, hx => by
    rcases List.mem_cons.1 hx with rfl | hx
    · exact h.1
    · exact allL_spec h.2 x hx
/-- the numbers of what has come up, as the machine keeps them and as the evaluator does -/
structure Rel (ops : Array Oper) (listed : Array Bool) (done : Nat) : Prop where
  size : listed.size = ops.size
  bit : ∀ i, listed.getD i false = done.testBit i
theorem Rel.getT {ops : Array Oper} {listed : Array Bool} {done : Nat} (hr : Rel ops listed done) {i : Nat} (hi : i < ops.size) : listed.getD i true = done.testBit i := by
  rw [← hr.bit i]
  have : i < listed.size := by rw [hr.size]; exact hi
  simp [Array.getD, this]
theorem Rel.set {ops : Array Oper} {listed : Array Bool} {done : Nat} (hr : Rel ops listed done) {i : Nat} (hi : i < ops.size) : Rel ops (listed.setIfInBounds i true) (done ||| 2 ^ i) := by
  refine ⟨by simp [hr.size], fun j => ?_⟩
  rw [Nat.testBit_or, testBit_pow]
  have hi' : i < listed.size := by rw [hr.size]; exact hi
  by_cases hij : i = j
  · subst hij
    simp [Array.getD, hi']
  · rw [getD_set_ne false hij, hr.bit j]; simp [hij]
theorem ready_iff {ops : Array Oper} {listed : Array Bool} {done : Nat} (hr : Rel ops listed done) {i : Nat} {o : Oper} (ho : ops[i]? = some o) : i ∈ Region.ready .any ops listed ↔ readyI o i done = true := by
  have hi : i < ops.size := by
    rcases Nat.lt_or_ge i ops.size with h | h
    · exact h
    · rw [Array.getElem?_eq_none h] at ho; cases ho
  rw [mem_ready]
  unfold readyI bindsE
  rw [Bool.and_eq_true, List.all_eq_true]
  constructor
  · rintro ⟨h0, o', ho', hall⟩
    rw [ho] at ho'; simp only [Option.some.injEq] at ho'; subst ho'
    rw [hr.getT hi] at h0
    refine ⟨by rw [h0]; rfl, fun e he => ?_⟩
    cases hb : Region.binds .any e with
    | false => rfl
    | true => have := hall e (by simpa using he) hb; rw [hr.bit] at this; rw [this]; rfl
  · rintro ⟨h0, hall⟩
    refine ⟨by rw [hr.getT hi]; simpa using h0, o, ho, fun e he hb => ?_⟩
    have := hall e (by simpa using he)
    rw [hb] at this
    rw [hr.bit]; simpa using this
theorem readyL_mem {done : Nat} : ∀ {l : List Oper} {k i : Nat} {o : Oper}, (l[i]? = some o ∧ readyI o (k + i) done = true) → (k + i, o) ∈ readyL done k l
  | [], k, i, o, h => by simp at h
  | x :: l, k, 0, o, h => by
    simp at h
    obtain ⟨rfl, h⟩ := h
    simp only [readyL, h]; simp
  | x :: l, k, i + 1, o, h => by
    have := readyL_mem (l := l) (k := k + 1) (i := i) (o := o) (by
      refine ⟨by simpa using h.1, ?_⟩; rw [show k + 1 + i = k + (i + 1) by omega]; exact h.2)
    rw [show k + 1 + i = k + (i + 1) by omega] at this
    simp only [readyL]
    split
    · exact List.mem_cons_of_mem _ this
    · exact this
theorem firstTake_spec {P : Program} {done : Nat} : ∀ {l : List Oper} {k i : Nat} {o : Oper}, firstTake P done k l = some (i, o) → k ≤ i ∧ l[i - k]? = some o ∧ readyI o i done = true ∧ takeable P o = true
  | [], k, i, o, h => by simp [firstTake] at h
  | x :: l, k, i, o, h => by
    simp only [firstTake] at h
    split at h
    · rename_i hb
      simp only [Option.some.injEq, Prod.mk.injEq] at h
      obtain ⟨rfl, rfl⟩ := h
      rw [Bool.and_eq_true] at hb
      exact ⟨Nat.le_refl _, by simp, hb.1, hb.2⟩
    · obtain ⟨h1, h2, h3, h4⟩ := firstTake_spec h
      refine ⟨by omega, ?_, h3, h4⟩
      rw [show i - k = (i - (k + 1)) + 1 by omega]; simpa using h2
theorem apartAll_spec {ops : Array Oper} {i : Nat} {oi : Oper} {done : Nat} : ∀ {l : List Oper} {k : Nat}, apartAll ops i oi done k l = true → ∀ j oj, l[j]? = some oj → k + j ≠ i → done.testBit (k + j) = false →
    (∀ e ∈ oj.after, Region.binds .any e = true → e.on ≠ i) → oi.apart ops oj = true
  | [], k, h, j, oj, hj, _, _, _ => by simp at hj
  | x :: l, k, h, 0, oj, hj, hne, hd, hno => by
    simp at hj; subst hj
    simp only [apartAll, Bool.and_eq_true, Bool.or_eq_true] at h
    rcases h.1 with ((h1 | h1) | h1) | h1
    · exact absurd (Nat.eq_of_beq_eq_true h1) hne
    · simp only [Nat.add_zero] at hd; rw [h1] at hd; cases hd
    · obtain ⟨e, he, hb⟩ := List.any_eq_true.1 h1
      rw [Bool.and_eq_true] at hb
      exact absurd (Nat.eq_of_beq_eq_true hb.2) (hno e (by simpa using he) hb.1)
    · exact h1
  | x :: l, k, h, j + 1, oj, hj, hne, hd, hno => by
    simp only [apartAll, Bool.and_eq_true] at h
    exact apartAll_spec h.2 j oj (by simpa using hj) (by omega) (by rw [show k + 1 + j = k + (j + 1) by omega]; exact hd) hno
end Go.Eng
