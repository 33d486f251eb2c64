import Derived.Test.YteeinamngmmlbaaEng3
import Derived.Laws.StructEq
import Derived.Laws.BytesString
/-! What the evaluator says of one operation is what the machine does: operators, conversions, rows, maps. -/
set_option linter.unusedVariables false
set_option linter.unusedSimpArgs false
namespace Go.Eng
open Go

theorem intOp_res {P : Program} {w : World} {op : BinOp} {t : TypeId} {k : IntKind} {a b : Int} {K : Value → H → Prop} (hs : op ≠ .shl) (hs' : op ≠ .shr)
    (h : intOp op k a b fun v => K v w.heap) : ResQ w K ((binOp op t (.int k a) (.int k b)).run P w) := by
  cases op <;> simp only [intOp] at h
  case add => exact ⟨_, w, by simp [binOp, Op.intArith], rfl, h⟩
  case sub => exact ⟨_, w, by simp [binOp, Op.intArith], rfl, h⟩
  case mul => exact ⟨_, w, by simp [binOp, Op.intArith], rfl, h⟩
  case quo => obtain ⟨hb, h⟩ := req_spec h; exact ⟨_, w, by simp [binOp, Op.intDiv, hb], rfl, h⟩
  case rem => obtain ⟨hb, h⟩ := req_spec h; exact ⟨_, w, by simp [binOp, Op.intDiv, hb], rfl, h⟩
  case and => exact ⟨_, w, by simp [binOp, Op.intBits, bAnd], rfl, h⟩
  case or => exact ⟨_, w, by simp [binOp, Op.intBits, bOr], rfl, h⟩
  case xor => exact ⟨_, w, by simp [binOp, Op.intBits, bXor], rfl, h⟩
  case andNot => exact ⟨_, w, by simp [binOp, Op.intBits, bAndNot], rfl, h⟩
  case eql => exact ⟨_, w, by simp [binOp, Op.intCmp], rfl, h⟩
  case neq => exact ⟨_, w, by simp [binOp, Op.intCmp], rfl, h⟩
  case lss => exact ⟨_, w, by simp [binOp, Op.intCmp], rfl, h⟩
  case leq => exact ⟨_, w, by simp [binOp, Op.intCmp], rfl, h⟩
  case gtr => exact ⟨_, w, by simp [binOp, Op.intCmp], rfl, h⟩
  case geq => exact ⟨_, w, by simp [binOp, Op.intCmp], rfl, h⟩
theorem strOp_res {P : Program} {w : World} {op : BinOp} {t : TypeId} {a b : ByteArray} {K : Value → H → Prop}
    (h : strOp op a b fun v => K v w.heap) : ResQ w K ((binOp op t (.string a) (.string b)).run P w) := by
  cases op <;> simp only [strOp] at h
  case add =>
    obtain ⟨hb, h⟩ := req_spec h
    refine ⟨_, w, ?_, rfl, h⟩
    have : ¬ ((a.size + b.size : Nat) : Int) > IntKind.i64.max := by rw [IntKind.max_i64]; omega
    simp [binOp, Op.stringOp, IntKind.max_i64]
    omega
  case eql => exact ⟨_, w, by simp [binOp, Op.stringOp, sEq], rfl, h⟩
  case neq => exact ⟨_, w, by simp [binOp, Op.stringOp, sEq], rfl, h⟩
  case lss => exact ⟨_, w, by simp [binOp, Op.stringOp, sLt], rfl, h⟩
  case leq => exact ⟨_, w, by simp [binOp, Op.stringOp, sLt, sEq], rfl, h⟩
  case gtr => exact ⟨_, w, by simp [binOp, Op.stringOp, sLt, sEq], rfl, h⟩
  case geq => exact ⟨_, w, by simp [binOp, Op.stringOp, sLt], rfl, h⟩

theorem eqV_run {P : Program} {w : World} (d : Nat) {t : TypeId} {a b : Value} {r : Bool} (hb : basic P t a b = true) (h : eqV a b = some r) : (Op.equalIn (d + 1) t a b).run P w = .ok r w := by
  unfold basic at hb
  split at hb
  · rename_i k j x j' y hu
    simp only [eqV] at h
    split at h
    · subst_vars; simp only [Option.some.injEq] at h; subst h; exact run_equalIn_int w d t _ _ _ _ hu
    · simp at h
  · rename_i x y hu
    simp only [eqV, Option.some.injEq] at h; subst h; exact run_equalIn_bool' w d t _ _ hu
  · rename_i x y hu
    simp only [eqV, Option.some.injEq] at h; subst h; exact run_equalIn_string w d t _ _ hu
  · simp at hb
theorem basic_one {P : Program} {t : TypeId} {a b : Value} (hb : basic P t a b = true) : ∃ d, P.underlying t = some d ∧ aggD d = false := by
  unfold basic at hb
  split at hb <;> first | (rename_i hu; exact ⟨_, hu, rfl⟩) | simp at hb
theorem part_run {P : Program} {w : World} {t : TypeId} {cs : Array Value} {off : Nat} {v : Value} {d : TypeDesc} (hu : P.underlying t = some d) (ha : aggD d = false) (h : cs.toList[off]? = some v) :
    (part t cs off).run P w = .ok v w := by
  have hc : cs[off]? = some v := by simpa using h
  simp only [part, Sem.run_bind, isAgg_run P t w d hu, ha, Result.andThen_ok, Bool.false_eq_true, if_false, hc]
  rfl
theorem eqFs_run {P : Program} {w : World} (d : Nat) (xs ys : Array Value) : ∀ (fs : List Field) (r : Bool), eqFs P xs.toList ys.toList fs = some r → (Op.eqFields (d + 1) xs ys fs).run P w = .ok r w
  | [], r, h => by simp only [eqFs, Option.some.injEq] at h; subst h; rfl
  | f :: fs, r, h => by
    simp only [eqFs] at h
    obtain ⟨a, ha, h⟩ := Option.bind_eq_some_iff.1 h
    obtain ⟨b, hb, h⟩ := Option.bind_eq_some_iff.1 h
    split at h
    · rename_i hc
      rw [Bool.and_eq_true] at hc
      obtain ⟨t, ht, h⟩ := Option.bind_eq_some_iff.1 h
      obtain ⟨u, hu, h⟩ := Option.map_eq_some_iff.1 h
      have hn : f.name ≠ "_" := by simpa using hc.1
      obtain ⟨d', hu', ha'⟩ := basic_one hc.2
      have h1 := part_run (w := w) hu' ha' ha
      have h2' := part_run (w := w) hu' ha' hb
      simp only [Op.eqFields, hn, ne_eq, not_false_eq_true, if_true, Sem.run_bind, h1, h2', Result.andThen_ok, eqV_run d hc.2 ht]
      cases t
      · simp only [Bool.false_and] at h; subst h; simp
      · simp only [Bool.true_and] at h; subst h; simp [eqFs_run d xs ys fs u hu]
    · simp at h
theorem eqS_run {P : Program} {w : World} {t : TypeId} {xs ys : Array Value} {K : Bool → Prop} (h : eqS P t xs.toList ys.toList K) :
    ∃ r, (Op.equal t (.agg xs) (.agg ys)).run P w = .ok r w ∧ P.eqGuardType P.depth t = false ∧ K r := by
  unfold eqS at h
  split at h
  · rename_i fs hu
    rcases ifB_spec h with ⟨hf, h⟩ | ⟨_, h⟩
    · obtain ⟨r, hr, h⟩ := opt_spec h
      unfold flat at hf
      rw [Bool.and_eq_true] at hf
      have h1 : P.stoodInHeld t = false := by simpa using hf.1
      have h2 : P.eqGuardType P.depth t = false := by simpa using hf.2
      refine ⟨r, ?_, h2, h⟩
      have hfo : P.fieldsOf t = fs := by simp [Program.fieldsOf, hu]
      have := run_equalIn_struct (P := P) w 9999 t xs ys (by rw [hfo]; exact hu) h1
      rw [hfo] at this
      show (Op.equalIn (9999 + 1) t (.agg xs) (.agg ys)).run P w = _
      rw [this]
      exact eqFs_run 9998 xs ys _ r hr
    · exact h.elim
  · exact h.elim
theorem equal_run1 {P : Program} {w : World} {t : TypeId} {x y : Value} {r : Bool} (h : ∀ d, (Op.equalIn (d + 1) t x y).run P w = .ok r w) : (Op.equal t x y).run P w = .ok r w := h 9999

theorem bin_res {P : Program} {w : World} {op : BinOp} {t : TypeId} (xo yo : Operand) {x y : Value} {K : Value → H → Prop} (h : binK P op t x y fun v => K v w.heap) :
    ResQ w K ((do eqGuard op t xo yo x y; binOp op t x y : Sem Value).run P w) := by
  have noguard : eqGuard op t xo yo x y = pure () → ResQ w K ((binOp op t x y).run P w) → ResQ w K ((do eqGuard op t xo yo x y; binOp op t x y : Sem Value).run P w) := by
    intro h1 h2; rw [h1]; exact h2
  unfold binK at h
  split at h
  · rename_i k a j b
    obtain ⟨hb, h⟩ := req_spec h
    refine noguard (by simp [eqGuard]) ⟨_, w, ?_, rfl, h⟩
    have hn : ¬ b < 0 := by omega
    simp only [binOp, Op.shift, hn, if_false]; rfl
  · rename_i k a j b
    obtain ⟨hb, h⟩ := req_spec h
    refine noguard (by simp [eqGuard]) ⟨_, w, ?_, rfl, h⟩
    have hn : ¬ b < 0 := by omega
    simp only [binOp, Op.shift, hn, if_false]; rfl
  · rename_i h1 h2
    split at h
    · subst_vars
      exact noguard (eqGuard_at_int _ _ _ _ _ _ _) (intOp_res (fun e => h1 e) (fun e => h2 e) h)
    · exact h.elim
  · exact noguard (eqGuard_at_string _ _ _ _ _ _) (strOp_res h)
  · rename_i a b
    split at h
    · rename_i hu
      refine noguard (eqGuard_at_bool _ _ _ _ _ _) ⟨_, w, ?_, rfl, h⟩
      have : (Op.equal t (.bool a) (.bool b)).run P w = .ok (a == b) w := equal_run1 (fun d => run_equalIn_bool' (P := P) w d t a b hu)
      simp only [binOp, Sem.run_bind, this, Result.andThen_ok, Sem.run_pure]
    · exact h.elim
  · rename_i a b
    split at h
    · rename_i hu
      refine noguard (eqGuard_at_bool _ _ _ _ _ _) ⟨_, w, ?_, rfl, h⟩
      have : (Op.equal t (.bool a) (.bool b)).run P w = .ok (a == b) w := equal_run1 (fun d => run_equalIn_bool' (P := P) w d t a b hu)
      simp only [binOp, Sem.run_bind, this, Result.andThen_ok, Sem.run_pure]
    · exact h.elim
  · rename_i p
    split at h
    · rename_i e hu
      refine noguard (eqGuard_at_pointer _ _ _ _ _ _) ⟨_, w, ?_, rfl, h⟩
      have : (Op.equal t (.pointer p) (.pointer none)).run P w = .ok p.isNone w := equal_run1 fun d => by cases p <;> simp [Op.equalIn, und hu]
      simp only [binOp, Sem.run_bind, this, Result.andThen_ok, Sem.run_pure]
    · exact h.elim
  · rename_i p
    split at h
    · rename_i e hu
      refine noguard (eqGuard_at_pointer _ _ _ _ _ _) ⟨_, w, ?_, rfl, h⟩
      have : (Op.equal t (.pointer p) (.pointer none)).run P w = .ok p.isNone w := equal_run1 fun d => by cases p <;> simp [Op.equalIn, und hu]
      simp only [binOp, Sem.run_bind, this, Result.andThen_ok, Sem.run_pure]
    · exact h.elim
  · rename_i b l c l' c'
    split at h
    · rename_i e hu
      refine noguard (eqGuard_at_slice _ _ _ _ _ _ _ _) ⟨_, w, ?_, rfl, h⟩
      have : (Op.equal t (.slice b l c) (.slice none l' c')).run P w = .ok b.isNone w := equal_run1 fun d => by cases b <;> simp [Op.equalIn, und hu]
      simp only [binOp, Sem.run_bind, this, Result.andThen_ok, Sem.run_pure]
    · exact h.elim
  · rename_i b l c l' c'
    split at h
    · rename_i e hu
      refine noguard (eqGuard_at_slice _ _ _ _ _ _ _ _) ⟨_, w, ?_, rfl, h⟩
      have : (Op.equal t (.slice b l c) (.slice none l' c')).run P w = .ok b.isNone w := equal_run1 fun d => by cases b <;> simp [Op.equalIn, und hu]
      simp only [binOp, Sem.run_bind, this, Result.andThen_ok, Sem.run_pure]
    · exact h.elim
  · rename_i a b
    obtain ⟨r, hr, hg, h⟩ := eqS_run (w := w) h
    refine ⟨_, w, ?_, rfl, h⟩
    simp [eqGuard, hg, binOp, hr]
  · rename_i a b
    obtain ⟨r, hr, hg, h⟩ := eqS_run (w := w) h
    refine ⟨_, w, ?_, rfl, h⟩
    simp [eqGuard, hg, binOp, hr]
  · exact h.elim
theorem un_res {P : Program} {w : World} {op : UnOp} {x : Value} {K : Value → H → Prop} (h : unK op x fun v => K v w.heap) :
    ResQ w K ((Op.unary op x).run P w) := by
  unfold unK at h
  split at h
  · exact ⟨_, w, by simp [Op.unary, Op.intArith], rfl, h⟩
  · exact ⟨_, w, by simp [Op.unary], rfl, h⟩
  · exact ⟨_, w, by simp [Op.unary, Op.intBits, bXor], rfl, h⟩
  · exact h.elim
end Go.Eng
