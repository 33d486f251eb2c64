import Derived.Test.YteeinamngmmlbaaEng9
/-! A drawn region, whole; the code; a function. -/
set_option linter.unusedVariables false
set_option linter.unusedSimpArgs false
namespace Go.Eng
open Go

theorem wpD_true {P : Program} {ops : Array Oper} {bf : List Nat} {Q : Exit → Act → World → Prop} {i : Nat} : ∀ (n : Nat) (S : Conds) (listed : Array Bool) (a : Act) (w : World), wpD P ops bf Q S n listed a w → wpD P ops bf Q ((i, fun _ => True) :: S) n listed a w
  | 0, _, _, _, _, h => h
  | n + 1, S, _, _, _, h => by
    refine ⟨h.1, fun j hj => wpOp_mono (fun a' w' h' => ?_) (h.2 j hj)⟩
    cases hb : (bf.getD j 0).testBit i with
    | true =>
      have hf : fil bf j ((i, fun _ => True) :: S) = fil bf j S := by
        unfold fil; rw [List.filter_cons_of_neg (by show ¬ (!(bf.getD j 0).testBit i) = true; rw [hb]; decide)]
      rw [hf]; exact h'
    | false =>
      have hf : fil bf j ((i, fun _ => True) :: S) = (i, fun _ => True) :: fil bf j S := by
        unfold fil; rw [List.filter_cons_of_pos (by show (!(bf.getD j 0).testBit i) = true; rw [hb]; rfl)]
      rw [hf]
      refine ⟨fun x hx => ?_, wpD_true n _ _ _ _ h'.2⟩
      rcases List.mem_cons.1 hx with rfl | hx
      · trivial
      · exact h'.1 x hx
theorem evTake_other {P : Program} {e : Env} {h : H} {i : Nat} {op : Op} {S : Seen} {K : Value → Seen → Prop} (hl : isLoad op = false) (hh : evTake P e h i op S K) : evOp P e h op fun v _ => K v S := by
  cases op <;> first | exact hh | cases hl
theorem ready_nil {ops : Array Oper} {listed : Array Bool} {done : Nat} (hr : Rel ops listed done) (h : readyL done 0 ops.toList = []) : Region.ready .any ops listed = [] := by
  cases hrd : Region.ready .any ops listed with
  | nil => rfl
  | cons i l =>
    have hi : i ∈ Region.ready .any ops listed := by rw [hrd]; simp
    obtain ⟨_, o, ho, _⟩ := mem_ready.1 hi
    have := readyL_mem (l := ops.toList) (k := 0) (i := i) (o := o) ⟨by simpa using ho, by rw [Nat.zero_add]; exact (ready_iff hr ho).1 hi⟩
    rw [h] at this; cases this
theorem readyL_sound {done : Nat} : ∀ {l : List Oper} {k i : Nat} {o : Oper}, (i, o) ∈ readyL done k l → k ≤ i ∧ l[i - k]? = some o ∧ readyI o i done = true
  | [], k, i, o, h => by simp [readyL] at h
  | x :: l, k, i, o, h => by
    have later : (i, o) ∈ readyL done (k + 1) l → k ≤ i ∧ (x :: l)[i - k]? = some o ∧ readyI o i done = true := fun h => by
      obtain ⟨h1, h2, h3⟩ := readyL_sound h
      refine ⟨by omega, ?_, h3⟩
      rw [show i - k = (i - (k + 1)) + 1 by omega]; simpa using h2
    simp only [readyL] at h
    split at h
    · rename_i hb
      rcases List.mem_cons.1 h with h | h
      · simp only [Prod.mk.injEq] at h
        obtain ⟨rfl, rfl⟩ := h
        exact ⟨Nat.le_refl _, by simp, hb⟩
      · exact later h
    · exact later h
theorem size_of_get {ops : Array Oper} {i : Nat} {o : Oper} (h : ops[i]? = some o) : i < ops.size := by
  rcases Nat.lt_or_ge i ops.size with h' | h'
  · exact h'
  · rw [Array.getElem?_eq_none h'] at h; cases h

theorem evAny_sound {P : Program} {nt : Nat} {ops : Array Oper} {bf : List Nat} {w0 : World} {Q : Exit → Act → World → Prop} {K : Env → H → Prop} (hb : BfOk ops bf) (hsel : Region.noSelect ops = true)
    (hQ : ∀ e h a w, St nt w0 e h a w → K e h → Q .normal a w) (hP : ∀ c a w, ¬ Q (.panic c) a w) :
    ∀ (n done : Nat) (e : Env) (h : H) (S : Seen), evAny P nt ops bf n done e h S K → ∀ (listed : Array Bool) (a : Act) (w : World), Rel ops listed done → Closed ops bf listed → St nt w0 e h a w →
      (∀ x ∈ S, rowIs h x.2.1 x.2.2.1 0 x.2.2.2) → wpD P ops bf Q (condsOf S) n listed a w := by
  intro n
  induction n with
  | zero =>
    intro done e h S hev listed a w hr hc hs hS
    simp only [evAny] at hev
    split at hev
    · rename_i hn
      exact ⟨ready_nil hr hn, hQ e h a w hs hev⟩
    · exact hev.elim
  | succ n ih =>
    intro done e h S hev listed a w hr hc hs hS
    simp only [evAny] at hev
    split at hev
    · rename_i i o hft
      obtain ⟨_, hio, hrd, htk⟩ := firstTake_spec hft
      have ho : ops[i]? = some o := by simpa using hio
      have hlt := size_of_get ho
      have hready := (ready_iff hr ho).2 hrd
      rcases ifB_spec hev with ⟨hap, hev⟩ | ⟨_, hev⟩
      · have hfree : ∀ j oj, ops[j]? = some oj → j ≠ i → listed.getD j true = false → (∀ e ∈ oj.after, Region.binds .any e = true → e.on ≠ i) → o.apart ops oj = true := by
          intro j oj hj hne hl hno
          have hjl := size_of_get hj
          rw [hr.getT hjl] at hl
          exact apartAll_spec hap j oj (by simpa using hj) (by rw [Nat.zero_add]; exact hne) (by rw [Nat.zero_add]; exact hl) hno
        have take := fun (C : World → Prop) (v : Value) => wpD_take (P := P) (Q := Q) (C := C) (v := v) hb ho (Region.noSelect_spec hsel) (fun c a w hq => absurd hq (hP c _ w)) n (condsOf S) listed a w hc hfree hready
        have hS' : ∀ x ∈ condsOf S, x.2 w := by
          intro x hx
          obtain ⟨y, hy, rfl⟩ := List.mem_map.1 hx
          show rowIs w.heap _ _ _ _
          rw [hs.heap]; exact hS y hy
        rcases guardK_spec hs.ok hev o rfl with ⟨hw, e', hm, hy⟩ | ⟨hw, e', hm, hn⟩
        · have hs' : St nt w0 e' h a w := ⟨hm, hs.size, hs.defers, hs.heap, hs.rest⟩
          have quiet : ∀ v, (∀ w, (execOp a.eval o).run P w = .ok (.value v) w) → putE nt e' o.dst v (fun e => evAny P nt ops bf n (done ||| 2 ^ i) e h S K) → wpD P ops bf Q (condsOf S) (n + 1) listed a w := by
            intro v hv hp
            obtain ⟨e2, hk, hst⟩ := putE_spec hp hs'
            refine take (fun _ => True) v (.inl ⟨hw, fun w _ => hv w⟩) trivial hS' (wpD_true _ _ _ _ _ ?_)
            exact ih _ e2 h S hk _ _ w (hr.set hlt) (closed_set hb hc hready) (hst h w hs.heap (Rest.refl w)) hS
          cases hld : isLoad o.op with
          | false =>
            have hy' := evTake_other hld hy
            have hq : quietOp o.op = true ∨ isLen P o.op = true := by
              unfold takeable at htk
              rw [hld] at htk
              simpa using htk
            rcases hq with hq | hq
            · obtain ⟨v, hk, hv⟩ := quiet_run hq hm hy'
              exact quiet v hv hk
            · obtain ⟨v, hk, hv⟩ := len_any hq hm hy'
              exact quiet v hv hk
          | true =>
            have hl : ∃ t x, o.op = .load t x := by
              cases hop : o.op <;> rw [hop] at hld <;> first | exact ⟨_, _, rfl⟩ | cases hld
            obtain ⟨t, x, hop⟩ := hl
            rw [hop] at hy
            have hy : rd e' x _ := hy
            obtain ⟨b, off, hx, hy⟩ := deref_spec (rd_spec (x := x) hm hy)
            obtain ⟨v, hk, hrow, hrun⟩ := load_run hy
            obtain ⟨e2, hk, hst⟩ := putE_spec hk hs'
            refine take (fun w => rowIs w.heap b off 0 (lcells P t v)) v (.inl ⟨hw, fun w hw' => ?_⟩) (by rw [hs.heap]; exact hrow) hS' ?_
            · have he : execOp a.eval o = (do pure (Next.value (← Instr.loadAt t (a.eval x)))) := by
                unfold execOp; rw [hop]
              rw [he, hx]
              simp only [Sem.run_bind, hrun w hw', Result.andThen_ok, Sem.run_pure]
            · refine ih _ e2 h ((i, b, off, lcells P t v) :: S) hk _ _ w (hr.set hlt) (closed_set hb hc hready) (hst h w hs.heap (Rest.refl w)) ?_
              intro y hy'
              rcases List.mem_cons.1 hy' with rfl | hy'
              · exact hrow
              · exact hS y hy'
        · have hs' : St nt w0 e' h a w := ⟨hm, hs.size, hs.defers, hs.heap, hs.rest⟩
          obtain ⟨e2, hk, hst⟩ := putE_spec hn hs'
          refine take (fun _ => True) undef (.inr ⟨hw, rfl⟩) trivial hS' (wpD_true _ _ _ _ _ ?_)
          exact ih _ e2 h S hk _ _ w (hr.set hlt) (closed_set hb hc hready) (hst h w hs.heap (Rest.refl w)) hS
      · exact hev.elim
    · split at hev
      · rename_i hn
        have h0 := ready_nil hr hn
        exact ⟨fun _ => hQ e h a w hs hev, by rw [h0]; simp⟩
      · refine ⟨fun hn => ?_, fun i hi => ?_⟩
        · exfalso
          rename_i hne
          cases hrl : readyL done 0 ops.toList with
          | nil => exact hne hrl
          | cons x l =>
            have hx : x ∈ readyL done 0 ops.toList := by rw [hrl]; simp
            obtain ⟨i, o⟩ := x
            obtain ⟨_, hio, hrd⟩ := readyL_sound hx
            have ho : ops[i]? = some o := by simpa using hio
            have := (ready_iff hr ho).2 hrd
            rw [hn] at this; cases this
        · obtain ⟨_, o, ho, _⟩ := mem_ready.1 hi
          have hlt := size_of_get ho
          have hmem := readyL_mem (l := ops.toList) (k := 0) (i := i) (o := o) ⟨by simpa using ho, by rw [Nat.zero_add]; exact (ready_iff hr ho).1 hi⟩
          rw [Nat.zero_add] at hmem
          have hev := allL_spec hev (i, o) hmem
          have finish : ∀ (e' : Env) (v : Value) (w' : World), St nt w0 e' h a w → Rest w w' → held w'.heap (bf.getD i 0) S (putE nt e' o.dst v fun e => evAny P nt ops bf n (done ||| 2 ^ i) e w'.heap (filS (bf.getD i 0) S) K) →
              (∀ x ∈ fil bf i (condsOf S), x.2 w') ∧ wpD P ops bf Q (fil bf i (condsOf S)) n (listed.setIfInBounds i true) (a.put o.dst v) w' := by
            intro e' v w' hs' hrw hh
            obtain ⟨h1, h2⟩ := held_spec hh
            obtain ⟨e2, hk, hst⟩ := putE_spec h2 hs'
            rw [← condsOf_fil]
            refine ⟨fun x hx => ?_, ih _ e2 w'.heap _ hk _ _ w' (hr.set hlt) (closed_set hb hc hi) (hst _ w' rfl hrw) h1⟩
            obtain ⟨y, hy, rfl⟩ := List.mem_map.1 hx
            exact h1 y hy
          unfold wpOp
          rw [ho]
          show if Region.wanted o (yielded ops a.tmps) = true then _ else _
          rcases guardK_spec hs.ok hev o rfl with ⟨hw, e', hm, hy⟩ | ⟨hw, e', hm, hn⟩
          · rw [if_pos hw]
            have hs' : St nt w0 e' h a w := ⟨hm, hs.size, hs.defers, hs.heap, hs.rest⟩
            rw [← hs.heap] at hy
            refine .inl (Res.wp (evOp_res hm hy) fun v w' hrw hk => finish e' v w' hs' hrw hk)
          · rw [if_neg (by rw [hw]; decide)]
            have hs' : St nt w0 e' h a w := ⟨hm, hs.size, hs.defers, hs.heap, hs.rest⟩
            rw [← hs.heap] at hn
            exact finish e' undef w hs' (Rest.refl w) hn
end Go.Eng
