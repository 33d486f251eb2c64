import Derived.Test.YteeinamngmmlbaaEng7
import Derived.OrdersHeld
/-! Regions: in the order of the text, and in whatever order is drawn. -/
set_option linter.unusedVariables false
set_option linter.unusedSimpArgs false
namespace Go.Eng
open Go

/-- what holds between the evaluator's state and the machine's -/
structure St (nt : Nat) (w0 : World) (e : Env) (h : H) (a : Act) (w : World) : Prop where
  ok : Match e a.tmps
  size : a.tmps.size = nt
  defers : a.defers = []
  heap : w.heap = h
  rest : Rest w0 w

theorem putE_spec {nt : Nat} {e : Env} {dst : Option Nat} {v : Value} {K : Env → Prop} {w0 w : World} {h : H} {a : Act} (hp : putE nt e dst v K) (hs : St nt w0 e h a w) :
    ∃ e', K e' ∧ ∀ h' w', w'.heap = h' → Rest w w' → St nt w0 e' h' (a.put dst v) w' := by
  cases dst with
  | none => exact ⟨e, hp, fun h' w' hh hr => ⟨hs.ok, hs.size, hs.defers, hh, hs.rest.trans hr⟩⟩
  | some d =>
    rcases ifB_spec hp with ⟨hd, hp⟩ | ⟨_, hp⟩
    · have hd : d < nt := by simpa [Nat.blt_eq] using hd
      refine ⟨_, hp, fun h' w' hh hr => ⟨?_, by simp [Act.put, hs.size], hs.defers, hh, hs.rest.trans hr⟩⟩
      intro i u hi
      simp only [get] at hi
      split at hi
      · rename_i hb
        have : d = i := Nat.eq_of_beq_eq_true hb
        subst this
        simp only [Option.some.injEq] at hi
        subst hi
        simp [Act.put, hs.size, hd]
      · rename_i hb
        have hne : d ≠ i := fun e => by subst e; simp at hb
        simp only [Act.put]
        rw [Array.getElem?_setIfInBounds_ne hne]
        exact hs.ok i u hi
    · exact hp.elim
theorem match_refine {e : Env} {tmps : Array Value} (hm : Match e tmps) {d : Nat} {v : Value} (hv : tmps[d]? = some v) : Match ((d, v) :: e) tmps := by
  intro i u hi
  simp only [get] at hi
  split at hi
  · rename_i hb
    have : d = i := Nat.eq_of_beq_eq_true hb
    subst this
    simp only [Option.some.injEq] at hi
    subst hi; exact hv
  · exact hm i u hi
theorem guardK_spec {ops : Array Oper} {e : Env} {g : Option (Nat × Bool)} {yes no : Env → Prop} {a : Act} (hm : Match e a.tmps) (h : guardK ops.toList e g yes no) (o : Oper) (ho : o.guard = g) :
    (Region.wanted o (yielded ops a.tmps) = true ∧ ∃ e', Match e' a.tmps ∧ yes e') ∨ (Region.wanted o (yielded ops a.tmps) = false ∧ ∃ e', Match e' a.tmps ∧ no e') := by
  cases g with
  | none => exact .inl ⟨by simp [Region.wanted, ho], e, hm, h⟩
  | some x =>
    obtain ⟨j, want⟩ := x
    obtain ⟨d, hd, h⟩ := opt_spec h
    obtain ⟨v, hv, h⟩ := opt_spec h
    have hd' : (ops[j]?).bind (·.dst) = some d := by simpa using hd
    have hv' := hm d v hv
    have hy : yielded ops a.tmps j = match v with | .bool b => some b | _ => none := by
      simp only [yielded, hd', Option.bind_some, hv']
      cases v <;> rfl
    split at h
    · rename_i b
      have hw : Region.wanted o (yielded ops a.tmps) = (b == want) := by
        simp only [Region.wanted, ho, hy]; cases b <;> cases want <;> rfl
      cases b <;> cases want
      · exact .inl ⟨by rw [hw]; rfl, _, match_refine hm hv', h⟩
      · exact .inr ⟨by rw [hw]; rfl, _, match_refine hm hv', h⟩
      · exact .inr ⟨by rw [hw]; rfl, _, match_refine hm hv', h⟩
      · exact .inl ⟨by rw [hw]; rfl, _, match_refine hm hv', h⟩
    · rename_i hnb
      refine .inr ⟨?_, e, hm, h⟩
      simp only [Region.wanted, ho, hy]
      cases v <;> first | rfl | exact absurd rfl (hnb _)
theorem callK_calls {P : Program} {f : FuncId} {args : Array Value} {w : World} {K : Value → H → Prop} {R : Ending → World → Prop} (h : callK P f args w.heap K)
    (hR : ∀ v w', Rest w w' → K v w'.heap → R (.returned v) w') : Calls P f args w R := by
  refine (h w rfl).mono ?_
  rintro e w' ⟨v, rfl, h1, h2, h3, hk⟩
  exact hR v w' ⟨h1, h2, h3⟩ hk
theorem Res.wp {P : Program} {o : Oper} {a : Act} {w : World} {K : Value → H → Prop} {next : Act → World → Prop} {Q : Exit → Act → World → Prop} (h : Res P w K ((execOp a.eval o).run P w))
    (hn : ∀ v w', Rest w w' → K v w'.heap → next (a.put o.dst v) w') : o.wp P a w next Q := by
  unfold Oper.wp
  generalize (execOp a.eval o).run P w = r at h
  cases r with
  | halt x w' => exact h.elim
  | ok n w' =>
    cases n <;> try exact h.elim
    case value v => exact hn v w' h.1 h.2
    case skip => exact hn undef w' h.1 h.2
    case enter f args => exact callK_calls h.2 fun v w'' hr hk => hn v w'' (h.1.trans hr) hk

theorem evOps_sound {P : Program} {nt : Nat} {ops : Array Oper} {w0 : World} {Q : Exit → Act → World → Prop} {K : Env → H → Prop} (hQ : ∀ e h a w, St nt w0 e h a w → K e h → Q .normal a w) :
    ∀ (rest : List Oper) (k : Nat), ops.toList.drop k = rest → ∀ (e : Env) (h : H) (a : Act) (w : World), St nt w0 e h a w → evOps P nt ops.toList rest e h K → wpOps P ops Q (List.range' k rest.length) a w
  | [], k, hk, e, h, a, w, hs, hev => hQ e h a w hs hev
  | o :: rest, k, hk, e, h, a, w, hs, hev => by
    have ho : ops[k]? = some o := by
      have := congrArg (fun l => l[0]?) hk
      simpa using this
    have hk' : ops.toList.drop (k + 1) = rest := by
      have := congrArg (fun l => l.drop 1) hk
      simpa [Nat.add_comm] using this
    simp only [List.length_cons, List.range'_succ, wpOps, ho]
    simp only [evOps] at hev
    rcases guardK_spec hs.ok hev o rfl with ⟨hw, e', hm, hy⟩ | ⟨hw, e', hm, hn⟩
    · rw [if_pos hw]
      have hs' : St nt w0 e' h a w := ⟨hm, hs.size, hs.defers, hs.heap, hs.rest⟩
      rw [← hs.heap] at hy
      refine .inl (Res.wp (evOp_res hm hy) fun v w' hr hk2 => ?_)
      obtain ⟨e2, hk3, hst⟩ := putE_spec hk2 hs'
      exact evOps_sound hQ rest (k + 1) hk' e2 _ _ _ (hst _ w' rfl hr) hk3
    · rw [if_neg (by rw [hw]; decide)]
      have hs' : St nt w0 e' h a w := ⟨hm, hs.size, hs.defers, hs.heap, hs.rest⟩
      obtain ⟨e2, hk3, hst⟩ := putE_spec hn hs'
      exact evOps_sound hQ rest (k + 1) hk' e2 h _ _ (hst h w hs.heap (Rest.refl w)) hk3

/-! ### orders that are drawn -/
abbrev Conds := List (Nat × (World → Prop))
def fil (bf : List Nat) (i : Nat) (S : Conds) : Conds := S.filter fun x => !(bf.getD i 0).testBit x.1
def wpD (P : Program) (ops : Array Oper) (bf : List Nat) (Q : Exit → Act → World → Prop) : Conds → Nat → Array Bool → Act → World → Prop
  | _, 0, listed, a, w => Region.ready .any ops listed = [] ∧ Q .normal a w
  | S, n + 1, listed, a, w => (Region.ready .any ops listed = [] → Q .normal a w) ∧
      ∀ i ∈ Region.ready .any ops listed, wpOp P ops Q i (fun a' w' => (∀ x ∈ fil bf i S, x.2 w') ∧ wpD P ops bf Q (fil bf i S) n (listed.setIfInBounds i true) a' w') a w
theorem wpD_any {P : Program} {ops : Array Oper} {bf : List Nat} {Q : Exit → Act → World → Prop} : ∀ (n : Nat) (S : Conds) (listed : Array Bool) (a : Act) (w : World), wpD P ops bf Q S n listed a w → wpAny P .any ops Q n listed a w
  | 0, _, _, _, _, h => h
  | n + 1, _, _, _, _, h => ⟨h.1, fun i hi => wpOp_mono (fun a' w' h' => wpD_any n _ _ a' w' h'.2) (h.2 i hi)⟩
theorem wpD_sub {P : Program} {ops : Array Oper} {bf : List Nat} {Q : Exit → Act → World → Prop} : ∀ (n : Nat) (S S' : Conds) (_ : ∀ x ∈ S, x ∈ S') (listed : Array Bool) (a : Act) (w : World), wpD P ops bf Q S' n listed a w → wpD P ops bf Q S n listed a w
  | 0, _, _, _, _, _, _, h => h
  | n + 1, S, S', hs, _, _, _, h => by
    refine ⟨h.1, fun i hi => wpOp_mono (fun a' w' h' => ?_) (h.2 i hi)⟩
    have hf : ∀ x ∈ fil bf i S, x ∈ fil bf i S' := fun x hx => by
      simp only [fil, List.mem_filter] at hx ⊢; exact ⟨hs x hx.1, hx.2⟩
    exact ⟨fun y hy => h'.1 y (hf y hy), wpD_sub n _ _ hf _ a' w' h'.2⟩
theorem fil_mem {bf : List Nat} {i : Nat} {S : Conds} : ∀ x ∈ fil bf i S, x ∈ S := fun x hx => (List.mem_filter.1 hx).1
/-- what has come up has come up behind all that it hangs on -/
def Closed (ops : Array Oper) (bf : List Nat) (listed : Array Bool) : Prop := ∀ j, listed.getD j false = true → ∀ k, (bf.getD j 0).testBit k = true → listed.getD k false = true
def BfOk (ops : Array Oper) (bf : List Nat) : Prop := ∀ (j : Nat) (o : Oper), ops[j]? = some o → bf.getD j 0 = bfStep bf o
theorem bfOk_spec {bf : List Nat} : ∀ {l : List Oper} {i : Nat}, bfOk bf i l = true → ∀ j o, l[j]? = some o → bf.getD (i + j) 0 = bfStep bf o
  | [], _, _, j, o, h => by simp at h
  | x :: l, i, h, 0, o, ho => by
    simp only [bfOk, Bool.and_eq_true] at h
    simp at ho; subst ho
    exact Nat.eq_of_beq_eq_true h.1
  | x :: l, i, h, j + 1, o, ho => by
    simp only [bfOk, Bool.and_eq_true] at h
    have := bfOk_spec h.2 j o (by simpa using ho)
    rw [show i + (j + 1) = i + 1 + j by omega]; exact this
theorem testBit_pow (d k : Nat) : (2 ^ d).testBit k = decide (d = k) := by
  rw [Nat.testBit_two_pow]
theorem fold_bits (bf : List Nat) (k : Nat) : ∀ (l : List Edge) (s : Nat), (l.foldl (fun s e => match bindsE e with | true => s ||| 2 ^ e.on ||| bf.getD e.on 0 | false => s) s).testBit k = true →
    s.testBit k = true ∨ ∃ e ∈ l, bindsE e = true ∧ (e.on = k ∨ (bf.getD e.on 0).testBit k = true)
  | [], s, h => .inl h
  | e :: l, s, h => by
    rw [List.foldl_cons] at h
    rcases fold_bits bf k l _ h with h | ⟨e', he, h⟩
    · cases hb : bindsE e with
      | false => rw [hb] at h; exact .inl h
      | true =>
        rw [hb] at h
        simp only [Nat.testBit_or, Bool.or_eq_true, testBit_pow, decide_eq_true_eq] at h
        rcases h with (h | h) | h
        · exact .inl h
        · exact .inr ⟨e, by simp, hb, .inl h⟩
        · exact .inr ⟨e, by simp, hb, .inr h⟩
    · exact .inr ⟨e', by simp [he], h⟩
/-- what may come up hangs on nothing that has not come up -/
theorem ready_bits {ops : Array Oper} {bf : List Nat} {listed : Array Bool} (hb : BfOk ops bf) (hc : Closed ops bf listed) {j : Nat} (hj : j ∈ Region.ready .any ops listed) :
    ∀ k, (bf.getD j 0).testBit k = true → listed.getD k false = true := by
  intro k hk
  obtain ⟨_, o, ho, hall⟩ := mem_ready.1 hj
  rw [hb j o ho] at hk
  rcases fold_bits bf k _ 0 hk with h | ⟨e, he, hbe, h⟩
  · simp at h
  · have hl := hall e (by simpa using he) hbe
    rcases h with rfl | h
    · exact hl
    · exact hc e.on hl k h
theorem closed_set {ops : Array Oper} {bf : List Nat} {listed : Array Bool} (hb : BfOk ops bf) (hc : Closed ops bf listed) {j : Nat} (hj : j ∈ Region.ready .any ops listed) : Closed ops bf (listed.setIfInBounds j true) := by
  intro i hi k hk
  by_cases hij : j = i
  · subst hij; exact getD_set_true (ready_bits hb hc hj k hk)
  · rw [getD_set_ne false hij] at hi
    exact getD_set_true (hc i hi k hk)
/-- An operation that may come up and only looks may be taken first. -/
theorem wpD_take {P : Program} {ops : Array Oper} {bf : List Nat} {Q : Exit → Act → World → Prop} {C : World → Prop} {i : Nat} {oi : Oper} {v : Value} (hb : BfOk ops bf) (hi : ops[i]? = some oi)
    (hsel : ∀ (j : Nat) (o : Oper) cs b, ops[j]? = some o → o.op ≠ .select cs b) (hQ : ∀ c a w, Q (.panic c) (a.put oi.dst v) w → Q (.panic c) a w)   :
    ∀ (n : Nat) (S : Conds) (listed : Array Bool) (a : Act) (w : World), Closed ops bf listed →
      (∀ j oj, ops[j]? = some oj → j ≠ i → listed.getD j true = false → (∀ e ∈ oj.after, Region.binds .any e = true → e.on ≠ i) → oi.apart ops oj = true) →
      i ∈ Region.ready .any ops listed → YieldsIf P ops C oi v a → C w → (∀ x ∈ S, x.2 w) →
      wpD P ops bf Q ((i, C) :: S) n (listed.setIfInBounds i true) (a.put oi.dst v) w → wpD P ops bf Q S (n + 1) listed a w := by
  intro n
  induction n with
  | zero =>
    intro S listed a w hc _ hr hy hC hS H
    refine ⟨fun h => (by rw [h] at hr; cases hr), fun j hj => ?_⟩
    by_cases hji : j = i
    · subst hji; exact hy.wpOp hi hC ⟨fun x hx => hS x (fil_mem x hx), wpD_sub _ _ _ (fun x hx => List.mem_cons_of_mem _ (fil_mem x hx)) _ _ _ H⟩
    · have := ready_mono hj hji
      rw [H.1] at this
      cases this
  | succ n ih =>
    intro S listed a w hc hfree hr hy hC hS H
    refine ⟨fun h => (by rw [h] at hr; cases hr), fun j hj => ?_⟩
    by_cases hji : j = i
    · subst hji; exact hy.wpOp hi hC ⟨fun x hx => hS x (fil_mem x hx), wpD_sub _ _ _ (fun x hx => List.mem_cons_of_mem _ (fil_mem x hx)) _ _ _ H⟩
    · have h1 := H.2 j (ready_mono hj hji)
      obtain ⟨hjun, oj, hoj, hall⟩ := mem_ready.1 hj
      have hiun : listed.getD i false = false := by
        have h0 := (mem_ready.1 hr).1
        by_cases hlt : i < listed.size
        · simp [Array.getD, hlt] at h0 ⊢; exact h0
        · simp [Array.getD, hlt]
      have hnot : ∀ e ∈ oj.after, Region.binds .any e = true → e.on ≠ i := fun e he hb heq => by
        have h1 := hall e he hb
        rw [heq, hiun] at h1; cases h1
      have hbit : (bf.getD j 0).testBit i = false := by
        cases hbt : (bf.getD j 0).testBit i with
        | false => rfl
        | true => have := ready_bits hb hc hj i hbt; rw [hiun] at this; cases this
      have h2 := wpOp_putIf hoj (hfree j oj hoj hji hjun hnot) (fun cs b => hsel i oi cs b hi) (fun cs b => hsel j oj cs b hoj) hQ hy h1
      have hfree' : ∀ k ok, ops[k]? = some ok → k ≠ i → (listed.setIfInBounds j true).getD k true = false →
          (∀ e ∈ ok.after, Region.binds .any e = true → e.on ≠ i) → oi.apart ops ok = true := fun k ok hk hki hun hno => by
        refine hfree k ok hk hki ?_ hno
        by_cases hjk : j = k
        · subst hjk; exact hjun
        · rw [getD_set_ne true hjk] at hun; exact hun
      have hfe : fil bf j ((i, C) :: S) = (i, C) :: fil bf j S := by
        unfold fil; rw [List.filter_cons_of_pos (by show (!(bf.getD j 0).testBit i) = true; rw [hbit]; rfl)]
      rw [hfe] at h2
      refine wpOp_mono (fun a' w' h3 => ⟨fun x hx => h3.2.1 x (List.mem_cons_of_mem _ hx), ?_⟩) h2
      exact ih (fil bf j S) (listed.setIfInBounds j true) a' w' (closed_set hb hc hj) hfree' (ready_mono hr (Ne.symm hji)) h3.1 (h3.2.1 (i, C) (by simp)) (fun x hx => h3.2.1 x (List.mem_cons_of_mem _ hx)) (by rw [Array.setIfInBounds_comm _ _ hji]; exact h3.2.2)
end Go.Eng
