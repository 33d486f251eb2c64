import Derived.Test.YteeinamngmmlbaaSa
set_option linter.unusedVariables false
namespace Go.Proofs.Yteeinamngmmlbaa
open Go.Eng
variable {h h0 h' : H} {now seq : Int} {a b : Option Addr} {n c m d p : Nat} {s : S} {K : Value → H → Prop} {id k on : Int} {i : Nat} {t x : T} {l : L}
def ownP (s : S) (t : T) : Int :=
  let p := if t.state = 1 then IntKind.i64.wrap (t.base + IntKind.i64.wrap ((IntKind.i64.wrap (s.now - t.since)).tdiv 16)) else t.base
  if p > 7 then 7 else p
theorem own_spec (e : now = s.now) (z : K (.int .i64 (ownP s t)) h) : callD Try.prog 58 ⟨[val now seq a n c b m d, .agg ⟨encT t⟩]⟩ h K := by
  refine spec_l11Own_M_call ?_
  rw [spec_l11Own_M]
  subst e
  refine ifB_eqI (fun f => ?_) fun f => ?_
  · rw [ownP, if_pos f] at z
    rw [spec_l11Own_M_j0]
    refine ifB_dec (fun g => ?_) fun g => ?_
    · rw [if_pos g] at z; exact z
    · rw [if_neg g] at z; exact z
  · rw [ownP, if_neg f] at z
    rw [spec_l11Own_M_j0]
    refine ifB_dec (fun g => ?_) fun g => ?_
    · rw [if_pos g] at z; exact z
    · rw [if_neg g] at z; exact z
def up (s : S) (id : Int) (p : Int) (t : T) : Int := if waits s (s.ths.length + 1) (nxt s t.id) id then (if ownP s t > p then ownP s t else p) else p
def prioS (s : S) (id : Int) (x : T) : Int := s.ths.foldl (up s id) (ownP s x)
theorem prio_loop {kx : Int → H → Prop} (r : Ss h now seq a n c b m d s) :
    ∀ (t i : Nat) (p : Int), i + t = n → kx ((s.ths.drop i).foldl (up s id) p) h → spec_l11Prio_M_l0 kx (t + 1) id p i now seq a n c b m d h := by
  have hl := r.t.le
  intro t
  induction t with
  | zero =>
    intro i p e z
    rw [spec_l11Prio_M_l0]
    rw [List.drop_of_length_le (by omega)] at z
    exact ifD_f (by omega) z
  | succ t ih =>
    intro i p e z
    obtain ⟨x, hx⟩ : ∃ x, s.ths[i]? = some x := ⟨_, List.getElem?_eq_getElem (by omega)⟩
    have ed : s.ths.drop i = x :: s.ths.drop (i + 1) := by
      rw [List.drop_eq_getElem_cons (by omega)]; congr 1
      exact (List.getElem?_eq_some_iff.mp hx).2
    rw [ed, List.foldl_cons] at z
    rw [spec_l11Prio_M_l0]
    have nx (q : Int) (eq : q = up s id p x) : spec_l11Prio_M_l0 kx (t + 1) id q (IntKind.i64.wrap ((i : Int) + 1)) now seq a n c b m d h := by
      rw [wrap_suc (by omega)]
      exact ih (i + 1) q (by omega) (by rw [eq]; exact z)
    refine ifD_t (by omega) (r.t.gI0 hx (waits_spec r (asB_of (ifB_b (fun f => ?_) fun f => nx p (by rw [up, f]; rfl)))))
    refine SlT.gRow r.t hx (own_spec (t := x) r.en (asI_of ?_))
    exact ifB_dec (fun g => nx _ (by rw [up, if_pos f, if_pos g])) fun g => nx p (by rw [up, if_pos f, if_neg g])
theorem prio_spec (r : Ss h now seq a n c b m d s) (t : AtT s.ths id i x) (z : K (.int .i64 (prioS s id x)) h) : callD Try.prog 56 ⟨[val now seq a n c b m d, .int .i64 id]⟩ h K := by
  refine spec_l11Prio_M_call ?_
  rw [spec_l11Prio_M]
  refine thread_spec r.t (asI_of ?_)
  rw [t.pos]
  refine SlT.gRow r.t t.1 (own_spec (t := x) r.en (asI_of ⟨n + 1, prio_loop r n 0 _ (by omega) ?_⟩))
  exact z
/-! the first of some -/
def over (s : S) (t : T) (i : Nat) : Option (T × Nat × Int) → Option (T × Nat × Int)
  | none => some (t, i, prioS s t.id t)
  | some (b, j, q) => if prioS s t.id t > q then some (t, i, prioS s t.id t) else if prioS s t.id t = q ∧ t.line < b.line then some (t, i, prioS s t.id t) else some (b, j, q)
def step1 (s : S) (ok : T → Bool) (acc : Option (T × Nat × Int)) (t : T) (i : Nat) : Option (T × Nat × Int) := if ok t then over s t i acc else acc
def first1 (s : S) (ok : T → Bool) : Nat → Option (T × Nat × Int) → List T → Option (T × Nat × Int)
  | _, acc, [] => acc
  | i, acc, t :: r => first1 s ok (i + 1) (step1 s ok acc t i) r
def firstS (s : S) (ok : T → Bool) : Option (T × Nat × Int) := first1 s ok 0 none s.ths
/-- as the reference holds what it has found -/
structure Acc (s : S) (best most : Int) (acc : Option (T × Nat × Int)) : Prop where
  no : acc = none → best = -1 ∧ most = -1
  so : ∀ b j q, acc = some (b, j, q) → best = (j : Int) ∧ most = q ∧ s.ths[j]? = some b
theorem accN : Acc s (-1) (-1) none := ⟨fun _ => ⟨rfl, rfl⟩, fun _ _ _ t => nomatch t⟩
theorem accS {j : Nat} {q : Int} (hx : s.ths[j]? = some x) : Acc s j q (some (x, j, q)) :=
  ⟨(fun t => nomatch t), fun b j' q' t => by
    injection t with t; injection t with e1 t; injection t with e2 e3; subst e1 e2 e3; exact ⟨rfl, rfl, hx⟩⟩
/-- numbers are one's own, no priority is below 0 -/
structure Nn (s : S) : Prop where
  uni : ∀ (i : Nat) (x : T), s.ths[i]? = some x → AtT s.ths x.id i x
  pos : ∀ (i : Nat) (x : T), s.ths[i]? = some x → 0 ≤ prioS s x.id x
theorem pick_loop {kx : Int → Option Addr → Nat → H → Prop} (r : Ss h now seq a n c b m d s) (g : Nn s)
    (kx' : ∀ best most, Acc s best most (firstS s fun t => t.state == 1) → kx best a n h) :
    ∀ (t i : Nat) (best most : Int) acc, i + t = n → Acc s best most acc → first1 s (fun t => t.state == 1) i acc (s.ths.drop i) = firstS s (fun t => t.state == 1) → spec_l11Pick_M_l0 kx (t + 1) best most i now seq a n c b m d h := by
  have hl := r.t.le
  intro t
  induction t with
  | zero =>
    intro i best most acc e A ef
    rw [spec_l11Pick_M_l0]
    rw [List.drop_of_length_le (by omega), first1] at ef
    exact ifD_f (by omega) (kx' best most (ef ▸ A))
  | succ t ih =>
    intro i best most acc e A ef
    obtain ⟨x, hx⟩ : ∃ x, s.ths[i]? = some x := ⟨_, List.getElem?_eq_getElem (by omega)⟩
    have ed : s.ths.drop i = x :: s.ths.drop (i + 1) := by
      rw [List.drop_eq_getElem_cons (by omega)]; congr 1
      exact (List.getElem?_eq_some_iff.mp hx).2
    rw [ed, first1] at ef
    rw [spec_l11Pick_M_l0]
    have nx (best most : Int) (A : Acc s best most (step1 s (fun t => t.state == 1) acc x i)) : spec_l11Pick_M_l0 kx (t + 1) best most (IntKind.i64.wrap ((i : Int) + 1)) now seq a n c b m d h := by
      rw [wrap_suc (by omega)]
      exact ih (i + 1) best most _ (by omega) A ef
    refine ifD_t (by omega) (SlT.gRow r.t hx (ifB_neI (fun f => nx best most (by unfold step1; rw [if_neg (by simpa using f)]; exact A)) fun f => ?_))
    refine prio_spec r (g.uni i x hx) (asI_of ?_)
    have es : step1 s (fun t => t.state == 1) acc x i = over s x i acc := by unfold step1; rw [if_pos (by simpa using f)]
    have ps := g.pos i x hx
    cases acc with
    | none =>
      have := A.no rfl
      exact ifD_t (by omega) (nx _ _ (by rw [es]; exact accS hx))
    | some v =>
      obtain ⟨y, j, q⟩ := v
      obtain ⟨e1, e2, hy⟩ := A.so y j q rfl
      rw [over] at es
      subst e1 e2
      refine ifB_dec (fun f1 => nx _ _ (by rw [es, if_pos f1]; exact accS hx)) fun f1 => ?_
      rw [if_neg f1] at es
      refine ifB_eqI (fun f2 => r.t.gI hy ?_) fun f2 => nx _ _ (by rw [es, if_neg (fun t => f2 t.1)]; exact accS hy)
      exact ifB_dec (fun f3 => nx _ _ (by rw [es, if_pos ⟨f2, f3⟩]; exact accS hx)) fun f3 => nx _ _ (by rw [es, if_neg (fun t => f3 t.2)]; exact accS hy)
theorem pick_spec (r : Ss h now seq a n c b m d s) (g : Nn s) (z : K (.int .i64 (match firstS s fun t => t.state == 1 with | none => -1 | some (x, _, _) => x.id)) h) : callD Try.prog 50 ⟨[val now seq a n c b m d]⟩ h K := by
  refine spec_l11Pick_M_call ?_
  rw [spec_l11Pick_M]
  refine ⟨n + 1, pick_loop r g (fun best most A => ?_) n 0 (-1) (-1) none (by omega) accN rfl⟩
  revert z A
  generalize (firstS s fun t => t.state == 1) = v
  intro z A
  cases v with
  | none =>
    have := A.no rfl
    exact ifD_t (by omega) z
  | some v =>
    obtain ⟨y, j, q⟩ := v
    obtain ⟨e1, e2, hy⟩ := A.so y j q rfl
    subst e1
    exact ifD_f (by omega) (r.t.gI0 hy z)
end Go.Proofs.Yteeinamngmmlbaa
