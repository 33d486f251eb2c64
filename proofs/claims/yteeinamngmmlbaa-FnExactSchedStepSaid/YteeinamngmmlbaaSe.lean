import Derived.Test.YteeinamngmmlbaaSd
set_option linter.unusedVariables false
namespace Go.Proofs.Yteeinamngmmlbaa
open Go.Eng
variable {h h0 h' : H} {now seq now' seq' : Int} {a b a' b' : Option Addr} {n c m d n' c' m' d' p : Nat} {s s' s'' : S} {K : Value → H → Prop} {id k on since : Int} {i j : Nat} {t x : T} {l : L} {xs : List T}
abbrev res (now seq : Int) (a : Option Addr) (n c : Nat) (b : Option Addr) (m d : Nat) (x y : Int) : Value := .tuple ⟨[val now seq a n c b m d, .agg ⟨[.int .i64 x, .int .i64 y]⟩]⟩
/-! spawn -/
def freeT (xs : List T) : Nat → Int → Int
  | 0, i => i
  | m + 1, i => if i < 32 ∧ (getT xs i).isSome then freeT xs m (i + 1) else i
theorem free_at (s : SrtT xs) : ∃ d : Nat, d ≤ xs.length ∧ freeT xs 33 0 = d ∧ (∀ (j : Nat) (y : T), j < d → xs[j]? = some y → y.id = j) ∧ ∀ y, xs[d]? = some y → y.id ≠ d := by
  have l32 := s.len
  have ge : ∀ (j : Nat) (y : T), xs[j]? = some y → (j : Int) ≤ y.id := fun j y hy => by
    have h0 : xs[0]? = some (xs[0]'(by have := get_lt hy; omega)) := List.getElem?_eq_getElem _
    have := s.gap j 0 _ y h0 (by rw [Nat.zero_add]; exact hy)
    have := s.lo 0 _ h0; omega
  have key : ∀ (t d : Nat), d + t = xs.length → (∀ (j : Nat) (y : T), j < d → xs[j]? = some y → y.id = j) →
      ∃ d : Nat, d ≤ xs.length ∧ (∀ (j : Nat) (y : T), j < d → xs[j]? = some y → y.id = j) ∧ ∀ y, xs[d]? = some y → y.id ≠ d := by
    intro t
    induction t with
    | zero =>
      intro d e eq
      exact ⟨d, by omega, eq, fun y hy => by have := get_lt hy; omega⟩
    | succ t ih =>
      intro d e eq
      obtain ⟨y, hy⟩ : ∃ y, xs[d]? = some y := ⟨_, List.getElem?_eq_getElem (by omega)⟩
      by_cases ey : y.id = d
      · refine ih (d + 1) (by omega) fun j z hj hz => ?_
        by_cases q : j = d
        · subst q; rw [hy] at hz; injection hz with hz; subst hz; exact ey
        · exact eq j z (by omega) hz
      · exact ⟨d, by omega, eq, fun z hz => by rw [hy] at hz; injection hz with hz; subst hz; exact ey⟩
  obtain ⟨d, dl, eq, st⟩ := key xs.length 0 (by omega) (by intros; omega)
  refine ⟨d, dl, ?_, eq, st⟩
  have run : ∀ (t j : Nat), j + t = d → freeT xs (33 - j) j = d := by
    intro t
    induction t with
    | zero =>
      intro j e
      have : j = d := by omega
      subst this
      obtain ⟨q, hq⟩ : ∃ q, 33 - j = q + 1 := ⟨32 - j, by omega⟩
      rw [hq, freeT, if_neg]
      rintro ⟨le, so⟩
      rcases atT_cases xs (j : Int) with f | ⟨i, y, u⟩
      · rw [getT_none.mpr f] at so; cases so
      · rcases Nat.lt_trichotomy i j with l | l | l
        · have := eq i y l u.1; have := u.2.1; omega
        · subst l; exact st y u.1 u.2.1
        · obtain ⟨z, hz⟩ : ∃ z, xs[j]? = some z := ⟨_, List.getElem?_eq_getElem (by have := get_lt u.1; omega)⟩
          have := s.gap (i - j) j z y hz (by rw [show j + (i - j) = i by omega]; exact u.1)
          have := ge j z hz
          have := u.2.1; omega
    | succ t ih =>
      intro j e
      obtain ⟨q, hq⟩ : ∃ q, 33 - j = q + 1 := ⟨32 - j, by omega⟩
      obtain ⟨y, hy⟩ : ∃ y, xs[j]? = some y := ⟨_, List.getElem?_eq_getElem (by omega)⟩
      have ey := eq j y (by omega) hy
      rw [hq, freeT, if_pos]
      · have := ih (j + 1) (by omega)
        rw [show 33 - (j + 1) = q by omega] at this
        rw [show (j : Int) + 1 = ((j + 1 : Nat) : Int) by omega]; exact this
      · refine ⟨by omega, ?_⟩
        have := (s.get hy).get
        rw [ey] at this; rw [this]; rfl
  exact run d 0 (by omega)
theorem spawn_loop {kx : Int → Int → Int → Int → Option Addr → Nat → Nat → Option Addr → Nat → Nat → H → Prop} {base : Int} (r : Ss h now seq a n c b m d s) (z : kx base (freeT s.ths 33 0) now seq a n c b m d h) :
    ∀ (q : Nat) (i : Int), i + q = 33 → 0 ≤ i → freeT s.ths q i = freeT s.ths 33 0 → spec_l11Spawn_M_l0 kx (q + 1) base i now seq a n c b m d h := by
  intro q
  induction q with
  | zero =>
    intro i e i0 ef
    rw [spec_l11Spawn_M_l0]
    rw [freeT] at ef
    exact ifD_f (by omega) (by rw [ef]; exact z)
  | succ q ih =>
    intro i e i0 ef
    rw [spec_l11Spawn_M_l0]
    refine ifB_dec (fun f => thread_spec r.t (asI_of ?_)) fun f => ?_
    · rcases atT_cases s.ths i with g | ⟨j, y, t⟩
      · rw [posT_none g]
        rw [freeT, getT_none.mpr g, if_neg (by simp)] at ef
        exact ifD_f (by omega) (by rw [ef]; exact z)
      · rw [t.pos]
        rw [freeT, t.get, if_pos ⟨f, rfl⟩] at ef
        refine ifD_t (by omega) ?_
        rw [wrap64 (by omega) (by omega)]
        exact ih (i + 1) (by omega) (by omega) ef
    · rw [freeT, if_neg (by intro t; exact f t.1)] at ef
      rw [ef]; exact z
def newT (id base : Int) : T := ⟨id, base, 0, 0, 0, 0, 0, 0⟩
def insT (xs : List T) (i : Nat) (t : T) : List T := xs.take i ++ [t] ++ xs.drop i
theorem insT_get (hi : i ≤ xs.length) : (insT xs i t)[j]? = if j < i then xs[j]? else if j = i then some t else xs[j - 1]? := by
  unfold insT
  by_cases q : j < i
  · rw [if_pos q, List.append_assoc, List.getElem?_append_left (by simp; omega), List.getElem?_take, if_pos q]
  · rw [if_neg q]
    by_cases e : j = i
    · subst e
      rw [if_pos rfl, List.append_assoc, List.getElem?_append_right (by simp; omega)]
      simp [Nat.min_eq_left hi]
    · rw [if_neg e, List.getElem?_append_right (by simp; omega), List.getElem?_drop]
      congr 1; simp; omega
def spawnF (s : S) (base : Int) : S × Int × Int :=
  if base < 0 ∨ base > 7 then (s, 1, 0) else
  if freeT s.ths 33 0 = 32 then (s, 18, 0) else
  (standF { s with ths := insT s.ths (freeT s.ths 33 0).toNat (newT (freeT s.ths 33 0) base) } (freeT s.ths 33 0).toNat (newT (freeT s.ths 33 0) base) s.now, 0, freeT s.ths 33 0)
theorem spawn_spec {base : Int} (r : Ss h now seq a n c b m d s) (v : Wg s)
    (z : ∀ h' now' seq' a' n' c' b' m' d', OutS h a b (spawnF s base).1 h' now' seq' a' n' c' b' m' d' → K (res now' seq' a' n' c' b' m' d' (spawnF s base).2.1 (spawnF s base).2.2) h') :
    callD Try.prog 32 ⟨[val now seq a n c b m d, .int .i64 base]⟩ h K := by
  have hl := r.t.le
  have l32 := v.t.len
  have fin (w : S × Int × Int) (e : spawnF s base = w) (h' now' seq' a' n' c' b' m' d') (o : OutS h a b w.1 h' now' seq' a' n' c' b' m' d') : K (res now' seq' a' n' c' b' m' d' w.2.1 w.2.2) h' := by subst e; exact z _ _ _ _ _ _ _ _ _ o
  refine spec_l11Spawn_M_call ?_
  rw [spec_l11Spawn_M]
  refine ifB_dec (fun f => fin (s, 1, 0) (by rw [spawnF, if_pos (.inl f)]) _ _ _ _ _ _ _ _ _ (.refl r)) fun f0 => ?_
  refine ifB_dec (fun f => fin (s, 1, 0) (by rw [spawnF, if_pos (.inr f)]) _ _ _ _ _ _ _ _ _ (.refl r)) fun f1 => ?_
  obtain ⟨fr, frl, ef, eq, st⟩ := free_at v.t
  refine ⟨34, spawn_loop r ?_ 33 0 (by omega) (by omega) rfl⟩
  refine ifB_eqI (fun g => fin (s, 18, 0) (by rw [spawnF, if_neg (by omega), if_pos g]) _ _ _ _ _ _ _ _ _ (.refl r)) fun g => ?_
  have e0 : spawnF s base = (standF { s with ths := insT s.ths fr (newT fr base) } fr (newT fr base) s.now, 0, (fr : Int)) := by
    rw [spawnF, if_neg (by omega), if_neg g, ef, Int.toNat_natCast]
  rw [ef]
  simp only [Int.toNat_natCast]
  refine newE_of (enc := encT) (s := 8) fun q h1 hq k1 s1 => ?_
  have t1 := r.t.keep0 k1
  rw [req_eq (by omega), req_eq r.t.plain]
  refine append_inf inf60 (by decide) encT_len encT_one s1 (t1.part (l := 0) (m := fr) (by omega) (by omega)) (by omega) (by omega) fun a2 c2 h2 k2 w2 s2 => ?_
  have z1 := k1.le
  have z2 := k2.le
  have k02 : Keep [] h h2 := k1.trans k2 (by intro x l t; simp [own] at t; omega)
  have f2 : ∀ x ∈ own a2, h.size ≤ x := fun x hx => by
    rcases w2 x hx with t | t
    · simp [own] at t; omega
    · omega
  refine newL_of [newT fr base] encT_len fun q3 h3 hq3 k3 s3 => ?_
  have z3 := k3.le
  refine append_inf inf60 (by decide) encT_len encT_one (s2.keep0 k3) s3 (by omega) (by omega) fun a4 c4 h4 k4 w4 s4 => ?_
  have z4 := k4.le
  have k04 : Keep [] h h4 := (k02.tr k3).trans k4 (by intro x l t; simp only [List.not_mem_nil, false_or] at t; have := f2 x t; omega)
  have f4 : ∀ x ∈ own a4, h.size ≤ x := fun x hx => by
    rcases w4 x hx with t | t
    · exact f2 x t
    · omega
  rw [req_eq (by omega), req_eq r.t.plain]
  refine append_inf inf60 (by decide) encT_len encT_one s4 ((r.t.keep0 k04).part (l := fr) (m := n) (by omega) (by omega)) (by omega) (by omega) fun a5 c5 h5 k5 w5 s5 => ?_
  have k05 : Keep [] h h5 := k04.trans k5 (by intro x l t; simp only [List.not_mem_nil, false_or] at t; have := f4 x t; omega)
  have f5 : ∀ x ∈ own a5, h.size ≤ x := fun x hx => by
    rcases w5 x hx with t | t
    · exact f4 x t
    · omega
  have ex : [] ++ List.take (fr - 0) (List.drop 0 s.ths) ++ [newT fr base] ++ List.take (n - fr) (List.drop fr s.ths) = insT s.ths fr (newT fr base) := by
    rw [insT, List.nil_append, List.drop_zero, Nat.sub_zero, List.take_of_length_le (l := List.drop fr s.ths) (by simp; omega)]
  rw [ex] at s5
  have o5 := OutS.newT r k05 f5 s5
  have hx : (insT s.ths fr (newT fr base))[fr]? = some (newT fr base) := by rw [insT_get (by omega), if_neg (by omega), if_pos rfl]
  have en := r.en
  subst en
  exact stand_spec o5.r hx rfl fun h6 o6 => o_el_AI2L2E (fin _ e0 _ _ _ _ _ _ _ _ _ (o5.trans o6))
/-! exit -/
def exit1 (id : Int) (k : Int) (s : S) : S := match getL s.lks k with
  | none => s
  | some l => if l.owner = id then handF s k else s
def exitL (id : Int) : Nat → Int → S → S
  | 0, _, s => s
  | m + 1, k, s => exitL id m (k + 1) (exit1 id k s)
def exitF (s : S) (i : Nat) (x : T) : S := exitL x.id 16 0 { s with ths := s.ths.eraseIdx i }
theorem Wf.exit1 (v : Wf s) : Wf (Go.Proofs.Yteeinamngmmlbaa.exit1 id k s) := by
  unfold Go.Proofs.Yteeinamngmmlbaa.exit1
  rcases atL_cases s.lks k with f | ⟨j, l, t⟩
  · rw [getL_none.mpr f]; exact v
  · rw [t.get]; dsimp only; split
    · exact v.hand t
    · exact v
theorem exit_loop {kx : Int → Int → Option Addr → Nat → Nat → Option Addr → Nat → Nat → H → Prop} {w : S} (kx' : ∀ h' now seq a' n c b' m d, OutS h0 a b w h' now seq a' n c b' m d → kx now seq a' n c b' m d h') :
    ∀ (q : Nat) (k : Int) h s now seq a' n c b' m d, k + q = 16 → 0 ≤ k → Wf s → OutS h0 a b s h now seq a' n c b' m d → exitL id q k s = w → spec_l11Exit_M_l0 kx (q + 1) id k now seq a' n c b' m d h := by
  intro q
  induction q with
  | zero =>
    intro k h s now seq a' n c b' m d e k0 v o ew
    rw [spec_l11Exit_M_l0]
    rw [exitL] at ew; subst ew
    exact ifD_f (by omega) (kx' _ _ _ _ _ _ _ _ _ o)
  | succ q ih =>
    intro k h s now seq a' n c b' m d e k0 v o ew
    rw [exitL] at ew
    have llen := v.l.len
    have hl := o.r.l.le
    rw [spec_l11Exit_M_l0]
    refine ifD_t (by omega) (lock_spec o.r.l (asI_of ?_))
    rw [wrap64 (n := k + 1) (by omega) (by omega)]
    rcases atL_cases s.lks k with f | ⟨j, l, t⟩
    · rw [posL_none f]
      have e1 : Go.Proofs.Yteeinamngmmlbaa.exit1 id k s = s := by unfold Go.Proofs.Yteeinamngmmlbaa.exit1; rw [getL_none.mpr f]
      rw [e1] at ew
      exact ifD_f (by omega) (ih (k + 1) h s _ _ _ _ _ _ _ _ (by omega) (by omega) v o ew)
    · rw [t.pos]
      have e1 : Go.Proofs.Yteeinamngmmlbaa.exit1 id k s = if l.owner = id then handF s k else s := by unfold Go.Proofs.Yteeinamngmmlbaa.exit1; rw [t.get]
      rw [e1] at ew
      refine ifD_t (by omega) (o.r.l.gI t.1 (ifB_eqI (fun g => ?_) fun g => ?_))
      · rw [if_pos g] at ew
        refine hand_spec o.r v.nn t (by omega) fun h1 now1 seq1 a1 n1 c1 b1 m1 d1 o1 => o_el_AI2L2E ?_
        exact ih (k + 1) h1 _ _ _ _ _ _ _ _ _ (by omega) (by omega) (v.hand t) (o.trans o1) ew
      · rw [if_neg g] at ew
        exact ih (k + 1) h s _ _ _ _ _ _ _ _ (by omega) (by omega) v o ew
theorem exit_spec (r : Ss h now seq a n c b m d s) (v : Wf s) (hx : s.ths[i]? = some x) (hk : k = (i : Int))
    (z : ∀ h' now' seq' a' n' c' b' m' d', OutS h a b (exitF s i x) h' now' seq' a' n' c' b' m' d' → K (val now' seq' a' n' c' b' m' d') h') :
    callD Try.prog 34 ⟨[val now seq a n c b m d, .int .i64 k]⟩ h K := by
  have hl := r.t.le
  have l32 := v.t.len
  have il := get_lt hx
  refine spec_l11Exit_M_call ?_
  subst hk
  rw [spec_l11Exit_M]
  refine r.t.gI0 hx ?_
  rw [req_eq (by omega), req_eq r.t.plain, wrap_suc (by omega), req_eq (by omega), req_eq r.t.plain]
  refine newE_of (enc := encT) (s := 8) fun q h1 hq k1 s1 => ?_
  rw [← wrap_suc (i := i) (by omega)]
  refine cutL (h0 := h) inf60 (by decide) (by decide) encT_len encT_one (r.t.keep0 k1) (fun x hx => r.t.lt hx) il (by omega) s1 (by simp [own]; omega) k1 (fun h2 a2 c2 k2 f2 s2 => ?_) rfl
  have o2 := OutS.newT r k2 f2 s2
  exact ⟨17, exit_loop (fun h3 now3 seq3 a3 n3 c3 b3 m3 d3 o3 => z _ _ _ _ _ _ _ _ _ o3) 16 0 h2 _ _ _ _ _ _ _ _ _ (by omega) (by omega) (v.erase hx) o2 rfl⟩
end Go.Proofs.Yteeinamngmmlbaa
