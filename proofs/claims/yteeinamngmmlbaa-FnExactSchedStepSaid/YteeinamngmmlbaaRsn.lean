import Derived.Test.YteeinamngmmlbaaEngC
/-! Reasoning over heaps: blocks, frames, rows of records. -/
namespace Go.Eng

/-- a block's cells, all of them open -/
def blk (h : H) (b : Nat) (cs : List Value) : Prop := ∃ e, h[b]? = some (.cells ⟨cs⟩ e (0, 0))
theorem blk.lt {h : H} {b cs} (x : blk h b cs) : b < h.size := by
  obtain ⟨e, x⟩ := x; exact (Array.getElem?_eq_some_iff.mp x).1
theorem blk.cell {h : H} {b cs} (x : blk h b cs) (o : Nat) : cell h b o = cs[o]? := by
  obtain ⟨e, x⟩ := x; simp [Eng.cell, x]
theorem blk.wr {h : H} {b cs o} (x : blk h b cs) (ho : o < cs.length) : wr h b o := by
  obtain ⟨e, x⟩ := x; exact ⟨_, _, _, x, ho, by simp⟩
theorem blk.put {h : H} {b cs} (x : blk h b cs) (o : Nat) (v : Value) : blk (put h b o v) b (cs.set o v) := by
  obtain ⟨e, x⟩ := x
  refine ⟨e, ?_⟩
  simp only [Eng.put, Array.getElem?_modify, x, if_true, Option.map_some]
  simp
theorem blk.push {h : H} {b cs} (x : blk h b cs) (y : Obj) : blk (h.push y) b cs := by
  have l := x.lt
  obtain ⟨e, x⟩ := x
  exact ⟨e, by rw [Array.getElem?_push, if_neg (by omega)]; exact x⟩
theorem blk_new {h : H} {cs e} : blk (h.push (.cells ⟨cs⟩ e (0, 0))) h.size cs := ⟨e, by simp⟩

/-- nothing but the blocks of S is changed -/
def Keep (S : List Nat) (h h' : H) : Prop := h.size ≤ h'.size ∧ ∀ b, b < h.size → b ∉ S → h'[b]? = h[b]?
theorem Keep.refl {S h} : Keep S h h := ⟨Nat.le_refl _, fun _ _ _ => rfl⟩
theorem Keep.le {S h h'} (x : Keep S h h') : h.size ≤ h'.size := x.1
theorem Keep.trans {S T U h h' h''} (x : Keep S h h') (y : Keep T h' h'') (u : ∀ b, b < h.size → b ∈ S ∨ b ∈ T → b ∈ U) : Keep U h h'' :=
  ⟨Nat.le_trans x.1 y.1, fun b l n => by
    rw [y.2 b (Nat.lt_of_lt_of_le l x.1) (fun t => n (u b l (.inr t))), x.2 b l (fun t => n (u b l (.inl t)))]⟩
theorem Keep.mono {S U h h'} (x : Keep S h h') (u : ∀ b, b < h.size → b ∈ S → b ∈ U) : Keep U h h' :=
  ⟨x.1, fun b l n => x.2 b l (fun t => n (u b l t))⟩
theorem Keep.blk {S h h' b cs} (x : Keep S h h') (y : blk h b cs) (n : b ∉ S) : blk h' b cs := by
  have l := y.lt
  obtain ⟨e, y⟩ := y
  exact ⟨e, by rw [x.2 b l n]; exact y⟩
theorem size_put {h : H} {b o v} : (put h b o v).size = h.size := by simp [put]
theorem Keep.put {h : H} {b o v} : Keep [b] h (put h b o v) := by
  refine ⟨Nat.le_of_eq size_put.symm, fun c _ n => ?_⟩
  simp only [List.mem_singleton] at n
  simp only [Eng.put, Array.getElem?_modify]
  rw [if_neg (fun t => n t.symm)]
theorem Keep.push {h : H} {y : Obj} : Keep [] h (h.push y) := by
  refine ⟨by simp, fun c l _ => ?_⟩
  rw [Array.getElem?_push, if_neg (by omega)]

/-! combinators -/
theorem nz_some {b o K} : nz (some ⟨b, o, none⟩) K = K b o := rfl
theorem asI_eq {k n K} : asI k (.int k n) K = K n := by simp [asI]
theorem asB_eq {b K} : asB (.bool b) K = K b := rfl
theorem asS_eq {s K} : asS (.string s) K = K s := rfl
theorem asP_eq {p K} : asP (.pointer p) K = K p := rfl
theorem asL_eq {b l c K} : asL (.slice b l c) K = K b l c := rfl
theorem ifB_t {p q} : ifB true p q = p := rfl
theorem ifB_f {p q} : ifB false p q = q := rfl
theorem ifB_iff {b p q} : ifB b p q = if b then p else q := by cases b <;> simp [ifB]
theorem req_eq {p : Prop} [Decidable p] {K} (x : p) : req p K = K := by simp [req, x]
theorem ldI_eq {k h b o n} (x : cell h b o = some (.int k n)) (K : Int → Prop) : ldI k h b o K = K n := by simp [ldI, opt, asI, x]
theorem ldB_eq {h b o n} (x : cell h b o = some (.bool n)) (K : Bool → Prop) : ldB h b o K = K n := by simp [ldB, opt, asB, x]
theorem ldS_eq {h b o n} (x : cell h b o = some (.string n)) (K : ByteArray → Prop) : ldS h b o K = K n := by simp [ldS, opt, asS, x]
theorem ldP_eq {h b o n} (x : cell h b o = some (.pointer n)) (K : Option Addr → Prop) : ldP h b o K = K n := by simp [ldP, opt, asP, x]
theorem ldL_eq {h b o a l c} (x : cell h b o = some (.slice a l c)) (K : Option Addr → Nat → Nat → Prop) : ldL h b o K = K a l c := by simp [ldL, opt, asL, x]
theorem new_of {h : H} {cs t} {K : Nat → H → Prop} (z : ∀ b h', b = h.size → h'.size = h.size + 1 → blk h' b cs → Keep [] h h' → K b h') : new h cs t K :=
  z _ _ rfl (by simp) blk_new Keep.push
theorem st_of {h : H} {b cs o v} {K : H → Prop} (x : blk h b cs) (y : o < cs.length) (z : ∀ h', h'.size = h.size → blk h' b (cs.set o v) → Keep [b] h h' → K h') : st h b o v K :=
  ⟨x.wr y, z _ size_put (x.put o v) Keep.put⟩

/-! rows of records -/
def Rw {α : Type} (h : H) (b o c s : Nat) (enc : α → List Value) (xs : List α) : Prop :=
  ∃ cs, blk h b cs ∧ o + c * s ≤ cs.length ∧ xs.length ≤ c ∧ ∀ i x, xs[i]? = some x → ∀ j v, (enc x)[j]? = some v → cs[o + i * s + j]? = some v
def Sl {α : Type} (h : H) (a : Option Addr) (n c s : Nat) (enc : α → List Value) (xs : List α) : Prop :=
  (n = xs.length ∧ n ≤ 140737488355328) ∧ match a with
  | none => c = 0 ∧ xs = []
  | some ⟨b, o, none⟩ => Rw h b o c s enc xs
  | _ => False
def own (a : Option Addr) : List Nat := match a with | some x => [x.block] | none => []
variable {α : Type} {h h' : H} {b o c s n i j : Nat} {a : Option Addr} {enc : α → List Value} {xs : List α} {S : List Nat}
theorem Rw.lt (x : Rw h b o c s enc xs) : b < h.size := by obtain ⟨cs, x, _⟩ := x; exact x.lt
theorem Rw.keep (x : Rw h b o c s enc xs) (k : Keep S h h') (u : b ∉ S) : Rw h' b o c s enc xs := by
  obtain ⟨cs, x, y⟩ := x; exact ⟨cs, k.blk x u, y⟩
theorem Sl.keep (x : Sl h a n c s enc xs) (k : Keep S h h') (u : ∀ b, b ∈ own a → b ∉ S) : Sl h' a n c s enc xs := by
  refine ⟨x.1, ?_⟩
  match a, x.2, u with
  | none, y, _ => exact y
  | some ⟨b, o, none⟩, y, u => exact Rw.keep y k (u b (by simp [own]))
  | some ⟨b, o, some _⟩, y, u => exact y
theorem Sl.lt (x : Sl h a n c s enc xs) (y : b ∈ own a) : b < h.size := by
  match a, x.2, y with
  | some ⟨b', o, none⟩, z, y => simp [own] at y; subst y; exact Rw.lt z
theorem Sl.ex (x : Sl h a n c s enc xs) (y : i < xs.length) : ∃ b o, a = some ⟨b, o, none⟩ ∧ Rw h b o c s enc xs := by
  match a, x.2 with
  | none, z => rw [z.2] at y; simp at y
  | some ⟨b, o, none⟩, z => exact ⟨b, o, rfl, z⟩
theorem Rw.cell (x : Rw h b o c s enc xs) {y : α} (hx : xs[i]? = some y) {v : Value} (hv : (enc y)[j]? = some v) : cell h b (o + i * s + j) = some v := by
  obtain ⟨cs, x, _, _, z⟩ := x; rw [x.cell]; exact z i y hx j v hv
theorem Rw.put (x : Rw h b o c s enc xs) (es : ∀ y, (enc y).length = s) {y y' : α} (hx : xs[i]? = some y) {v : Value} (hj : j < s) (hv : enc y' = (enc y).set j v) :
    wr h b (o + i * s + j) ∧ Rw (put h b (o + i * s + j) v) b o c s enc (xs.set i y') := by
  obtain ⟨cs, x, l, m, z⟩ := x
  have hi : i < xs.length := (List.getElem?_eq_some_iff.mp hx).1
  have hl : o + i * s + j < cs.length := by
    have : (i + 1) * s ≤ c * s := Nat.mul_le_mul_right _ (by omega)
    rw [Nat.add_mul] at this; omega
  refine ⟨x.wr hl, _, x.put _ _, by simpa using l, by simpa using m, fun k w hk q u hq => ?_⟩
  have hq' : q < s := by rw [← es w]; exact (List.getElem?_eq_some_iff.mp hq).1
  rw [List.getElem?_set] at hk ⊢
  by_cases e : i = k
  · subst e
    rw [if_pos rfl, if_pos hi] at hk
    injection hk with hk; subst hk
    rw [hv, List.getElem?_set] at hq
    by_cases f : j = q
    · subst f
      rw [if_pos rfl, if_pos (by rw [es]; exact hj)] at hq
      rw [if_pos rfl, if_pos hl]; exact hq
    · rw [if_neg f] at hq
      rw [if_neg (by omega)]; exact z i y hx q u hq
  · rw [if_neg e] at hk
    rw [if_neg ?_]; · exact z k w hk q u hq
    intro f
    rcases Nat.lt_or_gt_of_ne e with e | e
    · have : (i + 1) * s ≤ k * s := Nat.mul_le_mul_right _ e
      rw [Nat.add_mul] at this; omega
    · have : (k + 1) * s ≤ i * s := Nat.mul_le_mul_right _ e
      rw [Nat.add_mul] at this; omega
/-! rows, whole -/
theorem flat_len (es : ∀ y, (enc y).length = s) (l : List α) : (l.flatMap enc).length = l.length * s := by
  induction l with
  | nil => simp
  | cons x l ih => simp only [List.flatMap_cons, List.length_append, es, ih, List.length_cons, Nat.add_mul]; omega
theorem flat_get (es : ∀ y, (enc y).length = s) (hj : j < s) {x : α} : ∀ (l : List α) (i : Nat), l[i]? = some x → (l.flatMap enc)[i * s + j]? = (enc x)[j]? := by
  intro l
  induction l with
  | nil => intro i h; simp at h
  | cons y l ih =>
    intro i h
    rw [List.flatMap_cons]
    cases i with
    | zero =>
      simp only [List.getElem?_cons_zero, Option.some.injEq] at h; subst h
      rw [List.getElem?_append_left (by rw [es]; omega)]; simp
    | succ i =>
      rw [List.getElem?_cons_succ] at h
      rw [List.getElem?_append_right (by rw [es, Nat.add_mul]; omega), es]
      rw [show (i + 1) * s + j - s = i * s + j by rw [Nat.add_mul]; omega]
      exact ih i h
theorem cellsAt_of {h : H} {b : Nat} : ∀ (l : List Value) (o : Nat), (∀ q v, l[q]? = some v → cell h b (o + q) = some v) → cellsAt h b o l.length = some l := by
  intro l
  induction l with
  | nil => intro o _; rfl
  | cons v l ih =>
    intro o f
    have e := f 0 v rfl
    rw [Nat.add_zero] at e
    have r := ih (o + 1) (fun q w hq => by rw [show o + 1 + q = o + (q + 1) by omega]; exact f (q + 1) w hq)
    simp only [List.length_cons, cellsAt, e, r, Option.bind_some, Option.map_some]
theorem Rw.all (x : Rw h b o c s enc xs) (es : ∀ y, (enc y).length = s) : cellsAt h b o (xs.length * s) = some (xs.flatMap enc) := by
  rw [← flat_len es]
  refine cellsAt_of (b := b) _ _ fun q v hq => ?_
  have hl : q < xs.length * s := by rw [← flat_len es]; exact (List.getElem?_eq_some_iff.mp hq).1
  have s0 : 0 < s := by rcases Nat.eq_zero_or_pos s with e | e; · subst e; simp at hl
                        · exact e
  have hi : q / s < xs.length := (Nat.div_lt_iff_lt_mul s0).mpr hl
  have e : q = q / s * s + q % s := by rw [Nat.mul_comm]; exact (Nat.div_add_mod q s).symm
  have hx : xs[q / s]? = some (xs[q / s]) := List.getElem?_eq_getElem hi
  have g := flat_get es (Nat.mod_lt q s0) xs (q / s) hx
  rw [← e, hq] at g
  rw [e, ← Nat.add_assoc]
  exact x.cell hx g.symm
theorem Sl.elems (x : Sl h a n c s enc xs) (es : ∀ y, (enc y).length = s) {K : List Value → Prop} (k : K (xs.flatMap enc)) : elemsK h s n (.slice a n c) K := by
  match a, x.1.1, x.2 with
  | none, _, z => rw [z.2] at k; exact k
  | some ⟨b, o, none⟩, e, z => simp only [elemsK, e, z.all es, opt]; exact k
theorem stRow_of {b : Nat} {K : H → Prop} {o : Nat} : ∀ (vs cs : List Value) (h : H) (j : Nat), blk h b cs → (∀ v ∈ vs, one v = true) → o + j + vs.length ≤ cs.length →
    (∀ h' cs', h'.size = h.size → blk h' b cs' → cs'.length = cs.length → (∀ q, q < vs.length → cs'[o + j + q]? = vs[q]?) → (∀ q, q < o + j ∨ o + j + vs.length ≤ q → cs'[q]? = cs[q]?) → Keep [b] h h' → K h') → stRow h b o j vs K := by
  intro vs
  induction vs with
  | nil => intro cs h j x _ _ k; exact k h cs rfl x rfl (fun q hq => by simp at hq) (fun _ _ => rfl) Keep.refl
  | cons v vs ih =>
    intro cs h j x on l k
    simp only [stRow, on v (by simp), ifB_t]
    simp only [List.length_cons] at l
    refine st_of x (by omega) fun h1 e1 x1 k1 => ?_
    refine ih _ h1 (j + 1) x1 (fun w hw => on w (by simp [hw])) (by rw [List.length_set]; omega) fun h2 cs' e2 x2 l2 i2 o2 k2 => ?_
    rw [List.length_set] at l2
    refine k h2 cs' (by omega) x2 l2 ?_ ?_ (k1.trans k2 (fun b _ t => by simpa using t))
    · intro q hq
      cases q with
      | zero => rw [Nat.add_zero, o2 (o + j) (.inl (by omega)), List.getElem?_set, if_pos rfl, if_pos (by omega)]; rfl
      | succ q => rw [show o + j + (q + 1) = o + (j + 1) + q by omega, i2 q (by simp at hq; omega)]; rfl
    · intro q hq
      simp only [List.length_cons] at hq
      rw [o2 q (by omega), List.getElem?_set, if_neg (by omega)]
theorem append_of {P : Program} {e : TypeId} {i : TypeInfo} {z : Value} {n' c' : Nat} {a' : Option Addr} {ys : List α} {K : Option Addr → Nat → Nat → H → Prop}
    (hi : P.info? e = some i) (hz : i.zero = some z) (hs : i.size = s) (s0 : s ≠ 0) (zl : (cellsOf z).length = s) (es : ∀ y, (enc y).length = s) (on : ∀ y, ∀ v ∈ enc y, one v = true)
    (x : Sl h a n c s enc xs) (y : Sl h a' n' c' s enc ys) (hb : (n + n') * i.bytes ≤ 140737488355328) (hl : n + n' ≤ 140737488355328)
    (k : ∀ a'' c'' h', Keep (own a) h h' → (∀ b ∈ own a'', b ∈ own a ∨ h.size ≤ b) → Sl h' a'' (n + n') c'' s enc (xs ++ ys) → K a'' (n + n') c'' h') : appendK P e h a n c (.slice a' n' c') K := by
  have en := x.1.1; have en' := y.1.1
  simp only [appendK, hi, hz, opt, hs, lenK]
  rw [req_eq ⟨s0, zl⟩]
  refine y.elems es ?_
  by_cases room : n + n' ≤ c
  · rw [if_pos room]
    match a, x.2, x, k with
    | none, w, x, k =>
      have n0 : n' = 0 := by omega
      have : ys = [] := List.eq_nil_of_length_eq_zero (by omega)
      subst this
      refine k none c h Keep.refl (by simp [own]) ⟨⟨by simp [en, en'], hl⟩, w.1, by simp [w.2]⟩
    | some ⟨b, o, none⟩, ⟨cs, w, l, m, g⟩, x, k =>
      have hc : (n + n') * s ≤ c * s := Nat.mul_le_mul_right _ room
      rw [Nat.add_mul] at hc
      refine stRow_of (o := o + n * s) _ cs h 0 w (fun v hv => ?_) (by rw [flat_len es, ← en']; omega) fun h' cs' e1 w' l' ins out kp => ?_
      · obtain ⟨y, _, hy⟩ := List.mem_flatMap.mp hv; exact on y v hy
      · refine k _ _ h' (kp.mono (by simp [own])) (by simp [own]) ⟨⟨by simp [en, en'], hl⟩, cs', w', by omega, by simp; omega, fun i' u hu j v hv => ?_⟩
        have hj : j < s := by rw [← es u]; exact (List.getElem?_eq_some_iff.mp hv).1
        by_cases q : i' < xs.length
        · rw [List.getElem?_append_left q] at hu
          have : (i' + 1) * s ≤ n * s := Nat.mul_le_mul_right _ (by omega)
          rw [Nat.add_mul] at this
          rw [out _ (.inl (by omega))]
          exact g i' u hu j v hv
        · rw [List.getElem?_append_right (by omega)] at hu
          have f := flat_get es hj ys _ hu
          have il : i' - xs.length < ys.length := (List.getElem?_eq_some_iff.mp hu).1
          have : (i' - xs.length + 1) * s ≤ n' * s := Nat.mul_le_mul_right _ (by omega)
          rw [Nat.add_mul] at this
          have t : i' * s = n * s + (i' - xs.length) * s := by rw [← Nat.add_mul]; congr 1; omega
          rw [show o + i' * s + j = o + n * s + 0 + ((i' - xs.length) * s + j) by omega, ins _ (by rw [flat_len es, ← en']; omega), f, hv]
  · rw [if_neg room]
    refine x.elems es ?_
    rw [req_eq ⟨hb, by omega⟩]
    intro c2 hc2
    refine k _ _ _ (Keep.push.mono (by simp)) (by simp [own]) ⟨⟨by simp [en, en'], hl⟩, _, blk_new, ?_, by simp; omega, fun i' u hu j v hv => ?_⟩
    · simp only [List.length_append, flat_len es, zerosL, List.length_flatten, List.map_replicate, zl, List.sum_replicate_nat]
      rw [← en, ← en', ← Nat.add_mul, ← Nat.add_mul]
      exact Nat.le_of_eq (by rw [Nat.zero_add]; congr 1; omega)
    · have hj : j < s := by rw [← es u]; exact (List.getElem?_eq_some_iff.mp hv).1
      have f := flat_get es hj _ _ hu
      have il := (List.getElem?_eq_some_iff.mp hu).1
      have : (i' + 1) * s ≤ (xs ++ ys).length * s := Nat.mul_le_mul_right _ il
      rw [Nat.add_mul] at this
      rw [← List.flatMap_append, List.getElem?_append_left (by rw [flat_len es]; omega), Nat.zero_add, f, hv]
theorem new_st {cs vs : List Value} {t : TypeId} {K : Nat → H → Prop} (e : cs.length = vs.length) (on : ∀ v ∈ vs, one v = true)
    (z : ∀ b h', b = h.size → h'.size = h.size + 1 → blk h' b vs → Keep [] h h' → K b h') : new h cs t fun b h => stRow h b 0 0 vs (K b) := by
  refine new_of fun b h1 eb e1 x1 k1 => stRow_of vs cs h1 0 x1 on (by omega) fun h2 cs' e2 x2 l2 i2 _ k2 => ?_
  have : cs' = vs := by
    refine List.ext_getElem? fun q => ?_
    by_cases hq : q < vs.length
    · have := i2 q hq; simpa using this
    · rw [List.getElem?_eq_none (by omega), List.getElem?_eq_none (by omega)]
  subst this
  exact z b h2 eb (by omega) x2 (k1.trans k2 (fun c l t => by simp at t; omega))
theorem ifB_dec {c : Prop} [Decidable c] {p q : Prop} (x : c → p) (y : ¬ c → q) : ifB (decide c) p q := by
  by_cases f : c
  · rw [decide_eq_true f]; exact x f
  · rw [decide_eq_false f]; exact y f
theorem ifB_eqI {x y : Int} {p q : Prop} (f : x = y → p) (g : x ≠ y → q) : ifB (x == y) p q := by
  by_cases e : x = y
  · rw [show (x == y) = true by simp [e]]; exact f e
  · rw [show (x == y) = false by simp [e]]; exact g e
theorem ifB_neI {x y : Int} {p q : Prop} (f : x ≠ y → p) (g : x = y → q) : ifB (x != y) p q := by
  by_cases e : x = y
  · rw [show (x != y) = false by simp [e]]; exact g e
  · rw [show (x != y) = true by simp [e]]; exact f e
theorem ldI_blk {cs : List Value} (x : blk h b cs) (k o) (K : Int → Prop) : ldI k h b o K = opt cs[o]? fun v => asI k v K := by rw [ldI, x.cell]
theorem ldL_blk {cs : List Value} (x : blk h b cs) (o) (K : Option Addr → Nat → Nat → Prop) : ldL h b o K = opt cs[o]? fun v => asL v K := by rw [ldL, x.cell]
theorem opt_some {β : Type} {x : β} {K : β → Prop} : opt (some x) K = K x := rfl
theorem ldRow_L {h : H} {b n c : Nat} {a : Option Addr} (x : blk h b [.slice a n c]) (K : Option Addr → Nat → Nat → Prop) : ldRow h b 0 0 [.slice] K = K a n c := by
  simp only [ldRow, ldF, x.cell, List.getElem?_cons_zero, Nat.add_zero, opt, elF, mapF]
theorem st_rw {y y' : α} {v : Value} {K : H → Prop} (x : Rw h b o c s enc xs) (es : ∀ y, (enc y).length = s) (hx : xs[i]? = some y) (hj : j < s) (hv : enc y' = (enc y).set j v)
    (k : ∀ h', h'.size = h.size → Rw h' b o c s enc (xs.set i y') → Keep [b] h h' → K h') : st h b (o + i * s + j) v K := by
  have := x.put es hx hj hv
  exact ⟨this.1, k _ size_put this.2 Keep.put⟩
theorem stRow_rw {y : α} {K : H → Prop} (x : Rw h b o c s enc xs) (es : ∀ y, (enc y).length = s) (on : ∀ v ∈ enc y, one v = true) (hi : i < xs.length)
    (k : ∀ h', h'.size = h.size → Rw h' b o c s enc (xs.set i y) → Keep [b] h h' → K h') : stRow h b (o + i * s) 0 (enc y) K := by
  obtain ⟨cs, x, l, m, z⟩ := x
  have hl : (i + 1) * s ≤ c * s := Nat.mul_le_mul_right _ (by omega)
  rw [Nat.add_mul] at hl
  refine stRow_of _ cs h 0 x on (by rw [es]; omega) fun h' cs' e1 w' l' ins out kp => k h' e1 ⟨cs', w', by omega, by simpa using m, fun q u hu j v hv => ?_⟩ kp
  have hj : j < s := by rw [← es u]; exact (List.getElem?_eq_some_iff.mp hv).1
  rw [List.getElem?_set] at hu
  by_cases e : i = q
  · subst e
    rw [if_pos rfl, if_pos hi] at hu; injection hu with hu; subst hu
    rw [← Nat.add_zero (o + i * s), ins j (by rw [es]; exact hj)]; exact hv
  · rw [if_neg e] at hu
    rw [out _ ?_]; · exact z q u hu j v hv
    rw [es]
    rcases Nat.lt_or_gt_of_ne e with e | e
    · have : (i + 1) * s ≤ q * s := Nat.mul_le_mul_right _ e
      rw [Nat.add_mul] at this; omega
    · have : (q + 1) * s ≤ i * s := Nat.mul_le_mul_right _ e
      rw [Nat.add_mul] at this; omega
theorem Sl.upd {ys : List α} (x : Sl h a n c s enc xs) (e : a = some ⟨b, o, none⟩) (y : Rw h' b o c s enc ys) (l : ys.length = xs.length) : Sl h' a n c s enc ys := by
  subst e; exact ⟨⟨by rw [l]; exact x.1.1, x.1.2⟩, y⟩
/-- a part of a slice -/
theorem Sl.part {l m : Nat} (x : Sl h a n c s enc xs) (hl : l ≤ m) (hm : m ≤ n) : Sl h (slB a l c s) (m - l) (c - l) s enc ((xs.drop l).take (m - l)) := by
  obtain ⟨⟨hn, hb⟩, x⟩ := x
  refine ⟨⟨by simp; omega, by omega⟩, ?_⟩
  rcases a with _ | ⟨b, o, _ | q⟩
  · obtain ⟨z1, z2⟩ := x
    subst z2
    have e : slB none l c s = none := by unfold slB; split <;> rfl
    rw [e]
    exact ⟨by omega, by simp⟩
  · obtain ⟨cs, w, f, g, z⟩ := x
    by_cases hc : c = l
    · rw [slB, if_pos hc]
      have : m - l = 0 := by omega
      refine ⟨cs, w, ?_, by simp; omega, fun i y hy => by rw [this] at hy; simp at hy⟩
      have : (c - l) * s ≤ c * s := Nat.mul_le_mul_right _ (by omega)
      omega
    · rw [slB, if_neg hc]
      have e : c * s = l * s + (c - l) * s := by rw [← Nat.add_mul]; congr 1; omega
      refine ⟨cs, w, by omega, by simp; omega, fun i y hy j v hv => ?_⟩
      rw [List.getElem?_take] at hy
      by_cases q : i < m - l
      · rw [if_pos q, List.getElem?_drop] at hy
        have := z (l + i) y hy j v hv
        rw [show o + l * s + i * s + j = o + (l + i) * s + j by rw [Nat.add_mul]; omega]
        exact this
      · rw [if_neg q] at hy; cases hy
  · exact x.elim
theorem own_slB {l : Nat} (y : b ∈ own (slB a l c s)) : b ∈ own a := by
  unfold slB at y
  split at y
  · exact y
  · split at y
    · simpa [own] using y
    · exact y
theorem Sl.plain (x : Sl h a n c s enc xs) : plainA a = true := by
  match a, x.2 with
  | none, _ => rfl
  | some ⟨b, o, none⟩, _ => rfl
/-- a row whose first i are done -/
def mix (f : α → α) (xs : List α) (i : Nat) : List α := (xs.take i).map f ++ xs.drop i
theorem mix_zero {f : α → α} : mix f xs 0 = xs := by simp [mix]
theorem mix_all {f : α → α} : mix f xs xs.length = xs.map f := by simp [mix]
theorem mix_len {f : α → α} : (mix f xs i).length = xs.length := by simp [mix]; omega
theorem mix_get {f : α → α} : (mix f xs i)[j]? = if j < i then xs[j]?.map f else xs[j]? := by
  unfold mix
  by_cases q : j < i
  · rw [if_pos q]
    by_cases w : j < xs.length
    · rw [List.getElem?_append_left (by simp; omega), List.getElem?_map, List.getElem?_take, if_pos q]
    · rw [List.getElem?_eq_none (by simp; omega), List.getElem?_eq_none (by omega)]; rfl
  · rw [if_neg q]
    by_cases w : i < xs.length
    · rw [List.getElem?_append_right (by simp; omega), List.getElem?_drop]
      congr 1; simp; omega
    · rw [List.getElem?_eq_none (by simp; omega), List.getElem?_eq_none (by omega)]
theorem mix_succ {f : α → α} {x : α} (hx : xs[i]? = some x) : mix f xs (i + 1) = (mix f xs i).set i (f x) := by
  have hi := (List.getElem?_eq_some_iff.mp hx).1
  refine List.ext_getElem? fun j => ?_
  rw [mix_get, List.getElem?_set, mix_len, mix_get]
  by_cases e : i = j
  · subst e; rw [if_pos (by omega), if_pos rfl, if_pos hi, hx]; rfl
  · rw [if_neg e]
    by_cases l : j < i
    · rw [if_pos l, if_pos (by omega)]
    · rw [if_neg l, if_neg (by omega)]
theorem elF_unit {K : Prop} : elF False (.tuple []) (.tuple ⟨[]⟩) K = K := by kernel_rfl
theorem elF_L {a : Option Addr} {n c : Nat} {K : Option Addr → Nat → Nat → Prop} : elF False (.agg [.slice]) (.agg ⟨[.slice a n c]⟩) K = K a n c := by kernel_rfl
end Go.Eng
