import Derived.Test.YteeinamngmmlbaaPm
set_option linter.unusedVariables false
/-! Reasoning over the second print. -/
namespace Go.Eng
theorem Keep.pad {m : H} {n : Nat} : Keep [] m (pad m n) := by
  refine ⟨by rw [pad_size]; omega, fun b l _ => ?_⟩
  rw [pad_get, if_pos l]
theorem newD_of {h : H} {cs t} {K : Nat → H → Prop} (z : ∀ b h', h.size ≤ b → blk h' b cs → Keep [] h h' → K b h') : newD h cs t K := by
  intro n
  refine new_of fun b h1 eb es x k1 => z b h1 ?_ x (Keep.pad.trans k1 (by simp))
  rw [pad_size] at eb; omega
section
variable {α : Type} {h : H} {s n c : Nat} {a : Option Addr} {enc : α → List Value} {xs : List α}
theorem Sl.keep0 {h' : H} (x : Sl h a n c s enc xs) (k : Keep [] h h') : Sl h' a n c s enc xs := x.keep k (by simp)
theorem appendD_of {P : Program} {e : TypeId} {i : TypeInfo} {z : Value} {n' c' : Nat} {a' : Option Addr} {ys : List α} {K : Option Addr → Nat → Nat → H → Prop}
    (hi : P.info? e = some i) (hz : i.zero = some z) (hs : i.size = s) (s0 : s ≠ 0) (zl : (cellsOf z).length = s) (es : ∀ y, (enc y).length = s) (on : ∀ y, ∀ v ∈ enc y, one v = true)
    (x : Sl h a n c s enc xs) (y : Sl h a' n' c' s enc ys) (hb : (n + n') * i.bytes ≤ 140737488355328) (hl : n + n' ≤ 140737488355328)
    (k : ∀ a'' c'' h', Keep (own a) h h' → (∀ b ∈ own a'', b ∈ own a ∨ h.size ≤ b) → Sl h' a'' (n + n') c'' s enc (xs ++ ys) → K a'' (n + n') c'' h') : appendD P e h a n c (.slice a' n' c') K := by
  intro q
  refine append_of hi hz hs s0 zl es on (x.keep0 Keep.pad) (y.keep0 Keep.pad) hb hl fun a2 c2 h2 k2 w2 s2 => k a2 c2 h2 (Keep.pad.trans k2 (by simp)) (fun b hb => ?_) s2
  rcases w2 b hb with t | t
  · exact .inl t
  · rw [pad_size] at t; exact .inr (by omega)
end
/-! what is proved of the real memory -/
noncomputable def mask (g m g' : H) : H := (Array.range g'.size).map fun b => open Classical in if b < g.size ∧ Pv m b then dmy else g'[b]?.getD dmy
theorem mask_size {g m g' : H} : (mask g m g').size = g'.size := by simp [mask]
theorem mask_get {g m g' : H} {b : Nat} (l : b < g'.size) : (mask g m g')[b]? = open Classical in if b < g.size ∧ Pv m b then some dmy else g'[b]? := by
  unfold mask
  rw [Array.getElem?_map, Array.getElem?_range, if_pos l]
  simp only [Option.map_some]
  split
  · rfl
  · rw [Array.getElem?_eq_getElem l]; rfl
theorem Md0.blk {g m : H} {b : Nat} {cs : List Value} (r : Md0 g m) (x : blk m b cs) (n : cs ≠ []) : Eng.blk g b cs := by
  obtain ⟨e, x⟩ := x
  exact ⟨e, r.at x (by intro t; injection t with t _ _; injection t with t; exact n t)⟩
theorem callD_of {P : Program} {f : FuncId} {args : Array Value} {m : H} {K : Value → H → Prop} (S : List Nat) (hS : ∀ b ∈ S, ¬ Pv m b)
    (c : ∀ g, Md0 g m → callK P f args g fun v g' => Keep S g g' ∧ ∀ m', Keep S m m' → m'.size = g'.size → (∀ b, b ∈ S ∨ g.size ≤ b → m'[b]? = g'[b]?) → K v m') : callD P f args m K := by
  intro g r
  refine callK_mono (c g r) fun v g' ⟨kp, k⟩ => ⟨mask g m g', ?_, ?_⟩
  · refine ⟨⟨by rw [mask_size]; exact Nat.le_refl _, fun b l => ?_⟩, kp.le, by rw [mask_size]; exact Nat.le_trans r.1 kp.le, fun b l y => ⟨.inr ?_, ?_⟩⟩
    · rw [mask_size] at l
      rw [mask_get l]
      split
      · exact .inr rfl
      · exact .inl rfl
    · rw [mask_get (Nat.lt_of_lt_of_le l kp.le), if_pos ⟨l, y⟩]
    · exact kp.2 b l (fun t => hS b t y)
  · refine k _ ⟨?_, fun b l nb => ?_⟩ mask_size fun b hb => ?_
    · rw [mask_size]; exact Nat.le_trans r.1 kp.le
    · have lg : b < g.size := Nat.lt_of_lt_of_le l r.1
      rw [mask_get (Nat.lt_of_lt_of_le lg kp.le)]
      by_cases y : Pv m b
      · rw [if_pos ⟨lg, y⟩]
        rcases y with y | y
        · omega
        · exact y.symm
      · rw [if_neg (fun t => y t.2), kp.2 b lg nb]
        rcases r.2 b l with e | e
        · exact e.symm
        · exact absurd (.inr e) y
    · by_cases l : b < g'.size
      · rw [mask_get l, if_neg]
        rintro ⟨l2, y⟩
        rcases hb with t | t
        · exact hS b t y
        · omega
      · rw [Array.getElem?_eq_none (by rw [mask_size]; omega), Array.getElem?_eq_none (by omega)]
/-- a function that only reads -/
theorem callD_ro {P : Program} {f : FuncId} {args : Array Value} {m : H} {K : Value → H → Prop}
    (c : ∀ g, Md0 g m → callK P f args g fun v g' => K v m ∧ Keep [] g g') : callD P f args m K := by
  intro g r
  refine callK_mono (c g r) fun v g' ⟨k, kp⟩ => ⟨m, ⟨⟨Nat.le_trans r.1 kp.le, fun b l => ?_⟩, kp.le, Nat.le_refl _, fun b l y => ⟨y, kp.2 b l (by simp)⟩⟩, k⟩
  rw [kp.2 b (Nat.lt_of_lt_of_le l r.1) (by simp)]; exact r.2 b l
theorem Md0.slice {α : Type} {g m : H} {a n c s} {enc : α → List Value} {xs : List α} (r : Md0 g m) (x : Sl m a n c s enc xs) (s0 : 0 < s) (c0 : a = none ∨ 0 < c) : Sl g a n c s enc xs := by
  refine ⟨x.1, ?_⟩
  match a, x.2, c0 with
  | none, y, _ => exact y
  | some ⟨b, o, none⟩, ⟨cs, y, l, z⟩, c0 =>
    refine ⟨cs, r.blk y ?_, l, z⟩
    intro e; subst e
    have : 0 < c := by simpa using c0
    have : 0 < c * s := Nat.mul_pos this s0
    simp at l; omega
/-! tests whose answer is known -/
theorem ifD_t {c p q : Prop} [Decidable c] (f : c) (g : p) : ifB (decide c) p q := by rw [decide_eq_true f]; exact g
theorem ifD_f {c p q : Prop} [Decidable c] (f : ¬ c) (g : q) : ifB (decide c) p q := by rw [decide_eq_false f]; exact g
theorem ifE_t {x y : Int} {p q : Prop} (f : x = y) (g : p) : ifB (x == y) p q := by rw [show (x == y) = true by simp [f]]; exact g
theorem ifE_f {x y : Int} {p q : Prop} (f : x ≠ y) (g : q) : ifB (x == y) p q := by rw [show (x == y) = false by simp [f]]; exact g
theorem ifN_t {x y : Int} {p q : Prop} (f : x ≠ y) (g : p) : ifB (x != y) p q := by rw [show (x != y) = true by simp [f]]; exact g
theorem ifN_f {x y : Int} {p q : Prop} (f : x = y) (g : q) : ifB (x != y) p q := by rw [show (x != y) = false by simp [f]]; exact g
theorem asI_of {k n} {K : Int → Prop} (g : K n) : asI k (.int k n) K := by rw [asI_eq]; exact g
theorem asB_of {b} {K : Bool → Prop} (g : K b) : asB (.bool b) K := g
theorem asP_of {b} {K : Option Addr → Prop} (g : K b) : asP (.pointer b) K := g
theorem ifP_some {x : Addr} {p q : Prop} (g : q) : ifB (some x).isNone p q := g
theorem ifB_b {b : Bool} {p q : Prop} (f : b = true → p) (g : b = false → q) : ifB b p q := by cases b <;> simp_all [ifB]
theorem ifB_nb {b : Bool} {p q : Prop} (f : b = false → p) (g : b = true → q) : ifB (!b) p q := by cases b <;> simp_all [ifB]
theorem wrap_suc {i : Nat} (hi : i ≤ 140737488355328) : IntKind.i64.wrap ((i : Int) + 1) = ((i + 1 : Nat) : Int) := by
  rw [IntWalk.i64_in _ (by omega)]; omega
/-! a row that is only read -/
def SlR {α : Type} (h : H) (a : Option Addr) (n s : Nat) (enc : α → List Value) (xs : List α) : Prop :=
  (n = xs.length ∧ n ≤ 9223372036854775807) ∧ ∀ (i : Nat) (x : α), xs[i]? = some x → ∃ b o, a = some ⟨b, o, none⟩ ∧ ∀ j v, (enc x)[j]? = some v → cell h b (o + i * s + j) = some v
theorem Sl.toR {α : Type} {h : H} {a : Option Addr} {n c s : Nat} {enc : α → List Value} {xs : List α} (x : Sl h a n c s enc xs) : SlR h a n s enc xs :=
  ⟨⟨x.1.1, by have := x.1.2; omega⟩, fun i y hy => by
    obtain ⟨b, o, ea, r⟩ := x.ex (List.getElem?_eq_some_iff.mp hy).1
    exact ⟨b, o, ea, fun j v hv => r.cell hy hv⟩⟩
theorem cell_keep {h h' : H} {b o : Nat} {v : Value} (x : cell h b o = some v) (k : Keep [] h h') : cell h' b o = some v := by
  have l : b < h.size := by
    unfold cell at x; split at x
    · rename_i e; exact (Array.getElem?_eq_some_iff.mp e).1
    · cases x
  unfold cell at x ⊢
  rw [k.2 b l (by simp)]; exact x
section
variable {α : Type} {h h' : H} {a : Option Addr} {n s i : Nat} {z : Int} {enc : α → List Value} {xs : List α} {x : α}
theorem SlR.keep0 (r : SlR h a n s enc xs) (k : Keep [] h h') : SlR h' a n s enc xs :=
  ⟨r.1, fun i x hx => by
    obtain ⟨b, o, ea, e⟩ := r.2 i x hx
    exact ⟨b, o, ea, fun j v hv => cell_keep (e j v hv) k⟩⟩
theorem SlR.le (r : SlR h a n s enc xs) : n = xs.length ∧ n ≤ 9223372036854775807 := r.1
theorem SlR.req (r : SlR h a n s enc xs) (hx : xs[i]? = some x) (hz : z = (i : Int)) {K : Nat → Nat → Prop} (g : ∀ b o, (∀ j v, (enc x)[j]? = some v → cell h b (o + j) = some v) → K b o) :
    Eng.req (0 ≤ z ∧ z < (n : Nat)) (Eng.nz a fun b o => K b (o + z.toNat * s)) := by
  have := (List.getElem?_eq_some_iff.mp hx).1; have := r.1.1
  rw [req_eq (by omega)]
  obtain ⟨b, o, ea, e⟩ := r.2 i x hx
  subst ea; subst hz
  rw [nz_some, Int.toNat_natCast]; exact g _ _ e
end
/-! an element of a slice, looked at and written -/
section
variable {α : Type} {h : H} {a : Option Addr} {n c s i j q : Nat} {enc : α → List Value} {xs : List α} {x y : α} {z : Int}
theorem Sl.nz (hs : Sl h a n c s enc xs) (hi : i < xs.length) {K : Nat → Nat → Prop} (g : ∀ b o, Rw h b o c s enc xs → a = some ⟨b, o, none⟩ → K b o) : Eng.nz a K := by
  obtain ⟨b, o, ea, r⟩ := hs.ex hi
  rw [ea, nz_some]; exact g b o r ea
theorem get_lt (hx : xs[i]? = some x) : i < xs.length := (List.getElem?_eq_some_iff.mp hx).1
theorem Sl.req (hs : Sl h a n c s enc xs) (hx : xs[i]? = some x) (hz : z = (i : Int)) {K : Prop} (g : K) : Eng.req (0 ≤ z ∧ z < (n : Nat)) K := by
  have := get_lt hx; have := hs.1.1
  rw [req_eq (by omega)]; exact g
theorem Sl.I (hs : Sl h a n c s enc xs) (hx : xs[i]? = some x) {k v} {K : Int → Prop} (g : K v) (hv : (enc x)[j]? = some (.int k v) := by rfl) (hq : q = i := by rfl) : Eng.nz a fun b o => ldI k h b (o + q * s + j) K := by
  subst hq
  exact hs.nz (get_lt hx) fun b o r ea => by rw [ldI_eq (r.cell hx hv)]; exact g
theorem Rw.I {b o : Nat} (r : Rw h b o c s enc xs) (hx : xs[i]? = some x) {k v} {K : Int → Prop} (g : K v) (hv : (enc x)[j]? = some (.int k v) := by rfl) (hq : q = i := by rfl) : ldI k h b (o + q * s + j) K := by
  subst hq; rw [ldI_eq (r.cell hx hv)]; exact g
theorem Rw.I0 {b o : Nat} (r : Rw h b o c s enc xs) (hx : xs[i]? = some x) {k v} {K : Int → Prop} (g : K v) (hv : (enc x)[0]? = some (.int k v) := by rfl) (hq : q = i := by rfl) : ldI k h b (o + q * s) K := Rw.I (j := 0) r hx g hv hq
theorem Sl.rw {b o : Nat} (hs : Sl h (some ⟨b, o, none⟩) n c s enc xs) : Rw h b o c s enc xs := hs.2
theorem nz_of {b o : Nat} {K : Nat → Nat → Prop} (g : K b o) : Eng.nz (some ⟨b, o, none⟩) K := g
theorem Sl.I0 (hs : Sl h a n c s enc xs) (hx : xs[i]? = some x) {k v} {K : Int → Prop} (g : K v) (hv : (enc x)[0]? = some (.int k v) := by rfl) (hq : q = i := by rfl) : Eng.nz a fun b o => ldI k h b (o + q * s) K := Sl.I (j := 0) hs hx g hv hq
theorem Sl.B (hs : Sl h a n c s enc xs) (hx : xs[i]? = some x) {v} {K : Bool → Prop} (g : K v) (hv : (enc x)[j]? = some (.bool v) := by rfl) (hq : q = i := by rfl) : Eng.nz a fun b o => ldB h b (o + q * s + j) K := by
  subst hq
  exact hs.nz (get_lt hx) fun b o r ea => by rw [ldB_eq (r.cell hx hv)]; exact g
theorem Sl.B0 (hs : Sl h a n c s enc xs) (hx : xs[i]? = some x) {v} {K : Bool → Prop} (g : K v) (hv : (enc x)[0]? = some (.bool v) := by rfl) (hq : q = i := by rfl) : Eng.nz a fun b o => ldB h b (o + q * s) K := Sl.B (j := 0) hs hx g hv hq
theorem Sl.gI (hs : Sl h a n c s enc xs) (hx : xs[i]? = some x) {k v} {K : Int → Prop} (g : K v) (hv : (enc x)[j]? = some (.int k v) := by rfl) (hz : z = (i : Int) := by rfl) : Eng.req (0 ≤ z ∧ z < (n : Nat)) (Eng.nz a fun b o => ldI k h b (o + z.toNat * s + j) K) :=
  hs.req hx hz (hs.I hx g hv (by omega))
theorem Sl.gI0 (hs : Sl h a n c s enc xs) (hx : xs[i]? = some x) {k v} {K : Int → Prop} (g : K v) (hv : (enc x)[0]? = some (.int k v) := by rfl) (hz : z = (i : Int) := by rfl) : Eng.req (0 ≤ z ∧ z < (n : Nat)) (Eng.nz a fun b o => ldI k h b (o + z.toNat * s) K) :=
  hs.req hx hz (hs.I0 hx g hv (by omega))
theorem Sl.St (hs : Sl h a n c s enc xs) (hx : xs[i]? = some x) (y : α) {v : Value} {K : H → Prop} (es : ∀ y, (enc y).length = s) (g : ∀ h', Keep (Eng.own a) h h' → h'.size = h.size → Sl h' a n c s enc (xs.set i y) → K h')
    (hv : enc y = (enc x).set j v := by rfl) (hj : j < s := by decide) (hq : q = i := by rfl) : Eng.nz a fun b o => Eng.st h b (o + q * s + j) v K := by
  subst hq
  refine hs.nz (get_lt hx) fun b o r ea => st_rw r es hx hj hv fun h' e' r' k' => g h' ?_ e' ?_
  · rw [ea]; exact k'
  · exact hs.upd ea r' (by simp)
theorem Sl.St0 (hs : Sl h a n c s enc xs) (hx : xs[i]? = some x) (y : α) {v : Value} {K : H → Prop} (es : ∀ y, (enc y).length = s) (g : ∀ h', Keep (Eng.own a) h h' → h'.size = h.size → Sl h' a n c s enc (xs.set i y) → K h')
    (hv : enc y = (enc x).set 0 v := by rfl) (hj : 0 < s := by decide) (hq : q = i := by rfl) : Eng.nz a fun b o => Eng.st h b (o + q * s) v K := Sl.St (j := 0) hs hx y es g hv hj hq
theorem Sl.gSt (hs : Sl h a n c s enc xs) (hx : xs[i]? = some x) (y : α) {v : Value} {K : H → Prop} (es : ∀ y, (enc y).length = s) (g : ∀ h', Keep (Eng.own a) h h' → h'.size = h.size → Sl h' a n c s enc (xs.set i y) → K h')
    (hv : enc y = (enc x).set j v := by rfl) (hj : j < s := by decide) (hz : z = (i : Int) := by rfl) : Eng.req (0 ≤ z ∧ z < (n : Nat)) (Eng.nz a fun b o => Eng.st h b (o + z.toNat * s + j) v K) :=
  hs.req hx hz (hs.St hx y es g hv hj (by omega))
theorem Sl.gSt0 (hs : Sl h a n c s enc xs) (hx : xs[i]? = some x) (y : α) {v : Value} {K : H → Prop} (es : ∀ y, (enc y).length = s) (g : ∀ h', Keep (Eng.own a) h h' → h'.size = h.size → Sl h' a n c s enc (xs.set i y) → K h')
    (hv : enc y = (enc x).set 0 v := by rfl) (hj : 0 < s := by decide) (hz : z = (i : Int) := by rfl) : Eng.req (0 ≤ z ∧ z < (n : Nat)) (Eng.nz a fun b o => Eng.st h b (o + z.toNat * s) v K) :=
  hs.req hx hz (hs.St0 hx y es g hv hj (by omega))
theorem Keep.tr {S : List Nat} {h h' h'' : H} (x : Keep S h h') (y : Keep S h' h'') : Keep S h h'' := x.trans y (fun b _ t => by rcases t with t | t <;> exact t)
theorem getSet (hx : xs[i]? = some x) : (xs.set i y)[i]? = some y := by simp [get_lt hx]
theorem wrap_in {n : Int} (x : -9223372036854775808 ≤ n) (y : n ≤ 9223372036854775807) : IntKind.i64.wrap n = n := IntWalk.i64_in n ⟨x, y⟩
/-- a row whose first i are others -/
def mixI (f : Nat → α) (xs : List α) (i : Nat) : List α := (List.range i).map f ++ xs.drop i
theorem mixI_zero {f : Nat → α} : mixI f xs 0 = xs := by simp [mixI]
theorem mixI_len {f : Nat → α} (hi : i ≤ xs.length) : (mixI f xs i).length = xs.length := by simp [mixI]; omega
theorem mixI_get {f : Nat → α} : (mixI f xs i)[j]? = if j < i then some (f j) else xs[j]? := by
  unfold mixI
  by_cases q : j < i
  · rw [if_pos q, List.getElem?_append_left (by simpa using q), List.getElem?_map, List.getElem?_range q]; rfl
  · rw [if_neg q, List.getElem?_append_right (by simpa using q), List.getElem?_drop]
    congr 1; simp; omega
theorem mixI_succ {f : Nat → α} (hi : i < xs.length) : mixI f xs (i + 1) = (mixI f xs i).set i (f i) := by
  refine List.ext_getElem? fun j => ?_
  rw [mixI_get, List.getElem?_set, mixI_len (by omega), mixI_get]
  by_cases e : i = j
  · subst e; rw [if_pos (by omega), if_pos rfl, if_pos hi]
  · rw [if_neg e]
    by_cases l : j < i
    · rw [if_pos l, if_pos (by omega)]
    · rw [if_neg l, if_neg (by omega)]
theorem mixI_all {f : Nat → α} : mixI f xs xs.length = (List.range xs.length).map f := by simp [mixI]
theorem Sl.StR (hs : Sl h a n c s enc xs) (hi : i < xs.length) (y : α) {vs : List Value} {K : H → Prop} (es : ∀ y, (enc y).length = s) (on : ∀ v ∈ enc y, one v = true) (g : ∀ h', Keep (Eng.own a) h h' → h'.size = h.size → Sl h' a n c s enc (xs.set i y) → K h')
    (hv : vs = enc y := by rfl) (hq : q = i := by rfl) : Eng.nz a fun b o => stRow h b (o + q * s) 0 vs K := by
  subst hq; subst hv
  refine hs.nz hi fun b o r ea => stRow_rw r es on hi fun h' e' r' k' => g h' ?_ e' ?_
  · rw [ea]; exact k'
  · exact hs.upd ea r' (by simp)
end
/-- a slice that is new -/
structure NewS {α : Type} (s : Nat) (enc : α → List Value) (h : H) (ys : List α) (h' : H) (a' : Option Addr) (n' c' : Nat) : Prop where
  kp : Keep [] h h'
  fr : ∀ b ∈ own a', h.size ≤ b
  sl : Sl h' a' n' c' s enc ys
/-! slices of one's own -/
section
variable {α : Type} {h : H} {b n s c n' c' by' : Nat} {a a' : Option Addr} {enc : α → List Value} {xs ys : List α}
theorem Sl.empty (x : blk h b []) : Sl h (some ⟨b, 0, none⟩) 0 0 s enc [] := ⟨⟨rfl, by omega⟩, [], x, by simp, by simp, by simp⟩
theorem Sl.nil : Sl h none 0 0 s enc [] := ⟨⟨rfl, by omega⟩, rfl, rfl⟩
theorem Sl.lit (es : ∀ y, (enc y).length = s) (l : xs.length ≤ 140737488355328) (z : blk h b (xs.flatMap enc)) : Sl h (some ⟨b, 0, none⟩) xs.length xs.length s enc xs :=
  ⟨⟨rfl, l⟩, _, z, by rw [flat_len es]; omega, Nat.le_refl _, fun i x hx j v hv => by
    have hj : j < s := by rw [← es x]; exact get_lt hv
    rw [Nat.zero_add, flat_get es hj xs i hx]; exact hv⟩
theorem newE_of {t} {K : Nat → H → Prop} (k : ∀ b h', h.size ≤ b → Keep [] h h' → Sl h' (some ⟨b, 0, none⟩) 0 0 s enc [] → K b h') : newD h [] t K :=
  newD_of fun b h1 le hb k1 => k b h1 le k1 (Sl.empty hb)
theorem newL_of (xs : List α) {cs : List Value} {t} {K : Nat → H → Prop} (es : ∀ y, (enc y).length = s) (k : ∀ b h', h.size ≤ b → Keep [] h h' → Sl h' (some ⟨b, 0, none⟩) xs.length xs.length s enc xs → K b h') (e : cs = xs.flatMap enc := by rfl) (l : xs.length ≤ 140737488355328 := by simp) : newD h cs t K :=
  newD_of fun b h1 le hb k1 => k b h1 le k1 (Sl.lit es l (e ▸ hb))
theorem append_inf {P : Program} {e : TypeId} {K : Option Addr → Nat → Nat → H → Prop} (inf : (P.info? e).map (fun i => (i.size, i.bytes, i.zero.map fun z => (cellsOf z).length)) = some (s, by', some s)) (s0 : s ≠ 0)
    (es : ∀ y, (enc y).length = s) (on : ∀ y, ∀ v ∈ enc y, one v = true) (x : Sl h a n c s enc xs) (y : Sl h a' n' c' s enc ys) (hb : (n + n') * by' ≤ 140737488355328) (hl : n + n' ≤ 140737488355328)
    (k : ∀ a'' c'' h', Keep (own a) h h' → (∀ b ∈ own a'', b ∈ own a ∨ h.size ≤ b) → Sl h' a'' (n + n') c'' s enc (xs ++ ys) → K a'' (n + n') c'' h') : appendD P e h a n c (.slice a' n' c') K := by
  cases hi : P.info? e with
  | none => rw [hi] at inf; cases inf
  | some i =>
    rw [hi] at inf
    cases hz : i.zero with
    | none => simp [hz] at inf
    | some z =>
      simp [hz] at inf
      exact appendD_of hi hz inf.1 s0 inf.2.2 es on x y (by rw [inf.2.1]; exact hb) hl k
end
end Go.Eng
