import Derived.Test.YteeinamngmmlbaaRs2
set_option linter.unusedVariables false
/-! Maps whose keys are whole numbers. -/
namespace Go.Eng
def MapI (h : H) (r : Nat) (kd : IntKind) (kv : List (Int × Value)) : Prop :=
  ∃ es c, h[r]? = some (.map es c) ∧ es.toList.map (fun e => (e.key, e.val)) = kv.map fun p => (Value.int kd p.1, p.2)
def lkI : List (Int × Value) → Int → Nat → Option (Nat × Value)
  | [], _, _ => none
  | p :: r, k, i => if p.1 = k then some (i, p.2) else lkI r k (i + 1)
def putI (kv : List (Int × Value)) (k : Int) (v : Value) : List (Int × Value) :=
  match lkI kv k 0 with
  | some (i, _) => kv.set i (k, v)
  | none => kv ++ [(k, v)]
variable {h h' : H} {r : Nat} {kd : IntKind} {kv : List (Int × Value)} {k : Int} {v z : Value} {P : Program} {kt et : TypeId} {S : List Nat}
theorem findE_eq : ∀ (es : List MapEntry) (kv : List (Int × Value)) (i : Nat), es.map (fun e => (e.key, e.val)) = kv.map (fun p => (Value.int kd p.1, p.2)) → findE (.int kd k) es i = some (lkI kv k i) := by
  intro es
  induction es with
  | nil => intro kv i e; cases kv with
    | nil => rfl
    | cons p r => simp at e
  | cons x es ih =>
    intro kv i e
    cases kv with
    | nil => simp at e
    | cons p r =>
      simp only [List.map_cons, List.cons.injEq, Prod.mk.injEq] at e
      rw [findE, e.1.1, e.1.2, lkI]
      simp only [eqK, if_true]
      by_cases q : p.1 = k
      · rw [if_pos q]; simp [q]
      · rw [if_neg q]
        have : (k == p.1) = false := by simp; exact fun t => q t.symm
        rw [this]; exact ih r (i + 1) e.2
theorem MapI.lt (x : MapI h r kd kv) : r < h.size := by
  obtain ⟨es, c, e, _⟩ := x; exact (Array.getElem?_eq_some_iff.mp e).1
theorem MapI.keep (x : MapI h r kd kv) (q : Keep S h h') (n : r ∉ S) : MapI h' r kd kv := by
  have l := x.lt
  obtain ⟨es, c, e, y⟩ := x
  exact ⟨es, c, by rw [q.2 r l n]; exact e, y⟩
theorem newMD_of {K : Nat → H → Prop} (z : ∀ r h', h.size ≤ r → MapI h' r kd [] → Keep [] h h' → K r h') : newMD h K := by
  intro n
  have k1 : Keep [] h ((pad h n).push (.map #[] 0)) := Keep.pad.trans Keep.push (by simp)
  exact z _ _ (by rw [pad_size]; omega) ⟨#[], 0, by simp, rfl⟩ k1
theorem look_of {s : Sh} {K : Bool → Fn Prop s} (x : MapI h r kd kv) (hk : keyOk P kt (.int kd k) = true) (hz : zeroOf P et = some z)
    (g : elF False s (match lkI kv k 0 with | some (_, v) => v | none => z) (K (lkI kv k 0).isSome)) : lookK P kt et h (some r) (.int kd k) s K := by
  obtain ⟨es, c, e, y⟩ := x
  unfold lookK
  rw [hk, ifB_t]
  simp only [ldMap, e]
  rw [hz, findE_eq _ _ _ y]
  exact g
theorem put_of {K : H → Prop} (x : MapI h r kd kv) (hk : keyOk P kt (.int kd k) = true) (g : ∀ h', Keep [r] h h' → h'.size = h.size → MapI h' r kd (putI kv k v) → K h') : putMapK P kt h (.map (some r)) (.int kd k) v K := by
  have lr := x.lt
  obtain ⟨es, c, e, y⟩ := x
  unfold putMapK
  rw [hk, ifB_t]
  simp only [asM, opt, e]
  rw [findE_eq _ _ _ y]
  refine g _ ⟨by simp, fun b l n => ?_⟩ (by simp) ?_
  · simp only [List.mem_singleton] at n
    rw [Array.getElem?_setIfInBounds, if_neg (fun t => n t.symm)]
  · unfold putI mapPut
    cases lk : lkI kv k 0 with
    | none =>
      refine ⟨_, _, by rw [Array.getElem?_setIfInBounds, if_pos rfl, if_pos lr], ?_⟩
      simp [y]
    | some w =>
      obtain ⟨i, u⟩ := w
      refine ⟨_, _, by rw [Array.getElem?_setIfInBounds, if_pos rfl, if_pos lr], ?_⟩
      dsimp only
      refine List.ext_getElem? fun j => ?_
      have yj := congrArg (fun l => l[j]?) y
      simp only [List.getElem?_map, Array.getElem?_toList] at yj
      rw [List.getElem?_map, List.getElem?_map, Array.getElem?_toList, Array.getElem?_modify, List.getElem?_set]
      have ly : es.size = kv.length := by have := congrArg List.length y; simpa using this
      by_cases q : i = j
      · subst q
        rw [if_pos rfl, if_pos rfl]
        by_cases l : i < kv.length
        · rw [if_pos l, Array.getElem?_eq_getElem (by omega)]; rfl
        · rw [if_neg l, Array.getElem?_eq_none (by omega)]; rfl
      · rw [if_neg q, if_neg q]; exact yj
/-- a set: what is in it, is so with true -/
def setKv (l : List Int) : List (Int × Value) := l.map fun k => (k, .bool true)
theorem lkI_set : ∀ (l : List Int) (i : Nat), (∃ j, lkI (setKv l) k i = some (j, .bool true)) ∧ k ∈ l ∨ lkI (setKv l) k i = none ∧ k ∉ l := by
  intro l
  induction l with
  | nil => intro i; exact .inr ⟨rfl, by simp⟩
  | cons x l ih =>
    intro i
    simp only [setKv, List.map_cons, lkI]
    by_cases q : x = k
    · rw [if_pos q]; exact .inl ⟨⟨i, rfl⟩, by simp [q]⟩
    · rw [if_neg q]
      rcases ih (i + 1) with t | t
      · exact .inl ⟨t.1, by simp [t.2]⟩
      · exact .inr ⟨t.1, by simp [t.2]; exact fun e => q e.symm⟩
theorem set_look {l : List Int} {K : Bool → Bool → Prop} (x : MapI h r kd (setKv l)) (hk : keyOk P kt (.int kd k) = true) (hz : zeroOf P et = some (.bool false))
    (g1 : k ∈ l → K true true) (g2 : k ∉ l → K false false) : lookK P kt et h (some r) (.int kd k) .bool K := by
  refine look_of x hk hz ?_
  rcases lkI_set (k := k) l 0 with ⟨⟨j, e⟩, t⟩ | ⟨e, t⟩
  · rw [e]; exact g1 t
  · rw [e]; exact g2 t
theorem set_put {l : List Int} {K : H → Prop} (x : MapI h r kd (setKv l)) (nk : k ∉ l) (hk : keyOk P kt (.int kd k) = true)
    (g : ∀ h', Keep [r] h h' → h'.size = h.size → MapI h' r kd (setKv (l ++ [k])) → K h') : putMapK P kt h (.map (some r)) (.int kd k) (.bool true) K := by
  refine put_of x hk fun h1 k1 e1 m1 => g h1 k1 e1 ?_
  rcases lkI_set (k := k) l 0 with ⟨_, t⟩ | ⟨e, t⟩
  · exact absurd t nk
  · have : putI (setKv l) k (.bool true) = setKv (l ++ [k]) := by
      unfold putI; rw [e]; simp [setKv]
    rw [this] at m1; exact m1
end Go.Eng
