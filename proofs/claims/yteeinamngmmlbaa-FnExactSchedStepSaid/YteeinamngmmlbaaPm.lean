import Derived.Test.YteeinamngmmlbaaSep
set_option linter.unusedVariables false
/-! Local variables that nobody else sees leave the memory that is spoken of: m is the memory without them, g the real one. -/
namespace Go.Eng
def dmy : Obj := .cells #[] 0 (0, 0)
/-- not a block of m -/
def Pv (m : H) (b : Nat) : Prop := m.size ≤ b ∨ m[b]? = some dmy
def Md0 (g m : H) : Prop := m.size ≤ g.size ∧ ∀ b, b < m.size → m[b]? = g[b]? ∨ m[b]? = some dmy
def pad (m : H) (n : Nat) : H := m ++ Array.replicate n dmy
structure Af (g m g' m' : H) : Prop where
  md : Md0 g' m'
  sz : g.size ≤ g'.size
  sm : m.size ≤ m'.size
  pv : ∀ b, b < g.size → Pv m b → Pv m' b ∧ g'[b]? = g[b]?
structure Md (g0 m0 g m : H) (L : List As) : Prop where
  af : Af g0 m0 g m
  l : ∀ X ∈ L, X.ok g ∧ ∀ b, b ∈ X.foot → b < g.size ∧ g0.size ≤ b ∧ Pv m b
  d : L.Pairwise apart
variable {g0 m0 g m g' m' : H} {L L' : List As} {b o : Nat}
theorem Md0.refl : Md0 g g := ⟨Nat.le_refl _, fun _ _ => .inl rfl⟩
theorem Af.refl (x : Md0 g m) : Af g m g m := ⟨x, Nat.le_refl _, Nat.le_refl _, fun _ _ y => ⟨y, rfl⟩⟩
theorem Md.step (R : Md g0 m0 g m L) (a : Af g m g' m') : Md g0 m0 g' m' L := by
  refine ⟨⟨a.md, Nat.le_trans R.af.sz a.sz, Nat.le_trans R.af.sm a.sm, fun b l y => ?_⟩, fun X hX => ?_, R.d⟩
  · obtain ⟨p, q⟩ := R.af.pv b l y
    obtain ⟨p', q'⟩ := a.pv b (Nat.lt_of_lt_of_le l R.af.sz) p
    exact ⟨p', q'.trans q⟩
  · obtain ⟨ok, ft⟩ := R.l X hX
    refine ⟨X.st _ _ ok fun b hb => (a.pv b (ft b hb).1 (ft b hb).2.2).2, fun b hb => ?_⟩
    obtain ⟨f1, f2, f3⟩ := ft b hb
    exact ⟨Nat.lt_of_lt_of_le f1 a.sz, f2, (a.pv b f1 f3).1⟩
theorem Md.md (R : Md g0 m0 g m L) : Md0 g m := R.af.md
theorem Md.start (x : Md0 g m) : Md g m g m [] := ⟨.refl x, by simp, .nil⟩
/-! what is looked at -/
theorem Md0.at {x : Obj} (r : Md0 g m) (h : m[b]? = some x) (n : x ≠ dmy) : g[b]? = some x := by
  have l : b < m.size := (Array.getElem?_eq_some_iff.mp h).1
  rcases r.2 b l with e | e
  · rw [← e]; exact h
  · rw [h] at e; injection e with e; exact absurd e n
theorem dmy_map {es c} : Obj.map es c ≠ dmy := by intro h; cases h
theorem cell_ne {c e f v} (h : (c : Array Value)[o]? = some v) : Obj.cells c e f ≠ dmy := by
  intro t; injection t with t _ _; subst t; simp at h
theorem Md0.cell {v} (r : Md0 g m) (h : cell m b o = some v) : Eng.cell g b o = some v := by
  unfold Eng.cell at h ⊢
  split at h
  · rename_i c e f hb
    rw [r.at hb (cell_ne h)]; exact h
  · cases h
theorem wr_not (h : wr m b o) : ¬ Pv m b := by
  obtain ⟨c, e, f, hb, ho, _⟩ := h
  rintro (t | t)
  · have := (Array.getElem?_eq_some_iff.mp hb).1; omega
  · rw [hb] at t; injection t with t; injection t with t _ _; subst t; simp at ho
theorem Md0.wr (r : Md0 g m) (h : wr m b o) : Eng.wr g b o := by
  obtain ⟨c, e, f, hb, ho, hf⟩ := h
  refine ⟨c, e, f, r.at hb ?_, ho, hf⟩
  intro t; injection t with t _ _; subst t; simp at ho
theorem Md0.modify (r : Md0 g m) (np : ¬ Pv m b) (f : Obj → Obj) : Af g m (g.modify b f) (m.modify b f) := by
  have lb : b < m.size := by
    rcases Nat.lt_or_ge b m.size with l | l
    · exact l
    · exact absurd (.inl l) np
  have eb : m[b]? = g[b]? := by
    rcases r.2 b lb with e | e
    · exact e
    · exact absurd (.inr e) np
  refine ⟨⟨by simpa using r.1, fun c l => ?_⟩, by simp, by simp, fun c l y => ?_⟩
  · rw [Array.size_modify] at l
    simp only [Array.getElem?_modify]
    by_cases e : b = c
    · subst e; left; simp [eb]
    · simp only [if_neg e]; exact r.2 c l
  · have ne : b ≠ c := fun t => np (t ▸ y)
    constructor
    · rcases y with y | y
      · left; simpa using y
      · right; simp [Array.getElem?_modify, ne, y]
    · simp [Array.getElem?_modify, ne]
theorem Md0.put (r : Md0 g m) (h : Eng.wr m b o) (v : Value) : Af g m (Eng.put g b o v) (Eng.put m b o v) := r.modify (wr_not h) _
theorem Md0.setm {es c} {x : Obj} (r : Md0 g m) (h : m[b]? = some (.map es c)) : Af g m (g.setIfInBounds b x) (m.setIfInBounds b x) := by
  have lb : b < m.size := (Array.getElem?_eq_some_iff.mp h).1
  have lg : b < g.size := Nat.lt_of_lt_of_le lb r.1
  refine ⟨⟨by simpa using r.1, fun c l => ?_⟩, by simp, by simp, fun c l y => ?_⟩
  · rw [Array.size_setIfInBounds] at l
    simp only [Array.getElem?_setIfInBounds]
    by_cases e : b = c
    · subst e; left; simp [lb, lg]
    · simp only [if_neg e]; exact r.2 c l
  · have ne : b ≠ c := by
      intro t; subst t
      rcases y with y | y
      · omega
      · rw [h] at y; injection y with y; exact dmy_map y
    constructor
    · rcases y with y | y
      · left; simpa using y
      · right; simp [Array.getElem?_setIfInBounds, ne, y]
    · simp [Array.getElem?_setIfInBounds, ne]
theorem pad_size {n : Nat} : (pad m n).size = m.size + n := by simp [pad]
theorem pad_get {n : Nat} : (pad m n)[b]? = if b < m.size then m[b]? else if b < m.size + n then some dmy else none := by
  unfold pad
  rw [Array.getElem?_append]
  by_cases h : b < m.size
  · simp [h]
  · rw [if_neg h, if_neg h, Array.getElem?_replicate]
    by_cases h2 : b < m.size + n
    · rw [if_pos h2, if_pos (by omega)]
    · rw [if_neg h2, if_neg (by omega)]
theorem Md0.pad (r : Md0 g m) : Af g m g (pad m (g.size - m.size)) := by
  have := r.1
  refine ⟨⟨by rw [pad_size]; omega, fun b l => ?_⟩, Nat.le_refl _, by rw [pad_size]; omega, fun b l y => ⟨?_, rfl⟩⟩
  · rw [pad_size] at l
    rw [pad_get]
    by_cases h : b < m.size
    · rw [if_pos h]; exact r.2 b h
    · rw [if_neg h, if_pos l]; right; rfl
  · right
    rw [pad_get]
    rcases y with y | y
    · rw [if_neg (by omega), if_pos (by omega)]
    · rw [if_pos ((Array.getElem?_eq_some_iff.mp y).1)]; exact y
theorem Md0.push (r : Md0 g m) (e : m.size = g.size) (x : Obj) : Af g m (g.push x) (m.push x) := by
  refine ⟨⟨by simp; omega, fun b l => ?_⟩, by simp, by simp, fun b l y => ?_⟩
  · rw [Array.size_push] at l
    rw [Array.getElem?_push, Array.getElem?_push, e]
    by_cases h : b = g.size
    · left; rw [if_pos h, if_pos h]
    · rw [if_neg h, if_neg h]; exact r.2 b (by omega)
  · constructor
    · rcases y with y | y
      · omega
      · right; rw [Array.getElem?_push, if_neg (by omega)]; exact y
    · rw [Array.getElem?_push, if_neg (by omega)]
theorem Af.trans {g'' m''} (x : Af g m g' m') (y : Af g' m' g'' m'') : Af g m g'' m'' :=
  ⟨y.md, Nat.le_trans x.sz y.sz, Nat.le_trans x.sm y.sm, fun b l p => by
    obtain ⟨p1, q1⟩ := x.pv b l p
    obtain ⟨p2, q2⟩ := y.pv b (Nat.lt_of_lt_of_le l x.sz) p1
    exact ⟨p2, q2.trans q1⟩⟩
theorem pad_eq (r : Md0 g m) : (pad m (g.size - m.size)).size = g.size := by rw [pad_size]; have := r.1; omega

/-! what takes new memory: behind any number of blocks that are not spoken of -/
def newD (m : H) (cs : List Value) (t : TypeId) (K : Nat → H → Prop) : Prop := ∀ n, new (pad m n) cs t K
def newMD (m : H) (K : Nat → H → Prop) : Prop := ∀ n, newM (pad m n) K
def appendD (P : Program) (e : TypeId) (m : H) (base : Option Addr) (len cap : Nat) (x : Value) (K : Option Addr → Nat → Nat → H → Prop) : Prop := ∀ n, appendK P e (pad m n) base len cap x K
def strBytesD (m : H) (e : TypeId) (s : ByteArray) (K : Option Addr → Nat → Nat → H → Prop) : Prop := ∀ n, strBytesK (pad m n) e s K
def callD (P : Program) (f : FuncId) (args : Array Value) (m : H) (K : Value → H → Prop) : Prop :=
  ∀ g, Md0 g m → callK P f args g fun v g' => ∃ m', Af g m g' m' ∧ K v m'

def callVD (P : Program) (f : Value) (vs : List Value) (m : H) (K : Value → H → Prop) : Prop :=
  ∀ g, Md0 g m → callVK P f vs g fun v g' => ∃ m', Af g m g' m' ∧ K v m'
theorem elF_mono : ∀ (s : Sh) (v : Value) (K K' : Value → Prop), (∀ v, K v → K' v) → elF False s v (cur s K) → elF False s v (cur s K') := by
  have nilc : ∀ (vs : List Value) (K K' : List Value → Prop), (∀ v, K v → K' v) → elFL False [] vs (curL [] K) → elFL False [] vs (curL [] K') := by
    intro vs K K' f h
    cases vs with
    | nil => rw [elFL_nil] at h ⊢; exact f _ h
    | cons v vs => rw [elFL_nil_cons] at h; exact h.elim
  have consc : ∀ (s : Sh) (l : List Sh), (∀ (v : Value) (K K' : Value → Prop), (∀ v, K v → K' v) → elF False s v (cur s K) → elF False s v (cur s K')) →
      (∀ (vs : List Value) (K K' : List Value → Prop), (∀ v, K v → K' v) → elFL False l vs (curL l K) → elFL False l vs (curL l K')) →
      ∀ (vs : List Value) (K K' : List Value → Prop), (∀ v, K v → K' v) → elFL False (s :: l) vs (curL (s :: l) K) → elFL False (s :: l) vs (curL (s :: l) K') := by
    intro s l ihs ihl vs K K' f h
    cases vs with
    | nil => rw [elFL_cons_nil] at h; exact h.elim
    | cons v vs => rw [elFL_cons] at h ⊢; exact ihs v _ _ (fun v => ihl vs _ _ fun vs => f _) h
  intro s
  refine Sh.rec (motive_1 := fun s => ∀ (v : Value) (K K' : Value → Prop), (∀ v, K v → K' v) → elF False s v (cur s K) → elF False s v (cur s K'))
    (motive_2 := fun l => ∀ (vs : List Value) (K K' : List Value → Prop), (∀ v, K v → K' v) → elFL False l vs (curL l K) → elFL False l vs (curL l K'))
    ?_ ?_ ?_ ?_ ?_ ?_ ?_ ?_ ?_ ?_ ?_ ?_ nilc (fun s l ihs ihl => consc s l ihs ihl) s
  · intro k v K K' f h
    rw [elF_int] at h ⊢; split at h
    · split at h
      · rename_i e; rw [if_pos e]; exact f _ h
      · exact h.elim
    · exact h.elim
  · intro v K K' f h; rw [elF_bool] at h ⊢; split at h <;> first | exact f _ h | exact h.elim
  · intro v K K' f h; rw [elF_str] at h ⊢; split at h <;> first | exact f _ h | exact h.elim
  · intro v K K' f h; rw [elF_ptr] at h ⊢; split at h <;> first | exact f _ h | exact h.elim
  · intro v K K' f h; rw [elF_adr] at h ⊢; split at h <;> first | exact f _ h | exact h.elim
  · intro v K K' f h; rw [elF_blk] at h ⊢; split at h <;> first | exact f _ h | exact h.elim
  · intro v K K' f h; rw [elF_slice] at h ⊢; split at h <;> first | exact f _ h | exact h.elim
  · intro v K K' f h; rw [elF_map] at h ⊢; split at h <;> first | exact f _ h | exact h.elim
  · intro v K K' f h; rw [elF_any] at h ⊢; exact f _ h
  · intro q l ih v K K' f h
    rw [elF_fn] at h ⊢; split at h
    · split at h
      · rename_i e; rw [if_pos e]; exact ih _ _ _ (fun _ => f _) h
      · exact h.elim
    · exact h.elim
  · intro l ih v K K' f h
    rw [elF_agg] at h ⊢; split at h
    · exact ih _ _ _ (fun _ => f _) h
    · exact h.elim
  · intro l ih v K K' f h
    rw [elF_tuple] at h ⊢; split at h
    · exact ih _ _ _ (fun _ => f _) h
    · exact h.elim
theorem elim_mono {s : Sh} {v : Value} {K K' : Value → Prop} (f : ∀ v, K v → K' v) (h : elim s v K) : elim s v K' := elF_mono s v K K' f h
theorem callVK_mono {P : Program} {f : Value} {vs : List Value} {h : H} {K K' : Value → H → Prop} (hc : callVK P f vs h K) (hk : ∀ v h, K v h → K' v h) : callVK P f vs h K' := by
  unfold callVK at hc ⊢
  split at hc
  · rename_i q _ _
    cases e : hasBody P q with
    | false => rw [e] at hc; exact hc.elim
    | true =>
      rw [e] at hc
      rw [ifB_t] at hc ⊢
      exact callK_mono hc fun v h => elim_mono fun v => hk v h
  · exact hc.elim
/-! the parts -/
theorem d_if {c : Bool} {p2 q2 p1 q1 : Prop} (p : p2 → p1) (q : q2 → q1) : ifB c p2 q2 → ifB c p1 q1 := by
  cases c
  · exact q
  · exact p
theorem d_req {c : Prop} [Decidable c] {p2 p1 : Prop} (p : p2 → p1) : req c p2 → req c p1 := by
  unfold req; intro h; split at h
  · rename_i t; rw [if_pos t]; exact p h
  · exact h.elim
theorem d_and {p2 q2 p1 q1 : Prop} (p : p2 → p1) (q : q2 → q1) : p2 ∧ q2 → p1 ∧ q1 := fun h => ⟨p h.1, q h.2⟩
theorem d_dup {G A B : Prop} (p : G → A) (q : G → B) : G → A ∧ B := fun z => ⟨p z, q z⟩
theorem d_l {A B X : Prop} (p : A → X) : A ∧ B → X := fun z => p z.1
theorem d_r {A B X : Prop} (p : B → X) : A ∧ B → X := fun z => p z.2
theorem d_nz {a : Option Addr} {K2 K1 : Nat → Nat → Prop} (f : ∀ b o, K2 b o → K1 b o) : nz a K2 → nz a K1 := by
  rcases a with _ | ⟨b, o, _ | q⟩
  · exact id
  · exact f b o
  · exact id
theorem d_asI {k : IntKind} {v : Value} {K2 K1 : Int → Prop} (f : ∀ n, K2 n → K1 n) : asI k v K2 → asI k v K1 := by
  unfold asI; intro h; split at h
  · split at h
    · rename_i t; simp only [if_pos t]; exact f _ h
    · exact h.elim
  · exact h.elim
theorem d_asB {v : Value} {K2 K1 : Bool → Prop} (f : ∀ n, K2 n → K1 n) : asB v K2 → asB v K1 := by
  unfold asB; intro h; split at h
  · exact f _ h
  · exact h.elim
theorem d_asS {v : Value} {K2 K1 : ByteArray → Prop} (f : ∀ n, K2 n → K1 n) : asS v K2 → asS v K1 := by
  unfold asS; intro h; split at h
  · exact f _ h
  · exact h.elim
theorem d_asP {v : Value} {K2 K1 : Option Addr → Prop} (f : ∀ n, K2 n → K1 n) : asP v K2 → asP v K1 := by
  unfold asP; intro h; split at h
  · exact f _ h
  · exact h.elim
theorem d_asL {v : Value} {K2 K1 : Option Addr → Nat → Nat → Prop} (f : ∀ a l c, K2 a l c → K1 a l c) : asL v K2 → asL v K1 := by
  unfold asL; intro h; split at h
  · exact f _ _ _ h
  · exact h.elim
theorem d_asM {v : Value} {K2 K1 : Option Nat → Prop} (f : ∀ n, K2 n → K1 n) : asM v K2 → asM v K1 := by
  unfold asM; intro h; split at h
  · exact f _ h
  · exact h.elim
theorem d_opt {K2 K1 : Value → Prop} (R : Md g0 m0 g m L) (f : ∀ v, K2 v → K1 v) : opt (cell m b o) K2 → opt (cell g b o) K1 := by
  intro h
  cases e : cell m b o with
  | none => rw [e] at h; exact h.elim
  | some v => rw [e] at h; rw [R.md.cell e]; exact f v h
theorem d_ldI {k : IntKind} {K2 K1 : Int → Prop} (R : Md g0 m0 g m L) (f : ∀ n, K2 n → K1 n) : ldI k m b o K2 → ldI k g b o K1 := d_opt R fun _ => d_asI f
theorem d_ldB {K2 K1 : Bool → Prop} (R : Md g0 m0 g m L) (f : ∀ n, K2 n → K1 n) : ldB m b o K2 → ldB g b o K1 := d_opt R fun _ => d_asB f
theorem d_ldS {K2 K1 : ByteArray → Prop} (R : Md g0 m0 g m L) (f : ∀ n, K2 n → K1 n) : ldS m b o K2 → ldS g b o K1 := d_opt R fun _ => d_asS f
theorem d_ldP {K2 K1 : Option Addr → Prop} (R : Md g0 m0 g m L) (f : ∀ n, K2 n → K1 n) : ldP m b o K2 → ldP g b o K1 := d_opt R fun _ => d_asP f
theorem d_ldL {K2 K1 : Option Addr → Nat → Nat → Prop} (R : Md g0 m0 g m L) (f : ∀ a l c, K2 a l c → K1 a l c) : ldL m b o K2 → ldL g b o K1 := d_opt R fun _ => d_asL f
theorem d_ldM {K2 K1 : Option Nat → Prop} (R : Md g0 m0 g m L) (f : ∀ n, K2 n → K1 n) : ldM m b o K2 → ldM g b o K1 := d_opt R fun _ => d_asM f
theorem d_ldV {K2 K1 : Value → Prop} (R : Md g0 m0 g m L) (f : ∀ n, K2 n → K1 n) : ldV m b o K2 → ldV g b o K1 := d_opt R f
theorem d_cell {v : Value} {p2 p1 : Prop} (R : Md g0 m0 g m L) (f : p2 → p1) : (cell m b o = some v ∧ p2) → (cell g b o = some v ∧ p1) := fun h => ⟨R.md.cell h.1, f h.2⟩
theorem d_held0 {p2 p1 : Prop} (R : Md g0 m0 g m L) (f : p2 → p1) : ∀ {vs : List Value} {j : Nat}, heldRow m b o j vs p2 → heldRow g b o j vs p1
  | [], _, h => f h
  | _ :: _, _, h => ⟨R.md.cell h.1, d_held0 R f h.2⟩
theorem d_held {vs : List Value} {j : Nat} {p2 p1 : Prop} (R : Md g0 m0 g m L) (f : p2 → p1) : heldRow m b o j vs p2 → heldRow g b o j vs p1 := d_held0 R f
theorem d_st {v : Value} {K2 K1 : H → Prop} (R : Md g0 m0 g m L) (f : ∀ g m, Md g0 m0 g m L → K2 m → K1 g) : st m b o v K2 → st g b o v K1 :=
  fun h => ⟨R.md.wr h.1, f _ _ (R.step (R.md.put h.1 v)) h.2⟩
theorem d_stRow {K2 K1 : H → Prop} : ∀ {vs : List Value} {g m : H} {j : Nat} (R : Md g0 m0 g m L) (f : ∀ g m, Md g0 m0 g m L → K2 m → K1 g), stRow m b o j vs K2 → stRow g b o j vs K1
  | [], _, _, _, R, f, h => f _ _ R h
  | v :: vs, g, m, j, R, f, h => d_if (fun h => d_st R (fun g m R h => d_stRow (vs := vs) (j := j + 1) R f h) h) id h
theorem d_stV {v : Value} {K2 K1 : H → Prop} (R : Md g0 m0 g m L) (f : ∀ g m, Md g0 m0 g m L → K2 m → K1 g) : stV m b o v K2 → stV g b o v K1 := by
  unfold stV; split
  · exact d_stRow R f
  · exact d_if (d_st R f) id
theorem d_new {cs : List Value} {t : TypeId} {K2 K1 : Nat → H → Prop} (R : Md g0 m0 g m L) (f : ∀ b g m, Md g0 m0 g m L → K2 b m → K1 b g) : newD m cs t K2 → new g cs t K1 := by
  intro h
  have h1 := h (g.size - m.size)
  have e := pad_eq R.md
  unfold new at h1 ⊢
  rw [e] at h1
  exact f _ _ _ (R.step (R.md.pad.trans (R.md.pad.md.push e _))) h1
theorem d_newM {K2 K1 : Nat → H → Prop} (R : Md g0 m0 g m L) (f : ∀ b g m, Md g0 m0 g m L → K2 b m → K1 b g) : newMD m K2 → newM g K1 := by
  intro h
  have h1 := h (g.size - m.size)
  have e := pad_eq R.md
  unfold newM at h1 ⊢
  rw [e] at h1
  exact f _ _ _ (R.step (R.md.pad.trans (R.md.pad.md.push e _))) h1
theorem Md0.cellsAt (r : Md0 g m) : ∀ {n o : Nat} {vs}, cellsAt m b o n = some vs → Eng.cellsAt g b o n = some vs
  | 0, _, _, h => h
  | n + 1, o, vs, h => by
    unfold Eng.cellsAt at h ⊢
    cases e : Eng.cell m b o with
    | none => rw [e] at h; cases h
    | some v =>
      rw [e] at h; rw [r.cell e]
      simp only [Option.bind_some] at h ⊢
      cases e2 : Eng.cellsAt m b (o + 1) n with
      | none => rw [e2] at h; cases h
      | some ws => rw [e2] at h; rw [r.cellsAt e2]; exact h
theorem d_elems {s n : Nat} {x : Value} {K2 K1 : List Value → Prop} (r : Md0 g m) (f : ∀ vs, K2 vs → K1 vs) : elemsK m s n x K2 → elemsK g s n x K1 := by
  unfold elemsK; intro h; split at h
  · exact f _ h
  · rename_i b o _ _
    cases e : Eng.cellsAt m b o (n * s) with
    | none => simp only [e, opt] at h
    | some vs => simp only [e, opt] at h; simp only [r.cellsAt e, opt]; exact f _ h
  · exact f _ h
  · exact h.elim
theorem d_len {x : Value} {K2 K1 : Nat → Prop} (f : ∀ n, K2 n → K1 n) : lenK x K2 → lenK x K1 := by
  cases x <;> first | exact f _ | exact id
theorem d_append {P : Program} {e : TypeId} {base : Option Addr} {len cap : Nat} {x : Value} {K2 K1 : Option Addr → Nat → Nat → H → Prop} (R : Md g0 m0 g m L)
    (f : ∀ a l c g m, Md g0 m0 g m L → K2 a l c m → K1 a l c g) : appendD P e m base len cap x K2 → appendK P e g base len cap x K1 := by
  intro h
  have h := h (g.size - m.size)
  have es := pad_eq R.md
  have R := R.step R.md.pad
  generalize pad m (g.size - m.size) = m at *
  unfold appendK at h ⊢
  cases hi : P.info? e with
  | none => rw [hi] at h; exact h.elim
  | some i =>
    rw [hi] at h
    simp only [opt] at h ⊢
    cases hz : i.zero with
    | none => rw [hz] at h; exact h.elim
    | some z =>
      rw [hz] at h
      simp only at h ⊢
      refine d_req (fun h => d_len (fun n h => ?_) h) h
      refine d_elems R.md (fun new h => ?_) h
      split at h
      · rename_i t
        rw [if_pos t]
        split at h
        · exact d_stRow R (fun g m R h => f _ _ _ _ _ R h) h
        · exact f _ _ _ _ _ R h
        · exact h.elim
      · rename_i t
        rw [if_neg t]
        refine d_elems R.md (fun old h => d_req (fun h c hc => ?_) h) h
        have := h c hc
        rw [es] at this
        exact f _ _ _ _ _ (R.step (R.md.push es _)) this
theorem d_strBytes {e : TypeId} {s : ByteArray} {K2 K1 : Option Addr → Nat → Nat → H → Prop} (R : Md g0 m0 g m L)
    (f : ∀ a l c g m, Md g0 m0 g m L → K2 a l c m → K1 a l c g) : strBytesD m e s K2 → strBytesK g e s K1 := by
  intro h
  have h := h (g.size - m.size)
  have es := pad_eq R.md
  have R := R.step R.md.pad
  generalize pad m (g.size - m.size) = m at *
  unfold strBytesK at h ⊢
  refine d_req (fun h c hc => ?_) h
  have := h c hc
  rw [es] at this
  exact f _ _ _ _ _ (R.step (R.md.push es _)) this
theorem d_bytesStr {base : Option Addr} {n c : Nat} {K2 K1 : ByteArray → Prop} (R : Md g0 m0 g m L) (f : ∀ s, K2 s → K1 s) : bytesStrK m base n c K2 → bytesStrK g base n c K1 := by
  unfold bytesStrK
  refine d_elems R.md fun cs h => ?_
  cases e : bytesV cs with
  | none => rw [e] at h; exact h.elim
  | some l => rw [e] at h; exact f _ h
theorem d_copy {P : Program} {e : TypeId} {d s : Value} {K2 K1 : Int → H → Prop} (R : Md g0 m0 g m L)
    (f : ∀ n g m, Md g0 m0 g m L → K2 n m → K1 n g) : copyK P e m d s K2 → copyK P e g d s K1 := by
  unfold copyK szK; intro h
  cases hi : P.info? e with
  | none => rw [hi] at h; exact h.elim
  | some i =>
    rw [hi] at h
    simp only [opt] at h ⊢
    refine d_asL (fun base dl _ h => d_len (fun sl h => ?_) h) h
    refine d_elems R.md (fun cs h => ?_) h
    split at h
    · exact d_stRow R (fun g m R h => f _ _ _ R h) h
    · exact f _ _ _ R h
    · exact h.elim
theorem d_clear {z : Value} {base : Option Addr} {n : Nat} {K2 K1 : H → Prop} (R : Md g0 m0 g m L) (f : ∀ g m, Md g0 m0 g m L → K2 m → K1 g) : clearK m z base n K2 → clearK g z base n K1 := by
  unfold clearK; intro h; split at h
  · exact d_stRow R f h
  · exact f _ _ R h
  · exact h.elim
theorem d_ldMap {r : Option Nat} {K2 K1 : Array MapEntry → Nat → Prop} (R : Md g0 m0 g m L) (f : ∀ es c, K2 es c → K1 es c) : ldMap m r K2 → ldMap g r K1 := by
  unfold ldMap; intro h; split at h
  · exact f _ _ h
  · split at h
    · rename_i e
      simp only [R.md.at e dmy_map]; exact f _ _ h
    · exact h.elim
theorem d_putMap {P : Program} {kt : TypeId} {x k v : Value} {K2 K1 : H → Prop} (R : Md g0 m0 g m L) (f : ∀ g m, Md g0 m0 g m L → K2 m → K1 g) : putMapK P kt m x k v K2 → putMapK P kt g x k v K1 := by
  unfold putMapK
  refine d_if (d_asM fun r h => ?_) id
  cases r with
  | none => exact h.elim
  | some r =>
    simp only [opt] at h ⊢
    split at h
    · rename_i es c e
      simp only [R.md.at e dmy_map]
      cases e2 : findE k es.toList 0 with
      | none => rw [e2] at h; exact h.elim
      | some u => rw [e2] at h; exact f _ _ (R.step (R.md.setm e)) h
    · exact h.elim
theorem d_delMap {P : Program} {kt : TypeId} {x k : Value} {K2 K1 : H → Prop} (R : Md g0 m0 g m L) (f : ∀ g m, Md g0 m0 g m L → K2 m → K1 g) : delMapK P kt m x k K2 → delMapK P kt g x k K1 := by
  unfold delMapK
  refine d_if (d_asM fun r h => ?_) id
  cases r with
  | none => exact h.elim
  | some r =>
    simp only [opt] at h ⊢
    split at h
    · rename_i es c e
      simp only [R.md.at e dmy_map]
      cases e2 : findE k es.toList 0 with
      | none => rw [e2] at h; exact h.elim
      | some u => rw [e2] at h; exact f _ _ (R.step (R.md.setm e)) h
    · exact h.elim
theorem d_call {P : Program} {fn : FuncId} {args : Array Value} {K2 K1 : Value → H → Prop} (R : Md g0 m0 g m L) (f : ∀ v g m, Md g0 m0 g m L → K2 v m → K1 v g) : callD P fn args m K2 → callK P fn args g K1 :=
  fun h => callK_mono (h g R.md) fun v g' ⟨m', a, k⟩ => f v g' m' (R.step a) k
theorem d_callV {P : Program} {f : Value} {vs : List Value} {K2 K1 : Value → H → Prop} (R : Md g0 m0 g m L) (k : ∀ v g m, Md g0 m0 g m L → K2 v m → K1 v g) : callVD P f vs m K2 → callVK P f vs g K1 :=
  fun h => callVK_mono (h g R.md) fun v g' ⟨m', a, x⟩ => k v g' m' (R.step a) x
theorem d_unK {op : UnOp} {x : Value} {K2 K1 : Value → Prop} (f : ∀ v, K2 v → K1 v) : unK op x K2 → unK op x K1 := by
  unfold unK; split <;> first | exact f _ | exact id
theorem d_ex {p2 p1 : Nat → Prop} (f : ∀ n, p2 n → p1 n) : (∃ n, p2 n) → ∃ n, p1 n := fun ⟨n, h⟩ => ⟨n, f n h⟩

/-! values by their parts -/
mutual
theorem mapF_id {R : Type} : ∀ (s : Sh) (K : Fn R s), mapF s (fun r : R => r) K = K
  | .int _, K => rfl
  | .bool, K => rfl
  | .str, K => rfl
  | .ptr, K => rfl
  | .adr, K => rfl
  | .blk, K => rfl
  | .slice, K => rfl
  | .map, K => rfl
  | .any, K => rfl
  | .fn _ l, K => mapFL_id l K
  | .agg l, K => mapFL_id l K
  | .tuple l, K => mapFL_id l K
theorem mapFL_id {R : Type} : ∀ (l : List Sh) (K : FnL R l), mapFL l (fun r : R => r) K = K
  | [], K => rfl
  | s :: l, K => by
    have h3 : (fun k : FnL R l => mapFL l (fun r : R => r) k) = fun k => k := funext fun k => mapFL_id l k
    exact (congrArg (fun F => mapF (R := FnL R l) (S := FnL R l) s F K) h3).trans (mapF_id (R := FnL R l) s K)
end
theorem d_el {s : Sh} {v : Value} {K2 K1 : Fn Prop s} (f : AllS s (fun v r => r → elF False s v K1) K2) : elF False s v K2 → elF False s v K1 := by
  intro h
  have e : mapF s (fun r : Prop => r) K2 = K2 := mapF_id s K2
  obtain ⟨r, h1, h2⟩ := elF_all s v (fun v r => r → elF False s v K1) K2 (fun r => r) f (by rw [e]; exact h)
  exact h1 h2
theorem d_look {P : Program} {kt et : TypeId} {r : Option Nat} {k : Value} {s : Sh} {K2 K1 : Bool → Fn Prop s} (R : Md g0 m0 g m L)
    (f : ∀ t v, elF False s v (K2 t) → elF False s v (K1 t)) : lookK P kt et m r k s K2 → lookK P kt et g r k s K1 := by
  unfold lookK
  refine d_if (d_ldMap R fun es c h => ?_) id
  cases hz : zeroOf P et with
  | none => rw [hz] at h; exact h.elim
  | some z =>
    rw [hz] at h
    simp only [opt] at h ⊢
    cases hf : findE k es.toList 0 with
    | none => rw [hf] at h; exact h.elim
    | some w => rw [hf] at h; exact f _ _ h

/-! what is not spoken of -/
theorem p_new {cs : List Value} {t : TypeId} {G : Prop} {K1 : Nat → H → Prop} (R : Md g0 m0 g m L) (f : ∀ b g, Md g0 m0 g m (lo b cs :: L) → G → K1 b g) : G → new g cs t K1 := by
  intro h
  have le := R.md.1
  have a : Af g m (g.push (.cells ⟨cs⟩ t (0, 0))) m := by
    refine ⟨⟨by simp; omega, fun b l => ?_⟩, by simp, Nat.le_refl _, fun b l y => ⟨y, ?_⟩⟩
    · rw [Array.getElem?_push, if_neg (by omega)]; exact R.md.2 b l
    · rw [Array.getElem?_push, if_neg (by omega)]
  have R' := R.step a
  refine f g.size _ ⟨R'.af, fun X hX => ?_, List.pairwise_cons.mpr ⟨fun X hX b hb hb' => ?_, R.d⟩⟩ h
  · rcases List.mem_cons.mp hX with e | e
    · subst e
      refine ⟨blk_new, fun b hb => ?_⟩
      simp only [lo, List.mem_singleton] at hb
      subst hb
      exact ⟨by simp, R.af.sz, .inl le⟩
    · exact R'.l X e
  · simp only [lo, List.mem_singleton] at hb
    subst hb
    have := ((R.l X hX).2 _ hb').1; omega
section
variable {cs cs' : List Value} {G : Prop}
theorem Md.lo (R : Md g0 m0 g m L) [i : LoIn L b cs] : blk g b cs := (R.l _ i.m).1
theorem Md.pc (R : Md g0 m0 g m L) [i : LoIn L b cs] {v : Value} (e : cs[o]? = some v) : cell g b o = some v := by rw [R.lo.cell]; exact e
theorem p_ldI [LoIn L b cs] {k v} {K1 : Int → Prop} (R : Md g0 m0 g m L) (e : cs[o]? = some (.int k v)) (f : G → K1 v) : G → ldI k g b o K1 := fun h => by rw [ldI_eq (R.pc e)]; exact f h
theorem p_ldB [LoIn L b cs] {v} {K1 : Bool → Prop} (R : Md g0 m0 g m L) (e : cs[o]? = some (.bool v)) (f : G → K1 v) : G → ldB g b o K1 := fun h => by rw [ldB_eq (R.pc e)]; exact f h
theorem p_ldS [LoIn L b cs] {v} {K1 : ByteArray → Prop} (R : Md g0 m0 g m L) (e : cs[o]? = some (.string v)) (f : G → K1 v) : G → ldS g b o K1 := fun h => by rw [ldS_eq (R.pc e)]; exact f h
theorem p_ldP [LoIn L b cs] {v} {K1 : Option Addr → Prop} (R : Md g0 m0 g m L) (e : cs[o]? = some (.pointer v)) (f : G → K1 v) : G → ldP g b o K1 := fun h => by rw [ldP_eq (R.pc e)]; exact f h
theorem p_ldL [LoIn L b cs] {a l c} {K1 : Option Addr → Nat → Nat → Prop} (R : Md g0 m0 g m L) (e : cs[o]? = some (.slice a l c)) (f : G → K1 a l c) : G → ldL g b o K1 := fun h => by rw [ldL_eq (R.pc e)]; exact f h
theorem p_ldM [LoIn L b cs] {v} {K1 : Option Nat → Prop} (R : Md g0 m0 g m L) (e : cs[o]? = some (.map v)) (f : G → K1 v) : G → ldM g b o K1 := fun h => by simp only [ldM, R.pc e, opt, asM]; exact f h
theorem p_cell [LoIn L b cs] {v} {p1 : Prop} (R : Md g0 m0 g m L) (e : cs[o]? = some v) (f : G → p1) : G → cell g b o = some v ∧ p1 := fun h => ⟨R.pc e, f h⟩
theorem p_held0 [LoIn L b cs] {p1 : Prop} (R : Md g0 m0 g m L) (f : G → p1) : ∀ {vs : List Value} {j : Nat} (e : (cs.drop (o + j)).take vs.length = vs), G → heldRow g b o j vs p1
  | [], _, _, h => f h
  | v :: vs, j, e, h => by
    have hv : cs[o + j]? = some v := by
      have := congrArg (fun l => l[0]?) e
      simpa [List.getElem?_take] using this
    refine ⟨R.pc hv, p_held0 R f ?_ h⟩
    have := congrArg List.tail e
    rw [List.length_cons] at this
    cases hd : cs.drop (o + j) with
    | nil => rw [hd] at e; simp at e
    | cons w ws =>
      rw [hd] at this
      simp only [List.take_succ_cons, List.tail_cons] at this
      have hd2 : cs.drop (o + (j + 1)) = ws := by rw [show o + (j + 1) = (o + j) + 1 by omega, ← List.drop_drop, hd]; rfl
      rw [hd2]; exact this
theorem p_held [LoIn L b cs] {vs : List Value} {j : Nat} {p1 : Prop} (R : Md g0 m0 g m L) (e : (cs.drop (o + j)).take vs.length = vs) (f : G → p1) : G → heldRow g b o j vs p1 := p_held0 R f e
theorem Md.upd (R : Md g0 m0 g m L) [i : LoIn L b cs] [u : LoUp L b cs cs' L'] (k : Keep [b] g g') (es : g'.size = g.size) (x : blk g' b cs') : Md g0 m0 g' m L' := by
  have fb := (R.l _ i.m).2 b (by simp [Eng.lo])
  have nm : ∀ c, c < m.size → m[c]? = g'[c]? ∨ m[c]? = some dmy := fun c l => by
    by_cases e : c = b
    · subst e; rcases fb.2.2 with t | t
      · omega
      · exact .inr t
    · rw [k.2 c (Nat.lt_of_lt_of_le l R.md.1) (by simpa using e)]; exact R.md.2 c l
  refine ⟨⟨⟨by rw [es]; exact R.md.1, nm⟩, by rw [es]; exact R.af.sz, R.af.sm, fun c l y => ?_⟩, fun X hX => ?_, u.u.pw R.d fun Z _ h => h⟩
  · obtain ⟨p, q⟩ := R.af.pv c l y
    refine ⟨p, ?_⟩
    rw [k.2 c (Nat.lt_of_lt_of_le l R.af.sz) (by simp; omega)]; exact q
  · rcases u.u.cases R.d X hX with e | ⟨e, ap⟩
    · subst e
      refine ⟨x, fun c hc => ?_⟩
      simp only [Eng.lo, List.mem_singleton] at hc
      subst hc
      exact ⟨by rw [es]; exact fb.1, fb.2⟩
    · have z := R.l X e
      refine ⟨X.st _ _ z.1 fun c hc => k.2 c (z.2 c hc).1 (fun t => ap c hc (by simpa [Eng.lo] using t)), fun c hc => ?_⟩
      rw [es]; exact z.2 c hc
theorem p_st [LoIn L b cs] [LoUp L b cs cs' L'] {v : Value} {K1 : H → Prop} (R : Md g0 m0 g m L) (e : (Nat.blt o cs.length) = true ∧ cs.set o v = cs') (f : ∀ g, Md g0 m0 g m L' → G → K1 g) : G → st g b o v K1 := by
  intro h
  obtain ⟨l, e⟩ := e
  subst e
  exact st_of R.lo (Nat.le_of_ble_eq_true l) fun h' es x k => f h' (R.upd k es x) h
def setRow (cs : List Value) (o : Nat) (vs : List Value) : List Value := cs.take o ++ (vs ++ cs.drop (o + vs.length))
theorem p_stRow [LoIn L b cs] [LoUp L b cs cs' L'] {vs : List Value} {K1 : H → Prop} (R : Md g0 m0 g m L) (e : Nat.ble (o + vs.length) cs.length = true ∧ vs.all one = true ∧ setRow cs o vs = cs') (f : ∀ g, Md g0 m0 g m L' → G → K1 g) : G → stRow g b o 0 vs K1 := by
  intro h
  obtain ⟨l, on, e⟩ := e
  have l := Nat.le_of_ble_eq_true l
  refine stRow_of vs cs g 0 R.lo (by simpa using on) (by omega) fun h' c2 es x l2 i2 o2 k => f h' (R.upd (cs' := cs') k es ?_) h
  have : c2 = cs' := by
    subst e
    refine List.ext_getElem? fun q => ?_
    unfold setRow
    by_cases q1 : q < o
    · rw [o2 q (.inl (by omega)), List.getElem?_append_left (by simp; omega), List.getElem?_take, if_pos q1]
    · rw [List.getElem?_append_right (by simp; omega)]
      have : (cs.take o).length = o := by simp; omega
      rw [this]
      by_cases q2 : q < o + vs.length
      · rw [List.getElem?_append_left (by omega)]
        have := i2 (q - o) (by omega)
        rw [show o + 0 + (q - o) = q by omega] at this; exact this
      · rw [List.getElem?_append_right (by omega), List.getElem?_drop, o2 q (.inr (by omega))]
        congr 1; omega
  subst this; exact x
end
/-! some of what is known of them -/
class RmC (L : List As) (b : Nat) (cs : outParam (List Value)) (L' : outParam (List As)) : Prop where
  p : L.Pairwise apart → lo b cs ∈ L ∧ (∀ X ∈ L', X ∈ L) ∧ L'.Pairwise apart ∧ ∀ X ∈ L', apart (lo b cs) X
instance (priority := high) {b cs} : RmC (lo b cs :: L) b cs L := ⟨fun d => by
  rw [List.pairwise_cons] at d
  exact ⟨by simp, fun X hX => by simp [hX], d.2, d.1⟩⟩
instance {b cs} {X : As} [i : RmC L b cs L'] : RmC (X :: L) b cs (X :: L') := ⟨fun d => by
  rw [List.pairwise_cons] at d
  obtain ⟨p1, p2, p3, p4⟩ := i.p d.2
  refine ⟨by simp [p1], fun Y hY => ?_, List.pairwise_cons.mpr ⟨fun Y hY => d.1 Y (p2 Y hY), p3⟩, fun Y hY => ?_⟩
  · rcases List.mem_cons.mp hY with e | e
    · simp [e]
    · simp [p2 Y e]
  · rcases List.mem_cons.mp hY with e | e
    · subst e; exact (d.1 _ p1).symm
    · exact p4 Y e⟩
class Sb (A L : List As) : Prop where
  p : L.Pairwise apart → (∀ X ∈ A, X ∈ L) ∧ A.Pairwise apart
instance : Sb [] L := ⟨fun _ => ⟨by simp, .nil⟩⟩
instance {A : List As} {b cs} [i : RmC L b cs L'] [j : Sb A L'] : Sb (lo b cs :: A) L := ⟨fun d => by
  obtain ⟨p1, p2, p3, p4⟩ := i.p d
  obtain ⟨q1, q2⟩ := j.p p3
  refine ⟨fun X hX => ?_, List.pairwise_cons.mpr ⟨fun X hX => p4 X (q1 X hX), q2⟩⟩
  rcases List.mem_cons.mp hX with e | e
  · subst e; exact p1
  · exact p2 X (q1 X e)⟩
theorem Md.sub {A : List As} (R : Md g0 m0 g m L) [i : Sb A L] : Md g0 m0 g m A :=
  ⟨R.af, fun X hX => R.l X ((i.p R.d).1 X hX), (i.p R.d).2⟩
end Go.Eng
