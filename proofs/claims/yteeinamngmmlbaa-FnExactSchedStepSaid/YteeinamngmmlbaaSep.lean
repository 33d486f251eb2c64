import Derived.Test.YteeinamngmmlbaaBits
set_option linter.unusedVariables false
/-! What is said of parts of memory that lie apart, carried along. -/
namespace Go.Eng
structure As where
  foot : List Nat
  ok : H → Prop
  st : ∀ h h', ok h → (∀ b, b ∈ foot → h'[b]? = h[b]?) → ok h'
theorem blk.st {h h' : H} {b cs} (x : blk h b cs) (e : h'[b]? = h[b]?) : blk h' b cs := by
  obtain ⟨t, x⟩ := x; exact ⟨t, by rw [e]; exact x⟩
theorem Sl.st {α : Type} {h h' : H} {a n c s} {enc : α → List Value} {xs : List α} (x : Sl h a n c s enc xs) (e : ∀ b, b ∈ own a → h'[b]? = h[b]?) : Sl h' a n c s enc xs := by
  refine ⟨x.1, ?_⟩
  match a, x.2, e with
  | none, y, _ => exact y
  | some ⟨b, o, none⟩, y, e => obtain ⟨cs, z, y⟩ := y; exact ⟨cs, z.st (e b (by simp [own])), y⟩
  | some ⟨b, o, some _⟩, y, e => exact y
/-- a block's cells -/
def lo (b : Nat) (cs : List Value) : As := ⟨[b], fun h => blk h b cs, fun _ _ x e => x.st (e b (by simp))⟩
/-- a row of records -/
def ar {α : Type} (a : Option Addr) (n c s : Nat) (enc : α → List Value) (xs : List α) : As := ⟨own a, fun h => Sl h a n c s enc xs, fun _ _ x e => x.st e⟩

def apart (X Y : As) : Prop := ∀ b, b ∈ X.foot → b ∉ Y.foot
theorem apart.symm {X Y : As} (x : apart X Y) : apart Y X := fun b y z => x b z y
structure Fr (h0 h : H) (S : List Nat) (R A : List As) : Prop where
  k : Keep S h0 h
  r : ∀ X ∈ R, X.ok h0 ∧ ∀ b, b ∈ X.foot → b < h0.size ∧ b ∉ S
  a : ∀ X ∈ A, X.ok h ∧ ∀ b, b ∈ X.foot → b < h.size ∧ (b < h0.size → b ∈ S)
  d : A.Pairwise apart
inductive Up : List As → As → As → List As → Prop
  | here {X Y A} : Up (X :: A) X Y (Y :: A)
  | there {X Y Z A B} : Up A X Y B → Up (Z :: A) X Y (Z :: B)
theorem Up.mem {A B : List As} {X Y : As} (u : Up A X Y B) : X ∈ A := by
  induction u with
  | here => simp
  | there _ ih => simp [ih]
theorem Up.cases {A B : List As} {X Y : As} (u : Up A X Y B) (d : A.Pairwise apart) : ∀ Z ∈ B, Z = Y ∨ (Z ∈ A ∧ apart Z X) := by
  induction u with
  | here =>
    intro Z hz
    rw [List.pairwise_cons] at d
    rcases List.mem_cons.mp hz with e | e
    · exact .inl e
    · exact .inr ⟨by simp [e], (d.1 Z e).symm⟩
  | there v ih =>
    intro Z hz
    rw [List.pairwise_cons] at d
    rcases List.mem_cons.mp hz with e | e
    · subst e; exact .inr ⟨by simp, d.1 _ v.mem⟩
    · rcases ih d.2 Z e with e | ⟨e, f⟩
      · exact .inl e
      · exact .inr ⟨by simp [e], f⟩
theorem Up.pw {A B : List As} {X Y : As} (u : Up A X Y B) (d : A.Pairwise apart) (f : ∀ Z ∈ A, apart Z X → apart Z Y) : B.Pairwise apart := by
  induction u with
  | here =>
    rw [List.pairwise_cons] at d ⊢
    exact ⟨fun Z hz => (f Z (by simp [hz]) (d.1 Z hz).symm).symm, d.2⟩
  | @there X Y Z A B v ih =>
    rw [List.pairwise_cons] at d ⊢
    refine ⟨fun W hw => ?_, ih d.2 fun W hw => f W (by simp [hw])⟩
    rcases v.cases d.2 W hw with e | ⟨e, _⟩
    · subst e; exact f Z (by simp) (d.1 _ v.mem)
    · exact d.1 W e
variable {h0 h h' : H} {S : List Nat} {R A A' : List As} {X Y : As}
theorem Fr.start : Fr h h [] [] [] := ⟨Keep.refl, by simp, by simp, .nil⟩
theorem Fr.get (F : Fr h0 h S R A) (m : X ∈ A) : X.ok h := (F.a X m).1
theorem Fr.getR (F : Fr h0 h S R A) (m : X ∈ R) : X.ok h := X.st _ _ (F.r X m).1 fun b hb => F.k.2 b ((F.r X m).2 b hb).1 ((F.r X m).2 b hb).2
theorem Fr.up (F : Fr h0 h S R A) (u : Up A X Y A') (kp : Keep X.foot h h') (y : Y.ok h') (ft : ∀ b, b ∈ Y.foot → (b ∈ X.foot ∨ h.size ≤ b) ∧ b < h'.size) : Fr h0 h' S R A' := by
  have hx := F.a X u.mem
  refine ⟨F.k.trans kp fun b l t => ?_, F.r, fun Z hz => ?_, u.pw F.d fun Z hz ap b bz by_ => ?_⟩
  · rcases t with t | t
    · exact t
    · exact (hx.2 b t).2 l
  · rcases u.cases F.d Z hz with e | ⟨e, ap⟩
    · subst e
      refine ⟨y, fun b hb => ⟨(ft b hb).2, fun l => ?_⟩⟩
      rcases (ft b hb).1 with t | t
      · exact (hx.2 b t).2 l
      · have := F.k.le; omega
    · have z := F.a Z e
      refine ⟨Z.st _ _ z.1 fun b hb => kp.2 b (z.2 b hb).1 (ap b hb), fun b hb => ⟨?_, (z.2 b hb).2⟩⟩
      have := (z.2 b hb).1; have := kp.le; omega
  · rcases (ft b by_).1 with t | t
    · exact ap b bz t
    · have := ((F.a Z hz).2 b bz).1; omega
theorem Fr.keep (F : Fr h0 h S R A) (kp : Keep [] h h') : Fr h0 h' S R A :=
  ⟨F.k.trans kp (by simp), F.r, fun Z hz => by
    have z := F.a Z hz
    refine ⟨Z.st _ _ z.1 fun b hb => kp.2 b (z.2 b hb).1 (by simp), fun b hb => ⟨?_, (z.2 b hb).2⟩⟩
    have := (z.2 b hb).1; have := kp.le; omega, F.d⟩
theorem Fr.add (F : Fr h0 h S R A) (kp : Keep [] h h') (x : X.ok h') (fr : ∀ b, b ∈ X.foot → h.size ≤ b ∧ b < h'.size) : Fr h0 h' S R (X :: A) := by
  have G := F.keep kp
  refine ⟨G.k, G.r, fun Z hz => ?_, List.pairwise_cons.mpr ⟨fun Z hz b bx bz => ?_, F.d⟩⟩
  · rcases List.mem_cons.mp hz with e | e
    · subst e; exact ⟨x, fun b hb => ⟨(fr b hb).2, fun l => by have := (fr b hb).1; have := F.k.le; omega⟩⟩
    · exact G.a Z e
  · have := ((F.a Z hz).2 b bz).1; have := (fr b bx).1; omega
/-- at the start: what may be changed, what is only read -/
theorem Fr.own (F : Fr h h S R A) (x : X.ok h) (l : ∀ b, b ∈ X.foot → b < h.size) (ds : ∀ b, b ∈ X.foot → b ∉ S) (dr : ∀ Y ∈ R, apart X Y) : Fr h h (X.foot ++ S) R (X :: A) := by
  refine ⟨Keep.refl, fun Y hY => ⟨(F.r Y hY).1, fun b hb => ⟨((F.r Y hY).2 b hb).1, ?_⟩⟩, fun Z hz => ?_, List.pairwise_cons.mpr ⟨fun Z hz b bx bz => ?_, F.d⟩⟩
  · simp only [List.mem_append]
    intro t
    rcases t with t | t
    · exact dr Y hY b t hb
    · exact ((F.r Y hY).2 b hb).2 t
  · rcases List.mem_cons.mp hz with e | e
    · subst e; exact ⟨x, fun b hb => ⟨l b hb, fun _ => by simp [hb]⟩⟩
    · have z := F.a Z e
      exact ⟨z.1, fun b hb => ⟨(z.2 b hb).1, fun l => by simp [(z.2 b hb).2 l]⟩⟩
  · have := (F.a Z hz).2 b bz
    exact ds b bx (this.2 this.1)
theorem Fr.ro (F : Fr h h S R A) (x : X.ok h) (l : ∀ b, b ∈ X.foot → b < h.size ∧ b ∉ S) : Fr h h S (X :: R) A :=
  ⟨F.k, fun Y hY => by
    rcases List.mem_cons.mp hY with e | e
    · subst e; exact ⟨x, l⟩
    · exact F.r Y e, F.a, F.d⟩
/-! by their names -/
class LoIn (A : List As) (b : Nat) (cs : outParam (List Value)) : Prop where m : lo b cs ∈ A
instance (priority := high) {b cs} : LoIn (lo b cs :: A) b cs := ⟨by simp⟩
instance {b cs} [i : LoIn A b cs] : LoIn (X :: A) b cs := ⟨by simp [i.m]⟩
class LoUp (A : List As) (b : Nat) (cs : outParam (List Value)) (cs' : List Value) (A' : outParam (List As)) : Prop where u : Up A (lo b cs) (lo b cs') A'
instance (priority := high) {b cs cs'} : LoUp (lo b cs :: A) b cs cs' (lo b cs' :: A) := ⟨.here⟩
instance {b cs cs'} [i : LoUp A b cs cs' A'] : LoUp (X :: A) b cs cs' (X :: A') := ⟨.there i.u⟩
class ArIn (A : List As) (a : Option Addr) (α : outParam Type) (n c s : outParam Nat) (enc : outParam (α → List Value)) (xs : outParam (List α)) : Prop where m : ar a n c s enc xs ∈ A
instance (priority := high) {a} {α : Type} {n c s} {enc : α → List Value} {xs : List α} : ArIn (ar a n c s enc xs :: A) a α n c s enc xs := ⟨by simp⟩
instance {a} {α : Type} {n c s} {enc : α → List Value} {xs : List α} [i : ArIn A a α n c s enc xs] : ArIn (X :: A) a α n c s enc xs := ⟨by simp [i.m]⟩
class ArUp (A : List As) (a : Option Addr) (α : outParam Type) (n c s : outParam Nat) (enc : outParam (α → List Value)) (xs : outParam (List α)) (Y : As) (A' : outParam (List As)) : Prop where u : Up A (ar a n c s enc xs) Y A'
instance (priority := high) {a} {α : Type} {n c s} {enc : α → List Value} {xs : List α} {Y : As} : ArUp (ar a n c s enc xs :: A) a α n c s enc xs Y (Y :: A) := ⟨.here⟩
instance {a} {α : Type} {n c s} {enc : α → List Value} {xs : List α} {Y : As} [i : ArUp A a α n c s enc xs Y A'] : ArUp (X :: A) a α n c s enc xs Y (X :: A') := ⟨.there i.u⟩
class RwIn (A : List As) (b : Nat) (α : outParam Type) (o n c s : outParam Nat) (enc : outParam (α → List Value)) (xs : outParam (List α)) : Prop where m : ar (some ⟨b, o, none⟩) n c s enc xs ∈ A
instance (priority := high) {b o} {α : Type} {n c s} {enc : α → List Value} {xs : List α} : RwIn (ar (some ⟨b, o, none⟩) n c s enc xs :: A) b α o n c s enc xs := ⟨by simp⟩
instance {b o} {α : Type} {n c s} {enc : α → List Value} {xs : List α} [i : RwIn A b α o n c s enc xs] : RwIn (X :: A) b α o n c s enc xs := ⟨by simp [i.m]⟩
class RwUp (A : List As) (b : Nat) (α : outParam Type) (o n c s : outParam Nat) (enc : outParam (α → List Value)) (xs : outParam (List α)) (Y : As) (A' : outParam (List As)) : Prop where u : Up A (ar (some ⟨b, o, none⟩) n c s enc xs) Y A'
instance (priority := high) {b o} {α : Type} {n c s} {enc : α → List Value} {xs : List α} {Y : As} : RwUp (ar (some ⟨b, o, none⟩) n c s enc xs :: A) b α o n c s enc xs Y (Y :: A) := ⟨.here⟩
instance {b o} {α : Type} {n c s} {enc : α → List Value} {xs : List α} {Y : As} [i : RwUp A b α o n c s enc xs Y A'] : RwUp (X :: A) b α o n c s enc xs Y (X :: A') := ⟨.there i.u⟩

theorem Fr.lo (F : Fr h0 h S R A) (b : Nat) {cs} [i : LoIn A b cs] : blk h b cs := F.get i.m
theorem Fr.sl (F : Fr h0 h S R A) (a : Option Addr) {α : Type} {n c s} {enc : α → List Value} {xs : List α} [i : ArIn A a α n c s enc xs] : Sl h a n c s enc xs := F.get i.m
theorem Fr.slR (F : Fr h0 h S R A) (a : Option Addr) {α : Type} {n c s} {enc : α → List Value} {xs : List α} [i : ArIn R a α n c s enc xs] : Sl h a n c s enc xs := F.getR i.m
theorem Fr.rw (F : Fr h0 h S R A) (b : Nat) {α : Type} {o n c s} {enc : α → List Value} {xs : List α} [i : RwIn A b α o n c s enc xs] : Rw h b o c s enc xs := (show Sl h (some ⟨b, o, none⟩) n c s enc xs from F.get i.m).2
theorem Fr.rwR (F : Fr h0 h S R A) (b : Nat) {α : Type} {o n c s} {enc : α → List Value} {xs : List α} [i : RwIn R b α o n c s enc xs] : Rw h b o c s enc xs := (show Sl h (some ⟨b, o, none⟩) n c s enc xs from F.getR i.m).2
theorem Sl.le {α : Type} {a n c s} {enc : α → List Value} {xs : List α} (x : Sl h a n c s enc xs) : n = xs.length ∧ n ≤ c ∧ n ≤ 140737488355328 := by
  obtain ⟨⟨e, m⟩, z⟩ := x
  rcases a with _ | ⟨b, o, _ | q⟩
  · refine ⟨e, ?_, m⟩; rw [e, z.2]; simp
  · obtain ⟨cs, _, _, w, _⟩ := z; exact ⟨e, by omega, m⟩
  · exact z.elim
theorem Sl.ltO {α : Type} {a n c s} {enc : α → List Value} {xs : List α} (x : Sl h a n c s enc xs) : ∀ b, b ∈ Eng.own a → b < h.size := fun b hb => Sl.lt x hb
/-! steps -/
section
variable {b o : Nat} {cs : List Value}
theorem Fr.ldI (F : Fr h0 h S R A) [LoIn A b cs] {k v} {K : Int → Prop} (e : cs[o]? = some (.int k v)) (g : K v) : Eng.ldI k h b o K := by
  rw [ldI_eq (by rw [(F.lo b).cell]; exact e)]; exact g
theorem Fr.ldB (F : Fr h0 h S R A) [LoIn A b cs] {v} {K : Bool → Prop} (e : cs[o]? = some (.bool v)) (g : K v) : Eng.ldB h b o K := by
  rw [ldB_eq (by rw [(F.lo b).cell]; exact e)]; exact g
theorem Fr.ldS (F : Fr h0 h S R A) [LoIn A b cs] {v} {K : ByteArray → Prop} (e : cs[o]? = some (.string v)) (g : K v) : Eng.ldS h b o K := by
  rw [ldS_eq (by rw [(F.lo b).cell]; exact e)]; exact g
theorem Fr.ldP (F : Fr h0 h S R A) [LoIn A b cs] {v} {K : Option Addr → Prop} (e : cs[o]? = some (.pointer v)) (g : K v) : Eng.ldP h b o K := by
  rw [ldP_eq (by rw [(F.lo b).cell]; exact e)]; exact g
theorem Fr.ldL (F : Fr h0 h S R A) [LoIn A b cs] {a l c} {K : Option Addr → Nat → Nat → Prop} (e : cs[o]? = some (.slice a l c)) (g : K a l c) : Eng.ldL h b o K := by
  rw [ldL_eq (by rw [(F.lo b).cell]; exact e)]; exact g
theorem Fr.rows (F : Fr h0 h S R A) [LoIn A b cs] {vs : List Value} {l : List Sh} {K : FnL Prop l} (e : cs = vs) (g : ∀ h', blk h' b vs → Eng.ldRow h' b o 0 l K) : Eng.ldRow h b o 0 l K := by
  subst e; exact g h (F.lo b)
theorem Fr.st (F : Fr h0 h S R A) {v} [LoIn A b cs] [u : LoUp A b cs (cs.set o v) A'] {K : H → Prop} (l : o < cs.length) (g : ∀ h', Fr h0 h' S R A' → K h') : Eng.st h b o v K := by
  have x : blk h b cs := F.lo b
  refine st_of x l fun h1 e1 x1 k1 => g h1 (F.up u.u k1 x1 fun d hd => ?_)
  simp only [Eng.lo, List.mem_singleton] at hd ⊢
  subst hd; exact ⟨.inl rfl, x1.lt⟩
theorem Fr.new (F : Fr h0 h S R A) {cs t} {K : Nat → H → Prop} (g : ∀ b h', Fr h0 h' S R (Eng.lo b cs :: A) → K b h') : Eng.new h cs t K := by
  refine new_of fun b h1 eb es x1 k1 => g b h1 (F.add k1 x1 fun d hd => ?_)
  simp only [Eng.lo, List.mem_singleton] at hd
  omega
theorem Fr.stR (F : Fr h0 h S R A) {vs : List Value} [LoIn A b cs] [u : LoUp A b cs vs A'] {K : H → Prop} (l : vs.length = cs.length) (on : vs.all one = true) (g : ∀ h', Fr h0 h' S R A' → K h') : stRow h b 0 0 vs K := by
  have x : blk h b cs := F.lo b
  refine stRow_of vs cs h 0 x (by simpa using on) (by omega) fun h2 cs' e2 x2 l2 i2 _ k2 => ?_
  have : cs' = vs := by
    refine List.ext_getElem? fun q => ?_
    by_cases hq : q < vs.length
    · have := i2 q hq; simpa using this
    · rw [List.getElem?_eq_none (by omega), List.getElem?_eq_none (by omega)]
  subst this
  refine g h2 (F.up u.u k2 x2 fun d hd => ?_)
  simp only [Eng.lo, List.mem_singleton] at hd ⊢
  subst hd; exact ⟨.inl rfl, x2.lt⟩
theorem Fr.newR (F : Fr h0 h S R A) {cs vs t} {K : Nat → H → Prop} (l : vs.length = cs.length) (on : vs.all one = true) (g : ∀ b h', Fr h0 h' S R (Eng.lo b vs :: A) → K b h') : Eng.new h cs t fun b h => stRow h b 0 0 vs (K b) :=
  F.new fun b h1 F1 => F1.stR l on fun h2 F2 => g b h2 F2
end
section
variable {b o n c s q j : Nat} {α : Type} {enc : α → List Value} {xs : List α} {x y : α}
theorem Fr.rI (F : Fr h0 h S R A) [RwIn A b α o n c s enc xs] {k v} {K : Int → Prop} (hx : xs[q]? = some x) (e : (enc x)[j]? = some (.int k v)) (g : K v) : Eng.ldI k h b (o + q * s + j) K := by
  rw [ldI_eq ((F.rw b).cell hx e)]; exact g
theorem Fr.rI0 (F : Fr h0 h S R A) [RwIn A b α o n c s enc xs] {k v} {K : Int → Prop} (hx : xs[q]? = some x) (e : (enc x)[0]? = some (.int k v)) (g : K v) : Eng.ldI k h b (o + q * s) K := F.rI (j := 0) hx e g
theorem Fr.rIR (F : Fr h0 h S R A) [RwIn R b α o n c s enc xs] {k v} {K : Int → Prop} (hx : xs[q]? = some x) (e : (enc x)[j]? = some (.int k v)) (g : K v) : Eng.ldI k h b (o + q * s + j) K := by
  rw [ldI_eq ((F.rwR b).cell hx e)]; exact g
theorem Fr.rIR0 (F : Fr h0 h S R A) [RwIn R b α o n c s enc xs] {k v} {K : Int → Prop} (hx : xs[q]? = some x) (e : (enc x)[0]? = some (.int k v)) (g : K v) : Eng.ldI k h b (o + q * s) K := F.rIR (j := 0) hx e g
theorem Fr.rSt (F : Fr h0 h S R A) [RwIn A b α o n c s enc xs] {v} [u : RwUp A b α o n c s enc xs (ar (some ⟨b, o, none⟩) n c s enc (xs.set q y)) A'] {K : H → Prop} (es : ∀ y, (enc y).length = s) (hx : xs[q]? = some x) (hj : j < s) (hv : enc y = (enc x).set j v)
    (g : ∀ h', Fr h0 h' S R A' → K h') : Eng.st h b (o + q * s + j) v K := by
  have z : Sl h (some ⟨b, o, none⟩) n c s enc xs := F.get u.u.mem
  refine st_rw z.2 es hx hj hv fun h1 e1 r1 k1 => g h1 (F.up u.u k1 (Y := ar (some ⟨b, o, none⟩) n c s enc (xs.set q y)) ⟨by simpa using z.1, r1⟩ fun d hd => ⟨.inl hd, ?_⟩)
  have := Sl.lt z hd; omega
theorem Fr.rStR (F : Fr h0 h S R A) [RwIn A b α o n c s enc xs] [u : RwUp A b α o n c s enc xs (ar (some ⟨b, o, none⟩) n c s enc (xs.set q y)) A'] {K : H → Prop} (es : ∀ y, (enc y).length = s) (on : ∀ v ∈ enc y, one v = true) (hi : q < xs.length)
    (g : ∀ h', Fr h0 h' S R A' → K h') : stRow h b (o + q * s) 0 (enc y) K := by
  have z : Sl h (some ⟨b, o, none⟩) n c s enc xs := F.get u.u.mem
  refine stRow_rw z.2 es on hi fun h1 e1 r1 k1 => g h1 (F.up u.u k1 (Y := ar (some ⟨b, o, none⟩) n c s enc (xs.set q y)) ⟨by simpa using z.1, r1⟩ fun d hd => ⟨.inl hd, ?_⟩)
  have := Sl.lt z hd; omega
end
section
variable {a a' : Option Addr} {n c s n' c' : Nat} {α : Type} {enc : α → List Value} {xs ys : List α}
/-- behind a call: a slice has changed; has moved; is new -/
theorem Fr.upS (F : Fr h0 h S R A) {Y : As} [u : ArUp A a α n c s enc xs (ar a' n' c' s enc ys) A'] (kp : Keep (Eng.own a) h h') (w : ∀ b, b ∈ Eng.own a' → b ∈ Eng.own a ∨ h.size ≤ b) (z : Sl h' a' n' c' s enc ys) : Fr h0 h' S R A' :=
  F.up u.u kp z fun b hb => ⟨w b hb, z.ltO b hb⟩
theorem Fr.addS (F : Fr h0 h S R A) (kp : Keep [] h h') (w : ∀ b, b ∈ Eng.own a' → h.size ≤ b) (z : Sl h' a' n' c' s enc ys) : Fr h0 h' S R (ar a' n' c' s enc ys :: A) :=
  F.add kp z fun b hb => ⟨w b hb, z.ltO b hb⟩
theorem Fr.ownS (z : Sl h a n c s enc xs) : Fr h h (Eng.own a) [] [ar a n c s enc xs] := by
  have := (Fr.start (h := h)).own (X := ar a n c s enc xs) z z.ltO (by simp) (by simp)
  simpa [ar] using this
theorem Fr.roS (F : Fr h h [] R A) (z : Sl h a n c s enc xs) : Fr h h [] (ar a n c s enc xs :: R) A :=
  F.ro (X := ar a n c s enc xs) z fun b hb => ⟨z.ltO b hb, by simp⟩
theorem Fr.fresh (F : Fr h0 h S R A) [i : ArIn A a α n c s enc xs] : ∀ b, b ∈ Eng.own a → b ∈ S ∨ h0.size ≤ b := fun b hb => by
  have := (F.a _ i.m).2 b hb
  rcases Nat.lt_or_ge b h0.size with l | l
  · exact .inl (this.2 l)
  · exact .inr l
theorem Fr.fresh0 (F : Fr h0 h [] R A) [i : ArIn A a α n c s enc xs] : ∀ b, b ∈ Eng.own a → h0.size ≤ b := fun b hb => by
  have := F.fresh b hb; simpa using this
end
end Go.Eng
