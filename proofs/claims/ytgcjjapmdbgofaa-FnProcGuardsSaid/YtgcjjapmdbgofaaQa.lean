import Derived.Test.YtgcjjapmdbgofaaRs2
import Derived.Test.YtgcjjapmdbgofaaG
set_option linter.unusedVariables false
namespace Go.Proofs.Ytgcjjapmdbgofaa
open Go.Eng

structure P where
  id : Int
  parent : Int
  group : Int
  user : Int
  state : Int
  status : Int
  pending : Int
  mask : Int
  ignored : Int
  caught : Int
deriving DecidableEq
def encP (x : P) : List Value := [.int .i64 x.id, .int .i64 x.parent, .int .i64 x.group, .int .i64 x.user, .int .i64 x.state, .int .i64 x.status, .int .i64 x.pending, .int .i64 x.mask, .int .i64 x.ignored, .int .i64 x.caught]
theorem encP_len (x : P) : (encP x).length = 10 := rfl
theorem encP_one (x : P) : ∀ v ∈ encP x, one v = true := by intro v hv; simp [encP] at hv; rcases hv with h|h|h|h|h|h|h|h|h|h <;> subst h <;> rfl
abbrev SlP (h : H) (a : Option Addr) (n c : Nat) (xs : List P) := Sl h a n c 10 encP xs
theorem encP_row {h : H} {b o : Nat} {x : P} (e : ∀ j v, (encP x)[j]? = some v → Go.Eng.cell h b (o + j) = some v) (K : Int → Int → Int → Int → Int → Int → Int → Int → Int → Int → Prop) :
    ldRow h b o 0 [.int .i64, .int .i64, .int .i64, .int .i64, .int .i64, .int .i64, .int .i64, .int .i64, .int .i64, .int .i64] K = K x.id x.parent x.group x.user x.state x.status x.pending x.mask x.ignored x.caught := by
  have e0 := e 0 _ rfl
  have e1 := e 1 _ rfl
  have e2 := e 2 _ rfl
  have e3 := e 3 _ rfl
  have e4 := e 4 _ rfl
  have e5 := e 5 _ rfl
  have e6 := e 6 _ rfl
  have e7 := e 7 _ rfl
  have e8 := e 8 _ rfl
  have e9 := e 9 _ rfl
  rw [Nat.add_zero] at e0
  simp only [ldRow, ldF, e0, e1, e2, e3, e4, e5, e6, e7, e8, e9, opt, elF, mapF, if_true, Nat.zero_add, Nat.add_zero, Nat.reduceAdd]
theorem RwP_row {h : H} {b o c i : Nat} {xs : List P} {x : P} (r : Rw h b o c 10 encP xs) (hx : xs[i]? = some x) (K : Int → Int → Int → Int → Int → Int → Int → Int → Int → Int → Prop) : ldRow h b (o + i * 10) 0 [.int .i64, .int .i64, .int .i64, .int .i64, .int .i64, .int .i64, .int .i64, .int .i64, .int .i64, .int .i64] K = K x.id x.parent x.group x.user x.state x.status x.pending x.mask x.ignored x.caught :=
  encP_row (fun j v hv => r.cell hx hv) K
theorem SlP.row {h : H} {a : Option Addr} {n c i q : Nat} {xs : List P} {x : P} (hs : SlP h a n c xs) (hx : xs[i]? = some x) {K : Int → Int → Int → Int → Int → Int → Int → Int → Int → Int → Prop} (g : K x.id x.parent x.group x.user x.state x.status x.pending x.mask x.ignored x.caught) (hq : q = i := by rfl) :
    Eng.nz a fun b o => ldRow h b (o + q * 10) 0 [.int .i64, .int .i64, .int .i64, .int .i64, .int .i64, .int .i64, .int .i64, .int .i64, .int .i64, .int .i64] K := by
  subst hq; exact hs.nz (get_lt hx) fun b o r ea => by rw [RwP_row r hx]; exact g
theorem SlP.gRow {h : H} {a : Option Addr} {n c i : Nat} {z : Int} {xs : List P} {x : P} (hs : SlP h a n c xs) (hx : xs[i]? = some x) {K : Int → Int → Int → Int → Int → Int → Int → Int → Int → Int → Prop} (g : K x.id x.parent x.group x.user x.state x.status x.pending x.mask x.ignored x.caught) (hz : z = (i : Int) := by rfl) :
    Eng.req (0 ≤ z ∧ z < (n : Nat)) (Eng.nz a fun b o => ldRow h b (o + z.toNat * 10) 0 [.int .i64, .int .i64, .int .i64, .int .i64, .int .i64, .int .i64, .int .i64, .int .i64, .int .i64, .int .i64] K) := Sl.req hs hx hz (SlP.row hs hx g (by omega))
theorem RdP.gRow {h : H} {a : Option Addr} {n i : Nat} {z : Int} {xs : List P} {x : P} (hs : SlR h a n 10 encP xs) (hx : xs[i]? = some x) {K : Int → Int → Int → Int → Int → Int → Int → Int → Int → Int → Prop} (g : K x.id x.parent x.group x.user x.state x.status x.pending x.mask x.ignored x.caught) (hz : z = (i : Int) := by rfl) :
    Eng.req (0 ≤ z ∧ z < (n : Nat)) (Eng.nz a fun b o => ldRow h b (o + z.toNat * 10) 0 [.int .i64, .int .i64, .int .i64, .int .i64, .int .i64, .int .i64, .int .i64, .int .i64, .int .i64, .int .i64] K) := hs.req (K := fun b o => ldRow h b o 0 [.int .i64, .int .i64, .int .i64, .int .i64, .int .i64, .int .i64, .int .i64, .int .i64, .int .i64, .int .i64] K) hx hz fun b o e => by rw [encP_row e]; exact g
variable {h h' : H} {b o c n i j p : Nat} {a : Option Addr} {xs : List P} {x : P} {K : Value → H → Prop} {s k : Int}
/-! places by their numbers -/
def getP (xs : List P) (id : Int) : Option P := xs.find? fun y => y.id == id
theorem getP_none {id : Int} : getP xs id = none ↔ ∀ x ∈ xs, x.id ≠ id := by simp [getP]
/-- the first one of that number -/
def At1 (xs : List P) (id : Int) (i : Nat) (x : P) : Prop := xs[i]? = some x ∧ x.id = id ∧ ∀ k z, k < i → xs[k]? = some z → z.id ≠ id
theorem At1.get {id : Int} (t : At1 xs id i x) : getP xs id = some x := by
  obtain ⟨hy, e, no⟩ := t
  rw [getP, List.find?_eq_some_iff_getElem]
  have hi := (List.getElem?_eq_some_iff.mp hy)
  refine ⟨by simp [e], i, hi.1, hi.2, fun k hk => ?_⟩
  have hl := hi.1
  have := no k (xs[k]'(by omega)) hk (List.getElem?_eq_getElem _)
  simpa using this
def posP (xs : List P) (id : Int) : Int := match xs.findIdx? (fun y => y.id == id) with | some i => i | none => -1
theorem posP_none {id : Int} (f : ∀ x ∈ xs, x.id ≠ id) : posP xs id = -1 := by
  rw [posP, List.findIdx?_eq_none_iff.mpr (by intro y hy; simpa using f y hy)]
theorem At1.pos {id : Int} (t : At1 xs id i x) : posP xs id = i := by
  obtain ⟨hy, e, no⟩ := t
  have hi := List.getElem?_eq_some_iff.mp hy
  have : xs.findIdx? (fun y => y.id == id) = some i := by
    rw [List.findIdx?_eq_some_iff_getElem]
    refine ⟨hi.1, by rw [hi.2]; simp [e], fun k hk => ?_⟩
    have := no k (xs[k]'(by have := hi.1; omega)) hk (List.getElem?_eq_getElem _)
    simpa using this
  rw [posP, this]
theorem at_cases (xs : List P) (id : Int) : (∀ x ∈ xs, x.id ≠ id) ∨ ∃ (i : Nat) (y : P), At1 xs id i y := by
  cases e : xs.findIdx? (fun y => y.id == id) with
  | none => exact .inl fun y hy => by simpa using List.findIdx?_eq_none_iff.mp e y hy
  | some i =>
    rw [List.findIdx?_eq_some_iff_getElem] at e
    obtain ⟨hl, t, no⟩ := e
    refine .inr ⟨i, xs[i], List.getElem?_eq_getElem _, by simpa using t, fun k z hk hz => ?_⟩
    have := no k hk
    rw [(List.getElem?_eq_some_iff.mp hz).2] at this
    simpa using this
theorem find_loop {id : Int} {kx : H → Prop} {kr : Int → H → Prop} (hs : SlP h a n c xs)
    (k1 : (∀ x ∈ xs, x.id ≠ id) → kx h) (k2 : ∀ (i : Nat) x, At1 xs id i x → kr i h) :
    ∀ m i : Nat, i + m = n → (∀ k x, k < i → xs[k]? = some x → x.id ≠ id) → spec_l16Find_M_l0 kx kr (m + 1) id i a n h := by
  have hl := hs.le
  intro m
  induction m with
  | zero =>
    intro i e no
    rw [spec_l16Find_M_l0]
    refine ifD_f (by omega) (k1 fun x hx => ?_)
    obtain ⟨k, hk, e⟩ := List.getElem_of_mem hx
    exact no k x (by omega) (by rw [List.getElem?_eq_getElem hk, e])
  | succ m ih =>
    intro i e no
    obtain ⟨x, hx⟩ : ∃ x, xs[i]? = some x := ⟨_, List.getElem?_eq_getElem (by omega)⟩
    rw [spec_l16Find_M_l0]
    refine ifD_t (by omega) (hs.gI0 hx (ifB_eqI (fun f => k2 i x ⟨hx, f, no⟩) fun f => ?_))
    rw [wrap_suc (by omega)]
    refine ih (i + 1) (by omega) (fun k y hk hy => ?_)
    by_cases g : k = i
    · subst g; rw [hx] at hy; injection hy with hy; subst hy; exact f
    · exact no k y (by omega) hy
theorem find_spec {id : Int} (hs : SlP h a n c xs) (k : K (.int .i64 (posP xs id)) h) :
    callD Try.prog 25 ⟨[.agg ⟨[.slice a n c]⟩, .int .i64 id]⟩ h K := by
  refine spec_l16Find_M_call ⟨n + 1, find_loop hs (fun f => ?_) (fun i x t => ?_) n 0 (by omega) (by intros; omega)⟩
  · rw [← posP_none f]; exact k
  · rw [← t.pos]; exact k
theorem at_loop {id : Int} {kx : H → Prop} {kr : Nat → Nat → H → Prop} (hp : blk h p [.slice a n c]) (hs : SlP h a n c xs)
    (k1 : (∀ x ∈ xs, x.id ≠ id) → kx h) (k2 : ∀ (i b o : Nat) x, At1 xs id i x → a = some ⟨b, o, none⟩ → kr b (o + i * 10) h) :
    ∀ m i : Nat, i + m = n → (∀ k x, k < i → xs[k]? = some x → x.id ≠ id) → impl_Procs_at_M_l0 kx kr (m + 1) (some ⟨p, 0, none⟩) id n i h := by
  have hl := hs.le
  intro m
  induction m with
  | zero =>
    intro i e no
    rw [impl_Procs_at_M_l0]
    refine ifD_f (by omega) (k1 fun x hx => ?_)
    obtain ⟨k, hk, e⟩ := List.getElem_of_mem hx
    exact no k x (by omega) (by rw [List.getElem?_eq_getElem hk, e])
  | succ m ih =>
    intro i e no
    obtain ⟨x, hx⟩ : ∃ x, xs[i]? = some x := ⟨_, List.getElem?_eq_getElem (by omega)⟩
    rw [impl_Procs_at_M_l0]
    refine ifD_t (by omega) ?_
    rw [nz_some, ldL_eq (hp.cell 0)]
    refine hs.gI0 hx (ifB_eqI (fun f => ?_) fun f => ?_)
    · rw [nz_some, ldL_eq (hp.cell 0)]
      exact hs.req hx rfl (hs.nz (get_lt hx) fun b o r ea => k2 i b o x ⟨hx, f, no⟩ ea)
    rw [wrap_suc (by omega)]
    refine ih (i + 1) (by omega) (fun k y hk hy => ?_)
    by_cases g : k = i
    · subst g; rw [hx] at hy; injection hy with hy; subst hy; exact f
    · exact no k y (by omega) hy
theorem at_spec {id : Int} (hp : blk h p [.slice a n c]) (hs : SlP h a n c xs)
    (k1 : (∀ x ∈ xs, x.id ≠ id) → K (.pointer none) h) (k2 : ∀ (i b o : Nat) x, At1 xs id i x → a = some ⟨b, o, none⟩ → K (.pointer (some ⟨b, o + i * 10, none⟩)) h) :
    callD Try.prog 19 ⟨[.pointer (some ⟨p, 0, none⟩), .int .i64 id]⟩ h K := by
  refine impl_Procs_at_M_call ?_
  rw [impl_Procs_at_M, nz_some, ldL_eq (hp.cell 0)]
  exact ⟨n + 1, at_loop hp hs k1 k2 n 0 (by omega) (by intros; omega)⟩
def lives (xs : List P) (id : Int) : Bool := match getP xs id with | some y => y.state != 3 | none => false
theorem lives_spec {id : Int} (hs : SlP h a n c xs) (k : K (.bool (lives xs id)) h) :
    callD Try.prog 24 ⟨[.agg ⟨[.slice a n c]⟩, .int .i64 id]⟩ h K := by
  refine spec_l16Lives_M_call (find_spec hs (asI_of ?_))
  rcases at_cases xs id with f | ⟨i, y, t⟩
  · rw [posP_none f]
    have : lives xs id = false := by simp [lives, getP_none.mpr f]
    exact ifD_f (by omega) (this ▸ k)
  · have : lives xs id = (y.state != 3) := by simp [lives, t.get]
    rw [t.pos]
    exact ifD_t (by omega) (hs.gI t.1 (this ▸ k))
end Go.Proofs.Ytgcjjapmdbgofaa
