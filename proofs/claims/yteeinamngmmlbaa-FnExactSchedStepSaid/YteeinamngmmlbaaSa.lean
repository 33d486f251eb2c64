import Derived.Test.YteeinamngmmlbaaRs2
import Derived.Test.YteeinamngmmlbaaG
set_option linter.unusedVariables false
namespace Go.Proofs.Yteeinamngmmlbaa
open Go.Eng

structure T where
  id : Int
  base : Int
  state : Int
  line : Int
  left : Int
  since : Int
  till : Int
  wait : Int
deriving DecidableEq
def encT (x : T) : List Value := [.int .i64 x.id, .int .i64 x.base, .int .i64 x.state, .int .i64 x.line, .int .i64 x.left, .int .i64 x.since, .int .i64 x.till, .int .i64 x.wait]
theorem encT_len (x : T) : (encT x).length = 8 := rfl
theorem encT_one (x : T) : ∀ v ∈ encT x, one v = true := by intro v hv; simp [encT] at hv; rcases hv with h|h|h|h|h|h|h|h <;> subst h <;> rfl
abbrev SlT (h : H) (a : Option Addr) (n c : Nat) (xs : List T) := Sl h a n c 8 encT xs
theorem encT_row {h : H} {b o : Nat} {x : T} (e : ∀ j v, (encT x)[j]? = some v → Go.Eng.cell h b (o + j) = some v) (K : Int → Int → Int → Int → Int → Int → Int → Int → Prop) :
    ldRow h b o 0 [.int .i64, .int .i64, .int .i64, .int .i64, .int .i64, .int .i64, .int .i64, .int .i64] K = K x.id x.base x.state x.line x.left x.since x.till x.wait := by
  have e0 := e 0 _ rfl
  have e1 := e 1 _ rfl
  have e2 := e 2 _ rfl
  have e3 := e 3 _ rfl
  have e4 := e 4 _ rfl
  have e5 := e 5 _ rfl
  have e6 := e 6 _ rfl
  have e7 := e 7 _ rfl
  rw [Nat.add_zero] at e0
  simp only [ldRow, ldF, e0, e1, e2, e3, e4, e5, e6, e7, opt, elF, mapF, if_true, Nat.zero_add, Nat.add_zero, Nat.reduceAdd]
theorem RwT_row {h : H} {b o c i : Nat} {xs : List T} {x : T} (r : Rw h b o c 8 encT xs) (hx : xs[i]? = some x) (K : Int → Int → Int → Int → Int → Int → Int → Int → Prop) : ldRow h b (o + i * 8) 0 [.int .i64, .int .i64, .int .i64, .int .i64, .int .i64, .int .i64, .int .i64, .int .i64] K = K x.id x.base x.state x.line x.left x.since x.till x.wait :=
  encT_row (fun j v hv => r.cell hx hv) K
theorem SlT.row {h : H} {a : Option Addr} {n c i q : Nat} {xs : List T} {x : T} (hs : SlT h a n c xs) (hx : xs[i]? = some x) {K : Int → Int → Int → Int → Int → Int → Int → Int → Prop} (g : K x.id x.base x.state x.line x.left x.since x.till x.wait) (hq : q = i := by rfl) :
    Eng.nz a fun b o => ldRow h b (o + q * 8) 0 [.int .i64, .int .i64, .int .i64, .int .i64, .int .i64, .int .i64, .int .i64, .int .i64] K := by
  subst hq; exact hs.nz (get_lt hx) fun b o r ea => by rw [RwT_row r hx]; exact g
theorem SlT.gRow {h : H} {a : Option Addr} {n c i : Nat} {z : Int} {xs : List T} {x : T} (hs : SlT h a n c xs) (hx : xs[i]? = some x) {K : Int → Int → Int → Int → Int → Int → Int → Int → Prop} (g : K x.id x.base x.state x.line x.left x.since x.till x.wait) (hz : z = (i : Int) := by rfl) :
    Eng.req (0 ≤ z ∧ z < (n : Nat)) (Eng.nz a fun b o => ldRow h b (o + z.toNat * 8) 0 [.int .i64, .int .i64, .int .i64, .int .i64, .int .i64, .int .i64, .int .i64, .int .i64] K) := Sl.req hs hx hz (SlT.row hs hx g (by omega))
theorem RdT.gRow {h : H} {a : Option Addr} {n i : Nat} {z : Int} {xs : List T} {x : T} (hs : SlR h a n 8 encT xs) (hx : xs[i]? = some x) {K : Int → Int → Int → Int → Int → Int → Int → Int → Prop} (g : K x.id x.base x.state x.line x.left x.since x.till x.wait) (hz : z = (i : Int) := by rfl) :
    Eng.req (0 ≤ z ∧ z < (n : Nat)) (Eng.nz a fun b o => ldRow h b (o + z.toNat * 8) 0 [.int .i64, .int .i64, .int .i64, .int .i64, .int .i64, .int .i64, .int .i64, .int .i64] K) := hs.req (K := fun b o => ldRow h b o 0 [.int .i64, .int .i64, .int .i64, .int .i64, .int .i64, .int .i64, .int .i64, .int .i64] K) hx hz fun b o e => by rw [encT_row e]; exact g
structure L where
  id : Int
  owner : Int
deriving DecidableEq
def encL (x : L) : List Value := [.int .i64 x.id, .int .i64 x.owner]
theorem encL_len (x : L) : (encL x).length = 2 := rfl
theorem encL_one (x : L) : ∀ v ∈ encL x, one v = true := by intro v hv; simp [encL] at hv; rcases hv with h|h <;> subst h <;> rfl
abbrev SlL (h : H) (a : Option Addr) (n c : Nat) (xs : List L) := Sl h a n c 2 encL xs
theorem encL_row {h : H} {b o : Nat} {x : L} (e : ∀ j v, (encL x)[j]? = some v → Go.Eng.cell h b (o + j) = some v) (K : Int → Int → Prop) :
    ldRow h b o 0 [.int .i64, .int .i64] K = K x.id x.owner := by
  have e0 := e 0 _ rfl
  have e1 := e 1 _ rfl
  rw [Nat.add_zero] at e0
  simp only [ldRow, ldF, e0, e1, opt, elF, mapF, if_true, Nat.zero_add, Nat.add_zero, Nat.reduceAdd]
theorem RwL_row {h : H} {b o c i : Nat} {xs : List L} {x : L} (r : Rw h b o c 2 encL xs) (hx : xs[i]? = some x) (K : Int → Int → Prop) : ldRow h b (o + i * 2) 0 [.int .i64, .int .i64] K = K x.id x.owner :=
  encL_row (fun j v hv => r.cell hx hv) K
theorem SlL.row {h : H} {a : Option Addr} {n c i q : Nat} {xs : List L} {x : L} (hs : SlL h a n c xs) (hx : xs[i]? = some x) {K : Int → Int → Prop} (g : K x.id x.owner) (hq : q = i := by rfl) :
    Eng.nz a fun b o => ldRow h b (o + q * 2) 0 [.int .i64, .int .i64] K := by
  subst hq; exact hs.nz (get_lt hx) fun b o r ea => by rw [RwL_row r hx]; exact g
theorem SlL.gRow {h : H} {a : Option Addr} {n c i : Nat} {z : Int} {xs : List L} {x : L} (hs : SlL h a n c xs) (hx : xs[i]? = some x) {K : Int → Int → Prop} (g : K x.id x.owner) (hz : z = (i : Int) := by rfl) :
    Eng.req (0 ≤ z ∧ z < (n : Nat)) (Eng.nz a fun b o => ldRow h b (o + z.toNat * 2) 0 [.int .i64, .int .i64] K) := Sl.req hs hx hz (SlL.row hs hx g (by omega))
theorem RdL.gRow {h : H} {a : Option Addr} {n i : Nat} {z : Int} {xs : List L} {x : L} (hs : SlR h a n 2 encL xs) (hx : xs[i]? = some x) {K : Int → Int → Prop} (g : K x.id x.owner) (hz : z = (i : Int) := by rfl) :
    Eng.req (0 ≤ z ∧ z < (n : Nat)) (Eng.nz a fun b o => ldRow h b (o + z.toNat * 2) 0 [.int .i64, .int .i64] K) := hs.req (K := fun b o => ldRow h b o 0 [.int .i64, .int .i64] K) hx hz fun b o e => by rw [encL_row e]; exact g
/-- the state of the scheduler -/
structure S where
  now : Int
  seq : Int
  ths : List T
  lks : List L
/-- as the reference holds it: by its parts -/
structure Ss (h : H) (now seq : Int) (a : Option Addr) (n c : Nat) (b : Option Addr) (m d : Nat) (s : S) : Prop where
  en : now = s.now
  es : seq = s.seq
  t : SlT h a n c s.ths
  l : SlL h b m d s.lks
  ap : ∀ x ∈ own a, x ∉ own b
abbrev val (now seq : Int) (a : Option Addr) (n c : Nat) (b : Option Addr) (m d : Nat) : Value := .agg ⟨[.int .i64 now, .int .i64 seq, .slice a n c, .slice b m d]⟩
/-- as the program holds it: in a block of its own -/
structure Mp (h : H) (p : Nat) (a : Option Addr) (n c : Nat) (b : Option Addr) (m d : Nat) (s : S) : Prop where
  hp : blk h p [.int .i64 s.now, .int .i64 s.seq, .slice a n c, .slice b m d]
  t : SlT h a n c s.ths
  l : SlL h b m d s.lks
  ap : ∀ x ∈ own a, x ∉ own b
  pa : p ∉ own a
  pb : p ∉ own b
variable {h h' : H} {now seq : Int} {a b : Option Addr} {n c m d p : Nat} {s : S} {K : Value → H → Prop} {id k on : Int} {i : Nat} {t : T} {l : L}

/-! places by their numbers -/
def getT (xs : List T) (id : Int) : Option T := xs.find? fun y => y.id == id
def getL (xs : List L) (id : Int) : Option L := xs.find? fun y => y.id == id
def AtT (xs : List T) (id : Int) (i : Nat) (x : T) : Prop := xs[i]? = some x ∧ x.id = id ∧ ∀ k z, k < i → xs[k]? = some z → z.id ≠ id
def AtL (xs : List L) (id : Int) (i : Nat) (x : L) : Prop := xs[i]? = some x ∧ x.id = id ∧ ∀ k z, k < i → xs[k]? = some z → z.id ≠ id
def posT (xs : List T) (id : Int) : Int := match xs.findIdx? (fun y => y.id == id) with | some i => i | none => -1
def posL (xs : List L) (id : Int) : Int := match xs.findIdx? (fun y => y.id == id) with | some i => i | none => -1
theorem getT_none {xs : List T} {id : Int} : getT xs id = none ↔ ∀ x ∈ xs, x.id ≠ id := by simp [getT]
theorem AtT.get {xs : List T} {x : T} {i : Nat} {id : Int} (t : AtT xs id i x) : getT xs id = some x := by
  obtain ⟨hy, e, no⟩ := t
  rw [getT, List.find?_eq_some_iff_getElem]
  have hi := (List.getElem?_eq_some_iff.mp hy)
  refine ⟨by simp [e], i, hi.1, hi.2, fun k hk => ?_⟩
  have hl := hi.1
  have := no k (xs[k]'(by omega)) hk (List.getElem?_eq_getElem _)
  simpa using this
theorem posT_none {xs : List T} {id : Int} (f : ∀ x ∈ xs, x.id ≠ id) : posT xs id = -1 := by
  rw [posT, List.findIdx?_eq_none_iff.mpr (by intro y hy; simpa using f y hy)]
theorem AtT.pos {xs : List T} {x : T} {i : Nat} {id : Int} (t : AtT xs id i x) : posT xs id = i := by
  obtain ⟨hy, e, no⟩ := t
  have hi := List.getElem?_eq_some_iff.mp hy
  have : xs.findIdx? (fun y => y.id == id) = some i := by
    rw [List.findIdx?_eq_some_iff_getElem]
    refine ⟨hi.1, by rw [hi.2]; simp [e], fun k hk => ?_⟩
    have := no k (xs[k]'(by have := hi.1; omega)) hk (List.getElem?_eq_getElem _)
    simpa using this
  rw [posT, this]
theorem atT_cases (xs : List T) (id : Int) : (∀ x ∈ xs, x.id ≠ id) ∨ ∃ (i : Nat) (y : T), AtT xs id i y := by
  cases e : xs.findIdx? (fun y => y.id == id) with
  | none => exact .inl fun y hy => by simpa using List.findIdx?_eq_none_iff.mp e y hy
  | some i =>
    rw [List.findIdx?_eq_some_iff_getElem] at e
    obtain ⟨hl, t, no⟩ := e
    refine .inr ⟨i, xs[i], List.getElem?_eq_getElem _, by simpa using t, fun k z hk hz => ?_⟩
    have := no k hk
    rw [(List.getElem?_eq_some_iff.mp hz).2] at this
    simpa using this
theorem getL_none {xs : List L} {id : Int} : getL xs id = none ↔ ∀ x ∈ xs, x.id ≠ id := by simp [getL]
theorem AtL.get {xs : List L} {x : L} {i : Nat} {id : Int} (t : AtL xs id i x) : getL xs id = some x := by
  obtain ⟨hy, e, no⟩ := t
  rw [getL, List.find?_eq_some_iff_getElem]
  have hi := (List.getElem?_eq_some_iff.mp hy)
  refine ⟨by simp [e], i, hi.1, hi.2, fun k hk => ?_⟩
  have hl := hi.1
  have := no k (xs[k]'(by omega)) hk (List.getElem?_eq_getElem _)
  simpa using this
theorem posL_none {xs : List L} {id : Int} (f : ∀ x ∈ xs, x.id ≠ id) : posL xs id = -1 := by
  rw [posL, List.findIdx?_eq_none_iff.mpr (by intro y hy; simpa using f y hy)]
theorem AtL.pos {xs : List L} {x : L} {i : Nat} {id : Int} (t : AtL xs id i x) : posL xs id = i := by
  obtain ⟨hy, e, no⟩ := t
  have hi := List.getElem?_eq_some_iff.mp hy
  have : xs.findIdx? (fun y => y.id == id) = some i := by
    rw [List.findIdx?_eq_some_iff_getElem]
    refine ⟨hi.1, by rw [hi.2]; simp [e], fun k hk => ?_⟩
    have := no k (xs[k]'(by have := hi.1; omega)) hk (List.getElem?_eq_getElem _)
    simpa using this
  rw [posL, this]
theorem atL_cases (xs : List L) (id : Int) : (∀ x ∈ xs, x.id ≠ id) ∨ ∃ (i : Nat) (y : L), AtL xs id i y := by
  cases e : xs.findIdx? (fun y => y.id == id) with
  | none => exact .inl fun y hy => by simpa using List.findIdx?_eq_none_iff.mp e y hy
  | some i =>
    rw [List.findIdx?_eq_some_iff_getElem] at e
    obtain ⟨hl, t, no⟩ := e
    refine .inr ⟨i, xs[i], List.getElem?_eq_getElem _, by simpa using t, fun k z hk hz => ?_⟩
    have := no k hk
    rw [(List.getElem?_eq_some_iff.mp hz).2] at this
    simpa using this
theorem thread_loop {kx : H → Prop} {kr : Int → H → Prop} {xs : List T} (hs : SlT h a n c xs) (k1 : (∀ x ∈ xs, x.id ≠ id) → kx h) (k2 : ∀ (i : Nat) x, AtT xs id i x → kr i h) :
    ∀ m i : Nat, i + m = n → (∀ k x, k < i → xs[k]? = some x → x.id ≠ id) → spec_l11Thread_M_l0 kx kr (m + 1) id i a n h := by
  have hl := hs.le
  intro m
  induction m with
  | zero =>
    intro i e no
    rw [spec_l11Thread_M_l0]
    refine ifD_f (by omega) (k1 fun x hx => ?_)
    obtain ⟨k, hk, e⟩ := List.getElem_of_mem hx
    exact no k x (by omega) (by rw [List.getElem?_eq_getElem hk, e])
  | succ m ih =>
    intro i e no
    obtain ⟨x, hx⟩ : ∃ x, xs[i]? = some x := ⟨_, List.getElem?_eq_getElem (by omega)⟩
    rw [spec_l11Thread_M_l0]
    refine ifD_t (by omega) (hs.gI0 hx (ifB_eqI (fun f => k2 i x ⟨hx, f, no⟩) fun f => ?_))
    rw [wrap_suc (by omega)]
    refine ih (i + 1) (by omega) (fun k y hk hy => ?_)
    by_cases g : k = i
    · subst g; rw [hx] at hy; injection hy with hy; subst hy; exact f
    · exact no k y (by omega) hy
theorem lock_loop {kx : H → Prop} {kr : Int → H → Prop} {xs : List L} (hs : SlL h a n c xs) (k1 : (∀ x ∈ xs, x.id ≠ id) → kx h) (k2 : ∀ (i : Nat) x, AtL xs id i x → kr i h) :
    ∀ m i : Nat, i + m = n → (∀ k x, k < i → xs[k]? = some x → x.id ≠ id) → spec_l11Lock_M_l0 kx kr (m + 1) id i a n h := by
  have hl := hs.le
  intro m
  induction m with
  | zero =>
    intro i e no
    rw [spec_l11Lock_M_l0]
    refine ifD_f (by omega) (k1 fun x hx => ?_)
    obtain ⟨k, hk, e⟩ := List.getElem_of_mem hx
    exact no k x (by omega) (by rw [List.getElem?_eq_getElem hk, e])
  | succ m ih =>
    intro i e no
    obtain ⟨x, hx⟩ : ∃ x, xs[i]? = some x := ⟨_, List.getElem?_eq_getElem (by omega)⟩
    rw [spec_l11Lock_M_l0]
    refine ifD_t (by omega) (hs.gI0 hx (ifB_eqI (fun f => k2 i x ⟨hx, f, no⟩) fun f => ?_))
    rw [wrap_suc (by omega)]
    refine ih (i + 1) (by omega) (fun k y hk hy => ?_)
    by_cases g : k = i
    · subst g; rw [hx] at hy; injection hy with hy; subst hy; exact f
    · exact no k y (by omega) hy
theorem thread_spec (hs : SlT h a n c s.ths) (z : K (.int .i64 (posT s.ths id)) h) : callD Try.prog 29 ⟨[val now seq a n c b m d, .int .i64 id]⟩ h K := by
  refine spec_l11Thread_M_call ⟨n + 1, thread_loop hs (fun f => ?_) (fun i x t => ?_) n 0 (by omega) (by intros; omega)⟩
  · rw [← posT_none f]; exact z
  · rw [← t.pos]; exact z
theorem lock_spec (hs : SlL h b m d s.lks) (z : K (.int .i64 (posL s.lks id)) h) : callD Try.prog 48 ⟨[val now seq a n c b m d, .int .i64 id]⟩ h K := by
  refine spec_l11Lock_M_call ⟨m + 1, lock_loop hs (fun f => ?_) (fun i x t => ?_) m 0 (by omega) (by intros; omega)⟩
  · rw [← posL_none f]; exact z
  · rw [← t.pos]; exact z
/-! who has the lock that a thread waits for -/
def nxt (s : S) (id : Int) : Int := match getT s.ths id with
  | none => -1
  | some t => if t.state ≠ 2 then -1 else match getL s.lks t.wait with
    | none => -1
    | some l => l.owner
def waits (s : S) : Nat → Int → Int → Bool
  | 0, _, _ => false
  | m + 1, x, on => if x < 0 then false else if x = on then true else waits s m (nxt s x) on
theorem next_spec (r : Ss h now seq a n c b m d s) (z : K (.int .i64 (nxt s id)) h) : callD Try.prog 49 ⟨[val now seq a n c b m d, .int .i64 id]⟩ h K := by
  refine spec_l11Next_M_call ?_
  rw [spec_l11Next_M]
  refine thread_spec r.t (asI_of ?_)
  rcases atT_cases s.ths id with f | ⟨i, x, t⟩
  · rw [posT_none f]
    refine ifD_t (by omega) ?_
    have e : nxt s id = -1 := by rw [nxt, getT_none.mpr f]
    rw [e] at z; exact z
  · rw [t.pos]
    have e0 : nxt s id = if x.state ≠ 2 then -1 else match getL s.lks x.wait with | none => -1 | some l => l.owner := by rw [nxt, t.get]
    refine ifD_f (by omega) (r.t.gI t.1 (ifB_neI (fun f => ?_) fun f => ?_))
    · rw [e0, if_pos f] at z; exact z
    rw [if_neg (by omega)] at e0
    refine r.t.gI t.1 (lock_spec r.l (asI_of ?_))
    rcases atL_cases s.lks x.wait with g | ⟨j, y, u⟩
    · rw [posL_none g]
      refine ifD_t (by omega) ?_
      rw [e0, getL_none.mpr g] at z; exact z
    · rw [u.pos]
      refine ifD_f (by omega) (r.l.gI u.1 ?_)
      rw [e0, u.get] at z; exact z
theorem waits_loop' {kx : H → Prop} {kr : Bool → H → Prop} (r : Ss h now seq a n c b m d s) :
    ∀ (t i : Nat) (x : Int), i + t = n + 1 → (waits s t x on = false → kx h) → (waits s t x on = true → kr true h) → spec_l11Waits_M_l0 kx kr (t + 1) on x i now seq a n c b m d h := by
  have hl := r.t.le
  intro t
  induction t with
  | zero =>
    intro i x e kx' kr'
    rw [spec_l11Waits_M_l0]
    exact ifD_f (by omega) (kx' rfl)
  | succ t ih =>
    intro i x e kx' kr'
    rw [waits] at kx' kr'
    rw [spec_l11Waits_M_l0]
    refine ifD_t (by omega) (ifB_dec (fun f => ?_) fun f => kx' (by rw [if_pos (by omega)]))
    rw [if_neg (by omega)] at kx' kr'
    refine ifB_eqI (fun g => kr' (by rw [if_pos g])) fun g => ?_
    rw [if_neg g] at kx' kr'
    refine next_spec r (asI_of ?_)
    rw [wrap_suc (by omega)]
    exact ih (i + 1) _ (by omega) kx' kr'
theorem waits_spec (r : Ss h now seq a n c b m d s) (z : K (.bool (waits s (s.ths.length + 1) (nxt s id) on)) h) : callD Try.prog 31 ⟨[val now seq a n c b m d, .int .i64 id, .int .i64 on]⟩ h K := by
  refine spec_l11Waits_M_call ?_
  rw [spec_l11Waits_M]
  refine next_spec r (asI_of ⟨n + 1 + 1, waits_loop' r (n + 1) 0 _ (by omega) (fun e => ?_) fun e => ?_⟩)
  · rw [← r.t.le.1, e] at z; exact z
  · rw [← r.t.le.1, e] at z; exact z
end Go.Proofs.Yteeinamngmmlbaa
