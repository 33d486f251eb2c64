import Derived.Test.YtgcjjapmdbgofaaDr
import Derived.Test.YtgcjjapmdbgofaaQu
set_option linter.unusedVariables false
namespace Go.Proofs.Ytgcjjapmdbgofaa
open Go.Eng
variable {h h0 h' : H} {q n pn pc : Nat} {a pa : Option Addr} {bs : List Int} {xs : List P} {x : P} {K : Value → H → Prop} {i : Nat}
theorem lits {vs : List Int} (f : vs.all (fun v => decide (-4611686018427387904 ≤ v ∧ v ≤ 4611686018427387904)) = true) : ∀ v ∈ vs, In64 v := fun v hv => by
  have := List.all_eq_true.mp f v hv
  simp only [decide_eq_true_eq] at this
  unfold In64; omega
theorem sig_spec (d : Run h0 h q a n bs) (k : ∀ v h', In64 v → Run h0 h' q a n bs → K (.int .i64 v) h') : callD Try.prog 39 ⟨[.pointer (some ⟨q, 0, none⟩)]⟩ h K := by
  refine spec_l16DrawSig_M_call ?_
  rw [spec_l16DrawSig_M]
  refine d.pick [9, 12, 13, 14, 1, 2, 15, 3] fun v h1 hv d1 => ?_
  refine d1.once fun t h2 d2 => asB_of (ifB_b (fun _ => ?_) fun _ => k v h2 (lits (by decide) v hv) d2)
  exact d2.pick [0, -1, 16] fun v h3 hv d3 => k v h3 (lits (by decide) v hv) d3
theorem set_draw (d : Run h0 h q a n bs) (k : ∀ v h', In64 v → Run h0 h' q a n bs → K (.int .i64 v) h') : callD Try.prog 41 ⟨[.pointer (some ⟨q, 0, none⟩)]⟩ h K := by
  refine spec_l16DrawSet_M_call ?_
  have j1 (v : Int) (h1 : H) (d : Run h0 h1 q a n bs) (hv : In64 v) : spec_l16DrawSet_M_j1 (fun n h => K (.int .i64 n) h) (some ⟨q, 0, none⟩) v h1 := by
    rw [spec_l16DrawSet_M_j1]
    refine d.once fun t h2 d2 => asB_of (ifB_b (fun _ => ?_) fun _ => k v h2 hv d2)
    exact d2.pick [-2, 65536, 0, 4611686018427387904] fun v h3 hv d3 => k v h3 (lits (by decide) v hv) d3
  have j0 (v : Int) (h1 : H) (d : Run h0 h1 q a n bs) (hv : In64 v) : spec_l16DrawSet_M_j0 (fun n h => K (.int .i64 n) h) (some ⟨q, 0, none⟩) v h1 := by
    rw [spec_l16DrawSet_M_j0]
    exact d.once fun t h2 d2 => asB_of (ifB_nb (fun _ => j1 _ h2 d2 (wrap_rng _)) fun _ => j1 _ h2 d2 hv)
  rw [spec_l16DrawSet_M]
  refine d.below (by omega) fun r h1 r0 r1 d1 => asI_of ?_
  refine d1.below (by omega) fun s h2 s0 s1 d2 => asI_of ?_
  refine d2.once fun t h3 d3 => asB_of (ifB_b (fun _ => ?_) fun _ => j0 _ h3 d3 (wrap_rng _))
  refine d3.below (by omega) fun u h4 u0 u1 d4 => asI_of ?_
  rw [wrap64 (n := 1 + u) (by omega) (by omega)]
  refine pow_spec (by omega) (by omega) (asI_of (j0 _ h4 d4 ?_))
  have l : 2 ^ (1 + u).toNat ≤ 2 ^ 15 := Nat.pow_le_pow_right (by omega) (by omega)
  have e : (2 : Int) ^ (1 + u).toNat = ((2 ^ (1 + u).toNat : Nat) : Int) := by simp
  rw [e, In64]
  generalize 2 ^ (1 + u).toNat = w at l
  omega
/-- a row is looked at, and looked at again -/
theorem P_held {F : Int → Int → Int → Int → Int → Int → Int → Int → Int → Int → Prop} {z : Int} (hs : SlP h pa pn pc xs) (hx : xs[i]? = some x) (g : F x.id x.parent x.group x.user x.state x.status x.pending x.mask x.ignored x.caught) (hz : z = (i : Int)) :
    req (0 ≤ z ∧ z < (pn : Nat)) (nz pa fun b o => ldRow h b (o + z.toNat * 10) 0 [.int .i64, .int .i64, .int .i64, .int .i64, .int .i64, .int .i64, .int .i64, .int .i64, .int .i64, .int .i64] fun n1 n2 n3 n4 n5 n6 n7 n8 n9 n10 =>
      heldRow h b (o + z.toNat * 10) 0 [.int .i64 n1, .int .i64 n2, .int .i64 n3, .int .i64 n4, .int .i64 n5, .int .i64 n6, .int .i64 n7, .int .i64 n8, .int .i64 n9, .int .i64 n10] (F n1 n2 n3 n4 n5 n6 n7 n8 n9 n10)) := by
  subst hz
  refine hs.req hx rfl (hs.nz (get_lt hx) fun b o r ea => ?_)
  rw [Int.toNat_natCast, RwP_row r hx]
  have c (j : Nat) (v : Value) (e : (encP x)[j]? = some v) : cell h b (o + i * 10 + j) = some v := r.cell hx e
  exact ⟨c 0 _ rfl, c 1 _ rfl, c 2 _ rfl, c 3 _ rfl, c 4 _ rfl, c 5 _ rfl, c 6 _ rfl, c 7 _ rfl, c 8 _ rfl, c 9 _ rfl, g⟩
def InI (xs : List P) : Prop := ∀ x ∈ xs, In64 x.id
theorem op_spec (hs : SlP h pa pn pc xs) (p : 1 ≤ pn) (nq : q ∉ own pa) (u : Cu h q a n bs)
    (k : ∀ kind id to g h', (InI xs → In64 to) → Run h h' q a n bs → K (.agg ⟨[.int .i64 kind, .int .i64 id, .int .i64 to, .int .i64 g]⟩) h') :
    callD Try.prog 22 ⟨[.pointer (some ⟨q, 0, none⟩), .agg ⟨[.slice pa pn pc]⟩]⟩ h K := by
  have hl := hs.le
  refine spec_l16DrawOp_M_call ?_
  generalize eK : (fun n1 n2 n3 n4 h => K (.agg ⟨[.int .i64 n1, .int .i64 n2, .int .i64 n3, .int .i64 n4]⟩) h) = kr
  have k : ∀ kind id to g h', (InI xs → In64 to) → Run h h' q a n bs → kr kind id to g h' := fun kind id to g h' t d => by rw [← eK]; exact k kind id to g h' t d
  have j9 (kind id to g : Int) (h1 : H) (t : InI xs → In64 to) (d : Run h h1 q a n bs) : spec_l16DrawOp_M_j9 kr (some ⟨q, 0, none⟩) kind id to g h1 := by
    rw [spec_l16DrawOp_M_j9]
    refine d.once fun b h2 d2 => asB_of (ifB_b (fun _ => ?_) fun _ => k _ _ _ _ h2 t d2)
    exact d2.pick [-4611686018427387904, 4611686018427387904, -2, 5] fun v h3 hv d3 => k _ _ _ _ h3 (fun _ => lits (by decide) v hv) d3
  have j8 (kind id to g : Int) (h1 : H) (t : InI xs → In64 to) (d : Run h h1 q a n bs) : spec_l16DrawOp_M_j8 kr (some ⟨q, 0, none⟩) kind id to g h1 := by
    rw [spec_l16DrawOp_M_j8]
    refine d.once fun b h2 d2 => asB_of (ifB_b (fun _ => ?_) fun _ => j9 _ _ _ _ h2 t d2)
    exact d2.pick [0, 10, -1] fun v h3 hv d3 => j9 _ _ _ _ h3 t d3
  have j7 (kind id to g : Int) (h1 : H) (t : InI xs → In64 to) (d : Run h h1 q a n bs) : spec_l16DrawOp_M_j7 kr (some ⟨q, 0, none⟩) kind id to g h1 := by
    rw [spec_l16DrawOp_M_j7]
    refine d.once fun b h2 d2 => asB_of (ifB_b (fun _ => ?_) fun _ => j8 _ _ _ _ h2 t d2)
    exact d2.pick [0, -1, 32, 33, 4611686018427387904] fun v h3 hv d3 => j8 _ _ _ _ h3 t d3
  have j2 (kind id to g : Int) (h1 : H) (t : InI xs → In64 to) (d : Run h h1 q a n bs) : spec_l16DrawOp_M_j2 (fun p n1 n2 n3 n4 h => spec_l16DrawOp_M_j7 kr p n1 n2 n3 n4 h) (some ⟨q, 0, none⟩) kind id to g h1 := by
    rw [spec_l16DrawOp_M_j2]
    refine d.once fun b h2 d2 => asB_of (ifB_b (fun _ => ?_) fun _ => j7 _ _ _ _ h2 t d2)
    exact d2.pick [-1, 255, 256] fun v h3 hv d3 => j7 _ _ _ _ h3 t d3
  have j4 (b : Bool) (kind id to g e f : Int) (h1 : H) (t : InI xs → In64 to) (t2 : InI xs → In64 e) (d : Run h h1 q a n bs) : spec_l16DrawOp_M_j4 (fun p n1 n2 n3 n4 h => spec_l16DrawOp_M_j7 kr p n1 n2 n3 n4 h) (some ⟨q, 0, none⟩) b kind id to g e f h1 := by
    rw [spec_l16DrawOp_M_j4]
    refine ifB_b (fun _ => has_spec (by omega) (by omega) (asB_of (ifB_b (fun _ => ?_) fun _ => ?_))) fun _ => ?_
    all_goals exact j7 _ _ _ _ h1 (by assumption) d
  have j3 (kind id to e f : Int) (h1 : H) (t : InI xs → In64 to) (t2 : InI xs → In64 e) (d : Run h h1 q a n bs) : spec_l16DrawOp_M_j3 (fun p n1 n2 n3 n4 h => spec_l16DrawOp_M_j7 kr p n1 n2 n3 n4 h) (some ⟨q, 0, none⟩) kind id to e f h1 := by
    rw [spec_l16DrawOp_M_j3]
    refine sig_spec d fun v h2 _ d2 => asI_of ?_
    refine d2.once fun b h3 d3 => asB_of (ifB_b (fun _ => has_spec (by omega) (by omega) (asB_of (ifB_b (fun _ => ?_) fun _ => has_spec (by omega) (by omega) (asB_of ?_)))) fun _ => ?_)
    all_goals exact j4 _ _ _ _ _ _ _ h3 (by assumption) t2 d3
  have j6 (kind id to e f : Int) (h1 : H) (t : InI xs → In64 to) (d : Run h h1 q a n bs) : spec_l16DrawOp_M_j6 (fun p n1 n2 n3 n4 h => spec_l16DrawOp_M_j7 kr p n1 n2 n3 n4 h) (some ⟨q, 0, none⟩) kind id to e f h1 := by
    rw [spec_l16DrawOp_M_j6]
    refine d.below (by omega) fun r h2 _ _ d2 => asI_of ⟨?_, ?_⟩
    · exact d2.pick [to, e, f, r] fun v h3 _ d3 => j7 _ _ _ _ h3 t d3
    · exact d2.pick' [to, e, f, r] fun v h3 _ d3 => j7 _ _ _ _ h3 t d3
  have j5 (kind id to e f g l : Int) (h1 : H) (t : InI xs → In64 to) (t2 : InI xs → In64 f) (d : Run h h1 q a n bs) : spec_l16DrawOp_M_j5 (fun p n1 n2 n3 n4 h => spec_l16DrawOp_M_j7 kr p n1 n2 n3 n4 h) (some ⟨q, 0, none⟩) kind id to e f g l h1 := by
    rw [spec_l16DrawOp_M_j5]
    refine d.once fun b h2 d2 => asB_of (ifB_b (fun _ => ?_) fun _ => ?_)
    · exact j6 _ _ _ _ _ h2 t2 d2
    · exact j6 _ _ _ _ _ h2 t d2
  have j1 (kind id to g : Int) (x y : P) (h1 : H) (mx : x ∈ xs) (my : y ∈ xs) (t : In64 to) (d : Run h h1 q a n bs) : spec_l16DrawOp_M_j1 kr (some ⟨q, 0, none⟩) kind id to g x.id x.group y.id y.parent y.group y.state y.pending h1 := by
    rw [spec_l16DrawOp_M_j1]
    have ty (v : Int) (hv : v ∈ ([-1, -1, 0, y.id, IntKind.i64.wrap (0 - y.group)] : List Int)) (r : InI xs) : In64 v := by
      simp at hv
      rcases hv with e | e | e | e
      · subst e; unfold In64; omega
      · subst e; unfold In64; omega
      · subst e; exact r y my
      · subst e; exact wrap_rng _
    have tk (v : Int) (hv : v ∈ ([y.id, y.id, y.id, 0, -1, IntKind.i64.wrap (0 - y.group)] : List Int)) (r : InI xs) : In64 v := ty v (by simp at hv ⊢; omega) r
    have tg (v : Int) (hv : v ∈ ([x.id, y.id] : List Int)) (r : InI xs) : In64 v := by
      simp at hv
      rcases hv with e | e
      · subst e; exact r x mx
      · subst e; exact r y my
    refine ifB_eqI (fun _ => ?_) fun _ => ifB_eqI (fun _ => ?_) fun _ => ifB_eqI (fun _ => ?_) fun _ => ifB_eqI (fun _ => ?_) fun _ => ifB_eqI (fun _ => ?_) fun _ => ifB_eqI (fun _ => ?_) fun _ => ifB_eqI (fun _ => ?_) fun _ => ?_
    · refine d.below (by omega) fun r h2 _ _ d2 => asI_of (ifB_eqI (fun _ => ?_) fun _ => ?_)
      all_goals exact j2 _ _ _ _ h2 (fun _ => t) d2
    · constructor
      · refine d.pick [-1, -1, 0, y.id, IntKind.i64.wrap (0 - y.group)] fun v h2 hv d2 => ?_
        refine d2.once fun b h3 d3 => asB_of (ifB_b (fun _ => ?_) fun _ => ?_)
        all_goals exact j7 _ _ _ _ h3 (ty v hv) d3
      · refine d.pick' [-1, -1, 0, y.id, IntKind.i64.wrap (0 - y.group)] fun v h2 hv d2 => ?_
        refine d2.once fun b h3 d3 => asB_of (ifB_b (fun _ => ?_) fun _ => ?_)
        all_goals exact j7 _ _ _ _ h3 (ty v hv) d3
    · constructor
      · exact d.pick [y.id, y.id, y.id, 0, -1, IntKind.i64.wrap (0 - y.group)] fun v h2 hv d2 => j3 _ _ _ _ _ h2 (tk v hv) (fun r => r y my) d2
      · exact d.pick' [y.id, y.id, y.id, 0, -1, IntKind.i64.wrap (0 - y.group)] fun v h2 hv d2 => j3 _ _ _ _ _ h2 (tk v hv) (fun r => r y my) d2
    · exact set_draw d fun v h2 hv d2 => asI_of (j7 _ _ _ _ h2 (fun _ => hv) d2)
    · refine sig_spec d fun v h2 hv d2 => asI_of ?_
      refine d2.below (by omega) fun r h3 _ _ d3 => asI_of ?_
      refine d3.once fun b h4 d4 => asB_of (ifB_b (fun _ => ?_) fun _ => j7 _ _ _ _ h4 (fun _ => hv) d4)
      exact d4.pick [-1, 3] fun w h5 _ d5 => j7 _ _ _ _ h5 (fun _ => hv) d5
    · constructor
      · exact d.pick [x.id, y.id] fun v h2 hv d2 => j5 _ _ _ _ _ _ _ h2 (tg v hv) (fun r => r y my) d2
      · exact d.pick' [x.id, y.id] fun v h2 hv d2 => j5 _ _ _ _ _ _ _ h2 (tg v hv) (fun r => r y my) d2
    · refine d.below (by omega) fun r h2 _ _ d2 => asI_of ?_
      refine d2.once fun b h3 d3 => asB_of (ifB_b (fun _ => ?_) fun _ => j7 _ _ _ _ h3 (fun _ => t) d3)
      exact d3.pick [-1, 255, 256] fun w h4 _ d4 => j7 _ _ _ _ h4 (fun _ => t) d4
    · exact j7 _ _ _ _ h1 (fun _ => t) d
  have row (r : Int) (r0 : 0 ≤ r) (r1 : r < (pn : Nat)) : ∃ (i : Nat) (x : P), xs[i]? = some x ∧ r = i := ⟨r.toNat, xs[r.toNat]'(by omega), List.getElem?_eq_getElem _, by omega⟩
  have j0 (kind : Int) (x : P) (h1 : H) (mx : x ∈ xs) (d : Run h h1 q a n bs) : spec_l16DrawOp_M_j0 kr (some ⟨q, 0, none⟩) pa pn kind 0 0 x.id x.group h1 := by
    rw [spec_l16DrawOp_M_j0]
    constructor
    · refine d.below (by omega) fun r h2 r0 r1 d2 => asI_of ?_
      obtain ⟨i, y, hy, e⟩ := row r r0 r1
      exact P_held (d2.sl hs nq) hy (j1 _ _ _ _ x y h2 mx (List.mem_of_getElem? hy) (by unfold In64; omega) d2) e
    · refine d.below (by omega) fun r h2 r0 r1 d2 => asI_of ?_
      obtain ⟨i, y, hy, e⟩ := row r r0 r1
      exact SlP.gRow (d2.sl hs nq) hy (j1 _ _ _ _ x y h2 mx (List.mem_of_getElem? hy) (by unfold In64; omega) d2) e
  rw [spec_l16DrawOp_M]
  refine (Run.start u).pick [1, 1, 1, 1, 2, 2, 3, 3, 3, 4, 4, 4, 5, 6, 6, 7, 7, 7, 7, 8, 9] fun kind h1 _ d1 => ⟨?_, ?_⟩
  · refine d1.below (by omega) fun r h2 r0 r1 d2 => asI_of ?_
    obtain ⟨i, y, hy, e⟩ := row r r0 r1
    exact P_held (d2.sl hs nq) hy (j0 _ y h2 (List.mem_of_getElem? hy) d2) e
  · refine d1.below (by omega) fun r h2 r0 r1 d2 => asI_of ?_
    obtain ⟨i, y, hy, e⟩ := row r r0 r1
    exact SlP.gRow (d2.sl hs nq) hy (j0 _ y h2 (List.mem_of_getElem? hy) d2) e
end Go.Proofs.Ytgcjjapmdbgofaa
