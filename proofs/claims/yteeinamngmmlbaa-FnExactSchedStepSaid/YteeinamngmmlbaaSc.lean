import Derived.Test.YteeinamngmmlbaaSb
set_option linter.unusedVariables false
namespace Go.Proofs.Yteeinamngmmlbaa
open Go.Eng
variable {h h0 h' : H} {now seq now' seq' : Int} {a b a' b' : Option Addr} {n c m d n' c' m' d' p : Nat} {s s' s'' : S} {K : Value → H → Prop} {id k on since : Int} {i : Nat} {t x : T} {l : L}
/-- what a call hands back -/
structure OutS (h : H) (a b : Option Addr) (s : S) (h' : H) (now' seq' : Int) (a' : Option Addr) (n' c' : Nat) (b' : Option Addr) (m' d' : Nat) : Prop where
  kp : Keep (own a ++ own b) h h'
  wa : ∀ x ∈ own a', x ∈ own a ∨ h.size ≤ x
  wb : ∀ x ∈ own b', x ∈ own b ∨ h.size ≤ x
  r : Ss h' now' seq' a' n' c' b' m' d' s
theorem OutS.refl (r : Ss h now seq a n c b m d s) : OutS h a b s h now seq a n c b m d := ⟨Keep.refl, fun _ t => .inl t, fun _ t => .inl t, r⟩
theorem OutS.trans {h1 h2 : H} {now1 seq1 now2 seq2 : Int} {a1 b1 a2 b2 : Option Addr} {n1 c1 m1 d1 n2 c2 m2 d2 : Nat} (x : OutS h a b s h1 now1 seq1 a1 n1 c1 b1 m1 d1) (y : OutS h1 a1 b1 s' h2 now2 seq2 a2 n2 c2 b2 m2 d2) : OutS h a b s' h2 now2 seq2 a2 n2 c2 b2 m2 d2 := by
  have z := x.kp.le
  refine ⟨x.kp.trans y.kp ?_, fun q hq => ?_, fun q hq => ?_, y.r⟩
  · intro q l t
    rcases t with t | t
    · exact t
    · simp only [List.mem_append] at t ⊢
      rcases t with t | t
      · rcases x.wa q t with u | u
        · exact .inl u
        · omega
      · rcases x.wb q t with u | u
        · exact .inr u
        · omega
  · rcases y.wa q hq with t | t
    · exact x.wa q t
    · exact .inr (by omega)
  · rcases y.wb q hq with t | t
    · exact x.wb q t
    · exact .inr (by omega)
theorem Ss.keep (r : Ss h now seq a n c b m d s) (k : Keep [] h h') : Ss h' now seq a n c b m d s := ⟨r.en, r.es, r.t.keep0 k, r.l.keep0 k, r.ap⟩
/-- the threads are changed in their place -/
theorem OutS.setT {ys : List T} (r : Ss h now seq a n c b m d s) (k : Keep (own a) h h') (t : SlT h' a n c ys) : OutS h a b { s with ths := ys } h' now seq a n c b m d :=
  ⟨k.mono (by intro _ _ t; simp [t]), fun _ t => .inl t, fun _ t => .inl t, r.en, r.es, t, r.l.keep k fun x hx t => r.ap x t hx, r.ap⟩
theorem OutS.setL {ys : List L} (r : Ss h now seq a n c b m d s) (k : Keep (own b) h h') (t : SlL h' b m d ys) : OutS h a b { s with lks := ys } h' now seq a n c b m d :=
  ⟨k.mono (by intro _ _ t; simp [t]), fun _ t => .inl t, fun _ t => .inl t, r.en, r.es, r.t.keep k fun x hx t => r.ap x hx t, t, r.ap⟩
/-- new ones in their place -/
theorem OutS.newT {ys : List T} (r : Ss h now seq a n c b m d s) (k : Keep [] h h') (f : ∀ x ∈ own a', h.size ≤ x) (t : SlT h' a' n' c' ys) : OutS h a b { s with ths := ys } h' now seq a' n' c' b m d :=
  ⟨k.mono (by simp), fun x t => .inr (f x t), fun _ t => .inl t, r.en, r.es, t, r.l.keep0 k, fun x hx t => by have := f x hx; have := r.l.lt t; omega⟩
theorem OutS.newL {ys : List L} (r : Ss h now seq a n c b m d s) (k : Keep [] h h') (f : ∀ x ∈ own b', h.size ≤ x) (t : SlL h' b' m' d' ys) : OutS h a b { s with lks := ys } h' now seq a n c b' m' d' :=
  ⟨k.mono (by simp), fun _ t => .inl t, fun x t => .inr (f x t), r.en, r.es, r.t.keep0 k, t, fun x hx t => by have := f x t; have := r.t.lt hx; omega⟩
/-! stand -/
def standT (s : S) (t : T) (since : Int) : T := ⟨t.id, t.base, 1, IntKind.i64.wrap (s.seq + 1), 4, since, 0, -1⟩
def standF (s : S) (i : Nat) (t : T) (since : Int) : S := { s with seq := IntKind.i64.wrap (s.seq + 1), ths := s.ths.set i (standT s t since) }
theorem stand_spec (r : Ss h now seq a n c b m d s) (hx : s.ths[i]? = some x) (hz : k = (i : Int))
    (z : ∀ h', OutS h a b (standF s i x since) h' now (IntKind.i64.wrap (s.seq + 1)) a n c b m d → K (val now (IntKind.i64.wrap (s.seq + 1)) a n c b m d) h') :
    callD Try.prog 36 ⟨[val now seq a n c b m d, .int .i64 k, .int .i64 since]⟩ h K := by
  refine spec_l11Stand_M_call ?_
  rw [spec_l11Stand_M]
  subst hz
  have es := r.es
  subst es
  refine SlT.gRow r.t hx (r.t.req hx rfl (r.t.StR (get_lt hx) (standT s x since) encT_len (encT_one _) (fun h1 k1 _ s1 => ?_) rfl rfl))
  have o := OutS.setT r k1 s1
  exact z h1 ⟨o.kp, o.wa, o.wb, o.r.en, rfl, o.r.t, o.r.l, o.r.ap⟩
/-! hand on -/
def handOk (lock : Int) (t : T) : Bool := t.state == 2 && t.wait == lock
def handF (s : S) (lock : Int) : S :=
  match firstS s (handOk lock) with
  | none => { s with lks := s.lks.eraseIdx (posL s.lks lock).toNat }
  | some (t, i, _) => match s.lks[(posL s.lks lock).toNat]? with
    | none => s
    | some l => standF { s with lks := s.lks.set (posL s.lks lock).toNat { l with owner := t.id } } i t s.now
theorem hand_loop {kx : Int → Int → Int → Int → Option Addr → Nat → Nat → Option Addr → Nat → Nat → H → Prop} {lock : Int} (r : Ss h now seq a n c b m d s) (g : Nn s)
    (kx' : ∀ best most, Acc s best most (firstS s (handOk lock)) → kx lock best now seq a n c b m d h) :
    ∀ (t i : Nat) (best most : Int) acc, i + t = n → Acc s best most acc → first1 s (handOk lock) i acc (s.ths.drop i) = firstS s (handOk lock) → spec_l11HandOn_M_l0 kx (t + 1) lock best most i now seq a n c b m d h := by
  have hl := r.t.le
  intro t
  induction t with
  | zero =>
    intro i best most acc e A ef
    rw [spec_l11HandOn_M_l0]
    rw [List.drop_of_length_le (by omega), first1] at ef
    exact ifD_f (by omega) (kx' best most (ef ▸ A))
  | succ t ih =>
    intro i best most acc e A ef
    obtain ⟨x, hx⟩ : ∃ x, s.ths[i]? = some x := ⟨_, List.getElem?_eq_getElem (by omega)⟩
    have ed : s.ths.drop i = x :: s.ths.drop (i + 1) := by
      rw [List.drop_eq_getElem_cons (by omega)]; congr 1
      exact (List.getElem?_eq_some_iff.mp hx).2
    rw [ed, first1] at ef
    rw [spec_l11HandOn_M_l0]
    have nx (best most : Int) (A : Acc s best most (step1 s (handOk lock) acc x i)) : spec_l11HandOn_M_l0 kx (t + 1) lock best most (IntKind.i64.wrap ((i : Int) + 1)) now seq a n c b m d h := by
      rw [wrap_suc (by omega)]
      exact ih (i + 1) best most _ (by omega) A ef
    have no (f : ¬ (x.state = 2 ∧ x.wait = lock)) : step1 s (handOk lock) acc x i = acc := by unfold step1; rw [if_neg (by simpa [handOk] using f)]
    refine ifD_t (by omega) (SlT.gRow r.t hx (ifB_neI (fun f => nx best most (by rw [no fun t => f t.1]; exact A)) fun f => ?_))
    refine ifB_neI (fun f1 => nx best most (by rw [no fun t => f1 t.2]; exact A)) fun f1 => ?_
    refine prio_spec r (g.uni i x hx) (asI_of ?_)
    have es : step1 s (handOk lock) acc x i = over s x i acc := by unfold step1; rw [if_pos (by simp [handOk, f, f1])]
    have ps := g.pos i x hx
    cases acc with
    | none =>
      have := A.no rfl
      exact ifD_t (by omega) (nx _ _ (by rw [es]; exact accS hx))
    | some v =>
      obtain ⟨y, j, q⟩ := v
      obtain ⟨e1, e2, hy⟩ := A.so y j q rfl
      rw [over] at es
      subst e1 e2
      refine ifB_dec (fun f1 => nx _ _ (by rw [es, if_pos f1]; exact accS hx)) fun f1 => ?_
      rw [if_neg f1] at es
      refine ifB_eqI (fun f2 => r.t.gI hy ?_) fun f2 => nx _ _ (by rw [es, if_neg (fun t => f2 t.1)]; exact accS hy)
      exact ifB_dec (fun f3 => nx _ _ (by rw [es, if_pos ⟨f2, f3⟩]; exact accS hx)) fun f3 => nx _ _ (by rw [es, if_neg (fun t => f3 t.2)]; exact accS hy)
theorem inf60 : (Try.prog.info? 60).map (fun i => (i.size, i.bytes, i.zero.map fun z => (cellsOf z).length)) = some (8, 64, some 8) := by kernel_rfl
theorem inf57 : (Try.prog.info? 57).map (fun i => (i.size, i.bytes, i.zero.map fun z => (cellsOf z).length)) = some (2, 16, some 2) := by kernel_rfl
/-- a row without one of its places, made anew -/
theorem cutL {e : TypeId} {α : Type} {sz by' : Nat} {enc : α → List Value} {xs : List α} {a0 : Option Addr} {K : Option Addr → Nat → Nat → H → Prop} (inf : (Try.prog.info? e).map (fun i => (i.size, i.bytes, i.zero.map fun z => (cellsOf z).length)) = some (sz, by', some sz)) (s0 : sz ≠ 0) (b0 : by' ≤ 64)
    (es : ∀ y, (enc y).length = sz) (on : ∀ y, ∀ v ∈ enc y, one v = true) (hs : Sl h b m d sz enc xs) (hb : ∀ x ∈ own b, x < h0.size) (hi : i < xs.length) (hm : m ≤ 1048576) (e0 : Sl h a0 0 0 sz enc []) (f0 : ∀ x ∈ own a0, h0.size ≤ x) (k0 : Keep [] h0 h)
    (z : ∀ h' a' c', Keep [] h0 h' → (∀ x ∈ own a', h0.size ≤ x) → Sl h' a' (m - 1) c' sz enc (xs.eraseIdx i) → K a' (m - 1) c' h') {k : Int} (hk : k = (i : Int)) :
    appendD Try.prog e h a0 0 0 (.slice (slB b 0 d sz) (k.toNat - 0) (d - 0)) fun a1 l1 c1 h => appendD Try.prog e h a1 l1 c1 (.slice (slB b ((IntKind.i64.wrap (k + 1)).toNat) d sz) (m - (IntKind.i64.wrap (k + 1)).toNat) (d - (IntKind.i64.wrap (k + 1)).toNat)) K := by
  have hl := hs.le
  subst hk
  rw [wrap_suc (by omega)]
  simp only [Int.toNat_natCast]
  have b1 (q : Nat) (hq : q ≤ 1048576) : q * by' ≤ 140737488355328 := Nat.le_trans (Nat.mul_le_mul hq b0) (by decide)
  have z0 := k0.le
  refine append_inf inf s0 es on e0 (hs.part (l := 0) (m := i) (by omega) (by omega)) (b1 _ (by omega)) (by omega) fun a2 c2 h2 k2 w2 s2 => ?_
  have k02 : Keep [] h0 h2 := k0.trans k2 (by intro x l t; simp only [List.not_mem_nil, false_or] at t; have := f0 x t; omega)
  have f2 : ∀ x ∈ own a2, h0.size ≤ x := fun x hx => by
    rcases w2 x hx with t | t
    · exact f0 x t
    · omega
  have s3 : Sl h2 b m d sz enc xs := hs.keep k2 fun x hx t => by have := hb x hx; have := f0 x t; omega
  have z2 := k2.le
  refine append_inf inf s0 es on s2 (s3.part (l := i + 1) (m := m) (by omega) (by omega)) (b1 _ (by omega)) (by omega) fun a3 c3 h3 k3 w3 s4 => ?_
  have e1 : 0 + (i - 0) + (m - (i + 1)) = m - 1 := by omega
  have e2 : [] ++ List.take (i - 0) (List.drop 0 xs) ++ List.take (m - (i + 1)) (List.drop (i + 1) xs) = xs.eraseIdx i := by
    rw [List.eraseIdx_eq_take_drop_succ, List.nil_append, List.drop_zero, Nat.sub_zero, List.take_of_length_le (l := List.drop (i + 1) xs) (by simp; omega)]
  rw [e2] at s4
  have key : ∀ q, q = m - 1 → Sl h3 a3 q c3 sz enc (xs.eraseIdx i) → K a3 q c3 h3 := fun q eq s => by
    subst eq
    refine z h3 a3 c3 (k02.trans k3 ?_) (fun x hx => ?_) s
    · intro x l t; simp only [List.not_mem_nil, false_or] at t; have := f2 x t; omega
    · rcases w3 x hx with t | t
      · exact f2 x t
      · omega
  exact key _ e1 s4
theorem handF_at {lock : Int} {j : Nat} (hk : AtL s.lks lock j l) : handF s lock = match firstS s (handOk lock) with
    | none => { s with lks := s.lks.eraseIdx j }
    | some (t, i, _) => standF { s with lks := s.lks.set j { l with owner := t.id } } i t s.now := by
  simp only [handF, hk.pos, Int.toNat_natCast, hk.1]
theorem hand_spec {lock : Int} {j : Nat} (r : Ss h now seq a n c b m d s) (g : Nn s) (hk : AtL s.lks lock j l) (hm : m ≤ 1048576)
    (z : ∀ h' now' seq' a' n' c' b' m' d', OutS h a b (handF s lock) h' now' seq' a' n' c' b' m' d' → K (val now' seq' a' n' c' b' m' d') h') :
    callD Try.prog 51 ⟨[val now seq a n c b m d, .int .i64 lock]⟩ h K := by
  have hl := r.l.le
  refine spec_l11HandOn_M_call ?_
  rw [spec_l11HandOn_M]
  refine ⟨n + 1, hand_loop r g (fun best most A => ?_) n 0 (-1) (-1) none (by omega) accN rfl⟩
  refine lock_spec r.l (asI_of ?_)
  rw [hk.pos]
  have jl := get_lt hk.1
  rw [handF_at hk] at z
  revert z A
  generalize firstS s (handOk lock) = v
  intro z A
  cases v with
  | none =>
    have := A.no rfl
    refine ifD_t (by omega) ?_
    rw [req_eq (by omega), req_eq r.l.plain, wrap_suc (by omega), req_eq (by omega), req_eq r.l.plain]
    refine newE_of (enc := encL) (s := 2) fun q h1 hq k1 s1 => ?_
    rw [← wrap_suc (i := j) (by omega)]
    refine cutL (h0 := h) inf57 (by decide) (by decide) encL_len encL_one (r.l.keep0 k1) (fun x hx => r.l.lt hx) jl hm s1 (by simp [own]; omega) k1 (fun h2 b2 d2 k2 f2 s2 => ?_) rfl
    exact z h2 _ _ _ _ _ _ _ _ (OutS.newL r k2 f2 s2)
  | some v =>
    obtain ⟨y, q, pr⟩ := v
    obtain ⟨e1, e2, hy⟩ := A.so y q pr rfl
    subst e1
    refine ifD_f (by omega) (r.t.gI0 hy (r.l.gSt hk.1 { l with owner := y.id } encL_len (fun h1 k1 _ s1 => ?_) rfl (by decide) rfl))
    have o1 := OutS.setL r k1 s1
    refine stand_spec o1.r hy rfl fun h2 o2 => o_el_AI2L2E ?_
    have en := r.en
    subst en
    exact z h2 _ _ _ _ _ _ _ _ (o1.trans o2)
end Go.Proofs.Yteeinamngmmlbaa
