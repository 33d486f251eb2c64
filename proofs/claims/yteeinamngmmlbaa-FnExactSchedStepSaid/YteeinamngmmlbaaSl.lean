import Derived.Test.YteeinamngmmlbaaSk
set_option linter.unusedVariables false
namespace Go.Proofs.Yteeinamngmmlbaa
open Go.Eng
variable {h h0 h1 h2 h' : H} {a b a' b' : Option Addr} {n c m d n' c' m' d' p o : Nat} {s s' : S} {K : Value → H → Prop} {id k on q lock : Int} {i j : Nat} {t x w : T} {l : L} {xs : List T} {zs ys : List L}
theorem filter_erase {α : Type} {key : α → Int} : ∀ (xs : List α) (j : Nat) (x : α), xs[j]? = some x → (∀ (k : Nat) (y : α), xs[k]? = some y → key y = key x → k = j) → xs.filter (fun y => key y != key x) = xs.eraseIdx j := by
  intro xs
  induction xs with
  | nil => intro j x h; simp at h
  | cons z xs ih =>
    intro j x h u
    cases j with
    | zero =>
      simp only [List.getElem?_cons_zero, Option.some.injEq] at h
      subst h
      rw [List.filter_cons, if_neg (by simp), List.eraseIdx_cons_zero, List.filter_eq_self]
      intro y my
      obtain ⟨k, hk⟩ := List.mem_iff_getElem?.mp my
      have := u (k + 1) y (by simpa using hk)
      simp only [bne_iff_ne, ne_eq]
      intro e; have := this e; omega
    | succ j =>
      rw [List.eraseIdx_cons_succ, List.filter_cons, if_pos, ih j x (by simpa using h) fun k y hk e => by have := u (k + 1) y (by simpa using hk) e; omega]
      simp only [bne_iff_ne, ne_eq]
      intro e; have := u 0 z rfl e; omega
theorem MO.newL (r : Mp h p a n c b m d s) (k : Keep [] h h1) (f : ∀ x ∈ own b', h.size ≤ x) (t : SlL h1 b' m' d' ys) (k2 : Keep [p] h1 h2) (x : blk h2 p [.int .i64 s.now, .int .i64 s.seq, .slice a n c, .slice b' m' d']) : MO h p a b { s with lks := ys } h2 a n c b' m' d' := by
  have lp := r.hp.lt
  have k1 := k.le
  have pb : p ∉ own b' := fun t => by have := f p t; omega
  refine ⟨k.trans k2 (by intro y _ u; simp at u; simp [u]), fun _ u => .inl u, fun y u => .inr (f y u), x, (r.t.keep0 k).keep k2 fun y hy u => by simp at u; subst u; exact r.pa hy, t.keep k2 fun y hy u => by simp at u; subst u; exact pb hy, fun y hy u => ?_, r.pa, pb⟩
  have := f y u; have := r.t.lt hy; omega
theorem MO.newT {ys : List T} (r : Mp h p a n c b m d s) (k : Keep [] h h1) (f : ∀ x ∈ own a', h.size ≤ x) (t : SlT h1 a' n' c' ys) (k2 : Keep [p] h1 h2) (x : blk h2 p [.int .i64 s.now, .int .i64 s.seq, .slice a' n' c', .slice b m d]) : MO h p a b { s with ths := ys } h2 a' n' c' b m d := by
  have lp := r.hp.lt
  have k1 := k.le
  have pa : p ∉ own a' := fun t => by have := f p t; omega
  refine ⟨k.trans k2 (by intro y _ u; simp at u; simp [u]), fun y u => .inr (f y u), fun _ u => .inl u, x, t.keep k2 fun y hy u => by simp at u; subst u; exact pa hy, (r.l.keep0 k).keep k2 fun y hy u => by simp at u; subst u; exact r.pb hy, fun y hy u => ?_, pa, r.pb⟩
  have := f y hy; have := r.l.lt u; omega
theorem hand_loopI {kx : Option Addr → Option Addr → Nat → Nat → H → Prop} {b3 : Nat} (hs : SlL h0 b m d zs) (hm : m ≤ 1048576) (hb : blk h0 b3 [.int .i64 lock])
    (kx' : ∀ h' a' l' c', Keep [] h0 h' → (∀ x ∈ own a', h0.size ≤ x) → SlL h' a' l' c' (zs.filter fun l => l.id != lock) → kx (some ⟨p, 0, none⟩) a' l' c' h') :
    ∀ (t i : Nat) h a' l' c', i + t = m → Keep [] h0 h → (∀ x ∈ own a', h0.size ≤ x) → SlL h a' l' c' ((zs.take i).filter fun l => l.id != lock) → impl_Sched_hand_M_l0 kx (t + 1) (some ⟨p, 0, none⟩) b3 a' l' c' b m m i h := by
  have hl := hs.le
  intro t
  induction t with
  | zero =>
    intro i h a' l' c' e kp f s'
    rw [impl_Sched_hand_M_l0]
    rw [List.take_of_length_le (by omega)] at s'
    exact ifD_f (by omega) (kx' h a' l' c' kp f s')
  | succ t ih =>
    intro i h a' l' c' e kp f s'
    obtain ⟨x, hx⟩ : ∃ x, zs[i]? = some x := ⟨_, List.getElem?_eq_getElem (by omega)⟩
    have h1 := hs.keep0 kp
    have e1 : (zs.take (i + 1)).filter (fun l => l.id != lock) = (zs.take i).filter (fun l => l.id != lock) ++ if x.id != lock then [x] else [] := by
      rw [List.take_add_one, hx, Option.toList_some, List.filter_append]; simp only [List.filter_cons, List.filter_nil]
    have ll : ((zs.take i).filter (fun l => l.id != lock)).length ≤ m := by
      have := List.length_filter_le (fun l : L => l.id != lock) (zs.take i); simp at this ⊢; omega
    have := s'.le
    rw [impl_Sched_hand_M_l0, wrap_suc (by omega)]
    refine ifD_t (by omega) (SlL.gRow h1 hx ?_)
    rw [ldI_eq ((kp.blk hb (by simp)).cell 0)]
    refine ifB_neI (fun g => ?_) fun g => ih (i + 1) h a' l' c' (by omega) kp f (by rw [e1, if_neg (by simpa using g), List.append_nil]; exact s')
    refine newL_of [x] encL_len fun q2 h2 hq2 k2 s2 => append_inf inf57 (by decide) encL_len encL_one (s'.keep0 k2) s2 (by omega) (by omega) fun a3 c3 h3 k3 w3 s3 => ?_
    have z0 := kp.le
    have z2 := k2.le
    refine ih (i + 1) h3 a3 _ c3 (by omega) ((kp.tr k2).trans k3 ?_) (fun x hx => ?_) (by rw [e1, if_pos (by simpa using g)]; exact s3)
    · intro x l t; simp only [List.not_mem_nil, false_or] at t; have := f x t; omega
    · rcases w3 x hx with t | t
      · exact f x t
      · omega
theorem Mp.keep0 (r : Mp h p a n c b m d s) (k : Keep [] h h') : Mp h' p a n c b m d s := ⟨k.blk r.hp (by simp), r.t.keep0 k, r.l.keep0 k, r.ap, r.pa, r.pb⟩
theorem MO.pre (k : Keep [] h h1) (o : MO h1 p a b s h2 a' n' c' b' m' d') : MO h p a b s h2 a' n' c' b' m' d' := by
  have z := k.le
  refine ⟨k.trans o.kp (by intro x l t; simp only [List.not_mem_nil, false_or] at t; exact t), fun x hx => ?_, fun x hx => ?_, o.r⟩
  · rcases o.wa x hx with t | t
    · exact .inl t
    · exact .inr (by omega)
  · rcases o.wb x hx with t | t
    · exact .inl t
    · exact .inr (by omega)
theorem handI (v : Wf s) (r : Mp h p a n c b m d s) (hk : AtL s.lks lock j l)
    (z : ∀ h' a' n' c' b' m' d', MO h p a b (handF s lock) h' a' n' c' b' m' d' → K (.tuple ⟨[]⟩) h') :
    callD Try.prog 45 ⟨[ptr p, .int .i64 lock]⟩ h K := by
  have hl := r.l.le
  have l16 := v.l.len
  refine impl_Sched_hand_M_call ?_
  generalize eK : (fun h => K (.tuple ⟨[]⟩) h) = kn
  have z : ∀ h' a' n' c' b' m' d', MO h p a b (handF s lock) h' a' n' c' b' m' d' → kn h' := fun h' a' n' c' b' m' d' o => by rw [← eK]; exact z _ _ _ _ _ _ _ o
  rw [handF_at hk] at z
  rw [impl_Sched_hand_M]
  refine newD_of fun b3 h1 hb3 x3 k1 => ?_
  have r1 := r.keep0 k1
  refine firstI (ok := handOk lock) v r1 (fun i b0 o0 t ea ht K zk => ?_) (fun e => asP_of ?_) fun x i q b0 o0 e hx ea => asP_of ?_
  · subst ea
    refine callVD_of (by kernel_rfl) ?_
    rw [ret55]
    refine impl_Sched_hand_c1_M_call ?_
    rw [impl_Sched_hand_c1_M]
    refine nz_of (r1.t.rw.I ht (ifB_eqI (fun f => nz_of (r1.t.rw.I ht ?_)) fun f => ?_))
    · rw [ldI_eq (x3.cell 0)]
      have e : handOk lock t = (t.wait == lock) := by unfold handOk; simp [f]
      rw [e] at zk; exact zk
    · have e : handOk lock t = false := by unfold handOk; simp [f]
      rw [e] at zk; exact zk
  · rw [e] at z
    show ifB true _ _
    rw [ifB_t, nz_some, ldL_eq (r1.hp.cell (0 + 3))]
    refine ⟨m + 1, hand_loopI (p := p) r1.l (by omega) x3 (fun h2 b2 l2 d2 k2 f2 s2 => ?_) m 0 h1 none 0 0 (by omega) Keep.refl (by simp [own]) Sl.nil⟩
    have e2 : (s.lks.filter fun y => y.id != lock) = s.lks.eraseIdx j := by
      rw [← hk.2.1]
      exact filter_erase (key := L.id) s.lks j l hk.1 fun k y hy e => v.l.uni k j y l hy hk.1 e
    rw [e2] at s2
    refine nz_of (st_of (k2.blk r1.hp (by simp)) (by simp) fun h3 e3 x4 k3 => ?_)
    exact z _ _ _ _ _ _ _ (MO.pre k1 (MO.newL r1 k2 f2 s2 k3 x4))
  · rw [e] at z
    subst ea
    refine ifP_some ?_
    rw [ldI_eq (x3.cell 0)]
    refine nz_of (r1.t.rw.I0 hx ?_)
    refine lockI r1 (fun f => absurd hk.2.1 (f l (List.mem_of_getElem? hk.1))) fun j2 b2 o2 l2 g eb => asP_of ⟨r1.t.rw.cell (j := 0) hx rfl, ?_⟩
    have : j2 = j := v.l.uni j2 j l2 l g.1 hk.1 (by rw [g.2.1, hk.2.1])
    subst this
    have := g.1; rw [hk.1] at this; injection this with this; subst this
    subst eb
    refine nz_of (st_rw r1.l.rw (y := l) (y' := { l with owner := x.id }) encL_len hk.1 (by decide) rfl fun h2 e2 r2 k2 => ?_)
    have o2 := MO.setL r1 k2 (r1.l.upd rfl r2 (by simp))
    exact standI (s := { s with lks := s.lks.set j2 { l with owner := x.id } }) o2.r hx fun h3 o3 => o_el_TE (z _ _ _ _ _ _ _ (MO.pre k1 (o2.trans o3)))
end Go.Proofs.Yteeinamngmmlbaa
