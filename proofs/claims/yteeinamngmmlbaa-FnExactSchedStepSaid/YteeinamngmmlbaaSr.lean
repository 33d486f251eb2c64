import Derived.Test.YteeinamngmmlbaaSq
set_option linter.unusedVariables false
namespace Go.Proofs.Yteeinamngmmlbaa
open Go.Eng
variable {h h0 h1 h2 h' : H} {now seq : Int} {a b a' b' : Option Addr} {n c m d n' c' m' d' p o : Nat} {s s0 s' s1 : S} {K : Value → H → Prop} {id k on q lock kind : Int} {i j : Nat} {t x w : T} {l : L} {xs : List T} {zs ys : List L}
theorem row4 {now seq : Int} (x : blk h p [.int .i64 now, .int .i64 seq, .slice a n c, .slice b m d]) (K : Int → Int → Option Addr → Nat → Nat → Option Addr → Nat → Nat → Prop) : ldRow h p 0 0 [.int .i64, .int .i64, .slice, .slice] K = K now seq a n c b m d := by
  have e0 := x.cell 0
  have e1 := x.cell 1
  have e2 := x.cell 2
  have e3 := x.cell 3
  simp only [ldRow, ldF, Nat.zero_add, Nat.add_zero, Nat.reduceAdd, e0, e1, e2, e3, List.getElem?_cons_zero, List.getElem?_cons_succ, opt, elF, mapF, if_true]
theorem schedI_spec (r : Ss h now seq a n c b m d s)
    (z : ∀ h' now' seq' a' n' c' b' m' d', NewO h (schedF s kind id q).1 h' now' seq' a' n' c' b' m' d' → K (res now' seq' a' n' c' b' m' d' (schedF s kind id q).2.1 (schedF s kind id q).2.2) h') :
    callD Try.prog 8 ⟨[val now seq a n c b m d, .agg ⟨[.int .i64 kind, .int .i64 id, .int .i64 q]⟩]⟩ h K := by
  have hl := r.t.le
  have hl2 := r.l.le
  have en := r.en
  have es := r.es
  subst en es
  refine impl_SchedStep_M_call ?_
  rw [impl_SchedStep_M]
  refine okI_spec r fun w h1 ew k1 => asB_of (ifB_nb (fun f => ?_) fun f => ?_)
  · have e : schedF s kind id q = (emptyS, 0, 0) := by unfold schedF; rw [if_neg fun ok => by rw [ew.mpr ok] at f; cases f]
    rw [e] at z
    have := newE (h := h1)
    exact z h1 _ _ _ _ _ _ _ _ ⟨k1, (by simp [own]), by simp [own], this.r⟩
  have ok := ew.mp f
  have t1 := ok.tl
  have t2 := ok.ll
  have wf := ok.wf
  have z1 := k1.le
  rw [schedF_ok ok] at z
  have r1 := r.keep k1
  have j0 (h2 : H) (p : Nat) (a2 b2 : Option Addr) (c2 d2 : Nat) (k2 : Keep [] h h2) (hp : h.size ≤ p) (fa : ∀ x ∈ own a2, h.size ≤ x) (fb : ∀ x ∈ own b2, h.size ≤ x) (mp : Mp h2 p a2 n c2 b2 m d2 s) :
      impl_SchedStep_M_j0 (fun n1 n2 a l c a' l' c' n3 n4 h => K (res n1 n2 a l c a' l' c' n3 n4) h) p s.now s.seq a n c b m d kind id q h2 := by
    rw [impl_SchedStep_M_j0]
    refine stepI wf mp fun h3 a3 n3 c3 b3 m3 d3 s3 o3 es3 => o_el_AI2E ?_
    have z2 := k2.le
    have k3 : Keep [] h h3 := k2.trans o3.kp (by
      intro y l t
      simp only [List.not_mem_nil, false_or, List.mem_cons, List.mem_append] at t
      rcases t with t | t | t
      · omega
      · have := fa y t; omega
      · have := fb y t; omega)
    have fa3 : ∀ x ∈ own a3, h.size ≤ x := fun x hx => by
      rcases o3.wa x hx with t | t
      · exact fa x t
      · omega
    have fb3 : ∀ x ∈ own b3, h.size ≤ x := fun x hx => by
      rcases o3.wb x hx with t | t
      · exact fb x t
      · omega
    refine ifB_neI (fun g => ?_) fun g => ?_
    · have er := stepS_err g
      have r3 := r.keep k3
      refine copyT (h0 := h3) r3.t (by omega) Sl.nil (by simp [own]) Keep.refl fun h4 a4 c4 k4 f4 w4 u4 s4 => ?_
      have z3 := o3.kp.le
      have z4 := k4.le
      refine copyL (h0 := h4) (r3.l.keep0 k4) (by omega) Sl.nil (by simp [own]) Keep.refl fun h5 b5 d5 k5 f5 w5 u5 s5 => ?_
      have k35 := k4.tr k5
      have hp5 := k35.blk o3.r.hp (by simp)
      have lp := o3.r.hp.lt
      refine stRow_of [.int .i64 s.now, .int .i64 s.seq, .slice a4 n c4, .slice b5 m d5] _ h5 0 hp5 (by intro v hv; simp at hv; rcases hv with e | e | e | e <;> subst e <;> rfl) (by simp) fun h6 cs' e6 x6 l6 i6 _ k6 => ?_
      have ecs : cs' = [.int .i64 s.now, .int .i64 s.seq, .slice a4 n c4, .slice b5 m d5] := by
        refine List.ext_getElem? fun y => ?_
        by_cases hy : y < 4
        · have := i6 y (by simpa using hy); simpa using this
        · rw [List.getElem?_eq_none (by simp at l6; omega), List.getElem?_eq_none (by simp; omega)]
      subst ecs
      rw [row4 x6]
      have k36 : Keep [] h h6 := (k3.tr k35).trans k6 (by intro y l t; simp at t; omega)
      have z3' := k3.le
      refine z h6 _ _ _ _ _ _ _ _ ⟨k36, fun x hx => by have := f4 x hx; omega, fun x hx => by have := f5 x hx; omega, ?_⟩
      rw [er]
      refine ⟨rfl, rfl, (s4.keep0 k5).keep k6 fun y hy t => ?_, s5.keep k6 fun y hy t => ?_, fun y hy t => ?_⟩
      · simp at t; have := f4 y hy; omega
      · simp at t; have := f5 y hy; omega
      · have := f5 y t; have := s4.lt hy; omega
    · rw [row4 o3.r.hp]
      have e := es3 g
      subst e
      exact z h3 _ _ _ _ _ _ _ _ ⟨k3, fa3, fb3, rfl, rfl, o3.r.t, o3.r.l, o3.r.ap⟩
  have fill (h2 : H) (p : Nat) (a2 b2 : Option Addr) (c2 d2 : Nat) (cs : List Value) (k2 : Keep [] h h2) (hp : h.size ≤ p) (fa : ∀ x ∈ own a2, h.size ≤ x) (fb : ∀ x ∈ own b2, h.size ≤ x) (x : blk h2 p cs) (lc : cs.length = 4)
      (t : SlT h2 a2 n c2 s.ths) (l : SlL h2 b2 m d2 s.lks) (ap : ∀ x ∈ own a2, x ∉ own b2) (pa : p ∉ own a2) (pb : p ∉ own b2) :
      stRow h2 p 0 0 [.int .i64 s.now, .int .i64 s.seq, .slice a2 n c2, .slice b2 m d2] fun h => impl_SchedStep_M_j0 (fun n1 n2 a l c a' l' c' n3 n4 h => K (res n1 n2 a l c a' l' c' n3 n4) h) p s.now s.seq a n c b m d kind id q h := by
    refine stRow_of [.int .i64 s.now, .int .i64 s.seq, .slice a2 n c2, .slice b2 m d2] cs h2 0 x (by intro v hv; simp at hv; rcases hv with e | e | e | e <;> subst e <;> rfl) (by simp; omega) fun h6 cs' e6 x6 l6 i6 _ k6 => ?_
    have ecs : cs' = [.int .i64 s.now, .int .i64 s.seq, .slice a2 n c2, .slice b2 m d2] := by
      refine List.ext_getElem? fun y => ?_
      by_cases hy : y < 4
      · have := i6 y (by simpa using hy); simpa using this
      · rw [List.getElem?_eq_none (by omega), List.getElem?_eq_none (by simp; omega)]
    subst ecs
    refine j0 h6 p a2 b2 c2 d2 (k2.trans k6 (by intro y l t; simp at t; omega)) hp fa fb ⟨x6, t.keep k6 fun y hy u => ?_, l.keep k6 fun y hy u => ?_, ap, pa, pb⟩
    · simp at u; subst u; exact pa hy
    · simp at u; subst u; exact pb hy
  refine ⟨copyT (h0 := h1) r1.t (by omega) Sl.nil (by simp [own]) Keep.refl fun h2 a2 c2 k2 f2 w2 u2 s2 => ⟨?_, ?_⟩, ?_⟩
  · have z2 := k2.le
    refine copyL (h0 := h2) (r1.l.keep0 k2) (by omega) Sl.nil (by simp [own]) Keep.refl fun h3 b3 d3 k3 f3 w3 u3 s3 => newD_of fun p h4 hp x4 k4 => ?_
    have z3 := k3.le
    have l2 := s2.keep0 k3
    exact fill h4 p a2 b3 c2 d3 _ (((k1.tr k2).tr k3).tr k4) (by omega) (fun x hx => by have := f2 x hx; omega) (fun x hx => by have := f3 x hx; omega) x4 rfl (l2.keep0 k4) (s3.keep0 k4) (fun y hy t => by have := f3 y t; have := s2.lt hy; omega) (fun t => by have := l2.lt t; omega) (fun t => by have := s3.lt t; omega)
  · have z2 := k2.le
    refine newD_of fun p h3 hp x3 k3 => copyL (h0 := h3) ((r1.l.keep0 k2).keep0 k3) (by omega) Sl.nil (by simp [own]) Keep.refl fun h4 b4 d4 k4 f4 w4 u4 s4 => ?_
    have z3 := k3.le
    exact fill h4 p a2 b4 c2 d4 _ (((k1.tr k2).tr k3).tr k4) (by omega) (fun x hx => by have := f2 x hx; omega) (fun x hx => by have := f4 x hx; omega) (k4.blk x3 (by simp)) rfl ((s2.keep0 k3).keep0 k4) s4 (fun y hy t => by have := f4 y t; have := s2.lt hy; omega) (fun t => by have := s2.lt t; omega) (fun t => by have := f4 p t; have := x3.lt; omega)
  · refine newD_of fun p h2 hp x2 k2 => copyT (h0 := h2) (r1.t.keep0 k2) (by omega) Sl.nil (by simp [own]) Keep.refl fun h3 a3 c3 k3 f3 w3 u3 s3 => ?_
    have z2 := k2.le
    have z3 := k3.le
    refine copyL (h0 := h3) ((r1.l.keep0 k2).keep0 k3) (by omega) Sl.nil (by simp [own]) Keep.refl fun h4 b4 d4 k4 f4 w4 u4 s4 => ?_
    exact fill h4 p a3 b4 c3 d4 _ (((k1.tr k2).tr k3).tr k4) (by omega) (fun x hx => by have := f3 x hx; omega) (fun x hx => by have := f4 x hx; omega) ((k3.tr k4).blk x2 (by simp)) rfl (s3.keep0 k4) s4 (fun y hy t => by have := f4 y t; have := s3.lt hy; omega) (fun t => by have := f3 p t; have := x2.lt; omega) (fun t => by have := f4 p t; have := x2.lt; omega)
end Go.Proofs.Yteeinamngmmlbaa
