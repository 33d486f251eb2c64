import Derived.Test.YtgcjjapmdbgofaaQv
set_option linter.unusedVariables false
namespace Go.Proofs.Ytgcjjapmdbgofaa
open Go.Eng
structure Op where
  kind : Int
  id : Int
  to : Int
  g : Int
deriving DecidableEq
def encOp (x : Op) : List Value := [.int .i64 x.kind, .int .i64 x.id, .int .i64 x.to, .int .i64 x.g]
theorem encOp_len (x : Op) : (encOp x).length = 4 := rfl
theorem encOp_one (x : Op) : ∀ v ∈ encOp x, one v = true := by intro v hv; simp [encOp] at hv; rcases hv with h|h|h|h <;> subst h <;> rfl
abbrev SlOp (h : H) (a : Option Addr) (n c : Nat) (xs : List Op) := Sl h a n c 4 encOp xs
theorem encOp_row {h : H} {b o : Nat} {x : Op} (e : ∀ j v, (encOp x)[j]? = some v → Go.Eng.cell h b (o + j) = some v) (K : Int → Int → Int → Int → Prop) :
    ldRow h b o 0 [.int .i64, .int .i64, .int .i64, .int .i64] K = K x.kind x.id x.to x.g := by
  have e0 := e 0 _ rfl
  have e1 := e 1 _ rfl
  have e2 := e 2 _ rfl
  have e3 := e 3 _ rfl
  rw [Nat.add_zero] at e0
  simp only [ldRow, ldF, e0, e1, e2, e3, opt, elF, mapF, if_true, Nat.zero_add, Nat.add_zero, Nat.reduceAdd]
theorem RwOp_row {h : H} {b o c i : Nat} {xs : List Op} {x : Op} (r : Rw h b o c 4 encOp xs) (hx : xs[i]? = some x) (K : Int → Int → Int → Int → Prop) : ldRow h b (o + i * 4) 0 [.int .i64, .int .i64, .int .i64, .int .i64] K = K x.kind x.id x.to x.g :=
  encOp_row (fun j v hv => r.cell hx hv) K
theorem SlOp.row {h : H} {a : Option Addr} {n c i q : Nat} {xs : List Op} {x : Op} (hs : SlOp h a n c xs) (hx : xs[i]? = some x) {K : Int → Int → Int → Int → Prop} (g : K x.kind x.id x.to x.g) (hq : q = i := by rfl) :
    Eng.nz a fun b o => ldRow h b (o + q * 4) 0 [.int .i64, .int .i64, .int .i64, .int .i64] K := by
  subst hq; exact hs.nz (get_lt hx) fun b o r ea => by rw [RwOp_row r hx]; exact g
theorem SlOp.gRow {h : H} {a : Option Addr} {n c i : Nat} {z : Int} {xs : List Op} {x : Op} (hs : SlOp h a n c xs) (hx : xs[i]? = some x) {K : Int → Int → Int → Int → Prop} (g : K x.kind x.id x.to x.g) (hz : z = (i : Int) := by rfl) :
    Eng.req (0 ≤ z ∧ z < (n : Nat)) (Eng.nz a fun b o => ldRow h b (o + z.toNat * 4) 0 [.int .i64, .int .i64, .int .i64, .int .i64] K) := Sl.req hs hx hz (SlOp.row hs hx g (by omega))
theorem RdOp.gRow {h : H} {a : Option Addr} {n i : Nat} {z : Int} {xs : List Op} {x : Op} (hs : SlR h a n 4 encOp xs) (hx : xs[i]? = some x) {K : Int → Int → Int → Int → Prop} (g : K x.kind x.id x.to x.g) (hz : z = (i : Int) := by rfl) :
    Eng.req (0 ≤ z ∧ z < (n : Nat)) (Eng.nz a fun b o => ldRow h b (o + z.toNat * 4) 0 [.int .i64, .int .i64, .int .i64, .int .i64] K) := hs.req (K := fun b o => ldRow h b o 0 [.int .i64, .int .i64, .int .i64, .int .i64] K) hx hz fun b o e => by rw [encOp_row e]; exact g
variable {h h0 h' : H} {q n pn pc : Nat} {a pa : Option Addr} {bs : List Int} {xs : List P} {x : P} {K : Value → H → Prop} {i : Nat}
theorem spoil_spec (hs : SlP h pa pn pc xs) (p : 1 ≤ pn) (nq : q ∉ own pa) (na : ∀ b o, a = some ⟨b, o, none⟩ → 0 < n → b ∉ own pa) (u : Cu h q a n bs)
    (k : ∀ h' ys, ys.length = xs.length → Keep (q :: own pa) h h' → Cu h' q a n bs → SlP h' pa pn pc ys → K (.tuple ⟨[]⟩) h') :
    callD Try.prog 38 ⟨[.pointer (some ⟨q, 0, none⟩), .agg ⟨[.slice pa pn pc]⟩]⟩ h K := by
  have hl := hs.le
  refine spec_l16Spoil_M_call ?_
  generalize eK : (fun h => K (.tuple ⟨[]⟩) h) = kn
  have k : ∀ h' ys, ys.length = xs.length → Keep (q :: own pa) h h' → Cu h' q a n bs → SlP h' pa pn pc ys → kn h' := fun h' ys l kp u s => by rw [← eK]; exact k h' ys l kp u s
  rw [spec_l16Spoil_M]
  refine (Run.start u).below (by omega) fun r h1 r0 r1 d1 => asI_of ?_
  have hr : r.toNat < xs.length := by omega
  have hx : xs[r.toNat]? = some xs[r.toNat] := List.getElem?_eq_getElem _
  generalize xs[r.toNat] = x at hx
  generalize er : r.toNat = i at hx hr ⊢
  refine hs.req hx (by omega) ((d1.sl hs nq).nz hr fun b o _ ea => ?_)
  refine d1.pick [1, -1, 256, 32] fun d h2 _ d2 => ?_
  refine d2.below (by omega) fun w h3 _ _ d3 => asI_of ?_
  have rw3 (h3 : H) (d3 : Run h h3 q a n bs) : Rw h3 b o pc 10 encP xs := by have := d3.sl hs nq; rw [ea] at this; exact this.2
  have fin (j : Nat) (y : P) (v : Value) (h3 : H) (d3 : Run h h3 q a n bs) (hj : j < 10) (hv : encP y = (encP x).set j v) : st h3 b (o + i * 10 + j) v fun h => kn h := by
    refine st_rw (rw3 h3 d3) encP_len hx hj hv fun h4 e4 r4 k4 => ?_
    have sub : Keep (own pa) h3 h4 := by rw [ea]; exact k4
    have s3 : SlP h3 pa pn pc xs := d3.sl hs nq
    refine k h4 (xs.set i y) (by simp) (d3.k.trans sub ?_) (d3.u.keep sub nq na) (s3.upd ea r4 (by simp))
    intro b _ t; simp at t ⊢; exact t
  refine ifB_eqI (fun _ => ?_) fun _ => ifB_eqI (fun _ => ?_) fun _ => ifB_eqI (fun _ => ?_) fun _ => ifB_eqI (fun _ => ?_) fun _ => ifB_eqI (fun _ => ?_) fun _ => ifB_eqI (fun _ => ?_) fun _ => ifB_eqI (fun _ => ?_) fun _ => ifB_eqI (fun _ => ?_) fun _ => ifB_eqI (fun _ => ?_) fun _ => ifB_eqI (fun _ => ?_) fun _ => ?_
  · exact (rw3 h3 d3).I0 hx (fin 0 { x with id := IntKind.i64.wrap (x.id + d) } _ h3 d3 (by decide) rfl)
  · exact d3.below (by omega) fun v h4 _ _ d4 => asI_of (fin 1 { x with parent := v } _ h4 d4 (by decide) rfl)
  · exact (rw3 h3 d3).I hx (fin 2 { x with group := IntKind.i64.wrap (x.group + d) } _ h3 d3 (by decide) rfl)
  · exact (rw3 h3 d3).I hx (fin 3 { x with user := IntKind.i64.wrap (x.user - d) } _ h3 d3 (by decide) rfl)
  · exact (rw3 h3 d3).I hx (fin 4 { x with state := IntKind.i64.wrap (x.state + d) } _ h3 d3 (by decide) rfl)
  · exact (rw3 h3 d3).I hx (fin 5 { x with status := IntKind.i64.wrap (x.status + d) } _ h3 d3 (by decide) rfl)
  · exact set_draw d3 fun v h4 _ d4 => asI_of (fin 6 { x with pending := v } _ h4 d4 (by decide) rfl)
  · exact set_draw d3 fun v h4 _ d4 => asI_of (fin 7 { x with mask := v } _ h4 d4 (by decide) rfl)
  · exact set_draw d3 fun v h4 _ d4 => asI_of (fin 8 { x with ignored := v } _ h4 d4 (by decide) rfl)
  · exact set_draw d3 fun v h4 _ d4 => asI_of (fin 9 { x with caught := v } _ h4 d4 (by decide) rfl)
  · exact k h3 xs rfl (d3.k.mono (by intro b _ t; simp at t; simp [t])) d3.u (d3.sl hs nq)
theorem new_procs (k : ∀ b h', h.size ≤ b → Keep [] h h' → SlP h' (some ⟨b, 0, none⟩) 1 1 [⟨1, 0, 1, 0, 1, 0, 0, 0, 0, 0⟩] → K (.agg ⟨[.slice (some ⟨b, 0, none⟩) 1 1]⟩) h') : callD Try.prog 58 ⟨[]⟩ h K := by
  refine spec_NewProcs_M_call ?_
  rw [spec_NewProcs_M]
  exact oneP rfl fun b h1 hb k1 s1 => k b h1 hb k1 s1
theorem new_procsI (k : ∀ b h', h.size ≤ b → Keep [] h h' → SlP h' (some ⟨b, 0, none⟩) 1 1 [⟨1, 0, 1, 0, 1, 0, 0, 0, 0, 0⟩] → K (.agg ⟨[.slice (some ⟨b, 0, none⟩) 1 1]⟩) h') : callD Try.prog 7 ⟨[]⟩ h K := by
  refine impl_NewProcs_M_call ?_
  rw [impl_NewProcs_M]
  exact oneP rfl fun b h1 hb k1 s1 => k b h1 hb k1 s1
theorem inf30 : (Try.prog.info? 30).map (fun i => (i.size, i.bytes, i.zero.map fun z => (cellsOf z).length)) = some (4, 32, some 4) := by kernel_rfl
/-- the drawing so far: the cursor, the list, all of them new behind h0 -/
structure Dn (h0 h : H) (q : Nat) (a : Option Addr) (n : Nat) (bs : List Int) (pa : Option Addr) (pn pc : Nat) (xs : List P) : Prop where
  k : Keep [q] h0 h
  u : Cu h q a n bs
  s : SlP h pa pn pc xs
  f : ∀ b ∈ own pa, h0.size ≤ b
theorem Dn.lt {q0 : q < h0.size} (d : Dn h0 h q a n bs pa pn pc xs) : q ∉ own pa := fun t => by have := d.f q t; omega
theorem _root_.Go.Eng.Cu.old (u : Cu h0 q a n bs) : ∀ b o, a = some ⟨b, o, none⟩ → 0 < n → b < h0.size := fun b o ea hn => by
  have := u.s.1.1
  obtain ⟨b', o', ea', e⟩ := u.s.2 0 (bs[0]'(by omega)) (List.getElem?_eq_getElem _)
  have := cell_lt (e 0 _ rfl)
  rw [ea] at ea'; injection ea' with ea'; injection ea' with eb _ _; omega
theorem ops_loop {kx : Option Addr → Nat → Nat → Option Addr → Nat → Nat → H → Prop} {m : Int} (u0 : Cu h0 q a n bs) (hm : m ≤ 1000)
    (kx' : ∀ h ga gl gc pa pn pc xs, Dn h0 h q a n bs pa pn pc xs → Inv xs → kx ga gl gc pa pn pc h) :
    ∀ (t i : Nat) h ga gl gc pa pn pc xs (gs : List Op), i + t = m.toNat → gl = i → Dn h0 h q a n bs pa pn pc xs → Inv xs → SlOp h ga gl gc gs → (∀ b ∈ own ga, h0.size ≤ b ∧ b ∉ own pa) →
    spec_l16DrawOps_M_l0 kx (t + 1) (some ⟨q, 0, none⟩) m ga gl gc i pa pn pc h := by
  have q0 := u0.lt
  intro t
  induction t with
  | zero =>
    intro i h ga gl gc pa pn pc xs gs e el d v sg ap
    rw [spec_l16DrawOps_M_l0]
    exact ifD_f (by omega) (kx' h ga gl gc pa pn pc xs d v)
  | succ t ih =>
    intro i h ga gl gc pa pn pc xs gs e el d v sg ap
    rw [spec_l16DrawOps_M_l0]
    have l1 := v.l1
    have l32 := v.l32
    have hl := d.s.le
    have nq := Dn.lt (q0 := q0) d
    have ng : q ∉ own ga := fun t => by have := ap q t; omega
    refine ifD_t (by omega) (op_spec d.s (by omega) nq d.u fun kind id to g h1 _ d1 => o_el_AI4E ?_)
    have s1 := d1.sl d.s nq
    have sg1 := d1.sl sg ng
    have z0 := d.k.le
    have z1 := d1.k.le
    refine newL_of [(⟨kind, id, to, g⟩ : Op)] encOp_len fun b h2 hb k2 sb => ?_
    refine append_inf inf30 (by decide) encOp_len encOp_one (sg1.keep0 k2) sb (by omega) (by omega) fun ga3 gc3 h3 k3 w3 s3 => ?_
    have z2 := k2.le
    have z3 := k3.le
    have k13 : Keep (own ga) h1 h3 := k2.trans k3 (by intro b _ t; simpa using t)
    have k03 : Keep [q] h0 h3 := (d.k.tr d1.k).trans k13 (by
      intro b l t; rcases t with t | t
      · exact t
      · have := (ap b t).1; omega)
    have p3 : SlP h3 pa pn pc xs := s1.keep k13 fun b hb t => (ap b t).2 hb
    have u3 : Cu h3 q a n bs := d1.u.keep k13 ng fun b o ea hn t => by have := u0.old b o ea hn; have := (ap b t).1; omega
    refine step_spec p3 (by omega) v.ok fun h4 pa4 pn4 pc4 o4 => o_el_TALEAI3EE ?_
    have v4 := v.step (kind := kind) (id := id) (to := to) (g := g)
    generalize (stepP xs kind id to g).1 = ys at o4 v4
    rw [wrap_suc (by omega)]
    have w3' : ∀ b ∈ own ga3, h0.size ≤ b ∧ b ∉ own pa ∧ b < h3.size := fun b hb => by
      have lb := s3.lt hb
      rcases w3 b hb with t | t
      · exact ⟨(ap b t).1, (ap b t).2, lb⟩
      · exact ⟨by omega, fun t2 => by have := s1.lt t2; omega, lb⟩
    have z4 := o4.kp.le
    refine ih (i + 1) h4 ga3 _ gc3 pa4 pn4 pc4 ys (gs ++ [⟨kind, id, to, g⟩]) (by omega) (by simp; omega) ⟨k03.trans o4.kp ?_, u3.keep o4.kp nq ?_, o4.sl, fun b hb => ?_⟩ v4 ?_ fun b hb => ⟨(w3' b hb).1, fun t => ?_⟩
    · intro b l t; rcases t with t | t
      · exact t
      · have := d.f b t; omega
    · intro b o ea hn t; have := u0.old b o ea hn; have := d.f b t; omega
    · rcases o4.was b hb with t | t
      · exact d.f b t
      · omega
    · exact s3.keep o4.kp fun b hb => (w3' b hb).2.1
    · rcases o4.was b t with t | t
      · exact (w3' b hb).2.1 t
      · have := (w3' b hb).2.2; omega
theorem draw_ops {m : Int} (u : Cu h q a n bs) (hm : m ≤ 1000) (k : ∀ h' ga gl gc pa pn pc xs, Dn h h' q a n bs pa pn pc xs → Inv xs → K (.tuple ⟨[.agg ⟨[.slice pa pn pc]⟩, .slice ga gl gc]⟩) h') :
    callD Try.prog 34 ⟨[.pointer (some ⟨q, 0, none⟩), .int .i64 m]⟩ h K := by
  refine spec_l16DrawOps_M_call ?_
  generalize eK : (fun a l c a' l' c' h => K (.tuple ⟨[.agg ⟨[.slice a' l' c']⟩, .slice a l c]⟩) h) = kr
  rw [spec_l16DrawOps_M]
  refine new_procs fun b h1 hb k1 s1 => o_el_ALE (newE_of (enc := encOp) (s := 4) fun g h2 hg k2 s2 => ?_)
  have z1 := k1.le
  have z2 := k2.le
  have lb := s1.lt (b := b) (by simp [own])
  refine ⟨m.toNat + 1, ops_loop u hm (fun h3 ga gl gc pa pn pc xs d v => ?_) m.toNat 0 h2 _ 0 0 _ 1 1 _ [] (by omega) rfl ⟨(k1.tr k2).mono (by simp), (u.keep0 k1).keep0 k2, s1.keep0 k2, ?_⟩ Inv.new s2 ?_⟩
  · rw [← eK]; exact k h3 ga gl gc pa pn pc xs d v
  · intro d hd; simp [own] at hd; omega
  · intro d hd; simp [own] at hd ⊢; omega
theorem fill_loop {kx : Option Addr → Option Addr → Nat → Nat → H → Prop} (u0 : Cu h0 q a n bs)
    (kx' : ∀ h pa pn pc xs, Dn h0 h q a n bs pa pn pc xs → Inv xs → kx (some ⟨q, 0, none⟩) pa pn pc h) :
    ∀ (t : Nat) h pa pn pc xs, pn + t = 32 → Dn h0 h q a n bs pa pn pc xs → Inv xs → spec_l16DrawProcs_M_l0 kx (t + 1) (some ⟨q, 0, none⟩) pa pn pc h := by
  have q0 := u0.lt
  intro t
  induction t with
  | zero =>
    intro h pa pn pc xs e d v
    rw [spec_l16DrawProcs_M_l0]
    exact ifD_f (by omega) (kx' h pa pn pc xs d v)
  | succ t ih =>
    intro h pa pn pc xs e d v
    rw [spec_l16DrawProcs_M_l0]
    have hl := d.s.le
    have l1 := v.l1
    have fr := v.room (by omega)
    obtain ⟨x0, hx0⟩ : ∃ x0, xs[0]? = some x0 := ⟨_, List.getElem?_eq_getElem (by omega)⟩
    have ok := v.ok
    refine ifD_t (by omega) (fork_spec (i := 0) d.s hx0 (by omega) ok.f1 (by rw [hl.1]; exact ok.fl) (fun g => by omega) fun h1 a1 c1 g o1 => o_el_TALEAI3EE ?_)
    refine ih h1 a1 (pn + 1) c1 _ (by omega) ⟨d.k.trans o1.kp ?_, d.u.keep o1.kp (Dn.lt (q0 := q0) d) ?_, o1.sl, fun b hb => ?_⟩ (v.fork hx0 (v.r0 x0 hx0) fr)
    · intro b l t; rcases t with t | t
      · exact t
      · have := d.f b t; omega
    · intro b o ea hn t; have := u0.old b o ea hn; have := d.f b t; omega
    · rcases o1.was b hb with t | t
      · exact d.f b t
      · have := d.k.le; omega
theorem draw_procs (u : Cu h q a n bs) (k : ∀ h' pa pn pc xs, Dn h h' q a n bs pa pn pc xs → 1 ≤ xs.length → xs.length ≤ 32 → K (.agg ⟨[.slice pa pn pc]⟩) h') :
    callD Try.prog 21 ⟨[.pointer (some ⟨q, 0, none⟩)]⟩ h K := by
  have q0 := u.lt
  refine spec_l16DrawProcs_M_call ?_
  generalize eK : (fun a l c h => K (.agg ⟨[.slice a l c]⟩) h) = kr
  have k : ∀ h' pa pn pc xs, Dn h h' q a n bs pa pn pc xs → 1 ≤ xs.length → xs.length ≤ 32 → kr pa pn pc h' := fun h' pa pn pc xs d l1 l2 => by rw [← eK]; exact k h' pa pn pc xs d l1 l2
  have j1 (h1 : H) (pa pn pc xs) (d : Dn h h1 q a n bs pa pn pc xs) (v : Inv xs) : spec_l16DrawProcs_M_j1 kr (some ⟨q, 0, none⟩) pa pn pc h1 := by
    rw [spec_l16DrawProcs_M_j1]
    have l1 := v.l1
    have l32 := v.l32
    refine once_spec d.u fun t h2 k2 u2 => asB_of (ifB_b (fun _ => ?_) fun _ => ?_)
    · have d2 : Run h1 h2 q a n bs := ⟨k2, u2⟩
      have s2 := d2.sl d.s (Dn.lt (q0 := q0) d)
      refine spoil_spec s2 (by have := s2.le; omega) (Dn.lt (q0 := q0) d) (fun b o ea hn t => by have := u.old b o ea hn; have := d.f b t; omega) u2 fun h3 ys ly k3 u3 s3 => o_el_TE ?_
      refine k h3 pa pn pc ys ⟨(d.k.tr k2).trans k3 ?_, u3, s3, d.f⟩ (by omega) (by omega)
      intro b l t
      simp only [List.mem_cons] at t
      rcases t with (t | t) | t | t
      · simp [t]
      · cases t
      · simp [t]
      · have := d.f b t; omega
    · exact k h2 pa pn pc xs ⟨d.k.tr k2, u2, (Run.mk k2 u2).sl d.s (Dn.lt (q0 := q0) d), d.f⟩ l1 l32
  rw [spec_l16DrawProcs_M]
  refine below_pos u (by omega) fun r h1 r0 r1 k1 u1 => asI_of ?_
  refine draw_ops u1 (by omega) fun h2 ga gl gc pa pn pc xs d2 v2 => o_el_TALELE ?_
  have d : Dn h h2 q a n bs pa pn pc xs := ⟨k1.tr d2.k, d2.u, d2.s, fun b hb => by have := d2.f b hb; have := k1.le; omega⟩
  refine once_spec d.u fun t h3 k3 u3 => ?_
  have d3 : Dn h h3 q a n bs pa pn pc xs := ⟨d.k.tr k3, u3, (Run.mk k3 u3).sl d.s (Dn.lt (q0 := q0) d), d.f⟩
  refine asB_of (ifB_b (fun _ => ?_) fun _ => j1 h3 _ _ _ _ d3 v2)
  have hl := d3.s.le
  have := v2.l32
  exact ⟨32 - pn + 1, fill_loop u (fun h4 pa pn pc ys d4 v4 => j1 h4 _ _ _ _ d4 v4) (32 - pn) h3 pa pn pc xs (by omega) d3 v2⟩
theorem draw_step (s : SlR h a n 1 encB bs) {c : Nat} (k : ∀ h' pa pn pc xs kind id to g, Keep [] h h' → (∀ b ∈ own pa, h.size ≤ b) → SlP h' pa pn pc xs → 1 ≤ xs.length → xs.length ≤ 32 → (InI xs → In64 to) →
      K (.tuple ⟨[.agg ⟨[.slice pa pn pc]⟩, .agg ⟨[.int .i64 kind, .int .i64 id, .int .i64 to, .int .i64 g]⟩]⟩) h') :
    callD Try.prog 8 ⟨[.slice a n c]⟩ h K := by
  refine spec_DrawProcStep_M_call ?_
  rw [spec_DrawProcStep_M]
  refine new_spec s fun q h1 q0 q1 k1 u1 => asP_of ?_
  refine draw_procs u1 fun h2 pa pn pc xs d l1 l32 => o_el_ALE ?_
  have hl := d.s.le
  refine op_spec d.s (by omega) (Dn.lt (q0 := q1) d) d.u fun kind id to g h3 t d3 => o_el_AI4E ?_
  have k02 : Keep [q] h h2 := k1.trans d.k (by intro b l t; simpa using t)
  have k03 : Keep [] h h3 := k02.trans d3.k (by intro b l t; simp at t; omega)
  refine k h3 pa pn pc xs kind id to g k03 (fun b hb => ?_) (d3.sl d.s (Dn.lt (q0 := q1) d)) l1 l32 t
  have := d.f b hb; have := k1.le; omega
end Go.Proofs.Ytgcjjapmdbgofaa
