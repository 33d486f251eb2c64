import Derived.Test.YtgcjjapmdbgofaaQw
set_option linter.unusedVariables false
namespace Go.Proofs.Ytgcjjapmdbgofaa
open Go.Eng
variable {h h0 h' : H} {q n pn pc ln c ln' : Nat} {a pa la la' : Option Addr} {bs : List Int} {xs ys : List P} {x : P} {K : Value → H → Prop} {i : Nat} {id to g : Int}
theorem InL_of (ok : OkS xs) : InL xs := fun x mx => by
  obtain ⟨i, hi⟩ := List.mem_iff_getElem?.mp mx
  have o := ok.one i x hi
  have f (s : Int) (t : SetI s) : In s := by have := Set16 t; unfold In; exact ⟨by have := this.1; omega, by have := this.2; omega⟩
  exact ⟨f _ o.sp, f _ o.sm.1, f _ o.si.1, f _ o.sc.1⟩
theorem InI_of (ok : OkS xs) : InI xs := fun x mx => by
  obtain ⟨i, hi⟩ := List.mem_iff_getElem?.mp mx
  have o := ok.one i x hi
  have l := last_nn (i := i) (fun k x _ hk => ok.one k x hk) (by have := get_lt hi; omega)
  have := o.id; have := o.id32
  unfold In64; omega
theorem ok_new : OkP [⟨1, 0, 1, 0, 1, 0, 0, 0, 0, 0⟩] := by
  have one : ∀ (j : Nat) (y : P), ([⟨1, 0, 1, 0, 1, 0, 0, 0, 0, 0⟩] : List P)[j]? = some y → j = 0 ∧ y = ⟨1, 0, 1, 0, 1, 0, 0, 0, 0, 0⟩ := fun j y hy => by
    have := get_lt hy; simp at this; subst this; simp at hy; exact ⟨rfl, hy.symm⟩
  refine ⟨by simp, by simp, fun i x hx => ?_, fun i x hx => ?_⟩
  · obtain ⟨rfl, rfl⟩ := one i x hx
    exact ⟨⟨by decide, by decide, by decide, by decide, by decide, by decide, by decide, by decide, by decide, by decide, fun _ => rfl, by decide +kernel, by decide +kernel, by decide +kernel, fun t => absurd t (by decide)⟩,
      fun _ => ⟨rfl, by decide, rfl⟩, fun t => absurd rfl t⟩
  · obtain ⟨rfl, rfl⟩ := one i x hx
    exact .inl rfl
def Kf (xs : List P) (id : Int) (v : List P × Int × Int × Int) : Prop :=
  v.1.length = xs.length ∧ ∀ (i : Nat) (x y : P), xs[i]? = some x → v.1[i]? = some y → x ≠ y → v.2.1 = 0 ∧ ∃ me, getP xs id = some me ∧ (me.user = 0 ∨ me.user = x.user)
theorem kill_facts (s : Srt xs) : Kf xs id (stepP xs 4 id to g) := by
  have same {r : Int} : Kf xs id (xs, r, 0, 0) := ⟨rfl, fun i x y hx hy ne => by rw [hx] at hy; injection hy with hy; exact absurd hy ne⟩
  rw [stepP, if_neg (by omega)]
  rcases at_cases xs id with f | ⟨i, me, t⟩
  · rw [getP_none.mpr f]; exact same
  rw [t.get, t.pos, Int.toNat_natCast]
  dsimp only
  split
  · exact same
  rw [stepAt, if_neg (by omega), if_neg (by omega), if_neg (by omega), if_pos rfl, killS]
  split
  · exact same
  have ch : ∀ (i : Nat) (x y : P), xs[i]? = some x → (xs.map (killF me to g))[i]? = some y → x ≠ y → killM me to x = true ∧ killA me x = true := fun i x y hx hy ne => by
    rw [List.getElem?_map, hx] at hy; injection hy with hy; subst hy
    cases e1 : killM me to x with
    | false => exact absurd (by rw [killF, e1, Bool.false_and, Bool.false_and, if_neg (by simp)]) ne
    | true => cases e2 : killA me x with
      | false => exact absurd (by rw [killF, e2, Bool.and_false, Bool.false_and, if_neg (by simp)]) ne
      | true => exact ⟨rfl, rfl⟩
  have us (x : P) (t : killA me x = true) : me.user = 0 ∨ me.user = x.user := by simpa [killA] using t
  split
  · rename_i e
    refine ⟨by simp, fun i x y hx hy ne => ?_⟩
    have := ch i x y hx hy ne
    rw [List.any_eq_false] at e
    exact absurd this.1 (e x (List.mem_of_getElem? hx))
  split
  · rename_i e
    refine ⟨by simp, fun i x y hx hy ne => ?_⟩
    have := ch i x y hx hy ne
    rw [List.countP_eq_zero] at e
    exact absurd (by rw [this.1, this.2]; rfl) (e x (List.mem_of_getElem? hx))
  · exact ⟨by simp, fun i x y hx hy ne => ⟨rfl, me, t.get, us x (ch i x y hx hy ne).2⟩⟩
theorem big_spec (k : K (.bool (decide (n > 1048576))) h) : callD Try.prog 5 ⟨[.slice a n c]⟩ h K := by
  refine laws_big_M_call ?_
  rw [laws_big_M]
  rw [show (decide (((n : Nat) : Int) > 1048576)) = decide (n > 1048576) by congr 1; apply propext; omega]
  exact k
theorem user_loop {kx : Int → Option Addr → Nat → Option Addr → Nat → Int → H → Prop} {r : Int} (s : Srt xs) (hs : SlP h pa pn pc xs)
    (kx' : ∀ u, (∀ me, getP xs id = some me → u = me.user) → kx u pa pn la ln r h) :
    ∀ (m i : Nat), i + m = pn → ∀ u, (∀ (j : Nat) (me : P), j < i → xs[j]? = some me → me.id = id → u = me.user) → laws_FnProcGuards_M_l0 kx (m + 1) u i pa pn id la ln r h := by
  have hl := hs.le
  intro m
  induction m with
  | zero =>
    intro i e u hu
    rw [laws_FnProcGuards_M_l0]
    refine ifD_f (by omega) (kx' u fun me hm => ?_)
    rcases at_cases xs id with f | ⟨j, y, t⟩
    · rw [getP_none.mpr f] at hm; cases hm
    · rw [t.get] at hm; injection hm with hm; subst hm
      exact hu j y (by have := get_lt t.1; omega) t.1 t.2.1
  | succ m ih =>
    intro i e u hu
    obtain ⟨x, hx⟩ : ∃ x, xs[i]? = some x := ⟨_, List.getElem?_eq_getElem (by omega)⟩
    rw [laws_FnProcGuards_M_l0]
    rw [wrap_suc (by omega)]
    refine ifD_t (by omega) (hs.gI0 hx (ifB_eqI (fun f => hs.gI hx ?_) fun f => ?_))
    · refine ih (i + 1) (by omega) x.user fun j me hj hm em => ?_
      have := s.uni j i me x hm hx (by rw [em, f]); subst this
      rw [hx] at hm; injection hm with hm; subst hm; rfl
    · refine ih (i + 1) (by omega) u fun j me hj hm em => ?_
      by_cases q : j = i
      · subst q; rw [hx] at hm; injection hm with hm; subst hm; exact absurd em f
      · exact hu j me (by omega) hm em
theorem same_loop {kx : H → Prop} {kr : Bool → H → Prop} {r u : Int} (hs : SlP h pa pn pc xs) (ht : SlP h la pn c ys) (kx' : kx h)
    (f : ∀ (i : Nat) (x y : P), xs[i]? = some x → ys[i]? = some y → x ≠ y → r = 0 ∧ (u = 0 ∨ u = x.user)) :
    ∀ (m i : Nat), i + m = pn → laws_FnProcGuards_M_l1 kx kr (m + 1) u i pa pn la pn r h := by
  have hl := hs.le
  have hl2 := ht.le
  intro m
  induction m with
  | zero =>
    intro i e
    rw [laws_FnProcGuards_M_l1]
    exact ifD_f (by omega) kx'
  | succ m ih =>
    intro i e
    obtain ⟨x, hx⟩ : ∃ x, xs[i]? = some x := ⟨_, List.getElem?_eq_getElem (by omega)⟩
    obtain ⟨y, hy⟩ : ∃ y, ys[i]? = some y := ⟨_, List.getElem?_eq_getElem (by omega)⟩
    rw [laws_FnProcGuards_M_l1]
    have ih := ih (i + 1) (by omega)
    rw [wrap_suc (by omega)]
    refine ifD_t (by omega) (SlP.gRow hs hx (SlP.gRow ht hy (ifB_nb (fun e1 => ?_) fun _ => ih)))
    have ne : x ≠ y := fun e2 => by subst e2; simp at e1
    have := f i x y hx hy ne
    refine ifN_f this.1 (ifB_neI (fun e2 => ?_) fun _ => ih)
    refine hs.gI hx (ifN_f ?_ ih)
    rcases this.2 with t | t
    · exact absurd t e2
    · exact t.symm
theorem guards_spec (s : SlR h a n 1 encB bs) (k : ∀ h', Keep [] h h' → K (.bool true) h') : callD Try.prog 3 ⟨[.slice a n c]⟩ h K := by
  refine laws_FnProcGuards_M_call ?_
  generalize eK : (fun t h => K (.bool t) h) = kr
  have k : ∀ h', Keep [] h h' → kr true h' := fun h' q => by rw [← eK]; exact k h' q
  rw [laws_FnProcGuards_M]
  refine big_spec (asB_of (ifB_b (fun _ => k h Keep.refl) fun _ => ?_))
  refine new_procsI fun b h1 hb k1 s1 => o_el_ALE ?_
  refine ok_spec s1 fun r h2 er k2 => asB_of (ifB_nb (fun f => by rw [er.mpr ok_new] at f; cases f) fun _ => ?_)
  have k02 : Keep [] h h2 := k1.tr k2
  refine draw_step (s.keep0 k02) fun h3 pa pn pc xs kind id to g k3 f3 s3 l1 l32 tr => o_el_TALEAI4EE ?_
  have k03 := k02.tr k3
  have hl := s3.le
  refine okS_spec s3 fun r eS => asB_of (ifB_nb (fun _ => k h3 k03) fun f => ?_)
  have okS := eS.mp f
  have inl := InL_of okS
  have okP := (ok_iff inl).mpr okS
  have tr := tr (InI_of okS)
  have gd := good okP inl
  have ep : procP xs 4 id to g = stepP xs 4 id to g := if_pos okP
  have kf := kill_facts (id := id) (to := to) (g := g) gd.srt
  refine procI_spec s3 (by omega) inl tr.1 tr.2 fun h4 a4 n4 c4 o4 => o_el_TALEAI3EE ?_
  rw [ep] at o4 ⊢
  have l4 := o4.sl.le
  have kl : (stepP xs 4 id to g).1.length = xs.length := kf.1
  have : n4 = pn := by omega
  subst this
  refine ifN_f rfl ?_
  have s4 := s3.keep0 o4.kp
  refine procS_spec s4 (by omega) inl fun h5 a5 n5 c5 o5 => o_el_TALEAI3EE ?_
  rw [ep] at o5 ⊢
  refine ifN_f rfl ⟨n4 + 1, ?_⟩
  have s5 := s4.keep0 o5.kp
  have t5 := o4.sl.keep0 o5.kp
  refine user_loop gd.srt s5 (fun u hu => ⟨n4 + 1, ?_⟩) n4 0 (by omega) (-1) (by intros; omega)
  refine same_loop s5 t5 (k h5 ((k03.tr o4.kp).tr o5.kp)) (fun i x y hx hy ne => ?_) n4 0 (by omega)
  obtain ⟨e, me, hm, t⟩ := kf.2 i x y hx hy ne
  exact ⟨e, by rw [hu me hm]; exact t⟩
end Go.Proofs.Ytgcjjapmdbgofaa
