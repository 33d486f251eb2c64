import Derived.Test.YteeinamngmmlbaaSo
import Derived.Test.YteeinamngmmlbaaMaps
set_option linter.unusedVariables false
/-! The program's test of a state; both steps whole. -/
namespace Go.Proofs.Yteeinamngmmlbaa
open Go.Eng
variable {h h0 h1 h2 h' : H} {now seq : Int} {a b a' b' : Option Addr} {n c m d n' c' m' d' p o : Nat} {s s0 s' : S} {K : Value → H → Prop} {id k on q lock kind : Int} {i j : Nat} {t x w : T} {l : L} {xs : List T} {zs ys : List L}
/-- one thread, as the program tests it -/
structure OneI (s : S) (i : Nat) (t : T) : Prop where
  pr : prevT s.ths i t.id
  o : ThO s t
  ln : ∀ (k : Nat) (y : T), k < i → s.ths[k]? = some y → y.line ≠ t.line
def lastT (xs : List T) (i : Nat) : Int := match i with | 0 => -1 | i + 1 => match xs[i]? with | some x => x.id | none => 0
def lastL (xs : List L) (i : Nat) : Int := match i with | 0 => -1 | i + 1 => match xs[i]? with | some x => x.id | none => 0
theorem kok : keyOk Try.prog 2 (.int .i64 k) = true := by
  have : (match Try.prog.underlying 2 with | some (.int _) => true | _ => false) = true := by kernel_rfl
  unfold keyOk
  split at this
  · rename_i e; rw [e]
  · cases this
theorem zok : zeroOf Try.prog 4 = some (.bool false) := by kernel_rfl
theorem okI_T {kx : Nat → H → Prop} {kr : Bool → H → Prop} {mr : Nat} (r0 : Mp h0 p a n c b m d s)
    (kx' : ∀ h', Keep [mr] h0 h' → (∀ (i : Nat) (t : T), s.ths[i]? = some t → OneI s i t) → kx p h') (kf : ∀ h', Keep [mr] h0 h' → ¬ OkS s → kr false h') (m0 : mr ≠ p) (ma : mr ∉ own a) (mb : mr ∉ own b) :
    ∀ q i h, i + q = n → Keep [mr] h0 h → MapI h mr .i64 (setKv ((s.ths.take i).map (·.line))) → (∀ (k : Nat) (t : T), k < i → s.ths[k]? = some t → OneI s k t) → impl_SchedOk_M_l0 kx kr (q + 1) p (some mr) (lastT s.ths i) a n n i h := by
  have hl := r0.t.le
  intro q
  induction q with
  | zero =>
    intro i h e kp mp hi
    rw [impl_SchedOk_M_l0]
    exact ifD_f (by omega) (kx' h kp fun k t ht => hi k t (by have := get_lt ht; omega) ht)
  | succ q ih =>
    intro i h e kp mp hi
    obtain ⟨x, hx⟩ : ∃ x, s.ths[i]? = some x := ⟨_, List.getElem?_eq_getElem (by omega)⟩
    have r : Mp h p a n c b m d s := ⟨kp.blk r0.hp (by simp; exact fun t => m0 t.symm), r0.t.keep kp fun y hy t => by simp at t; subst t; exact ma hy, r0.l.keep kp fun y hy t => by simp at t; subst t; exact mb hy, r0.ap, r0.pa, r0.pb⟩
    have no (h1 : H) (k1 : Keep [mr] h0 h1) (f : ¬ OneI s i x) : kr false h1 := kf h1 k1 fun ok => f ⟨(ok.th i x hx).1, (ok.th i x hx).2, fun k y hk hy => ok.ln i k x y hx hy hk⟩
    have pl : (prevT s.ths i x.id ∧ 0 ≤ x.id) ↔ lastT s.ths i < x.id := by
      cases i with
      | zero =>
        simp only [lastT]
        exact ⟨fun t => by omega, fun t => ⟨fun j y e _ => by omega, by omega⟩⟩
      | succ i =>
        obtain ⟨y, hy⟩ : ∃ y, s.ths[i]? = some y := ⟨_, List.getElem?_eq_getElem (by omega)⟩
        have y0 := (hi i y (by omega) hy).o.i0
        simp only [lastT, hy]
        exact ⟨fun t => t.1 i y rfl hy, fun t => ⟨fun j z e hz => by
          have : j = i := by omega
          subst this; rw [hy] at hz; injection hz with hz; subst hz; exact t, by omega⟩⟩
    rw [impl_SchedOk_M_l0]
    refine ifD_t (by omega) (SlT.gRow r.t hx ?_)
    refine ifB_dec (fun f => no h kp fun o => by have := pl.mp ⟨o.pr, o.o.i0⟩; omega) fun f0 => ?_
    have pr := pl.mpr (by omega)
    refine ifB_dec (fun f => no h kp fun o => by have := o.o.i1; omega) fun f1 => ?_
    refine ifB_dec (fun f => no h kp fun o => by have := o.o.b0; omega) fun f2 => ifB_dec (fun f => no h kp fun o => by have := o.o.b1; omega) fun f3 => ?_
    refine ifB_dec (fun f => no h kp fun o => by have := o.o.l0; omega) fun f4 => ?_
    rw [ldI_eq (r.hp.cell 1)]
    refine ifB_dec (fun f => no h kp fun o => by have := o.o.l1; omega) fun f5 => ?_
    refine set_look mp kok zok (fun mem => ?_) fun nm => ?_
    · rw [ifB_t]
      refine no h kp fun o => ?_
      obtain ⟨y, my, ey⟩ := List.mem_map.mp mem
      obtain ⟨k, hk⟩ := List.mem_iff_getElem?.mp my
      rw [List.getElem?_take] at hk
      split at hk
      · exact o.ln k y (by omega) hk ey
      · cases hk
    rw [ifB_f]
    refine ifB_dec (fun f => no h kp fun o => by have := o.o.e0; omega) fun f6 => ifB_dec (fun f => no h kp fun o => by have := o.o.e1; omega) fun f7 => ?_
    refine ifB_dec (fun f => no h kp fun o => by have := o.o.s0; omega) fun f8 => ?_
    rw [ldI_eq (r.hp.cell 0)]
    refine ifB_dec (fun f => no h kp fun o => by have := o.o.s1; omega) fun f9 => ?_
    refine set_put mp nm kok fun h1 k1 e1 mp1 => ?_
    have kp1 := kp.tr k1
    have r1 : Mp h1 p a n c b m d s := ⟨k1.blk r.hp (by simp; exact fun t => m0 t.symm), r.t.keep k1 fun y hy t => by simp at t; subst t; exact ma hy, r.l.keep k1 fun y hy t => by simp at t; subst t; exact mb hy, r.ap, r.pa, r.pb⟩
    have nx (st : x.state = 1 ∧ x.wait = -1 ∧ x.till = 0 ∨ x.state = 2 ∧ (getL s.lks x.wait).isSome ∧ x.till = 0 ∨ x.state = 3 ∧ x.wait = -1 ∧ 0 < x.till) : impl_SchedOk_M_l0 kx kr (q + 1) p (some mr) x.id a n n (IntKind.i64.wrap ((i : Int) + 1)) h1 := by
      rw [wrap_suc (by omega)]
      have := ih (i + 1) h1 (by omega) kp1 (by rw [List.take_add_one, hx]; simpa using mp1) fun k y hk hy => by
        by_cases g : k = i
        · subst g; rw [hx] at hy; injection hy with hy; subst hy
          refine ⟨pr.1, ⟨pr.2, by omega, by omega, by omega, by omega, by omega, by omega, by omega, by omega, by omega, st⟩, fun k' y hk' hy' e => nm (List.mem_map.mpr ⟨y, ?_, e⟩)⟩
          exact List.mem_iff_getElem?.mpr ⟨k', by rw [List.getElem?_take, if_pos hk', hy']⟩
        · exact hi k y (by omega) hy
      simpa only [lastT, hx] using this
    have no1 (f : ¬ (x.state = 1 ∧ x.wait = -1 ∧ x.till = 0 ∨ x.state = 2 ∧ (getL s.lks x.wait).isSome ∧ x.till = 0 ∨ x.state = 3 ∧ x.wait = -1 ∧ 0 < x.till)) : kr false h1 := no h1 kp1 fun o => f o.o.st
    refine ifB_eqI (fun g => ?_) fun g1 => ifB_eqI (fun g => ?_) fun g2 => ifB_eqI (fun g => ?_) fun g3 => ?_
    · refine ifB_neI (fun f => no1 (by omega)) fun f => ifB_neI (fun f => no1 (by omega)) fun f2 => nx (.inl ⟨g, f, f2⟩)
    · refine ifB_neI (fun f => no1 (by omega)) fun f => ?_
      refine lockI r1 (fun u => asP_of ?_) fun j b2 o2 l u eb => asP_of ?_
      · refine no1 ?_
        rw [getL_none.mpr u]; simp; omega
      · exact ifP_some (nx (.inr (.inl ⟨g, by rw [u.get]; rfl, f⟩)))
    · refine ifB_neI (fun f => no1 (by omega)) fun f => ifB_dec (fun f => no1 (by omega)) fun f2 => nx (.inr (.inr ⟨g, f, by omega⟩))
    · exact no1 (by omega)
theorem okI_L {kx : Nat → H → Prop} {kr : Bool → H → Prop} (r : Mp h p a n c b m d s)
    (kx' : (∀ (i : Nat) (l : L), s.lks[i]? = some l → LkO s i l) → kx p h) (kf : ¬ OkS s → kr false h) :
    ∀ q i, i + q = m → (∀ (k : Nat) (l : L), k < i → s.lks[k]? = some l → LkO s k l) → impl_SchedOk_M_l1 kx kr (q + 1) p (lastL s.lks i) b m m i h := by
  have hl := r.l.le
  intro q
  induction q with
  | zero =>
    intro i e hi
    rw [impl_SchedOk_M_l1]
    exact ifD_f (by omega) (kx' fun k t ht => hi k t (by have := get_lt ht; omega) ht)
  | succ q ih =>
    intro i e hi
    obtain ⟨x, hx⟩ : ∃ x, s.lks[i]? = some x := ⟨_, List.getElem?_eq_getElem (by omega)⟩
    have no (f : ¬ LkO s i x) : kr false h := kf fun ok => f (ok.lk i x hx)
    have pl : (prevL s.lks i x.id ∧ 0 ≤ x.id) ↔ lastL s.lks i < x.id := by
      cases i with
      | zero =>
        simp only [lastL]
        exact ⟨fun t => by omega, fun t => ⟨fun j y e _ => by omega, by omega⟩⟩
      | succ i =>
        obtain ⟨y, hy⟩ : ∃ y, s.lks[i]? = some y := ⟨_, List.getElem?_eq_getElem (by omega)⟩
        have y0 := (hi i y (by omega) hy).i0
        simp only [lastL, hy]
        exact ⟨fun t => t.1 i y rfl hy, fun t => ⟨fun j z e hz => by
          have : j = i := by omega
          subst this; rw [hy] at hz; injection hz with hz; subst hz; exact t, by omega⟩⟩
    rw [impl_SchedOk_M_l1]
    refine ifD_t (by omega) (SlL.gRow r.l hx ?_)
    refine ifB_dec (fun f => no fun o => by have := pl.mp ⟨o.pr, o.i0⟩; omega) fun f0 => ?_
    have pr := pl.mpr (by omega)
    refine ifB_dec (fun f => no fun o => by have := o.i1; omega) fun f1 => ?_
    refine threadI r (fun f => asP_of ?_) fun i2 b2 o2 y u ea => asP_of ?_
    · exact no fun o => by have := o.ow; rw [getT_none.mpr f] at this; cases this
    · refine ifP_some ?_
      rw [wrap_suc (by omega)]
      have := ih (i + 1) (by omega) fun k y hk hy => by
        by_cases g : k = i
        · subst g; rw [hx] at hy; injection hy with hy; subst hy; exact ⟨pr.2, by omega, pr.1, by rw [u.get]; rfl⟩
        · exact hi k y (by omega) hy
      simpa only [lastL, hx] using this
end Go.Proofs.Yteeinamngmmlbaa
