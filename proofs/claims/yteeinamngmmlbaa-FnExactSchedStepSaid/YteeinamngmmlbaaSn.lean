import Derived.Test.YteeinamngmmlbaaSm
set_option linter.unusedVariables false
/-! The program's step. -/
namespace Go.Proofs.Yteeinamngmmlbaa
open Go.Eng
variable {h h0 h1 h2 h' : H} {a b a' b' : Option Addr} {n c m d n' c' m' d' p o : Nat} {s s0 s' : S} {K : Value → H → Prop} {id k on q lock kind : Int} {i j : Nat} {t x w : T} {l : L} {xs : List T} {zs ys : List L}
theorem code_ret {v : Int} {kr : Int → Int → H → Prop} (z : kr v 0 h) : callD Try.prog 42 ⟨[.int .i64 v]⟩ h fun v h => elF False (.agg [.int .i64, .int .i64]) v fun x y => kr x y h := by
  refine impl_Sched_step_c1_M_call ?_
  rw [impl_Sched_step_c1_M]
  exact o_el_AI2E z
theorem place_loopI {kx : Option Addr → Int → Int → H → Prop} {fr : Nat} (r : Mp h p a n c b m d s) (fl : fr ≤ n) (hn : n ≤ 1048576) (eq : ∀ (j : Nat) (y : T), j < fr → s.ths[j]? = some y → y.id = j) (st : ∀ y, s.ths[fr]? = some y → y.id ≠ fr)
    (z : kx (some ⟨p, 0, none⟩) fr q h) : ∀ (t i : Nat), i + t = fr → impl_Sched_step_M_l0 kx (t + 1) (some ⟨p, 0, none⟩) i q h := by
  have hs := r.t
  have hl := hs.le
  intro t
  induction t with
  | zero =>
    intro i e
    have : i = fr := by omega
    subst this
    rw [impl_Sched_step_M_l0, nz_some, ldL_eq (r.hp.cell (0 + 2))]
    refine ifB_dec (fun f => ?_) fun f => z
    obtain ⟨y, hy⟩ : ∃ y, s.ths[i]? = some y := ⟨_, List.getElem?_eq_getElem (by omega)⟩
    rw [nz_some, ldL_eq (r.hp.cell (0 + 2))]
    exact hs.gI0 hy (ifE_f (st y hy) z)
  | succ t ih =>
    intro i e
    obtain ⟨y, hy⟩ : ∃ y, s.ths[i]? = some y := ⟨_, List.getElem?_eq_getElem (by omega)⟩
    rw [impl_Sched_step_M_l0, nz_some, ldL_eq (r.hp.cell (0 + 2))]
    refine ifD_t (by omega) ?_
    rw [nz_some, ldL_eq (r.hp.cell (0 + 2))]
    refine hs.gI0 hy (ifE_t (eq i y (by omega) hy) ?_)
    rw [wrap_suc (by omega)]
    exact ih (i + 1) (by omega)
theorem wake_loopI {kx : Option Addr → H → Prop} {w : S} (kx' : ∀ h', MO h0 p a b w h' a n c b m d → kx (some ⟨p, 0, none⟩) h') :
    ∀ (q i : Nat) h s, i + q = n → Wf s → MO h0 p a b s h a n c b m d → wakeL q i s = w → impl_Sched_step_M_l1 kx (q + 1) (some ⟨p, 0, none⟩) n i h := by
  intro q
  induction q with
  | zero =>
    intro i h s e v o ew
    rw [impl_Sched_step_M_l1]
    rw [wakeL] at ew; subst ew
    exact ifD_f (by omega) (kx' _ o)
  | succ q ih =>
    intro i h s e v o ew
    have hs := o.r.t
    have hl := hs.le
    have l32 := v.t.len
    obtain ⟨x, hx⟩ : ∃ x, s.ths[i]? = some x := ⟨_, List.getElem?_eq_getElem (by omega)⟩
    have e1 : wake1 i s = if x.state = 3 ∧ x.till ≤ s.now then standF s i x s.now else s := by unfold wake1; rw [hx]
    rw [wakeL, e1] at ew
    obtain ⟨b0, o0, ea, _⟩ := hs.ex (get_lt hx)
    subst ea
    rw [impl_Sched_step_M_l1, wrap_suc (by omega)]
    have no (f : ¬ (x.state = 3 ∧ x.till ≤ s.now)) : impl_Sched_step_M_l1 kx (q + 1) (some ⟨p, 0, none⟩) n ((i + 1 : Nat) : Int) h := by
      rw [if_neg f] at ew
      exact ih (i + 1) h s (by omega) v o ew
    refine ifD_t (by omega) ?_
    rw [nz_some, ldL_eq (o.r.hp.cell (0 + 2))]
    refine hs.req hx rfl (nz_of ?_)
    rw [Int.toNat_natCast]
    refine hs.rw.I hx (ifB_eqI (fun f => hs.rw.I hx (nz_of ?_)) fun f => no fun t => f t.1)
    rw [ldI_eq (o.r.hp.cell 0)]
    refine ifB_dec (fun g => ?_) fun g => no fun t => g t.2
    rw [if_pos ⟨f, g⟩] at ew
    exact standI o.r hx fun h1 o1 => o_el_TE (ih (i + 1) h1 _ (by omega) (v.stand hx v.now.1 (Int.le_refl _)) (o.trans o1) ew)
theorem pos_loopI {kx : Option Addr → Int → Int → Int → H → Prop} {fr : Nat} {z1 : Int} (r : Mp h p a n c b m d s) (fl : fr ≤ m) (hm : m ≤ 1048576) (eq : ∀ (j : Nat) (y : L), j < fr → s.lks[j]? = some y → y.id < q) (st : ∀ y, s.lks[fr]? = some y → ¬ y.id < q)
    (z : kx (some ⟨p, 0, none⟩) fr z1 q h) : ∀ (t i : Nat), i + t = fr → impl_Sched_step_M_l5 kx (t + 1) (some ⟨p, 0, none⟩) i z1 q h := by
  have hs := r.l
  have hl := hs.le
  intro t
  induction t with
  | zero =>
    intro i e
    have : i = fr := by omega
    subst this
    rw [impl_Sched_step_M_l5, nz_some, ldL_eq (r.hp.cell (0 + 3))]
    refine ifB_dec (fun f => ?_) fun f => z
    obtain ⟨y, hy⟩ : ∃ y, s.lks[i]? = some y := ⟨_, List.getElem?_eq_getElem (by omega)⟩
    rw [nz_some, ldL_eq (r.hp.cell (0 + 3))]
    exact hs.gI0 hy (ifD_f (st y hy) z)
  | succ t ih =>
    intro i e
    obtain ⟨y, hy⟩ : ∃ y, s.lks[i]? = some y := ⟨_, List.getElem?_eq_getElem (by omega)⟩
    rw [impl_Sched_step_M_l5, nz_some, ldL_eq (r.hp.cell (0 + 3))]
    refine ifD_t (by omega) ?_
    rw [nz_some, ldL_eq (r.hp.cell (0 + 3))]
    refine hs.gI0 hy (ifD_t (eq i y (by omega) hy) ?_)
    rw [wrap_suc (by omega)]
    exact ih (i + 1) (by omega)
/-- by place, by test -/
theorem ins_filter {y : L} : ∀ (zs : List L), zs.Pairwise (fun x y => x.id < y.id) → (∀ z ∈ zs, z.id ≠ q) →
    ∃ fr, fr ≤ zs.length ∧ (∀ (j : Nat) (y : L), j < fr → zs[j]? = some y → y.id < q) ∧ (∀ y, zs[fr]? = some y → ¬ y.id < q) ∧
      zs.take fr ++ [y] ++ zs.drop fr = zs.filter (fun l => decide (l.id < q)) ++ [y] ++ zs.filter (fun l => decide (l.id > q)) := by
  intro zs
  induction zs with
  | nil => intro _ _; exact ⟨0, by simp, by intro j y h; omega, by simp, by simp⟩
  | cons x zs ih =>
    intro inc no
    have inc2 := List.pairwise_cons.mp inc
    have nx := no x (by simp)
    by_cases f : x.id < q
    · obtain ⟨fr, h1, h2, h3, h4⟩ := ih inc2.2 fun z mz => no z (by simp [mz])
      refine ⟨fr + 1, by simp; omega, fun j y hj hy => ?_, fun y hy => h3 y (by simpa using hy), ?_⟩
      · cases j with
        | zero => simp at hy; subst hy; exact f
        | succ j => exact h2 j y (by omega) (by simpa using hy)
      · rw [List.filter_cons, if_pos (by simpa using f), List.filter_cons, if_neg (by simp; omega)]
        simp only [List.take_succ_cons, List.drop_succ_cons, List.cons_append]
        rw [h4]
    · have gt : ∀ z ∈ x :: zs, z.id > q := fun z mz => by
        rcases List.mem_cons.mp mz with t | t
        · subst t; omega
        · have := inc2.1 z t; omega
      refine ⟨0, by simp, by intro j y h; omega, fun y hy => by simp at hy; subst hy; exact f, ?_⟩
      rw [List.filter_eq_nil_iff.mpr (fun z mz => by have := gt z mz; simp; omega), List.filter_eq_self.mpr (fun z mz => by have := gt z mz; simpa using this)]
      simp
end Go.Proofs.Yteeinamngmmlbaa
