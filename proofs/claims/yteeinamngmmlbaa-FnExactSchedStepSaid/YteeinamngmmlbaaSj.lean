import Derived.Test.YteeinamngmmlbaaSi
set_option linter.unusedVariables false
/-! The program's looks. -/
namespace Go.Proofs.Yteeinamngmmlbaa
open Go.Eng
variable {h h0 h' : H} {a b : Option Addr} {n c m d p o : Nat} {s s' : S} {K : Value → H → Prop} {id k on q : Int} {i j : Nat} {t x w : T} {l : L} {xs : List T} {zs : List L}
abbrev ptr (p : Nat) : Value := .pointer (some ⟨p, 0, none⟩)
theorem thread_loopI {kx : H → Prop} {kr : Nat → Nat → H → Prop} (r : Mp h p a n c b m d s)
    (k1 : (∀ x ∈ s.ths, x.id ≠ id) → kx h) (k2 : ∀ (i b o : Nat) x, AtT s.ths id i x → a = some ⟨b, o, none⟩ → kr b (o + i * 8) h) :
    ∀ q i : Nat, i + q = n → (∀ k x, k < i → s.ths[k]? = some x → x.id ≠ id) → impl_Sched_thread_M_l0 kx kr (q + 1) (some ⟨p, 0, none⟩) id n i h := by
  have hs := r.t
  have hl := hs.le
  intro q
  induction q with
  | zero =>
    intro i e no
    rw [impl_Sched_thread_M_l0]
    refine ifD_f (by omega) (k1 fun x hx => ?_)
    obtain ⟨k, hk, e⟩ := List.getElem_of_mem hx
    exact no k x (by omega) (by rw [List.getElem?_eq_getElem hk, e])
  | succ q ih =>
    intro i e no
    obtain ⟨x, hx⟩ : ∃ x, s.ths[i]? = some x := ⟨_, List.getElem?_eq_getElem (by omega)⟩
    rw [impl_Sched_thread_M_l0]
    refine ifD_t (by omega) ?_
    rw [nz_some, ldL_eq (r.hp.cell (0 + 2))]
    refine hs.gI0 hx (ifB_eqI (fun f => ?_) fun f => ?_)
    · rw [nz_some, ldL_eq (r.hp.cell (0 + 2))]
      exact hs.req hx rfl (hs.nz (get_lt hx) fun b o _ ea => k2 i b o x ⟨hx, f, no⟩ ea)
    rw [wrap_suc (by omega)]
    refine ih (i + 1) (by omega) (fun k y hk hy => ?_)
    by_cases g : k = i
    · subst g; rw [hx] at hy; injection hy with hy; subst hy; exact f
    · exact no k y (by omega) hy
theorem threadI (r : Mp h p a n c b m d s) (k1 : (∀ x ∈ s.ths, x.id ≠ id) → K (.pointer none) h)
    (k2 : ∀ (i b o : Nat) x, AtT s.ths id i x → a = some ⟨b, o, none⟩ → K (.pointer (some ⟨b, o + i * 8, none⟩)) h) : callD Try.prog 40 ⟨[ptr p, .int .i64 id]⟩ h K := by
  refine impl_Sched_thread_M_call ?_
  rw [impl_Sched_thread_M, nz_some, ldL_eq (r.hp.cell (0 + 2))]
  exact ⟨n + 1, thread_loopI r k1 k2 n 0 (by omega) (by intros; omega)⟩
theorem lock_loopI {kx : H → Prop} {kr : Nat → Nat → H → Prop} (r : Mp h p a n c b m d s)
    (k1 : (∀ x ∈ s.lks, x.id ≠ id) → kx h) (k2 : ∀ (i b' o : Nat) x, AtL s.lks id i x → b = some ⟨b', o, none⟩ → kr b' (o + i * 2) h) :
    ∀ q i : Nat, i + q = m → (∀ k x, k < i → s.lks[k]? = some x → x.id ≠ id) → impl_Sched_lock_M_l0 kx kr (q + 1) (some ⟨p, 0, none⟩) id m i h := by
  have hs := r.l
  have hl := hs.le
  intro q
  induction q with
  | zero =>
    intro i e no
    rw [impl_Sched_lock_M_l0]
    refine ifD_f (by omega) (k1 fun x hx => ?_)
    obtain ⟨k, hk, e⟩ := List.getElem_of_mem hx
    exact no k x (by omega) (by rw [List.getElem?_eq_getElem hk, e])
  | succ q ih =>
    intro i e no
    obtain ⟨x, hx⟩ : ∃ x, s.lks[i]? = some x := ⟨_, List.getElem?_eq_getElem (by omega)⟩
    rw [impl_Sched_lock_M_l0]
    refine ifD_t (by omega) ?_
    rw [nz_some, ldL_eq (r.hp.cell (0 + 3))]
    refine hs.gI0 hx (ifB_eqI (fun f => ?_) fun f => ?_)
    · rw [nz_some, ldL_eq (r.hp.cell (0 + 3))]
      exact hs.req hx rfl (hs.nz (get_lt hx) fun b o _ ea => k2 i b o x ⟨hx, f, no⟩ ea)
    rw [wrap_suc (by omega)]
    refine ih (i + 1) (by omega) (fun k y hk hy => ?_)
    by_cases g : k = i
    · subst g; rw [hx] at hy; injection hy with hy; subst hy; exact f
    · exact no k y (by omega) hy
theorem lockI (r : Mp h p a n c b m d s) (k1 : (∀ x ∈ s.lks, x.id ≠ id) → K (.pointer none) h)
    (k2 : ∀ (i b' o : Nat) x, AtL s.lks id i x → b = some ⟨b', o, none⟩ → K (.pointer (some ⟨b', o + i * 2, none⟩)) h) : callD Try.prog 39 ⟨[ptr p, .int .i64 id]⟩ h K := by
  refine impl_Sched_lock_M_call ?_
  rw [impl_Sched_lock_M, nz_some, ldL_eq (r.hp.cell (0 + 3))]
  exact ⟨m + 1, lock_loopI r k1 k2 m 0 (by omega) (by intros; omega)⟩
theorem waits_loopI {kx : H → Prop} {kr : Bool → H → Prop} (r : Mp h p a n c b m d s) (ow : ∀ l ∈ s.lks, 0 ≤ l.owner) (kx' : kx h = kr false h) :
    ∀ (q i : Nat) (x : Int), i + q = 34 → kr (waits s q (nxt s x) on) h → impl_Sched_schedWaits_M_l0 kx kr (q + 1) (some ⟨p, 0, none⟩) x on i h := by
  intro q
  induction q with
  | zero =>
    intro i x e z
    rw [impl_Sched_schedWaits_M_l0]
    exact ifD_f (by omega) (by rw [kx']; exact z)
  | succ q ih =>
    intro i x e z
    rw [impl_Sched_schedWaits_M_l0]
    have no (f : nxt s x = -1) : kr false h := by rw [f, waits, if_pos (by omega)] at z; exact z
    refine ifD_t (by omega) (threadI r (fun f => asP_of ?_) fun i1 b1 o1 y u ea => asP_of ?_)
    · exact no (by rw [nxt, getT_none.mpr f])
    have hs := r.t
    subst ea
    have e0 : nxt s x = if y.state ≠ 2 then -1 else match getL s.lks y.wait with | none => -1 | some l => l.owner := by rw [nxt, u.get]; rfl
    refine ifP_some (nz_of (hs.rw.I u.1 (ifB_neI (fun f => no (by rw [e0, if_pos f])) fun f => nz_of (hs.rw.I u.1 ?_))))
    rw [if_neg (by omega)] at e0
    refine lockI r (fun g => asP_of ?_) fun i2 b2 o2 l g eb => asP_of ?_
    · exact no (by rw [e0, getL_none.mpr g])
    rw [g.get] at e0
    dsimp only at e0
    have hs2 := r.l
    subst eb
    have o0 := ow l (List.mem_of_getElem? g.1)
    rw [e0, waits, if_neg (by omega)] at z
    refine ifP_some (nz_of (hs2.rw.I g.1 (ifB_eqI (fun w => ?_) fun w => ?_)))
    · rw [if_pos w] at z; exact z
    · rw [if_neg w] at z
      rw [wrap_suc (by omega)]
      exact ih (i + 1) l.owner (by omega) z
theorem waitsI (r : Mp h p a n c b m d s) (ow : ∀ l ∈ s.lks, 0 ≤ l.owner) (l32 : s.ths.length ≤ 32) (z : K (.bool (waits s (s.ths.length + 1) (nxt s k) on)) h) : callD Try.prog 41 ⟨[ptr p, .int .i64 k, .int .i64 on]⟩ h K := by
  refine impl_Sched_schedWaits_M_call ?_
  rw [impl_Sched_schedWaits_M]
  refine ⟨35, waits_loopI (kx := fun h => K (.bool false) h) (kr := fun t h => K (.bool t) h) r ow rfl 34 0 k (by omega) ?_⟩
  have : waits s 34 (nxt s k) on = waits s (s.ths.length + 1) (nxt s k) on := by
    cases e : waits s 34 (nxt s k) on with
    | true => exact (waits_any e).symm
    | false => cases e2 : waits s (s.ths.length + 1) (nxt s k) on with
      | false => rfl
      | true => rw [waits_mono e2 (by omega)] at e; cases e
  rw [this]; exact z
/-! the priority -/
theorem nxt_iff (v : Wf s) (mw : w ∈ s.ths) (i0 : 0 ≤ id) : nxt s w.id = id ↔ w.state = 2 ∧ ∃ l ∈ s.lks, l.id = w.wait ∧ l.owner = id := by
  have eg := v.t.mem mw
  unfold nxt
  rw [eg]
  dsimp only
  by_cases st : w.state ≠ 2
  · rw [if_pos st]; constructor
    · intro e; omega
    · rintro ⟨e, _⟩; exact absurd e st
  · rw [if_neg st]
    have st : w.state = 2 := by omega
    rcases atL_cases s.lks w.wait with f | ⟨j, l, u⟩
    · rw [getL_none.mpr f]
      constructor
      · intro e; dsimp only at e; omega
      · rintro ⟨_, l, ml, e, _⟩; exact absurd e (f l ml)
    · rw [u.get]
      constructor
      · intro e; exact ⟨st, l, List.mem_of_getElem? u.1, u.2.1, e⟩
      · rintro ⟨_, l2, ml, e, eo⟩
        obtain ⟨j2, h2⟩ := List.mem_iff_getElem?.mp ml
        have := v.l.uni j2 j l2 l h2 u.1 (by rw [e, u.2.1])
        subst this; have := u.1; rw [h2] at this; injection this with this; subst this; exact eo
theorem prio_loop2 {kx : Option Addr → Option Addr → Int → Option Addr → Nat → Int → Int → H → Prop} {pt : Option Addr} {b0 o0 : Nat} {a3 : Option Addr} {l3 : Nat} {z1 z2 lid : Int} {D : T → Prop} (r : Mp h p (some ⟨b0, o0, none⟩) n c b m d s)
    (rec : ∀ (i : Nat) (w : T), s.ths[i]? = some w → w.state = 2 → w.wait = lid → ∀ K : Value → H → Prop, K (.int .i64 (prioS s w.id w)) h → callD Try.prog 57 ⟨[ptr p, .pointer (some ⟨b0, o0 + i * 8, none⟩)]⟩ h K)
    (kx' : ∀ q, Mx s t (fun z => D z ∨ z ∈ s.ths ∧ z.state = 2 ∧ z.wait = lid) q → kx (some ⟨p, 0, none⟩) pt q a3 l3 z1 z2 h) :
    ∀ (q i : Nat) (pr : Int), i + q = n → Mx s t (fun z => D z ∨ z ∈ s.ths.take i ∧ z.state = 2 ∧ z.wait = lid) pr → impl_Sched_prio_M_l2 kx (q + 1) (some ⟨p, 0, none⟩) pt pr a3 l3 z1 z2 n i lid h := by
  have hs := r.t
  have hl := hs.le
  intro q
  induction q with
  | zero =>
    intro i pr e A
    rw [impl_Sched_prio_M_l2]
    rw [List.take_of_length_le (by omega)] at A
    exact ifD_f (by omega) (kx' pr A)
  | succ q ih =>
    intro i pr e A
    obtain ⟨x, hx⟩ : ∃ x, s.ths[i]? = some x := ⟨_, List.getElem?_eq_getElem (by omega)⟩
    have tk : ∀ z, z ∈ s.ths.take (i + 1) ↔ z ∈ s.ths.take i ∨ z = x := fun z => by
      rw [List.take_add_one, hx, Option.toList_some, List.mem_append, List.mem_singleton]
    have skip (f : ¬ (x.state = 2 ∧ x.wait = lid)) : impl_Sched_prio_M_l2 kx (q + 1) (some ⟨p, 0, none⟩) pt pr a3 l3 z1 z2 n (IntKind.i64.wrap ((i : Int) + 1)) lid h := by
      rw [wrap_suc (by omega)]
      refine ih (i + 1) pr (by omega) (A.congr fun z => ?_)
      rw [tk]
      constructor
      · rintro (u | u)
        · exact .inl u
        · exact .inr ⟨.inl u.1, u.2⟩
      · rintro (u | ⟨u | u, v⟩)
        · exact .inl u
        · exact .inr ⟨u, v⟩
        · subst u; exact absurd v f
    rw [impl_Sched_prio_M_l2]
    refine ifD_t (by omega) ?_
    rw [nz_some, ldL_eq (r.hp.cell (0 + 2))]
    refine hs.req hx rfl (nz_of ?_)
    rw [Int.toNat_natCast]
    refine hs.rw.I hx (ifB_eqI (fun f => hs.rw.I hx (ifB_eqI (fun g => ?_) fun g => skip fun u => g u.2)) fun f => skip fun u => f u.1)
    refine rec i x hx f g _ (asI_of ?_)
    rw [wrap_suc (by omega)]
    refine ih (i + 1) _ (by omega) ((A.add (prioS_isP (List.mem_of_getElem? hx))).congr fun z => ?_)
    rw [tk]
    constructor
    · rintro ((u | u) | u)
      · exact .inl u
      · exact .inr ⟨.inl u.1, u.2⟩
      · subst u; exact .inr ⟨.inr rfl, f, g⟩
    · rintro (u | ⟨u | u, v⟩)
      · exact .inl (.inl u)
      · exact .inl (.inr ⟨u, v⟩)
      · exact .inr u
theorem prio_loop1 {kx : Int → H → Prop} {b0 o0 : Nat} (r : Mp h p (some ⟨b0, o0, none⟩) n c b m d s) (hx : s.ths[i]? = some t)
    (rec : ∀ (i : Nat) (w : T) (l : L), s.ths[i]? = some w → w.state = 2 → l ∈ s.lks → w.wait = l.id → l.owner = t.id → ∀ K : Value → H → Prop, K (.int .i64 (prioS s w.id w)) h → callD Try.prog 57 ⟨[ptr p, .pointer (some ⟨b0, o0 + i * 8, none⟩)]⟩ h K)
    (kx' : ∀ q, Mx s t (fun z => z ∈ s.ths ∧ z.state = 2 ∧ ∃ l ∈ s.lks, l.owner = t.id ∧ z.wait = l.id) q → kx q h) :
    ∀ (q j : Nat) (pr : Int), j + q = m → Mx s t (fun z => z ∈ s.ths ∧ z.state = 2 ∧ ∃ l ∈ s.lks.take j, l.owner = t.id ∧ z.wait = l.id) pr → impl_Sched_prio_M_l1 kx (q + 1) (some ⟨p, 0, none⟩) (some ⟨b0, o0 + i * 8, none⟩) pr b m m j h := by
  have hs := r.t
  have hl := r.l.le
  intro q
  induction q with
  | zero =>
    intro j pr e A
    rw [impl_Sched_prio_M_l1]
    rw [List.take_of_length_le (by omega)] at A
    exact ifD_f (by omega) (kx' pr A)
  | succ q ih =>
    intro j pr e A
    obtain ⟨l, hl'⟩ : ∃ l, s.lks[j]? = some l := ⟨_, List.getElem?_eq_getElem (by omega)⟩
    have tk : ∀ z, z ∈ s.lks.take (j + 1) ↔ z ∈ s.lks.take j ∨ z = l := fun z => by
      rw [List.take_add_one, hl', Option.toList_some, List.mem_append, List.mem_singleton]
    rw [impl_Sched_prio_M_l1]
    refine ifD_t (by omega) (SlL.gRow r.l hl' (nz_of (hs.rw.I0 hx (ifB_neI (fun f => ?_) fun f => ?_))))
    · rw [wrap_suc (by omega)]
      refine ih (j + 1) pr (by omega) (A.congr fun z => ?_)
      constructor
      · rintro ⟨u, v, y, my, e⟩; exact ⟨u, v, y, (tk y).mpr (.inl my), e⟩
      · rintro ⟨u, v, y, my, e1, e2⟩
        rcases (tk y).mp my with my | my
        · exact ⟨u, v, y, my, e1, e2⟩
        · subst my; exact absurd e1 f
    · rw [nz_some, ldL_eq (r.hp.cell (0 + 2))]
      refine ⟨n + 1, prio_loop2 (t := t) (D := fun z => z ∈ s.ths ∧ z.state = 2 ∧ ∃ l ∈ s.lks.take j, l.owner = t.id ∧ z.wait = l.id) r (fun i w hw st wt => rec i w l hw st (List.mem_of_getElem? hl') wt f) (fun pr' A' => ?_) n 0 pr (by omega) (A.congr fun z => by simp)⟩
      rw [wrap_suc (by omega)]
      refine ih (j + 1) pr' (by omega) (A'.congr fun z => ?_)
      constructor
      · rintro (⟨u, v, y, my, e⟩ | ⟨u, v, w⟩)
        · exact ⟨u, v, y, (tk y).mpr (.inl my), e⟩
        · exact ⟨u, v, l, (tk l).mpr (.inr rfl), f, w⟩
      · rintro ⟨u, v, y, my, e1, e2⟩
        rcases (tk y).mp my with my | my
        · exact .inl ⟨u, v, y, my, e1, e2⟩
        · subst my; exact .inr ⟨u, v, e2⟩
theorem prioI_ind (v : Wf s) {b0 o0 : Nat} (r : Mp h p (some ⟨b0, o0, none⟩) n c b m d s) : ∀ (g : Nat) (i : Nat) (t : T), cnt s t.id < g → s.ths[i]? = some t → ∀ K : Value → H → Prop, K (.int .i64 (prioS s t.id t)) h →
    callD Try.prog 57 ⟨[ptr p, .pointer (some ⟨b0, o0 + i * 8, none⟩)]⟩ h K := by
  have hs := r.t
  intro g
  induction g with
  | zero => intro i t h; omega
  | succ g ih =>
    intro i t hc hx K z
    have mt := List.mem_of_getElem? hx
    have i0 := v.t.lo i t hx
    have j0 : impl_Sched_prio_M_j0 (fun n h => K (.int .i64 n) h) (some ⟨p, 0, none⟩) (some ⟨b0, o0 + i * 8, none⟩) (ownP s t) h := by
      rw [impl_Sched_prio_M_j0, nz_some, ldL_eq (r.hp.cell (0 + 3))]
      refine ⟨m + 1, prio_loop1 (t := t) r hx (fun i2 w l hw st ml wt lo => ih i2 w ?_ hw) (fun q A => ?_) m 0 (ownP s t) (by omega) ((Mx.start mt).congr fun z => by simp)⟩
      · have := cnt_lt v (List.mem_of_getElem? hw) ((nxt_iff v (List.mem_of_getElem? hw) i0).mpr ⟨st, l, ml, wt.symm, lo⟩) i0
        omega
      · have := (A.done i0 (fun w => ?_) fun x y mx my e => ?_).uni (prioS_isP mt)
        · rw [this]; exact z
        · constructor
          · rintro ⟨mw, st, l, ml, lo, wt⟩
            exact ⟨mw, (nxt_iff v mw i0).mpr ⟨st, l, ml, wt.symm, lo⟩⟩
          · rintro ⟨mw, e⟩
            obtain ⟨st, l, ml, wt, lo⟩ := (nxt_iff v mw i0).mp e
            exact ⟨mw, st, l, ml, lo, wt.symm⟩
        · have h1 := v.t.mem mx
          have h2 := v.t.mem my
          rw [e, h2] at h1; injection h1 with h1; exact h1.symm
    refine impl_Sched_prio_M_call ?_
    rw [impl_Sched_prio_M]
    have bt := v.base t mt
    refine nz_of (hs.rw.I hx (nz_of (hs.rw.I hx (ifB_eqI (fun f => ?_) fun f => ?_))))
    · refine nz_of ?_
      rw [ldI_eq (r.hp.cell 0)]
      refine nz_of (hs.rw.I hx ?_)
      have : ownP s t = if IntKind.i64.wrap (t.base + IntKind.i64.wrap ((IntKind.i64.wrap (s.now - t.since)).tdiv 16)) < 7 then IntKind.i64.wrap (t.base + IntKind.i64.wrap ((IntKind.i64.wrap (s.now - t.since)).tdiv 16)) else 7 := by
        unfold ownP; dsimp only; rw [if_pos f]; split <;> split <;> omega
      rw [this] at j0; exact j0
    · have : ownP s t = t.base := by unfold ownP; dsimp only; rw [if_neg f, if_neg (by omega)]
      rw [this] at j0; exact j0
theorem prioI (v : Wf s) {b0 o0 : Nat} (r : Mp h p (some ⟨b0, o0, none⟩) n c b m d s) (hx : s.ths[i]? = some t) (z : K (.int .i64 (prioS s t.id t)) h) :
    callD Try.prog 57 ⟨[ptr p, .pointer (some ⟨b0, o0 + i * 8, none⟩)]⟩ h K := prioI_ind v r _ i t (Nat.lt_succ_self _) hx K z
end Go.Proofs.Yteeinamngmmlbaa
