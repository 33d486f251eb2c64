import Derived.Test.YteeinamngmmlbaaSp
set_option linter.unusedVariables false
namespace Go.Proofs.Yteeinamngmmlbaa
open Go.Eng
variable {h h0 h1 h2 h' : H} {now seq : Int} {a b a' b' : Option Addr} {n c m d n' c' m' d' p o : Nat} {s s0 s' : S} {K : Value → H → Prop} {id k on q lock kind : Int} {i j : Nat} {t x w : T} {l : L} {xs : List T} {zs ys : List L}
theorem okI_W {kx : H → Prop} {kr : Bool → H → Prop} (r : Mp h p a n c b m d s) (ow : ∀ l ∈ s.lks, 0 ≤ l.owner) (l32 : s.ths.length ≤ 32)
    (kx' : (∀ (i : Nat) (t : T), s.ths[i]? = some t → waits s (s.ths.length + 1) (nxt s t.id) t.id = false) → kx h) (kf : ¬ OkS s → kr false h) :
    ∀ q i, i + q = n → (∀ (k : Nat) (t : T), k < i → s.ths[k]? = some t → waits s (s.ths.length + 1) (nxt s t.id) t.id = false) → impl_SchedOk_M_l2 kx kr (q + 1) p a n n i h := by
  have hl := r.t.le
  intro q
  induction q with
  | zero =>
    intro i e hi
    rw [impl_SchedOk_M_l2]
    exact ifD_f (by omega) (kx' fun k t ht => hi k t (by have := get_lt ht; omega) ht)
  | succ q ih =>
    intro i e hi
    obtain ⟨x, hx⟩ : ∃ x, s.ths[i]? = some x := ⟨_, List.getElem?_eq_getElem (by omega)⟩
    rw [impl_SchedOk_M_l2]
    refine ifD_t (by omega) (SlT.gRow r.t hx (waitsI r ow l32 (asB_of (ifB_b (fun f => kf fun ok => by rw [ok.cy i x hx] at f; cases f) fun f => ?_))))
    rw [wrap_suc (by omega)]
    refine ih (i + 1) (by omega) fun k y hk hy => ?_
    by_cases g : k = i
    · subst g; rw [hx] at hy; injection hy with hy; subst hy; exact f
    · exact hi k y (by omega) hy
theorem okI_spec (r : Ss h now seq a n c b m d s) (z : ∀ w h', (w = true ↔ OkS s) → Keep [] h h' → K (.bool w) h') : callD Try.prog 20 ⟨[val now seq a n c b m d]⟩ h K := by
  have hl := r.t.le
  have hl2 := r.l.le
  have en := r.en
  have es := r.es
  subst en es
  have no (h' : H) (k : Keep [] h h') (f : ¬ OkS s) : K (.bool false) h' := z false h' (by simp [f]) k
  refine impl_SchedOk_M_call ?_
  rw [impl_SchedOk_M]
  refine newD_of fun p h1 hp x1 k1 => ?_
  have r1 : Mp h1 p a n c b m d s := ⟨x1, r.t.keep0 k1, r.l.keep0 k1, r.ap, fun t => by have := r.t.lt t; omega, fun t => by have := r.l.lt t; omega⟩
  rw [ldI_eq (x1.cell 0)]
  refine ifB_dec (fun f => no h1 k1 fun ok => by have := ok.n0; omega) fun f0 => ?_
  rw [ldI_eq (x1.cell 0)]
  refine ifB_dec (fun f => no h1 k1 fun ok => by have := ok.n1; omega) fun f1 => ?_
  rw [ldI_eq (x1.cell 1)]
  refine ifB_dec (fun f => no h1 k1 fun ok => by have := ok.q0; omega) fun f2 => ?_
  rw [ldI_eq (x1.cell 1)]
  refine ifB_dec (fun f => no h1 k1 fun ok => by have := ok.q1; omega) fun f3 => ?_
  rw [ldL_eq (x1.cell 2)]
  refine ifB_dec (fun f => no h1 k1 fun ok => by have := ok.tl; omega) fun f4 => ?_
  rw [ldL_eq (x1.cell 3)]
  refine ifB_dec (fun f => no h1 k1 fun ok => by have := ok.ll; omega) fun f5 => ?_
  refine newMD_of (kd := .i64) fun mr h2 hm mp k2 => ?_
  have z1 := k1.le
  have r2 := r1.keep0 k2
  rw [ldL_eq (r2.hp.cell 2)]
  have lp := x1.lt
  have out (h' : H) (k : Keep [mr] h2 h') : Keep [] h h' := (k1.tr k2).trans k (by intro y l t; simp at t; omega)
  refine ⟨n + 1, okI_T (h0 := h2) r2 (fun h3 k3 th => ?_) (fun h3 k3 f => no h3 (out h3 k3) f) (by omega) (fun t => by have := r1.t.lt t; omega) (fun t => by have := r1.l.lt t; omega) n 0 h2 (by omega) Keep.refl mp (by intros; omega)⟩
  have r3 : Mp h3 p a n c b m d s := ⟨k3.blk r2.hp (by simp; omega), r2.t.keep k3 fun y hy t => by simp at t; subst t; have := r1.t.lt hy; omega, r2.l.keep k3 fun y hy t => by simp at t; subst t; have := r1.l.lt hy; omega, r.ap, r1.pa, r1.pb⟩
  rw [ldL_eq (r3.hp.cell 3)]
  refine ⟨m + 1, okI_L r3 (fun lk => ?_) (fun f => no h3 (out h3 k3) f) m 0 (by omega) (by intros; omega)⟩
  rw [ldL_eq (r3.hp.cell 2)]
  have ow : ∀ l ∈ s.lks, 0 ≤ l.owner := fun l ml => by
    obtain ⟨j, hj⟩ := List.mem_iff_getElem?.mp ml
    have := (lk j l hj).ow
    obtain ⟨t, et⟩ := Option.isSome_iff_exists.mp this
    have mt := getT_mem et
    obtain ⟨i, hi⟩ := List.mem_iff_getElem?.mp mt.1
    have := (th i t hi).o.i0; have := mt.2; omega
  refine ⟨n + 1, okI_W r3 ow (by omega) (fun cy => ?_) (fun f => no h3 (out h3 k3) f) n 0 (by omega) (by intros; omega)⟩
  exact z true h3 (by simp; exact ⟨by omega, by omega, by omega, by omega, by omega, by omega, lk, fun i t ht => ⟨(th i t ht).pr, (th i t ht).o⟩, fun i k t y ht hy hk => (th i t ht).ln k y hk hy, cy⟩) (out h3 k3)
theorem OkS.wf (ok : OkS s) : Wf s := by
  have st : SrtT s.ths := ⟨fun j y z hy hz => (ok.th (j + 1) z hz).1 j y rfl hy, fun j y hy => (ok.th j y hy).2.i0, fun j y hy => (ok.th j y hy).2.i1⟩
  have sl : SrtL s.lks := ⟨fun j y z hy hz => (ok.lk (j + 1) z hz).pr j y rfl hy, fun j y hy => (ok.lk j y hy).i0, fun j y hy => (ok.lk j y hy).i1⟩
  have at' : ∀ x ∈ s.ths, ∃ i : Nat, s.ths[i]? = some x := fun x mx => List.mem_iff_getElem?.mp mx
  refine ⟨⟨st, sl, fun x mx => ?_, fun x mx => ?_, ⟨ok.n0, by have := ok.n1; omega⟩, fun l ml => ?_⟩, fun x mx m => ?_⟩
  · obtain ⟨i, hi⟩ := at' x mx; exact ⟨(ok.th i x hi).2.b0, (ok.th i x hi).2.b1⟩
  · obtain ⟨i, hi⟩ := at' x mx; exact ⟨(ok.th i x hi).2.s0, (ok.th i x hi).2.s1⟩
  · obtain ⟨j, hj⟩ := List.mem_iff_getElem?.mp ml
    obtain ⟨t, et⟩ := Option.isSome_iff_exists.mp (ok.lk j l hj).ow
    have mt := getT_mem et
    obtain ⟨i, hi⟩ := at' t mt.1
    have := (ok.th i t hi).2.i0; have := mt.2; omega
  · obtain ⟨i, hi⟩ := at' x mx
    cases e : waits s m (nxt s x.id) x.id with
    | false => rfl
    | true => have := waits_any e; rw [ok.cy i x hi] at this; cases this
/-! the whole step -/
def emptyS : S := ⟨0, 0, [], []⟩
noncomputable def schedF (s : S) (kind id q : Int) : S × Int × Int := open Classical in if OkS s then (if (stepS s kind id q).2.1 = 0 then stepS s kind id q else (s, (stepS s kind id q).2.1, (stepS s kind id q).2.2)) else (emptyS, 0, 0)
theorem newE : NewO h emptyS h 0 0 none 0 0 none 0 0 := ⟨Keep.refl, by simp [own], by simp [own], rfl, rfl, Sl.nil, Sl.nil, by simp [own]⟩
theorem tick2_ok {u : S} : (tick2 u).2.1 = 0 := by
  unfold tick2; split <;> rfl
theorem stepS_err (e : (stepS s kind id q).2.1 ≠ 0) : (stepS s kind id q).1 = s := by
  unfold stepS at e ⊢
  split at e
  · rename_i f; rw [if_pos f]
    unfold spawnF at e ⊢
    split at e
    · rename_i g; rw [if_pos g]
    rename_i g
    rw [if_neg g]
    split at e
    · rename_i g; rw [if_pos g]
    · exact absurd rfl e
  rename_i f1
  rw [if_neg f1]
  split at e
  · exact absurd tick2_ok e
  rename_i f3
  rw [if_neg f3]
  split at e
  · rename_i f; rw [if_pos f]
  rename_i f
  rw [if_neg f]
  split at e
  · rfl
  rename_i x g
  generalize (posT s.ths id).toNat = i at e ⊢
  unfold stepAt at e ⊢
  split at e
  · exact absurd rfl e
  rename_i f2
  rw [if_neg f2]
  split at e
  · rename_i f4
    rw [if_pos f4]
    unfold lockF at e ⊢
    split at e
    · rename_i g; rw [if_pos g]
    rename_i g; rw [if_neg g]
    split at e
    · rename_i g; rw [if_pos g]
    rename_i g; rw [if_neg g]
    split at e
    · rename_i g; rw [if_pos g]
      unfold takeF at e ⊢
      split at e
      · exact absurd rfl e
      · rename_i l gl
        split at e
        · rename_i g; rw [if_pos g]
        rename_i g; rw [if_neg g]
        split at e
        · rename_i g; rw [if_pos g]
        · exact absurd rfl e
    rename_i g; rw [if_neg g]
    split at e
    · rfl
    · rename_i l gl
      split at e
      · rename_i g; rw [if_pos g]
      · exact absurd rfl e
  rename_i f4
  rw [if_neg f4]
  split at e
  · rename_i f; rw [if_pos f]
    split at e
    · rename_i g; rw [if_pos g]
    rename_i g; rw [if_neg g]
    split at e
    · rename_i g; rw [if_pos g]
    · exact absurd rfl e
  rename_i f; rw [if_neg f]
  split at e
  · rename_i f; rw [if_pos f]
    split at e
    · rename_i g; rw [if_pos g]
    · exact absurd rfl e
  rename_i f; rw [if_neg f]
  split at e
  · rename_i g; rw [if_pos g]
  · exact absurd rfl e
theorem schedF_ok (ok : OkS s) : schedF s kind id q = stepS s kind id q := by
  unfold schedF
  rw [if_pos ok]
  split
  · rfl
  · rename_i e
    have := stepS_err e
    generalize stepS s kind id q = w at this ⊢
    obtain ⟨w1, w2, w3⟩ := w
    dsimp only at this; subst this; rfl
theorem schedS_spec (r : Ss h now seq a n c b m d s)
    (z : ∀ h' now' seq' a' n' c' b' m' d', NewO h (schedF s kind id q).1 h' now' seq' a' n' c' b' m' d' → K (res now' seq' a' n' c' b' m' d' (schedF s kind id q).2.1 (schedF s kind id q).2.2) h') :
    callD Try.prog 5 ⟨[val now seq a n c b m d, .agg ⟨[.int .i64 kind, .int .i64 id, .int .i64 q]⟩]⟩ h K := by
  have hl := r.t.le
  have hl2 := r.l.le
  refine spec_SchedStep_M_call ?_
  rw [spec_SchedStep_M]
  refine okS_spec r fun w ew => asB_of (ifB_nb (fun f => ?_) fun f => ?_)
  · have e : schedF s kind id q = (emptyS, 0, 0) := by unfold schedF; rw [if_neg fun ok => by rw [ew.mpr ok] at f; cases f]
    rw [e] at z
    exact z _ _ _ _ _ _ _ _ _ newE
  have ok := ew.mp f
  have t1 := ok.tl
  have t2 := ok.ll
  rw [schedF_ok ok] at z
  refine copy_spec r (by omega) (by omega) fun h1 a1 n1 c1 b1 m1 d1 o1 => o_el_AI2L2E ?_
  exact step_spec o1.r ok.wf fun h2 now2 seq2 a2 n2 c2 b2 m2 d2 o2 => o_el_TAI2L2EAI2EE (z _ _ _ _ _ _ _ _ _ (o1.out o2))
end Go.Proofs.Yteeinamngmmlbaa
