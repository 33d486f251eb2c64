import Derived.Test.YteeinamngmmlbaaSl
set_option linter.unusedVariables false
/-! The program's exit and tick. -/
namespace Go.Proofs.Yteeinamngmmlbaa
open Go.Eng
variable {h h0 h1 h2 h' : H} {a b a' b' : Option Addr} {n c m d n' c' m' d' p o : Nat} {s s0 s' : S} {K : Value → H → Prop} {id k on q lock : Int} {i j : Nat} {t x w : T} {l : L} {xs : List T} {zs ys : List L}
/-! exit: by the list, by the numbers -/
def exitI (id : Int) : List L → S → S
  | [], s => s
  | l :: r, s => exitI id r (if l.owner = id then handF s l.id else s)
theorem getL_hand (v : Wf s) (hl : AtL s.lks lock j l) (ne : k ≠ lock) : getL (handF s lock).lks k = getL s.lks k := by
  rw [handF_at hl]
  split
  · dsimp only; rw [getL_erase v.l hl.1, if_neg (by rw [hl.2.1]; exact ne)]
  · rename_i t i q _
    show getL (s.lks.set j { l with owner := t.id }) k = getL s.lks k
    rw [getL_set (y := { l with owner := t.id }) v.l hl.1 rfl, if_neg (by rw [hl.2.1]; exact ne)]
structure SrtR (k : Int) (rest : List L) : Prop where
  inc : rest.Pairwise (fun x y => x.id < y.id)
  ge : ∀ y ∈ rest, k ≤ y.id
theorem exit_eq : ∀ (q : Nat) (k : Int) (s : S) (rest : List L), k + q = 16 → SrtR k rest → (∀ y ∈ rest, y.id < 16) → Wf s → (∀ k', k ≤ k' → getL s.lks k' = rest.find? fun y => y.id == k') → exitL id q k s = exitI id rest s := by
  intro q
  induction q with
  | zero =>
    intro k s rest e sr hi v g
    cases rest with
    | nil => rfl
    | cons y r => have := sr.ge y (by simp); have := hi y (by simp); omega
  | succ q ih =>
    intro k s rest e sr hi v g
    rw [exitL]
    have skip (no : ∀ y ∈ rest, y.id ≠ k) : exitL id q (k + 1) (exit1 id k s) = exitI id rest s := by
      have e1 : exit1 id k s = s := by
        unfold exit1
        rw [g k (by omega), List.find?_eq_none.mpr (by intro y my; simpa using no y my)]
      rw [e1]
      exact ih (k + 1) s rest (by omega) ⟨sr.inc, fun y my => by have := sr.ge y my; have := no y my; omega⟩ hi v fun k' hk => g k' (by omega)
    cases rest with
    | nil => exact skip (by simp)
    | cons y r =>
      have inc := List.pairwise_cons.mp sr.inc
      by_cases ey : y.id = k
      · have gk : getL s.lks k = some y := by rw [g k (by omega), List.find?_cons_of_pos (by simpa using ey)]
        obtain ⟨my, _⟩ := getL_mem gk
        obtain ⟨j, hj⟩ := List.mem_iff_getElem?.mp my
        have at' := v.l.get hj
        rw [ey] at at'
        have e1 : exit1 id k s = if y.owner = id then handF s y.id else s := by unfold exit1; rw [gk, ey]
        rw [e1, exitI]
        refine ih (k + 1) _ r (by omega) ⟨inc.2, fun z mz => by have := inc.1 z mz; omega⟩ (fun z mz => hi z (by simp [mz])) ?_ fun k' hk => ?_
        · split
          · rw [ey]; exact v.hand at'
          · exact v
        · have e2 : (List.find? (fun z => z.id == k') (y :: r)) = List.find? (fun z => z.id == k') r := by rw [List.find?_cons_of_neg]; simp; omega
          rw [← e2, ← g k' (by omega)]
          split
          · rw [ey]; exact getL_hand v at' (by omega)
          · rfl
      · refine skip fun z mz => ?_
        rcases List.mem_cons.mp mz with t | t
        · subst t; exact ey
        · have := inc.1 z t; have := sr.ge y (by simp); omega
theorem srtL_pw (v : SrtL zs) : zs.Pairwise (fun x y => x.id < y.id) := by
  rw [List.pairwise_iff_getElem]
  intro i j hi hj l
  have := v.gap (j - i) i zs[i] zs[j] (List.getElem?_eq_getElem _) (by rw [show i + (j - i) = j by omega]; exact List.getElem?_eq_getElem _)
  omega
theorem exitF_eq (v : Wf s) (hx : s.ths[i]? = some x) : exitF s i x = exitI x.id s.lks { s with ths := s.ths.eraseIdx i } :=
  exit_eq 16 0 _ s.lks (by omega) ⟨srtL_pw v.l, fun y my => by obtain ⟨j, hj⟩ := List.mem_iff_getElem?.mp my; exact v.l.lo j y hj⟩ (fun y my => by obtain ⟨j, hj⟩ := List.mem_iff_getElem?.mp my; exact v.l.hi j y hj) (v.erase hx) fun k' _ => rfl
/-- the locks in the copy, one by one -/
theorem exit_loopI {kx : H → Prop} {s9 : S} {ac : Option Addr} {lc cc : Nat} {all : List L} (inc : all.Pairwise (fun x y => x.id < y.id)) (hc : lc = all.length)
    (kx' : ∀ h' a' n' c' b' m' d', MO h0 p a b s9 h' a' n' c' b' m' d' → kx h') (fc : ∀ y ∈ own ac, h0.size ≤ y) :
    ∀ (q i : Nat) h a' n' c' b' m' d' s, i + q = lc → Wf s → MO h0 p a b s h a' n' c' b' m' d' → SlL h ac lc cc all → (∀ y ∈ own ac, y ∉ own a' ∧ y ∉ own b' ∧ y ≠ p) → (∀ y ∈ all.drop i, getL s.lks y.id = some y) → exitI id (all.drop i) s = s9 →
    impl_Sched_step_M_l4 kx (q + 1) (some ⟨p, 0, none⟩) ac lc lc i id h := by
  intro q
  induction q with
  | zero =>
    intro i h a' n' c' b' m' d' s e v o sc ap g ex
    rw [impl_Sched_step_M_l4]
    rw [List.drop_of_length_le (by omega), exitI] at ex
    subst ex
    exact ifD_f (by omega) (kx' _ _ _ _ _ _ _ o)
  | succ q ih =>
    intro i h a' n' c' b' m' d' s e v o sc ap g ex
    obtain ⟨y, hy⟩ : ∃ y, all[i]? = some y := ⟨_, List.getElem?_eq_getElem (by omega)⟩
    have ed : all.drop i = y :: all.drop (i + 1) := by
      rw [List.drop_eq_getElem_cons (by omega)]; congr 1
      exact (List.getElem?_eq_some_iff.mp hy).2
    rw [ed, exitI] at ex
    rw [ed] at g
    have gy := g y (by simp)
    have gr : ∀ z ∈ all.drop (i + 1), getL s.lks z.id = some z := fun z mz => g z (by simp [mz])
    have lt : ∀ z ∈ all.drop (i + 1), y.id < z.id := fun z mz => by
      have : (all.drop i).Pairwise (fun x y => x.id < y.id) := inc.sublist (List.drop_sublist _ _)
      rw [ed, List.pairwise_cons] at this
      exact this.1 z mz
    have := sc.le
    rw [impl_Sched_step_M_l4, wrap_suc (by omega)]
    refine ifD_t (by omega) (SlL.gRow sc hy (ifB_eqI (fun f => ?_) fun f => ?_))
    · rw [if_pos f] at ex
      obtain ⟨my, _⟩ := getL_mem gy
      obtain ⟨j, hj⟩ := List.mem_iff_getElem?.mp my
      have at' := v.l.get hj
      refine handI v o.r at' fun h1 a1 n1 c1 b1 m1 d1 o1 => o_el_TE ?_
      have z1 := o1.kp.le
      refine ih (i + 1) h1 a1 n1 c1 b1 m1 d1 _ (by omega) (v.hand at') (o.trans o1) (sc.keep o1.kp fun x hx t => ?_) (fun x hx => ⟨fun t => ?_, fun t => ?_, (ap x hx).2.2⟩) (fun z mz => ?_) ex
      · simp only [List.mem_cons, List.mem_append] at t
        rcases t with t | t | t
        · exact (ap x hx).2.2 t
        · exact (ap x hx).1 t
        · exact (ap x hx).2.1 t
      · rcases o1.wa x t with t | t
        · exact (ap x hx).1 t
        · have := sc.lt hx; omega
      · rcases o1.wb x t with t | t
        · exact (ap x hx).2.1 t
        · have := sc.lt hx; omega
      · rw [getL_hand v at' (by have := lt z mz; omega)]; exact gr z mz
    · rw [if_neg f] at ex
      exact ih (i + 1) h a' n' c' b' m' d' s (by omega) v o sc ap gr ex
/-- the threads but one -/
theorem but_loopI {kx : Option Addr → Option Addr → Nat → Nat → Int → H → Prop} (hs : SlT h0 a n c xs) (hn : n ≤ 1048576)
    (kx' : ∀ h' a' l' c', Keep [] h0 h' → (∀ x ∈ own a', h0.size ≤ x) → SlT h' a' l' c' (xs.filter fun t => t.id != id) → kx (some ⟨p, 0, none⟩) a' l' c' id h') :
    ∀ (t i : Nat) h a' l' c', i + t = n → Keep [] h0 h → (∀ x ∈ own a', h0.size ≤ x) → SlT h a' l' c' ((xs.take i).filter fun t => t.id != id) → impl_Sched_step_M_l3 kx (t + 1) (some ⟨p, 0, none⟩) a' l' c' a n n i id h := by
  have hl := hs.le
  intro t
  induction t with
  | zero =>
    intro i h a' l' c' e kp f s'
    rw [impl_Sched_step_M_l3]
    rw [List.take_of_length_le (by omega)] at s'
    exact ifD_f (by omega) (kx' h a' l' c' kp f s')
  | succ t ih =>
    intro i h a' l' c' e kp f s'
    obtain ⟨x, hx⟩ : ∃ x, xs[i]? = some x := ⟨_, List.getElem?_eq_getElem (by omega)⟩
    have h1 := hs.keep0 kp
    have e1 : (xs.take (i + 1)).filter (fun t => t.id != id) = (xs.take i).filter (fun t => t.id != id) ++ if x.id != id then [x] else [] := by
      rw [List.take_add_one, hx, Option.toList_some, List.filter_append]; simp only [List.filter_cons, List.filter_nil]
    have ll : ((xs.take i).filter (fun t => t.id != id)).length ≤ n := by
      have := List.length_filter_le (fun t : T => t.id != id) (xs.take i); simp at this ⊢; omega
    have := s'.le
    rw [impl_Sched_step_M_l3, wrap_suc (by omega)]
    refine ifD_t (by omega) (SlT.gRow h1 hx ?_)
    refine ifB_neI (fun g => ?_) fun g => ih (i + 1) h a' l' c' (by omega) kp f (by rw [e1, if_neg (by simpa using g), List.append_nil]; exact s')
    refine newL_of [x] encT_len fun q2 h2 hq2 k2 s2 => append_inf inf60 (by decide) encT_len encT_one (s'.keep0 k2) s2 (by omega) (by omega) fun a3 c3 h3 k3 w3 s3 => ?_
    have z0 := kp.le
    have z2 := k2.le
    refine ih (i + 1) h3 a3 _ c3 (by omega) ((kp.tr k2).trans k3 ?_) (fun x hx => ?_) (by rw [e1, if_pos (by simpa using g)]; exact s3)
    · intro x l t; simp only [List.not_mem_nil, false_or] at t; have := f x t; omega
    · rcases w3 x hx with t | t
      · exact f x t
      · omega
end Go.Proofs.Yteeinamngmmlbaa
