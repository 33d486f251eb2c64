import Derived.Test.YteeinamngmmlbaaSt
set_option linter.unusedVariables false
/-! The law. -/
namespace Go.Proofs.Yteeinamngmmlbaa
open Go.Eng
variable {h h0 h1 h2 h' : H} {now seq now' seq' : Int} {a b a' b' : Option Addr} {n c m d n' c' m' d' p o : Nat} {s s0 s' s1 : S} {K : Value → H → Prop} {id k on q lock kind : Int} {i j : Nat} {t x w : T} {l : L} {xs : List T} {zs ys : List L}
structure Len (s s' : S) : Prop where
  t : s'.ths.length ≤ s.ths.length + 1
  l : s'.lks.length ≤ s.lks.length + 1
theorem hand_len : (handF s k).ths.length = s.ths.length ∧ (handF s k).lks.length ≤ s.lks.length := by
  unfold handF
  split
  · refine ⟨rfl, ?_⟩
    dsimp only; rw [List.length_eraseIdx]; split <;> omega
  · split
    · exact ⟨rfl, Nat.le_refl _⟩
    · simp [standF]
theorem exitL_len : ∀ (q : Nat) (k : Int) (s : S), (exitL id q k s).ths.length = s.ths.length ∧ (exitL id q k s).lks.length ≤ s.lks.length := by
  intro q
  induction q with
  | zero => intro k s; exact ⟨rfl, Nat.le_refl _⟩
  | succ q ih =>
    intro k s
    rw [exitL]
    have e : (exit1 id k s).ths.length = s.ths.length ∧ (exit1 id k s).lks.length ≤ s.lks.length := by
      unfold exit1; split
      · exact ⟨rfl, Nat.le_refl _⟩
      · split
        · exact hand_len
        · exact ⟨rfl, Nat.le_refl _⟩
    have := ih (k + 1) (exit1 id k s)
    omega
theorem wakeL_len : ∀ (q i : Nat) (s : S), (wakeL q i s).ths.length = s.ths.length ∧ (wakeL q i s).lks = s.lks := by
  intro q
  induction q with
  | zero => intro i s; exact ⟨rfl, rfl⟩
  | succ q ih =>
    intro i s
    rw [wakeL]
    have := ih (i + 1) (wake1 i s)
    have e : (wake1 i s).lks = s.lks := by
      unfold wake1; split
      · rfl
      · split <;> rfl
    rw [this.1, wake1_len, this.2, e]; exact ⟨rfl, rfl⟩
theorem Len.same (t : s'.ths.length = s.ths.length) (l : s'.lks.length ≤ s.lks.length) : Len s s' := ⟨by omega, by omega⟩
theorem step_len (ok : OkS s) : Len s (stepS s kind id q).1 := by
  unfold stepS
  split
  · unfold spawnF
    split
    · exact .same rfl (Nat.le_refl _)
    split
    · exact .same rfl (Nat.le_refl _)
    · refine ⟨?_, Nat.le_succ _⟩
      simp only [standF, List.length_set, insT, List.length_append, List.length_take, List.length_drop, List.length_singleton]; omega
  split
  · unfold tickF tick2
    have := wakeL_len s.ths.length 0 s
    split
    · exact .same this.1 (by rw [this.2]; exact Nat.le_refl _)
    · dsimp only
      split
      · exact .same (by simp [standF, this.1]) (by simp [standF, this.2])
      · exact .same (by simp [this.1]) (by simp [this.2])
  split
  · exact .same rfl (Nat.le_refl _)
  split
  · exact .same rfl (Nat.le_refl _)
  unfold stepAt
  split
  · have := exitL_len (id := (‹T› : T).id) 16 0 { s with ths := s.ths.eraseIdx (posT s.ths id).toNat }
    unfold exitF
    have e : (s.ths.eraseIdx (posT s.ths id).toNat).length ≤ s.ths.length := by rw [List.length_eraseIdx]; split <;> omega
    exact ⟨by have := this.1; dsimp only at this ⊢; omega, by have := this.2; dsimp only at this ⊢; omega⟩
  split
  · unfold lockF
    split
    · exact .same rfl (Nat.le_refl _)
    split
    · exact .same rfl (Nat.le_refl _)
    split
    · unfold takeF
      split
      · refine ⟨Nat.le_succ _, ?_⟩
        rename_i f
        have f := getL_none.mp f
        obtain ⟨fr, fl, _, _, ex⟩ := ins_filter (q := q) (y := ⟨q, (‹T› : T).id⟩) s.lks (srtL_pw ok.wf.l) f
        dsimp only
        rw [← ex]
        simp only [List.length_append, List.length_take, List.length_drop, List.length_singleton]; omega
      · split
        · exact .same rfl (Nat.le_refl _)
        split
        · exact .same rfl (Nat.le_refl _)
        · exact .same (by simp) (Nat.le_refl _)
    split
    · exact .same rfl (Nat.le_refl _)
    · split
      · exact .same rfl (Nat.le_refl _)
      · exact .same hand_len.1 hand_len.2
  split
  · repeat' split
    · exact .same rfl (Nat.le_refl _)
    · exact .same rfl (Nat.le_refl _)
    · exact .same (by simp) (Nat.le_refl _)
  split
  · split
    · exact .same rfl (Nat.le_refl _)
    · exact .same (by simp [standF]) (Nat.le_refl _)
  split
  · exact .same rfl (Nat.le_refl _)
  · exact .same (by simp) (Nat.le_refl _)
theorem sched_len : (schedF s kind id q).1.ths.length ≤ 33 ∧ (schedF s kind id q).1.lks.length ≤ 17 := by
  by_cases ok : OkS s
  · rw [schedF_ok ok]
    have := step_len (kind := kind) (id := id) (q := q) ok
    have := ok.tl
    have := ok.ll
    have := this
    exact ⟨by have := (step_len (kind := kind) (id := id) (q := q) ok).t; omega, by have := (step_len (kind := kind) (id := id) (q := q) ok).l; omega⟩
  · have e : schedF s kind id q = (emptyS, 0, 0) := by unfold schedF; rw [if_neg ok]
    rw [e]; exact ⟨by simp [emptyS], by simp [emptyS]⟩
end Go.Proofs.Yteeinamngmmlbaa
