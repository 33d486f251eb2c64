import Derived.Test.YtgcjjapmdbgofaaQqa
set_option linter.unusedVariables false
/-! The drawn lists of processes: what holds of them all. -/
namespace Go.Proofs.Ytgcjjapmdbgofaa
open Go.Eng
variable {b o c n i j p : Nat} {xs ys : List P} {x y : P} {id kind g to sig : Int}
structure Inv (xs : List P) : Prop where
  l1 : 1 ≤ xs.length
  srt : Srt xs
  r0 : ∀ x, xs[0]? = some x → x.state ≠ 3
  par : ∀ x ∈ xs, x.id ≠ 1 → x.parent ≠ x.id ∧ ∃ y ∈ xs, y.id = x.parent ∧ y.state ≠ 3
theorem Inv.l32 (v : Inv xs) : xs.length ≤ 32 := by
  have l1 := v.l1
  have := v.srt.ge (xs.length - 1) _ (List.getElem?_eq_getElem (by omega))
  have := v.srt.hi (xs.length - 1) _ (List.getElem?_eq_getElem (by omega))
  omega
theorem Inv.ok (v : Inv xs) : StepOk xs := by
  obtain ⟨d, dl, ef⟩ := free_ex v.srt v.l32
  have up : ∀ (i : Nat) (x : P), xs[i]? = some x → x.id ≠ 1 → ∃ (u : Nat) (y : P), xs[u]? = some y ∧ y.id = x.parent ∧ x.parent ≠ x.id := fun i x hx x1 => by
    obtain ⟨ne, y, my, ey, _⟩ := v.par x (List.mem_of_getElem? hx) x1
    obtain ⟨u, hu, e⟩ := List.getElem_of_mem my
    exact ⟨u, y, by rw [List.getElem?_eq_getElem hu, e], ey, ne⟩
  refine ⟨by omega, fun _ => by omega, fun i x hx _ x1 => ?_, fun i x hx _ _ x1 => ?_⟩
  · obtain ⟨u, y, hy, ey, ne⟩ := up i x hx x1
    exact Same.end v.l1 (fun j y hy => ⟨y, hy, rfl, rfl⟩) (fun j z hz => ⟨z, hz, rfl⟩) v.srt hx hy ey ne
  · obtain ⟨u, y, hy, ey, ne⟩ := up i x hx x1
    refine Same.end (xs := xs) (by simpa using v.l1) (fun j y hy => ?_) (fun j z hz => ?_) v.srt hx hy ey ne
    · by_cases q : i = j
      · subst q; rw [hx] at hy; injection hy with hy; subst hy
        exact ⟨_, getSet hx, rfl, rfl⟩
      · exact ⟨y, by rw [List.getElem?_set, if_neg q]; exact hy, rfl, rfl⟩
    · by_cases q : i = j
      · subst q
        rw [getSet hx] at hz; injection hz with hz; subst hz
        exact ⟨x, hx, rfl⟩
      · rw [List.getElem?_set, if_neg q] at hz; exact ⟨z, hz, rfl⟩
/-- the same but for fields that the invariant does not name -/
def SimX (x y : P) : Prop := y.id = x.id ∧ y.parent = x.parent ∧ (x.state ≠ 3 → y.state ≠ 3)
structure Sim (xs ys : List P) : Prop where
  len : ys.length = xs.length
  at' : ∀ (i : Nat) (x y : P), xs[i]? = some x → ys[i]? = some y → SimX x y
theorem SimX.refl : SimX x x := ⟨rfl, rfl, fun h => h⟩
theorem Sim.refl : Sim xs xs := ⟨rfl, fun i x y hx hy => by rw [hx] at hy; injection hy with hy; subst hy; exact .refl⟩
theorem Sim.get (s : Sim xs ys) (hy : ys[i]? = some y) : ∃ x, xs[i]? = some x ∧ SimX x y := by
  have := get_lt hy; have := s.len
  exact ⟨_, List.getElem?_eq_getElem (by omega), s.at' i _ y (List.getElem?_eq_getElem _) hy⟩
theorem Sim.get' (s : Sim xs ys) (hx : xs[i]? = some x) : ∃ y, ys[i]? = some y ∧ SimX x y := by
  have := get_lt hx; have := s.len
  exact ⟨_, List.getElem?_eq_getElem (by omega), s.at' i x _ hx (List.getElem?_eq_getElem _)⟩
theorem Sim.trans {zs : List P} (s : Sim xs ys) (t : Sim ys zs) : Sim xs zs :=
  ⟨t.len.trans s.len, fun i x z hx hz => by
    obtain ⟨y, hy, e⟩ := s.get' hx
    have f := t.at' i y z hy hz
    exact ⟨f.1.trans e.1, f.2.1.trans e.2.1, fun h => f.2.2 (e.2.2 h)⟩⟩
theorem Sim.set (hx : xs[i]? = some x) (e : SimX x y) : Sim xs (xs.set i y) :=
  ⟨by simp, fun j u w hu hw => by
    rw [List.getElem?_set] at hw
    by_cases q : i = j
    · subst q; rw [if_pos rfl, if_pos (get_lt hx)] at hw; injection hw with hw; subst hw
      rw [hx] at hu; injection hu with hu; subst hu; exact e
    · rw [if_neg q, hu] at hw; injection hw with hw; subst hw; exact .refl⟩
theorem Sim.map {f : P → P} (e : ∀ x, SimX x (f x)) : Sim xs (xs.map f) :=
  ⟨by simp, fun j u w hu hw => by
    rw [List.getElem?_map, hu] at hw; injection hw with hw; subst hw; exact e u⟩
theorem Srt.sim (s : Srt xs) (t : Sim xs ys) : Srt ys :=
  ⟨fun y hy => by obtain ⟨x, hx, e⟩ := t.get hy; rw [e.1]; exact s.root x hx,
   fun j y z hy hz => by obtain ⟨x, hx, e⟩ := t.get hy; obtain ⟨w, hw, f⟩ := t.get hz; rw [e.1, f.1]; exact s.inc j x w hx hw,
   fun j y hy => by obtain ⟨x, hx, e⟩ := t.get hy; rw [e.1]; exact s.hi j x hx⟩
theorem Inv.sim (v : Inv xs) (t : Sim xs ys) : Inv ys := by
  refine ⟨by have := v.l1; have := t.len; omega, v.srt.sim t, fun y hy => ?_, fun y my n1 => ?_⟩
  · obtain ⟨x, hx, e⟩ := t.get hy; exact e.2.2 (v.r0 x hx)
  · obtain ⟨i, hi⟩ := List.mem_iff_getElem?.mp my
    obtain ⟨x, hx, e⟩ := t.get hi
    obtain ⟨ne, u, mu, eu, su⟩ := v.par x (List.mem_of_getElem? hx) (by rw [← e.1]; exact n1)
    obtain ⟨j, hj⟩ := List.mem_iff_getElem?.mp mu
    obtain ⟨w, hw, f⟩ := t.get' hj
    exact ⟨by rw [e.1, e.2.1]; exact ne, w, List.mem_of_getElem? hw, by rw [f.1, eu, e.2.1], f.2.2 su⟩
theorem sendZ_sim : SimX x (sendZ x sig) := by
  unfold sendZ; split
  · exact .refl
  · rename_i n
    unfold sendP
    refine ⟨?_, ?_, fun _ => ?_⟩
    · dsimp only; split <;> split <;> split <;> rfl
    · dsimp only; split <;> split <;> split <;> rfl
    · dsimp only; split <;> split <;> split <;> first | exact n | (show (1 : Int) ≠ 3; omega)
theorem sendAt_sim : Sim xs (sendAt xs i sig) := by
  unfold sendAt; split
  · rename_i x hx; exact .set hx sendZ_sim
  · exact .refl
theorem killF_sim {me : P} : Sim xs (xs.map (killF me to sig)) := .map fun x => by
  unfold killF; split
  · exact sendZ_sim
  · exact .refl
theorem actX_sim : SimX x (actX x to sig) := by
  unfold actX; dsimp only; refine ⟨?_, ?_, fun h => ?_⟩ <;> split <;> split <;> first | rfl | exact h
/-- a part of the list, the first one and all parents in it -/
theorem Srt.erase (s : Srt xs) (i0 : i ≠ 0) : Srt (xs.eraseIdx i) := by
  have up : ∀ (j k : Nat) (y z : P), j < k → xs[j]? = some y → xs[k]? = some z → y.id < z.id := fun j k y z l hy hz => by
    have := s.gap (k - j) j y z hy (by rw [show j + (k - j) = k by omega]; exact hz); omega
  refine ⟨fun x hx => ?_, fun j y z hy hz => ?_, fun j y hy => ?_⟩
  · rw [List.getElem?_eraseIdx, if_pos (by omega)] at hx; exact s.root x hx
  · rw [List.getElem?_eraseIdx] at hy hz
    split at hy <;> split at hz
    · exact up _ _ _ _ (by omega) hy hz
    · exact up _ _ _ _ (by omega) hy hz
    · omega
    · exact up _ _ _ _ (by omega) hy hz
  · rw [List.getElem?_eraseIdx] at hy
    split at hy <;> exact s.hi _ _ hy
/-- one is taken out that is nobody's parent -/
theorem Inv.erase (v : Inv xs) (hx : xs[i]? = some x) (x1 : x.id ≠ 1) (no : ∀ y ∈ xs, y.id ≠ 1 → y.parent ≠ x.id) : Inv (xs.eraseIdx i) := by
  have i0 : i ≠ 0 := fun e => x1 (by subst e; exact v.srt.root x hx)
  refine ⟨?_, v.srt.erase i0, fun y hy => ?_, fun y my n1 => ?_⟩
  · have := get_lt hx; rw [List.length_eraseIdx, if_pos this]; omega
  · rw [List.getElem?_eraseIdx, if_pos (by omega)] at hy; exact v.r0 y hy
  · have my2 := List.mem_of_mem_eraseIdx my
    obtain ⟨ne, u, mu, eu, su⟩ := v.par y my2 n1
    refine ⟨ne, u, ?_, eu, su⟩
    obtain ⟨j, hj⟩ := List.mem_iff_getElem?.mp mu
    have ji : j ≠ i := fun e => by
      subst e; rw [hx] at hj; injection hj with hj; subst hj
      exact no y my2 n1 eu.symm
    exact List.mem_eraseIdx_iff_getElem?.mpr ⟨j, ji, hj⟩
/-- one that is nobody's parent dies -/
theorem Inv.die (v : Inv xs) (hx : xs[i]? = some x) (x1 : x.id ≠ 1) (no : ∀ y ∈ xs, y.id ≠ 1 → y.parent ≠ x.id) (ei : y.id = x.id) (ep : y.parent = x.parent) : Inv (xs.set i y) := by
  have i0 : i ≠ 0 := fun e => x1 (by subst e; exact v.srt.root x hx)
  have back : ∀ (j : Nat) (z : P), (xs.set i y)[j]? = some z → ∃ w, xs[j]? = some w ∧ z.id = w.id ∧ z.parent = w.parent ∧ (j ≠ i → z = w) := fun j z hz => by
    rw [List.getElem?_set] at hz
    by_cases q : i = j
    · subst q; rw [if_pos rfl, if_pos (get_lt hx)] at hz; injection hz with hz; subst hz
      exact ⟨x, hx, ei, ep, fun h => absurd rfl h⟩
    · rw [if_neg q] at hz; exact ⟨z, hz, rfl, rfl, fun _ => rfl⟩
  refine ⟨by simpa using v.l1, ⟨fun z hz => ?_, fun j z w hz hw => ?_, fun j z hz => ?_⟩, fun z hz => ?_, fun z mz n1 => ?_⟩
  · obtain ⟨w, hw, e, _⟩ := back 0 z hz; rw [e]; exact v.srt.root w hw
  · obtain ⟨z', hz', e, _⟩ := back j z hz; obtain ⟨w', hw', f, _⟩ := back (j + 1) w hw; rw [e, f]; exact v.srt.inc j z' w' hz' hw'
  · obtain ⟨z', hz', e, _⟩ := back j z hz; rw [e]; exact v.srt.hi j z' hz'
  · obtain ⟨w, hw, _, _, e⟩ := back 0 z hz; rw [e (by omega)]; exact v.r0 w hw
  · obtain ⟨j, hj⟩ := List.mem_iff_getElem?.mp mz
    obtain ⟨w, hw, e, f, _⟩ := back j z hj
    have mw := List.mem_of_getElem? hw
    obtain ⟨ne, u, mu, eu, su⟩ := v.par w mw (by rw [← e]; exact n1)
    refine ⟨by rw [e, f]; exact ne, u, ?_, by rw [f]; exact eu, su⟩
    obtain ⟨k, hk⟩ := List.mem_iff_getElem?.mp mu
    have ki : k ≠ i := fun t => by
      subst t; rw [hx] at hk; injection hk with hk; subst hk
      exact no w mw (by rw [← e]; exact n1) eu.symm
    exact List.mem_iff_getElem?.mpr ⟨k, by rw [List.getElem?_set, if_neg (by omega)]; exact hk⟩
theorem Inv.orphan (v : Inv xs) (d1 : id ≠ 1) : Inv (xs.map (orphan id)) ∧ ∀ y ∈ xs.map (orphan id), y.id ≠ 1 → y.parent ≠ id := by
  have oi : ∀ x, (Go.Proofs.Ytgcjjapmdbgofaa.orphan id x).id = x.id ∧ (Go.Proofs.Ytgcjjapmdbgofaa.orphan id x).state = x.state := fun x => by unfold Go.Proofs.Ytgcjjapmdbgofaa.orphan; split <;> exact ⟨rfl, rfl⟩
  have at' : ∀ (j : Nat) (y : P), (xs.map (Go.Proofs.Ytgcjjapmdbgofaa.orphan id))[j]? = some y → ∃ x, xs[j]? = some x ∧ y = Go.Proofs.Ytgcjjapmdbgofaa.orphan id x := fun j y hy => by
    rw [List.getElem?_map, Option.map_eq_some_iff] at hy
    obtain ⟨x, hx, e⟩ := hy; exact ⟨x, hx, e.symm⟩
  refine ⟨⟨by simpa using v.l1, ⟨fun y hy => ?_, fun j y z hy hz => ?_, fun j y hy => ?_⟩, fun y hy => ?_, fun y my n1 => ?_⟩, fun y my n1 => ?_⟩
  · obtain ⟨x, hx, rfl⟩ := at' 0 y hy; rw [(oi x).1]; exact v.srt.root x hx
  · obtain ⟨x, hx, rfl⟩ := at' j y hy; obtain ⟨w, hw, rfl⟩ := at' _ z hz; rw [(oi x).1, (oi w).1]; exact v.srt.inc j x w hx hw
  · obtain ⟨x, hx, rfl⟩ := at' j y hy; rw [(oi x).1]; exact v.srt.hi j x hx
  · obtain ⟨x, hx, rfl⟩ := at' 0 y hy; rw [(oi x).2]; exact v.r0 x hx
  · obtain ⟨x, mx, rfl⟩ := List.mem_map.mp my
    rw [(oi x).1] at n1 ⊢
    by_cases q : x.parent = id
    · have ep : (Go.Proofs.Ytgcjjapmdbgofaa.orphan id x).parent = 1 := by rw [Go.Proofs.Ytgcjjapmdbgofaa.orphan, if_pos q]
      have l1 := v.l1
      obtain ⟨x0, hx0⟩ : ∃ x0, xs[0]? = some x0 := ⟨_, List.getElem?_eq_getElem (by omega)⟩
      exact ⟨by rw [ep]; exact fun e => n1 e.symm, _, List.mem_map_of_mem (List.mem_of_getElem? hx0), by rw [(oi x0).1, ep, v.srt.root x0 hx0], by rw [(oi x0).2]; exact v.r0 x0 hx0⟩
    · have ep : (Go.Proofs.Ytgcjjapmdbgofaa.orphan id x).parent = x.parent := by rw [Go.Proofs.Ytgcjjapmdbgofaa.orphan, if_neg q]
      obtain ⟨ne, u, mu, eu, su⟩ := v.par x mx n1
      exact ⟨by rw [ep]; exact ne, _, List.mem_map_of_mem mu, by rw [(oi u).1, ep, eu], by rw [(oi u).2]; exact su⟩
  · obtain ⟨x, mx, rfl⟩ := List.mem_map.mp my
    unfold Go.Proofs.Ytgcjjapmdbgofaa.orphan; split
    · exact fun e => d1 e.symm
    · rename_i q; exact q
theorem Inv.end (v : Inv xs) (d1 : id ≠ 1) {st : Int} (ex : EndOk xs id) : Inv (endF xs id st) := by
  obtain ⟨l1, i, x, u, y, ti, tu⟩ := ex
  have o := v.orphan (id := id) d1
  have m : Inv (endMid xs id) ∧ ∀ y ∈ endMid xs id, y.id ≠ 1 → y.parent ≠ id := by
    unfold endMid; split
    · have s : Sim (xs.map (Go.Proofs.Ytgcjjapmdbgofaa.orphan id)) (sendAt (xs.map (Go.Proofs.Ytgcjjapmdbgofaa.orphan id)) 0 14) := sendAt_sim
      refine ⟨o.1.sim s, fun y my n1 => ?_⟩
      obtain ⟨j, hj⟩ := List.mem_iff_getElem?.mp my
      obtain ⟨w, hw, e⟩ := s.get hj
      rw [e.2.1]; exact o.2 w (List.mem_of_getElem? hw) (by rw [← e.1]; exact n1)
    · exact o
  have eF : endF xs id st = if hasI y.ignored 14 then (endMid xs id).eraseIdx i else sendAt ((endMid xs id).set i (zombie x st)) u 14 := by
    simp only [endF, ti.pos, tu.pos, Int.toNat_natCast, ti.1, tu.1]
  rw [eF]
  have no : ∀ y ∈ endMid xs id, y.id ≠ 1 → y.parent ≠ x.id := by rw [ti.2.1]; exact m.2
  have x1 : x.id ≠ 1 := by rw [ti.2.1]; exact d1
  split
  · exact m.1.erase ti.1 x1 no
  · exact (m.1.die ti.1 x1 no (y := zombie x st) rfl rfl).sim sendAt_sim
end Go.Proofs.Ytgcjjapmdbgofaa
