import Derived.Test.YtgcjjapmdbgofaaQg
set_option linter.unusedVariables false
namespace Go.Proofs.Ytgcjjapmdbgofaa
open Go.Eng
variable {h h0 h' : H} {b o c n i j p : Nat} {a : Option Addr} {xs : List P} {x me : P} {K : Value → H → Prop} {s k to sig id kind : Int}

/-! take -/
def low (f : Int → Bool) : Nat → Int → Int
  | 0, acc => acc
  | s + 1, acc => low f s (if f ((s + 1 : Nat) : Int) then ((s + 1 : Nat) : Int) else acc)
def takeSig (x : P) : Int := if hasI x.pending 9 then 9 else if x.state = 2 then 0 else low (fun s => hasI x.pending s && !hasI x.mask s) 15 0
def takeS (xs : List P) (i : Nat) (x : P) : List P × Int × Int × Int :=
  if takeSig x = 0 then (xs, 9, 0, 0)
  else if hasI x.caught (takeSig x) then (xs.set i { x with pending := lessI x.pending (takeSig x), mask := withI x.mask (takeSig x) }, 0, takeSig x, 2)
  else if takeSig x = 12 then (xs.set i { x with pending := lessI x.pending (takeSig x), state := 2 }, 0, takeSig x, 1)
  else if takeSig x = 14 ∨ takeSig x = 13 ∨ x.id = 1 then (xs.set i { x with pending := lessI x.pending (takeSig x) }, 0, takeSig x, 1)
  else (endF (xs.set i { x with pending := lessI x.pending (takeSig x) }) x.id (128 + takeSig x), 0, takeSig x, 1)
theorem low_rng (f : Int → Bool) : ∀ m acc, 0 ≤ acc → acc ≤ 15 → m ≤ 15 → 0 ≤ low f m acc ∧ low f m acc ≤ 15 := by
  intro m
  induction m with
  | zero => intro acc a0 a1 _; exact ⟨a0, a1⟩
  | succ m ih =>
    intro acc a0 a1 hm
    rw [low]
    split
    · exact ih _ (by omega) (by omega) (by omega)
    · exact ih _ a0 a1 (by omega)
theorem takeSig_rng (x : P) : 0 ≤ takeSig x ∧ takeSig x ≤ 15 := by
  unfold takeSig
  split
  · omega
  · split
    · omega
    · exact low_rng _ 15 0 (by omega) (by omega) (by omega)
theorem take_loop {kx : Int → Int → Option Addr → Nat → Nat → Int → Int → Int → Int → Int → H → Prop} {ix l5 l6 l7 : Int}
    (k : kx ix (low (fun s => hasI x.pending s && !hasI x.mask s) 15 0) a n c l5 l6 x.pending x.mask l7 h) :
    ∀ (m : Nat) acc, m ≤ 15 → low (fun s => hasI x.pending s && !hasI x.mask s) m acc = low (fun s => hasI x.pending s && !hasI x.mask s) 15 0 →
    spec_l16Take_M_l0 kx (m + 1) ix acc m a n c l5 l6 x.pending x.mask l7 h := by
  intro m
  induction m with
  | zero =>
    intro acc hm e
    rw [spec_l16Take_M_l0]
    rw [low] at e
    exact ifD_f (by omega) (by rw [e]; exact k)
  | succ m ih =>
    intro acc hm e
    rw [spec_l16Take_M_l0]
    rw [low] at e
    have ew : IntKind.i64.wrap (((m + 1 : Nat) : Int) - 1) = (m : Int) := by rw [wrap64 (by omega) (by omega)]; omega
    rw [ew]
    refine ifD_t (by omega) (has_spec (by omega) (by omega) (ifB_b (fun f => ?_) fun f => ?_))
    · refine has_spec (by omega) (by omega) (ifB_nb (fun g => ?_) fun g => ?_)
      · rw [f, g] at e; exact ih _ (by omega) e
      · rw [f, g] at e; exact ih _ (by omega) e
    · rw [f] at e; exact ih _ (by omega) e
theorem take_spec (hs : SlP h a n c xs) (hn : n ≤ 1048576) (hx : xs[i]? = some x)
    (ok : takeSig x ≠ 0 → x.id ≠ 1 → EndOk (xs.set i { x with pending := lessI x.pending (takeSig x) }) x.id)
    (k : ∀ h' a' n' c', OutP h a (takeS xs i x).1 h' a' n' c' → K (ret4 a' n' c' (takeS xs i x).2.1 (takeS xs i x).2.2.1 (takeS xs i x).2.2.2) h') :
    callD Try.prog 54 ⟨[.agg ⟨[.slice a n c]⟩, .int .i64 i]⟩ h K := by
  have hl := hs.le
  have fin (v : List P × Int × Int × Int) (e : takeS xs i x = v) (h' : H) (a' n' c') (o : OutP h a v.1 h' a' n' c') : K (ret4 a' n' c' v.2.1 v.2.2.1 v.2.2.2) h' := by
    subst e; exact k h' a' n' c' o
  have rng := takeSig_rng x
  have j1 : spec_l16Take_M_j1 (fun a l c n4 n5 n6 h => K (ret4 a l c n4 n5 n6) h) i (takeSig x) a n c x.id x.pending x.mask x.caught h := by
    rw [spec_l16Take_M_j1]
    refine ifB_eqI (fun f => fin _ (by rw [takeS, if_pos f]) h a n c (.refl hs)) fun f => ?_
    refine less_spec (by omega) (by omega) (asI_of (hs.gSt hx { x with pending := lessI x.pending (takeSig x) } encP_len (fun h1 k1 _ s1 => ?_) rfl (by decide) rfl))
    have hx1 := getSet (y := { x with pending := lessI x.pending (takeSig x) }) hx
    refine has_spec (by omega) (by omega) (ifB_b (fun g => ?_) fun g => ?_)
    · refine with_spec (by omega) (by omega) (asI_of (s1.gSt hx1 { x with pending := lessI x.pending (takeSig x), mask := withI x.mask (takeSig x) } encP_len (fun h2 k2 _ s2 => ?_) rfl (by decide) rfl))
      rw [List.set_set] at s2
      exact fin _ (by rw [takeS, if_neg f, if_pos g]) h2 a n c ((OutP.set k1 s1).trans (.set k2 s2))
    · refine ifB_eqI (fun g1 => s1.gSt hx1 { x with pending := lessI x.pending (takeSig x), state := 2 } encP_len (fun h2 k2 _ s2 => ?_) rfl (by decide) rfl) fun g1 => ?_
      · rw [List.set_set] at s2
        exact fin _ (by rw [takeS, if_neg f, if_neg (by simp [g]), if_pos g1]) h2 a n c ((OutP.set k1 s1).trans (.set k2 s2))
      · have e0 : takeS xs i x = if takeSig x = 14 ∨ takeSig x = 13 ∨ x.id = 1 then (xs.set i { x with pending := lessI x.pending (takeSig x) }, 0, takeSig x, 1)
            else (endF (xs.set i { x with pending := lessI x.pending (takeSig x) }) x.id (128 + takeSig x), 0, takeSig x, 1) := by
          rw [takeS, if_neg f, if_neg (by simp [g]), if_neg g1]
        refine ifB_eqI (fun g2 => fin _ (by rw [e0, if_pos (.inl g2)]) h1 a n c (.set k1 s1)) fun g2 => ?_
        refine ifB_eqI (fun g3 => fin _ (by rw [e0, if_pos (.inr (.inl g3))]) h1 a n c (.set k1 s1)) fun g3 => ?_
        refine ifB_eqI (fun g4 => fin _ (by rw [e0, if_pos (.inr (.inr g4))]) h1 a n c (.set k1 s1)) fun g4 => ?_
        have ew : IntKind.i64.wrap (128 + takeSig x) = 128 + takeSig x := wrap64 (by omega) (by omega)
        rw [ew]
        exact end_spec s1 hn (ok f g4) fun h2 a2 n2 c2 o2 => o_el_ALE (fin _ (by rw [e0, if_neg (by omega)]) h2 a2 n2 c2 ((OutP.set k1 s1).trans o2))
  refine spec_l16Take_M_call ?_
  rw [spec_l16Take_M]
  refine SlP.gRow hs hx ⟨16, take_loop (has_spec (by omega) (by omega) (ifB_b (fun f => ?_) fun f => ifB_eqI (fun g => ?_) fun g => ?_)) 15 0 (by omega) rfl⟩
  · have : takeSig x = 9 := by rw [takeSig, if_pos f]
    rw [this] at j1; exact j1
  · have : takeSig x = 0 := by rw [takeSig, if_neg (by simp [f]), if_pos g]
    rw [this] at j1; exact j1
  · have : takeSig x = low (fun s => hasI x.pending s && !hasI x.mask s) 15 0 := by rw [takeSig, if_neg (by simp [f]), if_neg g]
    rw [this] at j1; exact j1
/-! action -/
def actX (x : P) (to sig : Int) : P :=
  let x := { x with ignored := lessI x.ignored to, caught := lessI x.caught to }
  let x := if sig = 1 then { x with ignored := withI x.ignored to, pending := lessI x.pending to } else x
  if sig = 2 then { x with caught := withI x.caught to } else x
def actBad (to sig : Int) : Prop := to < 1 ∨ to > 15 ∨ sig < 0 ∨ sig > 2 ∨ to = 9 ∨ to = 12
instance : Decidable (actBad to sig) := inferInstanceAs (Decidable (_ ∨ _))
def actS (xs : List P) (i : Nat) (x : P) (to sig : Int) : List P × Int × Int × Int :=
  if actBad to sig then (xs, 1, 0, 0) else (xs.set i (actX x to sig), 0, 0, 0)
theorem act_spec (hs : SlP h a n c xs) (hx : xs[i]? = some x)
    (k : ∀ h' a' n' c', OutP h a (actS xs i x to sig).1 h' a' n' c' → K (ret4 a' n' c' (actS xs i x to sig).2.1 (actS xs i x to sig).2.2.1 (actS xs i x to sig).2.2.2) h') :
    callD Try.prog 53 ⟨[.agg ⟨[.slice a n c]⟩, .int .i64 i, .agg ⟨[.int .i64 kind, .int .i64 id, .int .i64 to, .int .i64 sig]⟩]⟩ h K := by
  have hl := hs.le
  have fin (v : List P × Int × Int × Int) (e : actS xs i x to sig = v) (h' : H) (a' n' c') (o : OutP h a v.1 h' a' n' c') : K (ret4 a' n' c' v.2.1 v.2.2.1 v.2.2.2) h' := by
    subst e; exact k h' a' n' c' o
  refine spec_l16Action_M_call ?_
  rw [spec_l16Action_M]
  have bad (f : actBad to sig) : K (ret4 a n c 1 0 0) h := fin (xs, 1, 0, 0) (by rw [actS, if_pos f]) h a n c (.refl hs)
  refine ifB_dec (fun f => bad (by simp [actBad]; omega)) fun f0 => ?_
  refine ifB_dec (fun f => bad (by simp [actBad]; omega)) fun f1 => ?_
  refine ifB_dec (fun f => bad (by simp [actBad]; omega)) fun f2 => ?_
  refine ifB_dec (fun f => bad (by simp [actBad]; omega)) fun f3 => ?_
  refine ifB_eqI (fun f => bad (by simp [actBad]; omega)) fun f4 => ?_
  refine ifB_eqI (fun f => bad (by simp [actBad]; omega)) fun f5 => ?_
  have nb : ¬ actBad to sig := by simp [actBad]; omega
  refine SlP.gRow hs hx (less_spec (by omega) (by omega) (asI_of (less_spec (by omega) (by omega) (asI_of ?_))))
  have j1 (y : P) (e : actX x to sig = y) : spec_l16Action_M_j1 (fun a l c n4 n5 n6 h => K (ret4 a l c n4 n5 n6) h) i a n c y.id y.parent y.group y.user y.state y.status y.pending y.mask y.ignored y.caught h := by
    rw [spec_l16Action_M_j1]
    exact hs.req hx rfl (hs.StR (get_lt hx) y encP_len (encP_one _) (fun h1 k1 _ s1 => fin (xs.set i y, 0, 0, 0) (by rw [actS, if_neg nb, e]) h1 a n c (.set k1 s1)) rfl rfl)
  have j0 (y : P) (e : actX x to sig = if sig = 2 then { y with caught := withI y.caught to } else y) : spec_l16Action_M_j0 (fun a l c n4 n5 n6 h => K (ret4 a l c n4 n5 n6) h) i a n c to sig y.id y.parent y.group y.user y.state y.status y.pending y.mask y.ignored y.caught h := by
    rw [spec_l16Action_M_j0]
    refine ifB_eqI (fun g => with_spec (by omega) (by omega) (asI_of ?_)) fun g => j1 y (by rw [e, if_neg g])
    exact j1 { y with caught := withI y.caught to } (by rw [e, if_pos g])
  refine ifB_eqI (fun g => with_spec (by omega) (by omega) (asI_of (less_spec (by omega) (by omega) (asI_of ?_)))) fun g => ?_
  · exact j0 { x with ignored := withI (lessI x.ignored to) to, caught := lessI x.caught to, pending := lessI x.pending to } (by simp only [actX, if_pos g])
  · exact j0 { x with ignored := lessI x.ignored to, caught := lessI x.caught to } (by simp only [actX, if_neg g])
/-! group -/
def grpT (xs : List P) (to g : Int) (i : Nat) : Bool := g == to || (xs.take i).any fun y => y.id != to && y.group == g
def grpS (xs : List P) (id to g : Int) : List P × Int × Int × Int :=
  match getP xs to with
  | none => (xs, 3, 0, 0)
  | some y => if (to ≠ id ∧ y.parent ≠ id) ∨ y.state = 3 then (xs, 3, 0, 0)
    else if g < 1 ∨ g > 32 then (xs, 1, 0, 0)
    else if grpT xs to g xs.length then (xs.set (posP xs to).toNat { y with group := g }, 0, 0, 0) else (xs, 2, 0, 0)
theorem grp_loop {kx : Int → Bool → Option Addr → Nat → Nat → Int → H → Prop} {ix g : Int} (hs : SlP h a n c xs) (k : kx ix (grpT xs to g xs.length) a n c g h) :
    ∀ m i : Nat, i + m = n → spec_l16Group_M_l1 kx (m + 1) ix (grpT xs to g i) i a n c to g h := by
  have hl := hs.le
  intro m
  induction m with
  | zero =>
    intro i e
    rw [spec_l16Group_M_l1]
    have : i = xs.length := by omega
    subst this
    exact ifD_f (by omega) k
  | succ m ih =>
    intro i e
    obtain ⟨x, hx⟩ : ∃ x, xs[i]? = some x := ⟨_, List.getElem?_eq_getElem (by omega)⟩
    rw [spec_l16Group_M_l1]
    have es : grpT xs to g (i + 1) = (grpT xs to g i || (x.id != to && x.group == g)) := by
      rw [grpT, grpT, List.take_add_one, hx, Option.toList_some, List.any_append, List.any_cons, List.any_nil, Bool.or_false, Bool.or_assoc]
    have hi1 := ih (i + 1) (by omega)
    rw [es] at hi1
    rw [wrap_suc (by omega)]
    refine ifD_t (by omega) (ifB_b (fun f => by rw [f] at hi1; exact hi1) fun f => ?_)
    rw [f, Bool.false_or] at hi1
    refine hs.gI0 hx (ifB_neI (fun f2 => hs.gI hx ?_) fun f2 => ?_)
    · rw [show (x.id != to) = true by simp [f2], Bool.true_and] at hi1; exact hi1
    · rw [show (x.id != to) = false by simp [f2], Bool.false_and] at hi1; exact hi1
theorem grp_spec {g : Int} (hs : SlP h a n c xs)
    (k : ∀ h' a' n' c', OutP h a (grpS xs id to g).1 h' a' n' c' → K (ret4 a' n' c' (grpS xs id to g).2.1 (grpS xs id to g).2.2.1 (grpS xs id to g).2.2.2) h') :
    callD Try.prog 55 ⟨[.agg ⟨[.slice a n c]⟩, .int .i64 i, .agg ⟨[.int .i64 kind, .int .i64 id, .int .i64 to, .int .i64 g]⟩]⟩ h K := by
  have hl := hs.le
  have fin (v : List P × Int × Int × Int) (e : grpS xs id to g = v) (h' : H) (a' n' c') (o : OutP h a v.1 h' a' n' c') : K (ret4 a' n' c' v.2.1 v.2.2.1 v.2.2.2) h' := by
    subst e; exact k h' a' n' c' o
  refine spec_l16Group_M_call ?_
  rw [spec_l16Group_M]
  refine find_spec hs (asI_of ?_)
  rcases at_cases xs to with f | ⟨u, y, t⟩
  · rw [posP_none f]
    exact ifD_t (by omega) (fin (xs, 3, 0, 0) (by rw [grpS, getP_none.mpr f]) h a n c (.refl hs))
  rw [t.pos]
  have e0 : grpS xs id to g = if (to ≠ id ∧ y.parent ≠ id) ∨ y.state = 3 then (xs, 3, 0, 0)
    else if g < 1 ∨ g > 32 then (xs, 1, 0, 0)
    else if grpT xs to g xs.length then (xs.set u { y with group := g }, 0, 0, 0) else (xs, 2, 0, 0) := by rw [grpS, t.get, t.pos]; rfl
  refine ifD_f (by omega) ?_
  have j0 (f : ¬ ((to ≠ id ∧ y.parent ≠ id) ∨ y.state = 3)) : spec_l16Group_M_j0 (fun a l c n4 n5 n6 h => K (ret4 a l c n4 n5 n6) h) u a n c to g h := by
    rw [spec_l16Group_M_j0]
    rw [if_neg f] at e0
    refine ifB_dec (fun g0 => fin _ (by rw [e0, if_pos (.inl g0)]) h a n c (.refl hs)) fun g0 => ?_
    refine ifB_dec (fun g1 => fin _ (by rw [e0, if_pos (.inr g1)]) h a n c (.refl hs)) fun g1 => ?_
    rw [if_neg (by omega)] at e0
    have eg : (g == to) = grpT xs to g 0 := by simp [grpT]
    rw [eg]
    refine ⟨n + 1, grp_loop hs ?_ n 0 (by omega)⟩
    refine ifB_nb (fun g2 => fin (xs, 2, 0, 0) (by rw [e0, g2]; rfl) h a n c (.refl hs)) fun g2 => ?_
    exact hs.gSt t.1 { y with group := g } encP_len (fun h1 k1 _ s1 => fin _ (by rw [e0, if_pos g2]) h1 a n c (.set k1 s1)) rfl (by decide) rfl
  refine ifB_neI (fun f => ?_) fun f => ?_
  · refine hs.gI t.1 (ifB_neI (fun f1 => fin _ (by rw [e0, if_pos (.inl ⟨f, f1⟩)]) h a n c (.refl hs)) fun f1 => ?_)
    exact hs.gI t.1 (ifB_eqI (fun f2 => fin _ (by rw [e0, if_pos (.inr f2)]) h a n c (.refl hs)) fun f2 => j0 (by simp [f1, f2]))
  · exact hs.gI t.1 (ifB_eqI (fun f2 => fin _ (by rw [e0, if_pos (.inr f2)]) h a n c (.refl hs)) fun f2 => j0 (by simp [f, f2]))
/-! one step -/
def maskS (xs : List P) (i : Nat) (x : P) (to : Int) : List P × Int × Int × Int :=
  if SetI to then (xs.set i { x with mask := lessI (lessI to 9) 12 }, 0, x.mask, 0) else (xs, 1, 0, 0)
def userS (xs : List P) (i : Nat) (x : P) (u : Int) : List P × Int × Int × Int :=
  if u < 0 ∨ u > 255 then (xs, 1, 0, 0) else if x.user ≠ 0 ∧ x.user ≠ u then (xs, 2, 0, 0) else (xs.set i { x with user := u }, 0, 0, 0)
def exitS (xs : List P) (id st : Int) : List P × Int × Int × Int :=
  if st < 0 ∨ st > 255 then (xs, 1, 0, 0) else if id = 1 then (xs, 2, 0, 0) else (endF xs id st, 0, 0, 0)
def forkS (xs : List P) (x : P) : List P × Int × Int × Int :=
  if 32 < freeId xs 33 1 then (xs, 18, 0, 0) else (forkF xs x (freeId xs 33 1), 0, freeId xs 33 1, 0)
def stepAt (xs : List P) (i : Nat) (x : P) (kind id to g : Int) : List P × Int × Int × Int :=
  if kind = 1 then forkS xs x else if kind = 2 then exitS xs id g else if kind = 3 then waitS xs x to else if kind = 4 then killS xs x to g
  else if kind = 5 then maskS xs i x to else if kind = 6 then actS xs i x to g else if kind = 7 then takeS xs i x else if kind = 8 then grpS xs id to g
  else userS xs i x g
def stepP (xs : List P) (kind id to g : Int) : List P × Int × Int × Int :=
  if kind < 1 ∨ kind > 9 then (xs, 1, 0, 0) else
  match getP xs id with
  | none => (xs, 3, 0, 0)
  | some x => if x.state = 3 then (xs, 21, 0, 0) else stepAt xs (posP xs id).toNat x kind id to g
/-- what a list of processes must hold for a step to go through -/
structure StepOk (xs : List P) : Prop where
  f1 : 1 ≤ freeId xs 33 1
  fl : freeId xs 33 1 ≤ 32 → freeId xs 33 1 ≤ xs.length + 1
  ex : ∀ (i : Nat) (x : P), xs[i]? = some x → x.state ≠ 3 → x.id ≠ 1 → EndOk xs x.id
  tk : ∀ (i : Nat) (x : P), xs[i]? = some x → x.state ≠ 3 → takeSig x ≠ 0 → x.id ≠ 1 → EndOk (xs.set i { x with pending := lessI x.pending (takeSig x) }) x.id
theorem step_spec {g : Int} (hs : SlP h a n c xs) (hn : n ≤ 1048576) (ok : StepOk xs)
    (k : ∀ h' a' n' c', OutP h a (stepP xs kind id to g).1 h' a' n' c' → K (ret4 a' n' c' (stepP xs kind id to g).2.1 (stepP xs kind id to g).2.2.1 (stepP xs kind id to g).2.2.2) h') :
    callD Try.prog 27 ⟨[.agg ⟨[.slice a n c]⟩, .agg ⟨[.int .i64 kind, .int .i64 id, .int .i64 to, .int .i64 g]⟩]⟩ h K := by
  have hl := hs.le
  have fin (v : List P × Int × Int × Int) (e : stepP xs kind id to g = v) (h' : H) (a' n' c') (o : OutP h a v.1 h' a' n' c') : K (ret4 a' n' c' v.2.1 v.2.2.1 v.2.2.2) h' := by
    subst e; exact k h' a' n' c' o
  refine spec_l16Step_M_call ?_
  rw [spec_l16Step_M]
  refine ifB_dec (fun f => fin _ (by rw [stepP, if_pos (.inl f)]) h a n c (.refl hs)) fun f0 => ?_
  refine ifB_dec (fun f => fin _ (by rw [stepP, if_pos (.inr f)]) h a n c (.refl hs)) fun f1 => ?_
  refine find_spec hs (asI_of ?_)
  rcases at_cases xs id with f | ⟨i, x, t⟩
  · rw [posP_none f]
    exact ifD_t (by omega) (fin (xs, 3, 0, 0) (by rw [stepP, if_neg (by omega), getP_none.mpr f]) h a n c (.refl hs))
  have e0 : stepP xs kind id to g = if x.state = 3 then (xs, 21, 0, 0) else stepAt xs i x kind id to g := by rw [stepP, if_neg (by omega), t.get, t.pos]; rfl
  rw [t.pos]
  refine ifD_f (by omega) (hs.gI t.1 (ifB_eqI (fun f => fin _ (by rw [e0, if_pos f]) h a n c (.refl hs)) fun f2 => ?_))
  rw [if_neg f2] at e0
  have nx (v : List P × Int × Int × Int) (e : stepAt xs i x kind id to g = v) (h' : H) (a' n' c') (o : OutP h a v.1 h' a' n' c') : K (ret4 a' n' c' v.2.1 v.2.2.1 v.2.2.2) h' := fin v (e0.trans e) h' a' n' c' o
  refine ifB_eqI (fun g1 => ?_) fun g1 => ?_
  · have e1 : stepAt xs i x kind id to g = forkS xs x := by rw [stepAt, if_pos g1]
    refine fork_spec hs t.1 hn ok.f1 (by rw [hl.1]; exact ok.fl) (fun g2 => o_el_TALEAI3EE ?_) fun h1 a1 c1 g2 o1 => o_el_TALEAI3EE ?_
    · exact nx (xs, 18, 0, 0) (by rw [e1, forkS, if_pos g2]) h a n c (.refl hs)
    · exact nx (forkF xs x (freeId xs 33 1), 0, freeId xs 33 1, 0) (by rw [e1, forkS, if_neg (by omega)]) h1 a1 _ c1 o1
  refine ifB_eqI (fun g2 => ?_) fun g2 => ?_
  · have e1 : stepAt xs i x kind id to g = exitS xs id g := by rw [stepAt, if_neg g1, if_pos g2]
    refine ifB_dec (fun q => nx _ (by rw [e1, exitS, if_pos (.inl q)]) h a n c (.refl hs)) fun q0 => ?_
    refine ifB_dec (fun q => nx _ (by rw [e1, exitS, if_pos (.inr q)]) h a n c (.refl hs)) fun q1 => ?_
    refine ifB_eqI (fun q => nx _ (by rw [e1, exitS, if_neg (by omega), if_pos q]) h a n c (.refl hs)) fun q2 => ?_
    refine end_spec hs hn (by have := ok.ex i x t.1 f2; rw [t.2.1] at this; exact this q2) fun h1 a1 n1 c1 o1 => o_el_ALE ?_
    exact nx (endF xs id g, 0, 0, 0) (by rw [e1, exitS, if_neg (by omega), if_neg q2]) h1 a1 n1 c1 o1
  refine ifB_eqI (fun g3 => ?_) fun g3 => ?_
  · have e1 : stepAt xs i x kind id to g = waitS xs x to := by rw [stepAt, if_neg g1, if_neg g2, if_pos g3]
    exact wait_spec hs hn t.1 fun h1 a1 n1 c1 o1 => o_el_TALEAI3EE (nx _ e1 h1 a1 n1 c1 o1)
  refine ifB_eqI (fun g4 => ?_) fun g4 => ?_
  · have e1 : stepAt xs i x kind id to g = killS xs x to g := by rw [stepAt, if_neg g1, if_neg g2, if_neg g3, if_pos g4]
    exact kill_spec hs hn t.1 fun h1 a1 n1 c1 o1 => o_el_TALEAI3EE (nx _ e1 h1 a1 n1 c1 o1)
  refine ifB_eqI (fun g5 => ?_) fun g5 => ?_
  · have e1 : stepAt xs i x kind id to g = maskS xs i x to := by rw [stepAt, if_neg g1, if_neg g2, if_neg g3, if_neg g4, if_pos g5]
    refine set_spec (ifB_nb (fun q => ?_) fun q => ?_)
    · exact nx (xs, 1, 0, 0) (by rw [e1, maskS, if_neg (by simpa using q)]) h a n c (.refl hs)
    · refine hs.gI t.1 (less_spec (by omega) (by omega) (asI_of (less_spec (by omega) (by omega) (asI_of ?_))))
      exact hs.gSt t.1 { x with mask := lessI (lessI to 9) 12 } encP_len (fun h1 k1 _ s1 => nx (_, 0, x.mask, 0) (by rw [e1, maskS, if_pos (by simpa using q)]) h1 a n c (.set k1 s1)) rfl (by decide) rfl
  refine ifB_eqI (fun g6 => ?_) fun g6 => ?_
  · have e1 : stepAt xs i x kind id to g = actS xs i x to g := by rw [stepAt, if_neg g1, if_neg g2, if_neg g3, if_neg g4, if_neg g5, if_pos g6]
    exact act_spec hs t.1 fun h1 a1 n1 c1 o1 => o_el_TALEAI3EE (nx _ e1 h1 a1 n1 c1 o1)
  refine ifB_eqI (fun g7 => ?_) fun g7 => ?_
  · have e1 : stepAt xs i x kind id to g = takeS xs i x := by rw [stepAt, if_neg g1, if_neg g2, if_neg g3, if_neg g4, if_neg g5, if_neg g6, if_pos g7]
    exact take_spec hs hn t.1 (ok.tk i x t.1 f2) fun h1 a1 n1 c1 o1 => o_el_TALEAI3EE (nx _ e1 h1 a1 n1 c1 o1)
  refine ifB_eqI (fun g8 => ?_) fun g8 => ?_
  · have e1 : stepAt xs i x kind id to g = grpS xs id to g := by rw [stepAt, if_neg g1, if_neg g2, if_neg g3, if_neg g4, if_neg g5, if_neg g6, if_neg g7, if_pos g8]
    exact grp_spec hs fun h1 a1 n1 c1 o1 => o_el_TALEAI3EE (nx _ e1 h1 a1 n1 c1 o1)
  have e1 : stepAt xs i x kind id to g = userS xs i x g := by rw [stepAt, if_neg g1, if_neg g2, if_neg g3, if_neg g4, if_neg g5, if_neg g6, if_neg g7, if_neg g8]
  refine ifB_dec (fun q => nx _ (by rw [e1, userS, if_pos (.inl q)]) h a n c (.refl hs)) fun q0 => ?_
  refine ifB_dec (fun q => nx _ (by rw [e1, userS, if_pos (.inr q)]) h a n c (.refl hs)) fun q1 => ?_
  have j0 (q : ¬ (x.user ≠ 0 ∧ x.user ≠ g)) : spec_l16Step_M_j0 (fun a l c n4 n5 n6 h => K (ret4 a l c n4 n5 n6) h) i a n c g h := by
    rw [spec_l16Step_M_j0]
    exact hs.gSt t.1 { x with user := g } encP_len (fun h1 k1 _ s1 => nx (_, 0, 0, 0) (by rw [e1, userS, if_neg (by omega), if_neg q]) h1 a n c (.set k1 s1)) rfl (by decide) rfl
  refine hs.gI t.1 (ifB_neI (fun q2 => ?_) fun q2 => ?_)
  case refine_2 => exact j0 (by simp [q2])
  refine hs.gI t.1 (ifB_neI (fun q3 => ?_) fun q3 => ?_)
  case refine_2 => exact j0 (by simp [q3])
  exact nx (xs, 2, 0, 0) (by rw [e1, userS, if_neg (by omega), if_pos ⟨q2, q3⟩]) h a n c (.refl hs)
end Go.Proofs.Ytgcjjapmdbgofaa
