import Derived.Test.YtgcjjapmdbgofaaQf
set_option linter.unusedVariables false
namespace Go.Proofs.Ytgcjjapmdbgofaa
open Go.Eng
variable {h h0 h' : H} {b o c n i j p : Nat} {a : Option Addr} {xs : List P} {x me : P} {K : Value → H → Prop} {s k to sig : Int}

abbrev ret4 (a : Option Addr) (n c : Nat) (x y z : Int) : Value := .tuple ⟨[.agg ⟨[.slice a n c]⟩, .agg ⟨[.int .i64 x, .int .i64 y, .int .i64 z]⟩]⟩
/-! wait -/
def waitM (me : P) (to : Int) (x : P) : Bool :=
  x.parent == me.id && !(to == 0 && x.group != me.group) && !(decide (to > 0) && x.id != to) && !(decide (to < -1) && x.group != IntKind.i64.wrap (0 - to))
def waitS (xs : List P) (me : P) (to : Int) : List P × Int × Int × Int :=
  match xs.findIdx? (fun x => waitM me to x && x.state == 3) with
  | some k => (xs.eraseIdx k, 0, ((xs[k]?).map (·.id)).getD 0, ((xs[k]?).map (·.status)).getD 0)
  | none => (xs, if xs.any (waitM me to) then 9 else 11, 0, 0)
theorem wait_loop {kx : Bool → Option Addr → Nat → Nat → H → Prop} (hs : SlP h a n c xs) (hn : n ≤ 1048576)
    (k1 : (∀ x ∈ xs, (waitM me to x && x.state == 3) = false) → kx (xs.any (waitM me to)) a n c h)
    (k2 : ∀ k x h' a' c', xs[k]? = some x → (waitM me to x && x.state == 3) = true → (∀ j y, j < k → xs[j]? = some y → (waitM me to y && y.state == 3) = false) → Keep [] h h' → (∀ b ∈ own a', h.size ≤ b) → SlP h' a' (n - 1) c' (xs.eraseIdx k) →
      K (ret4 a' (n - 1) c' 0 x.id x.status) h') :
    ∀ m i : Nat, i + m = n → (∀ (j : Nat) y, j < i → xs[j]? = some y → (waitM me to y && y.state == 3) = false) →
    spec_l16Wait_M_l0 kx (fun a l c n4 n5 n6 h => K (ret4 a l c n4 n5 n6) h) (m + 1) to ((xs.take i).any (waitM me to)) i a n c me.id me.group h := by
  have hl := hs.le
  intro m
  induction m with
  | zero =>
    intro i e no
    rw [spec_l16Wait_M_l0, List.take_of_length_le (by omega)]
    refine ifD_f (by omega) (k1 fun x hx => ?_)
    obtain ⟨j, hj, e⟩ := List.getElem_of_mem hx
    exact no j x (by omega) (by rw [List.getElem?_eq_getElem hj, e])
  | succ m ih =>
    intro i e no
    obtain ⟨x, hx⟩ : ∃ x, xs[i]? = some x := ⟨_, List.getElem?_eq_getElem (by omega)⟩
    rw [spec_l16Wait_M_l0]
    have next (t : Bool) (f : (waitM me to x && x.state == 3) = false) (et : t = ((xs.take i).any (waitM me to) || waitM me to x)) :
        spec_l16Wait_M_l0 kx (fun a l c n4 n5 n6 h => K (ret4 a l c n4 n5 n6) h) (m + 1) to t (IntKind.i64.wrap ((i : Int) + 1)) a n c me.id me.group h := by
      rw [wrap_suc (by omega)]
      have := ih (i + 1) (by omega) (fun j y hj hy => by
        by_cases g : j = i
        · subst g; rw [hx] at hy; injection hy with hy; subst hy; exact f
        · exact no j y (by omega) hy)
      rw [List.take_add_one, hx, Option.toList_some, List.any_append, List.any_cons, List.any_nil, Bool.or_false] at this
      rw [et]; exact this
    have skip (f : waitM me to x = false) : spec_l16Wait_M_l0 kx (fun a l c n4 n5 n6 h => K (ret4 a l c n4 n5 n6) h) (m + 1) to ((xs.take i).any (waitM me to)) (IntKind.i64.wrap ((i : Int) + 1)) a n c me.id me.group h :=
      next _ (by rw [f]; rfl) (by rw [f, Bool.or_false])
    have j1 (f : waitM me to x = true) : spec_l16Wait_M_j1 (fun n1 t n2 a l c n3 n4 h => spec_l16Wait_M_l0 kx (fun a l c n4 n5 n6 h => K (ret4 a l c n4 n5 n6) h) (m + 1) n1 t (IntKind.i64.wrap (n2 + 1)) a l c n3 n4 h)
        (fun a l c n4 n5 n6 h => K (ret4 a l c n4 n5 n6) h) to i a n c me.id me.group x.id x.state x.status h := by
      rw [spec_l16Wait_M_j1]
      refine ifB_eqI (fun g => ?_) fun g => next true (by simp [g]) (by rw [f, Bool.or_true])
      exact cut_spec hs (get_lt hx) hn fun h' a' c' kp w s' => o_el_ALE (k2 i x h' a' c' hx (by simp [f, g]) no kp w s')
    refine ifD_t (by omega) (SlP.gRow hs hx (ifB_neI (fun f => skip (by simp [waitM, f])) fun f0 => ?_))
    refine ifB_eqI (fun g0 => ?_) fun g0 => ?_
    · refine ifB_neI (fun f => skip (by simp [waitM, g0, f])) fun f1 => ?_
      exact ifD_f (by omega) (ifD_f (by omega) (j1 (by simp [waitM, f0, f1, g0])))
    · refine ifB_dec (fun g1 => ?_) fun g1 => ?_
      · refine ifB_neI (fun f => skip (by simp [waitM, g1, f])) fun f1 => ?_
        exact ifD_f (by omega) (j1 (by simp [waitM, f0, f1, g0]; omega))
      · refine ifB_dec (fun g2 => ?_) fun g2 => j1 (by simp [waitM, f0, g0]; omega)
        exact ifB_neI (fun f => skip (by simp [waitM, g2]; intro _ _ _; simpa using f)) fun f1 => j1 (by simp [waitM, f0, f1, g0]; omega)
theorem wait_spec (hs : SlP h a n c xs) (hn : n ≤ 1048576) (hx : xs[i]? = some me)
    (k : ∀ h' a' n' c', OutP h a (waitS xs me to).1 h' a' n' c' → K (ret4 a' n' c' (waitS xs me to).2.1 (waitS xs me to).2.2.1 (waitS xs me to).2.2.2) h') :
    callD Try.prog 50 ⟨[.agg ⟨[.slice a n c]⟩, .int .i64 i, .int .i64 to]⟩ h K := by
  refine spec_l16Wait_M_call ?_
  rw [spec_l16Wait_M]
  refine SlP.gRow hs hx ⟨n + 1, ?_⟩
  have := wait_loop (K := K) (me := me) (to := to) (kx := fun t16 a17 l17 c17 h => ifB t16 (K (ret4 a17 l17 c17 9 0 0) h) (K (ret4 a17 l17 c17 11 0 0) h)) hs hn (fun no => ?_) (fun k' y h' a' c' hy e no kp w s' => ?_) n 0 (by omega) (by intros; omega)
  · exact this
  · have e : waitS xs me to = (xs, if xs.any (waitM me to) then 9 else 11, 0, 0) := by
      rw [waitS, List.findIdx?_eq_none_iff.mpr no]
    have k := k h a n c
    rw [e] at k
    have k := k (.refl hs)
    cases g : xs.any (waitM me to) <;> rw [g] at k <;> exact k
  · have e : waitS xs me to = (xs.eraseIdx k', 0, y.id, y.status) := by
      have hi := List.getElem?_eq_some_iff.mp hy
      have : xs.findIdx? (fun x => waitM me to x && x.state == 3) = some k' := by
        rw [List.findIdx?_eq_some_iff_getElem]
        refine ⟨hi.1, by rw [hi.2]; exact e, fun j hj => ?_⟩
        have := no j (xs[j]'(by have := hi.1; omega)) hj (List.getElem?_eq_getElem _)
        rw [this]; simp
      rw [waitS, this]; simp [hy]
    have k := k h' a' (n - 1) c'
    rw [e] at k
    exact k (.new kp w s')
/-! kill -/
def killM (me : P) (to : Int) (x : P) : Bool :=
  if to = 0 then x.group == me.group else if to = -1 then x.id != 1 && x.id != me.id else if to < -1 then x.group == IntKind.i64.wrap (0 - to) else x.id == to
def killA (me x : P) : Bool := me.user == 0 || me.user == x.user
def killF (me : P) (to sig : Int) (x : P) : P := if killM me to x && killA me x && decide (sig > 0) then sendZ x sig else x
theorem kill_loop {kx : Bool → Int → Option Addr → Nat → Nat → H → Prop} (hl : n = xs.length) (hb : n ≤ 1048576) (s1 : sig ≤ 15)
    (k : ∀ h, OutP h0 a (xs.map (killF me to sig)) h a n c → kx (xs.any (killM me to)) (xs.countP fun x => killM me to x && killA me x : Nat) a n c h) :
    ∀ (m i : Nat) h, i + m = n → OutP h0 a (mix (killF me to sig) xs i) h a n c →
    spec_l16Kill_M_l0 kx (m + 1) ((xs.take i).any (killM me to)) ((xs.take i).countP fun x => killM me to x && killA me x : Nat) i a n c to sig me.id me.group me.user h := by
  intro m
  induction m with
  | zero =>
    intro i h e out
    rw [spec_l16Kill_M_l0, List.take_of_length_le (by omega)]
    have : i = xs.length := by omega
    subst this
    rw [mix_all] at out
    exact ifD_f (by omega) (k h out)
  | succ m ih =>
    intro i h e out
    obtain ⟨x, hx⟩ : ∃ x, xs[i]? = some x := ⟨_, List.getElem?_eq_getElem (by omega)⟩
    have hx' : (mix (killF me to sig) xs i)[i]? = some x := by rw [mix_get, if_neg (by omega), hx]
    rw [spec_l16Kill_M_l0]
    generalize eL : (fun t58 n59 (n60 : Int) a61 l61 c61 n65 n66 n74 n76 n77 h => spec_l16Kill_M_l0 kx (m + 1) t58 n59 (IntKind.i64.wrap (n60 + 1)) a61 l61 c61 n65 n66 n74 n76 n77 h) = L
    have cl : (xs.take i).countP (fun x => killM me to x && killA me x) ≤ i := by
      have := List.countP_le_length (p := fun x => killM me to x && killA me x) (l := xs.take i); simp at this; omega
    have next (h1 : H) (t : Bool) (q : Int) (out1 : OutP h0 a (mix (killF me to sig) xs (i + 1)) h1 a n c) (et : t = ((xs.take i).any (killM me to) || killM me to x))
        (eq : q = ((xs.take i).countP fun x => killM me to x && killA me x : Nat) + if killM me to x && killA me x then 1 else 0) : L t q i a n c to sig me.id me.group me.user h1 := by
      have := ih (i + 1) h1 (by omega) out1
      rw [List.take_add_one, hx, Option.toList_some, List.any_append, List.any_cons, List.any_nil, Bool.or_false, List.countP_append, List.countP_cons, List.countP_nil] at this
      rw [← eL]
      show spec_l16Kill_M_l0 kx (m + 1) t q (IntKind.i64.wrap ((i : Int) + 1)) a n c to sig me.id me.group me.user h1
      rw [wrap_suc (by omega), et, eq]
      have e2 : ((((xs.take i).countP fun x => killM me to x && killA me x) + (0 + if (killM me to x && killA me x) = true then 1 else 0) : Nat) : Int) = ((xs.take i).countP fun x => killM me to x && killA me x : Nat) + if killM me to x && killA me x then 1 else 0 := by
        split <;> simp
      rw [e2] at this; exact this
    have same (f : (killM me to x && killA me x && decide (sig > 0)) = false) : OutP h0 a (mix (killF me to sig) xs (i + 1)) h a n c := by
      rw [mix_succ hx, killF, f, if_neg (by simp), set_same hx']; exact out
    have j3 (t : Bool) (ht : t = killM me to x) : spec_l16Kill_M_j3 L L ((xs.take i).any (killM me to)) ((xs.take i).countP fun x => killM me to x && killA me x : Nat) i t a n c to sig me.id me.group me.user x.user h := by
      have j4 (t' : Bool) (ht' : t' = killA me x) (km : killM me to x = true) : spec_l16Kill_M_j4 L true ((xs.take i).countP fun x => killM me to x && killA me x : Nat) i t' a n c to sig me.id me.group me.user h := by
        rw [spec_l16Kill_M_j4]
        refine ifB_b (fun e1 => ?_) fun e1 => ?_
        · have ka : killA me x = true := by rw [← ht', e1]
          have ew : IntKind.i64.wrap ((((xs.take i).countP fun x => killM me to x && killA me x : Nat) : Int) + 1) = ((xs.take i).countP fun x => killM me to x && killA me x : Nat) + 1 := wrap64 (by omega) (by omega)
          rw [ew]
          refine ifB_dec (fun g => ?_) fun g => next h _ _ (same (by simp [g])) (by rw [km, Bool.or_true]) (by rw [km, ka]; simp)
          refine send_spec (by omega) s1 out.sl hx' fun h1 o1 => o_el_TE (next h1 _ _ ?_ (by rw [km, Bool.or_true]) (by rw [km, ka]; simp))
          have : killF me to sig x = sendZ x sig := by rw [killF, km, ka]; simp [g]
          rw [mix_succ hx, this]
          exact out.trans o1
        · have ka : killA me x = false := by rw [← ht', e1]
          exact next h _ _ (same (by simp [ka])) (by rw [km, Bool.or_true]) (by rw [km, ka]; simp)
      rw [spec_l16Kill_M_j3]
      refine ifB_nb (fun e1 => ?_) fun e1 => ?_
      · have km : killM me to x = false := by rw [← ht, e1]
        exact next h _ _ (same (by simp [km])) (by rw [km, Bool.or_false]) (by rw [km]; simp)
      · have km : killM me to x = true := by rw [← ht, e1]
        exact ifB_eqI (fun g => j4 _ (by simp [killA, g]) km) fun g => j4 _ (by simp [killA, g]) km
    have j2 (t : Bool) (ht : ¬ to < -1 → t = killM me to x) : spec_l16Kill_M_j2 L L ((xs.take i).any (killM me to)) ((xs.take i).countP fun x => killM me to x && killA me x : Nat) i t a n c to sig me.id me.group me.user x.group x.user h := by
      rw [spec_l16Kill_M_j2]
      refine ifB_dec (fun g => j3 _ ?_) fun g => j3 _ (ht g)
      rw [killM, if_neg (by omega), if_neg (by omega), if_pos g]
    have j1 (t : Bool) (ht : to ≠ -1 → ¬ to < -1 → t = killM me to x) : spec_l16Kill_M_j1 L L ((xs.take i).any (killM me to)) ((xs.take i).countP fun x => killM me to x && killA me x : Nat) i t a n c to sig me.id me.group me.user x.id x.group x.user h := by
      rw [spec_l16Kill_M_j1]
      refine ifB_eqI (fun g => ?_) fun g => j2 _ (ht g)
      refine ifB_neI (fun f => j2 _ fun _ => ?_) fun f => j2 _ fun _ => ?_
      · rw [killM, if_neg (by omega), if_pos g]; simp [f]
      · rw [killM, if_neg (by omega), if_pos g]; simp [f]
    refine ifD_t (by omega) (SlP.gRow out.sl hx' (ifB_eqI (fun g => j1 _ fun _ _ => ?_) fun g => j1 _ fun g1 g2 => ?_))
    · rw [killM, if_pos g]
    · rw [killM, if_neg g, if_neg g1, if_neg g2]
def killS (xs : List P) (me : P) (to sig : Int) : List P × Int × Int × Int :=
  if sig < 0 ∨ sig > 15 then (xs, 1, 0, 0)
  else if xs.any (killM me to) = false then (xs.map (killF me to sig), 3, 0, 0)
  else if (xs.countP fun x => killM me to x && killA me x) = 0 then (xs.map (killF me to sig), 2, 0, 0)
  else (xs.map (killF me to sig), 0, (xs.countP fun x => killM me to x && killA me x : Nat), 0)
theorem kill_spec {kind id : Int} (hs : SlP h a n c xs) (hn : n ≤ 1048576) (hx : xs[i]? = some me)
    (k : ∀ h' a' n' c', OutP h a (killS xs me to sig).1 h' a' n' c' → K (ret4 a' n' c' (killS xs me to sig).2.1 (killS xs me to sig).2.2.1 (killS xs me to sig).2.2.2) h') :
    callD Try.prog 51 ⟨[.agg ⟨[.slice a n c]⟩, .int .i64 i, .agg ⟨[.int .i64 kind, .int .i64 id, .int .i64 to, .int .i64 sig]⟩]⟩ h K := by
  have hl := hs.le
  refine spec_l16Kill_M_call ?_
  rw [spec_l16Kill_M]
  have fin (v : List P × Int × Int × Int) (e : killS xs me to sig = v) (h' : H) (o : OutP h a v.1 h' a n c) : K (ret4 a n c v.2.1 v.2.2.1 v.2.2.2) h' := by
    subst e; exact k h' a n c o
  refine ifB_dec (fun f => fin _ (by rw [killS, if_pos (.inl f)]) h (.refl hs)) fun f0 => ?_
  refine ifB_dec (fun f => fin _ (by rw [killS, if_pos (.inr f)]) h (.refl hs)) fun f1 => ?_
  refine SlP.gRow hs hx ⟨n + 1, ?_⟩
  have e0 : killS xs me to sig = if xs.any (killM me to) = false then (xs.map (killF me to sig), 3, 0, 0)
      else if (xs.countP fun x => killM me to x && killA me x) = 0 then (xs.map (killF me to sig), 2, 0, 0)
      else (xs.map (killF me to sig), 0, ((xs.countP fun x => killM me to x && killA me x : Nat) : Int), 0) := by rw [killS, if_neg (by omega)]
  refine kill_loop (me := me) (to := to) (sig := sig) (h0 := h) hl.1 hn (by omega) (fun h1 out => ifB_nb (fun g => ?_) fun g => ifB_eqI (fun g2 => ?_) fun g2 => ?_) n 0 h (by omega) (by rw [mix_zero]; exact .refl hs)
  · exact fin _ (by rw [e0, if_pos g]) h1 out
  · exact fin _ (by rw [e0, if_neg (by simp [g]), if_pos (by omega)]) h1 out
  · exact fin _ (by rw [e0, if_neg (by simp [g]), if_neg (by omega)]) h1 out
end Go.Proofs.Ytgcjjapmdbgofaa
