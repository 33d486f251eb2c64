import Derived.Test.YtgcjjapmdbgofaaQl
set_option linter.unusedVariables false
namespace Go.Proofs.Ytgcjjapmdbgofaa
open Go.Eng
variable {h h0 h' : H} {b o c n i j p q r : Nat} {a : Option Addr} {xs : List P} {x me : P} {K : Value → H → Prop} {s k to sig id kind g : Int}

/-- numbers going up from 1, at most 32 -/
structure Srt (xs : List P) : Prop where
  root : ∀ x, xs[0]? = some x → x.id = 1
  inc : ∀ (j : Nat) (y z : P), xs[j]? = some y → xs[j + 1]? = some z → y.id < z.id
  hi : ∀ (j : Nat) (y : P), xs[j]? = some y → y.id ≤ 32
theorem Srt.ge (s : Srt xs) : ∀ (j : Nat) (y : P), xs[j]? = some y → (j : Int) + 1 ≤ y.id := by
  intro j
  induction j with
  | zero => intro y hy; rw [s.root y hy]; omega
  | succ j ih =>
    intro y hy
    obtain ⟨z, hz⟩ : ∃ z, xs[j]? = some z := ⟨_, List.getElem?_eq_getElem (by have := get_lt hy; omega)⟩
    have := s.inc j z y hz hy
    have := ih z hz; omega
theorem Srt.gap (s : Srt xs) : ∀ (d j : Nat) (y z : P), xs[j]? = some y → xs[j + d]? = some z → y.id + d ≤ z.id := by
  intro d
  induction d with
  | zero => intro j y z hy hz; rw [Nat.add_zero, hy] at hz; injection hz with hz; subst hz; omega
  | succ d ih =>
    intro j y z hy hz
    obtain ⟨w, hw⟩ : ∃ w, xs[j + d]? = some w := ⟨_, List.getElem?_eq_getElem (by have := get_lt hz; omega)⟩
    have := ih j y w hy hw
    have := s.inc (j + d) w z hw hz; omega
theorem free_at (s : Srt xs) (l32 : xs.length ≤ 32) (d : Nat) (dl : d ≤ xs.length) (eq : ∀ (j : Nat) (y : P), j < d → xs[j]? = some y → y.id = (j : Int) + 1)
    (stop : ∀ y, xs[d]? = some y → y.id ≠ (d : Int) + 1) : freeId xs 33 1 = (d : Int) + 1 := by
  have key : ∀ (t j : Nat), j + t = d → freeId xs (33 - j) ((j : Int) + 1) = (d : Int) + 1 := by
    intro t
    induction t with
    | zero =>
      intro j e
      have : j = d := by omega
      subst this
      obtain ⟨m, hm⟩ : ∃ m, 33 - j = m + 1 := ⟨32 - j, by omega⟩
      rw [hm, freeId, if_neg]
      rintro ⟨le, so⟩
      rcases at_cases xs ((j : Int) + 1) with f | ⟨i, y, ty⟩
      · rw [getP_none.mpr f] at so; simp at so
      · rcases Nat.lt_trichotomy i j with l | l | l
        · have := eq i y l ty.1; have := ty.2.1; omega
        · subst l; exact stop y ty.1 ty.2.1
        · obtain ⟨z, hz⟩ : ∃ z, xs[j]? = some z := ⟨_, List.getElem?_eq_getElem (by have := get_lt ty.1; omega)⟩
          have := s.gap (i - j) j z y hz (by rw [show j + (i - j) = i by omega]; exact ty.1)
          have := s.ge j z hz
          have := ty.2.1; omega
    | succ t ih =>
      intro j e
      obtain ⟨m, hm⟩ : ∃ m, 33 - j = m + 1 := ⟨32 - j, by omega⟩
      obtain ⟨y, hy⟩ : ∃ y, xs[j]? = some y := ⟨_, List.getElem?_eq_getElem (by omega)⟩
      have ey := eq j y (by omega) hy
      rw [hm, freeId, if_pos]
      · have := ih (j + 1) (by omega)
        rw [show 33 - (j + 1) = m by omega] at this
        rw [show (j : Int) + 1 + 1 = ((j + 1 : Nat) : Int) + 1 by omega]; exact this
      · refine ⟨by omega, ?_⟩
        obtain ⟨w, hw⟩ := At1.of hy
        rw [ey] at hw; rw [hw]; rfl
  exact key d 0 (by omega)
theorem free_full (s : Srt xs) (e : xs.length = 32) : freeId xs 33 1 = 33 := by
  refine free_at s (by omega) 32 (by omega) (fun j y hj hy => ?_) (fun y hy => by have := get_lt hy; omega)
  have h1 := s.ge j y hy
  obtain ⟨z, hz⟩ : ∃ z, xs[31]? = some z := ⟨_, List.getElem?_eq_getElem (by omega)⟩
  have h2 := s.gap (31 - j) j y z hy (by rw [show j + (31 - j) = 31 by omega]; exact hz)
  have h3 := s.hi 31 z hz
  omega
theorem nodup_ids (nice : Nice xs) (f : P → Bool) : ((xs.filter f).map (·.id)).Nodup := by
  have : (xs.map (·.id)).Nodup := by
    rw [List.Nodup, List.pairwise_iff_getElem]
    intro i j hi hj l e
    simp only [List.length_map] at hi hj
    rw [List.getElem_map, List.getElem_map] at e
    have := nice.uni i j _ _ (List.getElem?_eq_getElem hi) (List.getElem?_eq_getElem hj) e
    omega
  exact this.sublist ((List.filter_sublist (p := f) (l := xs)).map _)
theorem killF_none (f : ∀ x ∈ xs, (killM me to x && killA me x) = false) : xs.map (killF me to g) = xs := by
  refine List.ext_getElem? fun d => ?_
  rw [List.getElem?_map]
  cases hd : xs[d]? with
  | none => rfl
  | some y => rw [Option.map_some, killF, f y (List.mem_of_getElem? hd), Bool.false_and, if_neg (by simp)]
/-- all that a step asks of a list of processes -/
structure Good (xs : List P) : Prop where
  l32 : xs.length ≤ 32
  st : StepOk xs
  nice : Nice xs
  srt : Srt xs
  sig : ∀ (i : Nat) (x : P), xs[i]? = some x → SigOk x
section
variable {pt : Option Addr} {kr : Int → Int → Int → H → Prop} {ix : Nat}
theorem code_ret {v : Int} (z : kr v 0 0 h) : callD Try.prog 44 ⟨[.int .i64 v]⟩ h fun v h => elF False (.agg [.int .i64, .int .i64, .int .i64]) v fun x y z => kr x y z h :=
  code_spec (o_el_AI3E z)
theorem forkI (S : Sp h p q r (some ⟨b, o, none⟩) n c xs kind id to g (some ⟨b, o + ix * 10, none⟩)) (gd : Good xs) (hm : xs[ix]? = some me)
    (fin : ∀ v, forkS xs me = v → ∀ h' a' n' c', MO p h (some ⟨b, o, none⟩) v.1 h' a' n' c' → kr v.2.1 v.2.2.1 v.2.2.2 h') (nl : ¬ (n : Int) = 32) :
    ∀ (m d : Nat) (kx : Option Addr → Nat → Int → Int → Int → H → Prop), d + m = n → (∀ (j : Nat) (y : P), j < d → xs[j]? = some y → y.id = (j : Int) + 1) →
    (∀ d : Nat, d ≤ n → (∀ (j : Nat) (y : P), j < d → xs[j]? = some y → y.id = (j : Int) + 1) → (∀ y, xs[d]? = some y → y.id ≠ (d : Int) + 1) → kx (some ⟨p, 0, none⟩) r d 0 0 h) →
    impl_Procs_step_M_l0 kx (m + 1) (some ⟨p, 0, none⟩) r d 0 0 h := by
  have hl := S.m.hs.le
  intro m
  induction m with
  | zero =>
    intro d kx e eq k
    rw [impl_Procs_step_M_l0, nz_some, ldL_eq (S.m.hp.cell 0)]
    exact ifD_f (by omega) (k d (by omega) eq fun y hy => by have := get_lt hy; omega)
  | succ m ih =>
    intro d kx e eq k
    obtain ⟨x, hx⟩ : ∃ x, xs[d]? = some x := ⟨_, List.getElem?_eq_getElem (by omega)⟩
    rw [impl_Procs_step_M_l0, nz_some, ldL_eq (S.m.hp.cell 0)]
    refine ifD_t (by omega) ?_
    rw [nz_some, ldL_eq (S.m.hp.cell 0), wrap_suc (by omega)]
    refine S.m.hs.gI0 hx (ifB_eqI (fun f => ?_) fun f => ?_)
    · refine ih (d + 1) kx (by omega) (fun j y hj hy => ?_) k
      by_cases t : j = d
      · subst t; rw [hx] at hy; injection hy with hy; subst hy; omega
      · exact eq j y (by omega) hy
    · exact k d (by omega) eq fun y hy => by rw [hx] at hy; injection hy with hy; subst hy; omega
theorem forkI_tail (S : Sp h p q r (some ⟨b, o, none⟩) n c xs kind id to g (some ⟨b, o + ix * 10, none⟩)) (gd : Good xs) (hm : xs[ix]? = some me)
    (fin : ∀ v, forkS xs me = v → ∀ h' a' n' c', MO p h (some ⟨b, o, none⟩) v.1 h' a' n' c' → kr v.2.1 v.2.2.1 v.2.2.2 h') (nl : ¬ (n : Int) = 32) {d : Nat} (dn : d ≤ n)
    (ef : freeId xs 33 1 = (d : Int) + 1) :
    ldP h r 0 fun p49 => nz p49 fun b50 o51 => ldRow h b50 o51 0 [.int .i64, .int .i64, .int .i64, .int .i64, .int .i64, .int .i64, .int .i64, .int .i64, .int .i64, .int .i64] fun n52 n53 n54 n55 n56 n57 n58 n59 n60 n61 =>
    ldP h r 0 fun p62 => nz p62 fun b63 o64 => ldI .i64 h b63 o64 fun n65 => cell h b63 o64 = some (.int .i64 n65) ∧ (cell h r 0 = some (.pointer p62) ∧ (nz (some ⟨p, 0, none⟩) fun b66 o67 =>
    ldL h b66 o67 fun a68 l68 c68 => req (0 ≤ (d : Int) ∧ (d : Int) ≤ (c68 : Nat)) (req (plainA a68 = true)
    (appendD Try.prog 38 h none 0 0 (.slice (slB a68 0 c68 10) ((d : Int).toNat - 0) (c68 - 0)) fun a69 l69 c69 h =>
    nz (some ⟨p, 0, none⟩) fun b70 o71 => ldL h b70 o71 fun a72 l72 c72 => req (0 ≤ (d : Int) ∧ (d : Int) ≤ (l72 : Nat)) (req (plainA a72 = true)
    (newD h [.int .i64 (IntKind.i64.wrap ((d : Int) + 1)), .int .i64 n65, .int .i64 n54, .int .i64 n55, .int .i64 1, .int .i64 n57, .int .i64 0, .int .i64 n59, .int .i64 n60, .int .i64 n61] 38 fun b73 h =>
    cell h b70 o71 = some (.slice a72 l72 c72) ∧ (appendD Try.prog 38 h a69 l69 c69 (.slice (some ⟨b73, 0, none⟩) 1 1) fun a74 l74 c74 h =>
    cell h b70 o71 = some (.slice a72 l72 c72) ∧ (appendD Try.prog 38 h a74 l74 c74 (.slice (slB a72 (d : Int).toNat c72 10) (l72 - (d : Int).toNat) (c72 - (d : Int).toNat)) fun a75 l75 c75 h =>
    nz (some ⟨p, 0, none⟩) fun b76 o77 => st h b76 o77 (.slice a75 l75 c75) fun h => kr 0 (IntKind.i64.wrap ((d : Int) + 1)) 0 h)))))))) := by
  have hs := S.m.hs
  have hl := hs.le
  have l32 := gd.l32
  have e0 := hs.rw.cell (j := 0) hm (v := .int .i64 me.id) rfl
  rw [Nat.add_zero] at e0
  rw [ldP_eq (S.hr.cell 0), nz_some, RwP_row hs.rw hm, ldP_eq (S.hr.cell 0), nz_some, ldI_eq e0]
  refine ⟨e0, S.hr.cell 0, ?_⟩
  rw [nz_some, ldL_eq (S.m.hp.cell 0), req_eq (by omega), req_eq hs.plain]
  simp only [Int.toNat_natCast]
  refine appendP slP_nil (hs.part (l := 0) (m := d) (by omega) dn) (by omega) fun a2 c2 h2 k2 w2 s2 => ?_
  have k2 : Keep [] h h2 := k2
  have f2 : ∀ d ∈ own a2, h.size ≤ d := fun d hd => by
    rcases w2 d hd with t | t
    · simp [own] at t
    · exact t
  have hp2 := k2.blk S.m.hp (by simp)
  have z2 := k2.le
  rw [nz_some, ldL_eq (hp2.cell 0), req_eq (by omega), req_eq hs.plain, wrap_suc (by omega)]
  refine oneP (x := child me ((d : Int) + 1)) rfl fun u h3 le3 k3 s3 => ?_
  have hp3 := k3.blk hp2 (by simp)
  have z3 := k3.le
  refine ⟨hp3.cell 0, appendP (s2.keep0 k3) s3 (by omega) fun a4 c4 h4 k4 w4 s4 => ?_⟩
  have k04 : Keep [] h h4 := (k2.trans k3 (U := []) (by simp)).trans k4 (by intro d dl t; simp only [List.not_mem_nil, false_or] at t; have := f2 d t; omega)
  have f4 : ∀ d ∈ own a4, h.size ≤ d := fun d hd => by
    rcases w4 d hd with t | t
    · exact f2 d t
    · omega
  have hp4 := k04.blk S.m.hp (by simp)
  have z4 := k04.le
  refine ⟨hp4.cell 0, appendP s4 ((hs.keep0 k04).part (l := d) (m := n) dn (by omega)) (by omega) fun a5 c5 h5 k5 w5 s5 => ?_⟩
  have k05 : Keep [] h h5 := k04.trans k5 (by intro d dl t; simp only [List.not_mem_nil, false_or] at t; have := f4 d t; omega)
  have f5 : ∀ d ∈ own a5, h.size ≤ d := fun d hd => by
    rcases w5 d hd with t | t
    · exact f4 d t
    · omega
  have hp5 := k05.blk S.m.hp (by simp)
  have lp := S.m.hp.lt
  have ex : [] ++ List.take (d - 0) (List.drop 0 xs) ++ [child me ((d : Int) + 1)] ++ List.take (n - d) (List.drop d xs) = forkF xs me ((d : Int) + 1) := by
    rw [forkF, List.nil_append, List.drop_zero, Nat.sub_zero, part_self hl.1, show ((d : Int) + 1).toNat - 1 = d by omega]
  rw [ex] at s5
  refine nz_of (st_of hp5 (by simp) fun h6 e6 hp6 k6 => ?_)
  have ev : forkS xs me = (forkF xs me ((d : Int) + 1), 0, (d : Int) + 1, 0) := by rw [forkS, ef, if_neg (by omega)]
  refine fin _ ev h6 a5 _ c5 ⟨?_, fun b t => .inr (f5 b t), ⟨hp6, ?_, ?_⟩⟩
  · exact k05.trans k6 (by intro d dl t; simp at t ⊢; exact .inl t)
  · exact s5.keep k6 (by intro b hb; have := f5 b hb; simp; omega)
  · intro t; have := f5 p t; omega
theorem killI (S : Sp h p q r (some ⟨b, o, none⟩) n c xs kind id to g (some ⟨b, o + ix * 10, none⟩)) (gd : Good xs) (hm : xs[ix]? = some me) (em : me.id = id)
    (fin : ∀ v, killS xs me to g = v → ∀ h' a' n' c', MO p h (some ⟨b, o, none⟩) v.1 h' a' n' c' → kr v.2.1 v.2.2.1 v.2.2.2 h') (g0 : 0 ≤ g) (g1 : g ≤ 15) :
    ∃ M, impl_Procs_step_M_l3 (fun p129 b130 t131 a132 l132 n133 n135 h =>
      ifB (!t131) (callD Try.prog 44 ⟨[.int .i64 3]⟩ h fun v137 h => elF False (.agg [.int .i64, .int .i64, .int .i64]) v137 fun n138 n139 n140 => kr n138 n139 n140 h)
      (ifB ((l132 : Int) == 0) (callD Try.prog 44 ⟨[.int .i64 2]⟩ h fun v141 h => elF False (.agg [.int .i64, .int .i64, .int .i64]) v141 fun n142 n143 n144 => kr n142 n143 n144 h)
      (ldI .i64 h b130 3 fun n145 => ifB (decide ((n145 : Int) > 0))
      (∃ M151, impl_Procs_step_M_l5 (fun l146 n147 n149 h => kr n147 l146 n149 h) M151 p129 b130 l132 a132 l132 l132 0 n133 n135 h)
      (kr n133 l132 n135 h)))) M (some ⟨p, 0, none⟩) q r q r false none 0 0 (some ⟨b, o, none⟩) n n 0 0 0 h := by
  have hs := S.m.hs
  have hl := hs.le
  have l32 := gd.l32
  have e0 : killS xs me to g = if xs.any (killM me to) = false then (xs.map (killF me to g), 3, 0, 0)
      else if (xs.countP fun x => killM me to x && killA me x) = 0 then (xs.map (killF me to g), 2, 0, 0)
      else (xs.map (killF me to g), 0, ((xs.countP fun x => killM me to x && killA me x : Nat) : Int), 0) := by rw [killS, if_neg (by omega)]
  refine ⟨n + 1, killI_loop (me := me) (to := to) S (by omega) hm em (fun h1 a1 n1 c1 k1 w1 s1 => ?_) n 0 h none 0 0 (by omega) Keep.refl (by simp [own]) slI_nil⟩
  have S1 : Sp h1 p q r (some ⟨b, o, none⟩) n c xs kind id to g (some ⟨b, o + ix * 10, none⟩) := ⟨⟨k1.blk S.m.hp (by simp), hs.keep0 k1, S.m.np⟩, k1.blk S.hq (by simp), k1.blk S.hr (by simp), S.qa, S.ra, S.qp, S.rp⟩
  have O1 : MO p h (some ⟨b, o, none⟩) xs h1 (some ⟨b, o, none⟩) n c := ⟨k1.mono (by simp), fun b t => .inl t, S1.m⟩
  have en : n1 = xs.countP fun x => killM me to x && killA me x := by
    have := s1.le.1
    rw [List.length_map, ← List.countP_eq_length_filter] at this; exact this
  have none_ (f : (xs.countP fun x => killM me to x && killA me x) = 0) : xs.map (killF me to g) = xs := killF_none fun x hx => by
    have := List.countP_eq_zero.mp f x hx; simpa using this
  refine ifB_nb (fun f => code_ret ?_) fun f => ?_
  · have z : (xs.countP fun x => killM me to x && killA me x) = 0 := List.countP_eq_zero.mpr fun x hx => by
      have := List.any_eq_false.mp f x hx; simp at this; simp [this]
    exact fin (xs.map (killF me to g), 3, 0, 0) (by rw [e0, if_pos f]) h1 _ n c (by rw [none_ z]; exact O1)
  rw [if_neg (by simp [f])] at e0
  refine ifB_eqI (fun f2 => code_ret ?_) fun f2 => ?_
  · have z : (xs.countP fun x => killM me to x && killA me x) = 0 := by omega
    exact fin (xs.map (killF me to g), 2, 0, 0) (by rw [e0, if_pos z]) h1 _ n c (by rw [none_ z]; exact O1)
  rw [if_neg (by omega)] at e0
  rw [ldI_eq (S1.hq.cell 3)]
  refine ifB_dec (fun f3 => ?_) fun f3 => ?_
  · have bl := S.m.hs.lt (b := b) (by simp [own])
    have lp := S.m.hp.lt
    refine ⟨n1 + 1, sends_loop (xs := xs) (g := g) S1.hq S1.qa S1.qp s1 (fun d hd => ?_) gd.nice (fun z hz => ?_) (nodup_ids gd.nice _) g0 g1 S1.m (fun h2 o2 => ?_) n1 0 h1 (by omega) ?_⟩
    · have := w1 d hd; simp [own]; omega
    · obtain ⟨y, hy, rfl⟩ := List.mem_map.mp hz
      obtain ⟨i, hi, e⟩ := List.getElem_of_mem (List.mem_filter.mp hy).1
      exact ⟨i, y, by rw [List.getElem?_eq_getElem hi, e], rfl⟩
    · have em : xs.map (sentTo ((xs.filter fun x => killM me to x && killA me x).map (·.id)) g) = xs.map (killF me to g) := by
        refine List.map_congr_left fun y hy => ?_
        obtain ⟨i, hi, e⟩ := List.getElem_of_mem hy
        unfold sentTo killF
        have : (y.id ∈ (xs.filter fun x => killM me to x && killA me x).map (·.id)) ↔ (killM me to y && killA me y) = true := by
          constructor
          · intro t
            obtain ⟨w, hw, ew⟩ := List.mem_map.mp t
            obtain ⟨hw1, hw2⟩ := List.mem_filter.mp hw
            obtain ⟨j, hj, e2⟩ := List.getElem_of_mem hw1
            have := gd.nice.uni i j y w (by rw [List.getElem?_eq_getElem hi, e]) (by rw [List.getElem?_eq_getElem hj, e2]) ew.symm
            subst this; rw [e] at e2; rw [e2]; exact hw2
          · intro t
            exact List.mem_map.mpr ⟨y, List.mem_filter.mpr ⟨hy, t⟩, rfl⟩
        by_cases t : (killM me to y && killA me y) = true
        · rw [if_pos (this.mpr t), t, if_pos (by simp [f3])]
        · rw [if_neg (fun u => t (this.mp u)), if_neg (by simp at t ⊢; intro u v; exact absurd v (by simp [t u]))]
      rw [em] at o2
      rw [en]
      exact fin _ e0 h2 _ n c (O1.trans o2)
    · have : xs.map (sentTo (List.take 0 ((xs.filter fun x => killM me to x && killA me x).map (·.id))) g) = xs := by
        refine List.ext_getElem? fun d => ?_
        rw [List.getElem?_map]
        cases xs[d]? with
        | none => rfl
        | some y => simp [sentTo]
      rw [this]; exact .refl S1.m
  · have : xs.map (killF me to g) = xs := by
      refine List.ext_getElem? fun d => ?_
      rw [List.getElem?_map]
      cases xs[d]? with
      | none => rfl
      | some y => simp [killF, f3]
    rw [this] at e0
    rw [en]
    exact fin _ e0 h1 _ n c O1
end
end Go.Proofs.Ytgcjjapmdbgofaa
