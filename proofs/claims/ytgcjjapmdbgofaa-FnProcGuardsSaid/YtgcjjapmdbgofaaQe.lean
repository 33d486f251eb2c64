import Derived.Test.YtgcjjapmdbgofaaQd
set_option linter.unusedVariables false
namespace Go.Proofs.Ytgcjjapmdbgofaa
open Go.Eng
variable {h h' : H} {b o c n i j p : Nat} {a : Option Addr} {xs : List P} {x : P} {K : Value → H → Prop} {s k : Int}

theorem inf38 : (Try.prog.info? 38).map (fun i => (i.size, i.bytes, i.zero.map fun z => (cellsOf z).length)) = some (10, 80, some 10) := by kernel_rfl
theorem appendP {n' c' : Nat} {a' : Option Addr} {ys : List P} {K : Option Addr → Nat → Nat → H → Prop}
    (x : SlP h a n c xs) (y : SlP h a' n' c' ys) (hl : n + n' ≤ 16777216)
    (k : ∀ a'' c'' h', Keep (own a) h h' → (∀ b ∈ own a'', b ∈ own a ∨ h.size ≤ b) → SlP h' a'' (n + n') c'' (xs ++ ys) → K a'' (n + n') c'' h') : appendD Try.prog 38 h a n c (.slice a' n' c') K := by
  have e := inf38
  cases hi : Try.prog.info? 38 with
  | none => rw [hi] at e; cases e
  | some i =>
    rw [hi] at e
    cases hz : i.zero with
    | none => simp [hz] at e
    | some z =>
      simp [hz] at e
      exact appendD_of hi hz e.1 (by omega) e.2.2 encP_len encP_one x y (by rw [e.2.1]; omega) (by omega) k
/-- what a call hands back: the slice is the one handed in, or new -/
structure OutP (h : H) (a : Option Addr) (ys : List P) (h' : H) (a' : Option Addr) (n' c' : Nat) : Prop where
  kp : Keep (own a) h h'
  was : ∀ b ∈ own a', b ∈ own a ∨ h.size ≤ b
  sl : SlP h' a' n' c' ys
theorem OutP.refl (hs : SlP h a n c xs) : OutP h a xs h a n c := ⟨Keep.refl, fun _ t => .inl t, hs⟩
theorem own_trans {h1 h2 : H} {a1 : Option Addr} (k1 : Keep (own a) h h1) (k2 : Keep (own a1) h1 h2) (w : ∀ b ∈ own a1, b ∈ own a ∨ h.size ≤ b) : Keep (own a) h h2 :=
  k1.trans k2 (by
    intro d dl t
    rcases t with t | t
    · exact t
    · rcases w d t with t | t
      · exact t
      · omega)
theorem OutP.trans {h1 h2 : H} {a1 a2 : Option Addr} {n1 c1 n2 c2 : Nat} {ys zs : List P} (x : OutP h a ys h1 a1 n1 c1) (y : OutP h1 a1 zs h2 a2 n2 c2) : OutP h a zs h2 a2 n2 c2 :=
  ⟨own_trans x.kp y.kp x.was, fun b t => by
    rcases y.was b t with t | t
    · exact x.was b t
    · have := x.kp.le; exact .inr (by omega), y.sl⟩
theorem OutP.new {h1 : H} {a1 : Option Addr} {n1 c1 : Nat} {ys : List P} (k : Keep [] h h1) (w : ∀ b ∈ own a1, h.size ≤ b) (s : SlP h1 a1 n1 c1 ys) : OutP h a ys h1 a1 n1 c1 := ⟨k.mono (by simp), fun b t => .inr (w b t), s⟩
theorem OutP.set {h1 : H} {ys : List P} (k : Keep (own a) h h1) (s : SlP h1 a n c ys) : OutP h a ys h1 a n c := ⟨k, fun b t => .inl t, s⟩

/-! the reference's steps, over lists -/
def sendP (x : P) (sig : Int) : P :=
  let x := if sig = 13 then { x with state := 1, pending := lessI x.pending 12 } else x
  let x := if sig = 12 then { x with pending := lessI x.pending 13 } else x
  if hasI x.ignored sig then x else { x with pending := withI x.pending sig }
def sendZ (x : P) (sig : Int) : P := if x.state = 3 then x else sendP x sig
def sendAt (xs : List P) (i : Nat) (sig : Int) : List P :=
  match xs[i]? with
  | some x => xs.set i (sendZ x sig)
  | none => xs
theorem sendAt_len {sig : Int} : (sendAt xs i sig).length = xs.length := by unfold sendAt; split <;> simp
theorem set_same (hx : xs[i]? = some x) : xs.set i x = xs := by
  refine List.ext_getElem? fun j => ?_
  rw [List.getElem?_set]; split
  · rename_i e; subst e; rw [if_pos (get_lt hx), hx]
  · rfl
theorem send_spec {sig : Int} (h0 : 0 ≤ sig) (h1 : sig ≤ 15) (hs : SlP h a n c xs) (hx : xs[i]? = some x)
    (k : ∀ h', OutP h a (xs.set i (sendZ x sig)) h' a n c → K (.tuple ⟨[]⟩) h') :
    callD Try.prog 61 ⟨[.agg ⟨[.slice a n c]⟩, .int .i64 i, .int .i64 sig]⟩ h K := by
  have hi := get_lt hx
  refine spec_l16Send_M_call ?_
  rw [spec_l16Send_M]
  refine SlP.gRow hs hx (ifB_eqI (fun f => ?_) fun f => ?_)
  · have e : sendZ x sig = x := if_pos f
    exact k h (by rw [e, set_same hx]; exact .refl hs)
  have z0 : sendZ x sig = sendP x sig := if_neg f
  have fin (w : P) (z : sendP x sig = w) : req (0 ≤ (i : Int) ∧ (i : Int) < (n : Nat)) (nz a fun b o => stRow h b (o + (i : Int).toNat * 10) 0 (encP w) fun h => K (.tuple ⟨[]⟩) h) :=
    hs.req hx rfl (hs.StR hi w encP_len (encP_one w) (fun h' kp _ s' => k h' (by rw [z0, z]; exact .set kp s')) rfl rfl)
  have tail (y : P) (z : sendP x sig = if hasI y.ignored sig then y else { y with pending := withI y.pending sig }) :
      spec_l16Send_M_j1 (fun h => K (.tuple ⟨[]⟩) h) i sig a n y.id y.parent y.group y.user y.state y.status y.pending y.mask y.ignored y.caught h := by
    rw [spec_l16Send_M_j1]
    refine has_spec h0 (by omega) (ifB_nb (fun e => ?_) fun e => ?_)
    · refine with_spec h0 (by omega) (asI_of ?_)
      exact fin { y with pending := withI y.pending sig } (by rw [z, e]; rfl)
    · exact fin y (by rw [z, e]; rfl)
  have mid (y : P) (z : sendP x sig = (let x := if sig = 12 then { y with pending := lessI y.pending 13 } else y
      if hasI x.ignored sig then x else { x with pending := withI x.pending sig })) :
      spec_l16Send_M_j0 (fun h => K (.tuple ⟨[]⟩) h) i sig a n y.id y.parent y.group y.user y.state y.status y.pending y.mask y.ignored y.caught h := by
    rw [spec_l16Send_M_j0]
    refine ifB_eqI (fun g => ?_) fun g => ?_
    · refine less_spec (by omega) (by omega) (asI_of ?_)
      refine tail { y with pending := lessI y.pending 13 } ?_
      rw [z, if_pos g]
    · exact tail y (by rw [z, if_neg g])
  refine ifB_eqI (fun g => ?_) fun g => ?_
  · refine less_spec (by omega) (by omega) (asI_of ?_)
    refine mid { x with state := 1, pending := lessI x.pending 12 } ?_
    rw [sendP, if_pos g]
  · exact mid x (by rw [sendP, if_neg g])
theorem slP_empty (x : blk h b []) : SlP h (some ⟨b, 0, none⟩) 0 0 [] := ⟨⟨rfl, by omega⟩, [], x, by simp, by simp, by simp⟩
theorem slP_nil : SlP h none 0 0 [] := ⟨⟨rfl, by omega⟩, rfl, rfl⟩
theorem slP_one (z : blk h b (encP x)) : SlP h (some ⟨b, 0, none⟩) 1 1 [x] := by
  refine ⟨⟨rfl, by omega⟩, encP x, z, by simp [encP], by simp, fun i y hy j v hv => ?_⟩
  cases i with
  | zero => simp at hy; subst hy; simpa using hv
  | succ i => simp at hy
/-- an empty slice of one's own, and what is appended to it -/
theorem newP {K : Nat → H → Prop} (k : ∀ b h', h.size ≤ b → Keep [] h h' → SlP h' (some ⟨b, 0, none⟩) 0 0 [] → K b h') : newD h [] 38 K :=
  newD_of fun b h1 le hb k1 => k b h1 le k1 (slP_empty hb)
theorem oneP {x : P} {cs : List Value} {K : Nat → H → Prop} (e : cs = encP x) (k : ∀ b h', h.size ≤ b → Keep [] h h' → SlP h' (some ⟨b, 0, none⟩) 1 1 [x] → K b h') : newD h cs 38 K :=
  newD_of fun b h1 le hb k1 => k b h1 le k1 (slP_one (e ▸ hb))
theorem copy_spec (hs : SlP h a n c xs) (hn : n ≤ 1048576) (k : ∀ h' a' c', Keep [] h h' → (∀ b ∈ own a', h.size ≤ b) → SlP h' a' n c' xs → K (.agg ⟨[.slice a' n c']⟩) h') :
    callD Try.prog 28 ⟨[.agg ⟨[.slice a n c]⟩]⟩ h K := by
  refine spec_l16Copy_M_call ?_
  rw [spec_l16Copy_M]
  refine newP fun b h1 le k1 s1 => appendP s1 (hs.keep0 k1) (by omega) fun a' c' h2 k2 w2 s2 => ?_
  rw [Nat.zero_add] at s2 ⊢
  have := k1.le
  refine k h2 a' c' (k1.trans k2 ?_) (fun d hd => ?_) s2
  · intro d dl t; simp [own] at t; omega
  · rcases w2 d hd with t | t
    · simp [own] at t; omega
    · omega
theorem part_self {l m : Nat} {xs : List P} (hm : m = xs.length) : (xs.drop l).take (m - l) = xs.drop l := by
  rw [List.take_of_length_le]; simp; omega
theorem cut_spec (hs : SlP h a n c xs) (hi : i < xs.length) (hn : n ≤ 1048576)
    (k : ∀ h' a' c', Keep [] h h' → (∀ b ∈ own a', h.size ≤ b) → SlP h' a' (n - 1) c' (xs.eraseIdx i) → K (.agg ⟨[.slice a' (n - 1) c']⟩) h') :
    callD Try.prog 62 ⟨[.agg ⟨[.slice a n c]⟩, .int .i64 i]⟩ h K := by
  have hl := hs.le
  refine spec_l16Cut_M_call ?_
  rw [spec_l16Cut_M, req_eq (by omega), req_eq hs.plain, wrap_suc (by omega), req_eq (by omega), req_eq hs.plain]
  refine newP fun b h1 le k1 s1 => appendP s1 ((hs.keep0 k1).part (l := 0) (m := i) (by omega) (by omega)) (by omega) fun a2 c2 h2 k2 w2 s2 => ?_
  have z1 := k1.le
  have k02 : Keep [] h h2 := k1.trans k2 (by intro d dl t; simp [own] at t; omega)
  have f2 : ∀ d ∈ own a2, h.size ≤ d := fun d hd => by
    rcases w2 d hd with t | t
    · simp [own] at t; omega
    · omega
  refine appendP s2 ((hs.keep0 k02).part (l := i + 1) (m := n) (by omega) (by omega)) (by omega) fun a3 c3 h3 k3 w3 s3 => ?_
  have z2 := k02.le
  have es : 0 + (i - 0) + (n - (i + 1)) = n - 1 := by omega
  have ex : [] ++ List.take (i - 0) (List.drop 0 xs) ++ List.take (n - (i + 1)) (List.drop (i + 1) xs) = xs.eraseIdx i := by
    rw [List.eraseIdx_eq_take_drop_succ, List.nil_append, List.drop_zero, Nat.sub_zero, part_self hl.1]
  have key : ∀ m, m = n - 1 → SlP h3 a3 m c3 (xs.eraseIdx i) → K (.agg ⟨[.slice a3 m c3]⟩) h3 := fun m em s => by
    subst em
    refine k h3 a3 c3 (k02.trans k3 ?_) (fun d hd => ?_) s
    · intro d dl t; simp only [List.not_mem_nil, false_or] at t; have := f2 d t; omega
    · rcases w3 d hd with t | t
      · exact f2 d t
      · omega
  rw [ex] at s3
  exact key _ es s3
end Go.Proofs.Ytgcjjapmdbgofaa
