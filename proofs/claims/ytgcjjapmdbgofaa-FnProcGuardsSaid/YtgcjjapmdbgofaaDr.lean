import Derived.Test.YtgcjjapmdbgofaaRs2
import Derived.Test.YtgcjjapmdbgofaaG
set_option linter.unusedVariables false
/-! What the drawing does: the cursor, numbers below a bound. -/
namespace Go.Eng
theorem bAnd_mask (x : Int) {k : Nat} (hk : k < 2 ^ 63) : 0 ≤ bAnd .i64 x k ∧ bAnd .i64 x k ≤ k := by
  have l : (BitVec.ofInt IntKind.i64.bits x).toNat &&& k ≤ k := Nat.and_le_right
  rw [bAnd, BitVec.toNat_and, ofNat_bv hk, wrap64 (by omega) (by omega)]; omega
def encB (x : Int) : List Value := [.int .u8 x]
/-- a cursor at block q over the bytes of a -/
structure Cu (h : H) (q : Nat) (a : Option Addr) (n : Nat) (xs : List Int) : Prop where
  b : ∃ c i z, blk h q [.slice a n c, .int .i64 i, .int .i64 z] ∧ 0 ≤ i ∧ i ≤ 9223372036854775807
  s : SlR h a n 1 encB xs
  ne : ∀ b o, a = some ⟨b, o, none⟩ → 0 < n → b ≠ q
theorem cell_keep' {h h' : H} {b o : Nat} {v : Value} {S : List Nat} (x : cell h b o = some v) (k : Keep S h h') (nb : b ∉ S) : cell h' b o = some v := by
  have l : b < h.size := by
    unfold cell at x; split at x
    · rename_i e; exact (Array.getElem?_eq_some_iff.mp e).1
    · cases x
  unfold cell at x ⊢
  rw [k.2 b l nb]; exact x
theorem cell_lt {h : H} {b o : Nat} {v : Value} (x : cell h b o = some v) : b < h.size := by
  unfold cell at x; split at x
  · rename_i e; exact (Array.getElem?_eq_some_iff.mp e).1
  · cases x
variable {h h' : H} {q n : Nat} {a : Option Addr} {xs : List Int} {S : List Nat}
theorem SlR.keepS {α : Type} {s : Nat} {enc : α → List Value} {xs : List α} (r : SlR h a n s enc xs) (k : Keep S h h') (ne : ∀ b o, a = some ⟨b, o, none⟩ → 0 < n → b ∉ S) : SlR h' a n s enc xs :=
  ⟨r.1, fun i x hx => by
    obtain ⟨b, o, ea, e⟩ := r.2 i x hx
    have := get_lt hx
    have := r.1.1
    exact ⟨b, o, ea, fun j v hv => cell_keep' (e j v hv) k (ne b o ea (by omega))⟩⟩
theorem Cu.keep (u : Cu h q a n xs) (k : Keep S h h') (hq : q ∉ S) (ne : ∀ b o, a = some ⟨b, o, none⟩ → 0 < n → b ∉ S) : Cu h' q a n xs := by
  obtain ⟨c, i, z, x, hi⟩ := u.b
  exact ⟨⟨c, i, z, k.blk x hq, hi⟩, u.s.keepS k ne, u.ne⟩
theorem Cu.lt (u : Cu h q a n xs) : q < h.size := by obtain ⟨c, i, z, x, _⟩ := u.b; exact x.lt
theorem Cu.keep0 (u : Cu h q a n xs) (k : Keep [] h h') : Cu h' q a n xs := u.keep k (by simp) (by simp)
theorem Cu.new (s : SlR h a n 1 encB xs) (k : Keep [] h h') {i z : Int} {c : Nat} (x : blk h' q [.slice a n c, .int .i64 i, .int .i64 z]) (i0 : 0 ≤ i) (i1 : i ≤ 9223372036854775807) (hq : h.size ≤ q) : Cu h' q a n xs := by
  refine ⟨⟨c, i, z, x, i0, i1⟩, s.keep0 k, fun b o ea hn => ?_⟩
  have := s.1.1
  obtain ⟨b', o', ea', e⟩ := s.2 0 (xs[0]'(by omega)) (List.getElem?_eq_getElem _)
  have := cell_lt (e 0 _ rfl)
  rw [ea] at ea'; injection ea' with ea'; injection ea' with eb _ _; omega
theorem Cu.set (u : Cu h q a n xs) (k : Keep [q] h h') {i z : Int} {c : Nat} (x : blk h' q [.slice a n c, .int .i64 i, .int .i64 z]) (i0 : 0 ≤ i) (i1 : i ≤ 9223372036854775807) : Cu h' q a n xs :=
  ⟨⟨c, i, z, x, i0, i1⟩, u.s.keepS k (fun b o ea hn => by simpa using u.ne b o ea hn), u.ne⟩
theorem SlR.gI {α : Type} {s i : Nat} {z v : Int} {k : IntKind} {enc : α → List Value} {xs : List α} {x : α} (r : SlR h a n s enc xs) (hx : xs[i]? = some x) {K : Int → Prop} (g : K v) (hv : (enc x)[0]? = some (.int k v) := by rfl) (hz : z = (i : Int) := by rfl) :
    Eng.req (0 ≤ z ∧ z < (n : Nat)) (Eng.nz a fun b o => ldI k h b (o + z.toNat * s) K) :=
  r.req (K := fun b o => ldI k h b o K) hx hz fun b o e => by rw [ldI_eq (show cell h b o = some (.int k v) from e 0 _ hv)]; exact g
end Go.Eng
namespace Go.Proofs.Ytgcjjapmdbgofaa
open Go.Eng
variable {h h' : H} {q n c : Nat} {a : Option Addr} {xs : List Int} {K : Value → H → Prop} {m : Int}
theorem byte_spec (u : Cu h q a n xs) (k : ∀ r h', 0 ≤ r → r ≤ 255 → Keep [q] h h' → Cu h' q a n xs → K (.int .i64 r) h') :
    callD Try.prog 59 ⟨[.pointer (some ⟨q, 0, none⟩)]⟩ h K := by
  have hl := u.s.le
  obtain ⟨c, i, z, x, i0, i1⟩ := u.b
  refine spec_l1Byte_M_call ?_
  generalize eK : (fun n h => K (.int .i64 n) h) = kr
  rw [spec_l1Byte_M, nz_some, ldI_eq (x.cell _)]
  subst eK
  refine nz_of (st_of x (by simp) fun h1 e1 x1 k1 => ?_)
  have r0 (t : Int) : 0 ≤ bAnd .i64 t 255 ∧ bAnd .i64 t 255 ≤ 255 := bAnd_mask t (k := 255) (by omega)
  refine nz_of ?_
  rw [ldI_eq (x1.cell _)]
  refine nz_of ?_
  rw [ldI_eq (x1.cell _)]
  refine nz_of ?_
  rw [ldI_eq (x1.cell _)]
  refine nz_of ?_
  rw [ldL_eq (x1.cell _)]
  refine ifB_dec (fun f => ?_) fun f => k _ h1 (r0 _).1 (r0 _).2 k1 (u.set k1 x1 i0 i1)
  refine nz_of ?_
  rw [ldL_eq (x1.cell _)]
  refine nz_of ?_
  rw [ldI_eq (x1.cell _)]
  have hn : i.toNat < xs.length := by omega
  have u1 : SlR h1 a n 1 encB xs := (u.set k1 x1 i0 i1).s
  refine u1.gI (i := i.toNat) (List.getElem?_eq_getElem hn) (hz := (by omega)) ?_
  refine nz_of ?_
  rw [ldI_eq (x1.cell _)]
  refine nz_of (st_of x1 (by simp) fun h2 e2 x2 k2 => ?_)
  have k12 : Keep [q] h h2 := k1.tr k2
  refine k _ h2 (r0 _).1 (r0 _).2 k12 (u.set k12 x2 ?_ ?_)
  · rw [wrap64 (by omega) (by omega)]; omega
  · rw [wrap64 (by omega) (by omega)]; omega
theorem below_spec (u : Cu h q a n xs) (k : ∀ r h', 0 ≤ r → (r < m ∨ m ≤ 0 ∧ r = 0) → Keep [q] h h' → Cu h' q a n xs → K (.int .i64 r) h') :
    callD Try.prog 35 ⟨[.pointer (some ⟨q, 0, none⟩), .int .i64 m]⟩ h K := by
  refine spec_l1Below_M_call ?_
  rw [spec_l1Below_M]
  refine ifB_dec (fun f => k 0 h (by omega) (.inr ⟨f, rfl⟩) Keep.refl u) fun f => ?_
  refine ifB_dec (fun g => ?_) fun g => ?_
  · refine byte_spec u fun r h1 r0 r1 k1 u1 => asI_of ?_
    rw [req_eq (by omega)]
    exact k _ h1 (Int.tmod_nonneg _ r0) (.inl (Int.tmod_lt_of_pos _ (by omega))) k1 u1
  refine byte_spec u fun r h1 r0 r1 k1 u1 => asI_of ?_
  refine byte_spec u1 fun s h2 s0 s1 k2 u2 => asI_of ?_
  refine byte_spec u2 fun t h3 t0 t1 k3 u3 => asI_of ?_
  rw [req_eq (by omega)]
  rw [wrap64 (n := r * 65536) (by omega) (by omega), wrap64 (n := s * 256) (by omega) (by omega), wrap64 (n := r * 65536 + s * 256) (by omega) (by omega), wrap64 (by omega) (by omega)]
  exact k _ h3 (Int.tmod_nonneg _ (by omega)) (.inl (Int.tmod_lt_of_pos _ (by omega))) ((k1.tr k2).tr k3) u3
/-- below a bound above nothing -/
theorem below_pos (u : Cu h q a n xs) (p : 0 < m) (k : ∀ r h', 0 ≤ r → r < m → Keep [q] h h' → Cu h' q a n xs → K (.int .i64 r) h') :
    callD Try.prog 35 ⟨[.pointer (some ⟨q, 0, none⟩), .int .i64 m]⟩ h K :=
  below_spec u fun r h' r0 r1 => k r h' r0 (by omega)
theorem once_spec (u : Cu h q a n xs) (k : ∀ t h', Keep [q] h h' → Cu h' q a n xs → K (.bool t) h') :
    callD Try.prog 36 ⟨[.pointer (some ⟨q, 0, none⟩), .int .i64 m]⟩ h K := by
  refine spec_l1Once_M_call (below_spec u fun r h1 _ _ k1 u1 => asI_of ?_)
  exact k _ h1 k1 u1
theorem new_loop {kx : Option Addr → Nat → Nat → Int → H → Prop} (s : SlR h a n 1 encB xs) (kx' : ∀ z, kx a n c z h) :
    ∀ m i : Nat, i + m = n → ∀ z, spec_l1New_M_l0 kx (m + 1) a n c z i h := by
  have hl := s.le
  intro m
  induction m with
  | zero =>
    intro i e z
    rw [spec_l1New_M_l0]
    exact ifD_f (by omega) (kx' z)
  | succ m ih =>
    intro i e z
    obtain ⟨x, hx⟩ : ∃ x, xs[i]? = some x := ⟨_, List.getElem?_eq_getElem (by omega)⟩
    rw [spec_l1New_M_l0]
    refine ifD_t (by omega) (s.gI hx ?_)
    rw [wrap64 (n := (i : Int) + 1) (by omega) (by omega)]
    exact ih (i + 1) (by omega) _
theorem new_spec (s : SlR h a n 1 encB xs) (k : ∀ q h', h.size ≤ q → q < h'.size → Keep [] h h' → Cu h' q a n xs → K (.pointer (some ⟨q, 0, none⟩)) h') :
    callD Try.prog 20 ⟨[.slice a n c]⟩ h K := by
  have hl := s.le
  refine spec_l1New_M_call ⟨n + 1, new_loop s (fun z => newD_of fun q h1 hq x k1 => ?_) n 0 (by omega) _⟩
  exact k q h1 hq x.lt k1 (Cu.new s k1 x (by omega) (by omega) hq)
section
/-- one of a list of numbers is drawn -/
theorem lit_get {h h' : H} {b : Nat} {vs : List Int} {r : Int} {S : List Nat} (x : blk h b (vs.map (Value.int .i64))) (k : Keep S h h') (nb : b ∉ S) (r0 : 0 ≤ r) (r1 : r < vs.length) {K : Int → Prop} (g : ∀ v ∈ vs, K v) :
    ldI .i64 h' b (0 + r.toNat * 1) K := by
  have hr : r.toNat < vs.length := by omega
  rw [ldI_eq (n := vs[r.toNat]) (by rw [(k.blk x nb).cell, Nat.zero_add, Nat.mul_one, List.getElem?_map, List.getElem?_eq_getElem hr]; rfl)]
  exact g _ (List.getElem_mem _)
variable {F : Int → H → Prop} {ty : Nat}
theorem pick (u : Cu h q a n xs) (vs : List Int) (p : 0 < vs.length) (k : ∀ v h', v ∈ vs → Keep [q] h h' → Cu h' q a n xs → F v h') (em : m = vs.length := by rfl) :
    newD h (vs.map (Value.int .i64)) ty fun b h => callD Try.prog 35 ⟨[.pointer (some ⟨q, 0, none⟩), .int .i64 m]⟩ h fun v h => asI .i64 v fun r => req (0 ≤ r ∧ r < (m : Int)) (ldI .i64 h b (0 + r.toNat * 1) fun v => F v h) := by
  subst em
  have hq := u.lt
  refine newD_of fun b h1 hb x k1 => below_pos (u.keep0 k1) (by omega) fun r h2 r0 r1 k2 u2 => asI_of ?_
  rw [req_eq ⟨r0, r1⟩]
  refine lit_get x k2 (by simp; omega) r0 r1 fun v hv => k v h2 hv (k1.trans k2 (by simp)) u2
theorem pick' (u : Cu h q a n xs) (vs : List Int) (p : 0 < vs.length) (k : ∀ v h', v ∈ vs → Keep [q] h h' → Cu h' q a n xs → F v h') (em : m = vs.length := by rfl) :
    callD Try.prog 35 ⟨[.pointer (some ⟨q, 0, none⟩), .int .i64 m]⟩ h fun v h => asI .i64 v fun r => newD h (vs.map (Value.int .i64)) ty fun b h => req (0 ≤ r ∧ r < (m : Int)) (ldI .i64 h b (0 + r.toNat * 1) fun v => F v h) := by
  subst em
  refine below_pos u (by omega) fun r h2 r0 r1 k2 u2 => asI_of (newD_of fun b h1 hb x k1 => ?_)
  rw [req_eq ⟨r0, r1⟩]
  refine lit_get x (Keep.refl (S := [])) (by simp) r0 r1 fun v hv => k v h1 hv (k2.trans k1 (by simp)) (u2.keep0 k1)
end
/-- the cursor's run: nothing but the cursor has changed -/
structure Run (h0 h : H) (q : Nat) (a : Option Addr) (n : Nat) (xs : List Int) : Prop where
  k : Keep [q] h0 h
  u : Cu h q a n xs
section
variable {h0 : H} {F : Int → H → Prop} {ty : Nat}
theorem Run.start (u : Cu h q a n xs) : Run h h q a n xs := ⟨Keep.refl, u⟩
theorem Run.keep0 (d : Run h0 h q a n xs) (k : Keep [] h h') : Run h0 h' q a n xs := ⟨d.k.trans k (by simp), d.u.keep0 k⟩
theorem Run.below (d : Run h0 h q a n xs) (p : 0 < m) (k : ∀ r h', 0 ≤ r → r < m → Run h0 h' q a n xs → K (.int .i64 r) h') :
    callD Try.prog 35 ⟨[.pointer (some ⟨q, 0, none⟩), .int .i64 m]⟩ h K :=
  below_pos d.u p fun r h1 r0 r1 k1 u1 => k r h1 r0 r1 ⟨d.k.tr k1, u1⟩
theorem Run.once (d : Run h0 h q a n xs) (k : ∀ t h', Run h0 h' q a n xs → K (.bool t) h') :
    callD Try.prog 36 ⟨[.pointer (some ⟨q, 0, none⟩), .int .i64 m]⟩ h K :=
  once_spec d.u fun t h1 k1 u1 => k t h1 ⟨d.k.tr k1, u1⟩
theorem Run.pick (d : Run h0 h q a n xs) (vs : List Int) (k : ∀ v h', v ∈ vs → Run h0 h' q a n xs → F v h') (p : 0 < vs.length := by simp) (em : m = vs.length := by rfl) :
    newD h (vs.map (Value.int .i64)) ty fun b h => callD Try.prog 35 ⟨[.pointer (some ⟨q, 0, none⟩), .int .i64 m]⟩ h fun v h => asI .i64 v fun r => req (0 ≤ r ∧ r < (m : Int)) (ldI .i64 h b (0 + r.toNat * 1) fun v => F v h) :=
  Go.Proofs.Ytgcjjapmdbgofaa.pick d.u vs p (fun v h1 hv k1 u1 => k v h1 hv ⟨d.k.tr k1, u1⟩) em
theorem Run.pick' (d : Run h0 h q a n xs) (vs : List Int) (k : ∀ v h', v ∈ vs → Run h0 h' q a n xs → F v h') (p : 0 < vs.length := by simp) (em : m = vs.length := by rfl) :
    callD Try.prog 35 ⟨[.pointer (some ⟨q, 0, none⟩), .int .i64 m]⟩ h fun v h => asI .i64 v fun r => newD h (vs.map (Value.int .i64)) ty fun b h => req (0 ≤ r ∧ r < (m : Int)) (ldI .i64 h b (0 + r.toNat * 1) fun v => F v h) :=
  Go.Proofs.Ytgcjjapmdbgofaa.pick' d.u vs p (fun v h1 hv k1 u1 => k v h1 hv ⟨d.k.tr k1, u1⟩) em
theorem Run.sl {α : Type} {s : Nat} {enc : α → List Value} {ys : List α} {b : Option Addr} {l c : Nat} (d : Run h0 h q a n xs) (hs : Sl h0 b l c s enc ys) (nq : q ∉ own b) : Sl h b l c s enc ys :=
  hs.keep d.k fun x hx t => nq (by simp at t; subst t; exact hx)
end
def In64 (s : Int) : Prop := -9223372036854775808 ≤ s ∧ s ≤ 9223372036854775807
theorem wrap_rng (x : Int) : In64 (IntKind.i64.wrap x) := by
  rw [In64, IntKind.wrap_i64]; omega
end Go.Proofs.Ytgcjjapmdbgofaa
