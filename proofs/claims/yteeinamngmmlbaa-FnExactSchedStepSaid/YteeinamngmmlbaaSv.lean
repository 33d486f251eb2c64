import Derived.Test.YteeinamngmmlbaaSu
set_option linter.unusedVariables false
namespace Go.Proofs.Yteeinamngmmlbaa
open Go.Eng
variable {h h0 h1 h2 h' : H} {now seq now' seq' : Int} {a b a' b' : Option Addr} {n c m d n' c' m' d' p o : Nat} {s s0 s' s1 : S} {K : Value → H → Prop} {id k on q lock kind : Int} {i j : Nat} {t x w : T} {l : L} {xs : List T} {zs ys : List L}
theorem Ss.keepS {S' : List Nat} (r : Ss h now seq a n c b m d s) (k : Keep S' h h') (u : ∀ x, x ∈ own a ∨ x ∈ own b → x ∉ S') : Ss h' now seq a n c b m d s :=
  ⟨r.en, r.es, r.t.keep k fun x hx => u x (.inl hx), r.l.keep k fun x hx => u x (.inr hx), r.ap⟩
theorem Ss.lt (r : Ss h now seq a n c b m d s) {x : Nat} (hx : x ∈ own a ∨ x ∈ own b) : x < h.size := by
  rcases hx with t | t
  · exact r.t.lt t
  · exact r.l.lt t
theorem NewO.ge (o : NewO h s h' now' seq' a' n' c' b' m' d') {x : Nat} (hx : x ∈ own a' ∨ x ∈ own b') : h.size ≤ x := by
  rcases hx with t | t
  · exact o.fa x t
  · exact o.fb x t
theorem law_spec (r : RdS h now seq a n b m s) (k : ∀ h', Keep [] h h' → K (.bool true) h') :
    callD Try.prog 3 ⟨[val now seq a n c b m d, .agg ⟨[.int .i64 kind, .int .i64 id, .int .i64 q]⟩]⟩ h K := by
  have hl := r.t.le
  have hl2 := r.l.le
  refine laws_FnExactSchedStep_M_call ?_
  generalize eK : (fun t h => K (.bool t) h) = kr
  have k : ∀ h', Keep [] h h' → kr true h' := fun h' q => by rw [← eK]; exact k h' q
  have fl := sched_len (s := s) (kind := kind) (id := id) (q := q)
  rw [laws_FnExactSchedStep_M]
  refine szS_spec hl.2 hl2.2 (fun sm v9 v0 => asI_of (ifD_f (by omega) ?_)) fun _ => asI_of (ifD_t (by omega) (k h Keep.refl))
  refine toS_spec r (by omega) (by omega) fun h1 a1 b1 o1 => o_el_AI2L2E (toOp_spec (o_el_AI3E ?_))
  refine schedS_spec o1.r fun h2 nw sw aw nw' cw bw mw dw o2 => o_el_TAI2L2EAI2EE ?_
  have z1 := o1.kp.le
  have z2 := o2.kp.le
  have k02 : Keep [] h h2 := o1.kp.tr o2.kp
  rw [laws_FnExactSchedStep_M_j0]
  refine toS_spec (r.keep0 k02) (by omega) (by omega) fun h3 a3 b3 o3 => o_el_AI2L2E (toOp_spec (o_el_AI3E ?_))
  refine schedI_spec o3.r fun h4 ng sg ag ng' cg bg mg dg o4 => o_el_TAI2L2EAI2EE ?_
  have z3 := o3.kp.le
  have z4 := o4.kp.le
  have k04 : Keep [] h h4 := (k02.tr o3.kp).tr o4.kp
  rw [laws_FnExactSchedStep_M_j1]
  have w4 := (o2.r.keep o3.kp).keep o4.kp
  refine eqS_spec o4.r w4 fun u eu => asB_of (ifB_nb (fun f => by rw [eu.mpr rfl] at f; cases f) fun _ => ?_)
  refine eqR_spec fun u eu => asB_of (ifB_nb (fun f => by rw [eu.mpr ⟨rfl, rfl⟩] at f; cases f) fun _ => ?_)
  refine toS_spec (r.keep0 k04) (by omega) (by omega) fun h5 a5 b5 o5 => o_el_AI2L2E ?_
  have z5 := o5.kp.le
  have x5 := (o3.r.keep o4.kp).keep o5.kp
  refine eqS_spec x5 o5.r fun u eu => asB_of (ifB_nb (fun f => by rw [eu.mpr rfl] at f; cases f) fun _ => ?_)
  refine markS_spec x5 (by omega) (by omega) fun h6 k6 _ => asI_of (ifD_f (by omega) ?_)
  have z6 := k6.le
  have k06 : Keep [] h h6 := (k04.tr o5.kp).trans k6 (by
    intro y l t
    simp only [List.not_mem_nil, false_or, List.mem_append] at t
    have := o3.ge t; omega)
  have g6 : Ss h6 ng sg ag ng' cg bg mg dg (schedF s kind id q).1 := (o4.r.keep o5.kp).keepS k6 fun x hx t => by
    simp only [List.mem_append] at t
    have := o4.ge hx; have := o3.r.lt t; omega
  have w6 : Ss h6 nw sw aw nw' cw bw mw dw (schedF s kind id q).1 := (w4.keep o5.kp).keepS k6 fun x hx t => by
    simp only [List.mem_append] at t
    have := o2.r.lt hx; have := o3.ge t; omega
  refine eqS_spec g6 w6 fun u eu => asB_of (ifB_nb (fun f => by rw [eu.mpr rfl] at f; cases f) fun _ => ?_)
  refine eqR_spec fun u eu => asB_of (ifB_nb (fun f => by rw [eu.mpr ⟨rfl, rfl⟩] at f; cases f) fun _ => ?_)
  have lg := g6.t.le
  have lg2 := g6.l.le
  refine markS_spec g6 (by omega) (by omega) fun h7 k7 g7 => asI_of ?_
  have z7 := k7.le
  have k07 : Keep [] h h7 := k06.trans k7 (by
    intro y l t
    simp only [List.not_mem_nil, false_or, List.mem_append] at t
    have := o4.ge t; omega)
  have w7 : Ss h7 nw sw aw nw' cw bw mw dw (schedF s kind id q).1 := w6.keepS k7 fun x hx t => by
    simp only [List.mem_append] at t
    have := o2.r.lt hx; have := o4.ge t; omega
  refine heldS_spec g7 (by omega) (by omega) (asI_of (ifD_f (by omega) (ifN_f rfl ?_)))
  refine toS_spec (r.keep0 k07) (by omega) (by omega) fun h8 a8 b8 o8 => o_el_AI2L2E (toOp_spec (o_el_AI3E ?_))
  refine schedI_spec o8.r fun h9 nh sh ah nh' ch bh mh dh o9 => o_el_TAI2L2EAI2EE ?_
  have k79 : Keep [] h7 h9 := o8.kp.tr o9.kp
  rw [laws_FnExactSchedStep_M_j2]
  refine eqS_spec o9.r (w7.keep k79) fun u eu => asB_of (ifB_nb (fun f => by rw [eu.mpr rfl] at f; cases f) fun _ => ?_)
  refine eqR_spec fun u eu => asB_of (ifB_nb (fun f => by rw [eu.mpr ⟨rfl, rfl⟩] at f; cases f) fun _ => ?_)
  refine heldS_spec (g7.keep k79) (by omega) (by omega) (asI_of (ifD_f (by omega) (ifN_f rfl ?_)))
  exact k h9 (k07.tr k79)
end Go.Proofs.Yteeinamngmmlbaa
