import Derived.Test.YtgcjjapmdbgofaaProg
import Derived.Test.YtgcjjapmdbgofaaG1
set_option linter.unusedVariables false
set_option maxRecDepth 100000
namespace Go.Proofs.Ytgcjjapmdbgofaa
open Go.Eng

noncomputable def code26 : Code := codeOf Try.f26
theorem body26 : Try.f26.body = some code26 := by kernel_rfl
def impl_Procs_step_l0 (kx2 : Option Addr → Nat → Nat → Int → H → Prop) : Nat → Option Addr → Nat → Nat → Int → H → Prop
 | 0, _, _, _, _, _ => False
 | N + 1, p43, b44, b45, n46, h =>
  nz p43 fun b47 o48 =>
  ldL h b47 o48 fun a49 l49 c49 =>
  ifB (decide ((n46 : Int) < (l49 : Nat)))
  (nz p43 fun b50 o51 =>
  ldL h b50 o51 fun a52 l52 c52 =>
  req (0 ≤ (n46 : Int) ∧ (n46 : Int) < (l52 : Nat))
  (nz a52 fun b53 o54 =>
  ldI .i64 h b53 (o54 + n46.toNat * 10) fun n55 =>
  ifB ((n55 : Int) == (IntKind.i64.wrap (n46 + 1)))
  (impl_Procs_step_l0 kx2 N p43 b44 b45 (IntKind.i64.wrap (n46 + 1)) h)
  (kx2 p43 b44 b45 n46 h)))
  (kx2 p43 b44 b45 n46 h)

def impl_Procs_step_j1 (kn : Option Addr → Nat → Nat → H → Prop) (kr : Nat → H → Prop) (p105 : Option Addr) (b106 : Nat) (b107 : Nat) (t108 : Bool) (h : H) : Prop :=
  ifB t108
  (callK Try.prog 44 ⟨[.int .i64 1]⟩ h fun v109 h =>
  elF False (.agg [.int .i64, .int .i64, .int .i64]) v109 fun n110 n111 n112 =>
  stRow h b107 0 0 [.int .i64 n110, .int .i64 n111, .int .i64 n112] fun h =>
  kr b107 h)
  (ldI .i64 h b106 1 fun n113 =>
  ifB ((n113 : Int) == 1)
  (callK Try.prog 44 ⟨[.int .i64 2]⟩ h fun v114 h =>
  elF False (.agg [.int .i64, .int .i64, .int .i64]) v114 fun n115 n116 n117 =>
  stRow h b107 0 0 [.int .i64 n115, .int .i64 n116, .int .i64 n117] fun h =>
  kr b107 h)
  (kn p105 b106 b107 h))

def impl_Procs_step_l2 (kx5 : Nat → Bool → H → Prop) (kr : Nat → H → Prop) : Nat → Option Addr → Nat → Nat → Nat → Nat → Bool → Option Addr → Nat → Nat → Int → Int → H → Prop
 | 0, _, _, _, _, _, _, _, _, _, _, _, _ => False
 | N + 1, p143, b144, b145, b146, b147, t148, a149, l149, c149, n150, n151, h =>
  ifB (decide ((n151 : Int) < n150))
  (req (0 ≤ (n151 : Int) ∧ (n151 : Int) < (l149 : Nat))
  (nz a149 fun b152 o153 =>
  ldRow h b152 (o153 + n151.toNat * 10) 0 [.int .i64, .int .i64, .int .i64, .int .i64, .int .i64, .int .i64, .int .i64, .int .i64, .int .i64, .int .i64] fun n154 n155 n156 n157 n158 n159 n160 n161 n162 n163 =>
  new h [.int .i64 0, .int .i64 0, .int .i64 0, .int .i64 0, .int .i64 0, .int .i64 0, .int .i64 0, .int .i64 0, .int .i64 0, .int .i64 0] 38 fun b164 h =>
  stRow h b164 0 0 [.int .i64 n154, .int .i64 n155, .int .i64 n156, .int .i64 n157, .int .i64 n158, .int .i64 n159, .int .i64 n160, .int .i64 n161, .int .i64 n162, .int .i64 n163] fun h =>
  ldI .i64 h b164 1 fun n165 =>
  ldI .i64 h b144 1 fun n166 =>
  ifB ((n165 : Int) != n166)
  (impl_Procs_step_l2 kx5 kr N p143 b144 b145 b146 b147 t148 a149 l149 c149 n150 (IntKind.i64.wrap (n151 + 1)) h)
  (ldRow h b164 0 0 [.int .i64, .int .i64, .int .i64, .int .i64, .int .i64, .int .i64, .int .i64, .int .i64, .int .i64, .int .i64] fun n167 n168 n169 n170 n171 n172 n173 n174 n175 n176 =>
  callK Try.prog 45 ⟨[.agg ⟨[.int .i64 n167, .int .i64 n168, .int .i64 n169, .int .i64 n170, .int .i64 n171, .int .i64 n172, .int .i64 n173, .int .i64 n174, .int .i64 n175, .int .i64 n176]⟩, .pointer (some ⟨b146, 0, none⟩), .pointer (some ⟨b147, 0, none⟩)]⟩ h fun v177 h =>
  asB v177 fun t178 =>
  ifB (!t178)
  (impl_Procs_step_l2 kx5 kr N p143 b144 b145 b146 b147 t148 a149 l149 c149 n150 (IntKind.i64.wrap (n151 + 1)) h)
  (ldI .i64 h b164 4 fun n179 =>
  ifB ((n179 : Int) == 3)
  (ldI .i64 h b164 0 fun n180 =>
  callK Try.prog 47 ⟨[.pointer p143, .int .i64 n180]⟩ h fun v181 h =>
  elF False (.tuple []) v181
  (ldI .i64 h b164 0 fun n182 =>
  ldI .i64 h b164 5 fun n183 =>
  stRow h b145 0 0 [.int .i64 0, .int .i64 n182, .int .i64 n183] fun h =>
  kr b145 h))
  (impl_Procs_step_l2 kx5 kr N p143 b144 b145 b146 b147 true a149 l149 c149 n150 (IntKind.i64.wrap (n151 + 1)) h)))))
  (kx5 b145 t148 h)

def impl_Procs_step_j4 (kn : Option Addr → Nat → Nat → Nat → Nat → Nat → Bool → Option Addr → Nat → Nat → Option Addr → Nat → Nat → Int → Int → H → Prop) (p233 : Option Addr) (b234 : Nat) (b235 : Nat) (b236 : Nat) (b237 : Nat) (b238 : Nat) (a239 : Option Addr) (l239 : Nat) (c239 : Nat) (b240 : Nat) (a241 : Option Addr) (l241 : Nat) (c241 : Nat) (n242 : Int) (n243 : Int) (h : H) : Prop :=
  ldP h b236 0 fun p244 =>
  nz p244 fun b245 o246 =>
  ldI .i64 h b245 (o246 + 3) fun n247 =>
  ifB ((n247 : Int) == 0)
  (ldI .i64 h b240 0 fun n248 =>
  new h [.int .i64 n248] 2 fun b249 h =>
  appendK Try.prog 2 h a239 l239 c239 (.slice (some ⟨b249, 0, none⟩) 1 1) fun a250 l250 c250 h =>
  kn p233 b234 b235 b236 b237 b238 true a250 l250 c250 a241 l241 c241 n242 n243 h)
  (ldP h b236 0 fun p251 =>
  nz p251 fun b252 o253 =>
  ldI .i64 h b252 (o253 + 3) fun n254 =>
  ldI .i64 h b240 3 fun n255 =>
  ifB ((n254 : Int) == n255)
  (ldI .i64 h b240 0 fun n256 =>
  new h [.int .i64 n256] 2 fun b257 h =>
  appendK Try.prog 2 h a239 l239 c239 (.slice (some ⟨b257, 0, none⟩) 1 1) fun a258 l258 c258 h =>
  kn p233 b234 b235 b236 b237 b238 true a258 l258 c258 a241 l241 c241 n242 n243 h)
  (kn p233 b234 b235 b236 b237 b238 true a239 l239 c239 a241 l241 c241 n242 n243 h))

def impl_Procs_step_l3 (kx7 : Option Addr → Nat → Nat → Bool → Option Addr → Nat → Nat → H → Prop) : Nat → Option Addr → Nat → Nat → Nat → Nat → Nat → Bool → Option Addr → Nat → Nat → Option Addr → Nat → Nat → Int → Int → H → Prop
 | 0, _, _, _, _, _, _, _, _, _, _, _, _, _, _, _, _ => False
 | N + 1, p209, b210, b211, b212, b213, b214, t215, a216, l216, c216, a217, l217, c217, n218, n219, h =>
  ifB (decide ((n219 : Int) < n218))
  (req (0 ≤ (n219 : Int) ∧ (n219 : Int) < (l217 : Nat))
  (nz a217 fun b220 o221 =>
  ldRow h b220 (o221 + n219.toNat * 10) 0 [.int .i64, .int .i64, .int .i64, .int .i64, .int .i64, .int .i64, .int .i64, .int .i64, .int .i64, .int .i64] fun n222 n223 n224 n225 n226 n227 n228 n229 n230 n231 =>
  new h [.int .i64 0, .int .i64 0, .int .i64 0, .int .i64 0, .int .i64 0, .int .i64 0, .int .i64 0, .int .i64 0, .int .i64 0, .int .i64 0] 38 fun b232 h =>
  stRow h b232 0 0 [.int .i64 n222, .int .i64 n223, .int .i64 n224, .int .i64 n225, .int .i64 n226, .int .i64 n227, .int .i64 n228, .int .i64 n229, .int .i64 n230, .int .i64 n231] fun h =>
  ldRow h b232 0 0 [.int .i64, .int .i64, .int .i64, .int .i64, .int .i64, .int .i64, .int .i64, .int .i64, .int .i64, .int .i64] fun n233 n234 n235 n236 n237 n238 n239 n240 n241 n242 =>
  callK Try.prog 45 ⟨[.agg ⟨[.int .i64 n233, .int .i64 n234, .int .i64 n235, .int .i64 n236, .int .i64 n237, .int .i64 n238, .int .i64 n239, .int .i64 n240, .int .i64 n241, .int .i64 n242]⟩, .pointer (some ⟨b213, 0, none⟩), .pointer (some ⟨b214, 0, none⟩)]⟩ h fun v243 h =>
  asB v243 fun t244 =>
  ifB (!t244)
  (impl_Procs_step_l3 kx7 N p209 b210 b211 b212 b213 b214 t215 a216 l216 c216 a217 l217 c217 n218 (IntKind.i64.wrap (n219 + 1)) h)
  (ldI .i64 h b210 2 fun n245 =>
  ifB ((n245 : Int) == (-1))
  (ldI .i64 h b232 0 fun n246 =>
  ifB ((n246 : Int) == 1)
  (impl_Procs_step_l3 kx7 N p209 b210 b211 b212 b213 b214 t215 a216 l216 c216 a217 l217 c217 n218 (IntKind.i64.wrap (n219 + 1)) h)
  (ldI .i64 h b232 0 fun n247 =>
  ldI .i64 h b210 1 fun n248 =>
  ifB ((n247 : Int) == n248)
  (impl_Procs_step_l3 kx7 N p209 b210 b211 b212 b213 b214 t215 a216 l216 c216 a217 l217 c217 n218 (IntKind.i64.wrap (n219 + 1)) h)
  (impl_Procs_step_j4 (fun p249 b250 b251 b252 b253 b254 t255 a256 l256 c256 a257 l257 c257 n258 n259 h =>
  impl_Procs_step_l3 kx7 N p249 b250 b251 b252 b253 b254 t255 a256 l256 c256 a257 l257 c257 n258 (IntKind.i64.wrap (n259 + 1)) h) p209 b210 b211 b212 b213 b214 a216 l216 c216 b232 a217 l217 c217 n218 n219 h)))
  (impl_Procs_step_j4 (fun p260 b261 b262 b263 b264 b265 t266 a267 l267 c267 a268 l268 c268 n269 n270 h =>
  impl_Procs_step_l3 kx7 N p260 b261 b262 b263 b264 b265 t266 a267 l267 c267 a268 l268 c268 n269 (IntKind.i64.wrap (n270 + 1)) h) p209 b210 b211 b212 b213 b214 a216 l216 c216 b232 a217 l217 c217 n218 n219 h))))
  (kx7 p209 b210 b211 t215 a216 l216 c216 h)

def impl_Procs_step_l5 (kx10 : Nat → Option Addr → Nat → Nat → H → Prop) : Nat → Option Addr → Nat → Nat → Option Addr → Nat → Nat → Option Addr → Nat → Nat → Int → Int → H → Prop
 | 0, _, _, _, _, _, _, _, _, _, _, _, _ => False
 | N + 1, p285, b286, b287, a288, l288, c288, a289, l289, c289, n290, n291, h =>
  ifB (decide ((n291 : Int) < n290))
  (req (0 ≤ (n291 : Int) ∧ (n291 : Int) < (l289 : Nat))
  (nz a289 fun b292 o293 =>
  ldI .i64 h b292 (o293 + n291.toNat * 1) fun n294 =>
  ldI .i64 h b286 3 fun n295 =>
  callK Try.prog 48 ⟨[.pointer p285, .int .i64 n294, .int .i64 n295]⟩ h fun v296 h =>
  elF False (.tuple []) v296
  (impl_Procs_step_l5 kx10 N p285 b286 b287 a288 l288 c288 a289 l289 c289 n290 (IntKind.i64.wrap (n291 + 1)) h)))
  (kx10 b287 a288 l288 c288 h)

def impl_Procs_step_l7 (kx13 : Option Addr → Nat → Nat → Nat → Int → H → Prop) : Nat → Option Addr → Nat → Nat → Nat → Int → Int → H → Prop
 | 0, _, _, _, _, _, _, _ => False
 | N + 1, p411, b412, b413, b414, n415, n416, h =>
  req (0 ≤ (n416 : Int))
  (ifB ((bAnd .i64 (sShr .i64 n415 n416) 1 : Int) == 0)
  (impl_Procs_step_l7 kx13 N p411 b412 b413 b414 n415 (IntKind.i64.wrap (n416 + 1)) h)
  (kx13 p411 b412 b413 b414 n416 h))

def impl_Procs_step_j9 (kn : Nat → H → Prop) (p432 : Option Addr) (b433 : Nat) (b434 : Nat) (b435 : Nat) (n436 : Int) (t437 : Bool) (h : H) : Prop :=
  ifB t437
  (kn b434 h)
  (ifB ((n436 : Int) == 12)
  (ldP h b435 0 fun p438 =>
  nz p438 fun b439 o440 =>
  st h b439 (o440 + 4) (.int .i64 2) fun h =>
  kn b434 h)
  (ldI .i64 h b433 1 fun n441 =>
  ifB ((n441 : Int) != 1)
  (ldI .i64 h b433 1 fun n442 =>
  callK Try.prog 46 ⟨[.pointer p432, .int .i64 n442, .int .i64 (IntKind.i64.wrap (128 + n436))]⟩ h fun v443 h =>
  elF False (.tuple []) v443
  (kn b434 h))
  (kn b434 h)))

def impl_Procs_step_j8 (kn : Nat → H → Prop) (p411 : Option Addr) (b412 : Nat) (b413 : Nat) (b414 : Nat) (n415 : Int) (h : H) : Prop :=
  ldP h b414 0 fun p416 =>
  nz p416 fun b417 o418 =>
  ldI .i64 h b417 (o418 + 6) fun n419 =>
  req (0 ≤ (n415 : Int))
  (nz p416 fun b420 o421 =>
  st h b420 (o421 + 6) (.int .i64 (bAndNot .i64 n419 (sShl .i64 1 n415))) fun h =>
  st h b413 1 (.int .i64 n415) fun h =>
  st h b413 2 (.int .i64 1) fun h =>
  ldP h b414 0 fun p422 =>
  nz p422 fun b423 o424 =>
  ldI .i64 h b423 (o424 + 9) fun n425 =>
  req (0 ≤ (n415 : Int))
  (ifB ((bAnd .i64 (sShr .i64 n425 n415) 1 : Int) == 1)
  (st h b413 2 (.int .i64 2) fun h =>
  ldP h b414 0 fun p426 =>
  nz p426 fun b427 o428 =>
  ldI .i64 h b427 (o428 + 7) fun n429 =>
  req (0 ≤ (n415 : Int))
  (nz p426 fun b430 o431 =>
  st h b430 (o431 + 7) (.int .i64 (bOr .i64 n429 (sShl .i64 1 n415))) fun h =>
  kn b413 h))
  (ifB ((n415 : Int) == 14)
  (impl_Procs_step_j9 kn p411 b412 b413 b414 n415 true h)
  (impl_Procs_step_j9 kn p411 b412 b413 b414 n415 ((n415 : Int) == 13) h))))

def impl_Procs_step_j6 (kn : Nat → H → Prop) (kr : Nat → H → Prop) (p402 : Option Addr) (b403 : Nat) (b404 : Nat) (b405 : Nat) (n406 : Int) (h : H) : Prop :=
  ifB ((n406 : Int) == 0)
  (callK Try.prog 44 ⟨[.int .i64 9]⟩ h fun v407 h =>
  elF False (.agg [.int .i64, .int .i64, .int .i64]) v407 fun n408 n409 n410 =>
  stRow h b404 0 0 [.int .i64 n408, .int .i64 n409, .int .i64 n410] fun h =>
  kr b404 h)
  (ifB ((bAnd .i64 (sShr .i64 n406 9) 1 : Int) == 0)
  (∃ M416, impl_Procs_step_l7 (fun p411 b412 b413 b414 n415 h =>
  impl_Procs_step_j8 kn p411 b412 b413 b414 n415 h) M416 p402 b403 b404 b405 n406 1 h)
  (impl_Procs_step_j8 kn p402 b403 b404 b405 9 h))

def impl_Procs_step_j10 (kn : Option Addr → Nat → Nat → Option Addr → H → Prop) (kr : Nat → H → Prop) (p434 : Option Addr) (b435 : Nat) (b436 : Nat) (p437 : Option Addr) (t438 : Bool) (h : H) : Prop :=
  ifB t438
  (callK Try.prog 44 ⟨[.int .i64 3]⟩ h fun v439 h =>
  elF False (.agg [.int .i64, .int .i64, .int .i64]) v439 fun n440 n441 n442 =>
  stRow h b436 0 0 [.int .i64 n440, .int .i64 n441, .int .i64 n442] fun h =>
  kr b436 h)
  (ldI .i64 h b435 3 fun n443 =>
  ifB (decide ((n443 : Int) < 1))
  (callK Try.prog 44 ⟨[.int .i64 1]⟩ h fun v444 h =>
  elF False (.agg [.int .i64, .int .i64, .int .i64]) v444 fun n445 n446 n447 =>
  stRow h b436 0 0 [.int .i64 n445, .int .i64 n446, .int .i64 n447] fun h =>
  kr b436 h)
  (ldI .i64 h b435 3 fun n448 =>
  ifB (decide ((n448 : Int) > 32))
  (callK Try.prog 44 ⟨[.int .i64 1]⟩ h fun v449 h =>
  elF False (.agg [.int .i64, .int .i64, .int .i64]) v449 fun n450 n451 n452 =>
  stRow h b436 0 0 [.int .i64 n450, .int .i64 n451, .int .i64 n452] fun h =>
  kr b436 h)
  (kn p434 b435 b436 p437 h)))

def impl_Procs_step_l12 (kx17 : Nat → Nat → Option Addr → Bool → H → Prop) : Nat → Nat → Nat → Option Addr → Bool → Option Addr → Nat → Nat → Int → Int → H → Prop
 | 0, _, _, _, _, _, _, _, _, _, _ => False
 | N + 1, b443, b444, p445, t446, a447, l447, c447, n448, n449, h =>
  ifB (decide ((n449 : Int) < n448))
  (req (0 ≤ (n449 : Int) ∧ (n449 : Int) < (l447 : Nat))
  (nz a447 fun b450 o451 =>
  ldRow h b450 (o451 + n449.toNat * 10) 0 [.int .i64, .int .i64, .int .i64, .int .i64, .int .i64, .int .i64, .int .i64, .int .i64, .int .i64, .int .i64] fun n452 n453 n454 n455 n456 n457 n458 n459 n460 n461 =>
  new h [.int .i64 0, .int .i64 0, .int .i64 0, .int .i64 0, .int .i64 0, .int .i64 0, .int .i64 0, .int .i64 0, .int .i64 0, .int .i64 0] 38 fun b462 h =>
  stRow h b462 0 0 [.int .i64 n452, .int .i64 n453, .int .i64 n454, .int .i64 n455, .int .i64 n456, .int .i64 n457, .int .i64 n458, .int .i64 n459, .int .i64 n460, .int .i64 n461] fun h =>
  ifB t446
  (impl_Procs_step_l12 kx17 N b443 b444 p445 true a447 l447 c447 n448 (IntKind.i64.wrap (n449 + 1)) h)
  (ldI .i64 h b462 0 fun n463 =>
  ldI .i64 h b443 2 fun n464 =>
  ifB ((n463 : Int) != n464)
  (ldI .i64 h b462 2 fun n465 =>
  ldI .i64 h b443 3 fun n466 =>
  impl_Procs_step_l12 kx17 N b443 b444 p445 ((n465 : Int) == n466) a447 l447 c447 n448 (IntKind.i64.wrap (n449 + 1)) h)
  (impl_Procs_step_l12 kx17 N b443 b444 p445 false a447 l447 c447 n448 (IntKind.i64.wrap (n449 + 1)) h))))
  (kx17 b443 b444 p445 t446 h)

def impl_Procs_step_j11 (kn : Nat → H → Prop) (kr : Nat → H → Prop) (p434 : Option Addr) (b435 : Nat) (b436 : Nat) (p437 : Option Addr) (h : H) : Prop :=
  ldI .i64 h b435 3 fun n438 =>
  ldI .i64 h b435 2 fun n439 =>
  nz p434 fun b440 o441 =>
  ldL h b440 o441 fun a442 l442 c442 =>
  ∃ M454, impl_Procs_step_l12 (fun b443 b444 p445 t446 h =>
  ifB (!t446)
  (callK Try.prog 44 ⟨[.int .i64 2]⟩ h fun v447 h =>
  elF False (.agg [.int .i64, .int .i64, .int .i64]) v447 fun n448 n449 n450 =>
  stRow h b444 0 0 [.int .i64 n448, .int .i64 n449, .int .i64 n450] fun h =>
  kr b444 h)
  (ldI .i64 h b443 3 fun n451 =>
  nz p445 fun b452 o453 =>
  st h b452 (o453 + 2) (.int .i64 n451) fun h =>
  kn b444 h)) M454 b435 b436 p437 ((n438 : Int) == n439) a442 l442 c442 (l442 : Nat) 0 h

def impl_Procs_step_j13 (kn : Nat → Nat → Nat → H → Prop) (kr : Nat → H → Prop) (b506 : Nat) (b507 : Nat) (b508 : Nat) (t509 : Bool) (h : H) : Prop :=
  ifB t509
  (callK Try.prog 44 ⟨[.int .i64 1]⟩ h fun v510 h =>
  elF False (.agg [.int .i64, .int .i64, .int .i64]) v510 fun n511 n512 n513 =>
  stRow h b507 0 0 [.int .i64 n511, .int .i64 n512, .int .i64 n513] fun h =>
  kr b507 h)
  (ldP h b508 0 fun p514 =>
  nz p514 fun b515 o516 =>
  ldI .i64 h b515 (o516 + 3) fun n517 =>
  ifB ((n517 : Int) != 0)
  (ldP h b508 0 fun p518 =>
  nz p518 fun b519 o520 =>
  ldI .i64 h b519 (o520 + 3) fun n521 =>
  ldI .i64 h b506 3 fun n522 =>
  ifB ((n521 : Int) != n522)
  (callK Try.prog 44 ⟨[.int .i64 2]⟩ h fun v523 h =>
  elF False (.agg [.int .i64, .int .i64, .int .i64]) v523 fun n524 n525 n526 =>
  stRow h b507 0 0 [.int .i64 n524, .int .i64 n525, .int .i64 n526] fun h =>
  kr b507 h)
  (kn b506 b507 b508 h))
  (kn b506 b507 b508 h))

def impl_Procs_step (kr : Nat → H → Prop) (p1 : Option Addr) (n2 : Int) (n3 : Int) (n4 : Int) (n5 : Int) (h : H) : Prop :=
  new h [.int .i64 n2, .int .i64 n3, .int .i64 n4, .int .i64 n5] 30 fun b6 h =>
  new h [.int .i64 0, .int .i64 0, .int .i64 0] 34 fun b7 h =>
  ldI .i64 h b6 0 fun n8 =>
  ifB (decide ((n8 : Int) < 1))
  (callK Try.prog 44 ⟨[.int .i64 1]⟩ h fun v9 h =>
  elF False (.agg [.int .i64, .int .i64, .int .i64]) v9 fun n10 n11 n12 =>
  stRow h b7 0 0 [.int .i64 n10, .int .i64 n11, .int .i64 n12] fun h =>
  kr b7 h)
  (ldI .i64 h b6 0 fun n13 =>
  ifB (decide ((n13 : Int) > 9))
  (callK Try.prog 44 ⟨[.int .i64 1]⟩ h fun v14 h =>
  elF False (.agg [.int .i64, .int .i64, .int .i64]) v14 fun n15 n16 n17 =>
  stRow h b7 0 0 [.int .i64 n15, .int .i64 n16, .int .i64 n17] fun h =>
  kr b7 h)
  (ldI .i64 h b6 1 fun n18 =>
  callK Try.prog 19 ⟨[.pointer p1, .int .i64 n18]⟩ h fun v19 h =>
  asP v19 fun p20 =>
  new h [.pointer none] 50 fun b21 h =>
  st h b21 0 (.pointer p20) fun h =>
  ldP h b21 0 fun p22 =>
  ifB p22.isNone
  (callK Try.prog 44 ⟨[.int .i64 3]⟩ h fun v23 h =>
  elF False (.agg [.int .i64, .int .i64, .int .i64]) v23 fun n24 n25 n26 =>
  stRow h b7 0 0 [.int .i64 n24, .int .i64 n25, .int .i64 n26] fun h =>
  kr b7 h)
  (ldP h b21 0 fun p27 =>
  nz p27 fun b28 o29 =>
  ldI .i64 h b28 (o29 + 4) fun n30 =>
  ifB ((n30 : Int) == 3)
  (callK Try.prog 44 ⟨[.int .i64 21]⟩ h fun v31 h =>
  elF False (.agg [.int .i64, .int .i64, .int .i64]) v31 fun n32 n33 n34 =>
  stRow h b7 0 0 [.int .i64 n32, .int .i64 n33, .int .i64 n34] fun h =>
  kr b7 h)
  (ldI .i64 h b6 0 fun n35 =>
  ifB ((n35 : Int) == 1)
  (nz p1 fun b36 o37 =>
  ldL h b36 o37 fun a38 l38 c38 =>
  ifB (((l38 : Nat) : Int) == 32)
  (callK Try.prog 44 ⟨[.int .i64 18]⟩ h fun v39 h =>
  elF False (.agg [.int .i64, .int .i64, .int .i64]) v39 fun n40 n41 n42 =>
  stRow h b7 0 0 [.int .i64 n40, .int .i64 n41, .int .i64 n42] fun h =>
  kr b7 h)
  (∃ M91, impl_Procs_step_l0 (fun p43 b44 b45 n46 h =>
  ldP h b45 0 fun p47 =>
  nz p47 fun b48 o49 =>
  ldRow h b48 o49 0 [.int .i64, .int .i64, .int .i64, .int .i64, .int .i64, .int .i64, .int .i64, .int .i64, .int .i64, .int .i64] fun n50 n51 n52 n53 n54 n55 n56 n57 n58 n59 =>
  new h [.int .i64 0, .int .i64 0, .int .i64 0, .int .i64 0, .int .i64 0, .int .i64 0, .int .i64 0, .int .i64 0, .int .i64 0, .int .i64 0] 38 fun b60 h =>
  stRow h b60 0 0 [.int .i64 n50, .int .i64 n51, .int .i64 n52, .int .i64 n53, .int .i64 n54, .int .i64 n55, .int .i64 n56, .int .i64 n57, .int .i64 n58, .int .i64 n59] fun h =>
  ldP h b45 0 fun p61 =>
  nz p61 fun b62 o63 =>
  ldI .i64 h b62 o63 fun n64 =>
  st h b60 0 (.int .i64 (IntKind.i64.wrap (n46 + 1))) fun h =>
  cell h b62 o63 = some (.int .i64 n64) ∧ (cell h b45 0 = some (.pointer p61) ∧ (st h b60 1 (.int .i64 n64) fun h =>
  st h b60 4 (.int .i64 1) fun h =>
  st h b60 6 (.int .i64 0) fun h =>
  nz p43 fun b65 o66 =>
  ldL h b65 o66 fun a67 l67 c67 =>
  req (0 ≤ (n46 : Int) ∧ (n46 : Int) ≤ (c67 : Nat))
  (req (plainA a67 = true)
  (appendK Try.prog 38 h none 0 0 (.slice (slB a67 0 c67 10) (n46.toNat - 0) (c67 - 0)) fun a68 l68 c68 h =>
  ldRow h b60 0 0 [.int .i64, .int .i64, .int .i64, .int .i64, .int .i64, .int .i64, .int .i64, .int .i64, .int .i64, .int .i64] fun n69 n70 n71 n72 n73 n74 n75 n76 n77 n78 =>
  nz p43 fun b79 o80 =>
  ldL h b79 o80 fun a81 l81 c81 =>
  req (0 ≤ (n46 : Int) ∧ (n46 : Int) ≤ (l81 : Nat))
  (req (plainA a81 = true)
  (new h [.int .i64 n69, .int .i64 n70, .int .i64 n71, .int .i64 n72, .int .i64 n73, .int .i64 n74, .int .i64 n75, .int .i64 n76, .int .i64 n77, .int .i64 n78] 38 fun b82 h =>
  cell h b79 o80 = some (.slice a81 l81 c81) ∧ (appendK Try.prog 38 h a68 l68 c68 (.slice (some ⟨b82, 0, none⟩) 1 1) fun a83 l83 c83 h =>
  cell h b79 o80 = some (.slice a81 l81 c81) ∧ (appendK Try.prog 38 h a83 l83 c83 (.slice (slB a81 n46.toNat c81 10) (l81 - n46.toNat) (c81 - n46.toNat)) fun a84 l84 c84 h =>
  nz p43 fun b85 o86 =>
  st h b85 o86 (.slice a84 l84 c84) fun h =>
  ldI .i64 h b60 0 fun n87 =>
  st h b44 1 (.int .i64 n87) fun h =>
  ldRow h b44 0 0 [.int .i64, .int .i64, .int .i64] fun n88 n89 n90 =>
  stRow h b44 0 0 [.int .i64 n88, .int .i64 n89, .int .i64 n90] fun h =>
  kr b44 h))))))))) M91 p1 b7 b21 0 h))
  (ifB ((n35 : Int) == 2)
  (ldI .i64 h b6 3 fun n92 =>
  ifB (decide ((n92 : Int) < 0))
  (impl_Procs_step_j1 (fun p93 b94 b95 h =>
  ldI .i64 h b94 1 fun n96 =>
  ldI .i64 h b94 3 fun n97 =>
  callK Try.prog 46 ⟨[.pointer p93, .int .i64 n96, .int .i64 n97]⟩ h fun v98 h =>
  elF False (.tuple []) v98
  (ldRow h b95 0 0 [.int .i64, .int .i64, .int .i64] fun n99 n100 n101 =>
  stRow h b95 0 0 [.int .i64 n99, .int .i64 n100, .int .i64 n101] fun h =>
  kr b95 h)) kr p1 b6 b7 true h)
  (ldI .i64 h b6 3 fun n102 =>
  impl_Procs_step_j1 (fun p103 b104 b105 h =>
  ldI .i64 h b104 1 fun n106 =>
  ldI .i64 h b104 3 fun n107 =>
  callK Try.prog 46 ⟨[.pointer p103, .int .i64 n106, .int .i64 n107]⟩ h fun v108 h =>
  elF False (.tuple []) v108
  (ldRow h b105 0 0 [.int .i64, .int .i64, .int .i64] fun n109 n110 n111 =>
  stRow h b105 0 0 [.int .i64 n109, .int .i64 n110, .int .i64 n111] fun h =>
  kr b105 h)) kr p1 b6 b7 (decide ((n102 : Int) > 255)) h))
  (ifB ((n35 : Int) == 3)
  (nz p1 fun b112 o113 =>
  ldL h b112 o113 fun a114 l114 c114 =>
  ∃ M125, impl_Procs_step_l2 (fun b115 t116 h =>
  ifB (!t116)
  (callK Try.prog 44 ⟨[.int .i64 11]⟩ h fun v117 h =>
  elF False (.agg [.int .i64, .int .i64, .int .i64]) v117 fun n118 n119 n120 =>
  stRow h b115 0 0 [.int .i64 n118, .int .i64 n119, .int .i64 n120] fun h =>
  kr b115 h)
  (callK Try.prog 44 ⟨[.int .i64 9]⟩ h fun v121 h =>
  elF False (.agg [.int .i64, .int .i64, .int .i64]) v121 fun n122 n123 n124 =>
  stRow h b115 0 0 [.int .i64 n122, .int .i64 n123, .int .i64 n124] fun h =>
  kr b115 h)) kr M125 p1 b6 b7 b6 b21 false a114 l114 c114 (l114 : Nat) 0 h)
  (ifB ((n35 : Int) == 4)
  (ldI .i64 h b6 3 fun n126 =>
  ifB (decide ((n126 : Int) < 0))
  (callK Try.prog 44 ⟨[.int .i64 1]⟩ h fun v127 h =>
  elF False (.agg [.int .i64, .int .i64, .int .i64]) v127 fun n128 n129 n130 =>
  stRow h b7 0 0 [.int .i64 n128, .int .i64 n129, .int .i64 n130] fun h =>
  kr b7 h)
  (ldI .i64 h b6 3 fun n131 =>
  ifB (decide ((n131 : Int) > 15))
  (callK Try.prog 44 ⟨[.int .i64 1]⟩ h fun v132 h =>
  elF False (.agg [.int .i64, .int .i64, .int .i64]) v132 fun n133 n134 n135 =>
  stRow h b7 0 0 [.int .i64 n133, .int .i64 n134, .int .i64 n135] fun h =>
  kr b7 h)
  (nz p1 fun b136 o137 =>
  ldL h b136 o137 fun a138 l138 c138 =>
  ∃ M162, impl_Procs_step_l3 (fun p139 b140 b141 t142 a143 l143 c143 h =>
  ifB (!t142)
  (callK Try.prog 44 ⟨[.int .i64 3]⟩ h fun v144 h =>
  elF False (.agg [.int .i64, .int .i64, .int .i64]) v144 fun n145 n146 n147 =>
  stRow h b141 0 0 [.int .i64 n145, .int .i64 n146, .int .i64 n147] fun h =>
  kr b141 h)
  (ifB (((l143 : Nat) : Int) == 0)
  (callK Try.prog 44 ⟨[.int .i64 2]⟩ h fun v148 h =>
  elF False (.agg [.int .i64, .int .i64, .int .i64]) v148 fun n149 n150 n151 =>
  stRow h b141 0 0 [.int .i64 n149, .int .i64 n150, .int .i64 n151] fun h =>
  kr b141 h)
  (ldI .i64 h b140 3 fun n152 =>
  ifB (decide ((n152 : Int) > 0))
  (∃ M158, impl_Procs_step_l5 (fun b153 a154 l154 c154 h =>
  st h b153 1 (.int .i64 (l154 : Nat)) fun h =>
  ldRow h b153 0 0 [.int .i64, .int .i64, .int .i64] fun n155 n156 n157 =>
  stRow h b153 0 0 [.int .i64 n155, .int .i64 n156, .int .i64 n157] fun h =>
  kr b153 h) M158 p139 b140 b141 a143 l143 c143 a143 l143 c143 (l143 : Nat) 0 h)
  (st h b141 1 (.int .i64 (l143 : Nat)) fun h =>
  ldRow h b141 0 0 [.int .i64, .int .i64, .int .i64] fun n159 n160 n161 =>
  stRow h b141 0 0 [.int .i64 n159, .int .i64 n160, .int .i64 n161] fun h =>
  kr b141 h)))) M162 p1 b6 b7 b21 b6 b21 false none 0 0 a138 l138 c138 (l138 : Nat) 0 h)))
  (ifB ((n35 : Int) == 5)
  (ldI .i64 h b6 2 fun n163 =>
  ifB ((bAndNot .i64 n163 65534 : Int) != 0)
  (callK Try.prog 44 ⟨[.int .i64 1]⟩ h fun v164 h =>
  elF False (.agg [.int .i64, .int .i64, .int .i64]) v164 fun n165 n166 n167 =>
  stRow h b7 0 0 [.int .i64 n165, .int .i64 n166, .int .i64 n167] fun h =>
  kr b7 h)
  (ldP h b21 0 fun p168 =>
  nz p168 fun b169 o170 =>
  ldI .i64 h b169 (o170 + 7) fun n171 =>
  st h b7 1 (.int .i64 n171) fun h =>
  ldP h b21 0 fun p172 =>
  ldI .i64 h b6 2 fun n173 =>
  nz p172 fun b174 o175 =>
  st h b174 (o175 + 7) (.int .i64 (bAndNot .i64 n173 4608)) fun h =>
  ldRow h b7 0 0 [.int .i64, .int .i64, .int .i64] fun n176 n177 n178 =>
  stRow h b7 0 0 [.int .i64 n176, .int .i64 n177, .int .i64 n178] fun h =>
  kr b7 h))
  (ifB ((n35 : Int) == 6)
  (ldI .i64 h b6 2 fun n179 =>
  ifB (decide ((n179 : Int) < 1))
  (callK Try.prog 44 ⟨[.int .i64 1]⟩ h fun v180 h =>
  elF False (.agg [.int .i64, .int .i64, .int .i64]) v180 fun n181 n182 n183 =>
  stRow h b7 0 0 [.int .i64 n181, .int .i64 n182, .int .i64 n183] fun h =>
  kr b7 h)
  (ldI .i64 h b6 2 fun n184 =>
  ifB (decide ((n184 : Int) > 15))
  (callK Try.prog 44 ⟨[.int .i64 1]⟩ h fun v185 h =>
  elF False (.agg [.int .i64, .int .i64, .int .i64]) v185 fun n186 n187 n188 =>
  stRow h b7 0 0 [.int .i64 n186, .int .i64 n187, .int .i64 n188] fun h =>
  kr b7 h)
  (ldI .i64 h b6 3 fun n189 =>
  ifB (decide ((n189 : Int) < 0))
  (callK Try.prog 44 ⟨[.int .i64 1]⟩ h fun v190 h =>
  elF False (.agg [.int .i64, .int .i64, .int .i64]) v190 fun n191 n192 n193 =>
  stRow h b7 0 0 [.int .i64 n191, .int .i64 n192, .int .i64 n193] fun h =>
  kr b7 h)
  (ldI .i64 h b6 3 fun n194 =>
  ifB (decide ((n194 : Int) > 2))
  (callK Try.prog 44 ⟨[.int .i64 1]⟩ h fun v195 h =>
  elF False (.agg [.int .i64, .int .i64, .int .i64]) v195 fun n196 n197 n198 =>
  stRow h b7 0 0 [.int .i64 n196, .int .i64 n197, .int .i64 n198] fun h =>
  kr b7 h)
  (ldI .i64 h b6 2 fun n199 =>
  ifB ((n199 : Int) == 9)
  (callK Try.prog 44 ⟨[.int .i64 1]⟩ h fun v200 h =>
  elF False (.agg [.int .i64, .int .i64, .int .i64]) v200 fun n201 n202 n203 =>
  stRow h b7 0 0 [.int .i64 n201, .int .i64 n202, .int .i64 n203] fun h =>
  kr b7 h)
  (ldI .i64 h b6 2 fun n204 =>
  ifB ((n204 : Int) == 12)
  (callK Try.prog 44 ⟨[.int .i64 1]⟩ h fun v205 h =>
  elF False (.agg [.int .i64, .int .i64, .int .i64]) v205 fun n206 n207 n208 =>
  stRow h b7 0 0 [.int .i64 n206, .int .i64 n207, .int .i64 n208] fun h =>
  kr b7 h)
  (ldI .i64 h b6 2 fun n209 =>
  req (0 ≤ (n209 : Int))
  (ldP h b21 0 fun p210 =>
  nz p210 fun b211 o212 =>
  ldI .i64 h b211 (o212 + 8) fun n213 =>
  nz p210 fun b214 o215 =>
  st h b214 (o215 + 8) (.int .i64 (bAndNot .i64 n213 (sShl .i64 1 n209))) fun h =>
  ldP h b21 0 fun p216 =>
  nz p216 fun b217 o218 =>
  ldI .i64 h b217 (o218 + 9) fun n219 =>
  nz p216 fun b220 o221 =>
  st h b220 (o221 + 9) (.int .i64 (bAndNot .i64 n219 (sShl .i64 1 n209))) fun h =>
  ldI .i64 h b6 3 fun n222 =>
  ifB ((n222 : Int) == 1)
  (ldP h b21 0 fun p223 =>
  nz p223 fun b224 o225 =>
  ldI .i64 h b224 (o225 + 8) fun n226 =>
  nz p223 fun b227 o228 =>
  st h b227 (o228 + 8) (.int .i64 (bOr .i64 n226 (sShl .i64 1 n209))) fun h =>
  ldP h b21 0 fun p229 =>
  nz p229 fun b230 o231 =>
  ldI .i64 h b230 (o231 + 6) fun n232 =>
  nz p229 fun b233 o234 =>
  st h b233 (o234 + 6) (.int .i64 (bAndNot .i64 n232 (sShl .i64 1 n209))) fun h =>
  ldRow h b7 0 0 [.int .i64, .int .i64, .int .i64] fun n235 n236 n237 =>
  stRow h b7 0 0 [.int .i64 n235, .int .i64 n236, .int .i64 n237] fun h =>
  kr b7 h)
  (ifB ((n222 : Int) == 2)
  (ldP h b21 0 fun p238 =>
  nz p238 fun b239 o240 =>
  ldI .i64 h b239 (o240 + 9) fun n241 =>
  nz p238 fun b242 o243 =>
  st h b242 (o243 + 9) (.int .i64 (bOr .i64 n241 (sShl .i64 1 n209))) fun h =>
  ldRow h b7 0 0 [.int .i64, .int .i64, .int .i64] fun n244 n245 n246 =>
  stRow h b7 0 0 [.int .i64 n244, .int .i64 n245, .int .i64 n246] fun h =>
  kr b7 h)
  (ldRow h b7 0 0 [.int .i64, .int .i64, .int .i64] fun n247 n248 n249 =>
  stRow h b7 0 0 [.int .i64 n247, .int .i64 n248, .int .i64 n249] fun h =>
  kr b7 h))))))))))
  (ifB ((n35 : Int) == 7)
  (ldP h b21 0 fun p250 =>
  nz p250 fun b251 o252 =>
  ldI .i64 h b251 (o252 + 6) fun n253 =>
  ldP h b21 0 fun p254 =>
  nz p254 fun b255 o256 =>
  ldI .i64 h b255 (o256 + 7) fun n257 =>
  ldP h b21 0 fun p258 =>
  nz p258 fun b259 o260 =>
  ldI .i64 h b259 (o260 + 4) fun n261 =>
  ifB ((n261 : Int) == 2)
  (impl_Procs_step_j6 (fun b262 h =>
  ldRow h b262 0 0 [.int .i64, .int .i64, .int .i64] fun n263 n264 n265 =>
  stRow h b262 0 0 [.int .i64 n263, .int .i64 n264, .int .i64 n265] fun h =>
  kr b262 h) kr p1 b6 b7 b21 (bAnd .i64 (bAndNot .i64 n253 n257) 512) h)
  (impl_Procs_step_j6 (fun b266 h =>
  ldRow h b266 0 0 [.int .i64, .int .i64, .int .i64] fun n267 n268 n269 =>
  stRow h b266 0 0 [.int .i64 n267, .int .i64 n268, .int .i64 n269] fun h =>
  kr b266 h) kr p1 b6 b7 b21 (bAndNot .i64 n253 n257) h))
  (ifB ((n35 : Int) == 8)
  (ldI .i64 h b6 2 fun n270 =>
  callK Try.prog 19 ⟨[.pointer p1, .int .i64 n270]⟩ h fun v271 h =>
  asP v271 fun p272 =>
  ifB p272.isNone
  (impl_Procs_step_j10 (fun p273 b274 b275 p276 h =>
  impl_Procs_step_j11 (fun b277 h =>
  ldRow h b277 0 0 [.int .i64, .int .i64, .int .i64] fun n278 n279 n280 =>
  stRow h b277 0 0 [.int .i64 n278, .int .i64 n279, .int .i64 n280] fun h =>
  kr b277 h) kr p273 b274 b275 p276 h) kr p1 b6 b7 p272 true h)
  (nz p272 fun b281 o282 =>
  ldI .i64 h b281 (o282 + 4) fun n283 =>
  ifB ((n283 : Int) == 3)
  (impl_Procs_step_j10 (fun p284 b285 b286 p287 h =>
  impl_Procs_step_j11 (fun b288 h =>
  ldRow h b288 0 0 [.int .i64, .int .i64, .int .i64] fun n289 n290 n291 =>
  stRow h b288 0 0 [.int .i64 n289, .int .i64 n290, .int .i64 n291] fun h =>
  kr b288 h) kr p284 b285 b286 p287 h) kr p1 b6 b7 p272 true h)
  (nz p272 fun b292 o293 =>
  ldI .i64 h b292 o293 fun n294 =>
  ldI .i64 h b6 1 fun n295 =>
  ifB ((n294 : Int) != n295)
  (nz p272 fun b296 o297 =>
  ldI .i64 h b296 (o297 + 1) fun n298 =>
  ldI .i64 h b6 1 fun n299 =>
  impl_Procs_step_j10 (fun p300 b301 b302 p303 h =>
  impl_Procs_step_j11 (fun b304 h =>
  ldRow h b304 0 0 [.int .i64, .int .i64, .int .i64] fun n305 n306 n307 =>
  stRow h b304 0 0 [.int .i64 n305, .int .i64 n306, .int .i64 n307] fun h =>
  kr b304 h) kr p300 b301 b302 p303 h) kr p1 b6 b7 p272 ((n298 : Int) != n299) h)
  (impl_Procs_step_j10 (fun p308 b309 b310 p311 h =>
  impl_Procs_step_j11 (fun b312 h =>
  ldRow h b312 0 0 [.int .i64, .int .i64, .int .i64] fun n313 n314 n315 =>
  stRow h b312 0 0 [.int .i64 n313, .int .i64 n314, .int .i64 n315] fun h =>
  kr b312 h) kr p308 b309 b310 p311 h) kr p1 b6 b7 p272 false h))))
  (ifB ((n35 : Int) == 9)
  (ldI .i64 h b6 3 fun n316 =>
  ifB (decide ((n316 : Int) < 0))
  (impl_Procs_step_j13 (fun b317 b318 b319 h =>
  ldP h b319 0 fun p320 =>
  ldI .i64 h b317 3 fun n321 =>
  nz p320 fun b322 o323 =>
  st h b322 (o323 + 3) (.int .i64 n321) fun h =>
  ldRow h b318 0 0 [.int .i64, .int .i64, .int .i64] fun n324 n325 n326 =>
  stRow h b318 0 0 [.int .i64 n324, .int .i64 n325, .int .i64 n326] fun h =>
  kr b318 h) kr b6 b7 b21 true h)
  (ldI .i64 h b6 3 fun n327 =>
  impl_Procs_step_j13 (fun b328 b329 b330 h =>
  ldP h b330 0 fun p331 =>
  ldI .i64 h b328 3 fun n332 =>
  nz p331 fun b333 o334 =>
  st h b333 (o334 + 3) (.int .i64 n332) fun h =>
  ldRow h b329 0 0 [.int .i64, .int .i64, .int .i64] fun n335 n336 n337 =>
  stRow h b329 0 0 [.int .i64 n335, .int .i64 n336, .int .i64 n337] fun h =>
  kr b329 h) kr b6 b7 b21 (decide ((n327 : Int) > 255)) h))
  (ldRow h b7 0 0 [.int .i64, .int .i64, .int .i64] fun n338 n339 n340 =>
  stRow h b7 0 0 [.int .i64 n338, .int .i64 n339, .int .i64 n340] fun h =>
  kr b7 h)))))))))))))

theorem impl_Procs_step_l0_eq (K : Cont) (N : Nat) (p43 : Option Addr) (b44 : Nat) (b45 : Nat) (n46 : Int) (h : H) :
  impl_Procs_step_l0 (curV [(0, .ptr), (4, .blk), (6, .blk), (8, .int .i64)] (K (.exit 2))) (N + 1) p43 b44 b45 n46 h = evC Try.prog 592 [] [] (sub code26 [true, true, true, true, true, true, false, true, false, true, false, true, true, false, false, false]) [(0, .pointer p43), (4, .pointer (some ⟨b44, 0, none⟩)), (6, .pointer (some ⟨b45, 0, none⟩)), (8, .int .i64 n46)] h ((outsOf none [(2, [(0, .ptr), (4, .blk), (6, .blk), (8, .int .i64)])] none K).loop [(0, .ptr), (4, .blk), (6, .blk), (8, .int .i64)] (impl_Procs_step_l0 (curV [(0, .ptr), (4, .blk), (6, .blk), (8, .int .i64)] (K (.exit 2))) N)).K := by kernel_rfl

def impl_Procs_step_l0_F : PT := mkL [(0, .ptr), (4, .blk), (6, .blk), (8, .int .i64)] fun K N => impl_Procs_step_l0 (curV [(0, .ptr), (4, .blk), (6, .blk), (8, .int .i64)] (K (.exit 2))) N

theorem impl_Procs_step_l0_V : Valid Try.prog 592 (sub code26 [true, true, true, true, true, true, false, true, false, true, false, true, true, false, false]) impl_Procs_step_l0_F :=
  loop_at (code26) [true, true, true, true, true, true, false, true, false, true, false, true, true, false, false] (loop_piece (c := (sub code26 [true, true, true, true, true, true, false, true, false, true, false, true, true, false, false, false])) mixed rows_nil (fun K => by intro p43 b44 b45 n46 h hd; exact hd) (fun K N => by intro p43 b44 b45 n46 h hd; exact (impl_Procs_step_l0_eq K N p43 b44 b45 n46 h) ▸ hd))

theorem impl_Procs_step_j1_eq (K : Cont) (p105 : Option Addr) (b106 : Nat) (b107 : Nat) (t108 : Bool) (h : H) :
  impl_Procs_step_j1 (curV [(0, .ptr), (3, .blk), (4, .blk)] (K .normal)) (curV [(4, .blk)] (K .ret)) p105 b106 b107 t108 h = evC Try.prog 592 [] [] (sub code26 [true, true, true, true, true, true, false, true, false, true, true, true, false, false, false, true]) [(0, .pointer p105), (3, .pointer (some ⟨b106, 0, none⟩)), (4, .pointer (some ⟨b107, 0, none⟩)), (5, .func (.func 44) #[] ⟨[]⟩), (128, .bool t108)] h (outsOf (some [(0, .ptr), (3, .blk), (4, .blk)]) [] (some [(4, .blk)]) K).K := by kernel_rfl

def impl_Procs_step_j1_F : PT := mkF [(0, .ptr), (3, .blk), (4, .blk), (5, .fn 44 []), (128, .bool)] fun K => impl_Procs_step_j1 (curV [(0, .ptr), (3, .blk), (4, .blk)] (K .normal)) (curV [(4, .blk)] (K .ret))

theorem impl_Procs_step_j1_V : Valid Try.prog 592 (sub code26 [true, true, true, true, true, true, false, true, false, true, true, true, false, false, false, true]) impl_Procs_step_j1_F :=
  piece mixed rows_nil (fun K => by intro p105 b106 b107 t108 h hd; exact (impl_Procs_step_j1_eq K p105 b106 b107 t108 h) ▸ hd)

theorem impl_Procs_step_l2_eq (K : Cont) (N : Nat) (p143 : Option Addr) (b144 : Nat) (b145 : Nat) (b146 : Nat) (b147 : Nat) (t148 : Bool) (a149 : Option Addr) (l149 : Nat) (c149 : Nat) (n150 : Int) (n151 : Int) (h : H) :
  impl_Procs_step_l2 (curV [(4, .blk), (5, .fn 44 []), (11, .bool)] (K (.exit 5))) (curV [(4, .blk)] (K .ret)) (N + 1) p143 b144 b145 b146 b147 t148 a149 l149 c149 n150 n151 h = evC Try.prog 592 [] [] (sub code26 [true, true, true, true, true, true, false, true, false, true, true, true, true, true, false, true, false, true, false, false]) [(0, .pointer p143), (3, .pointer (some ⟨b144, 0, none⟩)), (4, .pointer (some ⟨b145, 0, none⟩)), (5, .func (.func 44) #[] ⟨[]⟩), (7, .func (.func 45) #[] ⟨[.pointer (some ⟨b146, 0, none⟩), .pointer (some ⟨b147, 0, none⟩)]⟩), (11, .bool t148), (156, .slice a149 l149 c149), (157, .int .i64 n150), (158, .int .i64 n151)] h ((outsOf none [(5, [(4, .blk), (5, .fn 44 []), (11, .bool)])] (some [(4, .blk)]) K).loop [(0, .ptr), (3, .blk), (4, .blk), (5, .fn 44 []), (7, .fn 45 [.blk, .blk]), (11, .bool), (156, .slice), (157, .int .i64), (158, .int .i64)] (impl_Procs_step_l2 (curV [(4, .blk), (5, .fn 44 []), (11, .bool)] (K (.exit 5))) (curV [(4, .blk)] (K .ret)) N)).K := by kernel_rfl

def impl_Procs_step_l2_F : PT := mkL [(0, .ptr), (3, .blk), (4, .blk), (5, .fn 44 []), (7, .fn 45 [.blk, .blk]), (11, .bool), (156, .slice), (157, .int .i64), (158, .int .i64)] fun K N => impl_Procs_step_l2 (curV [(4, .blk), (5, .fn 44 []), (11, .bool)] (K (.exit 5))) (curV [(4, .blk)] (K .ret)) N

theorem impl_Procs_step_l2_V : Valid Try.prog 592 (sub code26 [true, true, true, true, true, true, false, true, false, true, true, true, true, true, false, true, false, true, false]) impl_Procs_step_l2_F :=
  loop_at (code26) [true, true, true, true, true, true, false, true, false, true, true, true, true, true, false, true, false, true, false] (loop_piece (c := (sub code26 [true, true, true, true, true, true, false, true, false, true, true, true, true, true, false, true, false, true, false, false])) mixed rows_nil (fun K => by intro p143 b144 b145 b146 b147 t148 a149 l149 c149 n150 n151 h hd; exact hd) (fun K N => by intro p143 b144 b145 b146 b147 t148 a149 l149 c149 n150 n151 h hd; exact (impl_Procs_step_l2_eq K N p143 b144 b145 b146 b147 t148 a149 l149 c149 n150 n151 h) ▸ hd))

theorem impl_Procs_step_j4_eq (K : Cont) (p233 : Option Addr) (b234 : Nat) (b235 : Nat) (b236 : Nat) (b237 : Nat) (b238 : Nat) (a239 : Option Addr) (l239 : Nat) (c239 : Nat) (b240 : Nat) (a241 : Option Addr) (l241 : Nat) (c241 : Nat) (n242 : Int) (n243 : Int) (h : H) :
  impl_Procs_step_j4 (curV [(0, .ptr), (3, .blk), (4, .blk), (5, .fn 44 []), (6, .blk), (7, .fn 45 [.blk, .blk]), (14, .bool), (15, .slice), (207, .slice), (208, .int .i64), (209, .int .i64)] (K .normal)) p233 b234 b235 b236 b237 b238 a239 l239 c239 b240 a241 l241 c241 n242 n243 h = evC Try.prog 592 [] [] (sub code26 [true, true, true, true, true, true, false, true, false, true, true, true, true, true, true, true, false, true, true, true, false, true, false, false, true, true, false, false, true, true]) [(0, .pointer p233), (3, .pointer (some ⟨b234, 0, none⟩)), (4, .pointer (some ⟨b235, 0, none⟩)), (5, .func (.func 44) #[] ⟨[]⟩), (6, .pointer (some ⟨b236, 0, none⟩)), (7, .func (.func 45) #[] ⟨[.pointer (some ⟨b237, 0, none⟩), .pointer (some ⟨b238, 0, none⟩)]⟩), (15, .slice a239 l239 c239), (17, .pointer (some ⟨b240, 0, none⟩)), (207, .slice a241 l241 c241), (208, .int .i64 n242), (209, .int .i64 n243)] h (outsOf (some [(0, .ptr), (3, .blk), (4, .blk), (5, .fn 44 []), (6, .blk), (7, .fn 45 [.blk, .blk]), (14, .bool), (15, .slice), (207, .slice), (208, .int .i64), (209, .int .i64)]) [] none K).K := by kernel_rfl

def impl_Procs_step_j4_F : PT := mkF [(0, .ptr), (3, .blk), (4, .blk), (5, .fn 44 []), (6, .blk), (7, .fn 45 [.blk, .blk]), (15, .slice), (17, .blk), (207, .slice), (208, .int .i64), (209, .int .i64)] fun K => impl_Procs_step_j4 (curV [(0, .ptr), (3, .blk), (4, .blk), (5, .fn 44 []), (6, .blk), (7, .fn 45 [.blk, .blk]), (14, .bool), (15, .slice), (207, .slice), (208, .int .i64), (209, .int .i64)] (K .normal))

theorem impl_Procs_step_j4_V : Valid Try.prog 592 (sub code26 [true, true, true, true, true, true, false, true, false, true, true, true, true, true, true, true, false, true, true, true, false, true, false, false, true, true, false, false, true, true]) impl_Procs_step_j4_F :=
  piece mixed rows_nil (fun K => by intro p233 b234 b235 b236 b237 b238 a239 l239 c239 b240 a241 l241 c241 n242 n243 h hd; exact (impl_Procs_step_j4_eq K p233 b234 b235 b236 b237 b238 a239 l239 c239 b240 a241 l241 c241 n242 n243 h) ▸ hd)

theorem impl_Procs_step_l3_eq (K : Cont) (N : Nat) (p209 : Option Addr) (b210 : Nat) (b211 : Nat) (b212 : Nat) (b213 : Nat) (b214 : Nat) (t215 : Bool) (a216 : Option Addr) (l216 : Nat) (c216 : Nat) (a217 : Option Addr) (l217 : Nat) (c217 : Nat) (n218 : Int) (n219 : Int) (h : H) :
  impl_Procs_step_l3 (curV [(0, .ptr), (3, .blk), (4, .blk), (5, .fn 44 []), (14, .bool), (15, .slice)] (K (.exit 7))) (N + 1) p209 b210 b211 b212 b213 b214 t215 a216 l216 c216 a217 l217 c217 n218 n219 h = evC Try.prog 592 [([true, true, false, false, true, true], impl_Procs_step_j4_F)] [] (sub code26 [true, true, true, true, true, true, false, true, false, true, true, true, true, true, true, true, false, true, true, true, false, true, false, false]) [(0, .pointer p209), (3, .pointer (some ⟨b210, 0, none⟩)), (4, .pointer (some ⟨b211, 0, none⟩)), (5, .func (.func 44) #[] ⟨[]⟩), (6, .pointer (some ⟨b212, 0, none⟩)), (7, .func (.func 45) #[] ⟨[.pointer (some ⟨b213, 0, none⟩), .pointer (some ⟨b214, 0, none⟩)]⟩), (14, .bool t215), (15, .slice a216 l216 c216), (207, .slice a217 l217 c217), (208, .int .i64 n218), (209, .int .i64 n219)] h ((outsOf none [(7, [(0, .ptr), (3, .blk), (4, .blk), (5, .fn 44 []), (14, .bool), (15, .slice)])] none K).loop [(0, .ptr), (3, .blk), (4, .blk), (5, .fn 44 []), (6, .blk), (7, .fn 45 [.blk, .blk]), (14, .bool), (15, .slice), (207, .slice), (208, .int .i64), (209, .int .i64)] (impl_Procs_step_l3 (curV [(0, .ptr), (3, .blk), (4, .blk), (5, .fn 44 []), (14, .bool), (15, .slice)] (K (.exit 7))) N)).K := by kernel_rfl

def impl_Procs_step_l3_F : PT := mkL [(0, .ptr), (3, .blk), (4, .blk), (5, .fn 44 []), (6, .blk), (7, .fn 45 [.blk, .blk]), (14, .bool), (15, .slice), (207, .slice), (208, .int .i64), (209, .int .i64)] fun K N => impl_Procs_step_l3 (curV [(0, .ptr), (3, .blk), (4, .blk), (5, .fn 44 []), (14, .bool), (15, .slice)] (K (.exit 7))) N

theorem impl_Procs_step_l3_V : Valid Try.prog 592 (sub code26 [true, true, true, true, true, true, false, true, false, true, true, true, true, true, true, true, false, true, true, true, false, true, false]) impl_Procs_step_l3_F :=
  loop_at (code26) [true, true, true, true, true, true, false, true, false, true, true, true, true, true, true, true, false, true, true, true, false, true, false] (loop_piece (c := (sub code26 [true, true, true, true, true, true, false, true, false, true, true, true, true, true, true, true, false, true, true, true, false, true, false, false])) mixed (rows_cons (q' := [true, true, false, false, true, true]) (valid_at (p := [true, true, true, true, true, true, false, true, false, true, true, true, true, true, true, true, false, true, true, true, false, true, false, false]) impl_Procs_step_j4_V rfl) rfl rows_nil) (fun K => by intro p209 b210 b211 b212 b213 b214 t215 a216 l216 c216 a217 l217 c217 n218 n219 h hd; exact hd) (fun K N => by intro p209 b210 b211 b212 b213 b214 t215 a216 l216 c216 a217 l217 c217 n218 n219 h hd; exact (impl_Procs_step_l3_eq K N p209 b210 b211 b212 b213 b214 t215 a216 l216 c216 a217 l217 c217 n218 n219 h) ▸ hd))

theorem impl_Procs_step_l5_eq (K : Cont) (N : Nat) (p285 : Option Addr) (b286 : Nat) (b287 : Nat) (a288 : Option Addr) (l288 : Nat) (c288 : Nat) (a289 : Option Addr) (l289 : Nat) (c289 : Nat) (n290 : Int) (n291 : Int) (h : H) :
  impl_Procs_step_l5 (curV [(4, .blk), (15, .slice)] (K (.exit 10))) (N + 1) p285 b286 b287 a288 l288 c288 a289 l289 c289 n290 n291 h = evC Try.prog 592 [] [] (sub code26 [true, true, true, true, true, true, false, true, false, true, true, true, true, true, true, true, false, true, true, true, true, true, false, true, false, true, false, false]) [(0, .pointer p285), (3, .pointer (some ⟨b286, 0, none⟩)), (4, .pointer (some ⟨b287, 0, none⟩)), (15, .slice a288 l288 c288), (268, .slice a289 l289 c289), (269, .int .i64 n290), (270, .int .i64 n291)] h ((outsOf none [(10, [(4, .blk), (15, .slice)])] none K).loop [(0, .ptr), (3, .blk), (4, .blk), (15, .slice), (268, .slice), (269, .int .i64), (270, .int .i64)] (impl_Procs_step_l5 (curV [(4, .blk), (15, .slice)] (K (.exit 10))) N)).K := by kernel_rfl

def impl_Procs_step_l5_F : PT := mkL [(0, .ptr), (3, .blk), (4, .blk), (15, .slice), (268, .slice), (269, .int .i64), (270, .int .i64)] fun K N => impl_Procs_step_l5 (curV [(4, .blk), (15, .slice)] (K (.exit 10))) N

theorem impl_Procs_step_l5_V : Valid Try.prog 592 (sub code26 [true, true, true, true, true, true, false, true, false, true, true, true, true, true, true, true, false, true, true, true, true, true, false, true, false, true, false]) impl_Procs_step_l5_F :=
  loop_at (code26) [true, true, true, true, true, true, false, true, false, true, true, true, true, true, true, true, false, true, true, true, true, true, false, true, false, true, false] (loop_piece (c := (sub code26 [true, true, true, true, true, true, false, true, false, true, true, true, true, true, true, true, false, true, true, true, true, true, false, true, false, true, false, false])) mixed rows_nil (fun K => by intro p285 b286 b287 a288 l288 c288 a289 l289 c289 n290 n291 h hd; exact hd) (fun K N => by intro p285 b286 b287 a288 l288 c288 a289 l289 c289 n290 n291 h hd; exact (impl_Procs_step_l5_eq K N p285 b286 b287 a288 l288 c288 a289 l289 c289 n290 n291 h) ▸ hd))

theorem impl_Procs_step_l7_eq (K : Cont) (N : Nat) (p411 : Option Addr) (b412 : Nat) (b413 : Nat) (b414 : Nat) (n415 : Int) (n416 : Int) (h : H) :
  impl_Procs_step_l7 (curV [(0, .ptr), (3, .blk), (4, .blk), (6, .blk), (22, .int .i64)] (K (.exit 13))) (N + 1) p411 b412 b413 b414 n415 n416 h = evC Try.prog 592 [] [] (sub code26 [true, true, true, true, true, true, false, true, false, true, true, true, true, true, true, true, true, true, true, true, true, true, false, true, true, true, true, false, true, false, true, false, false]) [(0, .pointer p411), (3, .pointer (some ⟨b412, 0, none⟩)), (4, .pointer (some ⟨b413, 0, none⟩)), (6, .pointer (some ⟨b414, 0, none⟩)), (21, .int .i64 n415), (22, .int .i64 n416)] h ((outsOf none [(13, [(0, .ptr), (3, .blk), (4, .blk), (6, .blk), (22, .int .i64)])] none K).loop [(0, .ptr), (3, .blk), (4, .blk), (6, .blk), (21, .int .i64), (22, .int .i64)] (impl_Procs_step_l7 (curV [(0, .ptr), (3, .blk), (4, .blk), (6, .blk), (22, .int .i64)] (K (.exit 13))) N)).K := by kernel_rfl

def impl_Procs_step_l7_F : PT := mkL [(0, .ptr), (3, .blk), (4, .blk), (6, .blk), (21, .int .i64), (22, .int .i64)] fun K N => impl_Procs_step_l7 (curV [(0, .ptr), (3, .blk), (4, .blk), (6, .blk), (22, .int .i64)] (K (.exit 13))) N

theorem impl_Procs_step_l7_V : Valid Try.prog 592 (sub code26 [true, true, true, true, true, true, false, true, false, true, true, true, true, true, true, true, true, true, true, true, true, true, false, true, true, true, true, false, true, false, true, false]) impl_Procs_step_l7_F :=
  loop_at (code26) [true, true, true, true, true, true, false, true, false, true, true, true, true, true, true, true, true, true, true, true, true, true, false, true, true, true, true, false, true, false, true, false] (loop_piece (c := (sub code26 [true, true, true, true, true, true, false, true, false, true, true, true, true, true, true, true, true, true, true, true, true, true, false, true, true, true, true, false, true, false, true, false, false])) mixed rows_nil (fun K => by intro p411 b412 b413 b414 n415 n416 h hd; exact hd) (fun K N => by intro p411 b412 b413 b414 n415 n416 h hd; exact (impl_Procs_step_l7_eq K N p411 b412 b413 b414 n415 n416 h) ▸ hd))

theorem impl_Procs_step_j9_eq (K : Cont) (p432 : Option Addr) (b433 : Nat) (b434 : Nat) (b435 : Nat) (n436 : Int) (t437 : Bool) (h : H) :
  impl_Procs_step_j9 (curV [(4, .blk)] (K .normal)) p432 b433 b434 b435 n436 t437 h = evC Try.prog 592 [] [] (sub code26 [true, true, true, true, true, true, false, true, false, true, true, true, true, true, true, true, true, true, true, true, true, true, false, true, true, true, true, true, true, true, false, true, true, true]) [(0, .pointer p432), (3, .pointer (some ⟨b433, 0, none⟩)), (4, .pointer (some ⟨b434, 0, none⟩)), (6, .pointer (some ⟨b435, 0, none⟩)), (22, .int .i64 n436), (447, .bool t437)] h (outsOf (some [(4, .blk)]) [] none K).K := by kernel_rfl

def impl_Procs_step_j9_F : PT := mkF [(0, .ptr), (3, .blk), (4, .blk), (6, .blk), (22, .int .i64), (447, .bool)] fun K => impl_Procs_step_j9 (curV [(4, .blk)] (K .normal))

theorem impl_Procs_step_j9_V : Valid Try.prog 592 (sub code26 [true, true, true, true, true, true, false, true, false, true, true, true, true, true, true, true, true, true, true, true, true, true, false, true, true, true, true, true, true, true, false, true, true, true]) impl_Procs_step_j9_F :=
  piece mixed rows_nil (fun K => by intro p432 b433 b434 b435 n436 t437 h hd; exact (impl_Procs_step_j9_eq K p432 b433 b434 b435 n436 t437 h) ▸ hd)

theorem impl_Procs_step_j8_eq (K : Cont) (p411 : Option Addr) (b412 : Nat) (b413 : Nat) (b414 : Nat) (n415 : Int) (h : H) :
  impl_Procs_step_j8 (curV [(4, .blk)] (K .normal)) p411 b412 b413 b414 n415 h = evC Try.prog 592 [([true, true, true, false, true, true], impl_Procs_step_j9_F)] [] (sub code26 [true, true, true, true, true, true, false, true, false, true, true, true, true, true, true, true, true, true, true, true, true, true, false, true, true, true, true, true]) [(0, .pointer p411), (3, .pointer (some ⟨b412, 0, none⟩)), (4, .pointer (some ⟨b413, 0, none⟩)), (6, .pointer (some ⟨b414, 0, none⟩)), (22, .int .i64 n415)] h (outsOf (some [(4, .blk)]) [] none K).K := by kernel_rfl

def impl_Procs_step_j8_F : PT := mkF [(0, .ptr), (3, .blk), (4, .blk), (6, .blk), (22, .int .i64)] fun K => impl_Procs_step_j8 (curV [(4, .blk)] (K .normal))

theorem impl_Procs_step_j8_V : Valid Try.prog 592 (sub code26 [true, true, true, true, true, true, false, true, false, true, true, true, true, true, true, true, true, true, true, true, true, true, false, true, true, true, true, true]) impl_Procs_step_j8_F :=
  piece mixed (rows_cons (q' := [true, true, false, true, true, true]) (valid_at (p := [true, true, true, true, true, true, false, true, false, true, true, true, true, true, true, true, true, true, true, true, true, true, false, true, true, true, true, true]) impl_Procs_step_j9_V rfl) rfl rows_nil) (fun K => by intro p411 b412 b413 b414 n415 h hd; exact (impl_Procs_step_j8_eq K p411 b412 b413 b414 n415 h) ▸ hd)

theorem impl_Procs_step_j6_eq (K : Cont) (p402 : Option Addr) (b403 : Nat) (b404 : Nat) (b405 : Nat) (n406 : Int) (h : H) :
  impl_Procs_step_j6 (curV [(4, .blk)] (K .normal)) (curV [(4, .blk)] (K .ret)) p402 b403 b404 b405 n406 h = evC Try.prog 592 [([true, true, true], impl_Procs_step_j8_F), ([false, false, true, false, true, false, true, true], impl_Procs_step_l7_F)] [] (sub code26 [true, true, true, true, true, true, false, true, false, true, true, true, true, true, true, true, true, true, true, true, true, true, false, true, true]) [(0, .pointer p402), (3, .pointer (some ⟨b403, 0, none⟩)), (4, .pointer (some ⟨b404, 0, none⟩)), (5, .func (.func 44) #[] ⟨[]⟩), (6, .pointer (some ⟨b405, 0, none⟩)), (21, .int .i64 n406)] h (outsOf (some [(4, .blk)]) [] (some [(4, .blk)]) K).K := by kernel_rfl

def impl_Procs_step_j6_F : PT := mkF [(0, .ptr), (3, .blk), (4, .blk), (5, .fn 44 []), (6, .blk), (21, .int .i64)] fun K => impl_Procs_step_j6 (curV [(4, .blk)] (K .normal)) (curV [(4, .blk)] (K .ret))

theorem impl_Procs_step_j6_V : Valid Try.prog 592 (sub code26 [true, true, true, true, true, true, false, true, false, true, true, true, true, true, true, true, true, true, true, true, true, true, false, true, true]) impl_Procs_step_j6_F :=
  piece mixed (rows_cons (q' := [true, true, true]) (valid_at (p := [true, true, true, true, true, true, false, true, false, true, true, true, true, true, true, true, true, true, true, true, true, true, false, true, true]) impl_Procs_step_j8_V rfl) rfl (rows_cons (q' := [true, true, false, true, false, true, false]) (valid_at (p := [true, true, true, true, true, true, false, true, false, true, true, true, true, true, true, true, true, true, true, true, true, true, false, true, true]) impl_Procs_step_l7_V rfl) rfl rows_nil)) (fun K => by intro p402 b403 b404 b405 n406 h hd; exact (impl_Procs_step_j6_eq K p402 b403 b404 b405 n406 h) ▸ hd)

theorem impl_Procs_step_j10_eq (K : Cont) (p434 : Option Addr) (b435 : Nat) (b436 : Nat) (p437 : Option Addr) (t438 : Bool) (h : H) :
  impl_Procs_step_j10 (curV [(0, .ptr), (3, .blk), (4, .blk), (5, .fn 44 []), (23, .ptr)] (K .normal)) (curV [(4, .blk)] (K .ret)) p434 b435 b436 p437 t438 h = evC Try.prog 592 [] [] (sub code26 [true, true, true, true, true, true, false, true, false, true, true, true, true, true, true, true, true, true, true, true, true, true, true, true, false, true, false, false, true]) [(0, .pointer p434), (3, .pointer (some ⟨b435, 0, none⟩)), (4, .pointer (some ⟨b436, 0, none⟩)), (5, .func (.func 44) #[] ⟨[]⟩), (23, .pointer p437), (476, .bool t438)] h (outsOf (some [(0, .ptr), (3, .blk), (4, .blk), (5, .fn 44 []), (23, .ptr)]) [] (some [(4, .blk)]) K).K := by kernel_rfl

def impl_Procs_step_j10_F : PT := mkF [(0, .ptr), (3, .blk), (4, .blk), (5, .fn 44 []), (23, .ptr), (476, .bool)] fun K => impl_Procs_step_j10 (curV [(0, .ptr), (3, .blk), (4, .blk), (5, .fn 44 []), (23, .ptr)] (K .normal)) (curV [(4, .blk)] (K .ret))

theorem impl_Procs_step_j10_V : Valid Try.prog 592 (sub code26 [true, true, true, true, true, true, false, true, false, true, true, true, true, true, true, true, true, true, true, true, true, true, true, true, false, true, false, false, true]) impl_Procs_step_j10_F :=
  piece mixed rows_nil (fun K => by intro p434 b435 b436 p437 t438 h hd; exact (impl_Procs_step_j10_eq K p434 b435 b436 p437 t438 h) ▸ hd)

theorem impl_Procs_step_l12_eq (K : Cont) (N : Nat) (b443 : Nat) (b444 : Nat) (p445 : Option Addr) (t446 : Bool) (a447 : Option Addr) (l447 : Nat) (c447 : Nat) (n448 : Int) (n449 : Int) (h : H) :
  impl_Procs_step_l12 (curV [(3, .blk), (4, .blk), (5, .fn 44 []), (23, .ptr), (24, .bool)] (K (.exit 17))) (N + 1) b443 b444 p445 t446 a447 l447 c447 n448 n449 h = evC Try.prog 592 [] [] (sub code26 [true, true, true, true, true, true, false, true, false, true, true, true, true, true, true, true, true, true, true, true, true, true, true, true, false, true, true, true, false, true, false, false]) [(3, .pointer (some ⟨b443, 0, none⟩)), (4, .pointer (some ⟨b444, 0, none⟩)), (5, .func (.func 44) #[] ⟨[]⟩), (23, .pointer p445), (24, .bool t446), (525, .slice a447 l447 c447), (526, .int .i64 n448), (527, .int .i64 n449)] h ((outsOf none [(17, [(3, .blk), (4, .blk), (5, .fn 44 []), (23, .ptr), (24, .bool)])] none K).loop [(3, .blk), (4, .blk), (5, .fn 44 []), (23, .ptr), (24, .bool), (525, .slice), (526, .int .i64), (527, .int .i64)] (impl_Procs_step_l12 (curV [(3, .blk), (4, .blk), (5, .fn 44 []), (23, .ptr), (24, .bool)] (K (.exit 17))) N)).K := by kernel_rfl

def impl_Procs_step_l12_F : PT := mkL [(3, .blk), (4, .blk), (5, .fn 44 []), (23, .ptr), (24, .bool), (525, .slice), (526, .int .i64), (527, .int .i64)] fun K N => impl_Procs_step_l12 (curV [(3, .blk), (4, .blk), (5, .fn 44 []), (23, .ptr), (24, .bool)] (K (.exit 17))) N

theorem impl_Procs_step_l12_V : Valid Try.prog 592 (sub code26 [true, true, true, true, true, true, false, true, false, true, true, true, true, true, true, true, true, true, true, true, true, true, true, true, false, true, true, true, false, true, false]) impl_Procs_step_l12_F :=
  loop_at (code26) [true, true, true, true, true, true, false, true, false, true, true, true, true, true, true, true, true, true, true, true, true, true, true, true, false, true, true, true, false, true, false] (loop_piece (c := (sub code26 [true, true, true, true, true, true, false, true, false, true, true, true, true, true, true, true, true, true, true, true, true, true, true, true, false, true, true, true, false, true, false, false])) mixed rows_nil (fun K => by intro b443 b444 p445 t446 a447 l447 c447 n448 n449 h hd; exact hd) (fun K N => by intro b443 b444 p445 t446 a447 l447 c447 n448 n449 h hd; exact (impl_Procs_step_l12_eq K N b443 b444 p445 t446 a447 l447 c447 n448 n449 h) ▸ hd))

theorem impl_Procs_step_j11_eq (K : Cont) (p434 : Option Addr) (b435 : Nat) (b436 : Nat) (p437 : Option Addr) (h : H) :
  impl_Procs_step_j11 (curV [(4, .blk)] (K .normal)) (curV [(4, .blk)] (K .ret)) p434 b435 b436 p437 h = evC Try.prog 592 [([false, false, true, false, true], impl_Procs_step_l12_F)] [] (sub code26 [true, true, true, true, true, true, false, true, false, true, true, true, true, true, true, true, true, true, true, true, true, true, true, true, false, true, true]) [(0, .pointer p434), (3, .pointer (some ⟨b435, 0, none⟩)), (4, .pointer (some ⟨b436, 0, none⟩)), (5, .func (.func 44) #[] ⟨[]⟩), (23, .pointer p437)] h (outsOf (some [(4, .blk)]) [] (some [(4, .blk)]) K).K := by kernel_rfl

def impl_Procs_step_j11_F : PT := mkF [(0, .ptr), (3, .blk), (4, .blk), (5, .fn 44 []), (23, .ptr)] fun K => impl_Procs_step_j11 (curV [(4, .blk)] (K .normal)) (curV [(4, .blk)] (K .ret))

theorem impl_Procs_step_j11_V : Valid Try.prog 592 (sub code26 [true, true, true, true, true, true, false, true, false, true, true, true, true, true, true, true, true, true, true, true, true, true, true, true, false, true, true]) impl_Procs_step_j11_F :=
  piece mixed (rows_cons (q' := [true, false, true, false]) (valid_at (p := [true, true, true, true, true, true, false, true, false, true, true, true, true, true, true, true, true, true, true, true, true, true, true, true, false, true, true]) impl_Procs_step_l12_V rfl) rfl rows_nil) (fun K => by intro p434 b435 b436 p437 h hd; exact (impl_Procs_step_j11_eq K p434 b435 b436 p437 h) ▸ hd)

theorem impl_Procs_step_j13_eq (K : Cont) (b506 : Nat) (b507 : Nat) (b508 : Nat) (t509 : Bool) (h : H) :
  impl_Procs_step_j13 (curV [(3, .blk), (4, .blk), (6, .blk)] (K .normal)) (curV [(4, .blk)] (K .ret)) b506 b507 b508 t509 h = evC Try.prog 592 [] [] (sub code26 [true, true, true, true, true, true, false, true, false, true, true, true, true, true, true, true, true, true, true, true, true, true, true, true, true, true, false, false, false, true]) [(3, .pointer (some ⟨b506, 0, none⟩)), (4, .pointer (some ⟨b507, 0, none⟩)), (5, .func (.func 44) #[] ⟨[]⟩), (6, .pointer (some ⟨b508, 0, none⟩)), (558, .bool t509)] h (outsOf (some [(3, .blk), (4, .blk), (6, .blk)]) [] (some [(4, .blk)]) K).K := by kernel_rfl

def impl_Procs_step_j13_F : PT := mkF [(3, .blk), (4, .blk), (5, .fn 44 []), (6, .blk), (558, .bool)] fun K => impl_Procs_step_j13 (curV [(3, .blk), (4, .blk), (6, .blk)] (K .normal)) (curV [(4, .blk)] (K .ret))

theorem impl_Procs_step_j13_V : Valid Try.prog 592 (sub code26 [true, true, true, true, true, true, false, true, false, true, true, true, true, true, true, true, true, true, true, true, true, true, true, true, true, true, false, false, false, true]) impl_Procs_step_j13_F :=
  piece mixed rows_nil (fun K => by intro b506 b507 b508 t509 h hd; exact (impl_Procs_step_j13_eq K b506 b507 b508 t509 h) ▸ hd)

theorem impl_Procs_step_eq (K : Cont) (p1 : Option Addr) (n2 : Int) (n3 : Int) (n4 : Int) (n5 : Int) (h : H) :
  impl_Procs_step (curV [(4, .blk)] (K .ret)) p1 n2 n3 n4 n5 h = evC Try.prog 592 [([false, false, false, true, true, false, true, false, true, false, true, true, true, true, true, true], impl_Procs_step_l0_F), ([true, false, false, false, true, true, true, false, true, false, true, true, true, true, true, true], impl_Procs_step_j1_F), ([false, false, true, false, true, false, true, true, true, true, true, false, true, false, true, true, true, true, true, true], impl_Procs_step_l2_F), ([false, false, true, false, true, true, true, false, true, true, true, true, true, true, true, false, true, false, true, true, true, true, true, true], impl_Procs_step_l3_F), ([false, false, true, false, true, false, true, true, true, true, true, false, true, true, true, true, true, true, true, false, true, false, true, true, true, true, true, true], impl_Procs_step_l5_F), ([true, true, false, true, true, true, true, true, true, true, true, true, true, true, true, true, false, true, false, true, true, true, true, true, true], impl_Procs_step_j6_F), ([true, true, false, true, true, true, true, true, true, true, true, true, true, true, true, true, true, true, false, true, false, true, true, true, true, true, true], impl_Procs_step_j11_F), ([true, false, false, true, false, true, true, true, true, true, true, true, true, true, true, true, true, true, true, true, false, true, false, true, true, true, true, true, true], impl_Procs_step_j10_F), ([true, false, false, false, true, true, true, true, true, true, true, true, true, true, true, true, true, true, true, true, true, false, true, false, true, true, true, true, true, true], impl_Procs_step_j13_F)] [] code26 [(0, .pointer p1), (1, .agg ⟨[.int .i64 n2, .int .i64 n3, .int .i64 n4, .int .i64 n5]⟩)] h (outsOf none [] (some [(4, .blk)]) K).K := by kernel_rfl

def impl_Procs_step_F : PT := mkF [(0, .ptr), (1, .agg [.int .i64, .int .i64, .int .i64, .int .i64])] fun K => impl_Procs_step (curV [(4, .blk)] (K .ret))

theorem impl_Procs_step_V : Valid Try.prog 592 code26 impl_Procs_step_F :=
  piece mixed (rows_cons (q' := [true, true, true, true, true, true, false, true, false, true, false, true, true, false, false]) impl_Procs_step_l0_V rfl (rows_cons (q' := [true, true, true, true, true, true, false, true, false, true, true, true, false, false, false, true]) impl_Procs_step_j1_V rfl (rows_cons (q' := [true, true, true, true, true, true, false, true, false, true, true, true, true, true, false, true, false, true, false]) impl_Procs_step_l2_V rfl (rows_cons (q' := [true, true, true, true, true, true, false, true, false, true, true, true, true, true, true, true, false, true, true, true, false, true, false]) impl_Procs_step_l3_V rfl (rows_cons (q' := [true, true, true, true, true, true, false, true, false, true, true, true, true, true, true, true, false, true, true, true, true, true, false, true, false, true, false]) impl_Procs_step_l5_V rfl (rows_cons (q' := [true, true, true, true, true, true, false, true, false, true, true, true, true, true, true, true, true, true, true, true, true, true, false, true, true]) impl_Procs_step_j6_V rfl (rows_cons (q' := [true, true, true, true, true, true, false, true, false, true, true, true, true, true, true, true, true, true, true, true, true, true, true, true, false, true, true]) impl_Procs_step_j11_V rfl (rows_cons (q' := [true, true, true, true, true, true, false, true, false, true, true, true, true, true, true, true, true, true, true, true, true, true, true, true, false, true, false, false, true]) impl_Procs_step_j10_V rfl (rows_cons (q' := [true, true, true, true, true, true, false, true, false, true, true, true, true, true, true, true, true, true, true, true, true, true, true, true, true, true, false, false, false, true]) impl_Procs_step_j13_V rfl rows_nil))))))))) (fun K => by intro p1 n2 n3 n4 n5 h hd; exact (impl_Procs_step_eq K p1 n2 n3 n4 n5 h) ▸ hd)

theorem impl_Procs_step_c0 (p1 : Option Addr) (n2 : Int) (n3 : Int) (n4 : Int) (n5 : Int) (h : H) (K : Value → H → Prop) :
  impl_Procs_step (fun b100001 h =>
  ldRow h b100001 0 0 [.int .i64, .int .i64, .int .i64] fun n100002 n100003 n100004 =>
  K (.agg ⟨[.int .i64 n100002, .int .i64 n100003, .int .i64 n100004]⟩) h) p1 n2 n3 n4 n5 h = callF Try.prog Try.f26.results.toList impl_Procs_step_F [.pointer p1, .agg ⟨[.int .i64 n2, .int .i64 n3, .int .i64 n4, .int .i64 n5]⟩] h K := by kernel_rfl

theorem impl_Procs_step_call {p1 : Option Addr} {n2 : Int} {n3 : Int} {n4 : Int} {n5 : Int} {h : H} {K : Value → H → Prop} (hs : impl_Procs_step (fun b100001 h =>
  ldRow h b100001 0 0 [.int .i64, .int .i64, .int .i64] fun n100002 n100003 n100004 =>
  K (.agg ⟨[.int .i64 n100002, .int .i64 n100003, .int .i64 n100004]⟩) h) p1 n2 n3 n4 n5 h) : callK Try.prog 26 ⟨[.pointer p1, .agg ⟨[.int .i64 n2, .int .i64 n3, .int .i64 n4, .int .i64 n5]⟩]⟩ h K :=
  func_calls Try.func26 body26 impl_Procs_step_V (Nat.le_of_ble_eq_true (by kernel_rfl)) (impl_Procs_step_c0 p1 n2 n3 n4 n5 h K ▸ hs)

def impl_Procs_step_M_l0 (kx2 : Option Addr → Nat → Int → Int → Int → H → Prop) : Nat → Option Addr → Nat → Int → Int → Int → H → Prop
 | 0, _, _, _, _, _, _ => False
 | N + 1, p42, b43, n44, n45, n47, h =>
  nz p42 fun b49 o50 =>
  ldL h b49 o50 fun a51 l51 c51 =>
  ifB (decide ((n44 : Int) < (l51 : Nat)))
  (nz p42 fun b52 o53 =>
  ldL h b52 o53 fun a54 l54 c54 =>
  req (0 ≤ (n44 : Int) ∧ (n44 : Int) < (l54 : Nat))
  (nz a54 fun b55 o56 =>
  ldI .i64 h b55 (o56 + n44.toNat * 10) fun n57 =>
  ifB ((n57 : Int) == (IntKind.i64.wrap (n44 + 1)))
  (impl_Procs_step_M_l0 kx2 N p42 b43 (IntKind.i64.wrap (n44 + 1)) n45 n47 h)
  (kx2 p42 b43 n44 n45 n47 h)))
  (kx2 p42 b43 n44 n45 n47 h)

def impl_Procs_step_M_j1 (kn : Option Addr → Nat → Int → Int → Int → H → Prop) (kr : Int → Int → Int → H → Prop) (p1095 : Option Addr) (b1096 : Nat) (t1097 : Bool) (n1098 : Int) (n1099 : Int) (n1100 : Int) (h : H) : Prop :=
  ifB t1097
  (callD Try.prog 44 ⟨[.int .i64 1]⟩ h fun v1102 h =>
  elF False (.agg [.int .i64, .int .i64, .int .i64]) v1102 fun n1103 n1104 n1105 =>
  kr n1103 n1104 n1105 h)
  (ldI .i64 h b1096 1 fun n1106 =>
  ifB ((n1106 : Int) == 1)
  (callD Try.prog 44 ⟨[.int .i64 2]⟩ h fun v1107 h =>
  elF False (.agg [.int .i64, .int .i64, .int .i64]) v1107 fun n1108 n1109 n1110 =>
  kr n1108 n1109 n1110 h)
  (kn p1095 b1096 n1098 n1099 n1100 h))

def impl_Procs_step_M_l2 (kx5 : Bool → H → Prop) (kr : Int → Int → Int → H → Prop) : Nat → Option Addr → Nat → Nat → Nat → Bool → Option Addr → Nat → Int → Int → H → Prop
 | 0, _, _, _, _, _, _, _, _, _, _ => False
 | N + 1, p2142, b2143, b2144, b2145, t2146, a2147, l2147, n2148, n2149, h =>
  ifB (decide ((n2149 : Int) < n2148))
  (req (0 ≤ (n2149 : Int) ∧ (n2149 : Int) < (l2147 : Nat))
  (nz a2147 fun b2154 o2155 =>
  ldRow h b2154 (o2155 + n2149.toNat * 10) 0 [.int .i64, .int .i64, .int .i64, .int .i64, .int .i64, .int .i64, .int .i64, .int .i64, .int .i64, .int .i64] fun n2156 n2157 n2158 n2159 n2160 n2161 n2162 n2163 n2164 n2165 =>
  ldI .i64 h b2143 1 fun n2166 =>
  ifB ((n2157 : Int) != n2166)
  (impl_Procs_step_M_l2 kx5 kr N p2142 b2143 b2144 b2145 t2146 a2147 l2147 n2148 (IntKind.i64.wrap (n2149 + 1)) h)
  (callD Try.prog 45 ⟨[.agg ⟨[.int .i64 n2156, .int .i64 n2157, .int .i64 n2158, .int .i64 n2159, .int .i64 n2160, .int .i64 n2161, .int .i64 n2162, .int .i64 n2163, .int .i64 n2164, .int .i64 n2165]⟩, .pointer (some ⟨b2144, 0, none⟩), .pointer (some ⟨b2145, 0, none⟩)]⟩ h fun v2167 h =>
  asB v2167 fun t2168 =>
  ifB (!t2168)
  (impl_Procs_step_M_l2 kx5 kr N p2142 b2143 b2144 b2145 t2146 a2147 l2147 n2148 (IntKind.i64.wrap (n2149 + 1)) h)
  (ifB ((n2160 : Int) == 3)
  (callD Try.prog 47 ⟨[.pointer p2142, .int .i64 n2156]⟩ h fun v2169 h =>
  elF False (.tuple []) v2169
  (kr 0 n2156 n2161 h))
  (impl_Procs_step_M_l2 kx5 kr N p2142 b2143 b2144 b2145 true a2147 l2147 n2148 (IntKind.i64.wrap (n2149 + 1)) h)))))
  (kx5 t2146 h)

def impl_Procs_step_M_j4 (kn : Option Addr → Nat → Nat → Nat → Nat → Bool → Option Addr → Nat → Nat → Option Addr → Nat → Int → Int → Int → Int → H → Prop) (p3228 : Option Addr) (b3229 : Nat) (b3230 : Nat) (b3231 : Nat) (b3232 : Nat) (a3233 : Option Addr) (l3233 : Nat) (c3233 : Nat) (a3234 : Option Addr) (l3234 : Nat) (n3235 : Int) (n3236 : Int) (n3237 : Int) (n3239 : Int) (n3241 : Int) (n3244 : Int) (h : H) : Prop :=
  ldP h b3230 0 fun p3252 =>
  nz p3252 fun b3253 o3254 =>
  ldI .i64 h b3253 (o3254 + 3) fun n3255 =>
  ifB ((n3255 : Int) == 0)
  (newD h [.int .i64 n3241] 2 fun b3256 h =>
  appendD Try.prog 2 h a3233 l3233 c3233 (.slice (some ⟨b3256, 0, none⟩) 1 1) fun a3257 l3257 c3257 h =>
  kn p3228 b3229 b3230 b3231 b3232 true a3257 l3257 c3257 a3234 l3234 n3235 n3236 n3237 n3239 h)
  (ldP h b3230 0 fun p3258 =>
  nz p3258 fun b3259 o3260 =>
  ldI .i64 h b3259 (o3260 + 3) fun n3261 =>
  ifB ((n3261 : Int) == n3244)
  (newD h [.int .i64 n3241] 2 fun b3262 h =>
  appendD Try.prog 2 h a3233 l3233 c3233 (.slice (some ⟨b3262, 0, none⟩) 1 1) fun a3263 l3263 c3263 h =>
  kn p3228 b3229 b3230 b3231 b3232 true a3263 l3263 c3263 a3234 l3234 n3235 n3236 n3237 n3239 h)
  (kn p3228 b3229 b3230 b3231 b3232 true a3233 l3233 c3233 a3234 l3234 n3235 n3236 n3237 n3239 h))

def impl_Procs_step_M_l3 (kx7 : Option Addr → Nat → Bool → Option Addr → Nat → Int → Int → H → Prop) : Nat → Option Addr → Nat → Nat → Nat → Nat → Bool → Option Addr → Nat → Nat → Option Addr → Nat → Int → Int → Int → Int → H → Prop
 | 0, _, _, _, _, _, _, _, _, _, _, _, _, _, _, _, _ => False
 | N + 1, p3202, b3203, b3204, b3205, b3206, t3207, a3208, l3208, c3208, a3209, l3209, n3210, n3211, n3212, n3214, h =>
  ifB (decide ((n3211 : Int) < n3210))
  (req (0 ≤ (n3211 : Int) ∧ (n3211 : Int) < (l3209 : Nat))
  (nz a3209 fun b3216 o3217 =>
  ldRow h b3216 (o3217 + n3211.toNat * 10) 0 [.int .i64, .int .i64, .int .i64, .int .i64, .int .i64, .int .i64, .int .i64, .int .i64, .int .i64, .int .i64] fun n3218 n3219 n3220 n3221 n3222 n3223 n3224 n3225 n3226 n3227 =>
  callD Try.prog 45 ⟨[.agg ⟨[.int .i64 n3218, .int .i64 n3219, .int .i64 n3220, .int .i64 n3221, .int .i64 n3222, .int .i64 n3223, .int .i64 n3224, .int .i64 n3225, .int .i64 n3226, .int .i64 n3227]⟩, .pointer (some ⟨b3205, 0, none⟩), .pointer (some ⟨b3206, 0, none⟩)]⟩ h fun v3228 h =>
  asB v3228 fun t3229 =>
  ifB (!t3229)
  (impl_Procs_step_M_l3 kx7 N p3202 b3203 b3204 b3205 b3206 t3207 a3208 l3208 c3208 a3209 l3209 n3210 (IntKind.i64.wrap (n3211 + 1)) n3212 n3214 h)
  (ldI .i64 h b3203 2 fun n3230 =>
  ifB ((n3230 : Int) == (-1))
  (ifB ((n3218 : Int) == 1)
  (impl_Procs_step_M_l3 kx7 N p3202 b3203 b3204 b3205 b3206 t3207 a3208 l3208 c3208 a3209 l3209 n3210 (IntKind.i64.wrap (n3211 + 1)) n3212 n3214 h)
  (ldI .i64 h b3203 1 fun n3231 =>
  ifB ((n3218 : Int) == n3231)
  (impl_Procs_step_M_l3 kx7 N p3202 b3203 b3204 b3205 b3206 t3207 a3208 l3208 c3208 a3209 l3209 n3210 (IntKind.i64.wrap (n3211 + 1)) n3212 n3214 h)
  (impl_Procs_step_M_j4 (fun p3232 b3233 b3234 b3235 b3236 t3237 a3238 l3238 c3238 a3239 l3239 n3240 n3241 n3242 n3244 h =>
  impl_Procs_step_M_l3 kx7 N p3232 b3233 b3234 b3235 b3236 t3237 a3238 l3238 c3238 a3239 l3239 n3240 (IntKind.i64.wrap (n3241 + 1)) n3242 n3244 h) p3202 b3203 b3204 b3205 b3206 a3208 l3208 c3208 a3209 l3209 n3210 n3211 n3212 n3214 n3218 n3221 h)))
  (impl_Procs_step_M_j4 (fun p3246 b3247 b3248 b3249 b3250 t3251 a3252 l3252 c3252 a3253 l3253 n3254 n3255 n3256 n3258 h =>
  impl_Procs_step_M_l3 kx7 N p3246 b3247 b3248 b3249 b3250 t3251 a3252 l3252 c3252 a3253 l3253 n3254 (IntKind.i64.wrap (n3255 + 1)) n3256 n3258 h) p3202 b3203 b3204 b3205 b3206 a3208 l3208 c3208 a3209 l3209 n3210 n3211 n3212 n3214 n3218 n3221 h))))
  (kx7 p3202 b3203 t3207 a3208 l3208 n3212 n3214 h)

def impl_Procs_step_M_l5 (kx10 : Nat → Int → Int → H → Prop) : Nat → Option Addr → Nat → Nat → Option Addr → Nat → Int → Int → Int → Int → H → Prop
 | 0, _, _, _, _, _, _, _, _, _, _ => False
 | N + 1, p4278, b4279, l4280, a4281, l4281, n4282, n4283, n4284, n4286, h =>
  ifB (decide ((n4283 : Int) < n4282))
  (req (0 ≤ (n4283 : Int) ∧ (n4283 : Int) < (l4281 : Nat))
  (nz a4281 fun b4288 o4289 =>
  ldI .i64 h b4288 (o4289 + n4283.toNat * 1) fun n4290 =>
  ldI .i64 h b4279 3 fun n4291 =>
  callD Try.prog 48 ⟨[.pointer p4278, .int .i64 n4290, .int .i64 n4291]⟩ h fun v4292 h =>
  elF False (.tuple []) v4292
  (impl_Procs_step_M_l5 kx10 N p4278 b4279 l4280 a4281 l4281 n4282 (IntKind.i64.wrap (n4283 + 1)) n4284 n4286 h)))
  (kx10 l4280 n4284 n4286 h)

def impl_Procs_step_M_l7 (kx13 : Option Addr → Nat → Nat → Int → Int → H → Prop) : Nat → Option Addr → Nat → Nat → Int → Int → Int → H → Prop
 | 0, _, _, _, _, _, _, _ => False
 | N + 1, p5395, b5396, b5397, n5398, n5399, n5400, h =>
  req (0 ≤ (n5399 : Int))
  (ifB ((bAnd .i64 (sShr .i64 n5398 n5399) 1 : Int) == 0)
  (impl_Procs_step_M_l7 kx13 N p5395 b5396 b5397 n5398 (IntKind.i64.wrap (n5399 + 1)) n5400 h)
  (kx13 p5395 b5396 b5397 n5399 n5400 h))

def impl_Procs_step_M_j9 (kn : Int → Int → Int → H → Prop) (p5419 : Option Addr) (b5420 : Nat) (b5421 : Nat) (n5422 : Int) (t5423 : Bool) (n5424 : Int) (n5425 : Int) (n5426 : Int) (h : H) : Prop :=
  ifB t5423
  (kn n5424 n5425 n5426 h)
  (ifB ((n5422 : Int) == 12)
  (ldP h b5421 0 fun p5428 =>
  nz p5428 fun b5429 o5430 =>
  st h b5429 (o5430 + 4) (.int .i64 2) fun h =>
  kn n5424 n5425 n5426 h)
  (ldI .i64 h b5420 1 fun n5431 =>
  ifB ((n5431 : Int) != 1)
  (ldI .i64 h b5420 1 fun n5432 =>
  callD Try.prog 46 ⟨[.pointer p5419, .int .i64 n5432, .int .i64 (IntKind.i64.wrap (128 + n5422))]⟩ h fun v5433 h =>
  elF False (.tuple []) v5433
  (kn n5424 n5425 n5426 h))
  (kn n5424 n5425 n5426 h)))

def impl_Procs_step_M_j8 (kn : Int → Int → Int → H → Prop) (p5395 : Option Addr) (b5396 : Nat) (b5397 : Nat) (n5398 : Int) (n5399 : Int) (h : H) : Prop :=
  ldP h b5397 0 fun p5403 =>
  nz p5403 fun b5404 o5405 =>
  ldI .i64 h b5404 (o5405 + 6) fun n5406 =>
  req (0 ≤ (n5398 : Int))
  (nz p5403 fun b5407 o5408 =>
  st h b5407 (o5408 + 6) (.int .i64 (bAndNot .i64 n5406 (sShl .i64 1 n5398))) fun h =>
  ldP h b5397 0 fun p5409 =>
  nz p5409 fun b5410 o5411 =>
  ldI .i64 h b5410 (o5411 + 9) fun n5412 =>
  req (0 ≤ (n5398 : Int))
  (ifB ((bAnd .i64 (sShr .i64 n5412 n5398) 1 : Int) == 1)
  (ldP h b5397 0 fun p5413 =>
  nz p5413 fun b5414 o5415 =>
  ldI .i64 h b5414 (o5415 + 7) fun n5416 =>
  req (0 ≤ (n5398 : Int))
  (nz p5413 fun b5417 o5418 =>
  st h b5417 (o5418 + 7) (.int .i64 (bOr .i64 n5416 (sShl .i64 1 n5398))) fun h =>
  kn n5399 n5398 2 h))
  (ifB ((n5398 : Int) == 14)
  (impl_Procs_step_M_j9 kn p5395 b5396 b5397 n5398 true n5399 n5398 1 h)
  (impl_Procs_step_M_j9 kn p5395 b5396 b5397 n5398 ((n5398 : Int) == 13) n5399 n5398 1 h))))

def impl_Procs_step_M_j6 (kn : Int → Int → Int → H → Prop) (kr : Int → Int → Int → H → Prop) (p5383 : Option Addr) (b5384 : Nat) (b5385 : Nat) (n5386 : Int) (n5387 : Int) (h : H) : Prop :=
  ifB ((n5386 : Int) == 0)
  (callD Try.prog 44 ⟨[.int .i64 9]⟩ h fun v5391 h =>
  elF False (.agg [.int .i64, .int .i64, .int .i64]) v5391 fun n5392 n5393 n5394 =>
  kr n5392 n5393 n5394 h)
  (ifB ((bAnd .i64 (sShr .i64 n5386 9) 1 : Int) == 0)
  (∃ M5403, impl_Procs_step_M_l7 (fun p5395 b5396 b5397 n5398 n5399 h =>
  impl_Procs_step_M_j8 kn p5395 b5396 b5397 n5398 n5399 h) M5403 p5383 b5384 b5385 n5386 1 n5387 h)
  (impl_Procs_step_M_j8 kn p5383 b5384 b5385 9 n5387 h))

def impl_Procs_step_M_j10 (kn : Option Addr → Nat → Option Addr → Int → Int → Int → H → Prop) (kr : Int → Int → Int → H → Prop) (p6434 : Option Addr) (b6435 : Nat) (p6436 : Option Addr) (t6437 : Bool) (n6438 : Int) (n6439 : Int) (n6440 : Int) (h : H) : Prop :=
  ifB t6437
  (callD Try.prog 44 ⟨[.int .i64 3]⟩ h fun v6442 h =>
  elF False (.agg [.int .i64, .int .i64, .int .i64]) v6442 fun n6443 n6444 n6445 =>
  kr n6443 n6444 n6445 h)
  (ldI .i64 h b6435 3 fun n6446 =>
  ifB (decide ((n6446 : Int) < 1))
  (callD Try.prog 44 ⟨[.int .i64 1]⟩ h fun v6447 h =>
  elF False (.agg [.int .i64, .int .i64, .int .i64]) v6447 fun n6448 n6449 n6450 =>
  kr n6448 n6449 n6450 h)
  (ldI .i64 h b6435 3 fun n6451 =>
  ifB (decide ((n6451 : Int) > 32))
  (callD Try.prog 44 ⟨[.int .i64 1]⟩ h fun v6452 h =>
  elF False (.agg [.int .i64, .int .i64, .int .i64]) v6452 fun n6453 n6454 n6455 =>
  kr n6453 n6454 n6455 h)
  (kn p6434 b6435 p6436 n6438 n6439 n6440 h)))

def impl_Procs_step_M_l12 (kx17 : Nat → Option Addr → Bool → Int → Int → Int → H → Prop) : Nat → Nat → Option Addr → Bool → Option Addr → Nat → Int → Int → Int → Int → Int → H → Prop
 | 0, _, _, _, _, _, _, _, _, _, _, _ => False
 | N + 1, b6446, p6447, t6448, a6449, l6449, n6450, n6451, n6452, n6453, n6454, h =>
  ifB (decide ((n6451 : Int) < n6450))
  (req (0 ≤ (n6451 : Int) ∧ (n6451 : Int) < (l6449 : Nat))
  (nz a6449 fun b6456 o6457 =>
  ldRow h b6456 (o6457 + n6451.toNat * 10) 0 [.int .i64, .int .i64, .int .i64, .int .i64, .int .i64, .int .i64, .int .i64, .int .i64, .int .i64, .int .i64] fun n6458 n6459 n6460 n6461 n6462 n6463 n6464 n6465 n6466 n6467 =>
  ifB t6448
  (impl_Procs_step_M_l12 kx17 N b6446 p6447 true a6449 l6449 n6450 (IntKind.i64.wrap (n6451 + 1)) n6452 n6453 n6454 h)
  (ldI .i64 h b6446 2 fun n6468 =>
  ifB ((n6458 : Int) != n6468)
  (ldI .i64 h b6446 3 fun n6469 =>
  impl_Procs_step_M_l12 kx17 N b6446 p6447 ((n6460 : Int) == n6469) a6449 l6449 n6450 (IntKind.i64.wrap (n6451 + 1)) n6452 n6453 n6454 h)
  (impl_Procs_step_M_l12 kx17 N b6446 p6447 false a6449 l6449 n6450 (IntKind.i64.wrap (n6451 + 1)) n6452 n6453 n6454 h))))
  (kx17 b6446 p6447 t6448 n6452 n6453 n6454 h)

def impl_Procs_step_M_j11 (kn : Int → Int → Int → H → Prop) (kr : Int → Int → Int → H → Prop) (p6434 : Option Addr) (b6435 : Nat) (p6436 : Option Addr) (n6437 : Int) (n6438 : Int) (n6439 : Int) (h : H) : Prop :=
  ldI .i64 h b6435 3 fun n6441 =>
  ldI .i64 h b6435 2 fun n6442 =>
  nz p6434 fun b6443 o6444 =>
  ldL h b6443 o6444 fun a6445 l6445 c6445 =>
  ∃ M6460, impl_Procs_step_M_l12 (fun b6446 p6447 t6448 n6449 n6450 n6451 h =>
  ifB (!t6448)
  (callD Try.prog 44 ⟨[.int .i64 2]⟩ h fun v6453 h =>
  elF False (.agg [.int .i64, .int .i64, .int .i64]) v6453 fun n6454 n6455 n6456 =>
  kr n6454 n6455 n6456 h)
  (ldI .i64 h b6446 3 fun n6457 =>
  nz p6447 fun b6458 o6459 =>
  st h b6458 (o6459 + 2) (.int .i64 n6457) fun h =>
  kn n6449 n6450 n6451 h)) M6460 b6435 p6436 ((n6441 : Int) == n6442) a6445 l6445 (l6445 : Nat) 0 n6437 n6438 n6439 h

def impl_Procs_step_M_j13 (kn : Nat → Nat → Int → Int → Int → H → Prop) (kr : Int → Int → Int → H → Prop) (b7547 : Nat) (b7548 : Nat) (t7549 : Bool) (n7550 : Int) (n7551 : Int) (n7552 : Int) (h : H) : Prop :=
  ifB t7549
  (callD Try.prog 44 ⟨[.int .i64 1]⟩ h fun v7554 h =>
  elF False (.agg [.int .i64, .int .i64, .int .i64]) v7554 fun n7555 n7556 n7557 =>
  kr n7555 n7556 n7557 h)
  (ldP h b7548 0 fun p7558 =>
  nz p7558 fun b7559 o7560 =>
  ldI .i64 h b7559 (o7560 + 3) fun n7561 =>
  ifB ((n7561 : Int) != 0)
  (ldP h b7548 0 fun p7562 =>
  nz p7562 fun b7563 o7564 =>
  ldI .i64 h b7563 (o7564 + 3) fun n7565 =>
  ldI .i64 h b7547 3 fun n7566 =>
  ifB ((n7565 : Int) != n7566)
  (callD Try.prog 44 ⟨[.int .i64 2]⟩ h fun v7567 h =>
  elF False (.agg [.int .i64, .int .i64, .int .i64]) v7567 fun n7568 n7569 n7570 =>
  kr n7568 n7569 n7570 h)
  (kn b7547 b7548 n7550 n7551 n7552 h))
  (kn b7547 b7548 n7550 n7551 n7552 h))

def impl_Procs_step_M (kr : Int → Int → Int → H → Prop) (p1 : Option Addr) (n2 : Int) (n3 : Int) (n4 : Int) (n5 : Int) (h : H) : Prop :=
  newD h [.int .i64 n2, .int .i64 n3, .int .i64 n4, .int .i64 n5] 30 fun b6 h =>
  ldI .i64 h b6 0 fun n7 =>
  ifB (decide ((n7 : Int) < 1))
  (callD Try.prog 44 ⟨[.int .i64 1]⟩ h fun v8 h =>
  elF False (.agg [.int .i64, .int .i64, .int .i64]) v8 fun n9 n10 n11 =>
  kr n9 n10 n11 h)
  (ldI .i64 h b6 0 fun n12 =>
  ifB (decide ((n12 : Int) > 9))
  (callD Try.prog 44 ⟨[.int .i64 1]⟩ h fun v13 h =>
  elF False (.agg [.int .i64, .int .i64, .int .i64]) v13 fun n14 n15 n16 =>
  kr n14 n15 n16 h)
  (ldI .i64 h b6 1 fun n17 =>
  callD Try.prog 19 ⟨[.pointer p1, .int .i64 n17]⟩ h fun v18 h =>
  asP v18 fun p19 =>
  newD h [.pointer none] 50 fun b20 h =>
  st h b20 0 (.pointer p19) fun h =>
  ldP h b20 0 fun p21 =>
  ifB p21.isNone
  (callD Try.prog 44 ⟨[.int .i64 3]⟩ h fun v22 h =>
  elF False (.agg [.int .i64, .int .i64, .int .i64]) v22 fun n23 n24 n25 =>
  kr n23 n24 n25 h)
  (ldP h b20 0 fun p26 =>
  nz p26 fun b27 o28 =>
  ldI .i64 h b27 (o28 + 4) fun n29 =>
  ifB ((n29 : Int) == 3)
  (callD Try.prog 44 ⟨[.int .i64 21]⟩ h fun v30 h =>
  elF False (.agg [.int .i64, .int .i64, .int .i64]) v30 fun n31 n32 n33 =>
  kr n31 n32 n33 h)
  (ldI .i64 h b6 0 fun n34 =>
  ifB ((n34 : Int) == 1)
  (nz p1 fun b35 o36 =>
  ldL h b35 o36 fun a37 l37 c37 =>
  ifB (((l37 : Nat) : Int) == 32)
  (callD Try.prog 44 ⟨[.int .i64 18]⟩ h fun v38 h =>
  elF False (.agg [.int .i64, .int .i64, .int .i64]) v38 fun n39 n40 n41 =>
  kr n39 n40 n41 h)
  (∃ M78, impl_Procs_step_M_l0 (fun p42 b43 n44 n45 n47 h =>
  ldP h b43 0 fun p49 =>
  nz p49 fun b50 o51 =>
  ldRow h b50 o51 0 [.int .i64, .int .i64, .int .i64, .int .i64, .int .i64, .int .i64, .int .i64, .int .i64, .int .i64, .int .i64] fun n52 n53 n54 n55 n56 n57 n58 n59 n60 n61 =>
  ldP h b43 0 fun p62 =>
  nz p62 fun b63 o64 =>
  ldI .i64 h b63 o64 fun n65 =>
  cell h b63 o64 = some (.int .i64 n65) ∧ (cell h b43 0 = some (.pointer p62) ∧ (nz p42 fun b66 o67 =>
  ldL h b66 o67 fun a68 l68 c68 =>
  req (0 ≤ (n44 : Int) ∧ (n44 : Int) ≤ (c68 : Nat))
  (req (plainA a68 = true)
  (appendD Try.prog 38 h none 0 0 (.slice (slB a68 0 c68 10) (n44.toNat - 0) (c68 - 0)) fun a69 l69 c69 h =>
  nz p42 fun b70 o71 =>
  ldL h b70 o71 fun a72 l72 c72 =>
  req (0 ≤ (n44 : Int) ∧ (n44 : Int) ≤ (l72 : Nat))
  (req (plainA a72 = true)
  (newD h [.int .i64 (IntKind.i64.wrap (n44 + 1)), .int .i64 n65, .int .i64 n54, .int .i64 n55, .int .i64 1, .int .i64 n57, .int .i64 0, .int .i64 n59, .int .i64 n60, .int .i64 n61] 38 fun b73 h =>
  cell h b70 o71 = some (.slice a72 l72 c72) ∧ (appendD Try.prog 38 h a69 l69 c69 (.slice (some ⟨b73, 0, none⟩) 1 1) fun a74 l74 c74 h =>
  cell h b70 o71 = some (.slice a72 l72 c72) ∧ (appendD Try.prog 38 h a74 l74 c74 (.slice (slB a72 n44.toNat c72 10) (l72 - n44.toNat) (c72 - n44.toNat)) fun a75 l75 c75 h =>
  nz p42 fun b76 o77 =>
  st h b76 o77 (.slice a75 l75 c75) fun h =>
  kr n45 (IntKind.i64.wrap (n44 + 1)) n47 h))))))))) M78 p1 b20 0 0 0 h))
  (ifB ((n34 : Int) == 2)
  (ldI .i64 h b6 3 fun n79 =>
  ifB (decide ((n79 : Int) < 0))
  (impl_Procs_step_M_j1 (fun p80 b81 n82 n83 n84 h =>
  ldI .i64 h b81 1 fun n86 =>
  ldI .i64 h b81 3 fun n87 =>
  callD Try.prog 46 ⟨[.pointer p80, .int .i64 n86, .int .i64 n87]⟩ h fun v88 h =>
  elF False (.tuple []) v88
  (kr n82 n83 n84 h)) kr p1 b6 true 0 0 0 h)
  (ldI .i64 h b6 3 fun n89 =>
  impl_Procs_step_M_j1 (fun p90 b91 n92 n93 n94 h =>
  ldI .i64 h b91 1 fun n96 =>
  ldI .i64 h b91 3 fun n97 =>
  callD Try.prog 46 ⟨[.pointer p90, .int .i64 n96, .int .i64 n97]⟩ h fun v98 h =>
  elF False (.tuple []) v98
  (kr n92 n93 n94 h)) kr p1 b6 (decide ((n89 : Int) > 255)) 0 0 0 h))
  (ifB ((n34 : Int) == 3)
  (nz p1 fun b99 o100 =>
  ldL h b99 o100 fun a101 l101 c101 =>
  ∃ M115, impl_Procs_step_M_l2 (fun t102 h =>
  ifB (!t102)
  (callD Try.prog 44 ⟨[.int .i64 11]⟩ h fun v107 h =>
  elF False (.agg [.int .i64, .int .i64, .int .i64]) v107 fun n108 n109 n110 =>
  kr n108 n109 n110 h)
  (callD Try.prog 44 ⟨[.int .i64 9]⟩ h fun v111 h =>
  elF False (.agg [.int .i64, .int .i64, .int .i64]) v111 fun n112 n113 n114 =>
  kr n112 n113 n114 h)) kr M115 p1 b6 b6 b20 false a101 l101 (l101 : Nat) 0 h)
  (ifB ((n34 : Int) == 4)
  (ldI .i64 h b6 3 fun n116 =>
  ifB (decide ((n116 : Int) < 0))
  (callD Try.prog 44 ⟨[.int .i64 1]⟩ h fun v117 h =>
  elF False (.agg [.int .i64, .int .i64, .int .i64]) v117 fun n118 n119 n120 =>
  kr n118 n119 n120 h)
  (ldI .i64 h b6 3 fun n121 =>
  ifB (decide ((n121 : Int) > 15))
  (callD Try.prog 44 ⟨[.int .i64 1]⟩ h fun v122 h =>
  elF False (.agg [.int .i64, .int .i64, .int .i64]) v122 fun n123 n124 n125 =>
  kr n123 n124 n125 h)
  (nz p1 fun b126 o127 =>
  ldL h b126 o127 fun a128 l128 c128 =>
  ∃ M152, impl_Procs_step_M_l3 (fun p129 b130 t131 a132 l132 n133 n135 h =>
  ifB (!t131)
  (callD Try.prog 44 ⟨[.int .i64 3]⟩ h fun v137 h =>
  elF False (.agg [.int .i64, .int .i64, .int .i64]) v137 fun n138 n139 n140 =>
  kr n138 n139 n140 h)
  (ifB (((l132 : Nat) : Int) == 0)
  (callD Try.prog 44 ⟨[.int .i64 2]⟩ h fun v141 h =>
  elF False (.agg [.int .i64, .int .i64, .int .i64]) v141 fun n142 n143 n144 =>
  kr n142 n143 n144 h)
  (ldI .i64 h b130 3 fun n145 =>
  ifB (decide ((n145 : Int) > 0))
  (∃ M151, impl_Procs_step_M_l5 (fun l146 n147 n149 h =>
  kr n147 (l146 : Nat) n149 h) M151 p129 b130 l132 a132 l132 (l132 : Nat) 0 n133 n135 h)
  (kr n133 (l132 : Nat) n135 h)))) M152 p1 b6 b20 b6 b20 false none 0 0 a128 l128 (l128 : Nat) 0 0 0 h)))
  (ifB ((n34 : Int) == 5)
  (ldI .i64 h b6 2 fun n153 =>
  ifB ((bAndNot .i64 n153 65534 : Int) != 0)
  (callD Try.prog 44 ⟨[.int .i64 1]⟩ h fun v154 h =>
  elF False (.agg [.int .i64, .int .i64, .int .i64]) v154 fun n155 n156 n157 =>
  kr n155 n156 n157 h)
  (ldP h b20 0 fun p158 =>
  nz p158 fun b159 o160 =>
  ldI .i64 h b159 (o160 + 7) fun n161 =>
  ldP h b20 0 fun p162 =>
  ldI .i64 h b6 2 fun n163 =>
  nz p162 fun b164 o165 =>
  st h b164 (o165 + 7) (.int .i64 (bAndNot .i64 n163 4608)) fun h =>
  kr 0 n161 0 h))
  (ifB ((n34 : Int) == 6)
  (ldI .i64 h b6 2 fun n166 =>
  ifB (decide ((n166 : Int) < 1))
  (callD Try.prog 44 ⟨[.int .i64 1]⟩ h fun v167 h =>
  elF False (.agg [.int .i64, .int .i64, .int .i64]) v167 fun n168 n169 n170 =>
  kr n168 n169 n170 h)
  (ldI .i64 h b6 2 fun n171 =>
  ifB (decide ((n171 : Int) > 15))
  (callD Try.prog 44 ⟨[.int .i64 1]⟩ h fun v172 h =>
  elF False (.agg [.int .i64, .int .i64, .int .i64]) v172 fun n173 n174 n175 =>
  kr n173 n174 n175 h)
  (ldI .i64 h b6 3 fun n176 =>
  ifB (decide ((n176 : Int) < 0))
  (callD Try.prog 44 ⟨[.int .i64 1]⟩ h fun v177 h =>
  elF False (.agg [.int .i64, .int .i64, .int .i64]) v177 fun n178 n179 n180 =>
  kr n178 n179 n180 h)
  (ldI .i64 h b6 3 fun n181 =>
  ifB (decide ((n181 : Int) > 2))
  (callD Try.prog 44 ⟨[.int .i64 1]⟩ h fun v182 h =>
  elF False (.agg [.int .i64, .int .i64, .int .i64]) v182 fun n183 n184 n185 =>
  kr n183 n184 n185 h)
  (ldI .i64 h b6 2 fun n186 =>
  ifB ((n186 : Int) == 9)
  (callD Try.prog 44 ⟨[.int .i64 1]⟩ h fun v187 h =>
  elF False (.agg [.int .i64, .int .i64, .int .i64]) v187 fun n188 n189 n190 =>
  kr n188 n189 n190 h)
  (ldI .i64 h b6 2 fun n191 =>
  ifB ((n191 : Int) == 12)
  (callD Try.prog 44 ⟨[.int .i64 1]⟩ h fun v192 h =>
  elF False (.agg [.int .i64, .int .i64, .int .i64]) v192 fun n193 n194 n195 =>
  kr n193 n194 n195 h)
  (ldI .i64 h b6 2 fun n196 =>
  req (0 ≤ (n196 : Int))
  (ldP h b20 0 fun p197 =>
  nz p197 fun b198 o199 =>
  ldI .i64 h b198 (o199 + 8) fun n200 =>
  nz p197 fun b201 o202 =>
  st h b201 (o202 + 8) (.int .i64 (bAndNot .i64 n200 (sShl .i64 1 n196))) fun h =>
  ldP h b20 0 fun p203 =>
  nz p203 fun b204 o205 =>
  ldI .i64 h b204 (o205 + 9) fun n206 =>
  nz p203 fun b207 o208 =>
  st h b207 (o208 + 9) (.int .i64 (bAndNot .i64 n206 (sShl .i64 1 n196))) fun h =>
  ldI .i64 h b6 3 fun n209 =>
  ifB ((n209 : Int) == 1)
  (ldP h b20 0 fun p210 =>
  nz p210 fun b211 o212 =>
  ldI .i64 h b211 (o212 + 8) fun n213 =>
  nz p210 fun b214 o215 =>
  st h b214 (o215 + 8) (.int .i64 (bOr .i64 n213 (sShl .i64 1 n196))) fun h =>
  ldP h b20 0 fun p216 =>
  nz p216 fun b217 o218 =>
  ldI .i64 h b217 (o218 + 6) fun n219 =>
  nz p216 fun b220 o221 =>
  st h b220 (o221 + 6) (.int .i64 (bAndNot .i64 n219 (sShl .i64 1 n196))) fun h =>
  kr 0 0 0 h)
  (ifB ((n209 : Int) == 2)
  (ldP h b20 0 fun p222 =>
  nz p222 fun b223 o224 =>
  ldI .i64 h b223 (o224 + 9) fun n225 =>
  nz p222 fun b226 o227 =>
  st h b226 (o227 + 9) (.int .i64 (bOr .i64 n225 (sShl .i64 1 n196))) fun h =>
  kr 0 0 0 h)
  (kr 0 0 0 h))))))))))
  (ifB ((n34 : Int) == 7)
  (ldP h b20 0 fun p228 =>
  nz p228 fun b229 o230 =>
  ldI .i64 h b229 (o230 + 6) fun n231 =>
  ldP h b20 0 fun p232 =>
  nz p232 fun b233 o234 =>
  ldI .i64 h b233 (o234 + 7) fun n235 =>
  ldP h b20 0 fun p236 =>
  nz p236 fun b237 o238 =>
  ldI .i64 h b237 (o238 + 4) fun n239 =>
  ifB ((n239 : Int) == 2)
  (impl_Procs_step_M_j6 (fun n240 n241 n242 h =>
  kr n240 n241 n242 h) kr p1 b6 b20 (bAnd .i64 (bAndNot .i64 n231 n235) 512) 0 h)
  (impl_Procs_step_M_j6 (fun n244 n245 n246 h =>
  kr n244 n245 n246 h) kr p1 b6 b20 (bAndNot .i64 n231 n235) 0 h))
  (ifB ((n34 : Int) == 8)
  (ldI .i64 h b6 2 fun n248 =>
  callD Try.prog 19 ⟨[.pointer p1, .int .i64 n248]⟩ h fun v249 h =>
  asP v249 fun p250 =>
  ifB p250.isNone
  (impl_Procs_step_M_j10 (fun p251 b252 p253 n254 n255 n256 h =>
  impl_Procs_step_M_j11 (fun n258 n259 n260 h =>
  kr n258 n259 n260 h) kr p251 b252 p253 n254 n255 n256 h) kr p1 b6 p250 true 0 0 0 h)
  (nz p250 fun b262 o263 =>
  ldI .i64 h b262 (o263 + 4) fun n264 =>
  ifB ((n264 : Int) == 3)
  (impl_Procs_step_M_j10 (fun p265 b266 p267 n268 n269 n270 h =>
  impl_Procs_step_M_j11 (fun n272 n273 n274 h =>
  kr n272 n273 n274 h) kr p265 b266 p267 n268 n269 n270 h) kr p1 b6 p250 true 0 0 0 h)
  (nz p250 fun b276 o277 =>
  ldI .i64 h b276 o277 fun n278 =>
  ldI .i64 h b6 1 fun n279 =>
  ifB ((n278 : Int) != n279)
  (nz p250 fun b280 o281 =>
  ldI .i64 h b280 (o281 + 1) fun n282 =>
  ldI .i64 h b6 1 fun n283 =>
  impl_Procs_step_M_j10 (fun p284 b285 p286 n287 n288 n289 h =>
  impl_Procs_step_M_j11 (fun n291 n292 n293 h =>
  kr n291 n292 n293 h) kr p284 b285 p286 n287 n288 n289 h) kr p1 b6 p250 ((n282 : Int) != n283) 0 0 0 h)
  (impl_Procs_step_M_j10 (fun p295 b296 p297 n298 n299 n300 h =>
  impl_Procs_step_M_j11 (fun n302 n303 n304 h =>
  kr n302 n303 n304 h) kr p295 b296 p297 n298 n299 n300 h) kr p1 b6 p250 false 0 0 0 h))))
  (ifB ((n34 : Int) == 9)
  (ldI .i64 h b6 3 fun n306 =>
  ifB (decide ((n306 : Int) < 0))
  (impl_Procs_step_M_j13 (fun b307 b308 n309 n310 n311 h =>
  ldP h b308 0 fun p313 =>
  ldI .i64 h b307 3 fun n314 =>
  nz p313 fun b315 o316 =>
  st h b315 (o316 + 3) (.int .i64 n314) fun h =>
  kr n309 n310 n311 h) kr b6 b20 true 0 0 0 h)
  (ldI .i64 h b6 3 fun n317 =>
  impl_Procs_step_M_j13 (fun b318 b319 n320 n321 n322 h =>
  ldP h b319 0 fun p324 =>
  ldI .i64 h b318 3 fun n325 =>
  nz p324 fun b326 o327 =>
  st h b326 (o327 + 3) (.int .i64 n325) fun h =>
  kr n320 n321 n322 h) kr b6 b20 (decide ((n317 : Int) > 255)) 0 0 0 h))
  (kr 0 0 0 h)))))))))))))

theorem impl_Procs_step_M_l0_D {g0 m0 : H} {kx2_1 : Option Addr → Nat → Nat → Int → H → Prop} {kx2_2 : Option Addr → Nat → Int → Int → Int → H → Prop} (Hkx2 : ∀ (p200001 : Option Addr) (b200002 : Nat) (n200003 : Int) (n200004 : Int) (n200005 : Int) (n200006 : Int) (p200007 : Nat) (g m : H), Md g0 m0 g m [lo p200007 [.int .i64 n200004, .int .i64 n200005, .int .i64 n200006]] → kx2_2 p200001 b200002 n200003 n200004 n200006 m → kx2_1 p200001 p200007 b200002 n200003 g) : ∀ (N : Nat) (p1042 : Option Addr) (b1043 : Nat) (n1044 : Int) (n1045 : Int) (n1046 : Int) (n1047 : Int) (p1048 : Nat) (g m : H), Md g0 m0 g m [lo p1048 [.int .i64 n1045, .int .i64 n1046, .int .i64 n1047]] → impl_Procs_step_M_l0 kx2_2 N p1042 b1043 n1044 n1045 n1047 m → impl_Procs_step_l0 kx2_1 N p1042 p1048 b1043 n1044 g := by
  intro N
  induction N with
  | zero => intro p1042 b1043 n1044 n1045 n1046 n1047 p1048 g m R h0; exact h0.elim
  | succ N ih =>
    intro p1042 b1043 n1044 n1045 n1046 n1047 p1048 g m R
    rw [impl_Procs_step_M_l0, impl_Procs_step_l0]
    exact (d_nz fun b1049 o1050 =>
  (d_ldL R fun a1051 l1051 c1051 =>
  (d_if (d_nz fun b1052 o1053 =>
  (d_ldL R fun a1054 l1054 c1054 =>
  (d_req (d_nz fun b1055 o1056 =>
  (d_ldI R fun n1057 =>
  (d_if (ih p1042 b1043 (IntKind.i64.wrap (n1044 + 1)) n1045 n1046 n1047 p1048 _ _ R.sub)
  (Hkx2 p1042 b1043 n1044 n1045 n1046 n1047 p1048 _ _ R.sub)))))))
  (Hkx2 p1042 b1043 n1044 n1045 n1046 n1047 p1048 _ _ R.sub))))

theorem impl_Procs_step_M_j1_D {g0 m0 : H} {kn_1 : Option Addr → Nat → Nat → H → Prop} {kn_2 : Option Addr → Nat → Int → Int → Int → H → Prop} (Hkn : ∀ (p200001 : Option Addr) (b200002 : Nat) (n200003 : Int) (n200004 : Int) (n200005 : Int) (p200006 : Nat) (g m : H), Md g0 m0 g m [lo p200006 [.int .i64 n200003, .int .i64 n200004, .int .i64 n200005]] → kn_2 p200001 b200002 n200003 n200004 n200005 m → kn_1 p200001 b200002 p200006 g)
  {kr_1 : Nat → H → Prop} {kr_2 : Int → Int → Int → H → Prop} (Hkr : ∀ (n200001 : Int) (n200002 : Int) (n200003 : Int) (p200004 : Nat) (g m : H), Md g0 m0 g m [lo p200004 [.int .i64 n200001, .int .i64 n200002, .int .i64 n200003]] → kr_2 n200001 n200002 n200003 m → kr_1 p200004 g) : ∀ (p2095 : Option Addr) (b2096 : Nat) (t2097 : Bool) (n2098 : Int) (n2099 : Int) (n2100 : Int) (p2101 : Nat) (g m : H), Md g0 m0 g m [lo p2101 [.int .i64 n2098, .int .i64 n2099, .int .i64 n2100]] → impl_Procs_step_M_j1 kn_2 kr_2 p2095 b2096 t2097 n2098 n2099 n2100 m → impl_Procs_step_j1 kn_1 kr_1 p2095 b2096 p2101 t2097 g := by
  intro p2095 b2096 t2097 n2098 n2099 n2100 p2101 g m R
  rw [impl_Procs_step_M_j1, impl_Procs_step_j1]
  exact (d_if (d_call R fun v2102 g m R =>
  (d_el_AI3E fun n2103 n2104 n2105 =>
  (p_stRow R (cs' := [.int .i64 n2103, .int .i64 n2104, .int .i64 n2105]) ⟨rfl, rfl, rfl⟩ fun g R =>
  (Hkr n2103 n2104 n2105 p2101 _ _ R.sub))))
  (d_ldI R fun n2106 =>
  (d_if (d_call R fun v2107 g m R =>
  (d_el_AI3E fun n2108 n2109 n2110 =>
  (p_stRow R (cs' := [.int .i64 n2108, .int .i64 n2109, .int .i64 n2110]) ⟨rfl, rfl, rfl⟩ fun g R =>
  (Hkr n2108 n2109 n2110 p2101 _ _ R.sub))))
  (Hkn p2095 b2096 n2098 n2099 n2100 p2101 _ _ R.sub))))

theorem impl_Procs_step_M_l2_D {g0 m0 : H} {kx5_1 : Nat → Bool → H → Prop} {kx5_2 : Bool → H → Prop} (Hkx5 : ∀ (t200001 : Bool) (n200002 : Int) (n200003 : Int) (n200004 : Int) (p200005 : Nat) (g m : H), Md g0 m0 g m [lo p200005 [.int .i64 n200002, .int .i64 n200003, .int .i64 n200004]] → kx5_2 t200001 m → kx5_1 p200005 t200001 g)
  {kr_1 : Nat → H → Prop} {kr_2 : Int → Int → Int → H → Prop} (Hkr : ∀ (n200001 : Int) (n200002 : Int) (n200003 : Int) (p200004 : Nat) (g m : H), Md g0 m0 g m [lo p200004 [.int .i64 n200001, .int .i64 n200002, .int .i64 n200003]] → kr_2 n200001 n200002 n200003 m → kr_1 p200004 g) : ∀ (N : Nat) (p3142 : Option Addr) (b3143 : Nat) (b3144 : Nat) (b3145 : Nat) (t3146 : Bool) (a3147 : Option Addr) (l3147 : Nat) (c3147 : Nat) (n3148 : Int) (n3149 : Int) (n3150 : Int) (n3151 : Int) (n3152 : Int) (p3153 : Nat) (g m : H), Md g0 m0 g m [lo p3153 [.int .i64 n3150, .int .i64 n3151, .int .i64 n3152]] → impl_Procs_step_M_l2 kx5_2 kr_2 N p3142 b3143 b3144 b3145 t3146 a3147 l3147 n3148 n3149 m → impl_Procs_step_l2 kx5_1 kr_1 N p3142 b3143 p3153 b3144 b3145 t3146 a3147 l3147 c3147 n3148 n3149 g := by
  intro N
  induction N with
  | zero => intro p3142 b3143 b3144 b3145 t3146 a3147 l3147 c3147 n3148 n3149 n3150 n3151 n3152 p3153 g m R h0; exact h0.elim
  | succ N ih =>
    intro p3142 b3143 b3144 b3145 t3146 a3147 l3147 c3147 n3148 n3149 n3150 n3151 n3152 p3153 g m R
    rw [impl_Procs_step_M_l2, impl_Procs_step_l2]
    exact (d_if (d_req (d_nz fun b3154 o3155 =>
  (d_row_I10 R fun n3156 n3157 n3158 n3159 n3160 n3161 n3162 n3163 n3164 n3165 =>
  (p_new R fun p3166 g R =>
  (p_stRow R (cs' := [.int .i64 n3156, .int .i64 n3157, .int .i64 n3158, .int .i64 n3159, .int .i64 n3160, .int .i64 n3161, .int .i64 n3162, .int .i64 n3163, .int .i64 n3164, .int .i64 n3165]) ⟨rfl, rfl, rfl⟩ fun g R =>
  (p_ldI R rfl (d_ldI R fun n3167 =>
  (d_if (ih p3142 b3143 b3144 b3145 t3146 a3147 l3147 c3147 n3148 (IntKind.i64.wrap (n3149 + 1)) n3150 n3151 n3152 p3153 _ _ R.sub)
  (p_row_I10 R rfl rfl rfl rfl rfl rfl rfl rfl rfl rfl (d_call R fun v3168 g m R =>
  (d_asB fun t3169 =>
  (d_if (ih p3142 b3143 b3144 b3145 t3146 a3147 l3147 c3147 n3148 (IntKind.i64.wrap (n3149 + 1)) n3150 n3151 n3152 p3153 _ _ R.sub)
  (p_ldI R rfl (d_if (p_ldI R rfl (d_call R fun v3170 g m R =>
  (d_el_TE (p_ldI R rfl (p_ldI R rfl (p_stRow R (cs' := [.int .i64 0, .int .i64 n3156, .int .i64 n3161]) ⟨rfl, rfl, rfl⟩ fun g R =>
  (Hkr 0 n3156 n3161 p3153 _ _ R.sub)))))))
  (ih p3142 b3143 b3144 b3145 true a3147 l3147 c3147 n3148 (IntKind.i64.wrap (n3149 + 1)) n3150 n3151 n3152 p3153 _ _ R.sub)))))))))))))))
  (Hkx5 t3146 n3150 n3151 n3152 p3153 _ _ R.sub))

theorem impl_Procs_step_M_j4_D {g0 m0 : H} {kn_1 : Option Addr → Nat → Nat → Nat → Nat → Nat → Bool → Option Addr → Nat → Nat → Option Addr → Nat → Nat → Int → Int → H → Prop} {kn_2 : Option Addr → Nat → Nat → Nat → Nat → Bool → Option Addr → Nat → Nat → Option Addr → Nat → Int → Int → Int → Int → H → Prop} (Hkn : ∀ (p200001 : Option Addr) (b200002 : Nat) (b200003 : Nat) (b200004 : Nat) (b200005 : Nat) (t200006 : Bool) (a200007 : Option Addr) (l200007 : Nat) (c200007 : Nat) (a200008 : Option Addr) (l200008 : Nat) (c200008 : Nat) (n200009 : Int) (n200010 : Int) (n200011 : Int) (n200012 : Int) (n200013 : Int) (p200014 : Nat) (g m : H), Md g0 m0 g m [lo p200014 [.int .i64 n200011, .int .i64 n200012, .int .i64 n200013]] → kn_2 p200001 b200002 b200003 b200004 b200005 t200006 a200007 l200007 c200007 a200008 l200008 n200009 n200010 n200011 n200013 m → kn_1 p200001 b200002 p200014 b200003 b200004 b200005 t200006 a200007 l200007 c200007 a200008 l200008 c200008 n200009 n200010 g) : ∀ (p4228 : Option Addr) (b4229 : Nat) (b4230 : Nat) (b4231 : Nat) (b4232 : Nat) (a4233 : Option Addr) (l4233 : Nat) (c4233 : Nat) (a4234 : Option Addr) (l4234 : Nat) (c4234 : Nat) (n4235 : Int) (n4236 : Int) (n4237 : Int) (n4238 : Int) (n4239 : Int) (n4241 : Int) (n4242 : Int) (n4243 : Int) (n4244 : Int) (n4245 : Int) (n4246 : Int) (n4247 : Int) (n4248 : Int) (n4249 : Int) (n4250 : Int) (p4240 : Nat) (p4251 : Nat) (g m : H), Md g0 m0 g m [lo p4240 [.int .i64 n4237, .int .i64 n4238, .int .i64 n4239], lo p4251 [.int .i64 n4241, .int .i64 n4242, .int .i64 n4243, .int .i64 n4244, .int .i64 n4245, .int .i64 n4246, .int .i64 n4247, .int .i64 n4248, .int .i64 n4249, .int .i64 n4250]] → impl_Procs_step_M_j4 kn_2 p4228 b4229 b4230 b4231 b4232 a4233 l4233 c4233 a4234 l4234 n4235 n4236 n4237 n4239 n4241 n4244 m → impl_Procs_step_j4 kn_1 p4228 b4229 p4240 b4230 b4231 b4232 a4233 l4233 c4233 p4251 a4234 l4234 c4234 n4235 n4236 g := by
  intro p4228 b4229 b4230 b4231 b4232 a4233 l4233 c4233 a4234 l4234 c4234 n4235 n4236 n4237 n4238 n4239 n4241 n4242 n4243 n4244 n4245 n4246 n4247 n4248 n4249 n4250 p4240 p4251 g m R
  rw [impl_Procs_step_M_j4, impl_Procs_step_j4]
  exact (d_ldP R fun p4252 =>
  (d_nz fun b4253 o4254 =>
  (d_ldI R fun n4255 =>
  (d_if (p_ldI R rfl (d_new R fun b4256 g m R =>
  (d_append R fun a4257 l4257 c4257 g m R =>
  (Hkn p4228 b4229 b4230 b4231 b4232 true a4257 l4257 c4257 a4234 l4234 c4234 n4235 n4236 n4237 n4238 n4239 p4240 _ _ R.sub))))
  (d_ldP R fun p4258 =>
  (d_nz fun b4259 o4260 =>
  (d_ldI R fun n4261 =>
  (p_ldI R rfl (d_if (p_ldI R rfl (d_new R fun b4262 g m R =>
  (d_append R fun a4263 l4263 c4263 g m R =>
  (Hkn p4228 b4229 b4230 b4231 b4232 true a4263 l4263 c4263 a4234 l4234 c4234 n4235 n4236 n4237 n4238 n4239 p4240 _ _ R.sub))))
  (Hkn p4228 b4229 b4230 b4231 b4232 true a4233 l4233 c4233 a4234 l4234 c4234 n4235 n4236 n4237 n4238 n4239 p4240 _ _ R.sub))))))))))

theorem impl_Procs_step_M_l3_D {g0 m0 : H} {kx7_1 : Option Addr → Nat → Nat → Bool → Option Addr → Nat → Nat → H → Prop} {kx7_2 : Option Addr → Nat → Bool → Option Addr → Nat → Int → Int → H → Prop} (Hkx7 : ∀ (p200001 : Option Addr) (b200002 : Nat) (t200003 : Bool) (a200004 : Option Addr) (l200004 : Nat) (c200004 : Nat) (n200005 : Int) (n200006 : Int) (n200007 : Int) (p200008 : Nat) (g m : H), Md g0 m0 g m [lo p200008 [.int .i64 n200005, .int .i64 n200006, .int .i64 n200007]] → kx7_2 p200001 b200002 t200003 a200004 l200004 n200005 n200007 m → kx7_1 p200001 b200002 p200008 t200003 a200004 l200004 c200004 g) : ∀ (N : Nat) (p4202 : Option Addr) (b4203 : Nat) (b4204 : Nat) (b4205 : Nat) (b4206 : Nat) (t4207 : Bool) (a4208 : Option Addr) (l4208 : Nat) (c4208 : Nat) (a4209 : Option Addr) (l4209 : Nat) (c4209 : Nat) (n4210 : Int) (n4211 : Int) (n4212 : Int) (n4213 : Int) (n4214 : Int) (p4215 : Nat) (g m : H), Md g0 m0 g m [lo p4215 [.int .i64 n4212, .int .i64 n4213, .int .i64 n4214]] → impl_Procs_step_M_l3 kx7_2 N p4202 b4203 b4204 b4205 b4206 t4207 a4208 l4208 c4208 a4209 l4209 n4210 n4211 n4212 n4214 m → impl_Procs_step_l3 kx7_1 N p4202 b4203 p4215 b4204 b4205 b4206 t4207 a4208 l4208 c4208 a4209 l4209 c4209 n4210 n4211 g := by
  intro N
  induction N with
  | zero => intro p4202 b4203 b4204 b4205 b4206 t4207 a4208 l4208 c4208 a4209 l4209 c4209 n4210 n4211 n4212 n4213 n4214 p4215 g m R h0; exact h0.elim
  | succ N ih =>
    intro p4202 b4203 b4204 b4205 b4206 t4207 a4208 l4208 c4208 a4209 l4209 c4209 n4210 n4211 n4212 n4213 n4214 p4215 g m R
    rw [impl_Procs_step_M_l3, impl_Procs_step_l3]
    exact (d_if (d_req (d_nz fun b4216 o4217 =>
  (d_row_I10 R fun n4218 n4219 n4220 n4221 n4222 n4223 n4224 n4225 n4226 n4227 =>
  (p_new R fun p4228 g R =>
  (p_stRow R (cs' := [.int .i64 n4218, .int .i64 n4219, .int .i64 n4220, .int .i64 n4221, .int .i64 n4222, .int .i64 n4223, .int .i64 n4224, .int .i64 n4225, .int .i64 n4226, .int .i64 n4227]) ⟨rfl, rfl, rfl⟩ fun g R =>
  (p_row_I10 R rfl rfl rfl rfl rfl rfl rfl rfl rfl rfl (d_call R fun v4229 g m R =>
  (d_asB fun t4230 =>
  (d_if (ih p4202 b4203 b4204 b4205 b4206 t4207 a4208 l4208 c4208 a4209 l4209 c4209 n4210 (IntKind.i64.wrap (n4211 + 1)) n4212 n4213 n4214 p4215 _ _ R.sub)
  (d_ldI R fun n4231 =>
  (d_if (p_ldI R rfl (d_if (ih p4202 b4203 b4204 b4205 b4206 t4207 a4208 l4208 c4208 a4209 l4209 c4209 n4210 (IntKind.i64.wrap (n4211 + 1)) n4212 n4213 n4214 p4215 _ _ R.sub)
  (p_ldI R rfl (d_ldI R fun n4232 =>
  (d_if (ih p4202 b4203 b4204 b4205 b4206 t4207 a4208 l4208 c4208 a4209 l4209 c4209 n4210 (IntKind.i64.wrap (n4211 + 1)) n4212 n4213 n4214 p4215 _ _ R.sub)
  (impl_Procs_step_M_j4_D (by exact fun p4233 b4234 b4235 b4236 b4237 t4238 a4239 l4239 c4239 a4240 l4240 c4240 n4241 n4242 n4243 n4244 n4245 p4246 g m R =>
  (ih p4233 b4234 b4235 b4236 b4237 t4238 a4239 l4239 c4239 a4240 l4240 c4240 n4241 (IntKind.i64.wrap (n4242 + 1)) n4243 n4244 n4245 p4246 _ _ R.sub)) p4202 b4203 b4204 b4205 b4206 a4208 l4208 c4208 a4209 l4209 c4209 n4210 n4211 n4212 n4213 n4214 n4218 n4219 n4220 n4221 n4222 n4223 n4224 n4225 n4226 n4227 p4215 p4228 _ _ R.sub))))))
  (impl_Procs_step_M_j4_D (by exact fun p4247 b4248 b4249 b4250 b4251 t4252 a4253 l4253 c4253 a4254 l4254 c4254 n4255 n4256 n4257 n4258 n4259 p4260 g m R =>
  (ih p4247 b4248 b4249 b4250 b4251 t4252 a4253 l4253 c4253 a4254 l4254 c4254 n4255 (IntKind.i64.wrap (n4256 + 1)) n4257 n4258 n4259 p4260 _ _ R.sub)) p4202 b4203 b4204 b4205 b4206 a4208 l4208 c4208 a4209 l4209 c4209 n4210 n4211 n4212 n4213 n4214 n4218 n4219 n4220 n4221 n4222 n4223 n4224 n4225 n4226 n4227 p4215 p4228 _ _ R.sub))))))))))))
  (Hkx7 p4202 b4203 t4207 a4208 l4208 c4208 n4212 n4213 n4214 p4215 _ _ R.sub))

theorem impl_Procs_step_M_l5_D {g0 m0 : H} {kx10_1 : Nat → Option Addr → Nat → Nat → H → Prop} {kx10_2 : Nat → Int → Int → H → Prop} (Hkx10 : ∀ (a200001 : Option Addr) (l200001 : Nat) (c200001 : Nat) (n200002 : Int) (n200003 : Int) (n200004 : Int) (p200005 : Nat) (g m : H), Md g0 m0 g m [lo p200005 [.int .i64 n200002, .int .i64 n200003, .int .i64 n200004]] → kx10_2 l200001 n200002 n200004 m → kx10_1 p200005 a200001 l200001 c200001 g) : ∀ (N : Nat) (p5278 : Option Addr) (b5279 : Nat) (a5280 : Option Addr) (l5280 : Nat) (c5280 : Nat) (a5281 : Option Addr) (l5281 : Nat) (c5281 : Nat) (n5282 : Int) (n5283 : Int) (n5284 : Int) (n5285 : Int) (n5286 : Int) (p5287 : Nat) (g m : H), Md g0 m0 g m [lo p5287 [.int .i64 n5284, .int .i64 n5285, .int .i64 n5286]] → impl_Procs_step_M_l5 kx10_2 N p5278 b5279 l5280 a5281 l5281 n5282 n5283 n5284 n5286 m → impl_Procs_step_l5 kx10_1 N p5278 b5279 p5287 a5280 l5280 c5280 a5281 l5281 c5281 n5282 n5283 g := by
  intro N
  induction N with
  | zero => intro p5278 b5279 a5280 l5280 c5280 a5281 l5281 c5281 n5282 n5283 n5284 n5285 n5286 p5287 g m R h0; exact h0.elim
  | succ N ih =>
    intro p5278 b5279 a5280 l5280 c5280 a5281 l5281 c5281 n5282 n5283 n5284 n5285 n5286 p5287 g m R
    rw [impl_Procs_step_M_l5, impl_Procs_step_l5]
    exact (d_if (d_req (d_nz fun b5288 o5289 =>
  (d_ldI R fun n5290 =>
  (d_ldI R fun n5291 =>
  (d_call R fun v5292 g m R =>
  (d_el_TE (ih p5278 b5279 a5280 l5280 c5280 a5281 l5281 c5281 n5282 (IntKind.i64.wrap (n5283 + 1)) n5284 n5285 n5286 p5287 _ _ R.sub)))))))
  (Hkx10 a5280 l5280 c5280 n5284 n5285 n5286 p5287 _ _ R.sub))

theorem impl_Procs_step_M_l7_D {g0 m0 : H} {kx13_1 : Option Addr → Nat → Nat → Nat → Int → H → Prop} {kx13_2 : Option Addr → Nat → Nat → Int → Int → H → Prop} (Hkx13 : ∀ (p200001 : Option Addr) (b200002 : Nat) (b200003 : Nat) (n200004 : Int) (n200005 : Int) (n200006 : Int) (n200007 : Int) (p200008 : Nat) (g m : H), Md g0 m0 g m [lo p200008 [.int .i64 n200005, .int .i64 n200006, .int .i64 n200007]] → kx13_2 p200001 b200002 b200003 n200004 n200005 m → kx13_1 p200001 b200002 p200008 b200003 n200004 g) : ∀ (N : Nat) (p6395 : Option Addr) (b6396 : Nat) (b6397 : Nat) (n6398 : Int) (n6399 : Int) (n6400 : Int) (n6401 : Int) (n6402 : Int) (p6403 : Nat) (g m : H), Md g0 m0 g m [lo p6403 [.int .i64 n6400, .int .i64 n6401, .int .i64 n6402]] → impl_Procs_step_M_l7 kx13_2 N p6395 b6396 b6397 n6398 n6399 n6400 m → impl_Procs_step_l7 kx13_1 N p6395 b6396 p6403 b6397 n6398 n6399 g := by
  intro N
  induction N with
  | zero => intro p6395 b6396 b6397 n6398 n6399 n6400 n6401 n6402 p6403 g m R h0; exact h0.elim
  | succ N ih =>
    intro p6395 b6396 b6397 n6398 n6399 n6400 n6401 n6402 p6403 g m R
    rw [impl_Procs_step_M_l7, impl_Procs_step_l7]
    exact (d_req (d_if (ih p6395 b6396 b6397 n6398 (IntKind.i64.wrap (n6399 + 1)) n6400 n6401 n6402 p6403 _ _ R.sub)
  (Hkx13 p6395 b6396 b6397 n6399 n6400 n6401 n6402 p6403 _ _ R.sub)))

theorem impl_Procs_step_M_j9_D {g0 m0 : H} {kn_1 : Nat → H → Prop} {kn_2 : Int → Int → Int → H → Prop} (Hkn : ∀ (n200001 : Int) (n200002 : Int) (n200003 : Int) (p200004 : Nat) (g m : H), Md g0 m0 g m [lo p200004 [.int .i64 n200001, .int .i64 n200002, .int .i64 n200003]] → kn_2 n200001 n200002 n200003 m → kn_1 p200004 g) : ∀ (p6419 : Option Addr) (b6420 : Nat) (b6421 : Nat) (n6422 : Int) (t6423 : Bool) (n6424 : Int) (n6425 : Int) (n6426 : Int) (p6427 : Nat) (g m : H), Md g0 m0 g m [lo p6427 [.int .i64 n6424, .int .i64 n6425, .int .i64 n6426]] → impl_Procs_step_M_j9 kn_2 p6419 b6420 b6421 n6422 t6423 n6424 n6425 n6426 m → impl_Procs_step_j9 kn_1 p6419 b6420 p6427 b6421 n6422 t6423 g := by
  intro p6419 b6420 b6421 n6422 t6423 n6424 n6425 n6426 p6427 g m R
  rw [impl_Procs_step_M_j9, impl_Procs_step_j9]
  exact (d_if (Hkn n6424 n6425 n6426 p6427 _ _ R.sub)
  (d_if (d_ldP R fun p6428 =>
  (d_nz fun b6429 o6430 =>
  (d_st R fun g m R =>
  (Hkn n6424 n6425 n6426 p6427 _ _ R.sub))))
  (d_ldI R fun n6431 =>
  (d_if (d_ldI R fun n6432 =>
  (d_call R fun v6433 g m R =>
  (d_el_TE (Hkn n6424 n6425 n6426 p6427 _ _ R.sub))))
  (Hkn n6424 n6425 n6426 p6427 _ _ R.sub)))))

theorem impl_Procs_step_M_j8_D {g0 m0 : H} {kn_1 : Nat → H → Prop} {kn_2 : Int → Int → Int → H → Prop} (Hkn : ∀ (n200001 : Int) (n200002 : Int) (n200003 : Int) (p200004 : Nat) (g m : H), Md g0 m0 g m [lo p200004 [.int .i64 n200001, .int .i64 n200002, .int .i64 n200003]] → kn_2 n200001 n200002 n200003 m → kn_1 p200004 g) : ∀ (p6395 : Option Addr) (b6396 : Nat) (b6397 : Nat) (n6398 : Int) (n6399 : Int) (n6400 : Int) (n6401 : Int) (p6402 : Nat) (g m : H), Md g0 m0 g m [lo p6402 [.int .i64 n6399, .int .i64 n6400, .int .i64 n6401]] → impl_Procs_step_M_j8 kn_2 p6395 b6396 b6397 n6398 n6399 m → impl_Procs_step_j8 kn_1 p6395 b6396 p6402 b6397 n6398 g := by
  intro p6395 b6396 b6397 n6398 n6399 n6400 n6401 p6402 g m R
  rw [impl_Procs_step_M_j8, impl_Procs_step_j8]
  exact (d_ldP R fun p6403 =>
  (d_nz fun b6404 o6405 =>
  (d_ldI R fun n6406 =>
  (d_req (d_nz fun b6407 o6408 =>
  (d_st R fun g m R =>
  (p_st R (cs' := [.int .i64 n6399, .int .i64 n6398, .int .i64 n6401]) ⟨rfl, rfl⟩ fun g R =>
  (p_st R (cs' := [.int .i64 n6399, .int .i64 n6398, .int .i64 1]) ⟨rfl, rfl⟩ fun g R =>
  (d_ldP R fun p6409 =>
  (d_nz fun b6410 o6411 =>
  (d_ldI R fun n6412 =>
  (d_req (d_if (p_st R (cs' := [.int .i64 n6399, .int .i64 n6398, .int .i64 2]) ⟨rfl, rfl⟩ fun g R =>
  (d_ldP R fun p6413 =>
  (d_nz fun b6414 o6415 =>
  (d_ldI R fun n6416 =>
  (d_req (d_nz fun b6417 o6418 =>
  (d_st R fun g m R =>
  (Hkn n6399 n6398 2 p6402 _ _ R.sub))))))))
  (d_if (impl_Procs_step_M_j9_D (by exact fun n6419 n6420 n6421 p6422 g m R =>
  (Hkn n6419 n6420 n6421 p6422 _ _ R.sub)) p6395 b6396 b6397 n6398 true n6399 n6398 1 p6402 _ _ R.sub)
  (impl_Procs_step_M_j9_D (by exact fun n6423 n6424 n6425 p6426 g m R =>
  (Hkn n6423 n6424 n6425 p6426 _ _ R.sub)) p6395 b6396 b6397 n6398 ((n6398 : Int) == 13) n6399 n6398 1 p6402 _ _ R.sub)))))))))))))))

theorem impl_Procs_step_M_j6_D {g0 m0 : H} {kn_1 : Nat → H → Prop} {kn_2 : Int → Int → Int → H → Prop} (Hkn : ∀ (n200001 : Int) (n200002 : Int) (n200003 : Int) (p200004 : Nat) (g m : H), Md g0 m0 g m [lo p200004 [.int .i64 n200001, .int .i64 n200002, .int .i64 n200003]] → kn_2 n200001 n200002 n200003 m → kn_1 p200004 g)
  {kr_1 : Nat → H → Prop} {kr_2 : Int → Int → Int → H → Prop} (Hkr : ∀ (n200001 : Int) (n200002 : Int) (n200003 : Int) (p200004 : Nat) (g m : H), Md g0 m0 g m [lo p200004 [.int .i64 n200001, .int .i64 n200002, .int .i64 n200003]] → kr_2 n200001 n200002 n200003 m → kr_1 p200004 g) : ∀ (p6383 : Option Addr) (b6384 : Nat) (b6385 : Nat) (n6386 : Int) (n6387 : Int) (n6388 : Int) (n6389 : Int) (p6390 : Nat) (g m : H), Md g0 m0 g m [lo p6390 [.int .i64 n6387, .int .i64 n6388, .int .i64 n6389]] → impl_Procs_step_M_j6 kn_2 kr_2 p6383 b6384 b6385 n6386 n6387 m → impl_Procs_step_j6 kn_1 kr_1 p6383 b6384 p6390 b6385 n6386 g := by
  intro p6383 b6384 b6385 n6386 n6387 n6388 n6389 p6390 g m R
  rw [impl_Procs_step_M_j6, impl_Procs_step_j6]
  exact (d_if (d_call R fun v6391 g m R =>
  (d_el_AI3E fun n6392 n6393 n6394 =>
  (p_stRow R (cs' := [.int .i64 n6392, .int .i64 n6393, .int .i64 n6394]) ⟨rfl, rfl, rfl⟩ fun g R =>
  (Hkr n6392 n6393 n6394 p6390 _ _ R.sub))))
  (d_if (d_ex fun N => impl_Procs_step_M_l7_D (by exact fun p6395 b6396 b6397 n6398 n6399 n6400 n6401 p6402 g m R =>
  (impl_Procs_step_M_j8_D (by exact fun n6403 n6404 n6405 p6406 g m R =>
  (Hkn n6403 n6404 n6405 p6406 _ _ R.sub)) p6395 b6396 b6397 n6398 n6399 n6400 n6401 p6402 _ _ R.sub)) N p6383 b6384 b6385 n6386 1 n6387 n6388 n6389 p6390 _ _ R.sub)
  (impl_Procs_step_M_j8_D (by exact fun n6407 n6408 n6409 p6410 g m R =>
  (Hkn n6407 n6408 n6409 p6410 _ _ R.sub)) p6383 b6384 b6385 9 n6387 n6388 n6389 p6390 _ _ R.sub)))

theorem impl_Procs_step_M_j10_D {g0 m0 : H} {kn_1 : Option Addr → Nat → Nat → Option Addr → H → Prop} {kn_2 : Option Addr → Nat → Option Addr → Int → Int → Int → H → Prop} (Hkn : ∀ (p200001 : Option Addr) (b200002 : Nat) (p200003 : Option Addr) (n200004 : Int) (n200005 : Int) (n200006 : Int) (p200007 : Nat) (g m : H), Md g0 m0 g m [lo p200007 [.int .i64 n200004, .int .i64 n200005, .int .i64 n200006]] → kn_2 p200001 b200002 p200003 n200004 n200005 n200006 m → kn_1 p200001 b200002 p200007 p200003 g)
  {kr_1 : Nat → H → Prop} {kr_2 : Int → Int → Int → H → Prop} (Hkr : ∀ (n200001 : Int) (n200002 : Int) (n200003 : Int) (p200004 : Nat) (g m : H), Md g0 m0 g m [lo p200004 [.int .i64 n200001, .int .i64 n200002, .int .i64 n200003]] → kr_2 n200001 n200002 n200003 m → kr_1 p200004 g) : ∀ (p7434 : Option Addr) (b7435 : Nat) (p7436 : Option Addr) (t7437 : Bool) (n7438 : Int) (n7439 : Int) (n7440 : Int) (p7441 : Nat) (g m : H), Md g0 m0 g m [lo p7441 [.int .i64 n7438, .int .i64 n7439, .int .i64 n7440]] → impl_Procs_step_M_j10 kn_2 kr_2 p7434 b7435 p7436 t7437 n7438 n7439 n7440 m → impl_Procs_step_j10 kn_1 kr_1 p7434 b7435 p7441 p7436 t7437 g := by
  intro p7434 b7435 p7436 t7437 n7438 n7439 n7440 p7441 g m R
  rw [impl_Procs_step_M_j10, impl_Procs_step_j10]
  exact (d_if (d_call R fun v7442 g m R =>
  (d_el_AI3E fun n7443 n7444 n7445 =>
  (p_stRow R (cs' := [.int .i64 n7443, .int .i64 n7444, .int .i64 n7445]) ⟨rfl, rfl, rfl⟩ fun g R =>
  (Hkr n7443 n7444 n7445 p7441 _ _ R.sub))))
  (d_ldI R fun n7446 =>
  (d_if (d_call R fun v7447 g m R =>
  (d_el_AI3E fun n7448 n7449 n7450 =>
  (p_stRow R (cs' := [.int .i64 n7448, .int .i64 n7449, .int .i64 n7450]) ⟨rfl, rfl, rfl⟩ fun g R =>
  (Hkr n7448 n7449 n7450 p7441 _ _ R.sub))))
  (d_ldI R fun n7451 =>
  (d_if (d_call R fun v7452 g m R =>
  (d_el_AI3E fun n7453 n7454 n7455 =>
  (p_stRow R (cs' := [.int .i64 n7453, .int .i64 n7454, .int .i64 n7455]) ⟨rfl, rfl, rfl⟩ fun g R =>
  (Hkr n7453 n7454 n7455 p7441 _ _ R.sub))))
  (Hkn p7434 b7435 p7436 n7438 n7439 n7440 p7441 _ _ R.sub))))))

theorem impl_Procs_step_M_l12_D {g0 m0 : H} {kx17_1 : Nat → Nat → Option Addr → Bool → H → Prop} {kx17_2 : Nat → Option Addr → Bool → Int → Int → Int → H → Prop} (Hkx17 : ∀ (b200001 : Nat) (p200002 : Option Addr) (t200003 : Bool) (n200004 : Int) (n200005 : Int) (n200006 : Int) (p200007 : Nat) (g m : H), Md g0 m0 g m [lo p200007 [.int .i64 n200004, .int .i64 n200005, .int .i64 n200006]] → kx17_2 b200001 p200002 t200003 n200004 n200005 n200006 m → kx17_1 b200001 p200007 p200002 t200003 g) : ∀ (N : Nat) (b7446 : Nat) (p7447 : Option Addr) (t7448 : Bool) (a7449 : Option Addr) (l7449 : Nat) (c7449 : Nat) (n7450 : Int) (n7451 : Int) (n7452 : Int) (n7453 : Int) (n7454 : Int) (p7455 : Nat) (g m : H), Md g0 m0 g m [lo p7455 [.int .i64 n7452, .int .i64 n7453, .int .i64 n7454]] → impl_Procs_step_M_l12 kx17_2 N b7446 p7447 t7448 a7449 l7449 n7450 n7451 n7452 n7453 n7454 m → impl_Procs_step_l12 kx17_1 N b7446 p7455 p7447 t7448 a7449 l7449 c7449 n7450 n7451 g := by
  intro N
  induction N with
  | zero => intro b7446 p7447 t7448 a7449 l7449 c7449 n7450 n7451 n7452 n7453 n7454 p7455 g m R h0; exact h0.elim
  | succ N ih =>
    intro b7446 p7447 t7448 a7449 l7449 c7449 n7450 n7451 n7452 n7453 n7454 p7455 g m R
    rw [impl_Procs_step_M_l12, impl_Procs_step_l12]
    exact (d_if (d_req (d_nz fun b7456 o7457 =>
  (d_row_I10 R fun n7458 n7459 n7460 n7461 n7462 n7463 n7464 n7465 n7466 n7467 =>
  (p_new R fun p7468 g R =>
  (p_stRow R (cs' := [.int .i64 n7458, .int .i64 n7459, .int .i64 n7460, .int .i64 n7461, .int .i64 n7462, .int .i64 n7463, .int .i64 n7464, .int .i64 n7465, .int .i64 n7466, .int .i64 n7467]) ⟨rfl, rfl, rfl⟩ fun g R =>
  (d_if (ih b7446 p7447 true a7449 l7449 c7449 n7450 (IntKind.i64.wrap (n7451 + 1)) n7452 n7453 n7454 p7455 _ _ R.sub)
  (p_ldI R rfl (d_ldI R fun n7469 =>
  (d_if (p_ldI R rfl (d_ldI R fun n7470 =>
  (ih b7446 p7447 ((n7460 : Int) == n7470) a7449 l7449 c7449 n7450 (IntKind.i64.wrap (n7451 + 1)) n7452 n7453 n7454 p7455 _ _ R.sub)))
  (ih b7446 p7447 false a7449 l7449 c7449 n7450 (IntKind.i64.wrap (n7451 + 1)) n7452 n7453 n7454 p7455 _ _ R.sub))))))))))
  (Hkx17 b7446 p7447 t7448 n7452 n7453 n7454 p7455 _ _ R.sub))

theorem impl_Procs_step_M_j11_D {g0 m0 : H} {kn_1 : Nat → H → Prop} {kn_2 : Int → Int → Int → H → Prop} (Hkn : ∀ (n200001 : Int) (n200002 : Int) (n200003 : Int) (p200004 : Nat) (g m : H), Md g0 m0 g m [lo p200004 [.int .i64 n200001, .int .i64 n200002, .int .i64 n200003]] → kn_2 n200001 n200002 n200003 m → kn_1 p200004 g)
  {kr_1 : Nat → H → Prop} {kr_2 : Int → Int → Int → H → Prop} (Hkr : ∀ (n200001 : Int) (n200002 : Int) (n200003 : Int) (p200004 : Nat) (g m : H), Md g0 m0 g m [lo p200004 [.int .i64 n200001, .int .i64 n200002, .int .i64 n200003]] → kr_2 n200001 n200002 n200003 m → kr_1 p200004 g) : ∀ (p7434 : Option Addr) (b7435 : Nat) (p7436 : Option Addr) (n7437 : Int) (n7438 : Int) (n7439 : Int) (p7440 : Nat) (g m : H), Md g0 m0 g m [lo p7440 [.int .i64 n7437, .int .i64 n7438, .int .i64 n7439]] → impl_Procs_step_M_j11 kn_2 kr_2 p7434 b7435 p7436 n7437 n7438 n7439 m → impl_Procs_step_j11 kn_1 kr_1 p7434 b7435 p7440 p7436 g := by
  intro p7434 b7435 p7436 n7437 n7438 n7439 p7440 g m R
  rw [impl_Procs_step_M_j11, impl_Procs_step_j11]
  exact (d_ldI R fun n7441 =>
  (d_ldI R fun n7442 =>
  (d_nz fun b7443 o7444 =>
  (d_ldL R fun a7445 l7445 c7445 =>
  (d_ex fun N => impl_Procs_step_M_l12_D (by exact fun b7446 p7447 t7448 n7449 n7450 n7451 p7452 g m R =>
  (d_if (d_call R fun v7453 g m R =>
  (d_el_AI3E fun n7454 n7455 n7456 =>
  (p_stRow R (cs' := [.int .i64 n7454, .int .i64 n7455, .int .i64 n7456]) ⟨rfl, rfl, rfl⟩ fun g R =>
  (Hkr n7454 n7455 n7456 p7452 _ _ R.sub))))
  (d_ldI R fun n7457 =>
  (d_nz fun b7458 o7459 =>
  (d_st R fun g m R =>
  (Hkn n7449 n7450 n7451 p7452 _ _ R.sub)))))) N b7435 p7436 ((n7441 : Int) == n7442) a7445 l7445 c7445 (l7445 : Nat) 0 n7437 n7438 n7439 p7440 _ _ R.sub)))))

theorem impl_Procs_step_M_j13_D {g0 m0 : H} {kn_1 : Nat → Nat → Nat → H → Prop} {kn_2 : Nat → Nat → Int → Int → Int → H → Prop} (Hkn : ∀ (b200001 : Nat) (b200002 : Nat) (n200003 : Int) (n200004 : Int) (n200005 : Int) (p200006 : Nat) (g m : H), Md g0 m0 g m [lo p200006 [.int .i64 n200003, .int .i64 n200004, .int .i64 n200005]] → kn_2 b200001 b200002 n200003 n200004 n200005 m → kn_1 b200001 p200006 b200002 g)
  {kr_1 : Nat → H → Prop} {kr_2 : Int → Int → Int → H → Prop} (Hkr : ∀ (n200001 : Int) (n200002 : Int) (n200003 : Int) (p200004 : Nat) (g m : H), Md g0 m0 g m [lo p200004 [.int .i64 n200001, .int .i64 n200002, .int .i64 n200003]] → kr_2 n200001 n200002 n200003 m → kr_1 p200004 g) : ∀ (b8547 : Nat) (b8548 : Nat) (t8549 : Bool) (n8550 : Int) (n8551 : Int) (n8552 : Int) (p8553 : Nat) (g m : H), Md g0 m0 g m [lo p8553 [.int .i64 n8550, .int .i64 n8551, .int .i64 n8552]] → impl_Procs_step_M_j13 kn_2 kr_2 b8547 b8548 t8549 n8550 n8551 n8552 m → impl_Procs_step_j13 kn_1 kr_1 b8547 p8553 b8548 t8549 g := by
  intro b8547 b8548 t8549 n8550 n8551 n8552 p8553 g m R
  rw [impl_Procs_step_M_j13, impl_Procs_step_j13]
  exact (d_if (d_call R fun v8554 g m R =>
  (d_el_AI3E fun n8555 n8556 n8557 =>
  (p_stRow R (cs' := [.int .i64 n8555, .int .i64 n8556, .int .i64 n8557]) ⟨rfl, rfl, rfl⟩ fun g R =>
  (Hkr n8555 n8556 n8557 p8553 _ _ R.sub))))
  (d_ldP R fun p8558 =>
  (d_nz fun b8559 o8560 =>
  (d_ldI R fun n8561 =>
  (d_if (d_ldP R fun p8562 =>
  (d_nz fun b8563 o8564 =>
  (d_ldI R fun n8565 =>
  (d_ldI R fun n8566 =>
  (d_if (d_call R fun v8567 g m R =>
  (d_el_AI3E fun n8568 n8569 n8570 =>
  (p_stRow R (cs' := [.int .i64 n8568, .int .i64 n8569, .int .i64 n8570]) ⟨rfl, rfl, rfl⟩ fun g R =>
  (Hkr n8568 n8569 n8570 p8553 _ _ R.sub))))
  (Hkn b8547 b8548 n8550 n8551 n8552 p8553 _ _ R.sub))))))
  (Hkn b8547 b8548 n8550 n8551 n8552 p8553 _ _ R.sub))))))

theorem impl_Procs_step_M_D {g0 m0 : H} {kr_1 : Nat → H → Prop} {kr_2 : Int → Int → Int → H → Prop} (Hkr : ∀ (n200001 : Int) (n200002 : Int) (n200003 : Int) (p200004 : Nat) (g m : H), Md g0 m0 g m [lo p200004 [.int .i64 n200001, .int .i64 n200002, .int .i64 n200003]] → kr_2 n200001 n200002 n200003 m → kr_1 p200004 g) : ∀ (p1001 : Option Addr) (n1002 : Int) (n1003 : Int) (n1004 : Int) (n1005 : Int) (g m : H), Md g0 m0 g m [] → impl_Procs_step_M kr_2 p1001 n1002 n1003 n1004 n1005 m → impl_Procs_step kr_1 p1001 n1002 n1003 n1004 n1005 g := by
  intro p1001 n1002 n1003 n1004 n1005 g m R
  rw [impl_Procs_step_M, impl_Procs_step]
  exact (d_new R fun b1006 g m R =>
  (p_new R fun p1007 g R =>
  (d_ldI R fun n1008 =>
  (d_if (d_call R fun v1009 g m R =>
  (d_el_AI3E fun n1010 n1011 n1012 =>
  (p_stRow R (cs' := [.int .i64 n1010, .int .i64 n1011, .int .i64 n1012]) ⟨rfl, rfl, rfl⟩ fun g R =>
  (Hkr n1010 n1011 n1012 p1007 _ _ R.sub))))
  (d_ldI R fun n1013 =>
  (d_if (d_call R fun v1014 g m R =>
  (d_el_AI3E fun n1015 n1016 n1017 =>
  (p_stRow R (cs' := [.int .i64 n1015, .int .i64 n1016, .int .i64 n1017]) ⟨rfl, rfl, rfl⟩ fun g R =>
  (Hkr n1015 n1016 n1017 p1007 _ _ R.sub))))
  (d_ldI R fun n1018 =>
  (d_call R fun v1019 g m R =>
  (d_asP fun p1020 =>
  (d_new R fun b1021 g m R =>
  (d_st R fun g m R =>
  (d_ldP R fun p1022 =>
  (d_if (d_call R fun v1023 g m R =>
  (d_el_AI3E fun n1024 n1025 n1026 =>
  (p_stRow R (cs' := [.int .i64 n1024, .int .i64 n1025, .int .i64 n1026]) ⟨rfl, rfl, rfl⟩ fun g R =>
  (Hkr n1024 n1025 n1026 p1007 _ _ R.sub))))
  (d_ldP R fun p1027 =>
  (d_nz fun b1028 o1029 =>
  (d_ldI R fun n1030 =>
  (d_if (d_call R fun v1031 g m R =>
  (d_el_AI3E fun n1032 n1033 n1034 =>
  (p_stRow R (cs' := [.int .i64 n1032, .int .i64 n1033, .int .i64 n1034]) ⟨rfl, rfl, rfl⟩ fun g R =>
  (Hkr n1032 n1033 n1034 p1007 _ _ R.sub))))
  (d_ldI R fun n1035 =>
  (d_if (d_nz fun b1036 o1037 =>
  (d_ldL R fun a1038 l1038 c1038 =>
  (d_if (d_call R fun v1039 g m R =>
  (d_el_AI3E fun n1040 n1041 n1042 =>
  (p_stRow R (cs' := [.int .i64 n1040, .int .i64 n1041, .int .i64 n1042]) ⟨rfl, rfl, rfl⟩ fun g R =>
  (Hkr n1040 n1041 n1042 p1007 _ _ R.sub))))
  (d_ex fun N => impl_Procs_step_M_l0_D (by exact fun p1043 b1044 n1045 n1046 n1047 n1048 p1049 g m R =>
  (d_ldP R fun p1050 =>
  (d_nz fun b1051 o1052 =>
  (d_row_I10 R fun n1053 n1054 n1055 n1056 n1057 n1058 n1059 n1060 n1061 n1062 =>
  (p_new R fun p1063 g R =>
  (p_stRow R (cs' := [.int .i64 n1053, .int .i64 n1054, .int .i64 n1055, .int .i64 n1056, .int .i64 n1057, .int .i64 n1058, .int .i64 n1059, .int .i64 n1060, .int .i64 n1061, .int .i64 n1062]) ⟨rfl, rfl, rfl⟩ fun g R =>
  (d_ldP R fun p1064 =>
  (d_nz fun b1065 o1066 =>
  (d_ldI R fun n1067 =>
  (p_st R (cs' := [.int .i64 (IntKind.i64.wrap (n1045 + 1)), .int .i64 n1054, .int .i64 n1055, .int .i64 n1056, .int .i64 n1057, .int .i64 n1058, .int .i64 n1059, .int .i64 n1060, .int .i64 n1061, .int .i64 n1062]) ⟨rfl, rfl⟩ fun g R =>
  (d_cell R (d_cell R (p_st R (cs' := [.int .i64 (IntKind.i64.wrap (n1045 + 1)), .int .i64 n1067, .int .i64 n1055, .int .i64 n1056, .int .i64 n1057, .int .i64 n1058, .int .i64 n1059, .int .i64 n1060, .int .i64 n1061, .int .i64 n1062]) ⟨rfl, rfl⟩ fun g R =>
  (p_st R (cs' := [.int .i64 (IntKind.i64.wrap (n1045 + 1)), .int .i64 n1067, .int .i64 n1055, .int .i64 n1056, .int .i64 1, .int .i64 n1058, .int .i64 n1059, .int .i64 n1060, .int .i64 n1061, .int .i64 n1062]) ⟨rfl, rfl⟩ fun g R =>
  (p_st R (cs' := [.int .i64 (IntKind.i64.wrap (n1045 + 1)), .int .i64 n1067, .int .i64 n1055, .int .i64 n1056, .int .i64 1, .int .i64 n1058, .int .i64 0, .int .i64 n1060, .int .i64 n1061, .int .i64 n1062]) ⟨rfl, rfl⟩ fun g R =>
  (d_nz fun b1068 o1069 =>
  (d_ldL R fun a1070 l1070 c1070 =>
  (d_req (d_req (d_append R fun a1071 l1071 c1071 g m R =>
  (p_row_I10 R rfl rfl rfl rfl rfl rfl rfl rfl rfl rfl (d_nz fun b1072 o1073 =>
  (d_ldL R fun a1074 l1074 c1074 =>
  (d_req (d_req (d_new R fun b1075 g m R =>
  (d_cell R (d_append R fun a1076 l1076 c1076 g m R =>
  (d_cell R (d_append R fun a1077 l1077 c1077 g m R =>
  (d_nz fun b1078 o1079 =>
  (d_st R fun g m R =>
  (p_ldI R rfl (p_st R (cs' := [.int .i64 n1046, .int .i64 (IntKind.i64.wrap (n1045 + 1)), .int .i64 n1048]) ⟨rfl, rfl⟩ fun g R =>
  (p_row_I3 R rfl rfl rfl (p_stRow R (cs' := [.int .i64 n1046, .int .i64 (IntKind.i64.wrap (n1045 + 1)), .int .i64 n1048]) ⟨rfl, rfl, rfl⟩ fun g R =>
  (Hkr n1046 (IntKind.i64.wrap (n1045 + 1)) n1048 p1049 _ _ R.sub))))))))))))))))))))))))))))))))))))) N p1001 b1021 0 0 0 0 p1007 _ _ R.sub))))
  (d_if (d_ldI R fun n1080 =>
  (d_if (impl_Procs_step_M_j1_D (by exact fun p1081 b1082 n1083 n1084 n1085 p1086 g m R =>
  (d_ldI R fun n1087 =>
  (d_ldI R fun n1088 =>
  (d_call R fun v1089 g m R =>
  (d_el_TE (p_row_I3 R rfl rfl rfl (p_stRow R (cs' := [.int .i64 n1083, .int .i64 n1084, .int .i64 n1085]) ⟨rfl, rfl, rfl⟩ fun g R =>
  (Hkr n1083 n1084 n1085 p1086 _ _ R.sub))))))))
  (by exact fun n1090 n1091 n1092 p1093 g m R =>
  (Hkr n1090 n1091 n1092 p1093 _ _ R.sub)) p1001 b1006 true 0 0 0 p1007 _ _ R.sub)
  (d_ldI R fun n1094 =>
  (impl_Procs_step_M_j1_D (by exact fun p1095 b1096 n1097 n1098 n1099 p1100 g m R =>
  (d_ldI R fun n1101 =>
  (d_ldI R fun n1102 =>
  (d_call R fun v1103 g m R =>
  (d_el_TE (p_row_I3 R rfl rfl rfl (p_stRow R (cs' := [.int .i64 n1097, .int .i64 n1098, .int .i64 n1099]) ⟨rfl, rfl, rfl⟩ fun g R =>
  (Hkr n1097 n1098 n1099 p1100 _ _ R.sub))))))))
  (by exact fun n1104 n1105 n1106 p1107 g m R =>
  (Hkr n1104 n1105 n1106 p1107 _ _ R.sub)) p1001 b1006 (decide ((n1094 : Int) > 255)) 0 0 0 p1007 _ _ R.sub))))
  (d_if (d_nz fun b1108 o1109 =>
  (d_ldL R fun a1110 l1110 c1110 =>
  (d_ex fun N => impl_Procs_step_M_l2_D (by exact fun t1111 n1112 n1113 n1114 p1115 g m R =>
  (d_if (d_call R fun v1116 g m R =>
  (d_el_AI3E fun n1117 n1118 n1119 =>
  (p_stRow R (cs' := [.int .i64 n1117, .int .i64 n1118, .int .i64 n1119]) ⟨rfl, rfl, rfl⟩ fun g R =>
  (Hkr n1117 n1118 n1119 p1115 _ _ R.sub))))
  (d_call R fun v1120 g m R =>
  (d_el_AI3E fun n1121 n1122 n1123 =>
  (p_stRow R (cs' := [.int .i64 n1121, .int .i64 n1122, .int .i64 n1123]) ⟨rfl, rfl, rfl⟩ fun g R =>
  (Hkr n1121 n1122 n1123 p1115 _ _ R.sub))))))
  (by exact fun n1124 n1125 n1126 p1127 g m R =>
  (Hkr n1124 n1125 n1126 p1127 _ _ R.sub)) N p1001 b1006 b1006 b1021 false a1110 l1110 c1110 (l1110 : Nat) 0 0 0 0 p1007 _ _ R.sub)))
  (d_if (d_ldI R fun n1128 =>
  (d_if (d_call R fun v1129 g m R =>
  (d_el_AI3E fun n1130 n1131 n1132 =>
  (p_stRow R (cs' := [.int .i64 n1130, .int .i64 n1131, .int .i64 n1132]) ⟨rfl, rfl, rfl⟩ fun g R =>
  (Hkr n1130 n1131 n1132 p1007 _ _ R.sub))))
  (d_ldI R fun n1133 =>
  (d_if (d_call R fun v1134 g m R =>
  (d_el_AI3E fun n1135 n1136 n1137 =>
  (p_stRow R (cs' := [.int .i64 n1135, .int .i64 n1136, .int .i64 n1137]) ⟨rfl, rfl, rfl⟩ fun g R =>
  (Hkr n1135 n1136 n1137 p1007 _ _ R.sub))))
  (d_nz fun b1138 o1139 =>
  (d_ldL R fun a1140 l1140 c1140 =>
  (d_ex fun N => impl_Procs_step_M_l3_D (by exact fun p1141 b1142 t1143 a1144 l1144 c1144 n1145 n1146 n1147 p1148 g m R =>
  (d_if (d_call R fun v1149 g m R =>
  (d_el_AI3E fun n1150 n1151 n1152 =>
  (p_stRow R (cs' := [.int .i64 n1150, .int .i64 n1151, .int .i64 n1152]) ⟨rfl, rfl, rfl⟩ fun g R =>
  (Hkr n1150 n1151 n1152 p1148 _ _ R.sub))))
  (d_if (d_call R fun v1153 g m R =>
  (d_el_AI3E fun n1154 n1155 n1156 =>
  (p_stRow R (cs' := [.int .i64 n1154, .int .i64 n1155, .int .i64 n1156]) ⟨rfl, rfl, rfl⟩ fun g R =>
  (Hkr n1154 n1155 n1156 p1148 _ _ R.sub))))
  (d_ldI R fun n1157 =>
  (d_if (d_ex fun N => impl_Procs_step_M_l5_D (by exact fun a1158 l1158 c1158 n1159 n1160 n1161 p1162 g m R =>
  (p_st R (cs' := [.int .i64 n1159, .int .i64 (l1158 : Nat), .int .i64 n1161]) ⟨rfl, rfl⟩ fun g R =>
  (p_row_I3 R rfl rfl rfl (p_stRow R (cs' := [.int .i64 n1159, .int .i64 (l1158 : Nat), .int .i64 n1161]) ⟨rfl, rfl, rfl⟩ fun g R =>
  (Hkr n1159 (l1158 : Nat) n1161 p1162 _ _ R.sub))))) N p1141 b1142 a1144 l1144 c1144 a1144 l1144 c1144 (l1144 : Nat) 0 n1145 n1146 n1147 p1148 _ _ R.sub)
  (p_st R (cs' := [.int .i64 n1145, .int .i64 (l1144 : Nat), .int .i64 n1147]) ⟨rfl, rfl⟩ fun g R =>
  (p_row_I3 R rfl rfl rfl (p_stRow R (cs' := [.int .i64 n1145, .int .i64 (l1144 : Nat), .int .i64 n1147]) ⟨rfl, rfl, rfl⟩ fun g R =>
  (Hkr n1145 (l1144 : Nat) n1147 p1148 _ _ R.sub))))))))) N p1001 b1006 b1021 b1006 b1021 false none 0 0 a1140 l1140 c1140 (l1140 : Nat) 0 0 0 0 p1007 _ _ R.sub)))))))
  (d_if (d_ldI R fun n1163 =>
  (d_if (d_call R fun v1164 g m R =>
  (d_el_AI3E fun n1165 n1166 n1167 =>
  (p_stRow R (cs' := [.int .i64 n1165, .int .i64 n1166, .int .i64 n1167]) ⟨rfl, rfl, rfl⟩ fun g R =>
  (Hkr n1165 n1166 n1167 p1007 _ _ R.sub))))
  (d_ldP R fun p1168 =>
  (d_nz fun b1169 o1170 =>
  (d_ldI R fun n1171 =>
  (p_st R (cs' := [.int .i64 0, .int .i64 n1171, .int .i64 0]) ⟨rfl, rfl⟩ fun g R =>
  (d_ldP R fun p1172 =>
  (d_ldI R fun n1173 =>
  (d_nz fun b1174 o1175 =>
  (d_st R fun g m R =>
  (p_row_I3 R rfl rfl rfl (p_stRow R (cs' := [.int .i64 0, .int .i64 n1171, .int .i64 0]) ⟨rfl, rfl, rfl⟩ fun g R =>
  (Hkr 0 n1171 0 p1007 _ _ R.sub)))))))))))))
  (d_if (d_ldI R fun n1176 =>
  (d_if (d_call R fun v1177 g m R =>
  (d_el_AI3E fun n1178 n1179 n1180 =>
  (p_stRow R (cs' := [.int .i64 n1178, .int .i64 n1179, .int .i64 n1180]) ⟨rfl, rfl, rfl⟩ fun g R =>
  (Hkr n1178 n1179 n1180 p1007 _ _ R.sub))))
  (d_ldI R fun n1181 =>
  (d_if (d_call R fun v1182 g m R =>
  (d_el_AI3E fun n1183 n1184 n1185 =>
  (p_stRow R (cs' := [.int .i64 n1183, .int .i64 n1184, .int .i64 n1185]) ⟨rfl, rfl, rfl⟩ fun g R =>
  (Hkr n1183 n1184 n1185 p1007 _ _ R.sub))))
  (d_ldI R fun n1186 =>
  (d_if (d_call R fun v1187 g m R =>
  (d_el_AI3E fun n1188 n1189 n1190 =>
  (p_stRow R (cs' := [.int .i64 n1188, .int .i64 n1189, .int .i64 n1190]) ⟨rfl, rfl, rfl⟩ fun g R =>
  (Hkr n1188 n1189 n1190 p1007 _ _ R.sub))))
  (d_ldI R fun n1191 =>
  (d_if (d_call R fun v1192 g m R =>
  (d_el_AI3E fun n1193 n1194 n1195 =>
  (p_stRow R (cs' := [.int .i64 n1193, .int .i64 n1194, .int .i64 n1195]) ⟨rfl, rfl, rfl⟩ fun g R =>
  (Hkr n1193 n1194 n1195 p1007 _ _ R.sub))))
  (d_ldI R fun n1196 =>
  (d_if (d_call R fun v1197 g m R =>
  (d_el_AI3E fun n1198 n1199 n1200 =>
  (p_stRow R (cs' := [.int .i64 n1198, .int .i64 n1199, .int .i64 n1200]) ⟨rfl, rfl, rfl⟩ fun g R =>
  (Hkr n1198 n1199 n1200 p1007 _ _ R.sub))))
  (d_ldI R fun n1201 =>
  (d_if (d_call R fun v1202 g m R =>
  (d_el_AI3E fun n1203 n1204 n1205 =>
  (p_stRow R (cs' := [.int .i64 n1203, .int .i64 n1204, .int .i64 n1205]) ⟨rfl, rfl, rfl⟩ fun g R =>
  (Hkr n1203 n1204 n1205 p1007 _ _ R.sub))))
  (d_ldI R fun n1206 =>
  (d_req (d_ldP R fun p1207 =>
  (d_nz fun b1208 o1209 =>
  (d_ldI R fun n1210 =>
  (d_nz fun b1211 o1212 =>
  (d_st R fun g m R =>
  (d_ldP R fun p1213 =>
  (d_nz fun b1214 o1215 =>
  (d_ldI R fun n1216 =>
  (d_nz fun b1217 o1218 =>
  (d_st R fun g m R =>
  (d_ldI R fun n1219 =>
  (d_if (d_ldP R fun p1220 =>
  (d_nz fun b1221 o1222 =>
  (d_ldI R fun n1223 =>
  (d_nz fun b1224 o1225 =>
  (d_st R fun g m R =>
  (d_ldP R fun p1226 =>
  (d_nz fun b1227 o1228 =>
  (d_ldI R fun n1229 =>
  (d_nz fun b1230 o1231 =>
  (d_st R fun g m R =>
  (p_row_I3 R rfl rfl rfl (p_stRow R (cs' := [.int .i64 0, .int .i64 0, .int .i64 0]) ⟨rfl, rfl, rfl⟩ fun g R =>
  (Hkr 0 0 0 p1007 _ _ R.sub)))))))))))))
  (d_if (d_ldP R fun p1232 =>
  (d_nz fun b1233 o1234 =>
  (d_ldI R fun n1235 =>
  (d_nz fun b1236 o1237 =>
  (d_st R fun g m R =>
  (p_row_I3 R rfl rfl rfl (p_stRow R (cs' := [.int .i64 0, .int .i64 0, .int .i64 0]) ⟨rfl, rfl, rfl⟩ fun g R =>
  (Hkr 0 0 0 p1007 _ _ R.sub))))))))
  (p_row_I3 R rfl rfl rfl (p_stRow R (cs' := [.int .i64 0, .int .i64 0, .int .i64 0]) ⟨rfl, rfl, rfl⟩ fun g R =>
  (Hkr 0 0 0 p1007 _ _ R.sub))))))))))))))))))))))))))))))
  (d_if (d_ldP R fun p1238 =>
  (d_nz fun b1239 o1240 =>
  (d_ldI R fun n1241 =>
  (d_ldP R fun p1242 =>
  (d_nz fun b1243 o1244 =>
  (d_ldI R fun n1245 =>
  (d_ldP R fun p1246 =>
  (d_nz fun b1247 o1248 =>
  (d_ldI R fun n1249 =>
  (d_if (impl_Procs_step_M_j6_D (by exact fun n1250 n1251 n1252 p1253 g m R =>
  (p_row_I3 R rfl rfl rfl (p_stRow R (cs' := [.int .i64 n1250, .int .i64 n1251, .int .i64 n1252]) ⟨rfl, rfl, rfl⟩ fun g R =>
  (Hkr n1250 n1251 n1252 p1253 _ _ R.sub))))
  (by exact fun n1254 n1255 n1256 p1257 g m R =>
  (Hkr n1254 n1255 n1256 p1257 _ _ R.sub)) p1001 b1006 b1021 (bAnd .i64 (bAndNot .i64 n1241 n1245) 512) 0 0 0 p1007 _ _ R.sub)
  (impl_Procs_step_M_j6_D (by exact fun n1258 n1259 n1260 p1261 g m R =>
  (p_row_I3 R rfl rfl rfl (p_stRow R (cs' := [.int .i64 n1258, .int .i64 n1259, .int .i64 n1260]) ⟨rfl, rfl, rfl⟩ fun g R =>
  (Hkr n1258 n1259 n1260 p1261 _ _ R.sub))))
  (by exact fun n1262 n1263 n1264 p1265 g m R =>
  (Hkr n1262 n1263 n1264 p1265 _ _ R.sub)) p1001 b1006 b1021 (bAndNot .i64 n1241 n1245) 0 0 0 p1007 _ _ R.sub)))))))))))
  (d_if (d_ldI R fun n1266 =>
  (d_call R fun v1267 g m R =>
  (d_asP fun p1268 =>
  (d_if (impl_Procs_step_M_j10_D (by exact fun p1269 b1270 p1271 n1272 n1273 n1274 p1275 g m R =>
  (impl_Procs_step_M_j11_D (by exact fun n1276 n1277 n1278 p1279 g m R =>
  (p_row_I3 R rfl rfl rfl (p_stRow R (cs' := [.int .i64 n1276, .int .i64 n1277, .int .i64 n1278]) ⟨rfl, rfl, rfl⟩ fun g R =>
  (Hkr n1276 n1277 n1278 p1279 _ _ R.sub))))
  (by exact fun n1280 n1281 n1282 p1283 g m R =>
  (Hkr n1280 n1281 n1282 p1283 _ _ R.sub)) p1269 b1270 p1271 n1272 n1273 n1274 p1275 _ _ R.sub))
  (by exact fun n1284 n1285 n1286 p1287 g m R =>
  (Hkr n1284 n1285 n1286 p1287 _ _ R.sub)) p1001 b1006 p1268 true 0 0 0 p1007 _ _ R.sub)
  (d_nz fun b1288 o1289 =>
  (d_ldI R fun n1290 =>
  (d_if (impl_Procs_step_M_j10_D (by exact fun p1291 b1292 p1293 n1294 n1295 n1296 p1297 g m R =>
  (impl_Procs_step_M_j11_D (by exact fun n1298 n1299 n1300 p1301 g m R =>
  (p_row_I3 R rfl rfl rfl (p_stRow R (cs' := [.int .i64 n1298, .int .i64 n1299, .int .i64 n1300]) ⟨rfl, rfl, rfl⟩ fun g R =>
  (Hkr n1298 n1299 n1300 p1301 _ _ R.sub))))
  (by exact fun n1302 n1303 n1304 p1305 g m R =>
  (Hkr n1302 n1303 n1304 p1305 _ _ R.sub)) p1291 b1292 p1293 n1294 n1295 n1296 p1297 _ _ R.sub))
  (by exact fun n1306 n1307 n1308 p1309 g m R =>
  (Hkr n1306 n1307 n1308 p1309 _ _ R.sub)) p1001 b1006 p1268 true 0 0 0 p1007 _ _ R.sub)
  (d_nz fun b1310 o1311 =>
  (d_ldI R fun n1312 =>
  (d_ldI R fun n1313 =>
  (d_if (d_nz fun b1314 o1315 =>
  (d_ldI R fun n1316 =>
  (d_ldI R fun n1317 =>
  (impl_Procs_step_M_j10_D (by exact fun p1318 b1319 p1320 n1321 n1322 n1323 p1324 g m R =>
  (impl_Procs_step_M_j11_D (by exact fun n1325 n1326 n1327 p1328 g m R =>
  (p_row_I3 R rfl rfl rfl (p_stRow R (cs' := [.int .i64 n1325, .int .i64 n1326, .int .i64 n1327]) ⟨rfl, rfl, rfl⟩ fun g R =>
  (Hkr n1325 n1326 n1327 p1328 _ _ R.sub))))
  (by exact fun n1329 n1330 n1331 p1332 g m R =>
  (Hkr n1329 n1330 n1331 p1332 _ _ R.sub)) p1318 b1319 p1320 n1321 n1322 n1323 p1324 _ _ R.sub))
  (by exact fun n1333 n1334 n1335 p1336 g m R =>
  (Hkr n1333 n1334 n1335 p1336 _ _ R.sub)) p1001 b1006 p1268 ((n1316 : Int) != n1317) 0 0 0 p1007 _ _ R.sub))))
  (impl_Procs_step_M_j10_D (by exact fun p1337 b1338 p1339 n1340 n1341 n1342 p1343 g m R =>
  (impl_Procs_step_M_j11_D (by exact fun n1344 n1345 n1346 p1347 g m R =>
  (p_row_I3 R rfl rfl rfl (p_stRow R (cs' := [.int .i64 n1344, .int .i64 n1345, .int .i64 n1346]) ⟨rfl, rfl, rfl⟩ fun g R =>
  (Hkr n1344 n1345 n1346 p1347 _ _ R.sub))))
  (by exact fun n1348 n1349 n1350 p1351 g m R =>
  (Hkr n1348 n1349 n1350 p1351 _ _ R.sub)) p1337 b1338 p1339 n1340 n1341 n1342 p1343 _ _ R.sub))
  (by exact fun n1352 n1353 n1354 p1355 g m R =>
  (Hkr n1352 n1353 n1354 p1355 _ _ R.sub)) p1001 b1006 p1268 false 0 0 0 p1007 _ _ R.sub))))))))))))
  (d_if (d_ldI R fun n1356 =>
  (d_if (impl_Procs_step_M_j13_D (by exact fun b1357 b1358 n1359 n1360 n1361 p1362 g m R =>
  (d_ldP R fun p1363 =>
  (d_ldI R fun n1364 =>
  (d_nz fun b1365 o1366 =>
  (d_st R fun g m R =>
  (p_row_I3 R rfl rfl rfl (p_stRow R (cs' := [.int .i64 n1359, .int .i64 n1360, .int .i64 n1361]) ⟨rfl, rfl, rfl⟩ fun g R =>
  (Hkr n1359 n1360 n1361 p1362 _ _ R.sub))))))))
  (by exact fun n1367 n1368 n1369 p1370 g m R =>
  (Hkr n1367 n1368 n1369 p1370 _ _ R.sub)) b1006 b1021 true 0 0 0 p1007 _ _ R.sub)
  (d_ldI R fun n1371 =>
  (impl_Procs_step_M_j13_D (by exact fun b1372 b1373 n1374 n1375 n1376 p1377 g m R =>
  (d_ldP R fun p1378 =>
  (d_ldI R fun n1379 =>
  (d_nz fun b1380 o1381 =>
  (d_st R fun g m R =>
  (p_row_I3 R rfl rfl rfl (p_stRow R (cs' := [.int .i64 n1374, .int .i64 n1375, .int .i64 n1376]) ⟨rfl, rfl, rfl⟩ fun g R =>
  (Hkr n1374 n1375 n1376 p1377 _ _ R.sub))))))))
  (by exact fun n1382 n1383 n1384 p1385 g m R =>
  (Hkr n1382 n1383 n1384 p1385 _ _ R.sub)) b1006 b1021 (decide ((n1371 : Int) > 255)) 0 0 0 p1007 _ _ R.sub))))
  (p_row_I3 R rfl rfl rfl (p_stRow R (cs' := [.int .i64 0, .int .i64 0, .int .i64 0]) ⟨rfl, rfl, rfl⟩ fun g R =>
  (Hkr 0 0 0 p1007 _ _ R.sub))))))))))))))))))))))))))))))

theorem impl_Procs_step_M_call {p1 : Option Addr} {n2 : Int} {n3 : Int} {n4 : Int} {n5 : Int} {h : H} {K : Value → H → Prop} (hs : impl_Procs_step_M (fun n300001 n300002 n300003 h =>
  K (.agg ⟨[.int .i64 n300001, .int .i64 n300002, .int .i64 n300003]⟩) h) p1 n2 n3 n4 n5 h) : callD Try.prog 26 ⟨[.pointer p1, .agg ⟨[.int .i64 n2, .int .i64 n3, .int .i64 n4, .int .i64 n5]⟩]⟩ h K :=
  fun g r => impl_Procs_step_call (impl_Procs_step_M_D (by exact fun n300001 n300002 n300003 p300004 g m R =>
(p_row_I3 R rfl rfl rfl (fun h => ⟨m, R.af, h⟩))) _ _ _ _ _ _ _ (Md.start r) hs)

noncomputable def code27 : Code := codeOf Try.f27
theorem body27 : Try.f27.body = some code27 := by kernel_rfl
def spec_l16Step_j0 (kr : Nat → Nat → H → Prop) (b110 : Nat) (b111 : Nat) (b112 : Nat) (b113 : Nat) (n114 : Int) (h : H) : Prop :=
  ldL h b110 0 fun a115 l115 c115 =>
  ldI .i64 h b111 3 fun n116 =>
  req (0 ≤ (n114 : Int) ∧ (n114 : Int) < (l115 : Nat))
  (nz a115 fun b117 o118 =>
  st h b117 ((o118 + n114.toNat * 10) + 3) (.int .i64 n116) fun h =>
  ldRow h b110 0 0 [.slice] fun a119 l119 c119 =>
  stRow h b112 0 0 [.slice a119 l119 c119] fun h =>
  stRow h b113 0 0 [.int .i64 0, .int .i64 0, .int .i64 0] fun h =>
  kr b112 b113 h)

def spec_l16Step (kr : Nat → Nat → H → Prop) (a1 : Option Addr) (l1 : Nat) (c1 : Nat) (n2 : Int) (n3 : Int) (n4 : Int) (n5 : Int) (h : H) : Prop :=
  new h [.slice a1 l1 c1] 27 fun b6 h =>
  new h [.int .i64 n2, .int .i64 n3, .int .i64 n4, .int .i64 n5] 30 fun b7 h =>
  new h [.slice none 0 0] 27 fun b8 h =>
  new h [.int .i64 0, .int .i64 0, .int .i64 0] 34 fun b9 h =>
  ldI .i64 h b7 0 fun n10 =>
  ifB (decide ((n10 : Int) < 1))
  (ldRow h b6 0 0 [.slice] fun a11 l11 c11 =>
  stRow h b8 0 0 [.slice a11 l11 c11] fun h =>
  stRow h b9 0 0 [.int .i64 1, .int .i64 0, .int .i64 0] fun h =>
  kr b8 b9 h)
  (ldI .i64 h b7 0 fun n12 =>
  ifB (decide ((n12 : Int) > 9))
  (ldRow h b6 0 0 [.slice] fun a13 l13 c13 =>
  stRow h b8 0 0 [.slice a13 l13 c13] fun h =>
  stRow h b9 0 0 [.int .i64 1, .int .i64 0, .int .i64 0] fun h =>
  kr b8 b9 h)
  (ldRow h b6 0 0 [.slice] fun a14 l14 c14 =>
  ldI .i64 h b7 1 fun n15 =>
  callK Try.prog 25 ⟨[.agg ⟨[.slice a14 l14 c14]⟩, .int .i64 n15]⟩ h fun v16 h =>
  asI .i64 v16 fun n17 =>
  ifB (decide ((n17 : Int) < 0))
  (ldRow h b6 0 0 [.slice] fun a18 l18 c18 =>
  stRow h b8 0 0 [.slice a18 l18 c18] fun h =>
  stRow h b9 0 0 [.int .i64 3, .int .i64 0, .int .i64 0] fun h =>
  kr b8 b9 h)
  (ldL h b6 0 fun a19 l19 c19 =>
  req (0 ≤ (n17 : Int) ∧ (n17 : Int) < (l19 : Nat))
  (nz a19 fun b20 o21 =>
  ldI .i64 h b20 ((o21 + n17.toNat * 10) + 4) fun n22 =>
  ifB ((n22 : Int) == 3)
  (ldRow h b6 0 0 [.slice] fun a23 l23 c23 =>
  stRow h b8 0 0 [.slice a23 l23 c23] fun h =>
  stRow h b9 0 0 [.int .i64 21, .int .i64 0, .int .i64 0] fun h =>
  kr b8 b9 h)
  (ldI .i64 h b7 0 fun n24 =>
  ifB ((n24 : Int) == 1)
  (ldRow h b6 0 0 [.slice] fun a25 l25 c25 =>
  callK Try.prog 37 ⟨[.agg ⟨[.slice a25 l25 c25]⟩, .int .i64 n17]⟩ h fun v26 h =>
  elF False (.tuple [.agg [.slice], .agg [.int .i64, .int .i64, .int .i64]]) v26 fun a27 l27 c27 n28 n29 n30 =>
  stRow h b8 0 0 [.slice a27 l27 c27] fun h =>
  stRow h b9 0 0 [.int .i64 n28, .int .i64 n29, .int .i64 n30] fun h =>
  kr b8 b9 h)
  (ifB ((n24 : Int) == 2)
  (ldI .i64 h b7 3 fun n31 =>
  ifB (decide ((n31 : Int) < 0))
  (ldRow h b6 0 0 [.slice] fun a32 l32 c32 =>
  stRow h b8 0 0 [.slice a32 l32 c32] fun h =>
  stRow h b9 0 0 [.int .i64 1, .int .i64 0, .int .i64 0] fun h =>
  kr b8 b9 h)
  (ldI .i64 h b7 3 fun n33 =>
  ifB (decide ((n33 : Int) > 255))
  (ldRow h b6 0 0 [.slice] fun a34 l34 c34 =>
  stRow h b8 0 0 [.slice a34 l34 c34] fun h =>
  stRow h b9 0 0 [.int .i64 1, .int .i64 0, .int .i64 0] fun h =>
  kr b8 b9 h)
  (ldI .i64 h b7 1 fun n35 =>
  ifB ((n35 : Int) == 1)
  (ldRow h b6 0 0 [.slice] fun a36 l36 c36 =>
  stRow h b8 0 0 [.slice a36 l36 c36] fun h =>
  stRow h b9 0 0 [.int .i64 2, .int .i64 0, .int .i64 0] fun h =>
  kr b8 b9 h)
  (ldRow h b6 0 0 [.slice] fun a37 l37 c37 =>
  ldI .i64 h b7 1 fun n38 =>
  ldI .i64 h b7 3 fun n39 =>
  callK Try.prog 49 ⟨[.agg ⟨[.slice a37 l37 c37]⟩, .int .i64 n38, .int .i64 n39]⟩ h fun v40 h =>
  elF False (.agg [.slice]) v40 fun a41 l41 c41 =>
  stRow h b8 0 0 [.slice a41 l41 c41] fun h =>
  stRow h b9 0 0 [.int .i64 0, .int .i64 0, .int .i64 0] fun h =>
  kr b8 b9 h))))
  (ifB ((n24 : Int) == 3)
  (ldRow h b6 0 0 [.slice] fun a42 l42 c42 =>
  ldI .i64 h b7 2 fun n43 =>
  callK Try.prog 50 ⟨[.agg ⟨[.slice a42 l42 c42]⟩, .int .i64 n17, .int .i64 n43]⟩ h fun v44 h =>
  elF False (.tuple [.agg [.slice], .agg [.int .i64, .int .i64, .int .i64]]) v44 fun a45 l45 c45 n46 n47 n48 =>
  stRow h b8 0 0 [.slice a45 l45 c45] fun h =>
  stRow h b9 0 0 [.int .i64 n46, .int .i64 n47, .int .i64 n48] fun h =>
  kr b8 b9 h)
  (ifB ((n24 : Int) == 4)
  (ldRow h b6 0 0 [.slice] fun a49 l49 c49 =>
  ldRow h b7 0 0 [.int .i64, .int .i64, .int .i64, .int .i64] fun n50 n51 n52 n53 =>
  callK Try.prog 51 ⟨[.agg ⟨[.slice a49 l49 c49]⟩, .int .i64 n17, .agg ⟨[.int .i64 n50, .int .i64 n51, .int .i64 n52, .int .i64 n53]⟩]⟩ h fun v54 h =>
  elF False (.tuple [.agg [.slice], .agg [.int .i64, .int .i64, .int .i64]]) v54 fun a55 l55 c55 n56 n57 n58 =>
  stRow h b8 0 0 [.slice a55 l55 c55] fun h =>
  stRow h b9 0 0 [.int .i64 n56, .int .i64 n57, .int .i64 n58] fun h =>
  kr b8 b9 h)
  (ifB ((n24 : Int) == 5)
  (ldI .i64 h b7 2 fun n59 =>
  callK Try.prog 42 ⟨[.int .i64 n59]⟩ h fun v60 h =>
  asB v60 fun t61 =>
  ifB (!t61)
  (ldRow h b6 0 0 [.slice] fun a62 l62 c62 =>
  stRow h b8 0 0 [.slice a62 l62 c62] fun h =>
  stRow h b9 0 0 [.int .i64 1, .int .i64 0, .int .i64 0] fun h =>
  kr b8 b9 h)
  (ldL h b6 0 fun a63 l63 c63 =>
  req (0 ≤ (n17 : Int) ∧ (n17 : Int) < (l63 : Nat))
  (nz a63 fun b64 o65 =>
  ldI .i64 h b64 ((o65 + n17.toNat * 10) + 7) fun n66 =>
  new h [.int .i64 0, .int .i64 0, .int .i64 0] 34 fun b67 h =>
  stRow h b67 0 0 [.int .i64 0, .int .i64 n66, .int .i64 0] fun h =>
  ldL h b6 0 fun a68 l68 c68 =>
  ldI .i64 h b7 2 fun n69 =>
  callK Try.prog 52 ⟨[.int .i64 n69, .int .i64 9]⟩ h fun v70 h =>
  asI .i64 v70 fun n71 =>
  cell h b6 0 = some (.slice a68 l68 c68) ∧ (callK Try.prog 52 ⟨[.int .i64 n71, .int .i64 12]⟩ h fun v72 h =>
  asI .i64 v72 fun n73 =>
  cell h b6 0 = some (.slice a68 l68 c68) ∧ (req (0 ≤ (n17 : Int) ∧ (n17 : Int) < (l68 : Nat))
  (nz a68 fun b74 o75 =>
  st h b74 ((o75 + n17.toNat * 10) + 7) (.int .i64 n73) fun h =>
  ldRow h b6 0 0 [.slice] fun a76 l76 c76 =>
  ldRow h b67 0 0 [.int .i64, .int .i64, .int .i64] fun n77 n78 n79 =>
  stRow h b8 0 0 [.slice a76 l76 c76] fun h =>
  heldRow h b67 0 0 [.int .i64 n77, .int .i64 n78, .int .i64 n79] (stRow h b9 0 0 [.int .i64 n77, .int .i64 n78, .int .i64 n79] fun h =>
  kr b8 b9 h)))))))
  (ifB ((n24 : Int) == 6)
  (ldRow h b6 0 0 [.slice] fun a80 l80 c80 =>
  ldRow h b7 0 0 [.int .i64, .int .i64, .int .i64, .int .i64] fun n81 n82 n83 n84 =>
  callK Try.prog 53 ⟨[.agg ⟨[.slice a80 l80 c80]⟩, .int .i64 n17, .agg ⟨[.int .i64 n81, .int .i64 n82, .int .i64 n83, .int .i64 n84]⟩]⟩ h fun v85 h =>
  elF False (.tuple [.agg [.slice], .agg [.int .i64, .int .i64, .int .i64]]) v85 fun a86 l86 c86 n87 n88 n89 =>
  stRow h b8 0 0 [.slice a86 l86 c86] fun h =>
  stRow h b9 0 0 [.int .i64 n87, .int .i64 n88, .int .i64 n89] fun h =>
  kr b8 b9 h)
  (ifB ((n24 : Int) == 7)
  (ldRow h b6 0 0 [.slice] fun a90 l90 c90 =>
  callK Try.prog 54 ⟨[.agg ⟨[.slice a90 l90 c90]⟩, .int .i64 n17]⟩ h fun v91 h =>
  elF False (.tuple [.agg [.slice], .agg [.int .i64, .int .i64, .int .i64]]) v91 fun a92 l92 c92 n93 n94 n95 =>
  stRow h b8 0 0 [.slice a92 l92 c92] fun h =>
  stRow h b9 0 0 [.int .i64 n93, .int .i64 n94, .int .i64 n95] fun h =>
  kr b8 b9 h)
  (ifB ((n24 : Int) == 8)
  (ldRow h b6 0 0 [.slice] fun a96 l96 c96 =>
  ldRow h b7 0 0 [.int .i64, .int .i64, .int .i64, .int .i64] fun n97 n98 n99 n100 =>
  callK Try.prog 55 ⟨[.agg ⟨[.slice a96 l96 c96]⟩, .int .i64 n17, .agg ⟨[.int .i64 n97, .int .i64 n98, .int .i64 n99, .int .i64 n100]⟩]⟩ h fun v101 h =>
  elF False (.tuple [.agg [.slice], .agg [.int .i64, .int .i64, .int .i64]]) v101 fun a102 l102 c102 n103 n104 n105 =>
  stRow h b8 0 0 [.slice a102 l102 c102] fun h =>
  stRow h b9 0 0 [.int .i64 n103, .int .i64 n104, .int .i64 n105] fun h =>
  kr b8 b9 h)
  (ldI .i64 h b7 3 fun n106 =>
  ifB (decide ((n106 : Int) < 0))
  (ldRow h b6 0 0 [.slice] fun a107 l107 c107 =>
  stRow h b8 0 0 [.slice a107 l107 c107] fun h =>
  stRow h b9 0 0 [.int .i64 1, .int .i64 0, .int .i64 0] fun h =>
  kr b8 b9 h)
  (ldI .i64 h b7 3 fun n108 =>
  ifB (decide ((n108 : Int) > 255))
  (ldRow h b6 0 0 [.slice] fun a109 l109 c109 =>
  stRow h b8 0 0 [.slice a109 l109 c109] fun h =>
  stRow h b9 0 0 [.int .i64 1, .int .i64 0, .int .i64 0] fun h =>
  kr b8 b9 h)
  (ldL h b6 0 fun a110 l110 c110 =>
  req (0 ≤ (n17 : Int) ∧ (n17 : Int) < (l110 : Nat))
  (nz a110 fun b111 o112 =>
  ldI .i64 h b111 ((o112 + n17.toNat * 10) + 3) fun n113 =>
  ifB ((n113 : Int) != 0)
  (ldL h b6 0 fun a114 l114 c114 =>
  req (0 ≤ (n17 : Int) ∧ (n17 : Int) < (l114 : Nat))
  (nz a114 fun b115 o116 =>
  ldI .i64 h b115 ((o116 + n17.toNat * 10) + 3) fun n117 =>
  ldI .i64 h b7 3 fun n118 =>
  ifB ((n117 : Int) != n118)
  (ldRow h b6 0 0 [.slice] fun a119 l119 c119 =>
  stRow h b8 0 0 [.slice a119 l119 c119] fun h =>
  stRow h b9 0 0 [.int .i64 2, .int .i64 0, .int .i64 0] fun h =>
  kr b8 b9 h)
  (spec_l16Step_j0 kr b6 b7 b8 b9 n17 h)))
  (spec_l16Step_j0 kr b6 b7 b8 b9 n17 h)))))))))))))))))

theorem spec_l16Step_j0_eq (K : Cont) (b110 : Nat) (b111 : Nat) (b112 : Nat) (b113 : Nat) (n114 : Int) (h : H) :
  spec_l16Step_j0 (curV [(4, .blk), (5, .blk)] (K .ret)) b110 b111 b112 b113 n114 h = evC Try.prog 173 [] [] (sub code27 [true, true, true, true, true, true, true, true]) [(2, .pointer (some ⟨b110, 0, none⟩)), (3, .pointer (some ⟨b111, 0, none⟩)), (4, .pointer (some ⟨b112, 0, none⟩)), (5, .pointer (some ⟨b113, 0, none⟩)), (6, .int .i64 n114)] h (outsOf none [] (some [(4, .blk), (5, .blk)]) K).K := by kernel_rfl

def spec_l16Step_j0_F : PT := mkF [(2, .blk), (3, .blk), (4, .blk), (5, .blk), (6, .int .i64)] fun K => spec_l16Step_j0 (curV [(4, .blk), (5, .blk)] (K .ret))

theorem spec_l16Step_j0_V : Valid Try.prog 173 (sub code27 [true, true, true, true, true, true, true, true]) spec_l16Step_j0_F :=
  piece mixed rows_nil (fun K => by intro b110 b111 b112 b113 n114 h hd; exact (spec_l16Step_j0_eq K b110 b111 b112 b113 n114 h) ▸ hd)

theorem spec_l16Step_eq (K : Cont) (a1 : Option Addr) (l1 : Nat) (c1 : Nat) (n2 : Int) (n3 : Int) (n4 : Int) (n5 : Int) (h : H) :
  spec_l16Step (curV [(4, .blk), (5, .blk)] (K .ret)) a1 l1 c1 n2 n3 n4 n5 h = evC Try.prog 173 [([true, true, true, true, true, true, true, true], spec_l16Step_j0_F)] [] code27 [(0, .agg ⟨[.slice a1 l1 c1]⟩), (1, .agg ⟨[.int .i64 n2, .int .i64 n3, .int .i64 n4, .int .i64 n5]⟩)] h (outsOf none [] (some [(4, .blk), (5, .blk)]) K).K := by kernel_rfl

def spec_l16Step_F : PT := mkF [(0, .agg [.slice]), (1, .agg [.int .i64, .int .i64, .int .i64, .int .i64])] fun K => spec_l16Step (curV [(4, .blk), (5, .blk)] (K .ret))

theorem spec_l16Step_V : Valid Try.prog 173 code27 spec_l16Step_F :=
  piece mixed (rows_cons (q' := [true, true, true, true, true, true, true, true]) spec_l16Step_j0_V rfl rows_nil) (fun K => by intro a1 l1 c1 n2 n3 n4 n5 h hd; exact (spec_l16Step_eq K a1 l1 c1 n2 n3 n4 n5 h) ▸ hd)

theorem spec_l16Step_c0 (a1 : Option Addr) (l1 : Nat) (c1 : Nat) (n2 : Int) (n3 : Int) (n4 : Int) (n5 : Int) (h : H) (K : Value → H → Prop) :
  spec_l16Step (fun b100001 b100002 h =>
  ldRow h b100001 0 0 [.slice] fun a100003 l100003 c100003 =>
  ldRow h b100002 0 0 [.int .i64, .int .i64, .int .i64] fun n100004 n100005 n100006 =>
  K (.tuple ⟨[.agg ⟨[.slice a100003 l100003 c100003]⟩, .agg ⟨[.int .i64 n100004, .int .i64 n100005, .int .i64 n100006]⟩]⟩) h) a1 l1 c1 n2 n3 n4 n5 h = callF Try.prog Try.f27.results.toList spec_l16Step_F [.agg ⟨[.slice a1 l1 c1]⟩, .agg ⟨[.int .i64 n2, .int .i64 n3, .int .i64 n4, .int .i64 n5]⟩] h K := by kernel_rfl

theorem spec_l16Step_call {a1 : Option Addr} {l1 : Nat} {c1 : Nat} {n2 : Int} {n3 : Int} {n4 : Int} {n5 : Int} {h : H} {K : Value → H → Prop} (hs : spec_l16Step (fun b100001 b100002 h =>
  ldRow h b100001 0 0 [.slice] fun a100003 l100003 c100003 =>
  ldRow h b100002 0 0 [.int .i64, .int .i64, .int .i64] fun n100004 n100005 n100006 =>
  K (.tuple ⟨[.agg ⟨[.slice a100003 l100003 c100003]⟩, .agg ⟨[.int .i64 n100004, .int .i64 n100005, .int .i64 n100006]⟩]⟩) h) a1 l1 c1 n2 n3 n4 n5 h) : callK Try.prog 27 ⟨[.agg ⟨[.slice a1 l1 c1]⟩, .agg ⟨[.int .i64 n2, .int .i64 n3, .int .i64 n4, .int .i64 n5]⟩]⟩ h K :=
  func_calls Try.func27 body27 spec_l16Step_V (Nat.le_of_ble_eq_true (by kernel_rfl)) (spec_l16Step_c0 a1 l1 c1 n2 n3 n4 n5 h K ▸ hs)

def spec_l16Step_M_j0 (kr : Option Addr → Nat → Nat → Int → Int → Int → H → Prop) (n54 : Int) (a55 : Option Addr) (l55 : Nat) (c55 : Nat) (n60 : Int) (h : H) : Prop :=
  req (0 ≤ (n54 : Int) ∧ (n54 : Int) < (l55 : Nat))
  (nz a55 fun b68 o69 =>
  st h b68 ((o69 + n54.toNat * 10) + 3) (.int .i64 n60) fun h =>
  kr a55 l55 c55 0 0 0 h)

def spec_l16Step_M (kr : Option Addr → Nat → Nat → Int → Int → Int → H → Prop) (a1 : Option Addr) (l1 : Nat) (c1 : Nat) (n2 : Int) (n3 : Int) (n4 : Int) (n5 : Int) (h : H) : Prop :=
  ifB (decide ((n2 : Int) < 1))
  (kr a1 l1 c1 1 0 0 h)
  (ifB (decide ((n2 : Int) > 9))
  (kr a1 l1 c1 1 0 0 h)
  (callD Try.prog 25 ⟨[.agg ⟨[.slice a1 l1 c1]⟩, .int .i64 n3]⟩ h fun v6 h =>
  asI .i64 v6 fun n7 =>
  ifB (decide ((n7 : Int) < 0))
  (kr a1 l1 c1 3 0 0 h)
  (req (0 ≤ (n7 : Int) ∧ (n7 : Int) < (l1 : Nat))
  (nz a1 fun b8 o9 =>
  ldI .i64 h b8 ((o9 + n7.toNat * 10) + 4) fun n10 =>
  ifB ((n10 : Int) == 3)
  (kr a1 l1 c1 21 0 0 h)
  (ifB ((n2 : Int) == 1)
  (callD Try.prog 37 ⟨[.agg ⟨[.slice a1 l1 c1]⟩, .int .i64 n7]⟩ h fun v11 h =>
  elF False (.tuple [.agg [.slice], .agg [.int .i64, .int .i64, .int .i64]]) v11 fun a12 l12 c12 n13 n14 n15 =>
  kr a12 l12 c12 n13 n14 n15 h)
  (ifB ((n2 : Int) == 2)
  (ifB (decide ((n5 : Int) < 0))
  (kr a1 l1 c1 1 0 0 h)
  (ifB (decide ((n5 : Int) > 255))
  (kr a1 l1 c1 1 0 0 h)
  (ifB ((n3 : Int) == 1)
  (kr a1 l1 c1 2 0 0 h)
  (callD Try.prog 49 ⟨[.agg ⟨[.slice a1 l1 c1]⟩, .int .i64 n3, .int .i64 n5]⟩ h fun v16 h =>
  elF False (.agg [.slice]) v16 fun a17 l17 c17 =>
  kr a17 l17 c17 0 0 0 h))))
  (ifB ((n2 : Int) == 3)
  (callD Try.prog 50 ⟨[.agg ⟨[.slice a1 l1 c1]⟩, .int .i64 n7, .int .i64 n4]⟩ h fun v18 h =>
  elF False (.tuple [.agg [.slice], .agg [.int .i64, .int .i64, .int .i64]]) v18 fun a19 l19 c19 n20 n21 n22 =>
  kr a19 l19 c19 n20 n21 n22 h)
  (ifB ((n2 : Int) == 4)
  (callD Try.prog 51 ⟨[.agg ⟨[.slice a1 l1 c1]⟩, .int .i64 n7, .agg ⟨[.int .i64 n2, .int .i64 n3, .int .i64 n4, .int .i64 n5]⟩]⟩ h fun v23 h =>
  elF False (.tuple [.agg [.slice], .agg [.int .i64, .int .i64, .int .i64]]) v23 fun a24 l24 c24 n25 n26 n27 =>
  kr a24 l24 c24 n25 n26 n27 h)
  (ifB ((n2 : Int) == 5)
  (callD Try.prog 42 ⟨[.int .i64 n4]⟩ h fun v28 h =>
  asB v28 fun t29 =>
  ifB (!t29)
  (kr a1 l1 c1 1 0 0 h)
  (req (0 ≤ (n7 : Int) ∧ (n7 : Int) < (l1 : Nat))
  (nz a1 fun b30 o31 =>
  ldI .i64 h b30 ((o31 + n7.toNat * 10) + 7) fun n32 =>
  callD Try.prog 52 ⟨[.int .i64 n4, .int .i64 9]⟩ h fun v33 h =>
  asI .i64 v33 fun n34 =>
  callD Try.prog 52 ⟨[.int .i64 n34, .int .i64 12]⟩ h fun v35 h =>
  asI .i64 v35 fun n36 =>
  req (0 ≤ (n7 : Int) ∧ (n7 : Int) < (l1 : Nat))
  (nz a1 fun b37 o38 =>
  st h b37 ((o38 + n7.toNat * 10) + 7) (.int .i64 n36) fun h =>
  kr a1 l1 c1 0 n32 0 h))))
  (ifB ((n2 : Int) == 6)
  (callD Try.prog 53 ⟨[.agg ⟨[.slice a1 l1 c1]⟩, .int .i64 n7, .agg ⟨[.int .i64 n2, .int .i64 n3, .int .i64 n4, .int .i64 n5]⟩]⟩ h fun v39 h =>
  elF False (.tuple [.agg [.slice], .agg [.int .i64, .int .i64, .int .i64]]) v39 fun a40 l40 c40 n41 n42 n43 =>
  kr a40 l40 c40 n41 n42 n43 h)
  (ifB ((n2 : Int) == 7)
  (callD Try.prog 54 ⟨[.agg ⟨[.slice a1 l1 c1]⟩, .int .i64 n7]⟩ h fun v44 h =>
  elF False (.tuple [.agg [.slice], .agg [.int .i64, .int .i64, .int .i64]]) v44 fun a45 l45 c45 n46 n47 n48 =>
  kr a45 l45 c45 n46 n47 n48 h)
  (ifB ((n2 : Int) == 8)
  (callD Try.prog 55 ⟨[.agg ⟨[.slice a1 l1 c1]⟩, .int .i64 n7, .agg ⟨[.int .i64 n2, .int .i64 n3, .int .i64 n4, .int .i64 n5]⟩]⟩ h fun v49 h =>
  elF False (.tuple [.agg [.slice], .agg [.int .i64, .int .i64, .int .i64]]) v49 fun a50 l50 c50 n51 n52 n53 =>
  kr a50 l50 c50 n51 n52 n53 h)
  (ifB (decide ((n5 : Int) < 0))
  (kr a1 l1 c1 1 0 0 h)
  (ifB (decide ((n5 : Int) > 255))
  (kr a1 l1 c1 1 0 0 h)
  (req (0 ≤ (n7 : Int) ∧ (n7 : Int) < (l1 : Nat))
  (nz a1 fun b54 o55 =>
  ldI .i64 h b54 ((o55 + n7.toNat * 10) + 3) fun n56 =>
  ifB ((n56 : Int) != 0)
  (req (0 ≤ (n7 : Int) ∧ (n7 : Int) < (l1 : Nat))
  (nz a1 fun b57 o58 =>
  ldI .i64 h b57 ((o58 + n7.toNat * 10) + 3) fun n59 =>
  ifB ((n59 : Int) != n5)
  (kr a1 l1 c1 2 0 0 h)
  (spec_l16Step_M_j0 kr n7 a1 l1 c1 n5 h)))
  (spec_l16Step_M_j0 kr n7 a1 l1 c1 n5 h)))))))))))))))))

theorem spec_l16Step_M_j0_D {g0 m0 : H} {kr_1 : Nat → Nat → H → Prop} {kr_2 : Option Addr → Nat → Nat → Int → Int → Int → H → Prop} (Hkr : ∀ (a200001 : Option Addr) (l200001 : Nat) (c200001 : Nat) (n200003 : Int) (n200004 : Int) (n200005 : Int) (p200002 : Nat) (p200006 : Nat) (g m : H), Md g0 m0 g m [lo p200002 [.slice a200001 l200001 c200001], lo p200006 [.int .i64 n200003, .int .i64 n200004, .int .i64 n200005]] → kr_2 a200001 l200001 c200001 n200003 n200004 n200005 m → kr_1 p200002 p200006 g) : ∀ (n1054 : Int) (a1055 : Option Addr) (l1055 : Nat) (c1055 : Nat) (n1057 : Int) (n1058 : Int) (n1059 : Int) (n1060 : Int) (a1062 : Option Addr) (l1062 : Nat) (c1062 : Nat) (n1064 : Int) (n1065 : Int) (n1066 : Int) (p1056 : Nat) (p1061 : Nat) (p1063 : Nat) (p1067 : Nat) (g m : H), Md g0 m0 g m [lo p1056 [.slice a1055 l1055 c1055], lo p1061 [.int .i64 n1057, .int .i64 n1058, .int .i64 n1059, .int .i64 n1060], lo p1063 [.slice a1062 l1062 c1062], lo p1067 [.int .i64 n1064, .int .i64 n1065, .int .i64 n1066]] → spec_l16Step_M_j0 kr_2 n1054 a1055 l1055 c1055 n1060 m → spec_l16Step_j0 kr_1 p1056 p1061 p1063 p1067 n1054 g := by
  intro n1054 a1055 l1055 c1055 n1057 n1058 n1059 n1060 a1062 l1062 c1062 n1064 n1065 n1066 p1056 p1061 p1063 p1067 g m R
  rw [spec_l16Step_M_j0, spec_l16Step_j0]
  exact (p_ldL R rfl (p_ldI R rfl (d_req (d_nz fun b1068 o1069 =>
  (d_st R fun g m R =>
  (p_row_L R rfl (p_stRow R (cs' := [.slice a1055 l1055 c1055]) ⟨rfl, rfl, rfl⟩ fun g R =>
  (p_stRow R (cs' := [.int .i64 0, .int .i64 0, .int .i64 0]) ⟨rfl, rfl, rfl⟩ fun g R =>
  (Hkr a1055 l1055 c1055 0 0 0 p1063 p1067 _ _ R.sub)))))))))

theorem spec_l16Step_M_D {g0 m0 : H} {kr_1 : Nat → Nat → H → Prop} {kr_2 : Option Addr → Nat → Nat → Int → Int → Int → H → Prop} (Hkr : ∀ (a200001 : Option Addr) (l200001 : Nat) (c200001 : Nat) (n200003 : Int) (n200004 : Int) (n200005 : Int) (p200002 : Nat) (p200006 : Nat) (g m : H), Md g0 m0 g m [lo p200002 [.slice a200001 l200001 c200001], lo p200006 [.int .i64 n200003, .int .i64 n200004, .int .i64 n200005]] → kr_2 a200001 l200001 c200001 n200003 n200004 n200005 m → kr_1 p200002 p200006 g) : ∀ (a1001 : Option Addr) (l1001 : Nat) (c1001 : Nat) (n1002 : Int) (n1003 : Int) (n1004 : Int) (n1005 : Int) (g m : H), Md g0 m0 g m [] → spec_l16Step_M kr_2 a1001 l1001 c1001 n1002 n1003 n1004 n1005 m → spec_l16Step kr_1 a1001 l1001 c1001 n1002 n1003 n1004 n1005 g := by
  intro a1001 l1001 c1001 n1002 n1003 n1004 n1005 g m R
  rw [spec_l16Step_M, spec_l16Step]
  exact (p_new R fun p1006 g R =>
  (p_new R fun p1007 g R =>
  (p_new R fun p1008 g R =>
  (p_new R fun p1009 g R =>
  (p_ldI R rfl (d_if (p_row_L R rfl (p_stRow R (cs' := [.slice a1001 l1001 c1001]) ⟨rfl, rfl, rfl⟩ fun g R =>
  (p_stRow R (cs' := [.int .i64 1, .int .i64 0, .int .i64 0]) ⟨rfl, rfl, rfl⟩ fun g R =>
  (Hkr a1001 l1001 c1001 1 0 0 p1008 p1009 _ _ R.sub))))
  (p_ldI R rfl (d_if (p_row_L R rfl (p_stRow R (cs' := [.slice a1001 l1001 c1001]) ⟨rfl, rfl, rfl⟩ fun g R =>
  (p_stRow R (cs' := [.int .i64 1, .int .i64 0, .int .i64 0]) ⟨rfl, rfl, rfl⟩ fun g R =>
  (Hkr a1001 l1001 c1001 1 0 0 p1008 p1009 _ _ R.sub))))
  (p_row_L R rfl (p_ldI R rfl (d_call R fun v1010 g m R =>
  (d_asI fun n1011 =>
  (d_if (p_row_L R rfl (p_stRow R (cs' := [.slice a1001 l1001 c1001]) ⟨rfl, rfl, rfl⟩ fun g R =>
  (p_stRow R (cs' := [.int .i64 3, .int .i64 0, .int .i64 0]) ⟨rfl, rfl, rfl⟩ fun g R =>
  (Hkr a1001 l1001 c1001 3 0 0 p1008 p1009 _ _ R.sub))))
  (p_ldL R rfl (d_req (d_nz fun b1012 o1013 =>
  (d_ldI R fun n1014 =>
  (d_if (p_row_L R rfl (p_stRow R (cs' := [.slice a1001 l1001 c1001]) ⟨rfl, rfl, rfl⟩ fun g R =>
  (p_stRow R (cs' := [.int .i64 21, .int .i64 0, .int .i64 0]) ⟨rfl, rfl, rfl⟩ fun g R =>
  (Hkr a1001 l1001 c1001 21 0 0 p1008 p1009 _ _ R.sub))))
  (p_ldI R rfl (d_if (p_row_L R rfl (d_call R fun v1015 g m R =>
  (d_el_TALEAI3EE fun a1016 l1016 c1016 n1017 n1018 n1019 =>
  (p_stRow R (cs' := [.slice a1016 l1016 c1016]) ⟨rfl, rfl, rfl⟩ fun g R =>
  (p_stRow R (cs' := [.int .i64 n1017, .int .i64 n1018, .int .i64 n1019]) ⟨rfl, rfl, rfl⟩ fun g R =>
  (Hkr a1016 l1016 c1016 n1017 n1018 n1019 p1008 p1009 _ _ R.sub))))))
  (d_if (p_ldI R rfl (d_if (p_row_L R rfl (p_stRow R (cs' := [.slice a1001 l1001 c1001]) ⟨rfl, rfl, rfl⟩ fun g R =>
  (p_stRow R (cs' := [.int .i64 1, .int .i64 0, .int .i64 0]) ⟨rfl, rfl, rfl⟩ fun g R =>
  (Hkr a1001 l1001 c1001 1 0 0 p1008 p1009 _ _ R.sub))))
  (p_ldI R rfl (d_if (p_row_L R rfl (p_stRow R (cs' := [.slice a1001 l1001 c1001]) ⟨rfl, rfl, rfl⟩ fun g R =>
  (p_stRow R (cs' := [.int .i64 1, .int .i64 0, .int .i64 0]) ⟨rfl, rfl, rfl⟩ fun g R =>
  (Hkr a1001 l1001 c1001 1 0 0 p1008 p1009 _ _ R.sub))))
  (p_ldI R rfl (d_if (p_row_L R rfl (p_stRow R (cs' := [.slice a1001 l1001 c1001]) ⟨rfl, rfl, rfl⟩ fun g R =>
  (p_stRow R (cs' := [.int .i64 2, .int .i64 0, .int .i64 0]) ⟨rfl, rfl, rfl⟩ fun g R =>
  (Hkr a1001 l1001 c1001 2 0 0 p1008 p1009 _ _ R.sub))))
  (p_row_L R rfl (p_ldI R rfl (p_ldI R rfl (d_call R fun v1020 g m R =>
  (d_el_ALE fun a1021 l1021 c1021 =>
  (p_stRow R (cs' := [.slice a1021 l1021 c1021]) ⟨rfl, rfl, rfl⟩ fun g R =>
  (p_stRow R (cs' := [.int .i64 0, .int .i64 0, .int .i64 0]) ⟨rfl, rfl, rfl⟩ fun g R =>
  (Hkr a1021 l1021 c1021 0 0 0 p1008 p1009 _ _ R.sub))))))))))))))
  (d_if (p_row_L R rfl (p_ldI R rfl (d_call R fun v1022 g m R =>
  (d_el_TALEAI3EE fun a1023 l1023 c1023 n1024 n1025 n1026 =>
  (p_stRow R (cs' := [.slice a1023 l1023 c1023]) ⟨rfl, rfl, rfl⟩ fun g R =>
  (p_stRow R (cs' := [.int .i64 n1024, .int .i64 n1025, .int .i64 n1026]) ⟨rfl, rfl, rfl⟩ fun g R =>
  (Hkr a1023 l1023 c1023 n1024 n1025 n1026 p1008 p1009 _ _ R.sub)))))))
  (d_if (p_row_L R rfl (p_row_I4 R rfl rfl rfl rfl (d_call R fun v1027 g m R =>
  (d_el_TALEAI3EE fun a1028 l1028 c1028 n1029 n1030 n1031 =>
  (p_stRow R (cs' := [.slice a1028 l1028 c1028]) ⟨rfl, rfl, rfl⟩ fun g R =>
  (p_stRow R (cs' := [.int .i64 n1029, .int .i64 n1030, .int .i64 n1031]) ⟨rfl, rfl, rfl⟩ fun g R =>
  (Hkr a1028 l1028 c1028 n1029 n1030 n1031 p1008 p1009 _ _ R.sub)))))))
  (d_if (p_ldI R rfl (d_call R fun v1032 g m R =>
  (d_asB fun t1033 =>
  (d_if (p_row_L R rfl (p_stRow R (cs' := [.slice a1001 l1001 c1001]) ⟨rfl, rfl, rfl⟩ fun g R =>
  (p_stRow R (cs' := [.int .i64 1, .int .i64 0, .int .i64 0]) ⟨rfl, rfl, rfl⟩ fun g R =>
  (Hkr a1001 l1001 c1001 1 0 0 p1008 p1009 _ _ R.sub))))
  (p_ldL R rfl (d_req (d_nz fun b1034 o1035 =>
  (d_ldI R fun n1036 =>
  (p_new R fun p1037 g R =>
  (p_stRow R (cs' := [.int .i64 0, .int .i64 n1036, .int .i64 0]) ⟨rfl, rfl, rfl⟩ fun g R =>
  (p_ldL R rfl (p_ldI R rfl (d_call R fun v1038 g m R =>
  (d_asI fun n1039 =>
  (p_cell R rfl (d_call R fun v1040 g m R =>
  (d_asI fun n1041 =>
  (p_cell R rfl (d_req (d_nz fun b1042 o1043 =>
  (d_st R fun g m R =>
  (p_row_L R rfl (p_row_I3 R rfl rfl rfl (p_stRow R (cs' := [.slice a1001 l1001 c1001]) ⟨rfl, rfl, rfl⟩ fun g R =>
  (p_held R rfl (p_stRow R (cs' := [.int .i64 0, .int .i64 n1036, .int .i64 0]) ⟨rfl, rfl, rfl⟩ fun g R =>
  (Hkr a1001 l1001 c1001 0 n1036 0 p1008 p1009 _ _ R.sub)))))))))))))))))))))))))))
  (d_if (p_row_L R rfl (p_row_I4 R rfl rfl rfl rfl (d_call R fun v1044 g m R =>
  (d_el_TALEAI3EE fun a1045 l1045 c1045 n1046 n1047 n1048 =>
  (p_stRow R (cs' := [.slice a1045 l1045 c1045]) ⟨rfl, rfl, rfl⟩ fun g R =>
  (p_stRow R (cs' := [.int .i64 n1046, .int .i64 n1047, .int .i64 n1048]) ⟨rfl, rfl, rfl⟩ fun g R =>
  (Hkr a1045 l1045 c1045 n1046 n1047 n1048 p1008 p1009 _ _ R.sub)))))))
  (d_if (p_row_L R rfl (d_call R fun v1049 g m R =>
  (d_el_TALEAI3EE fun a1050 l1050 c1050 n1051 n1052 n1053 =>
  (p_stRow R (cs' := [.slice a1050 l1050 c1050]) ⟨rfl, rfl, rfl⟩ fun g R =>
  (p_stRow R (cs' := [.int .i64 n1051, .int .i64 n1052, .int .i64 n1053]) ⟨rfl, rfl, rfl⟩ fun g R =>
  (Hkr a1050 l1050 c1050 n1051 n1052 n1053 p1008 p1009 _ _ R.sub))))))
  (d_if (p_row_L R rfl (p_row_I4 R rfl rfl rfl rfl (d_call R fun v1054 g m R =>
  (d_el_TALEAI3EE fun a1055 l1055 c1055 n1056 n1057 n1058 =>
  (p_stRow R (cs' := [.slice a1055 l1055 c1055]) ⟨rfl, rfl, rfl⟩ fun g R =>
  (p_stRow R (cs' := [.int .i64 n1056, .int .i64 n1057, .int .i64 n1058]) ⟨rfl, rfl, rfl⟩ fun g R =>
  (Hkr a1055 l1055 c1055 n1056 n1057 n1058 p1008 p1009 _ _ R.sub)))))))
  (p_ldI R rfl (d_if (p_row_L R rfl (p_stRow R (cs' := [.slice a1001 l1001 c1001]) ⟨rfl, rfl, rfl⟩ fun g R =>
  (p_stRow R (cs' := [.int .i64 1, .int .i64 0, .int .i64 0]) ⟨rfl, rfl, rfl⟩ fun g R =>
  (Hkr a1001 l1001 c1001 1 0 0 p1008 p1009 _ _ R.sub))))
  (p_ldI R rfl (d_if (p_row_L R rfl (p_stRow R (cs' := [.slice a1001 l1001 c1001]) ⟨rfl, rfl, rfl⟩ fun g R =>
  (p_stRow R (cs' := [.int .i64 1, .int .i64 0, .int .i64 0]) ⟨rfl, rfl, rfl⟩ fun g R =>
  (Hkr a1001 l1001 c1001 1 0 0 p1008 p1009 _ _ R.sub))))
  (p_ldL R rfl (d_req (d_nz fun b1059 o1060 =>
  (d_ldI R fun n1061 =>
  (d_if (p_ldL R rfl (d_req (d_nz fun b1062 o1063 =>
  (d_ldI R fun n1064 =>
  (p_ldI R rfl (d_if (p_row_L R rfl (p_stRow R (cs' := [.slice a1001 l1001 c1001]) ⟨rfl, rfl, rfl⟩ fun g R =>
  (p_stRow R (cs' := [.int .i64 2, .int .i64 0, .int .i64 0]) ⟨rfl, rfl, rfl⟩ fun g R =>
  (Hkr a1001 l1001 c1001 2 0 0 p1008 p1009 _ _ R.sub))))
  (spec_l16Step_M_j0_D (by exact fun a1065 l1065 c1065 n1067 n1068 n1069 p1066 p1070 g m R =>
  (Hkr a1065 l1065 c1065 n1067 n1068 n1069 p1066 p1070 _ _ R.sub)) n1011 a1001 l1001 c1001 n1002 n1003 n1004 n1005 none 0 0 0 0 0 p1006 p1007 p1008 p1009 _ _ R.sub)))))))
  (spec_l16Step_M_j0_D (by exact fun a1071 l1071 c1071 n1073 n1074 n1075 p1072 p1076 g m R =>
  (Hkr a1071 l1071 c1071 n1073 n1074 n1075 p1072 p1076 _ _ R.sub)) n1011 a1001 l1001 c1001 n1002 n1003 n1004 n1005 none 0 0 0 0 0 p1006 p1007 p1008 p1009 _ _ R.sub)))))))))))))))))))))))))))))))))))))

theorem spec_l16Step_M_call {a1 : Option Addr} {l1 : Nat} {c1 : Nat} {n2 : Int} {n3 : Int} {n4 : Int} {n5 : Int} {h : H} {K : Value → H → Prop} (hs : spec_l16Step_M (fun a300001 l300001 c300001 n300003 n300004 n300005 h =>
  K (.tuple ⟨[.agg ⟨[.slice a300001 l300001 c300001]⟩, .agg ⟨[.int .i64 n300003, .int .i64 n300004, .int .i64 n300005]⟩]⟩) h) a1 l1 c1 n2 n3 n4 n5 h) : callD Try.prog 27 ⟨[.agg ⟨[.slice a1 l1 c1]⟩, .agg ⟨[.int .i64 n2, .int .i64 n3, .int .i64 n4, .int .i64 n5]⟩]⟩ h K :=
  fun g r => spec_l16Step_call (spec_l16Step_M_D (by exact fun a300001 l300001 c300001 n300003 n300004 n300005 p300002 p300006 g m R =>
(p_row_L R rfl (p_row_I3 R rfl rfl rfl (fun h => ⟨m, R.af, h⟩)))) _ _ _ _ _ _ _ _ _ (Md.start r) hs)

noncomputable def code28 : Code := codeOf Try.f28
theorem body28 : Try.f28.body = some code28 := by kernel_rfl
def spec_l16Copy (kr : Nat → H → Prop) (p_1 : Option Addr) (p_l1 : Nat) (p_c1 : Nat) (h : H) : Prop :=
  new h [.slice p_1 p_l1 p_c1] 27 fun b2 h =>
  new h [.slice none 0 0] 27 fun b3 h =>
  new h [] 38 fun b4 h =>
  ldL h b2 0 fun a5 l5 c5 =>
  appendK Try.prog 38 h (some ⟨b4, 0, none⟩) 0 0 (.slice a5 l5 c5) fun a6 l6 c6 h =>
  stRow h b3 0 0 [.slice a6 l6 c6] fun h =>
  kr b3 h

theorem spec_l16Copy_eq (K : Cont) (p_1 : Option Addr) (p_l1 : Nat) (p_c1 : Nat) (h : H) :
  spec_l16Copy (curV [(2, .blk)] (K .ret)) p_1 p_l1 p_c1 h = evC Try.prog 8 [] [] code28 [(0, .agg ⟨[.slice p_1 p_l1 p_c1]⟩)] h (outsOf none [] (some [(2, .blk)]) K).K := by kernel_rfl

def spec_l16Copy_F : PT := mkF [(0, .agg [.slice])] fun K => spec_l16Copy (curV [(2, .blk)] (K .ret))

theorem spec_l16Copy_V : Valid Try.prog 8 code28 spec_l16Copy_F :=
  piece mixed rows_nil (fun K => by intro p_1 p_l1 p_c1 h hd; exact (spec_l16Copy_eq K p_1 p_l1 p_c1 h) ▸ hd)

theorem spec_l16Copy_c0 (p_1 : Option Addr) (p_l1 : Nat) (p_c1 : Nat) (h : H) (K : Value → H → Prop) :
  spec_l16Copy (fun b100001 h =>
  ldRow h b100001 0 0 [.slice] fun a100002 l100002 c100002 =>
  K (.agg ⟨[.slice a100002 l100002 c100002]⟩) h) p_1 p_l1 p_c1 h = callF Try.prog Try.f28.results.toList spec_l16Copy_F [.agg ⟨[.slice p_1 p_l1 p_c1]⟩] h K := by kernel_rfl

theorem spec_l16Copy_call {p_1 : Option Addr} {p_l1 : Nat} {p_c1 : Nat} {h : H} {K : Value → H → Prop} (hs : spec_l16Copy (fun b100001 h =>
  ldRow h b100001 0 0 [.slice] fun a100002 l100002 c100002 =>
  K (.agg ⟨[.slice a100002 l100002 c100002]⟩) h) p_1 p_l1 p_c1 h) : callK Try.prog 28 ⟨[.agg ⟨[.slice p_1 p_l1 p_c1]⟩]⟩ h K :=
  func_calls Try.func28 body28 spec_l16Copy_V (Nat.le_of_ble_eq_true (by kernel_rfl)) (spec_l16Copy_c0 p_1 p_l1 p_c1 h K ▸ hs)

def spec_l16Copy_M (kr : Option Addr → Nat → Nat → H → Prop) (p_1 : Option Addr) (p_l1 : Nat) (p_c1 : Nat) (h : H) : Prop :=
  newD h [] 38 fun b2 h =>
  appendD Try.prog 38 h (some ⟨b2, 0, none⟩) 0 0 (.slice p_1 p_l1 p_c1) fun a3 l3 c3 h =>
  kr a3 l3 c3 h

theorem spec_l16Copy_M_D {g0 m0 : H} {kr_1 : Nat → H → Prop} {kr_2 : Option Addr → Nat → Nat → H → Prop} (Hkr : ∀ (a200001 : Option Addr) (l200001 : Nat) (c200001 : Nat) (p200002 : Nat) (g m : H), Md g0 m0 g m [lo p200002 [.slice a200001 l200001 c200001]] → kr_2 a200001 l200001 c200001 m → kr_1 p200002 g) : ∀ (p_1001 : Option Addr) (p_l1001 : Nat) (p_c1001 : Nat) (g m : H), Md g0 m0 g m [] → spec_l16Copy_M kr_2 p_1001 p_l1001 p_c1001 m → spec_l16Copy kr_1 p_1001 p_l1001 p_c1001 g := by
  intro p_1001 p_l1001 p_c1001 g m R
  rw [spec_l16Copy_M, spec_l16Copy]
  exact (p_new R fun p1002 g R =>
  (p_new R fun p1003 g R =>
  (d_new R fun b1004 g m R =>
  (p_ldL R rfl (d_append R fun a1005 l1005 c1005 g m R =>
  (p_stRow R (cs' := [.slice a1005 l1005 c1005]) ⟨rfl, rfl, rfl⟩ fun g R =>
  (Hkr a1005 l1005 c1005 p1003 _ _ R.sub)))))))

theorem spec_l16Copy_M_call {p_1 : Option Addr} {p_l1 : Nat} {p_c1 : Nat} {h : H} {K : Value → H → Prop} (hs : spec_l16Copy_M (fun a300001 l300001 c300001 h =>
  K (.agg ⟨[.slice a300001 l300001 c300001]⟩) h) p_1 p_l1 p_c1 h) : callD Try.prog 28 ⟨[.agg ⟨[.slice p_1 p_l1 p_c1]⟩]⟩ h K :=
  fun g r => spec_l16Copy_call (spec_l16Copy_M_D (by exact fun a300001 l300001 c300001 p300002 g m R =>
(p_row_L R rfl (fun h => ⟨m, R.af, h⟩))) _ _ _ _ _ (Md.start r) hs)

noncomputable def code34 : Code := codeOf Try.f34
theorem body34 : Try.f34.body = some code34 := by kernel_rfl
def spec_l16DrawOps_l0 (kx0 : Nat → Nat → Option Addr → Nat → Nat → H → Prop) : Nat → Option Addr → Int → Nat → Nat → Option Addr → Nat → Nat → Int → H → Prop
 | 0, _, _, _, _, _, _, _, _, _ => False
 | N + 1, c_8, n9, b10, p_11, ops_12, ops_l12, ops_c12, i_13, h =>
  ifB (decide ((i_13 : Int) < n9))
  (ldRow h p_11 0 0 [.slice] fun a14 l14 c14 =>
  callK Try.prog 22 ⟨[.pointer c_8, .agg ⟨[.slice a14 l14 c14]⟩]⟩ h fun v15 h =>
  elF False (.agg [.int .i64, .int .i64, .int .i64, .int .i64]) v15 fun n16 n17 n18 n19 =>
  new h [.int .i64 0, .int .i64 0, .int .i64 0, .int .i64 0] 30 fun b20 h =>
  stRow h b20 0 0 [.int .i64 n16, .int .i64 n17, .int .i64 n18, .int .i64 n19] fun h =>
  ldRow h b20 0 0 [.int .i64, .int .i64, .int .i64, .int .i64] fun n21 n22 n23 n24 =>
  new h [.int .i64 n21, .int .i64 n22, .int .i64 n23, .int .i64 n24] 30 fun b25 h =>
  appendK Try.prog 30 h ops_12 ops_l12 ops_c12 (.slice (some ⟨b25, 0, none⟩) 1 1) fun a26 l26 c26 h =>
  ldRow h p_11 0 0 [.slice] fun a27 l27 c27 =>
  ldRow h b20 0 0 [.int .i64, .int .i64, .int .i64, .int .i64] fun n28 n29 n30 n31 =>
  callK Try.prog 27 ⟨[.agg ⟨[.slice a27 l27 c27]⟩, .agg ⟨[.int .i64 n28, .int .i64 n29, .int .i64 n30, .int .i64 n31]⟩]⟩ h fun v32 h =>
  elF False (.tuple [.agg [.slice], .agg [.int .i64, .int .i64, .int .i64]]) v32 fun a33 l33 c33 n34 n35 n36 =>
  new h [.slice none 0 0] 27 fun b37 h =>
  new h [.int .i64 0, .int .i64 0, .int .i64 0] 34 fun b38 h =>
  stRow h b37 0 0 [.slice a33 l33 c33] fun h =>
  stRow h b38 0 0 [.int .i64 n34, .int .i64 n35, .int .i64 n36] fun h =>
  ldRow h b37 0 0 [.slice] fun a39 l39 c39 =>
  stRow h p_11 0 0 [.slice a39 l39 c39] fun h =>
  spec_l16DrawOps_l0 kx0 N c_8 n9 b10 p_11 a26 l26 c26 (IntKind.i64.wrap (i_13 + 1)) h)
  (kx0 b10 p_11 ops_12 ops_l12 ops_c12 h)

def spec_l16DrawOps (kr : Nat → Option Addr → Nat → Nat → H → Prop) (c_1 : Option Addr) (n2 : Int) (h : H) : Prop :=
  new h [.slice none 0 0] 27 fun b3 h =>
  callK Try.prog 58 ⟨[]⟩ h fun v4 h =>
  elF False (.agg [.slice]) v4 fun a5 l5 c5 =>
  new h [.slice none 0 0] 27 fun b6 h =>
  stRow h b6 0 0 [.slice a5 l5 c5] fun h =>
  new h [] 30 fun b7 h =>
  ∃ M12, spec_l16DrawOps_l0 (fun b8 p_9 ops_10 ops_l10 ops_c10 h =>
  ldRow h p_9 0 0 [.slice] fun a11 l11 c11 =>
  stRow h b8 0 0 [.slice a11 l11 c11] fun h =>
  kr b8 ops_10 ops_l10 ops_c10 h) M12 c_1 n2 b3 b6 (some ⟨b7, 0, none⟩) 0 0 0 h

theorem spec_l16DrawOps_l0_eq (K : Cont) (N : Nat) (c_8 : Option Addr) (n9 : Int) (b10 : Nat) (p_11 : Nat) (ops_12 : Option Addr) (ops_l12 : Nat) (ops_c12 : Nat) (i_13 : Int) (h : H) :
  spec_l16DrawOps_l0 (curV [(4, .blk), (6, .blk), (7, .slice)] (K (.exit 0))) (N + 1) c_8 n9 b10 p_11 ops_12 ops_l12 ops_c12 i_13 h = evC Try.prog 35 [] [] (sub code34 [true, true, true, false, true, false, false]) [(0, .pointer c_8), (1, .int .i64 n9), (4, .pointer (some ⟨b10, 0, none⟩)), (6, .pointer (some ⟨p_11, 0, none⟩)), (7, .slice ops_12 ops_l12 ops_c12), (8, .int .i64 i_13)] h ((outsOf none [(0, [(4, .blk), (6, .blk), (7, .slice)])] none K).loop [(0, .ptr), (1, .int .i64), (4, .blk), (6, .blk), (7, .slice), (8, .int .i64)] (spec_l16DrawOps_l0 (curV [(4, .blk), (6, .blk), (7, .slice)] (K (.exit 0))) N)).K := by kernel_rfl

def spec_l16DrawOps_l0_F : PT := mkL [(0, .ptr), (1, .int .i64), (4, .blk), (6, .blk), (7, .slice), (8, .int .i64)] fun K N => spec_l16DrawOps_l0 (curV [(4, .blk), (6, .blk), (7, .slice)] (K (.exit 0))) N

theorem spec_l16DrawOps_l0_V : Valid Try.prog 35 (sub code34 [true, true, true, false, true, false]) spec_l16DrawOps_l0_F :=
  loop_at (code34) [true, true, true, false, true, false] (loop_piece (c := (sub code34 [true, true, true, false, true, false, false])) mixed rows_nil (fun K => by intro c_8 n9 b10 p_11 ops_12 ops_l12 ops_c12 i_13 h hd; exact hd) (fun K N => by intro c_8 n9 b10 p_11 ops_12 ops_l12 ops_c12 i_13 h hd; exact (spec_l16DrawOps_l0_eq K N c_8 n9 b10 p_11 ops_12 ops_l12 ops_c12 i_13 h) ▸ hd))

theorem spec_l16DrawOps_eq (K : Cont) (c_1 : Option Addr) (n2 : Int) (h : H) :
  spec_l16DrawOps (curV [(4, .blk), (5, .slice)] (K .ret)) c_1 n2 h = evC Try.prog 35 [([false, false, true, false, true, true, true], spec_l16DrawOps_l0_F)] [] code34 [(0, .pointer c_1), (1, .int .i64 n2)] h (outsOf none [] (some [(4, .blk), (5, .slice)]) K).K := by kernel_rfl

def spec_l16DrawOps_F : PT := mkF [(0, .ptr), (1, .int .i64)] fun K => spec_l16DrawOps (curV [(4, .blk), (5, .slice)] (K .ret))

theorem spec_l16DrawOps_V : Valid Try.prog 35 code34 spec_l16DrawOps_F :=
  piece mixed (rows_cons (q' := [true, true, true, false, true, false]) spec_l16DrawOps_l0_V rfl rows_nil) (fun K => by intro c_1 n2 h hd; exact (spec_l16DrawOps_eq K c_1 n2 h) ▸ hd)

theorem spec_l16DrawOps_c0 (c_1 : Option Addr) (n2 : Int) (h : H) (K : Value → H → Prop) :
  spec_l16DrawOps (fun b100001 a100002 l100002 c100002 h =>
  ldRow h b100001 0 0 [.slice] fun a100003 l100003 c100003 =>
  K (.tuple ⟨[.agg ⟨[.slice a100003 l100003 c100003]⟩, .slice a100002 l100002 c100002]⟩) h) c_1 n2 h = callF Try.prog Try.f34.results.toList spec_l16DrawOps_F [.pointer c_1, .int .i64 n2] h K := by kernel_rfl

theorem spec_l16DrawOps_call {c_1 : Option Addr} {n2 : Int} {h : H} {K : Value → H → Prop} (hs : spec_l16DrawOps (fun b100001 a100002 l100002 c100002 h =>
  ldRow h b100001 0 0 [.slice] fun a100003 l100003 c100003 =>
  K (.tuple ⟨[.agg ⟨[.slice a100003 l100003 c100003]⟩, .slice a100002 l100002 c100002]⟩) h) c_1 n2 h) : callK Try.prog 34 ⟨[.pointer c_1, .int .i64 n2]⟩ h K :=
  func_calls Try.func34 body34 spec_l16DrawOps_V (Nat.le_of_ble_eq_true (by kernel_rfl)) (spec_l16DrawOps_c0 c_1 n2 h K ▸ hs)

def spec_l16DrawOps_M_l0 (kx0 : Option Addr → Nat → Nat → Option Addr → Nat → Nat → H → Prop) : Nat → Option Addr → Int → Option Addr → Nat → Nat → Int → Option Addr → Nat → Nat → H → Prop
 | 0, _, _, _, _, _, _, _, _, _, _ => False
 | N + 1, c_6, n7, ops_8, ops_l8, ops_c8, i_9, a12, l12, c12, h =>
  ifB (decide ((i_9 : Int) < n7))
  (callD Try.prog 22 ⟨[.pointer c_6, .agg ⟨[.slice a12 l12 c12]⟩]⟩ h fun v14 h =>
  elF False (.agg [.int .i64, .int .i64, .int .i64, .int .i64]) v14 fun n15 n16 n17 n18 =>
  newD h [.int .i64 n15, .int .i64 n16, .int .i64 n17, .int .i64 n18] 30 fun b19 h =>
  appendD Try.prog 30 h ops_8 ops_l8 ops_c8 (.slice (some ⟨b19, 0, none⟩) 1 1) fun a20 l20 c20 h =>
  callD Try.prog 27 ⟨[.agg ⟨[.slice a12 l12 c12]⟩, .agg ⟨[.int .i64 n15, .int .i64 n16, .int .i64 n17, .int .i64 n18]⟩]⟩ h fun v21 h =>
  elF False (.tuple [.agg [.slice], .agg [.int .i64, .int .i64, .int .i64]]) v21 fun a22 l22 c22 n23 n24 n25 =>
  spec_l16DrawOps_M_l0 kx0 N c_6 n7 a20 l20 c20 (IntKind.i64.wrap (i_9 + 1)) a22 l22 c22 h)
  (kx0 ops_8 ops_l8 ops_c8 a12 l12 c12 h)

def spec_l16DrawOps_M (kr : Option Addr → Nat → Nat → Option Addr → Nat → Nat → H → Prop) (c_1 : Option Addr) (n2 : Int) (h : H) : Prop :=
  callD Try.prog 58 ⟨[]⟩ h fun v3 h =>
  elF False (.agg [.slice]) v3 fun a4 l4 c4 =>
  newD h [] 30 fun b5 h =>
  ∃ M11, spec_l16DrawOps_M_l0 (fun ops_6 ops_l6 ops_c6 a9 l9 c9 h =>
  kr ops_6 ops_l6 ops_c6 a9 l9 c9 h) M11 c_1 n2 (some ⟨b5, 0, none⟩) 0 0 0 a4 l4 c4 h

theorem spec_l16DrawOps_M_l0_D {g0 m0 : H} {kx0_1 : Nat → Nat → Option Addr → Nat → Nat → H → Prop} {kx0_2 : Option Addr → Nat → Nat → Option Addr → Nat → Nat → H → Prop} (Hkx0 : ∀ (ops_200001 : Option Addr) (ops_l200001 : Nat) (ops_c200001 : Nat) (a200002 : Option Addr) (l200002 : Nat) (c200002 : Nat) (a200004 : Option Addr) (l200004 : Nat) (c200004 : Nat) (p200003 : Nat) (p200005 : Nat) (g m : H), Md g0 m0 g m [lo p200003 [.slice a200002 l200002 c200002], lo p200005 [.slice a200004 l200004 c200004]] → kx0_2 ops_200001 ops_l200001 ops_c200001 a200004 l200004 c200004 m → kx0_1 p200003 p200005 ops_200001 ops_l200001 ops_c200001 g) : ∀ (N : Nat) (c_1006 : Option Addr) (n1007 : Int) (ops_1008 : Option Addr) (ops_l1008 : Nat) (ops_c1008 : Nat) (i_1009 : Int) (a1010 : Option Addr) (l1010 : Nat) (c1010 : Nat) (a1012 : Option Addr) (l1012 : Nat) (c1012 : Nat) (p1011 : Nat) (p1013 : Nat) (g m : H), Md g0 m0 g m [lo p1011 [.slice a1010 l1010 c1010], lo p1013 [.slice a1012 l1012 c1012]] → spec_l16DrawOps_M_l0 kx0_2 N c_1006 n1007 ops_1008 ops_l1008 ops_c1008 i_1009 a1012 l1012 c1012 m → spec_l16DrawOps_l0 kx0_1 N c_1006 n1007 p1011 p1013 ops_1008 ops_l1008 ops_c1008 i_1009 g := by
  intro N
  induction N with
  | zero => intro c_1006 n1007 ops_1008 ops_l1008 ops_c1008 i_1009 a1010 l1010 c1010 a1012 l1012 c1012 p1011 p1013 g m R h0; exact h0.elim
  | succ N ih =>
    intro c_1006 n1007 ops_1008 ops_l1008 ops_c1008 i_1009 a1010 l1010 c1010 a1012 l1012 c1012 p1011 p1013 g m R
    rw [spec_l16DrawOps_M_l0, spec_l16DrawOps_l0]
    exact (d_if (p_row_L R rfl (d_call R fun v1014 g m R =>
  (d_el_AI4E fun n1015 n1016 n1017 n1018 =>
  (p_new R fun p1019 g R =>
  (p_stRow R (cs' := [.int .i64 n1015, .int .i64 n1016, .int .i64 n1017, .int .i64 n1018]) ⟨rfl, rfl, rfl⟩ fun g R =>
  (p_row_I4 R rfl rfl rfl rfl (d_new R fun b1020 g m R =>
  (d_append R fun a1021 l1021 c1021 g m R =>
  (p_row_L R rfl (p_row_I4 R rfl rfl rfl rfl (d_call R fun v1022 g m R =>
  (d_el_TALEAI3EE fun a1023 l1023 c1023 n1024 n1025 n1026 =>
  (p_new R fun p1027 g R =>
  (p_new R fun p1028 g R =>
  (p_stRow R (cs' := [.slice a1023 l1023 c1023]) ⟨rfl, rfl, rfl⟩ fun g R =>
  (p_stRow R (cs' := [.int .i64 n1024, .int .i64 n1025, .int .i64 n1026]) ⟨rfl, rfl, rfl⟩ fun g R =>
  (p_row_L R rfl (p_stRow R (cs' := [.slice a1023 l1023 c1023]) ⟨rfl, rfl, rfl⟩ fun g R =>
  (ih c_1006 n1007 a1021 l1021 c1021 (IntKind.i64.wrap (i_1009 + 1)) a1010 l1010 c1010 a1023 l1023 c1023 p1011 p1013 _ _ R.sub)))))))))))))))))))
  (Hkx0 ops_1008 ops_l1008 ops_c1008 a1010 l1010 c1010 a1012 l1012 c1012 p1011 p1013 _ _ R.sub))

theorem spec_l16DrawOps_M_D {g0 m0 : H} {kr_1 : Nat → Option Addr → Nat → Nat → H → Prop} {kr_2 : Option Addr → Nat → Nat → Option Addr → Nat → Nat → H → Prop} (Hkr : ∀ (a200001 : Option Addr) (l200001 : Nat) (c200001 : Nat) (a200002 : Option Addr) (l200002 : Nat) (c200002 : Nat) (p200003 : Nat) (g m : H), Md g0 m0 g m [lo p200003 [.slice a200002 l200002 c200002]] → kr_2 a200001 l200001 c200001 a200002 l200002 c200002 m → kr_1 p200003 a200001 l200001 c200001 g) : ∀ (c_1001 : Option Addr) (n1002 : Int) (g m : H), Md g0 m0 g m [] → spec_l16DrawOps_M kr_2 c_1001 n1002 m → spec_l16DrawOps kr_1 c_1001 n1002 g := by
  intro c_1001 n1002 g m R
  rw [spec_l16DrawOps_M, spec_l16DrawOps]
  exact (p_new R fun p1003 g R =>
  (d_call R fun v1004 g m R =>
  (d_el_ALE fun a1005 l1005 c1005 =>
  (p_new R fun p1006 g R =>
  (p_stRow R (cs' := [.slice a1005 l1005 c1005]) ⟨rfl, rfl, rfl⟩ fun g R =>
  (d_new R fun b1007 g m R =>
  (d_ex fun N => spec_l16DrawOps_M_l0_D (by exact fun ops_1008 ops_l1008 ops_c1008 a1009 l1009 c1009 a1011 l1011 c1011 p1010 p1012 g m R =>
  (p_row_L R rfl (p_stRow R (cs' := [.slice a1011 l1011 c1011]) ⟨rfl, rfl, rfl⟩ fun g R =>
  (Hkr ops_1008 ops_l1008 ops_c1008 a1011 l1011 c1011 p1010 _ _ R.sub)))) N c_1001 n1002 (some ⟨b1007, 0, none⟩) 0 0 0 none 0 0 a1005 l1005 c1005 p1003 p1006 _ _ R.sub)))))))

theorem spec_l16DrawOps_M_call {c_1 : Option Addr} {n2 : Int} {h : H} {K : Value → H → Prop} (hs : spec_l16DrawOps_M (fun a300001 l300001 c300001 a300002 l300002 c300002 h =>
  K (.tuple ⟨[.agg ⟨[.slice a300002 l300002 c300002]⟩, .slice a300001 l300001 c300001]⟩) h) c_1 n2 h) : callD Try.prog 34 ⟨[.pointer c_1, .int .i64 n2]⟩ h K :=
  fun g r => spec_l16DrawOps_call (spec_l16DrawOps_M_D (by exact fun a300001 l300001 c300001 a300002 l300002 c300002 p300003 g m R =>
(p_row_L R rfl (fun h => ⟨m, R.af, h⟩))) _ _ _ _ (Md.start r) hs)

noncomputable def code35 : Code := codeOf Try.f35
theorem body35 : Try.f35.body = some code35 := by kernel_rfl
def spec_l1Below (kr : Int → H → Prop) (c_1 : Option Addr) (n2 : Int) (h : H) : Prop :=
  ifB (decide ((n2 : Int) ≤ 0))
  (kr 0 h)
  (ifB (decide ((n2 : Int) ≤ 256))
  (callK Try.prog 59 ⟨[.pointer c_1]⟩ h fun v3 h =>
  asI .i64 v3 fun n4 =>
  req ((n2 : Int) ≠ 0)
  (kr ((n4 : Int).tmod n2) h))
  (callK Try.prog 59 ⟨[.pointer c_1]⟩ h fun v5 h =>
  asI .i64 v5 fun n6 =>
  callK Try.prog 59 ⟨[.pointer c_1]⟩ h fun v7 h =>
  asI .i64 v7 fun n8 =>
  callK Try.prog 59 ⟨[.pointer c_1]⟩ h fun v9 h =>
  asI .i64 v9 fun n10 =>
  req ((n2 : Int) ≠ 0)
  (kr ((IntKind.i64.wrap ((IntKind.i64.wrap ((IntKind.i64.wrap (n6 * 65536)) + (IntKind.i64.wrap (n8 * 256)))) + n10) : Int).tmod n2) h)))

theorem spec_l1Below_eq (K : Cont) (c_1 : Option Addr) (n2 : Int) (h : H) :
  spec_l1Below (curV [(4, .int .i64)] (K .ret)) c_1 n2 h = evC Try.prog 31 [] [] code35 [(0, .pointer c_1), (1, .int .i64 n2)] h (outsOf none [] (some [(4, .int .i64)]) K).K := by kernel_rfl

def spec_l1Below_F : PT := mkF [(0, .ptr), (1, .int .i64)] fun K => spec_l1Below (curV [(4, .int .i64)] (K .ret))

theorem spec_l1Below_V : Valid Try.prog 31 code35 spec_l1Below_F :=
  piece mixed rows_nil (fun K => by intro c_1 n2 h hd; exact (spec_l1Below_eq K c_1 n2 h) ▸ hd)

theorem spec_l1Below_c0 (c_1 : Option Addr) (n2 : Int) (h : H) (K : Value → H → Prop) :
  spec_l1Below (fun n100001 h =>
  K (.int .i64 n100001) h) c_1 n2 h = callF Try.prog Try.f35.results.toList spec_l1Below_F [.pointer c_1, .int .i64 n2] h K := by kernel_rfl

theorem spec_l1Below_call {c_1 : Option Addr} {n2 : Int} {h : H} {K : Value → H → Prop} (hs : spec_l1Below (fun n100001 h =>
  K (.int .i64 n100001) h) c_1 n2 h) : callK Try.prog 35 ⟨[.pointer c_1, .int .i64 n2]⟩ h K :=
  func_calls Try.func35 body35 spec_l1Below_V (Nat.le_of_ble_eq_true (by kernel_rfl)) (spec_l1Below_c0 c_1 n2 h K ▸ hs)

def spec_l1Below_M (kr : Int → H → Prop) (c_1 : Option Addr) (n2 : Int) (h : H) : Prop :=
  ifB (decide ((n2 : Int) ≤ 0))
  (kr 0 h)
  (ifB (decide ((n2 : Int) ≤ 256))
  (callD Try.prog 59 ⟨[.pointer c_1]⟩ h fun v3 h =>
  asI .i64 v3 fun n4 =>
  req ((n2 : Int) ≠ 0)
  (kr ((n4 : Int).tmod n2) h))
  (callD Try.prog 59 ⟨[.pointer c_1]⟩ h fun v5 h =>
  asI .i64 v5 fun n6 =>
  callD Try.prog 59 ⟨[.pointer c_1]⟩ h fun v7 h =>
  asI .i64 v7 fun n8 =>
  callD Try.prog 59 ⟨[.pointer c_1]⟩ h fun v9 h =>
  asI .i64 v9 fun n10 =>
  req ((n2 : Int) ≠ 0)
  (kr ((IntKind.i64.wrap ((IntKind.i64.wrap ((IntKind.i64.wrap (n6 * 65536)) + (IntKind.i64.wrap (n8 * 256)))) + n10) : Int).tmod n2) h)))

theorem spec_l1Below_M_D {g0 m0 : H} {kr_1 : Int → H → Prop} {kr_2 : Int → H → Prop} (Hkr : ∀ (n200001 : Int) (g m : H), Md g0 m0 g m [] → kr_2 n200001 m → kr_1 n200001 g) : ∀ (c_1001 : Option Addr) (n1002 : Int) (g m : H), Md g0 m0 g m [] → spec_l1Below_M kr_2 c_1001 n1002 m → spec_l1Below kr_1 c_1001 n1002 g := by
  intro c_1001 n1002 g m R
  rw [spec_l1Below_M, spec_l1Below]
  exact (d_if (Hkr 0 _ _ R.sub)
  (d_if (d_call R fun v1003 g m R =>
  (d_asI fun n1004 =>
  (d_req (Hkr ((n1004 : Int).tmod n1002) _ _ R.sub))))
  (d_call R fun v1005 g m R =>
  (d_asI fun n1006 =>
  (d_call R fun v1007 g m R =>
  (d_asI fun n1008 =>
  (d_call R fun v1009 g m R =>
  (d_asI fun n1010 =>
  (d_req (Hkr ((IntKind.i64.wrap ((IntKind.i64.wrap ((IntKind.i64.wrap (n1006 * 65536)) + (IntKind.i64.wrap (n1008 * 256)))) + n1010) : Int).tmod n1002) _ _ R.sub))))))))))

theorem spec_l1Below_M_call {c_1 : Option Addr} {n2 : Int} {h : H} {K : Value → H → Prop} (hs : spec_l1Below_M (fun n300001 h =>
  K (.int .i64 n300001) h) c_1 n2 h) : callD Try.prog 35 ⟨[.pointer c_1, .int .i64 n2]⟩ h K :=
  fun g r => spec_l1Below_call (spec_l1Below_M_D (by exact fun n300001 g m R =>
(fun h => ⟨m, R.af, h⟩)) _ _ _ _ (Md.start r) hs)

noncomputable def code36 : Code := codeOf Try.f36
theorem body36 : Try.f36.body = some code36 := by kernel_rfl
def spec_l1Once (kr : Bool → H → Prop) (c_1 : Option Addr) (n2 : Int) (h : H) : Prop :=
  callK Try.prog 35 ⟨[.pointer c_1, .int .i64 n2]⟩ h fun v3 h =>
  asI .i64 v3 fun n4 =>
  kr ((n4 : Int) == 0) h

theorem spec_l1Once_eq (K : Cont) (c_1 : Option Addr) (n2 : Int) (h : H) :
  spec_l1Once (curV [(4, .bool)] (K .ret)) c_1 n2 h = evC Try.prog 9 [] [] code36 [(0, .pointer c_1), (1, .int .i64 n2)] h (outsOf none [] (some [(4, .bool)]) K).K := by kernel_rfl

def spec_l1Once_F : PT := mkF [(0, .ptr), (1, .int .i64)] fun K => spec_l1Once (curV [(4, .bool)] (K .ret))

theorem spec_l1Once_V : Valid Try.prog 9 code36 spec_l1Once_F :=
  piece mixed rows_nil (fun K => by intro c_1 n2 h hd; exact (spec_l1Once_eq K c_1 n2 h) ▸ hd)

theorem spec_l1Once_c0 (c_1 : Option Addr) (n2 : Int) (h : H) (K : Value → H → Prop) :
  spec_l1Once (fun t100001 h =>
  K (.bool t100001) h) c_1 n2 h = callF Try.prog Try.f36.results.toList spec_l1Once_F [.pointer c_1, .int .i64 n2] h K := by kernel_rfl

theorem spec_l1Once_call {c_1 : Option Addr} {n2 : Int} {h : H} {K : Value → H → Prop} (hs : spec_l1Once (fun t100001 h =>
  K (.bool t100001) h) c_1 n2 h) : callK Try.prog 36 ⟨[.pointer c_1, .int .i64 n2]⟩ h K :=
  func_calls Try.func36 body36 spec_l1Once_V (Nat.le_of_ble_eq_true (by kernel_rfl)) (spec_l1Once_c0 c_1 n2 h K ▸ hs)

def spec_l1Once_M (kr : Bool → H → Prop) (c_1 : Option Addr) (n2 : Int) (h : H) : Prop :=
  callD Try.prog 35 ⟨[.pointer c_1, .int .i64 n2]⟩ h fun v3 h =>
  asI .i64 v3 fun n4 =>
  kr ((n4 : Int) == 0) h

theorem spec_l1Once_M_D {g0 m0 : H} {kr_1 : Bool → H → Prop} {kr_2 : Bool → H → Prop} (Hkr : ∀ (t200001 : Bool) (g m : H), Md g0 m0 g m [] → kr_2 t200001 m → kr_1 t200001 g) : ∀ (c_1001 : Option Addr) (n1002 : Int) (g m : H), Md g0 m0 g m [] → spec_l1Once_M kr_2 c_1001 n1002 m → spec_l1Once kr_1 c_1001 n1002 g := by
  intro c_1001 n1002 g m R
  rw [spec_l1Once_M, spec_l1Once]
  exact (d_call R fun v1003 g m R =>
  (d_asI fun n1004 =>
  (Hkr ((n1004 : Int) == 0) _ _ R.sub)))

theorem spec_l1Once_M_call {c_1 : Option Addr} {n2 : Int} {h : H} {K : Value → H → Prop} (hs : spec_l1Once_M (fun t300001 h =>
  K (.bool t300001) h) c_1 n2 h) : callD Try.prog 36 ⟨[.pointer c_1, .int .i64 n2]⟩ h K :=
  fun g r => spec_l1Once_call (spec_l1Once_M_D (by exact fun t300001 g m R =>
(fun h => ⟨m, R.af, h⟩)) _ _ _ _ (Md.start r) hs)

noncomputable def code37 : Code := codeOf Try.f37
theorem body37 : Try.f37.body = some code37 := by kernel_rfl
def spec_l16Fork_l0 (kx0 : Int → Nat → Nat → Nat → Int → H → Prop) : Nat → Int → Nat → Nat → Nat → Int → H → Prop
 | 0, _, _, _, _, _, _ => False
 | N + 1, i_6, p_7, b8, b9, id_10, h =>
  ifB (decide ((id_10 : Int) ≤ 32))
  (ldRow h p_7 0 0 [.slice] fun a11 l11 c11 =>
  callK Try.prog 25 ⟨[.agg ⟨[.slice a11 l11 c11]⟩, .int .i64 id_10]⟩ h fun v12 h =>
  asI .i64 v12 fun n13 =>
  ifB (decide ((n13 : Int) ≥ 0))
  (spec_l16Fork_l0 kx0 N i_6 p_7 b8 b9 (IntKind.i64.wrap (id_10 + 1)) h)
  (kx0 i_6 p_7 b8 b9 id_10 h))
  (kx0 i_6 p_7 b8 b9 id_10 h)

def spec_l16Fork (kr : Nat → Nat → H → Prop) (p_1 : Option Addr) (p_l1 : Nat) (p_c1 : Nat) (i_2 : Int) (h : H) : Prop :=
  new h [.slice p_1 p_l1 p_c1] 27 fun b3 h =>
  new h [.slice none 0 0] 27 fun b4 h =>
  new h [.int .i64 0, .int .i64 0, .int .i64 0] 34 fun b5 h =>
  ∃ M45, spec_l16Fork_l0 (fun i_6 p_7 b8 b9 id_10 h =>
  ifB (decide ((id_10 : Int) > 32))
  (ldRow h p_7 0 0 [.slice] fun a11 l11 c11 =>
  stRow h b8 0 0 [.slice a11 l11 c11] fun h =>
  stRow h b9 0 0 [.int .i64 18, .int .i64 0, .int .i64 0] fun h =>
  kr b8 b9 h)
  (ldL h p_7 0 fun a12 l12 c12 =>
  req (0 ≤ (i_6 : Int) ∧ (i_6 : Int) < (l12 : Nat))
  (nz a12 fun b13 o14 =>
  ldRow h b13 (o14 + i_6.toNat * 10) 0 [.int .i64, .int .i64, .int .i64, .int .i64, .int .i64, .int .i64, .int .i64, .int .i64, .int .i64, .int .i64] fun n15 n16 n17 n18 n19 n20 n21 n22 n23 n24 =>
  new h [.int .i64 0, .int .i64 0, .int .i64 0, .int .i64 0, .int .i64 0, .int .i64 0, .int .i64 0, .int .i64 0, .int .i64 0, .int .i64 0] 38 fun b25 h =>
  stRow h b25 0 0 [.int .i64 n15, .int .i64 n16, .int .i64 n17, .int .i64 n18, .int .i64 n19, .int .i64 n20, .int .i64 n21, .int .i64 n22, .int .i64 n23, .int .i64 n24] fun h =>
  ldI .i64 h b25 0 fun n26 =>
  st h b25 1 (.int .i64 n26) fun h =>
  st h b25 0 (.int .i64 id_10) fun h =>
  st h b25 4 (.int .i64 1) fun h =>
  st h b25 6 (.int .i64 0) fun h =>
  new h [] 38 fun b27 h =>
  ldL h p_7 0 fun a28 l28 c28 =>
  req (0 ≤ (IntKind.i64.wrap (id_10 - 1) : Int) ∧ (IntKind.i64.wrap (id_10 - 1) : Int) ≤ (c28 : Nat))
  (req (plainA a28 = true)
  (appendK Try.prog 38 h (some ⟨b27, 0, none⟩) 0 0 (.slice (slB a28 0 c28 10) ((IntKind.i64.wrap (id_10 - 1)).toNat - 0) (c28 - 0)) fun a29 l29 c29 h =>
  ldRow h b25 0 0 [.int .i64, .int .i64, .int .i64, .int .i64, .int .i64, .int .i64, .int .i64, .int .i64, .int .i64, .int .i64] fun n30 n31 n32 n33 n34 n35 n36 n37 n38 n39 =>
  new h [.int .i64 n30, .int .i64 n31, .int .i64 n32, .int .i64 n33, .int .i64 n34, .int .i64 n35, .int .i64 n36, .int .i64 n37, .int .i64 n38, .int .i64 n39] 38 fun b40 h =>
  appendK Try.prog 38 h a29 l29 c29 (.slice (some ⟨b40, 0, none⟩) 1 1) fun a41 l41 c41 h =>
  ldL h p_7 0 fun a42 l42 c42 =>
  req (0 ≤ (IntKind.i64.wrap (id_10 - 1) : Int) ∧ (IntKind.i64.wrap (id_10 - 1) : Int) ≤ (l42 : Nat))
  (req (plainA a42 = true)
  (appendK Try.prog 38 h a41 l41 c41 (.slice (slB a42 ((IntKind.i64.wrap (id_10 - 1)).toNat) c42 10) (l42 - (IntKind.i64.wrap (id_10 - 1)).toNat) (c42 - (IntKind.i64.wrap (id_10 - 1)).toNat)) fun a43 l43 c43 h =>
  st h p_7 0 (.slice a43 l43 c43) fun h =>
  ldRow h p_7 0 0 [.slice] fun a44 l44 c44 =>
  stRow h b8 0 0 [.slice a44 l44 c44] fun h =>
  stRow h b9 0 0 [.int .i64 0, .int .i64 id_10, .int .i64 0] fun h =>
  kr b8 b9 h))))))) M45 i_2 b3 b4 b5 1 h

theorem spec_l16Fork_l0_eq (K : Cont) (N : Nat) (i_6 : Int) (p_7 : Nat) (b8 : Nat) (b9 : Nat) (id_10 : Int) (h : H) :
  spec_l16Fork_l0 (curV [(1, .int .i64), (2, .blk), (4, .blk), (5, .blk), (6, .int .i64)] (K (.exit 0))) (N + 1) i_6 p_7 b8 b9 id_10 h = evC Try.prog 57 [] [] (sub code37 [true, true, false, false, false]) [(1, .int .i64 i_6), (2, .pointer (some ⟨p_7, 0, none⟩)), (4, .pointer (some ⟨b8, 0, none⟩)), (5, .pointer (some ⟨b9, 0, none⟩)), (6, .int .i64 id_10)] h ((outsOf none [(0, [(1, .int .i64), (2, .blk), (4, .blk), (5, .blk), (6, .int .i64)])] none K).loop [(1, .int .i64), (2, .blk), (4, .blk), (5, .blk), (6, .int .i64)] (spec_l16Fork_l0 (curV [(1, .int .i64), (2, .blk), (4, .blk), (5, .blk), (6, .int .i64)] (K (.exit 0))) N)).K := by kernel_rfl

def spec_l16Fork_l0_F : PT := mkL [(1, .int .i64), (2, .blk), (4, .blk), (5, .blk), (6, .int .i64)] fun K N => spec_l16Fork_l0 (curV [(1, .int .i64), (2, .blk), (4, .blk), (5, .blk), (6, .int .i64)] (K (.exit 0))) N

theorem spec_l16Fork_l0_V : Valid Try.prog 57 (sub code37 [true, true, false, false]) spec_l16Fork_l0_F :=
  loop_at (code37) [true, true, false, false] (loop_piece (c := (sub code37 [true, true, false, false, false])) mixed rows_nil (fun K => by intro i_6 p_7 b8 b9 id_10 h hd; exact hd) (fun K N => by intro i_6 p_7 b8 b9 id_10 h hd; exact (spec_l16Fork_l0_eq K N i_6 p_7 b8 b9 id_10 h) ▸ hd))

theorem spec_l16Fork_eq (K : Cont) (p_1 : Option Addr) (p_l1 : Nat) (p_c1 : Nat) (i_2 : Int) (h : H) :
  spec_l16Fork (curV [(4, .blk), (5, .blk)] (K .ret)) p_1 p_l1 p_c1 i_2 h = evC Try.prog 57 [([false, false, false, true, true], spec_l16Fork_l0_F)] [] code37 [(0, .agg ⟨[.slice p_1 p_l1 p_c1]⟩), (1, .int .i64 i_2)] h (outsOf none [] (some [(4, .blk), (5, .blk)]) K).K := by kernel_rfl

def spec_l16Fork_F : PT := mkF [(0, .agg [.slice]), (1, .int .i64)] fun K => spec_l16Fork (curV [(4, .blk), (5, .blk)] (K .ret))

theorem spec_l16Fork_V : Valid Try.prog 57 code37 spec_l16Fork_F :=
  piece mixed (rows_cons (q' := [true, true, false, false]) spec_l16Fork_l0_V rfl rows_nil) (fun K => by intro p_1 p_l1 p_c1 i_2 h hd; exact (spec_l16Fork_eq K p_1 p_l1 p_c1 i_2 h) ▸ hd)

theorem spec_l16Fork_c0 (p_1 : Option Addr) (p_l1 : Nat) (p_c1 : Nat) (i_2 : Int) (h : H) (K : Value → H → Prop) :
  spec_l16Fork (fun b100001 b100002 h =>
  ldRow h b100001 0 0 [.slice] fun a100003 l100003 c100003 =>
  ldRow h b100002 0 0 [.int .i64, .int .i64, .int .i64] fun n100004 n100005 n100006 =>
  K (.tuple ⟨[.agg ⟨[.slice a100003 l100003 c100003]⟩, .agg ⟨[.int .i64 n100004, .int .i64 n100005, .int .i64 n100006]⟩]⟩) h) p_1 p_l1 p_c1 i_2 h = callF Try.prog Try.f37.results.toList spec_l16Fork_F [.agg ⟨[.slice p_1 p_l1 p_c1]⟩, .int .i64 i_2] h K := by kernel_rfl

theorem spec_l16Fork_call {p_1 : Option Addr} {p_l1 : Nat} {p_c1 : Nat} {i_2 : Int} {h : H} {K : Value → H → Prop} (hs : spec_l16Fork (fun b100001 b100002 h =>
  ldRow h b100001 0 0 [.slice] fun a100003 l100003 c100003 =>
  ldRow h b100002 0 0 [.int .i64, .int .i64, .int .i64] fun n100004 n100005 n100006 =>
  K (.tuple ⟨[.agg ⟨[.slice a100003 l100003 c100003]⟩, .agg ⟨[.int .i64 n100004, .int .i64 n100005, .int .i64 n100006]⟩]⟩) h) p_1 p_l1 p_c1 i_2 h) : callK Try.prog 37 ⟨[.agg ⟨[.slice p_1 p_l1 p_c1]⟩, .int .i64 i_2]⟩ h K :=
  func_calls Try.func37 body37 spec_l16Fork_V (Nat.le_of_ble_eq_true (by kernel_rfl)) (spec_l16Fork_c0 p_1 p_l1 p_c1 i_2 h K ▸ hs)

def spec_l16Fork_M_l0 (kx0 : Int → Int → Option Addr → Nat → Nat → H → Prop) : Nat → Int → Int → Option Addr → Nat → Nat → H → Prop
 | 0, _, _, _, _, _, _ => False
 | N + 1, i_3, id_4, a5, l5, c5, h =>
  ifB (decide ((id_4 : Int) ≤ 32))
  (callD Try.prog 25 ⟨[.agg ⟨[.slice a5 l5 c5]⟩, .int .i64 id_4]⟩ h fun v13 h =>
  asI .i64 v13 fun n14 =>
  ifB (decide ((n14 : Int) ≥ 0))
  (spec_l16Fork_M_l0 kx0 N i_3 (IntKind.i64.wrap (id_4 + 1)) a5 l5 c5 h)
  (kx0 i_3 id_4 a5 l5 c5 h))
  (kx0 i_3 id_4 a5 l5 c5 h)

def spec_l16Fork_M (kr : Option Addr → Nat → Nat → Int → Int → Int → H → Prop) (p_1 : Option Addr) (p_l1 : Nat) (p_c1 : Nat) (i_2 : Int) (h : H) : Prop :=
  ∃ M30, spec_l16Fork_M_l0 (fun i_3 id_4 a5 l5 c5 h =>
  ifB (decide ((id_4 : Int) > 32))
  (kr a5 l5 c5 18 0 0 h)
  (req (0 ≤ (i_3 : Int) ∧ (i_3 : Int) < (l5 : Nat))
  (nz a5 fun b13 o14 =>
  ldRow h b13 (o14 + i_3.toNat * 10) 0 [.int .i64, .int .i64, .int .i64, .int .i64, .int .i64, .int .i64, .int .i64, .int .i64, .int .i64, .int .i64] fun n15 n16 n17 n18 n19 n20 n21 n22 n23 n24 =>
  newD h [] 38 fun b25 h =>
  req (0 ≤ (IntKind.i64.wrap (id_4 - 1) : Int) ∧ (IntKind.i64.wrap (id_4 - 1) : Int) ≤ (c5 : Nat))
  (req (plainA a5 = true)
  (appendD Try.prog 38 h (some ⟨b25, 0, none⟩) 0 0 (.slice (slB a5 0 c5 10) ((IntKind.i64.wrap (id_4 - 1)).toNat - 0) (c5 - 0)) fun a26 l26 c26 h =>
  newD h [.int .i64 id_4, .int .i64 n15, .int .i64 n17, .int .i64 n18, .int .i64 1, .int .i64 n20, .int .i64 0, .int .i64 n22, .int .i64 n23, .int .i64 n24] 38 fun b27 h =>
  appendD Try.prog 38 h a26 l26 c26 (.slice (some ⟨b27, 0, none⟩) 1 1) fun a28 l28 c28 h =>
  req (0 ≤ (IntKind.i64.wrap (id_4 - 1) : Int) ∧ (IntKind.i64.wrap (id_4 - 1) : Int) ≤ (l5 : Nat))
  (req (plainA a5 = true)
  (appendD Try.prog 38 h a28 l28 c28 (.slice (slB a5 ((IntKind.i64.wrap (id_4 - 1)).toNat) c5 10) (l5 - (IntKind.i64.wrap (id_4 - 1)).toNat) (c5 - (IntKind.i64.wrap (id_4 - 1)).toNat)) fun a29 l29 c29 h =>
  kr a29 l29 c29 0 id_4 0 h))))))) M30 i_2 1 p_1 p_l1 p_c1 h

theorem spec_l16Fork_M_l0_D {g0 m0 : H} {kx0_1 : Int → Nat → Nat → Nat → Int → H → Prop} {kx0_2 : Int → Int → Option Addr → Nat → Nat → H → Prop} (Hkx0 : ∀ (i_200001 : Int) (id_200002 : Int) (a200003 : Option Addr) (l200003 : Nat) (c200003 : Nat) (a200005 : Option Addr) (l200005 : Nat) (c200005 : Nat) (n200007 : Int) (n200008 : Int) (n200009 : Int) (p200004 : Nat) (p200006 : Nat) (p200010 : Nat) (g m : H), Md g0 m0 g m [lo p200004 [.slice a200003 l200003 c200003], lo p200006 [.slice a200005 l200005 c200005], lo p200010 [.int .i64 n200007, .int .i64 n200008, .int .i64 n200009]] → kx0_2 i_200001 id_200002 a200003 l200003 c200003 m → kx0_1 i_200001 p200004 p200006 p200010 id_200002 g) : ∀ (N : Nat) (i_1003 : Int) (id_1004 : Int) (a1005 : Option Addr) (l1005 : Nat) (c1005 : Nat) (a1007 : Option Addr) (l1007 : Nat) (c1007 : Nat) (n1009 : Int) (n1010 : Int) (n1011 : Int) (p1006 : Nat) (p1008 : Nat) (p1012 : Nat) (g m : H), Md g0 m0 g m [lo p1006 [.slice a1005 l1005 c1005], lo p1008 [.slice a1007 l1007 c1007], lo p1012 [.int .i64 n1009, .int .i64 n1010, .int .i64 n1011]] → spec_l16Fork_M_l0 kx0_2 N i_1003 id_1004 a1005 l1005 c1005 m → spec_l16Fork_l0 kx0_1 N i_1003 p1006 p1008 p1012 id_1004 g := by
  intro N
  induction N with
  | zero => intro i_1003 id_1004 a1005 l1005 c1005 a1007 l1007 c1007 n1009 n1010 n1011 p1006 p1008 p1012 g m R h0; exact h0.elim
  | succ N ih =>
    intro i_1003 id_1004 a1005 l1005 c1005 a1007 l1007 c1007 n1009 n1010 n1011 p1006 p1008 p1012 g m R
    rw [spec_l16Fork_M_l0, spec_l16Fork_l0]
    exact (d_if (p_row_L R rfl (d_call R fun v1013 g m R =>
  (d_asI fun n1014 =>
  (d_if (ih i_1003 (IntKind.i64.wrap (id_1004 + 1)) a1005 l1005 c1005 a1007 l1007 c1007 n1009 n1010 n1011 p1006 p1008 p1012 _ _ R.sub)
  (Hkx0 i_1003 id_1004 a1005 l1005 c1005 a1007 l1007 c1007 n1009 n1010 n1011 p1006 p1008 p1012 _ _ R.sub)))))
  (Hkx0 i_1003 id_1004 a1005 l1005 c1005 a1007 l1007 c1007 n1009 n1010 n1011 p1006 p1008 p1012 _ _ R.sub))

theorem spec_l16Fork_M_D {g0 m0 : H} {kr_1 : Nat → Nat → H → Prop} {kr_2 : Option Addr → Nat → Nat → Int → Int → Int → H → Prop} (Hkr : ∀ (a200001 : Option Addr) (l200001 : Nat) (c200001 : Nat) (n200003 : Int) (n200004 : Int) (n200005 : Int) (p200002 : Nat) (p200006 : Nat) (g m : H), Md g0 m0 g m [lo p200002 [.slice a200001 l200001 c200001], lo p200006 [.int .i64 n200003, .int .i64 n200004, .int .i64 n200005]] → kr_2 a200001 l200001 c200001 n200003 n200004 n200005 m → kr_1 p200002 p200006 g) : ∀ (p_1001 : Option Addr) (p_l1001 : Nat) (p_c1001 : Nat) (i_1002 : Int) (g m : H), Md g0 m0 g m [] → spec_l16Fork_M kr_2 p_1001 p_l1001 p_c1001 i_1002 m → spec_l16Fork kr_1 p_1001 p_l1001 p_c1001 i_1002 g := by
  intro p_1001 p_l1001 p_c1001 i_1002 g m R
  rw [spec_l16Fork_M, spec_l16Fork]
  exact (p_new R fun p1003 g R =>
  (p_new R fun p1004 g R =>
  (p_new R fun p1005 g R =>
  (d_ex fun N => spec_l16Fork_M_l0_D (by exact fun i_1006 id_1007 a1008 l1008 c1008 a1010 l1010 c1010 n1012 n1013 n1014 p1009 p1011 p1015 g m R =>
  (d_if (p_row_L R rfl (p_stRow R (cs' := [.slice a1008 l1008 c1008]) ⟨rfl, rfl, rfl⟩ fun g R =>
  (p_stRow R (cs' := [.int .i64 18, .int .i64 0, .int .i64 0]) ⟨rfl, rfl, rfl⟩ fun g R =>
  (Hkr a1008 l1008 c1008 18 0 0 p1011 p1015 _ _ R.sub))))
  (p_ldL R rfl (d_req (d_nz fun b1016 o1017 =>
  (d_row_I10 R fun n1018 n1019 n1020 n1021 n1022 n1023 n1024 n1025 n1026 n1027 =>
  (p_new R fun p1028 g R =>
  (p_stRow R (cs' := [.int .i64 n1018, .int .i64 n1019, .int .i64 n1020, .int .i64 n1021, .int .i64 n1022, .int .i64 n1023, .int .i64 n1024, .int .i64 n1025, .int .i64 n1026, .int .i64 n1027]) ⟨rfl, rfl, rfl⟩ fun g R =>
  (p_ldI R rfl (p_st R (cs' := [.int .i64 n1018, .int .i64 n1018, .int .i64 n1020, .int .i64 n1021, .int .i64 n1022, .int .i64 n1023, .int .i64 n1024, .int .i64 n1025, .int .i64 n1026, .int .i64 n1027]) ⟨rfl, rfl⟩ fun g R =>
  (p_st R (cs' := [.int .i64 id_1007, .int .i64 n1018, .int .i64 n1020, .int .i64 n1021, .int .i64 n1022, .int .i64 n1023, .int .i64 n1024, .int .i64 n1025, .int .i64 n1026, .int .i64 n1027]) ⟨rfl, rfl⟩ fun g R =>
  (p_st R (cs' := [.int .i64 id_1007, .int .i64 n1018, .int .i64 n1020, .int .i64 n1021, .int .i64 1, .int .i64 n1023, .int .i64 n1024, .int .i64 n1025, .int .i64 n1026, .int .i64 n1027]) ⟨rfl, rfl⟩ fun g R =>
  (p_st R (cs' := [.int .i64 id_1007, .int .i64 n1018, .int .i64 n1020, .int .i64 n1021, .int .i64 1, .int .i64 n1023, .int .i64 0, .int .i64 n1025, .int .i64 n1026, .int .i64 n1027]) ⟨rfl, rfl⟩ fun g R =>
  (d_new R fun b1029 g m R =>
  (p_ldL R rfl (d_req (d_req (d_append R fun a1030 l1030 c1030 g m R =>
  (p_row_I10 R rfl rfl rfl rfl rfl rfl rfl rfl rfl rfl (d_new R fun b1031 g m R =>
  (d_append R fun a1032 l1032 c1032 g m R =>
  (p_ldL R rfl (d_req (d_req (d_append R fun a1033 l1033 c1033 g m R =>
  (p_st R (cs' := [.slice a1033 l1033 c1033]) ⟨rfl, rfl⟩ fun g R =>
  (p_row_L R rfl (p_stRow R (cs' := [.slice a1033 l1033 c1033]) ⟨rfl, rfl, rfl⟩ fun g R =>
  (p_stRow R (cs' := [.int .i64 0, .int .i64 id_1007, .int .i64 0]) ⟨rfl, rfl, rfl⟩ fun g R =>
  (Hkr a1033 l1033 c1033 0 id_1007 0 p1011 p1015 _ _ R.sub)))))))))))))))))))))))))))))) N i_1002 1 p_1001 p_l1001 p_c1001 none 0 0 0 0 0 p1003 p1004 p1005 _ _ R.sub))))

theorem spec_l16Fork_M_call {p_1 : Option Addr} {p_l1 : Nat} {p_c1 : Nat} {i_2 : Int} {h : H} {K : Value → H → Prop} (hs : spec_l16Fork_M (fun a300001 l300001 c300001 n300003 n300004 n300005 h =>
  K (.tuple ⟨[.agg ⟨[.slice a300001 l300001 c300001]⟩, .agg ⟨[.int .i64 n300003, .int .i64 n300004, .int .i64 n300005]⟩]⟩) h) p_1 p_l1 p_c1 i_2 h) : callD Try.prog 37 ⟨[.agg ⟨[.slice p_1 p_l1 p_c1]⟩, .int .i64 i_2]⟩ h K :=
  fun g r => spec_l16Fork_call (spec_l16Fork_M_D (by exact fun a300001 l300001 c300001 n300003 n300004 n300005 p300002 p300006 g m R =>
(p_row_L R rfl (p_row_I3 R rfl rfl rfl (fun h => ⟨m, R.af, h⟩)))) _ _ _ _ _ _ (Md.start r) hs)

end Go.Proofs.Ytgcjjapmdbgofaa
