/- An own symbolic executor for the model's code, and what the functions beneath the law compute, joined out of: SoEC, PrR, AeR, SsR. No condition. -/
import Derived.Test.YtcaohobogibemaaM4
import Derived.Test.YtcaohobogibemaaRows
import Derived.ProofKit
import Derived.OpenShut
import Derived.Below
import Derived.Carry
import Derived.ChangeArms

set_option linter.unusedSimpArgs false
set_option linter.unusedVariables false
namespace AE.Soil
open Go AE Go.Proofs

def Tle : Tab UU := [(8, awakeS.con), (24, isGroundS.con), (28, lpitS.con), (9, hardOS.con), (11, partsOS.con), (13, classOS.con), (25, toldS.con), (27, canS.con)]
theorem Tle_ok : Tle.Sound Try.prog := .cons awake_sound (.cons rGround_sound (.cons lpit_sound (.cons hardO_sound (.cons partsO_sound (.cons classO_sound (.cons toldP_sound (.cons lcan_sound .nil)))))))
theorem bit0 (c3 c1 c2 c0 : Bool) : (IntKind.i64.wrap ((BitVec.ofInt 64 ((bitsM c3 c1 c2 c0).fdiv (2 ^ 0)) &&& BitVec.ofInt 64 1).toNat : Int) == 1) = c0 := by revert c3 c1 c2 c0; decide
theorem bit1 (c3 c1 c2 c0 : Bool) : (IntKind.i64.wrap ((BitVec.ofInt 64 ((bitsM c3 c1 c2 c0).fdiv (2 ^ 1)) &&& BitVec.ofInt 64 1).toNat : Int) == 1) = c1 := by revert c3 c1 c2 c0; decide
theorem bit2 (c3 c1 c2 c0 : Bool) : (IntKind.i64.wrap ((BitVec.ofInt 64 ((bitsM c3 c1 c2 c0).fdiv (2 ^ 2)) &&& BitVec.ofInt 64 1).toNat : Int) == 1) = c2 := by revert c3 c1 c2 c0; decide
theorem bit3 (c3 c1 c2 c0 : Bool) : (IntKind.i64.wrap ((BitVec.ofInt 64 ((bitsM c3 c1 c2 c0).fdiv (2 ^ 3)) &&& BitVec.ofInt 64 1).toNat : Int) == 1) = c3 := by revert c3 c1 c2 c0; decide
theorem bits_in {c3 c1 c2 c0 : Bool} (h : (c3 || c1 || c2 || c0) = true) : bitsM c3 c1 c2 c0 > 0 ∧ bitsM c3 c1 c2 c0 < 16 := by revert c3 c1 c2 c0 h; decide
theorem ends_of {s : Span} {F : Int → Bool} (h : ∀ n, F n = true ↔ In s n) (h0 : 0 ≤ s.1) (h1 : s.1 ≤ s.2) (h2 : s.2 ≤ 1000) : (¬ s.1 > s.2) ∧ F s.1 = true ∧ F s.2 = true ∧ F (IntKind.i64.wrap (s.1 - 1)) = false ∧ F (IntKind.i64.wrap (s.2 + 1)) = false := by
  refine ⟨by omega, (h _).2 ⟨Int.le_refl _, h1⟩, (h _).2 ⟨h1, Int.le_refl _⟩, ?_, ?_⟩
  · rw [wrap_id (by omega) (by omega)]
    refine Bool.eq_false_iff.2 fun hc => ?_
    have := (h _).1 hc
    have := this.1
    omega
  · rw [wrap_id (by omega) (by omega)]
    refine Bool.eq_false_iff.2 fun hc => ?_
    have := (h _).1 hc
    have := this.2
    omega
theorem gd0 {α : Type} (a b c d e : α) : [a, b, c, d].getD 0 e = a := rfl
theorem gd1 {α : Type} (a b c d e : α) : [a, b, c, d].getD 1 e = b := rfl
theorem gd2 {α : Type} (a b c d e : α) : [a, b, c, d].getD 2 e = c := rfl
theorem gd3 {α : Type} (a b c d e : α) : [a, b, c, d].getD 3 e = d := rfl
def lawES : FSpec UU where
  X := GroundT × Int
  pick := fun args H => match args with
    | [a, .v (.int .u8 b)] => match avGround H a with
      | some a => some (a, b)
      | _ => none
    | _ => none
  args := fun x => [vGround x.1 0, .v (.int .u8 x.2)]
  H := fun x => [.one (.ro .pit x.1.pits)]
  R := fun _ => .val ⟨.b true, [], [], []⟩
  pre := fun x => x.1.pits.length < 9223372036854775808 ∧ (0 ≤ x.2 ∧ x.2 ≤ 255)
set_option maxHeartbeats 0 in
set_option maxRecDepth 100000 in
theorem lawE_ok : ∀ x, lawES.pre x → FunOk Try.prog 5 (lawES.args x) (lawES.H x) (lawES.R x) := by
  rintro ⟨⟨long, rise, change, ps⟩, a⟩ hx
  refine fun_of (T := Tle) (L := fun _ => some (.unroll 5)) (hs := fun _ => []) hmix Tle_ok Try.func5 (by kernel_rfl) (by kernel_rfl) ?_
  refine Eq.mp (α :=
      let Z0 := Value.bool true; let Z1 := Value.bool false; let Z2 := GroundT.mk long rise change ps; let Z3 := nat_lit 1 < nat_lit 4; let Z4 := nat_lit 3 < nat_lit 4; let Z5 := nat_lit 0 < nat_lit 4; let Z6 := nat_lit 2 < nat_lit 4; let Z7 := nat_lit 4 < nat_lit 4; let Z8 := Value.int IntKind.i64 long; let Z9 := List.length ps; let Z10 := Value.int IntKind.i64 rise; let Z11 := Value.int IntKind.i64 change; let Z12 := IntKind.wrap IntKind.i64 a; let Z13 := nat_lit 0 = nat_lit 0 ∧ nat_lit 0 = nat_lit 0; let Z14 := (↑(nat_lit 0) : Int); let Z15 := (↑(nat_lit 2) : Int); let Z16 := (↑(nat_lit 4) : Int); let Z17 := (↑(nat_lit 1) : Int); let Z18 := (↑(nat_lit 3) : Int); let Z19 := (8 : Int); let Z20 := (7 : Int); let Z21 := (0 : Int); let Z22 := (2 : Int); let Z23 := (1 : Int); let Z24 : List (Int × Span × Span × Span × Span) := []; let Z25 := (10 : Int); let Z26 := (14 : Int); let Z27 := (20 : Int); let Z28 := (13 : Int); let Z29 := (11 : Int); let Z30 : List (Int × Int) := []; let Z31 := (12 : Int); let Z32 := (16 : Int); let Z33 := groundM Z2; let Z34 := (1000 : Int); let Z35 := ps = ps; let Z36 := nat_lit 0 = nat_lit 0 ∧ Z13; let Z37 := !Z33; let Z38 := BitVec.ofInt (nat_lit 64) Z23; let Z39 := Z35 ∧ True; let Z40 := Z9 < nat_lit 1000; let Z41 := Value.int IntKind.i64 Z15; let Z42 := Value.int IntKind.i64 Z18; let Z43 := Value.int IntKind.i64 Z17; let Z44 := Value.int IntKind.i64 Z16; let Z45 := Value.int IntKind.i64 Z14; let Z46 := Z0 = Z0; let Z47 := Z9 < nat_lit 1000000; let Z48 := (↑Z9 : Int); let Z49 := Value.int IntKind.i64 Z20; let Z50 := Z0 = Z1; let Z51 := Value.int IntKind.i64 Z19; let Z52 := Value.int IntKind.i64 Z21; let Z53 := Value.int IntKind.i64 Z28; let Z54 := Value.int IntKind.i64 Z26; let Z55 := Value.int IntKind.i64 Z27; let Z56 := Value.int IntKind.i64 Z29; let Z57 := Value.int IntKind.i64 Z31; let Z58 := Z36 ∧ True; let Z59 := Z9 = Z9; let Z60 := True ∧ Z39; let Z61 := Value.int IntKind.i64 Z34; let Z62 := Z8 = Z8; let Z63 := Z10 = Z10; let Z64 := AV.v Z49; let Z65 := Z11 = Z11; let Z66 := AV.v Z52; let Z67 := AV.v Z51; let Z68 := AV.v Z54; let Z69 := AV.v Z53; let Z70 := AV.v Z57; let Z71 := AV.v Z55; let Z72 := AV.v Z56; let Z73 := Z46 ∧ True; let Z74 := Z50 ∧ True; let Z75 := AV.v Z61; let Z76 := nat_lit 0 = nat_lit 0 ∧ Z59; let Z77 := (Z21, Z21); let Z78 := (Z21, Z20); let Z79 := (Z21, Z29); let Z80 := (Z21, Z28); let Z81 := (Z21, Z27); let Z82 := long + Z23; let Z83 := (Z19, Z27); let Z84 := (Z26, Z27); let Z85 := (Z31, Z27); let Z86 := Z21 < Z16; let Z87 := (Z21, Z34); let Z88 := Z21 ≤ Z21; let Z89 := nat_lit 0 = nat_lit 0 ∧ Z76; let Z90 := Z22 ^ nat_lit 2; let Z91 := Z22 ^ nat_lit 1; let Z92 := Z22 ^ nat_lit 0; let Z93 := Z22 ^ nat_lit 3; let Z94 := Z22 ^ nat_lit 4; let Z95 := Z89 ∧ True; let Z96 := IntKind.wrap IntKind.i64 Z82; let Z97 := Z48 ≥ Z19; let Z98 := Z36 ∧ Z58; let Z99 := Z21 + Z23; let Z100 := Z52 = Z45; let Z101 := Z52 = Z52; let Z102 := Z51 = Z51; let Z103 := Z49 = Z49; let Z104 := Z54 = Z54; let Z105 := Z55 = Z55; let Z106 := Z53 = Z53; let Z107 := Z56 = Z56; let Z108 := Z57 = Z57; let Z109 := Z100 ∧ True; let Z110 := Z67 = Z67; let Z111 := Z103 ∧ True; let Z112 := Z73 ∧ Z60; let Z113 := Z66 = Z66; let Z114 := Z64 = Z64; let Z115 := Z74 ∧ Z60; let Z116 := Z61 = Z61; let Z117 := Z70 = Z70; let Z118 := Z72 = Z72; let Z119 := Z71 = Z71; let Z120 := Z69 = Z69; let Z121 := Z105 ∧ True; let Z122 := Z68 = Z68; let Z123 := IntKind.wrap IntKind.i64 Z99; let Z124 := Z109 ∧ True; let Z125 := True ∧ Z112; let Z126 := Z75 = Z75; let Z127 := True ∧ Z115; let Z128 := Z119 ∧ True; let Z129 := Int.tmod Z12 Z96; let Z130 := True ∧ Z125; let Z131 := Value.int IntKind.i64 Z123; let Z132 := True ∧ Z130; let Z133 := Value.int IntKind.i64 Z129; let Z134 := True ∧ Z132; let Z135 := Z65 ∧ Z95; let Z136 := AV.v Z133; let Z137 := Z88 ∧ Z86; let Z138 := hardOM Z2 Z129; let Z139 := classOM Z2 Z129; let Z140 := partsOM Z2 Z129; let Z141 := (Z77, Z77); let Z142 := Z123 < Z16; let Z143 := (Z81, Z78); let Z144 := (Z79, Z78); let Z145 := (Z85, Z78); let Z146 := Z21 ≤ Z123; let Z147 := (Z81, Z83); let Z148 := Prod.snd Z139; let Z149 := Prod.fst Z139; let Z150 := Prod.fst Z138; let Z151 := Prod.snd Z138; let Z152 := Prod.snd Z140; let Z153 := Prod.fst Z140; let Z154 := Z123 + Z23; let Z155 := Z131 = Z43; let Z156 := Prod.fst Z150; let Z157 := Prod.snd Z150; let Z158 := Z155 ∧ True; let Z159 := Z63 ∧ Z135; let Z160 := IntKind.wrap IntKind.i64 Z154; let Z161 := Z158 ∧ True; let Z162 := Value.int IntKind.i64 Z157; let Z163 := Value.int IntKind.i64 Z156; let Z164 := Prod.fst Z153; let Z165 := Prod.snd Z153; let Z166 := AV.v Z163; let Z167 := AV.v Z162; let Z168 := Z101 ∧ Z111; let Z169 := Z102 ∧ Z121; let Z170 := Z149 > Z21; let Z171 := Z149 < Z32; let Z172 := Value.int IntKind.i64 Z160; let Z173 := Prod.snd Z164; let Z174 := Prod.fst Z164; let Z175 := Z110 ∧ Z128; let Z176 := Prod.fst Z165; let Z177 := Prod.snd Z165; let Z178 := Z149 == Z21; let Z179 := Z151 != Z21; let Z180 := Value.int IntKind.i64 Z174; let Z181 := Value.int IntKind.i64 Z173; let Z182 := Z160 < Z16; let Z183 := Z151 == Z25; let Z184 := Z21 ≤ Z160; let Z185 := AV.v Z181; let Z186 := Prod.snd Z176; let Z187 := Prod.snd Z177; let Z188 := Prod.fst Z177; let Z189 := AV.v Z180; let Z190 := Prod.fst Z176; let Z191 := Z62 ∧ Z159; let Z192 := decide Z97; let Z193 := Z157 == Z21; let Z194 := Z156 == Z21; let Z195 := (Z77, Z141); let Z196 := Int.fdiv Z149 Z92; let Z197 := Int.fdiv Z149 Z93; let Z198 := Int.fdiv Z149 Z90; let Z199 := Int.fdiv Z149 Z91; let Z200 := Int.fdiv Z149 Z94; let Z201 := (Z80, Z144); let Z202 := (Z81, Z147); let Z203 := (Z84, Z143); let Z204 := (Z80, Z145); let Z205 := Value.int IntKind.i64 Z190; let Z206 := Value.int IntKind.i64 Z187; let Z207 := Value.int IntKind.i64 Z186; let Z208 := Value.int IntKind.i64 Z188; let Z209 := Z160 + Z23; let Z210 := Z172 = Z41; let Z211 := AV.v Z205; let Z212 := AV.v Z207; let Z213 := AV.v Z206; let Z214 := AV.v Z208; let Z215 := BitVec.ofInt (nat_lit 64) Z197; let Z216 := BitVec.ofInt (nat_lit 64) Z198; let Z217 := BitVec.ofInt (nat_lit 64) Z199; let Z218 := BitVec.ofInt (nat_lit 64) Z196; let Z219 := Z193 && true; let Z220 := BitVec.ofInt (nat_lit 64) Z200; let Z221 := Z210 ∧ True; let Z222 := IntKind.wrap IntKind.i64 Z209; let Z223 := Z221 ∧ True; let Z224 := Z133 = Z133; let Z225 : List (Int × Int) := Z177 :: Z30; let Z226 := Z224 ∧ True; let Z227 := Z136 = Z136; let Z228 := Value.int IntKind.i64 Z222; let Z229 := Z105 ∧ Z168; let Z230 := Z107 ∧ Z168; let Z231 := Z105 ∧ Z169; let Z232 := Z146 ∧ Z142; let Z233 := Z222 < Z16; let Z234 := Z21 ≤ Z222; let Z235 := Z119 ∧ Z175; let Z236 := Z222 + Z23; let Z237 := Z228 = Z42; let Z238 := Z237 ∧ True; let Z239 := IntKind.wrap IntKind.i64 Z236; let Z240 := Z238 ∧ True; let Z241 := (Z77, Z195); let Z242 := Z151 != Z148; let Z243 := (Z87, Z201); let Z244 := (Z87, Z202); let Z245 := (Z87, Z203); let Z246 := (Z87, Z204); let Z247 := Z151 != Z152; let Z248 := Value.int IntKind.i64 Z239; let Z249 := Z226 ∧ Z124; let Z250 := Z239 < Z16; let Z251 := Z101 ∧ Z230; let Z252 := Z101 ∧ Z229; let Z253 := Z21 ≤ Z239; let Z254 := Z101 ∧ Z231; let Z255 := Z108 ∧ Z229; let Z256 := Z248 = Z44; let Z257 := Z256 ∧ True; let Z258 := Z173 == Z157; let Z259 := Z174 == Z156; let Z260 := Z113 ∧ Z235; let Z261 := (Z21, Z241); let Z262 := Z257 ∧ True; let Z263 := Z258 && true; let Z264 := Z187 == Z157; let Z265 := Z188 == Z156; let Z266 := Z186 == Z157; let Z267 := Z190 == Z156; let Z268 := Z217 &&& Z38; let Z269 := Z218 &&& Z38; let Z270 := Z215 &&& Z38; let Z271 := Z216 &&& Z38; let Z272 := Z220 &&& Z38; let Z273 := Z264 && true; let Z274 := Z266 && true; let Z275 := Z184 ∧ Z182; let Z276 := BitVec.toNat Z268; let Z277 := BitVec.toNat Z271; let Z278 := BitVec.toNat Z272; let Z279 := BitVec.toNat Z270; let Z280 := BitVec.toNat Z269; let Z281 := Z226 ∧ Z161; let Z282 := (↑Z277 : Int); let Z283 := (↑Z279 : Int); let Z284 := (↑Z276 : Int); let Z285 := (↑Z278 : Int); let Z286 := (↑Z280 : Int); let Z287 := Z106 ∧ Z251; let Z288 := Z105 ∧ Z252; let Z289 := Z105 ∧ Z254; let Z290 := Z106 ∧ Z255; let Z291 := Z194 && Z219; let Z292 := IntKind.wrap IntKind.i64 Z286; let Z293 := IntKind.wrap IntKind.i64 Z285; let Z294 := IntKind.wrap IntKind.i64 Z282; let Z295 := IntKind.wrap IntKind.i64 Z283; let Z296 := IntKind.wrap IntKind.i64 Z284; let Z297 : List (Int × Int) := Z176 :: Z225; let Z298 := Z191 ∧ Z226; let Z299 := (Z129, Z243); let Z300 := (Z129, Z245); let Z301 := (Z129, Z246); let Z302 := (Z129, Z244); let Z303 := Z119 ∧ Z260; let Z304 := Z226 ∧ Z223; let Z305 := Z294 == Z23; let Z306 := Z292 == Z23; let Z307 := Z295 == Z23; let Z308 := Z293 == Z23; let Z309 := Z296 == Z23; let Z310 : List (Int × Span × Span × Span × Span) := Z302 :: Z24; let Z311 := Z101 ∧ Z287; let Z312 := Z101 ∧ Z289; let Z313 := Z101 ∧ Z290; let Z314 := Z104 ∧ Z288; let Z315 := Z234 ∧ Z233; let Z316 := Z226 ∧ Z240; let Z317 := Z113 ∧ Z303; let Z318 := Z116 ∧ Z311; let Z319 := Z116 ∧ Z313; let Z320 := Z116 ∧ Z314; let Z321 := Z116 ∧ Z312; let Z322 := Z226 ∧ Z262; let Z323 : List (Int × Int) := Z164 :: Z297; let Z324 := Z126 ∧ Z317; let Z325 := Z253 ∧ Z250; let Z326 := Z101 ∧ Z318; let Z327 := Z101 ∧ Z319; let Z328 := Z101 ∧ Z321; let Z329 := Z101 ∧ Z320; let Z330 := Z113 ∧ Z324; let Z331 := Z259 && Z263; let Z332 := Z267 && Z274; let Z333 := Z265 && Z273; let Z334 : List (Int × Int) := Z150 :: Z323; let Z335 := List.getD Z334 (nat_lit 2) Z77; let Z336 := List.getD Z334 (nat_lit 3) Z77; let Z337 := List.getD Z334 (nat_lit 4) Z77; let Z338 := List.getD Z334 (nat_lit 0) Z77; let Z339 := List.getD Z334 (nat_lit 1) Z77; let Z340 := Prod.snd Z336; let Z341 := Prod.fst Z337; let Z342 := Prod.fst Z339; let Z343 := Prod.fst Z335; let Z344 := Prod.snd Z339; let Z345 := Prod.snd Z335; let Z346 := Prod.fst Z338; let Z347 := Prod.snd Z337; let Z348 := Prod.snd Z338; let Z349 := Prod.fst Z336; let Z350 := Value.int IntKind.i64 Z347; let Z351 := Value.int IntKind.i64 Z345; let Z352 := Value.int IntKind.i64 Z343; let Z353 := Value.int IntKind.i64 Z342; let Z354 := Value.int IntKind.i64 Z341; let Z355 := Value.int IntKind.i64 Z340; let Z356 := Value.int IntKind.i64 Z349; let Z357 := Value.int IntKind.i64 Z344; let Z358 := Value.int IntKind.i64 Z346; let Z359 := Value.int IntKind.i64 Z348; let Z360 := Z224 ∧ Z326; let Z361 := Z224 ∧ Z327; let Z362 := Z224 ∧ Z328; let Z363 := Z224 ∧ Z329; let Z364 := Z348 + Z23; let Z365 := Z345 + Z23; let Z366 := Z341 - Z23; let Z367 := Z347 + Z23; let Z368 := Z340 + Z23; let Z369 := Z343 - Z23; let Z370 := Z342 - Z23; let Z371 := Z349 - Z23; let Z372 := Z344 + Z23; let Z373 := Z346 - Z23; let Z374 := IntKind.wrap IntKind.i64 Z367; let Z375 := IntKind.wrap IntKind.i64 Z368; let Z376 := IntKind.wrap IntKind.i64 Z370; let Z377 := IntKind.wrap IntKind.i64 Z366; let Z378 := IntKind.wrap IntKind.i64 Z365; let Z379 := IntKind.wrap IntKind.i64 Z373; let Z380 := IntKind.wrap IntKind.i64 Z372; let Z381 := IntKind.wrap IntKind.i64 Z371; let Z382 := IntKind.wrap IntKind.i64 Z369; let Z383 := IntKind.wrap IntKind.i64 Z364; let Z384 := Value.int IntKind.i64 Z374; let Z385 := Value.int IntKind.i64 Z375; let Z386 := Value.int IntKind.i64 Z383; let Z387 := Value.int IntKind.i64 Z379; let Z388 := Value.int IntKind.i64 Z381; let Z389 := Value.int IntKind.i64 Z376; let Z390 := Value.int IntKind.i64 Z382; let Z391 := Value.int IntKind.i64 Z380; let Z392 := Value.int IntKind.i64 Z377; let Z393 := Value.int IntKind.i64 Z378; let Z394 : List (Int × Span × Span × Span × Span) := Z301 :: Z310; let Z395 := Z227 ∧ Z330; let Z396 := toldPM (nat_lit 4) Z129 Z341; let Z397 := toldPM (nat_lit 1) Z129 Z344; let Z398 := toldPM (nat_lit 1) Z129 Z342; let Z399 := toldPM (nat_lit 2) Z129 Z345; let Z400 := toldPM (nat_lit 3) Z129 Z340; let Z401 := toldPM (nat_lit 4) Z129 Z347; let Z402 := toldPM (nat_lit 2) Z129 Z343; let Z403 := toldPM (nat_lit 0) Z129 Z346; let Z404 := toldPM (nat_lit 0) Z129 Z348; let Z405 := toldPM (nat_lit 3) Z129 Z349; let Z406 := canM Z2 Z399; let Z407 := canM Z2 Z398; let Z408 := canM Z2 Z401; let Z409 := canM Z2 Z405; let Z410 := canM Z2 Z400; let Z411 := canM Z2 Z396; let Z412 := canM Z2 Z397; let Z413 := canM Z2 Z403; let Z414 := canM Z2 Z402; let Z415 := canM Z2 Z404; let Z416 := !Z407; let Z417 := !Z414; let Z418 := !Z409; let Z419 := !Z411; let Z420 := !Z412; let Z421 := !Z410; let Z422 := !Z406; let Z423 := !Z413; let Z424 := !Z415; let Z425 := !Z408; let Z426 := Prod.snd Z398; let Z427 := Prod.fst Z404; let Z428 := Prod.fst Z401; let Z429 := Prod.snd Z401; let Z430 := Prod.fst Z400; let Z431 := Prod.snd Z400; let Z432 := Prod.fst Z405; let Z433 := Prod.snd Z405; let Z434 := Prod.fst Z397; let Z435 := Prod.fst Z403; let Z436 := Prod.snd Z397; let Z437 := Prod.fst Z398; let Z438 := Prod.snd Z404; let Z439 := Prod.fst Z402; let Z440 := Prod.snd Z402; let Z441 := Prod.fst Z396; let Z442 := Prod.snd Z399; let Z443 := Prod.fst Z399; let Z444 := Prod.snd Z396; let Z445 := Prod.snd Z403; let Z446 := Value.int IntKind.i64 Z430; let Z447 := Value.int IntKind.i64 Z434; let Z448 := Value.int IntKind.i64 Z437; let Z449 := Value.int IntKind.i64 Z441; let Z450 := Value.int IntKind.i64 Z427; let Z451 := Value.int IntKind.i64 Z443; let Z452 := Value.int IntKind.i64 Z428; let Z453 := Value.int IntKind.i64 Z435; let Z454 := Value.int IntKind.i64 Z439; let Z455 := Value.int IntKind.i64 Z432; let Z456 := toldPM (nat_lit 4) Z129 Z377; let Z457 := toldPM (nat_lit 3) Z129 Z381; let Z458 := toldPM (nat_lit 3) Z129 Z375; let Z459 := toldPM (nat_lit 2) Z129 Z378; let Z460 := toldPM (nat_lit 0) Z129 Z383; let Z461 := toldPM (nat_lit 0) Z129 Z379; let Z462 := toldPM (nat_lit 1) Z129 Z376; let Z463 := toldPM (nat_lit 1) Z129 Z380; let Z464 := toldPM (nat_lit 2) Z129 Z382; let Z465 := toldPM (nat_lit 4) Z129 Z374; let Z466 := Z114 ∧ Z395; let Z467 := Prod.fst Z426; let Z468 := Prod.snd Z440; let Z469 := Prod.snd Z436; let Z470 := Prod.fst Z429; let Z471 := Prod.snd Z429; let Z472 := Prod.snd Z445; let Z473 := Prod.fst Z438; let Z474 := Prod.fst Z433; let Z475 := Prod.fst Z431; let Z476 := Prod.snd Z438; let Z477 := Prod.fst Z440; let Z478 := Prod.fst Z442; let Z479 := Prod.snd Z426; let Z480 := Prod.snd Z431; let Z481 := Prod.fst Z444; let Z482 := Prod.snd Z433; let Z483 := Prod.snd Z442; let Z484 := Prod.snd Z444; let Z485 := Prod.fst Z445; let Z486 := Prod.fst Z436; let Z487 := canM Z2 Z460; let Z488 := canM Z2 Z462; let Z489 := canM Z2 Z461; let Z490 := canM Z2 Z456; let Z491 := canM Z2 Z464; let Z492 := canM Z2 Z458; let Z493 := canM Z2 Z465; let Z494 := canM Z2 Z459; let Z495 := canM Z2 Z463; let Z496 := canM Z2 Z457; let Z497 := Prod.fst Z467; let Z498 := Prod.snd Z475; let Z499 := Prod.snd Z486; let Z500 := Prod.fst Z481; let Z501 := Prod.snd Z481; let Z502 := Prod.fst Z470; let Z503 := Prod.fst Z485; let Z504 := Prod.snd Z470; let Z505 := Prod.snd Z485; let Z506 := Prod.fst Z475; let Z507 := Prod.snd Z467; let Z508 := Prod.fst Z477; let Z509 := Prod.fst Z486; let Z510 := Prod.fst Z473; let Z511 := Prod.fst Z474; let Z512 := Prod.snd Z473; let Z513 := Prod.snd Z474; let Z514 := Prod.snd Z477; let Z515 := Prod.fst Z478; let Z516 := Prod.snd Z478; let Z517 := Value.int IntKind.i64 Z509; let Z518 := Value.int IntKind.i64 Z501; let Z519 := Value.int IntKind.i64 Z504; let Z520 := Value.int IntKind.i64 Z499; let Z521 := Value.int IntKind.i64 Z511; let Z522 := Value.int IntKind.i64 Z510; let Z523 := Value.int IntKind.i64 Z497; let Z524 := Value.int IntKind.i64 Z502; let Z525 := Value.int IntKind.i64 Z512; let Z526 := Value.int IntKind.i64 Z506; let Z527 := Value.int IntKind.i64 Z508; let Z528 := Value.int IntKind.i64 Z515; let Z529 := Value.int IntKind.i64 Z513; let Z530 := Value.int IntKind.i64 Z514; let Z531 := Value.int IntKind.i64 Z507; let Z532 := Value.int IntKind.i64 Z500; let Z533 := Value.int IntKind.i64 Z516; let Z534 := Value.int IntKind.i64 Z498; let Z535 := Value.int IntKind.i64 Z505; let Z536 := Value.int IntKind.i64 Z503; let Z537 := Prod.fst Z459; let Z538 := Prod.snd Z463; let Z539 := Prod.snd Z457; let Z540 := Prod.snd Z461; let Z541 := Prod.fst Z456; let Z542 := Prod.snd Z460; let Z543 := Prod.fst Z465; let Z544 := Prod.snd Z465; let Z545 := Prod.fst Z458; let Z546 := Prod.fst Z461; let Z547 := Prod.fst Z462; let Z548 := Prod.snd Z459; let Z549 := Prod.snd Z458; let Z550 := Prod.snd Z462; let Z551 := Prod.fst Z463; let Z552 := Prod.snd Z456; let Z553 := Prod.fst Z457; let Z554 := Prod.fst Z464; let Z555 := Prod.fst Z460; let Z556 := Prod.snd Z464; let Z557 := Prod.fst Z469; let Z558 := Prod.snd Z479; let Z559 := Prod.fst Z480; let Z560 := Prod.fst Z484; let Z561 := Prod.snd Z484; let Z562 := Prod.fst Z471; let Z563 := Prod.fst Z468; let Z564 := Prod.snd Z482; let Z565 := Prod.snd Z468; let Z566 := Prod.fst Z483; let Z567 := Prod.fst Z472; let Z568 := Prod.snd Z480; let Z569 := Prod.snd Z469; let Z570 := Prod.snd Z471; let Z571 := Prod.fst Z479; let Z572 := Prod.fst Z476; let Z573 := Prod.snd Z483; let Z574 := Prod.snd Z472; let Z575 := Prod.snd Z476; let Z576 := Prod.fst Z482; let Z577 := Prod.snd Z557; let Z578 := Prod.fst Z563; let Z579 := Prod.snd Z560; let Z580 := Prod.snd Z559; let Z581 := Prod.fst Z562; let Z582 := Prod.fst Z557; let Z583 := Prod.snd Z562; let Z584 := Prod.fst Z576; let Z585 := Prod.fst Z572; let Z586 := Prod.snd Z572; let Z587 := Prod.fst Z567; let Z588 := Prod.snd Z571; let Z589 := Prod.fst Z560; let Z590 := Prod.fst Z571; let Z591 := Prod.snd Z563; let Z592 := Prod.snd Z576; let Z593 := Prod.fst Z566; let Z594 := Prod.snd Z567; let Z595 := Prod.snd Z566; let Z596 := Prod.fst Z559; let Z597 := Value.int IntKind.i64 Z546; let Z598 := Value.int IntKind.i64 Z551; let Z599 := Value.int IntKind.i64 Z545; let Z600 := Value.int IntKind.i64 Z547; let Z601 := Value.int IntKind.i64 Z553; let Z602 := Value.int IntKind.i64 Z555; let Z603 := Value.int IntKind.i64 Z537; let Z604 := Value.int IntKind.i64 Z541; let Z605 := Value.int IntKind.i64 Z543; let Z606 := Value.int IntKind.i64 Z554; let Z607 := Prod.snd Z569; let Z608 := Prod.snd Z568; let Z609 := Prod.snd Z561; let Z610 := Prod.fst Z568; let Z611 := Prod.fst Z575; let Z612 := Prod.fst Z561; let Z613 := Prod.fst Z558; let Z614 := Prod.snd Z575; let Z615 := Prod.snd Z564; let Z616 := Prod.fst Z570; let Z617 := Prod.fst Z565; let Z618 := Prod.snd Z565; let Z619 := Prod.fst Z564; let Z620 := Prod.snd Z573; let Z621 := Prod.fst Z569; let Z622 := Prod.fst Z574; let Z623 := Prod.fst Z573; let Z624 := Prod.snd Z570; let Z625 := Prod.snd Z558; let Z626 := Prod.snd Z574; let Z627 := Value.int IntKind.i64 Z578; let Z628 := Value.int IntKind.i64 Z577; let Z629 := Value.int IntKind.i64 Z584; let Z630 := Value.int IntKind.i64 Z590; let Z631 := Value.int IntKind.i64 Z592; let Z632 := Value.int IntKind.i64 Z589; let Z633 := Value.int IntKind.i64 Z582; let Z634 := Value.int IntKind.i64 Z581; let Z635 := Value.int IntKind.i64 Z583; let Z636 := Value.int IntKind.i64 Z591; let Z637 := Value.int IntKind.i64 Z580; let Z638 := Value.int IntKind.i64 Z595; let Z639 := Value.int IntKind.i64 Z588; let Z640 := Value.int IntKind.i64 Z594; let Z641 := Value.int IntKind.i64 Z579; let Z642 := Value.int IntKind.i64 Z593; let Z643 := Value.int IntKind.i64 Z587; let Z644 := Value.int IntKind.i64 Z585; let Z645 := Value.int IntKind.i64 Z596; let Z646 := Value.int IntKind.i64 Z586; let Z647 := Prod.fst Z612; let Z648 := Prod.snd Z609; let Z649 := Prod.fst Z617; let Z650 := Prod.fst Z609; let Z651 := Prod.snd Z608; let Z652 := Prod.snd Z617; let Z653 := Prod.fst Z618; let Z654 := Prod.fst Z619; let Z655 := Prod.snd Z618; let Z656 := Prod.snd Z616; let Z657 := Prod.snd Z612; let Z658 := Prod.fst Z611; let Z659 := Prod.snd Z615; let Z660 := Prod.snd Z614; let Z661 := Prod.snd Z626; let Z662 := Prod.fst Z613; let Z663 := Prod.fst Z621; let Z664 := Prod.fst Z622; let Z665 := Prod.fst Z624; let Z666 := Prod.fst Z615; let Z667 := Prod.snd Z611; let Z668 := Prod.snd Z607; let Z669 := Prod.snd Z613; let Z670 := Prod.fst Z610; let Z671 := Prod.fst Z607; let Z672 := Prod.fst Z616; let Z673 := Prod.fst Z623; let Z674 := Prod.fst Z614; let Z675 := Prod.fst Z625; let Z676 := Prod.snd Z623; let Z677 := Prod.fst Z620; let Z678 := Prod.snd Z625; let Z679 := Prod.snd Z620; let Z680 := Prod.snd Z619; let Z681 := Prod.snd Z622; let Z682 := Prod.fst Z626; let Z683 := Prod.snd Z610; let Z684 := Prod.snd Z624; let Z685 := Prod.fst Z608; let Z686 := Prod.snd Z621; let Z687 := Prod.snd Z556; let Z688 := Prod.snd Z552; let Z689 := Prod.fst Z540; let Z690 := Prod.fst Z548; let Z691 := Prod.snd Z540; let Z692 := Prod.fst Z538; let Z693 := Prod.snd Z538; let Z694 := Prod.fst Z544; let Z695 := Prod.snd Z544; let Z696 := Prod.fst Z549; let Z697 := Prod.snd Z548; let Z698 := Prod.snd Z549; let Z699 := Prod.snd Z539; let Z700 := Prod.fst Z542; let Z701 := Prod.snd Z542; let Z702 := Prod.fst Z539; let Z703 := Prod.fst Z550; let Z704 := Prod.fst Z552; let Z705 := Prod.snd Z550; let Z706 := Prod.fst Z556; let Z707 := Value.int IntKind.i64 Z647; let Z708 := Value.int IntKind.i64 Z652; let Z709 := Value.int IntKind.i64 Z660; let Z710 := Value.int IntKind.i64 Z650; let Z711 := Value.int IntKind.i64 Z658; let Z712 := Value.int IntKind.i64 Z648; let Z713 := Value.int IntKind.i64 Z670; let Z714 := Value.int IntKind.i64 Z667; let Z715 := Value.int IntKind.i64 Z662; let Z716 := Value.int IntKind.i64 Z674; let Z717 := Value.int IntKind.i64 Z669; let Z718 := Value.int IntKind.i64 Z675; let Z719 := Value.int IntKind.i64 Z683; let Z720 := Value.int IntKind.i64 Z657; let Z721 := Value.int IntKind.i64 Z678; let Z722 := Value.int IntKind.i64 Z685; let Z723 := Value.int IntKind.i64 Z664; let Z724 := Value.int IntKind.i64 Z651; let Z725 := Value.int IntKind.i64 Z681; let Z726 := Value.int IntKind.i64 Z649; let Z727 := Value.int IntKind.i64 Z682; let Z728 := Value.int IntKind.i64 Z666; let Z729 := Value.int IntKind.i64 Z684; let Z730 := Value.int IntKind.i64 Z661; let Z731 := Value.int IntKind.i64 Z653; let Z732 := Value.int IntKind.i64 Z672; let Z733 := Value.int IntKind.i64 Z655; let Z734 := Value.int IntKind.i64 Z671; let Z735 := Value.int IntKind.i64 Z656; let Z736 := Value.int IntKind.i64 Z654; let Z737 := Value.int IntKind.i64 Z665; let Z738 := Value.int IntKind.i64 Z663; let Z739 := Value.int IntKind.i64 Z673; let Z740 := Value.int IntKind.i64 Z686; let Z741 := Value.int IntKind.i64 Z680; let Z742 := Value.int IntKind.i64 Z659; let Z743 := Value.int IntKind.i64 Z668; let Z744 := Value.int IntKind.i64 Z676; let Z745 := Value.int IntKind.i64 Z679; let Z746 := Value.int IntKind.i64 Z677; let Z747 := Z113 ∧ Z466; let Z748 := Prod.snd Z694; let Z749 := Prod.fst Z692; let Z750 := Prod.snd Z700; let Z751 := Prod.fst Z696; let Z752 := Prod.snd Z696; let Z753 := Prod.fst Z700; let Z754 := Prod.fst Z690; let Z755 := Prod.fst Z702; let Z756 := Prod.snd Z690; let Z757 := Prod.snd Z706; let Z758 := Prod.snd Z702; let Z759 := Prod.snd Z692; let Z760 := Prod.snd Z689; let Z761 := Prod.fst Z704; let Z762 := Prod.fst Z694; let Z763 := Prod.fst Z689; let Z764 := Prod.snd Z703; let Z765 := Prod.fst Z703; let Z766 := Prod.fst Z706; let Z767 := Prod.snd Z704; let Z768 := Value.int IntKind.i64 Z756; let Z769 := Value.int IntKind.i64 Z752; let Z770 := Value.int IntKind.i64 Z761; let Z771 := Value.int IntKind.i64 Z753; let Z772 := Value.int IntKind.i64 Z754; let Z773 := Value.int IntKind.i64 Z763; let Z774 := Value.int IntKind.i64 Z760; let Z775 := Value.int IntKind.i64 Z758; let Z776 := Value.int IntKind.i64 Z765; let Z777 := Value.int IntKind.i64 Z751; let Z778 := Value.int IntKind.i64 Z750; let Z779 := Value.int IntKind.i64 Z749; let Z780 := Value.int IntKind.i64 Z767; let Z781 := Value.int IntKind.i64 Z764; let Z782 := Value.int IntKind.i64 Z759; let Z783 := Value.int IntKind.i64 Z748; let Z784 := Value.int IntKind.i64 Z766; let Z785 := Value.int IntKind.i64 Z762; let Z786 := Value.int IntKind.i64 Z755; let Z787 := Value.int IntKind.i64 Z757; let Z788 := Prod.fst Z699; let Z789 := Prod.snd Z701; let Z790 := Prod.snd Z693; let Z791 := Prod.snd Z695; let Z792 := Prod.fst Z697; let Z793 := Prod.snd Z697; let Z794 := Prod.fst Z698; let Z795 := Prod.snd Z698; let Z796 := Prod.snd Z705; let Z797 := Prod.snd Z691; let Z798 := Prod.fst Z701; let Z799 := Prod.fst Z693; let Z800 := Prod.fst Z688; let Z801 := Prod.fst Z687; let Z802 := Prod.snd Z687; let Z803 := Prod.fst Z691; let Z804 := Prod.fst Z705; let Z805 := Prod.snd Z688; let Z806 := Prod.fst Z695; let Z807 := Prod.snd Z699; let Z808 := Prod.fst Z792; let Z809 := Prod.snd Z800; let Z810 := Prod.fst Z801; let Z811 := Prod.snd Z794; let Z812 := Prod.snd Z801; let Z813 := Prod.fst Z798; let Z814 := Prod.fst Z803; let Z815 := Prod.fst Z794; let Z816 := Prod.fst Z800; let Z817 := Prod.snd Z798; let Z818 := Prod.fst Z804; let Z819 := Prod.snd Z788; let Z820 := Prod.fst Z799; let Z821 := Prod.snd Z792; let Z822 := Prod.snd Z804; let Z823 := Prod.fst Z788; let Z824 := Prod.snd Z799; let Z825 := Prod.fst Z806; let Z826 := Prod.snd Z803; let Z827 := Prod.snd Z806; let Z828 := Prod.fst Z791; let Z829 := Prod.snd Z789; let Z830 := Prod.snd Z802; let Z831 := Prod.snd Z795; let Z832 := Prod.fst Z796; let Z833 := Prod.snd Z796; let Z834 := Prod.fst Z797; let Z835 := Prod.snd Z807; let Z836 := Prod.fst Z790; let Z837 := Prod.snd Z790; let Z838 := Prod.fst Z789; let Z839 := Prod.fst Z805; let Z840 := Prod.snd Z797; let Z841 := Prod.fst Z793; let Z842 := Prod.fst Z802; let Z843 := Prod.snd Z791; let Z844 := Prod.snd Z793; let Z845 := Prod.snd Z805; let Z846 := Prod.fst Z807; let Z847 := Prod.fst Z795; let Z848 := Value.int IntKind.i64 Z810; let Z849 := Value.int IntKind.i64 Z826; let Z850 := Value.int IntKind.i64 Z814; let Z851 := Value.int IntKind.i64 Z818; let Z852 := Value.int IntKind.i64 Z816; let Z853 := Value.int IntKind.i64 Z815; let Z854 := Value.int IntKind.i64 Z809; let Z855 := Value.int IntKind.i64 Z820; let Z856 := Value.int IntKind.i64 Z824; let Z857 := Value.int IntKind.i64 Z813; let Z858 := Value.int IntKind.i64 Z812; let Z859 := Value.int IntKind.i64 Z819; let Z860 := Value.int IntKind.i64 Z822; let Z861 := Value.int IntKind.i64 Z811; let Z862 := Value.int IntKind.i64 Z823; let Z863 := Value.int IntKind.i64 Z808; let Z864 := Value.int IntKind.i64 Z825; let Z865 := Value.int IntKind.i64 Z821; let Z866 := Value.int IntKind.i64 Z817; let Z867 := Value.int IntKind.i64 Z827; let Z868 := Prod.snd Z847; let Z869 := Prod.snd Z833; let Z870 := Prod.fst Z841; let Z871 := Prod.fst Z831; let Z872 := Prod.snd Z834; let Z873 := Prod.fst Z842; let Z874 := Prod.snd Z846; let Z875 := Prod.fst Z843; let Z876 := Prod.snd Z842; let Z877 := Prod.fst Z830; let Z878 := Prod.snd Z835; let Z879 := Prod.snd Z830; let Z880 := Prod.snd Z832; let Z881 := Prod.snd Z841; let Z882 := Prod.snd Z828; let Z883 := Prod.fst Z838; let Z884 := Prod.fst Z844; let Z885 := Prod.fst Z833; let Z886 := Prod.fst Z836; let Z887 := Prod.snd Z831; let Z888 := Prod.fst Z839; let Z889 := Prod.snd Z843; let Z890 := Prod.snd Z839; let Z891 := Prod.fst Z845; let Z892 := Prod.snd Z836; let Z893 := Prod.snd Z845; let Z894 := Prod.fst Z837; let Z895 := Prod.fst Z834; let Z896 := Prod.snd Z837; let Z897 := Prod.snd Z844; let Z898 := Prod.snd Z838; let Z899 := Prod.fst Z840; let Z900 := Prod.fst Z829; let Z901 := Prod.fst Z835; let Z902 := Prod.fst Z846; let Z903 := Prod.snd Z829; let Z904 := Prod.fst Z832; let Z905 := Prod.fst Z847; let Z906 := Prod.snd Z840; let Z907 := Prod.fst Z828; let Z908 := Value.int IntKind.i64 Z871; let Z909 := Value.int IntKind.i64 Z875; let Z910 := Value.int IntKind.i64 Z889; let Z911 := Value.int IntKind.i64 Z891; let Z912 := Value.int IntKind.i64 Z898; let Z913 := Value.int IntKind.i64 Z900; let Z914 := Value.int IntKind.i64 Z878; let Z915 := Value.int IntKind.i64 Z903; let Z916 := Value.int IntKind.i64 Z899; let Z917 := Value.int IntKind.i64 Z893; let Z918 := Value.int IntKind.i64 Z906; let Z919 := Value.int IntKind.i64 Z870; let Z920 := Value.int IntKind.i64 Z869; let Z921 := Value.int IntKind.i64 Z883; let Z922 := Value.int IntKind.i64 Z873; let Z923 := Value.int IntKind.i64 Z887; let Z924 := Value.int IntKind.i64 Z882; let Z925 := Value.int IntKind.i64 Z876; let Z926 := Value.int IntKind.i64 Z877; let Z927 := Value.int IntKind.i64 Z879; let Z928 := Value.int IntKind.i64 Z901; let Z929 := Value.int IntKind.i64 Z881; let Z930 := Value.int IntKind.i64 Z895; let Z931 := Value.int IntKind.i64 Z880; let Z932 := Value.int IntKind.i64 Z884; let Z933 := Value.int IntKind.i64 Z904; let Z934 := Value.int IntKind.i64 Z888; let Z935 := Value.int IntKind.i64 Z890; let Z936 := Value.int IntKind.i64 Z905; let Z937 := Value.int IntKind.i64 Z902; let Z938 := Value.int IntKind.i64 Z894; let Z939 := Value.int IntKind.i64 Z896; let Z940 := Value.int IntKind.i64 Z872; let Z941 := Value.int IntKind.i64 Z886; let Z942 := Value.int IntKind.i64 Z885; let Z943 := Value.int IntKind.i64 Z892; let Z944 := Value.int IntKind.i64 Z897; let Z945 := Value.int IntKind.i64 Z874; let Z946 := Value.int IntKind.i64 Z907; let Z947 := Value.int IntKind.i64 Z868; let Z948 := Z119 ∧ Z747; let Z949 := Z117 ∧ Z948; let Z950 := Z120 ∧ Z949; let Z951 : List (Int × Span × Span × Span × Span) := Z300 :: Z394; let Z952 := Z113 ∧ Z950; let Z953 := decide Z170; let Z954 := decide Z171; let Z955 := Z953 = true; let Z956 := Z953 = false; let Z957 := Z954 = true; let Z958 := Z954 = false; let Z959 := Z126 ∧ Z952; let Z960 := Z956 → Z127; let Z961 := Z958 → Z127; let Z962 := Z113 ∧ Z959; let Z963 := Z957 → Z134; let Z964 := Z342 > Z344; let Z965 := Z341 > Z347; let Z966 := Z346 > Z348; let Z967 := Z349 > Z340; let Z968 := Z343 > Z345; let Z969 : List (Int × Span × Span × Span × Span) := Z299 :: Z951; let Z970 := Z227 ∧ Z962; let Z971 := Z114 ∧ Z970; let Z972 := Z113 ∧ Z971; let Z973 := Z119 ∧ Z972; let Z974 := Z113 ∧ Z973; let Z975 := List.getD Z969 (nat_lit 0) Z261; let Z976 := List.getD Z969 (nat_lit 3) Z261; let Z977 := List.getD Z969 (nat_lit 2) Z261; let Z978 := List.getD Z969 (nat_lit 4) Z261; let Z979 := List.getD Z969 (nat_lit 1) Z261; let Z980 := canM Z2 Z979; let Z981 := canM Z2 Z978; let Z982 := canM Z2 Z975; let Z983 := canM Z2 Z977; let Z984 := canM Z2 Z976; let Z985 := Prod.fst Z978; let Z986 := Prod.snd Z976; let Z987 := Prod.snd Z979; let Z988 := Prod.fst Z977; let Z989 := Prod.snd Z978; let Z990 := Prod.snd Z977; let Z991 := Prod.fst Z975; let Z992 := Prod.fst Z976; let Z993 := Prod.snd Z975; let Z994 := Prod.fst Z979; let Z995 := Value.int IntKind.i64 Z992; let Z996 := Value.int IntKind.i64 Z994; let Z997 := Value.int IntKind.i64 Z991; let Z998 := Value.int IntKind.i64 Z988; let Z999 := Value.int IntKind.i64 Z985; let Z1000 := Z119 ∧ Z974; let Z1001 := Prod.fst Z990; let Z1002 := Prod.snd Z993; let Z1003 := Prod.snd Z987; let Z1004 := Prod.fst Z993; let Z1005 := Prod.fst Z986; let Z1006 := Prod.snd Z986; let Z1007 := Prod.snd Z989; let Z1008 := Prod.fst Z989; let Z1009 := Prod.snd Z990; let Z1010 := Prod.fst Z987; let Z1011 := Prod.fst Z1008; let Z1012 := Prod.fst Z1010; let Z1013 := Prod.snd Z1005; let Z1014 := Prod.snd Z1004; let Z1015 := Prod.snd Z1008; let Z1016 := Prod.fst Z1001; let Z1017 := Prod.fst Z1005; let Z1018 := Prod.snd Z1001; let Z1019 := Prod.fst Z1004; let Z1020 := Prod.snd Z1010; let Z1021 := Value.int IntKind.i64 Z1019; let Z1022 := Value.int IntKind.i64 Z1014; let Z1023 := Value.int IntKind.i64 Z1017; let Z1024 := Value.int IntKind.i64 Z1013; let Z1025 := Value.int IntKind.i64 Z1011; let Z1026 := Value.int IntKind.i64 Z1012; let Z1027 := Value.int IntKind.i64 Z1015; let Z1028 := Value.int IntKind.i64 Z1018; let Z1029 := Value.int IntKind.i64 Z1016; let Z1030 := Value.int IntKind.i64 Z1020; let Z1031 := Prod.snd Z1007; let Z1032 := Prod.fst Z1003; let Z1033 := Prod.fst Z1002; let Z1034 := Prod.snd Z1002; let Z1035 := Prod.fst Z1006; let Z1036 := Prod.snd Z1003; let Z1037 := Prod.snd Z1009; let Z1038 := Prod.fst Z1009; let Z1039 := Prod.snd Z1006; let Z1040 := Prod.fst Z1007; let Z1041 := Prod.fst Z1033; let Z1042 := Prod.fst Z1038; let Z1043 := Prod.snd Z1032; let Z1044 := Prod.fst Z1035; let Z1045 := Prod.fst Z1040; let Z1046 := Prod.snd Z1035; let Z1047 := Prod.snd Z1038; let Z1048 := Prod.snd Z1033; let Z1049 := Prod.snd Z1040; let Z1050 := Prod.fst Z1032; let Z1051 := Prod.snd Z1031; let Z1052 := Prod.fst Z1039; let Z1053 := Prod.fst Z1036; let Z1054 := Prod.fst Z1037; let Z1055 := Prod.fst Z1034; let Z1056 := Prod.snd Z1037; let Z1057 := Prod.fst Z1031; let Z1058 := Prod.snd Z1036; let Z1059 := Prod.snd Z1039; let Z1060 := Prod.snd Z1034; let Z1061 := Value.int IntKind.i64 Z1047; let Z1062 := Value.int IntKind.i64 Z1044; let Z1063 := Value.int IntKind.i64 Z1042; let Z1064 := Value.int IntKind.i64 Z1041; let Z1065 := Value.int IntKind.i64 Z1048; let Z1066 := Value.int IntKind.i64 Z1050; let Z1067 := Value.int IntKind.i64 Z1046; let Z1068 := Value.int IntKind.i64 Z1043; let Z1069 := Value.int IntKind.i64 Z1045; let Z1070 := Value.int IntKind.i64 Z1049; let Z1071 := Prod.fst Z1053; let Z1072 := Prod.snd Z1056; let Z1073 := Prod.snd Z1059; let Z1074 := Prod.fst Z1058; let Z1075 := Prod.fst Z1056; let Z1076 := Prod.fst Z1054; let Z1077 := Prod.snd Z1054; let Z1078 := Prod.fst Z1055; let Z1079 := Prod.fst Z1052; let Z1080 := Prod.snd Z1052; let Z1081 := Prod.fst Z1059; let Z1082 := Prod.snd Z1053; let Z1083 := Prod.snd Z1058; let Z1084 := Prod.snd Z1055; let Z1085 := Prod.fst Z1057; let Z1086 := Prod.snd Z1057; let Z1087 := Prod.fst Z1051; let Z1088 := Prod.fst Z1060; let Z1089 := Prod.snd Z1051; let Z1090 := Prod.snd Z1060; let Z1091 := Value.int IntKind.i64 Z1078; let Z1092 := Value.int IntKind.i64 Z1077; let Z1093 := Value.int IntKind.i64 Z1074; let Z1094 := Value.int IntKind.i64 Z1076; let Z1095 := Value.int IntKind.i64 Z1083; let Z1096 := Value.int IntKind.i64 Z1071; let Z1097 := Value.int IntKind.i64 Z1080; let Z1098 := Value.int IntKind.i64 Z1072; let Z1099 := Value.int IntKind.i64 Z1085; let Z1100 := Value.int IntKind.i64 Z1075; let Z1101 := Value.int IntKind.i64 Z1084; let Z1102 := Value.int IntKind.i64 Z1086; let Z1103 := Value.int IntKind.i64 Z1081; let Z1104 := Value.int IntKind.i64 Z1087; let Z1105 := Value.int IntKind.i64 Z1088; let Z1106 := Value.int IntKind.i64 Z1079; let Z1107 := Value.int IntKind.i64 Z1089; let Z1108 := Value.int IntKind.i64 Z1073; let Z1109 := Value.int IntKind.i64 Z1082; let Z1110 := Value.int IntKind.i64 Z1090; let Z1111 := Z122 ∧ Z1000; let Z1112 := Z126 ∧ Z1111; let Z1113 := Z113 ∧ Z1112; let Z1114 := Z307 == Z984; let Z1115 := Z309 == Z980; let Z1116 := Z305 == Z983; let Z1117 := Z306 == Z982; let Z1118 := Z308 == Z981; let Z1119 := !Z1114; let Z1120 := !Z1115; let Z1121 := !Z1118; let Z1122 := !Z1116; let Z1123 := !Z1117; let Z1124 := Z1122 = true; let Z1125 := Z1119 = true; let Z1126 := Z1121 = true; let Z1127 := Z1123 = true; let Z1128 := Z1120 = true; let Z1129 := Z1122 = false; let Z1130 := Z1121 = false; let Z1131 := Z1123 = false; let Z1132 := Z1120 = false; let Z1133 := Z1119 = false; let Z1134 := Z1130 → False; let Z1135 := Z227 ∧ Z1113; let Z1136 := Z1124 → Z127; let Z1137 := Z1126 → Z127; let Z1138 := Z1127 → Z127; let Z1139 := Z1128 → Z127; let Z1140 := Z1125 → Z127; let Z1141 := Z114 ∧ Z1135; let Z1142 := Z113 ∧ Z1141; let Z1143 := Z118 ∧ Z1142; let Z1144 := Z113 ∧ Z1143; let Z1145 := Z120 ∧ Z1144; let Z1146 := Z963 ∧ Z961; let Z1147 := Z113 ∧ Z1145; let Z1148 := Z126 ∧ Z1147; let Z1149 := Z113 ∧ Z1148; let Z1150 := Z227 ∧ Z1149; let Z1151 := nat_lit 4 = nat_lit 4 ∧ Z1150; let Z1152 := Z997 = Z997; let Z1153 := Z999 = Z999; let Z1154 := Z998 = Z998; let Z1155 := Z996 = Z996; let Z1156 := Z995 = Z995; let Z1157 := Z1023 = Z1023; let Z1158 := Z1022 = Z1022; let Z1159 := Z1024 = Z1024; let Z1160 := Z1030 = Z1030; let Z1161 := Z1029 = Z1029; let Z1162 := Z1026 = Z1026; let Z1163 := Z1025 = Z1025; let Z1164 := Z1021 = Z1021; let Z1165 := Z1027 = Z1027; let Z1166 := Z1028 = Z1028; let Z1167 := Z1063 = Z1063; let Z1168 := Z1064 = Z1064; let Z1169 := Z1069 = Z1069; let Z1170 := Z1065 = Z1065; let Z1171 := Z1070 = Z1070; let Z1172 := Z1066 = Z1066; let Z1173 := Z1068 = Z1068; let Z1174 := Z1062 = Z1062; let Z1175 := Z1061 = Z1061; let Z1176 := Z1067 = Z1067; let Z1177 := Z1091 = Z1091; let Z1178 := Z1105 = Z1105; let Z1179 := Z1103 = Z1103; let Z1180 := Z1101 = Z1101; let Z1181 := Z1102 = Z1102; let Z1182 := Z1109 = Z1109; let Z1183 := Z1104 = Z1104; let Z1184 := Z1108 = Z1108; let Z1185 := Z1098 = Z1098; let Z1186 := Z1100 = Z1100; let Z1187 := Z1107 = Z1107; let Z1188 := Z1094 = Z1094; let Z1189 := Z1097 = Z1097; let Z1190 := Z1092 = Z1092; let Z1191 := Z1099 = Z1099; let Z1192 := Z1106 = Z1106; let Z1193 := Z1110 = Z1110; let Z1194 := Z1093 = Z1093; let Z1195 := Z1095 = Z1095; let Z1196 := Z1096 = Z1096; let Z1197 := Z1187 ∧ True; let Z1198 := Z1184 ∧ True; let Z1199 := Z1193 ∧ True; let Z1200 := Z1185 ∧ True; let Z1201 := Z1195 ∧ True; let Z1202 := Z955 → Z1146; let Z1203 := Z1137 ∧ Z1134; let Z1204 := Z39 ∧ Z1203; let Z1205 := Z1202 ∧ Z960; let Z1206 := Z1178 ∧ Z1199; let Z1207 := Z1183 ∧ Z1197; let Z1208 := Z1186 ∧ Z1200; let Z1209 := Z1179 ∧ Z1198; let Z1210 := Z1194 ∧ Z1201; let Z1211 := decide Z86; let Z1212 := decide Z142; let Z1213 := decide Z182; let Z1214 := decide Z233; let Z1215 := decide Z250; let Z1216 := Z1182 ∧ Z1210; let Z1217 := Z1181 ∧ Z1207; let Z1218 := Z1180 ∧ Z1206; let Z1219 := Z1189 ∧ Z1209; let Z1220 := Z1190 ∧ Z1208; let Z1221 := Z1196 ∧ Z1216; let Z1222 := Z1192 ∧ Z1219; let Z1223 := Z1188 ∧ Z1220; let Z1224 := Z1191 ∧ Z1217; let Z1225 := Z1177 ∧ Z1218; let Z1226 := Z1175 ∧ Z1223; let Z1227 := Z1176 ∧ Z1222; let Z1228 := Z1170 ∧ Z1225; let Z1229 := Z1173 ∧ Z1221; let Z1230 := Z1171 ∧ Z1224; let Z1231 := decide Z966; let Z1232 := decide Z964; let Z1233 := decide Z86; let Z1234 := Z1233 = true; let Z1235 := Z1233 = false; let Z1236 := decide Z968; let Z1237 := decide Z142; let Z1238 := Z1237 = true; let Z1239 := Z1237 = false; let Z1240 := decide Z967; let Z1241 := decide Z182; let Z1242 := Z1241 = true; let Z1243 := Z1241 = false; let Z1244 := decide Z965; let Z1245 := decide Z233; let Z1246 := Z1245 = true; let Z1247 := Z1245 = false; let Z1248 := decide Z250; let Z1249 := Z1248 = true; let Z1250 := Z1248 = false; let Z1251 := Z1174 ∧ Z1227; let Z1252 := Z1172 ∧ Z1229; let Z1253 := Z1168 ∧ Z1228; let Z1254 := Z1169 ∧ Z1230; let Z1255 := Z1167 ∧ Z1226; let Z1256 := Z1235 → Z1205; let Z1257 := Z1239 → Z1205; let Z1258 := Z1243 → Z1205; let Z1259 := Z1247 → Z1205; let Z1260 := Z1250 → Z1205; let Z1261 := Z1166 ∧ Z1255; let Z1262 := Z1165 ∧ Z1254; let Z1263 := Z1159 ∧ Z1251; let Z1264 := Z1158 ∧ Z1253; let Z1265 := Z1160 ∧ Z1252; let Z1266 := Z1157 ∧ Z1263; let Z1267 := Z1162 ∧ Z1265; let Z1268 := Z1161 ∧ Z1261; let Z1269 := Z1164 ∧ Z1264; let Z1270 := Z1163 ∧ Z1262; let Z1271 := Z1154 ∧ Z1268; let Z1272 := Z1153 ∧ Z1270; let Z1273 := Z1152 ∧ Z1269; let Z1274 := Z1155 ∧ Z1267; let Z1275 := Z1156 ∧ Z1266; let Z1276 := Z1275 ∧ True; let Z1277 := Z1271 ∧ True; let Z1278 := Z1273 ∧ True; let Z1279 := Z1272 ∧ True; let Z1280 := Z1274 ∧ True; let Z1281 := Z191 ∧ Z1279; let Z1282 := Z191 ∧ Z1278; let Z1283 := Z191 ∧ Z1276; let Z1284 := Z191 ∧ Z1277; let Z1345 := True ∧ Z360 ∧ True ∧ True ∧ Z363 ∧ True ∧ True ∧ Z361 ∧ True ∧ True ∧ Z362 ∧ True ∧ Z1151 ∧ (Z1234 → Z137 ∧ Z5 ∧ Z88 ∧ Z40 ∧ Z1282 ∧ Z39 ∧ Z1138 ∧ (Z1131 → (Z1238 → Z232 ∧ Z3 ∧ Z146 ∧ Z40 ∧ (Z191 ∧ Z1280) ∧ Z39 ∧ Z1139 ∧ (Z1132 → (Z1242 → Z275 ∧ Z6 ∧ Z184 ∧ Z40 ∧ Z1284 ∧ Z39 ∧ Z1136 ∧ (Z1129 → (Z1246 → Z315 ∧ Z4 ∧ Z234 ∧ Z40 ∧ Z1283 ∧ Z39 ∧ Z1140 ∧ (Z1133 → (Z1249 → Z325 ∧ Z7 ∧ Z253 ∧ Z40 ∧ Z1281 ∧ Z1204) ∧ Z1260)) ∧ Z1259)) ∧ Z1258)) ∧ Z1257)) ∧ Z1256; (Z192 = true → Z134) ∧ (Z192 = false → Z47 ∧ (Z191 ∧ True) ∧ Z39 ∧ (Z37 = true → Z134) ∧ (Z37 = false → Z96 ≠ Z21 ∧ Z47 ∧ Z298 ∧ Z39 ∧ Z47 ∧ Z298 ∧ Z39 ∧ Z47 ∧ Z298 ∧ Z39 ∧ (Z247 = true → Z127) ∧ (Z247 = false → (Z242 = true → Z127) ∧ (Z242 = false → (Z179 = true → (Z183 = true → (Z291 = true → (Z331 = true → (Z332 = true → (Z333 = true → (Z178 = true → Z134) ∧ (Z178 = false → Z127)) ∧ (Z333 = false → Z127)) ∧ (Z332 = false → Z127)) ∧ (Z331 = false → Z127)) ∧ (Z291 = false → Z127)) ∧ (Z183 = false → Z127)) ∧ (Z179 = false → (nat_lit 4 = nat_lit 4 ∧ Z166 = Z166 ∧ Z167 = Z167 ∧ Z189 = Z189 ∧ Z185 = Z185 ∧ Z211 = Z211 ∧ Z212 = Z212 ∧ Z214 = Z214 ∧ Z213 = Z213 ∧ True) ∧ (Z1211 = true → Z137 ∧ Z5 ∧ (Z1231 = true → Z127) ∧ (Z1231 = false → Z5 ∧ (Z358 = Z358 ∧ Z98) ∧ Z249 ∧ Z40 ∧ (Z191 ∧ (Z453 = Z453 ∧ Z536 = Z536 ∧ Z535 = Z535 ∧ Z643 = Z643 ∧ Z640 = Z640 ∧ Z723 = Z723 ∧ Z725 = Z725 ∧ Z727 = Z727 ∧ Z730 = Z730 ∧ True) ∧ True) ∧ Z39 ∧ (Z423 = true → Z127) ∧ (Z423 = false → Z5 ∧ (Z359 = Z359 ∧ Z98) ∧ Z249 ∧ Z40 ∧ (Z191 ∧ (Z450 = Z450 ∧ Z522 = Z522 ∧ Z525 = Z525 ∧ Z644 = Z644 ∧ Z646 = Z646 ∧ Z711 = Z711 ∧ Z714 = Z714 ∧ Z716 = Z716 ∧ Z709 = Z709 ∧ True) ∧ True) ∧ Z39 ∧ (Z424 = true → Z127) ∧ (Z424 = false → Z5 ∧ (Z387 = Z387 ∧ Z98) ∧ Z249 ∧ Z40 ∧ (Z191 ∧ (Z597 = Z597 ∧ Z773 = Z773 ∧ Z774 = Z774 ∧ Z850 = Z850 ∧ Z849 = Z849 ∧ Z930 = Z930 ∧ Z940 = Z940 ∧ Z916 = Z916 ∧ Z918 = Z918 ∧ True) ∧ True) ∧ Z39 ∧ (Z489 = true → Z127) ∧ (Z489 = false → Z5 ∧ (Z386 = Z386 ∧ Z98) ∧ Z249 ∧ Z40 ∧ (Z191 ∧ (Z602 = Z602 ∧ Z771 = Z771 ∧ Z778 = Z778 ∧ Z857 = Z857 ∧ Z866 = Z866 ∧ Z921 = Z921 ∧ Z912 = Z912 ∧ Z913 = Z913 ∧ Z915 = Z915 ∧ True) ∧ True) ∧ Z39 ∧ (Z487 = true → Z127) ∧ (Z487 = false → (Z1212 = true → Z232 ∧ Z3 ∧ (Z1232 = true → Z127) ∧ (Z1232 = false → Z3 ∧ (Z353 = Z353 ∧ Z98) ∧ Z281 ∧ Z40 ∧ (Z191 ∧ (Z448 = Z448 ∧ Z523 = Z523 ∧ Z531 = Z531 ∧ Z630 = Z630 ∧ Z639 = Z639 ∧ Z715 = Z715 ∧ Z717 = Z717 ∧ Z718 = Z718 ∧ Z721 = Z721 ∧ True) ∧ True) ∧ Z39 ∧ (Z416 = true → Z127) ∧ (Z416 = false → Z3 ∧ (Z357 = Z357 ∧ Z98) ∧ Z281 ∧ Z40 ∧ (Z191 ∧ (Z447 = Z447 ∧ Z517 = Z517 ∧ Z520 = Z520 ∧ Z633 = Z633 ∧ Z628 = Z628 ∧ Z738 = Z738 ∧ Z740 = Z740 ∧ Z734 = Z734 ∧ Z743 = Z743 ∧ True) ∧ True) ∧ Z39 ∧ (Z420 = true → Z127) ∧ (Z420 = false → Z3 ∧ (Z389 = Z389 ∧ Z98) ∧ Z281 ∧ Z40 ∧ (Z191 ∧ (Z600 = Z600 ∧ Z776 = Z776 ∧ Z781 = Z781 ∧ Z851 = Z851 ∧ Z860 = Z860 ∧ Z933 = Z933 ∧ Z931 = Z931 ∧ Z942 = Z942 ∧ Z920 = Z920 ∧ True) ∧ True) ∧ Z39 ∧ (Z488 = true → Z127) ∧ (Z488 = false → Z3 ∧ (Z391 = Z391 ∧ Z98) ∧ Z281 ∧ Z40 ∧ (Z191 ∧ (Z598 = Z598 ∧ Z779 = Z779 ∧ Z782 = Z782 ∧ Z855 = Z855 ∧ Z856 = Z856 ∧ Z941 = Z941 ∧ Z943 = Z943 ∧ Z938 = Z938 ∧ Z939 = Z939 ∧ True) ∧ True) ∧ Z39 ∧ (Z495 = true → Z127) ∧ (Z495 = false → (Z1213 = true → Z275 ∧ Z6 ∧ (Z1236 = true → Z127) ∧ (Z1236 = false → Z6 ∧ (Z352 = Z352 ∧ Z98) ∧ Z304 ∧ Z40 ∧ (Z191 ∧ (Z454 = Z454 ∧ Z527 = Z527 ∧ Z530 = Z530 ∧ Z627 = Z627 ∧ Z636 = Z636 ∧ Z726 = Z726 ∧ Z708 = Z708 ∧ Z731 = Z731 ∧ Z733 = Z733 ∧ True) ∧ True) ∧ Z39 ∧ (Z417 = true → Z127) ∧ (Z417 = false → Z6 ∧ (Z351 = Z351 ∧ Z98) ∧ Z304 ∧ Z40 ∧ (Z191 ∧ (Z451 = Z451 ∧ Z528 = Z528 ∧ Z533 = Z533 ∧ Z642 = Z642 ∧ Z638 = Z638 ∧ Z739 = Z739 ∧ Z744 = Z744 ∧ Z746 = Z746 ∧ Z745 = Z745 ∧ True) ∧ True) ∧ Z39 ∧ (Z422 = true → Z127) ∧ (Z422 = false → Z6 ∧ (Z390 = Z390 ∧ Z98) ∧ Z304 ∧ Z40 ∧ (Z191 ∧ (Z606 = Z606 ∧ Z784 = Z784 ∧ Z787 = Z787 ∧ Z848 = Z848 ∧ Z858 = Z858 ∧ Z922 = Z922 ∧ Z925 = Z925 ∧ Z926 = Z926 ∧ Z927 = Z927 ∧ True) ∧ True) ∧ Z39 ∧ (Z491 = true → Z127) ∧ (Z491 = false → Z6 ∧ (Z393 = Z393 ∧ Z98) ∧ Z304 ∧ Z40 ∧ (Z191 ∧ (Z603 = Z603 ∧ Z772 = Z772 ∧ Z768 = Z768 ∧ Z863 = Z863 ∧ Z865 = Z865 ∧ Z919 = Z919 ∧ Z929 = Z929 ∧ Z932 = Z932 ∧ Z944 = Z944 ∧ True) ∧ True) ∧ Z39 ∧ (Z494 = true → Z127) ∧ (Z494 = false → (Z1214 = true → Z315 ∧ Z4 ∧ (Z1240 = true → Z127) ∧ (Z1240 = false → Z4 ∧ (Z356 = Z356 ∧ Z98) ∧ Z316 ∧ Z40 ∧ (Z191 ∧ (Z455 = Z455 ∧ Z521 = Z521 ∧ Z529 = Z529 ∧ Z629 = Z629 ∧ Z631 = Z631 ∧ Z736 = Z736 ∧ Z741 = Z741 ∧ Z728 = Z728 ∧ Z742 = Z742 ∧ True) ∧ True) ∧ Z39 ∧ (Z418 = true → Z127) ∧ (Z418 = false → Z4 ∧ (Z355 = Z355 ∧ Z98) ∧ Z316 ∧ Z40 ∧ (Z191 ∧ (Z446 = Z446 ∧ Z526 = Z526 ∧ Z534 = Z534 ∧ Z645 = Z645 ∧ Z637 = Z637 ∧ Z713 = Z713 ∧ Z719 = Z719 ∧ Z722 = Z722 ∧ Z724 = Z724 ∧ True) ∧ True) ∧ Z39 ∧ (Z421 = true → Z127) ∧ (Z421 = false → Z4 ∧ (Z388 = Z388 ∧ Z98) ∧ Z316 ∧ Z40 ∧ (Z191 ∧ (Z601 = Z601 ∧ Z786 = Z786 ∧ Z775 = Z775 ∧ Z862 = Z862 ∧ Z859 = Z859 ∧ Z937 = Z937 ∧ Z945 = Z945 ∧ Z928 = Z928 ∧ Z914 = Z914 ∧ True) ∧ True) ∧ Z39 ∧ (Z496 = true → Z127) ∧ (Z496 = false → Z4 ∧ (Z385 = Z385 ∧ Z98) ∧ Z316 ∧ Z40 ∧ (Z191 ∧ (Z599 = Z599 ∧ Z777 = Z777 ∧ Z769 = Z769 ∧ Z853 = Z853 ∧ Z861 = Z861 ∧ Z936 = Z936 ∧ Z947 = Z947 ∧ Z908 = Z908 ∧ Z923 = Z923 ∧ True) ∧ True) ∧ Z39 ∧ (Z492 = true → Z127) ∧ (Z492 = false → (Z1215 = true → Z325 ∧ Z7 ∧ (Z1244 = true → Z127) ∧ (Z1244 = false → Z7 ∧ (Z354 = Z354 ∧ Z98) ∧ Z322 ∧ Z40 ∧ (Z191 ∧ (Z449 = Z449 ∧ Z532 = Z532 ∧ Z518 = Z518 ∧ Z632 = Z632 ∧ Z641 = Z641 ∧ Z707 = Z707 ∧ Z720 = Z720 ∧ Z710 = Z710 ∧ Z712 = Z712 ∧ True) ∧ True) ∧ Z39 ∧ (Z419 = true → Z127) ∧ (Z419 = false → Z7 ∧ (Z350 = Z350 ∧ Z98) ∧ Z322 ∧ Z40 ∧ (Z191 ∧ (Z452 = Z452 ∧ Z524 = Z524 ∧ Z519 = Z519 ∧ Z634 = Z634 ∧ Z635 = Z635 ∧ Z732 = Z732 ∧ Z735 = Z735 ∧ Z737 = Z737 ∧ Z729 = Z729 ∧ True) ∧ True) ∧ Z39 ∧ (Z425 = true → Z127) ∧ (Z425 = false → Z7 ∧ (Z392 = Z392 ∧ Z98) ∧ Z322 ∧ Z40 ∧ (Z191 ∧ (Z604 = Z604 ∧ Z770 = Z770 ∧ Z780 = Z780 ∧ Z852 = Z852 ∧ Z854 = Z854 ∧ Z934 = Z934 ∧ Z935 = Z935 ∧ Z911 = Z911 ∧ Z917 = Z917 ∧ True) ∧ True) ∧ Z39 ∧ (Z490 = true → Z127) ∧ (Z490 = false → Z7 ∧ (Z384 = Z384 ∧ Z98) ∧ Z322 ∧ Z40 ∧ (Z191 ∧ (Z605 = Z605 ∧ Z785 = Z785 ∧ Z783 = Z783 ∧ Z864 = Z864 ∧ Z867 = Z867 ∧ Z946 = Z946 ∧ Z924 = Z924 ∧ Z909 = Z909 ∧ Z910 = Z910 ∧ True) ∧ True) ∧ Z39 ∧ (Z493 = true → Z127) ∧ (Z493 = false → False)))))) ∧ (Z1215 = false → Z1345))))))) ∧ (Z1214 = false → Z1345))))))) ∧ (Z1213 = false → Z1345))))))) ∧ (Z1212 = false → Z1345))))))) ∧ (Z1211 = false → Z1345)))))))
    (by kernel_rfl) ?_
  simp only [eq_self, true_and, and_true, Int.toNat_natCast, Nat.zero_add, Nat.sub_zero, Value.int.injEq, Value.bool.injEq, decide_eq_true_eq, decide_eq_false_iff_not]
  obtain ⟨_, a0, a1⟩ := hx
  refine ⟨fun _ => trivial, fun h8 => ?_⟩
  have h7 : ps.length ≤ 7 := by omega
  have hp : ps.length < 1000000 := by omega
  have hp2 : ps.length < 1000 := by omega
  refine ⟨hp, fun _ => trivial, fun hgn => ?_⟩
  have hg : groundM ⟨long, rise, change, ps⟩ = true := by simpa using hgn
  have hok := ground_ok hg
  obtain ⟨n0, n1, n2⟩ := n_ok hok
  have n0' : ((nM ⟨long, rise, change, ps⟩ : Nat) : Int) = long + 1 := n0
  have hW : IntKind.i64.wrap (long + 1) = ((nM ⟨long, rise, change, ps⟩ : Nat) : Int) := by rw [wrap_id (by omega) (by omega)]; omega
  have a0' : 0 ≤ a := a0
  have a1' : a ≤ 255 := a1
  have wa : IntKind.i64.wrap a = a := wrap_id (by omega) (by omega)
  have ta := Int.tmod_nonneg ((nM ⟨long, rise, change, ps⟩ : Nat) : Int) a0'
  have ua := Int.tmod_lt_of_pos a (show (0 : Int) < ((nM ⟨long, rise, change, ps⟩ : Nat) : Int) by omega)
  obtain ⟨k, hk⟩ := Int.eq_ofNat_of_zero_le ta
  have hkn : k < nM ⟨long, rise, change, ps⟩ := by omega
  simp only [hW, wa, hk]
  refine ⟨by omega, hp, hp, hp, ?_⟩
  have pk := pl_of hok hkn
  have e1 := hard_told hg pk
  have e2 := parts_told hg pk
  have e3 := class_told hg pk
  clear hW wa ta ua hk hgn
  cases hl : lookM ⟨long, rise, change, ps⟩ with
  | false =>
    rw [hl, if_neg (by decide)] at e1 e2 e3
    simp [e1, e2, e3, m0]
  | true =>
    rw [hl, if_pos rfl] at e1 e2 e3
    rw [Int.toNat_natCast] at e2 e3
    have b1 := hard_ge0 hok pk
    have b2 := look_hok hok hl _ pk
    have b3 := hard_le1000 hok pk
    have t := box_tight hok hl hkn
    have i0 := fun n => can_hard hok h7 hl hkn n
    have i1 := fun n => can_sand hok h7 hl hkn n
    have i2 := fun n => can_silt hok h7 hl hkn n
    have i3 := fun n => can_clay hok h7 hl hkn n
    obtain ⟨c3, c1, c2, c0, ec, k0, k1, k2, k3, hany⟩ := can_cls hok h7 hl hkn
    rw [ec] at e3
    obtain ⟨hgt, hlt⟩ := bits_in hany
    simp only [e1, e2, e3]
    clear e1 e2 e3 ec
    revert i0 i1 i2 i3 t b1 b2 b3
    generalize (boxesM ⟨long, rise, change, ps⟩).getD k m0 = m
    generalize hardM ⟨long, rise, change, ps⟩ (k : Int) = s
    intro b1 b2 b3 t i0 i1 i2 i3
    obtain ⟨p0, q0, r0, s0, t0⟩ := ends_of (F := fun n => canM ⟨long, rise, change, ps⟩ (toldPM 0 (k : Int) n)) i0 b1 b2 b3
    obtain ⟨p1, q1, r1, s1, t1⟩ := ends_of (F := fun n => canM ⟨long, rise, change, ps⟩ (toldPM 1 (k : Int) n)) i1 t.a.1 t.a.2.1 (by have := t.a.2.2; omega)
    obtain ⟨p2, q2, r2, s2, t2⟩ := ends_of (F := fun n => canM ⟨long, rise, change, ps⟩ (toldPM 2 (k : Int) n)) i2 t.b.1 t.b.2.1 (by have := t.b.2.2; omega)
    obtain ⟨p3, q3, r3, s3, t3⟩ := ends_of (F := fun n => canM ⟨long, rise, change, ps⟩ (toldPM 3 (k : Int) n)) i3 t.c.1 t.c.2.1 (by have := t.c.2.2; omega)
    have k0' : canM ⟨long, rise, change, ps⟩ ((k : Int), (0, 1000), (0, 13), (0, 11), 0, 7) = c0 := k0
    have k1' : canM ⟨long, rise, change, ps⟩ ((k : Int), (0, 1000), (14, 20), (0, 20), 0, 7) = c1 := k1
    have k2' : canM ⟨long, rise, change, ps⟩ ((k : Int), (0, 1000), (0, 13), (12, 20), 0, 7) = c2 := k2
    have k3' : canM ⟨long, rise, change, ps⟩ ((k : Int), (0, 1000), (0, 20), (0, 20), 8, 20) = c3 := k3
    have w1 : IntKind.i64.wrap (0 + 1) = 1 := by decide
    have w2 : IntKind.i64.wrap (1 + 1) = 2 := by decide
    have w3 : IntKind.i64.wrap (2 + 1) = 3 := by decide
    have w4 : IntKind.i64.wrap (3 + 1) = 4 := by decide
    simp only [gd0, gd1, gd2, gd3, w1, w2, w3, w4, k0', k1', k2', k3', bit0, bit1, bit2, bit3, q0, r0, s0, t0, q1, r1, s1, t1, q2, r2, s2, t2, q3, r3, s3, t3, p0, p1, p2, p3, hp2, hgt, hlt, not_true, not_false_iff, true_and, and_true, false_implies, true_implies, BEq.rfl, Bool.not_true, Bool.not_false, Bool.true_eq_false, Bool.false_eq_true, implies_true, eq_self]
    simp

end AE.Soil

namespace AE
open Go Go.ChangeShapes Go.WideShapes

theorem Keeps.but {w w' : World} (h : Keeps (fun _ => False) w w') (may : MemPlace → Prop) : w.keptBut w' may := by
  refine ⟨h.os, h.output, fun i hi => ?_⟩
  have hb := h.block i hi fun h => h
  rw [hb]
  exact (World.keptBut_refl w may).2.2 i hi
theorem Keeps.frozen {w w' : World} (h : Keeps (fun _ => False) w w') (a : Addr) (ha : a.block < w.heap.size) : w'.frozen? a = w.frozen? a := by
  unfold World.frozen?
  rw [h.block a.block ha fun h => h]
theorem post_of_keeps {P : Program} {H : Type} {enc : TypeId × Value → H} {f : Func} {s : ChangeSpec} {apart fresh handsOn again : Bool} {W W' : World} {args : Array Value} {v : Value} {ds gs : List (DataW H)} {before pa pv : List MemPlace}
    (hW : DataW.Whole enc P f.params.toList s.vars apart W args.toList ds gs before)
    (hres : ∀ (b : Nat) (sp : Nat → Bool) (hd : Bool), DataW.TrodAll enc P W' b sp hd f.resultTypes.toList (v.resultList f.resultTypes.size) (s.fn H (ds ++ gs)).results [])
    (hargs : ∀ sp : Nat → Bool, (∀ p ∈ before, sp p.block = true) → DataW.TrodAll enc P W' 0 sp true f.params.toList args.toList (s.fn H (ds ++ gs)).args pa)
    (hvars : ∀ sp : Nat → Bool, (∀ p ∈ before, sp p.block = true) → DataW.TrodVars enc P W' sp s.vars (s.fn H (ds ++ gs)).vars pv)
    (hps : before = pa ++ pv) (hk : Keeps (fun _ => False) W W')
    (hok : ∀ (j : Nat) (t : TypeId) (r : Value), f.resultTypes[j]? = some t → (v.resultList f.resultTypes.size)[j]? = some r → Value.okWide P W' .any 0 t r) :
    s.post enc P f apart fresh handsOn again W args v W' := by
  have hlt := hW.lt
  have hold : ∀ p ∈ before, (fun b => decide (b < W.heap.size)) p.block = true := fun p hp => by simpa using hlt p hp
  have hb : ∀ p, p ∈ [] ++ pa ++ pv ↔ p ∈ before := fun p => by rw [hps, List.nil_append]
  refine ⟨ds, gs, before, [], pa, pv, hW, hres _ _ _, hargs _ hold, hvars _ hold, World.keptBut_mono (fun p hp => ⟨hp, ?_⟩) (hk.but _), fun _ => ?_⟩
  · exact Or.inr (List.mem_append.1 (hps ▸ hp))
  · obtain ⟨_, _, _, _, _, hz, hn⟩ := hW
    refine ⟨hok, _, _, [] ++ pa ++ pv, ⟨[] ++ pa, pv, trodAll_append (hargs _ (fun _ _ => rfl)) (hres _ _ _), hvars _ (fun _ _ => rfl), rfl, fun b off hp => ?_, fun ha => ?_⟩, fun p hp _ => (hb p).1 hp⟩
    · have hp' := (hb _).1 hp
      rw [hk.frozen _ (hlt _ hp')]
      exact hz b off hp'
    · have := hn ha
      rwa [hps, ← List.nil_append pa] at this
end AE

namespace AE
open Go Go.ChangeShapes Go.WideShapes Go.RowKit

theorem Keeps.below {w w' : World} (h : Keeps (fun _ => False) w w') : Below w.heap.size w w' :=
  ⟨h.os, h.tape, h.output, h.size, fun k hk => h.block k hk fun e => e⟩

/-- What a cell of a flat type holds. -/
inductive FK where
  | int (k : IntKind)
  | bool
def FK.ok : FK → Value → Prop
  | .int k, v => ∃ n, v = .int k n ∧ (Lit.int k n).wf = true
  | .bool, v => ∃ b, v = .bool b
def FKs : List FK → List Value → Prop
  | [], vs => vs = []
  | k :: ks, vs => ∃ v r, vs = v :: r ∧ k.ok v ∧ FKs ks r
theorem FKs.append : ∀ {a b : List FK} {x y : List Value}, FKs a x → FKs b y → FKs (a ++ b) (x ++ y)
  | [], _, _, _, h, k => by cases h; exact k
  | _ :: _, _, _, _, ⟨v, r, e, h1, h2⟩, k => ⟨v, _, by rw [e]; rfl, h1, h2.append k⟩
theorem FKs.length : ∀ {a : List FK} {x : List Value}, FKs a x → x.length = a.length
  | [], _, h => by cases h; rfl
  | _ :: _, _, ⟨v, r, e, _, h⟩ => by rw [e, List.length_cons, List.length_cons, h.length]

mutual
def flat (P : Program) : Nat → TypeId → Option (List FK)
  | 0, _ => none
  | n + 1, t => match P.underlying t with
    | some .bool => some [.bool]
    | some (.int k) => some [.int k]
    | some (.struct fs) => flatFs P n 0 fs.toList
    | _ => none
def flatFs (P : Program) : Nat → Nat → List Field → Option (List FK)
  | _, _, [] => some []
  | 0, _, _ :: _ => none
  | n + 1, o, f :: fs => match Nat.beq f.offset o, flat P n f.type with
    | true, some l => match Nat.beq (P.cellsOf f.type) l.length, flatFs P n (o + l.length) fs with
      | true, some r => some (l ++ r)
      | _, _ => none
    | _, _ => none
end

section
variable {H : Type} {enc : TypeId × Value → H} {P : Program} {w : World} {base : Nat} {spare : Nat → Bool} {held : Bool}
mutual
theorem flat_ok : ∀ (n : Nat) {t : TypeId} {ks : List FK} {fuel : Nat} {cs : List Value} {x : DataW H × List MemPlace}, flat P n t = some ks → P.cellsOf t = ks.length → DataW.trod enc P w base spare held fuel t cs = some x → FKs ks cs
  | 0, t, ks, fuel, cs, x, h, _, _ => by simp [flat] at h
  | n + 1, t, ks, fuel, cs, x, h, hc, hx => by
    unfold flat at h
    split at h
    · rename_i hu
      cases h
      cases fuel with
      | zero => simp [DataW.trod] at hx
      | succ m =>
        unfold DataW.trod at hx
        rw [hu] at hx
        split at hx <;> first | (simp_all; done) | skip
        rename_i b _ _
        exact ⟨_, _, rfl, ⟨_, rfl⟩, rfl⟩
    · rename_i k hu
      cases h
      cases fuel with
      | zero => simp [DataW.trod] at hx
      | succ m =>
        unfold DataW.trod at hx
        rw [hu] at hx
        split at hx <;> first | (simp_all; done) | skip
        split at hx
        · rename_i k1 _ _ he hh
          have he' : k = k1 := by simpa using he
          subst he'
          obtain ⟨rfl, hh⟩ := hh
          exact ⟨_, _, rfl, ⟨_, rfl, hh⟩, rfl⟩
        · cases hx
    · rename_i fs hu
      obtain ⟨xs, m, _, _, hl, hlen, hf⟩ := DataW.trod_struct hu hx
      have := flatFs_ok n (cs := cs) h (fun f hm => by
        obtain ⟨i, hi, rfl⟩ := List.getElem_of_mem hm
        have h1 : i < fs.size := by simpa using hi
        have h2 := hf i fs[i] (Array.getElem?_eq_getElem h1)
        rw [List.getElem?_eq_getElem (by omega)] at h2
        exact ⟨_, m, by rw [Array.getElem_toList]; exact h2⟩) (by rw [hl, hc]; omega)
      simpa using this
    · cases h
theorem flatFs_ok : ∀ (n : Nat) {o : Nat} {fs : List Field} {ks : List FK} {cs : List Value}, flatFs P n o fs = some ks →
    (∀ f ∈ fs, ∃ y m, DataW.trod enc P w base spare held m f.type ((cs.drop f.offset).take (P.cellsOf f.type)) = some y) → cs.length = o + ks.length → FKs ks (cs.drop o)
  | n, o, [], ks, cs, h, _, hl => by
    have : ks = [] := by cases n <;> simpa [flatFs] using h.symm
    subst this
    show cs.drop o = []
    exact List.drop_eq_nil_of_le (by simpa using Nat.le_of_eq hl)
  | 0, o, f :: fs, ks, cs, h, _, _ => by simp [flatFs] at h
  | n + 1, o, f :: fs, ks, cs, h, hf, hl => by
    unfold flatFs at h
    split at h
    case h_2 => cases h
    rename_i l ho hfl
    split at h
    case h_2 => cases h
    rename_i r hc hr
    cases h
    replace ho := Nat.eq_of_beq_eq_true ho
    replace hc := Nat.eq_of_beq_eq_true hc
    obtain ⟨y, m, hy⟩ := hf f (List.mem_cons_self ..)
    have h1 := flat_ok n hfl hc hy
    have h2 := flatFs_ok n (cs := cs) hr (fun g hg => hf g (List.mem_cons_of_mem _ hg)) (by rw [hl, List.length_append]; omega)
    rw [ho, hc] at h1
    have h3 := h1.append h2
    rw [← List.drop_drop, List.take_append_drop] at h3
    exact h3
end

theorem cells_get {a : Addr} {n : Nat} {cs : List Value} (h : w.cells? base a n = some cs) : cs.length = n ∧ ∀ j, j < n → w.cell? (a.add j) = cs[j]? := by
  unfold World.cells? at h
  split at h
  · exact ⟨by simpa using mapM_some_length h, fun j hj => mapM_some_get h j j (by simp [hj])⟩
  · cases h

theorem cell_spot {a : Addr} {v : Value} (h : w.cell? a = some v) : a.spot = none := by
  unfold World.cell? at h
  split at h
  · split at h
    · cases h
    · rename_i hs; simpa using hs
  · cases h

/-- A slice of flat elements, read as data, is a row of the executor's memory. -/
theorem row_of_trodQ {U : Uni} (c : U.C) (Q : U.ty c → Prop) {t e : TypeId} {ks : List FK} {n fuel : Nat} {v : Value} {x : DataW H × List MemPlace} (ht : P.underlying t = some (.slice e)) (hfl : flat P n e = some ks) (hce : P.cellsOf e = ks.length) (hsz : ks.length = U.sz c) (hpos : 0 < ks.length)
    (hdec : ∀ cs, FKs ks cs → ∃ x, U.enc c x = cs.map .v ∧ Q x) (h : DataW.trod enc P w base spare held fuel t [v] = some x) :
    ∃ (l : List (U.ty c)) (p : Place), l.length < 9223372036854775808 ∧ (∀ x ∈ l, Q x) ∧ (∀ π, BlkOk π w p (.ro c l)) ∧ ∀ (π : Plc) (id k : Nat), π id k = some p → Rep π (.sl id k 0 l.length) v := by
  rcases DataW.trod_slice ht h with ⟨h0, _⟩ | ⟨a, len, cap, elems, rest, m, _, hv, _, hb, hl, hm, hlen, hel, _, _⟩
  · cases h0
    refine ⟨[], ⟨0, 0, U.sz c, none, 0, 0⟩, by simp, fun x hx => by simp at hx, fun π => ⟨rfl, fun i x hi => by simp at hi⟩, fun π id k _ => ?_⟩
    simp only [Rep]
    exact ⟨none, 0, rfl, Nat.le_refl _, fun h => absurd h (Nat.lt_irrefl 0)⟩
  · cases hv
    have each : ∀ i, i < len → ∃ x : U.ty c, Q x ∧ ∀ j a1, (U.enc c x)[j]? = some a1 → ∃ y, w.cell? ((a.add (i * P.cellsOf e)).add j) = some y ∧ a1 = .v y := by
      intro i hi
      have h1 := hel i hi
      rw [List.getElem?_eq_getElem (by omega), Option.bind_eq_some_iff] at h1
      obtain ⟨cs, hcs, htr⟩ := h1
      obtain ⟨hcl, hcg⟩ := cells_get hcs
      obtain ⟨x, hx, hQ⟩ := hdec cs (flat_ok n hfl hce htr)
      refine ⟨x, hQ, fun j a1 hj => ?_⟩
      rw [hx, List.getElem?_map] at hj
      cases hc : cs[j]? with
      | none => rw [hc] at hj; cases hj
      | some y =>
        rw [hc] at hj
        have hjl := (List.getElem?_eq_some_iff.1 hc).1
        exact ⟨y, by rw [hcg j (by omega), hc], by simpa using hj.symm⟩
    have spot : 0 < len → a.spot = none := by
      intro h0
      obtain ⟨x, _, hx⟩ := each 0 h0
      have hl2 := U.len c x
      obtain ⟨y, hy, _⟩ := hx 0 ((U.enc c x)[0]'(by omega)) (List.getElem?_eq_getElem _)
      have h9 : (a.add (0 * P.cellsOf e)).add 0 = a := by simp [Addr.add]
      rw [h9] at hy
      exact cell_spot hy
    have : ∃ l : List (U.ty c), l.length = len ∧ ∀ i x, l[i]? = some x → Q x ∧ ∀ j a1, (U.enc c x)[j]? = some a1 → ∃ y, w.cell? ((a.add (i * P.cellsOf e)).add j) = some y ∧ a1 = .v y := by
      refine ⟨(List.range len).pmap (fun i hi => (each i hi).choose) (fun i hi => List.mem_range.1 hi), by simp, fun i x hi => ?_⟩
      rw [List.getElem?_pmap] at hi
      by_cases h0 : i < len
      · rw [Option.pmap_eq_some_iff] at hi
        obtain ⟨i', h1, h2, rfl⟩ := hi
        have : i' = i := by rw [List.getElem?_range h0] at h2; exact (Option.some.inj h2).symm
        subst this
        exact (each i' h1).choose_spec
      · simp [List.getElem?_eq_none (show (List.range len).length ≤ i by simp; omega)] at hi
    obtain ⟨l, hll, hl2⟩ := this
    have hQl : ∀ x ∈ l, Q x := fun x hx => by
      obtain ⟨i, hi⟩ := List.getElem?_of_mem hx
      exact (hl2 i x hi).1
    have hml : maxLen = 9223372036854775807 := by decide
    refine ⟨l, ⟨a.block, a.off, U.sz c, none, 0, 0⟩, by omega, hQl, fun π => ⟨rfl, fun i x hi j a1 hj => ?_⟩, fun π id k hp => ?_⟩
    · obtain ⟨y, hy, rfl⟩ := (hl2 i x hi).2 j a1 hj
      have hi' := (List.getElem?_eq_some_iff.1 hi).1
      have hs := spot (by omega)
      refine ⟨y, ?_, by simp [Rep]⟩
      rw [← hy]
      congr 1
      cases a
      simp only at hs
      subst hs
      simp only [Addr.add, hce, hsz]
      split <;> split <;> simp_all
    · simp only [Rep]
      refine ⟨some a, cap, by rw [hll], by omega, fun h0 => ⟨_, hp, ?_⟩⟩
      have hs := spot (by omega)
      cases a
      simp only at hs
      subst hs
      simp
/-- A slice of flat elements, read as data, is a row of the executor's memory. -/
theorem row_of_trod {U : Uni} (c : U.C) {t e : TypeId} {ks : List FK} {n fuel : Nat} {v : Value} {x : DataW H × List MemPlace} (ht : P.underlying t = some (.slice e)) (hfl : flat P n e = some ks) (hce : P.cellsOf e = ks.length) (hsz : ks.length = U.sz c) (hpos : 0 < ks.length)
    (hdec : ∀ cs, FKs ks cs → ∃ x, U.enc c x = cs.map .v) (h : DataW.trod enc P w base spare held fuel t [v] = some x) :
    ∃ (l : List (U.ty c)) (p : Place), l.length < 9223372036854775808 ∧ (∀ π, BlkOk π w p (.ro c l)) ∧ ∀ (π : Plc) (id k : Nat), π id k = some p → Rep π (.sl id k 0 l.length) v := by
  obtain ⟨l, p, a, _, b, d⟩ := row_of_trodQ c (fun _ => True) ht hfl hce hsz hpos (fun cs hc => by
    obtain ⟨x, hx⟩ := hdec cs hc
    exact ⟨x, hx, trivial⟩) h
  exact ⟨l, p, a, b, d⟩
end

/-- Rows that are only read, as memory. -/
def rosPlc (ps : List Place) : Plc := fun id k => if k = 0 then ps[id]? else none
theorem rosPlc_fresh (ps : List Place) : Fresh (rosPlc ps) ps.length := by
  intro id k h
  unfold rosPlc
  split
  · rw [List.getElem?_eq_none h]
  · rfl
def roH {U : Uni} (bs : List ((c : U.C) × List (U.ty c))) : Heap U := bs.map fun b => .one (.ro b.1 b.2)
theorem roH_at {U : Uni} {bs : List ((c : U.C) × List (U.ty c))} {id k : Nat} {b : AB1 U} (h : (roH bs).at id k = some b) : k = 0 ∧ ∃ c, bs[id]? = some c ∧ b = .ro c.1 c.2 := by
  unfold Heap.at roH at h
  rw [List.getElem?_map] at h
  cases hb : bs[id]? with
  | none => rw [hb] at h; cases h
  | some c =>
    rw [hb] at h
    simp only [Option.map_some] at h
    split at h
    · rename_i e; exact ⟨e, c, rfl, by simpa using h.symm⟩
    · cases h
theorem roH_conc {U : Uni} {w : World} {bs : List ((c : U.C) × List (U.ty c))} {ps : List Place} (hl : ps.length = bs.length) (h : ∀ (i : Nat) (b : (c : U.C) × List (U.ty c)) (p : Place), bs[i]? = some b → ps[i]? = some p → ∀ π, BlkOk (U := U) π w p (.ro b.1 b.2)) : Conc (rosPlc ps) (roH bs) w where
  ok := fun id k b hb => by
    obtain ⟨rfl, c, hc, rfl⟩ := roH_at hb
    have h1 := (List.getElem?_eq_some_iff.1 hc).1
    refine ⟨ps[id], ?_, h id c _ hc (List.getElem?_eq_getElem (by omega)) _⟩
    unfold rosPlc
    rw [if_pos rfl, List.getElem?_eq_getElem (by omega)]
  sep := fun id k b id' k' b' p p' hb _ _ ho => by
    obtain ⟨rfl, c, hc, rfl⟩ := roH_at hb
    cases ho
theorem roH_length {U : Uni} (bs : List ((c : U.C) × List (U.ty c))) : (roH bs).length = bs.length := by simp [roH]
/-- A call that owns nothing of its memory keeps all that was there. -/
theorem keeps_of_ro {U : Uni} {bs : List ((c : U.C) × List (U.ty c))} {w w' : World} {O : Nat → Prop} (h : Keeps O w w') (hO : ∀ n, ¬ O n) : Keeps (fun _ => False) w w' := h.weaken fun n _ hn => hO n hn

/-- Arguments read in a world that keeps all that was there as they read before. -/
theorem trodAll_stays {H : Type} {enc : TypeId × Value → H} {P : Program} (hl : laidOutB P = true) {W W' : World} {sp' : Nat → Bool} : ∀ {ts : List TypeId} {vs : List Value} {ds : List (DataW H)} {ps : List MemPlace},
    (ts.all fun t => P.readableRec t && decide (t < P.types.size)) = true → DataW.TrodAll enc P W 0 (fun _ => true) true ts vs ds ps → (∀ p ∈ ps, W.sameAt W' p) → (∀ p ∈ ps, sp' p.block = true) → DataW.TrodAll enc P W' 0 sp' true ts vs ds ps
  | [], [], [], _, _, h, _, _ => h
  | _ :: _, _ :: _, _ :: _, _, ht, ⟨p, q, h1, h2, e⟩, hs, hp => by
    simp only [List.all_cons, Bool.and_eq_true, decide_eq_true_eq] at ht
    exact ⟨p, q, WideElems.Trod_stays hl ht.1.1 ht.1.2 h1 (fun x hx => hs x (by rw [e]; exact List.mem_append_left _ hx)) (fun x hx => hp x (by rw [e]; exact List.mem_append_left _ hx)),
      trodAll_stays hl ht.2 h2 (fun x hx => hs x (by rw [e]; exact List.mem_append_right _ hx)) (fun x hx => hp x (by rw [e]; exact List.mem_append_right _ hx)), e⟩

/-- A law without named variables, by its walk: 'it returns true; the arguments read as they did'. -/
theorem law_lifted {C : Checked} {f : FuncId} {fn : Func} {s : ChangeSpec} {conds : List PathCond} (own : ownKnob C.prog.godebug = none) {os : Os} (started : os.Started) {H : Type} {enc : TypeId × Value → H} (noInit : C.prog.inits.idxOf? f = none) (hfn : C.prog.funcs[f]? = some fn)
    (witness : ∃ (w : World) (tape : Tape) (i : Input), w.os = os ∧ (w.forCall tape i).Shaped C.prog ∧ i.vars = [] ∧ Input.okWide C.prog (w.forCall tape i) .any w.heap.size f i ∧ s.pre6 enc C.prog fn conds false (w.forCall tape i).memory i.args ∧ ({} : Assume).holds C.prog (lone (Frame.enter C.prog f i.args .normal) [] (w.forCall tape i)))
    (hl : laidOutB C.prog = true) (hts : (fn.params.toList.all fun t => C.prog.readableRec t && decide (t < C.prog.types.size)) = true) {rt : TypeId} (hrt : fn.resultTypes = #[rt]) (hb : C.prog.underlying rt = some .bool)
    (hvars : s.vars = []) (hspec : ∀ ds : List (DataW H), ds.length = fn.params.size → (s.fn H ds).results = [.lit (.bool true)] ∧ (s.fn H ds).args = ds ∧ (s.fn H ds).vars = [])
    (walk : ∀ (W : World) (args : Array Value) (ds : List (DataW H)) (ps : List MemPlace), DataW.TrodAll enc C.prog W 0 (fun _ => true) true fn.params.toList args.toList ds ps → (∀ (j : Nat) t v, fn.params[j]? = some t → args[j]? = some v → ∃ base, Value.okWide C.prog W .any base t v) →
      Calls C.prog f args W fun e w' => e = .returned (.bool true) ∧ Keeps (fun _ => False) W w') :
    ReturnsInHanded {} C os f .any (s.pre6 enc C.prog fn conds false) (s.post enc C.prog fn false true false false) := by
  refine returnsInHanded_of_change (C := C) own started noInit hfn witness ?_
  intro W base args ds gs before hval hW hcnd _
  have hW' := hW
  obtain ⟨p, q, hA, hV, rfl, hfz, hnd⟩ := hW
  rw [hvars] at hV
  obtain ⟨rfl, rfl⟩ := trodVars_none hV
  simp only [List.append_nil] at hW'
  have hlen : ds.length = fn.params.size := by
    have : ∀ {ts : List TypeId} {vs : List Value} {ds : List (DataW H)} {ps : List MemPlace}, DataW.TrodAll enc C.prog W 0 (fun _ => true) true ts vs ds ps → ds.length = ts.length := by
      intro ts
      induction ts with
      | nil => intro vs ds ps h; obtain ⟨_, rfl, _⟩ := trodAll_nil h; rfl
      | cons t ts ih =>
        intro vs ds ps h
        obtain ⟨_, _, _, ds', _, _, _, rfl, _, _, h2⟩ := trodAll_cons h
        simp [ih h2]
    rw [this hA]; simp
  obtain ⟨s1, s2, s3⟩ := hspec (ds ++ []) (by simpa using hlen)
  refine (walk W args ds p hA fun j t v h1 h2 => ⟨base, hval j t v h1 h2⟩).mono fun e W' ⟨he, hg⟩ => ?_
  subst he
  refine ⟨_, rfl, post_of_keeps (pa := p) (pv := []) hW' (fun b sp hd => ?_) (fun sp hsp => ?_) (fun sp _ => ?_) (by simp) hg ?_⟩
  · rw [s1, hrt]
    exact trodAll_cons_mk (shut_bool hb _) trodAll_mk0
  · rw [s2, List.append_nil]
    have hlt := hW'.lt
    exact trodAll_stays hl hts hA (fun x hx => hg.below.same (by simpa using hlt x hx)) fun x hx => hsp x hx
  · rw [s3, hvars]; rfl
  · exact ok_one hrt rfl (okWide_bool_mk hb _)

theorem agg_of_cells {v : Value} {l : List Value} (h : v.cells.toList = l) (hl : l.length ≠ 1) : v = .agg l.toArray := by
  cases v with
  | agg cs => simp only [Value.cells] at h; rw [← h]
  | _ => simp only [Value.cells] at h; rw [← h] at hl; exact absurd rfl hl
theorem cells_of_one2 {v : Value} {x : Value} (hx : ∀ cs, v ≠ .agg cs) (h : v.cells.toList = [x]) : v = x := by
  cases v with
  | agg cs => exact absurd rfl (hx cs)
  | _ => simpa [Value.cells] using h
/-- A flat value read as data: its cells. -/
theorem flat_cells {H : Type} {enc : TypeId × Value → H} {P : Program} {w : World} {base : Nat} {spare : Nat → Bool} {held : Bool} {t : TypeId} {v : Value} {d : DataW H} {ps : List MemPlace} {ks : List FK} (n : Nat) (hfl : flat P n t = some ks) (hce : P.cellsOf t = ks.length) (h : DataW.Trod enc P w base spare held t v d ps) : FKs ks v.cells.toList := by
  obtain ⟨fuel, h⟩ := h
  exact flat_ok n hfl hce h
theorem flat_agg {H : Type} {enc : TypeId × Value → H} {P : Program} {w : World} {base : Nat} {spare : Nat → Bool} {held : Bool} {t : TypeId} {v : Value} {d : DataW H} {ps : List MemPlace} {ks : List FK} (n : Nat) (hfl : flat P n t = some ks) (hce : P.cellsOf t = ks.length) (hne : ks.length ≠ 1) (h : DataW.Trod enc P w base spare held t v d ps) : ∃ l, FKs ks l ∧ v = .agg l.toArray := by
  have h1 := flat_cells n hfl hce h
  exact ⟨_, h1, agg_of_cells rfl (by rw [h1.length]; exact hne)⟩
theorem RepL.ofV {π : Plc} : ∀ (l : List Value), RepL π (l.map .v) l
  | [] => RepL.nil π
  | x :: l => RepL.cons (by simp [Rep]) (RepL.ofV l)
end AE

namespace AE.Soil
open Go AE Go.Proofs Go.ChangeShapes Go.WideShapes Go.RowKit

theorem laidOut : laidOutB Try.prog = true := by kernel_rfl
theorem flatP : flat Try.prog 30 54 = some [.int .i64, .int .i64, .int .i64, .int .i64, .int .i64, .int .i64, .int .i64, .int .i64, .int .i64] := by kernel_rfl
theorem decP (cs : List Value) (h : FKs [.int .i64, .int .i64, .int .i64, .int .i64, .int .i64, .int .i64, .int .i64, .int .i64, .int .i64] cs) : ∃ x : PitT, CC.enc .pit x = cs.map .v := by
  obtain ⟨_, _, rfl, ⟨a, rfl, _⟩, _, _, rfl, ⟨b, rfl, _⟩, _, _, rfl, ⟨c, rfl, _⟩, _, _, rfl, ⟨d, rfl, _⟩, _, _, rfl, ⟨e, rfl, _⟩, _, _, rfl, ⟨f, rfl, _⟩, _, _, rfl, ⟨g, rfl, _⟩, _, _, rfl, ⟨i, rfl, _⟩, _, _, rfl, ⟨j, rfl, _⟩, h⟩ := h
  cases h
  exact ⟨(a, (b, c), (d, e), (f, g), (i, j)), rfl⟩
theorem in_u8 {n : Int} (h : (Lit.int .u8 n).wf = true) : 0 ≤ n ∧ n ≤ 255 := by
  simp only [Lit.wf, Bool.and_eq_true, decide_eq_true_eq] at h
  have h1 : IntKind.u8.min = 0 := by decide
  have h2 : IntKind.u8.max = 255 := by decide
  omega
theorem in_i16 {n : Int} (h : (Lit.int .i16 n).wf = true) : -32768 ≤ n ∧ n ≤ 32767 := by
  simp only [Lit.wf, Bool.and_eq_true, decide_eq_true_eq] at h
  have h1 : IntKind.i16.min = -32768 := by decide
  have h2 : IntKind.i16.max = 32767 := by decide
  omega
theorem in_i64 {n : Int} (h : (Lit.int .i64 n).wf = true) : -9223372036854775808 ≤ n ∧ n ≤ 9223372036854775807 := by
  simp only [Lit.wf, Bool.and_eq_true, decide_eq_true_eq] at h
  have h1 : IntKind.i64.min = -9223372036854775808 := by decide
  have h2 : IntKind.i64.max = 9223372036854775807 := by decide
  omega
def bigG (g : GroundT) : Prop := g.pits.length < 9223372036854775808

section
variable {H : Type} {enc : TypeId × Value → H} {w : World} {d : DataW H} {ps : List MemPlace} {v : Value}
set_option maxRecDepth 100000 in
theorem open_ground (h : DataW.Trod enc Try.prog w 0 (fun _ => true) true 24 v d ps) :
    ∃ (x : GroundT) (p : Place), bigG x ∧ (∀ π, BlkOk π w p (.ro (U := UU) .pit x.pits)) ∧ ((-9223372036854775808 ≤ x.long ∧ x.long ≤ 9223372036854775807) ∧ (-9223372036854775808 ≤ x.rise ∧ x.rise ≤ 9223372036854775807) ∧ (-9223372036854775808 ≤ x.change ∧ x.change ≤ 9223372036854775807)) ∧ ∀ π : Plc, π 0 0 = some p → Rep π (vGround x 0) v := by
  obtain ⟨fuel, h⟩ := h
  obtain ⟨xs, m, _, _, hl, hlen, hf⟩ := DataW.trod_struct Try.underlying24 h
  have hc : Try.prog.cellsOf 24 = 4 := by kernel_rfl
  have c3 : Try.prog.cellsOf 3 = 1 := by kernel_rfl
  have c22 : Try.prog.cellsOf 22 = 1 := by kernel_rfl
  have fl3 : flat Try.prog 30 3 = some [.int .i64] := by kernel_rfl
  rw [hc] at hl
  have hv := agg_of_cells (v := v) rfl (by omega)
  obtain ⟨l, hl2⟩ : ∃ l, v.cells.toList = l := ⟨_, rfl⟩
  rw [hl2] at hl hv hf
  subst hv
  have hx : ∀ i, i < 4 → ∃ y, xs[i]? = some y := fun i hi => ⟨_, List.getElem?_eq_getElem (by have : xs.length = 4 := hlen; omega)⟩
  match l, hl with
  | [a, b, c, e], _ =>
  obtain ⟨y0, e0⟩ := hx 0 (by omega)
  obtain ⟨y1, e1⟩ := hx 1 (by omega)
  obtain ⟨y2, e2⟩ := hx 2 (by omega)
  obtain ⟨y3, e3⟩ := hx 3 (by omega)
  have f0 : DataW.trod enc Try.prog w 0 (fun _ => true) true m 3 (([a, b, c, e].drop 0).take (Try.prog.cellsOf 3)) = xs[0]? := hf 0 _ rfl
  have f1 : DataW.trod enc Try.prog w 0 (fun _ => true) true m 3 (([a, b, c, e].drop 1).take (Try.prog.cellsOf 3)) = xs[1]? := hf 1 _ rfl
  have f2 : DataW.trod enc Try.prog w 0 (fun _ => true) true m 3 (([a, b, c, e].drop 2).take (Try.prog.cellsOf 3)) = xs[2]? := hf 2 _ rfl
  have f3 : DataW.trod enc Try.prog w 0 (fun _ => true) true m 22 (([a, b, c, e].drop 3).take (Try.prog.cellsOf 22)) = xs[3]? := hf 3 _ rfl
  rw [e0, c3] at f0
  rw [e1, c3] at f1
  rw [e2, c3] at f2
  rw [e3, c22] at f3
  obtain ⟨_, _, h0, ⟨n0, rfl, w0⟩, r0⟩ := flat_ok 30 fl3 c3 f0
  obtain ⟨_, _, h1, ⟨n1, rfl, w1⟩, r1⟩ := flat_ok 30 fl3 c3 f1
  obtain ⟨_, _, h2, ⟨n2, rfl, w2⟩, r2⟩ := flat_ok 30 fl3 c3 f2
  have h0' : a = .int .i64 n0 := (List.cons.inj h0).1
  have h1' : b = .int .i64 n1 := (List.cons.inj h1).1
  have h2' : c = .int .i64 n2 := (List.cons.inj h2).1
  obtain ⟨cs, p, hcs, hp, hpr⟩ := row_of_trod (U := UU) CC.pit Try.underlying22 flatP (by kernel_rfl) rfl (by decide) decP f3
  refine ⟨⟨n0, n1, n2, cs⟩, p, hcs, hp, ⟨in_i64 w0, in_i64 w1, in_i64 w2⟩, fun π h3 => ?_⟩
  subst h0' h1' h2'
  simp only [vGround, Rep]
  exact ⟨_, rfl, RepL.cons (by simp [Rep]) (RepL.cons (by simp [Rep]) (RepL.cons (by simp [Rep]) (RepL.cons (hpr π 0 0 h3) (RepL.nil π))))⟩
end
/-- A law that takes a ground and more: its walk. -/
theorem walk_of {f : FuncId} {W : World} {args : Array Value} {x : GroundT} {p : Place} {al : List AV} (h : FunOk Try.prog f al [.one (.ro (U := UU) .pit x.pits)] (.val ⟨.b true, [], [], []⟩)) (hp : ∀ π, BlkOk π W p (.ro (U := UU) .pit x.pits))
    (hr : RepL (rosPlc [p]) al args.toList) : Calls Try.prog f args W fun e w' => e = .returned (.bool true) ∧ Keeps (fun _ => False) W w' := by
  have hc : Conc (rosPlc [p]) [.one (.ro (U := UU) .pit x.pits)] W := roH_conc (U := UU) (bs := [⟨CC.pit, x.pits⟩]) rfl fun i b p' hb hp' π => by
    match i with
    | 0 => cases hb; cases hp'; exact hp π
    | i + 1 => cases hb
  have hF := h (rosPlc [p]) W args.toList (rosPlc_fresh [p]) hc hr
  refine hF.mono fun e w' hh => ?_
  obtain ⟨v, πn, rfl, hpo⟩ := hh
  have hb := rep_v hpo.rep
  subst hb
  refine ⟨rfl, hpo.keeps.weaken fun n _ hn => ?_⟩
  obtain ⟨id, k, p, b0, hu, _⟩ := hn
  rcases hu with ⟨b, hb⟩ | hb <;> cases hb
end AE.Soil
