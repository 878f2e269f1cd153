/- An own symbolic executor for the model's code, and what the functions beneath the law compute, joined out of: SoM, SoN, SoO, SoP, SoQ, SoR, SoS, SoT, SoV, SoW, SoTA, SoTB, SoX, SoZ0, SoZ1. No condition. -/
import Derived.Test.YtcaohobogibemaaM3

set_option linter.unusedSimpArgs false
set_option linter.unusedVariables false
namespace AE.Soil
open Go AE Go.Proofs

def orM (a b : Int) : Int := W (BitVec.ofInt 64 a ||| BitVec.ofInt 64 b).toNat
/-- The classes but the last: number, least share, part. -/
def kindM : Nat → Int × Int × Pt
  | 0 => (3, 8, .p0)
  | 1 => (1, 14, .p1)
  | _ => (2, 12, .p2)
def hasM (m : Mix3) (j : Nat) : Mix3 := andM m (ptM (kindM j).2.2 anyM (fromM (kindM j).2.1))
def hasntM (m : Mix3) (j : Nat) : Mix3 := andM m (ptM (kindM j).2.2 anyM (belowM (kindM j).2.1))
def leftM (m : Mix3) : Nat → Mix3
  | 0 => m
  | j + 1 => hasntM (leftM m j) j
def setM (m : Mix3) : Nat → Int
  | 0 => 0
  | j + 1 => if noneM (hasM (leftM m j) j) then setM m j else orM (setM m j) (W (1 * 2 ^ (kindM j).1.toNat))
def classesM (m : Mix3) : Int := if noneM (leftM m 1) then setM m 1 else if noneM (leftM m 2) then setM m 2 else if noneM (leftM m 3) then setM m 3 else orM (setM m 3) 1
def classSt (m : Mix3) (s : Int) (i : Nat) : Fr := [(4, .i s), (5, .ptr 2 0 0 0), (15, .agg (vKind 3 7 3 4 6 ++ vKind 1 9 3 4 8 ++ vKind 2 11 3 4 10)), (16, .i i)]
def classH (l : List Mix3) (m : Mix3) : Heap UU := [.one (.ro .mix l), .one (.rc [.junk, .junk, .junk, .junk, .junk, .sl 0 0 0 l.length] 71), .one (.cells (cMix m) 80), .one cFrom, .one cBelow, .one (.cells (cMix anyM) 80), .one (cInt 8), .one (cOf .p0 5), .one (cInt 14), .one (cOf .p1 5), .one (cInt 12), .one (cOf .p2 5)]
def avMixes (H : Heap UU) : AV → Option (List Mix3)
  | .ptr i 0 0 0 => match blkAt H i 0 with
    | some (.cells [_, _, _, _, _, a] _) => sliceAt .mix H a
    | some (.rc [_, _, _, _, _, a] _) => sliceAt .mix H a
    | _ => none
  | _ => none
def classesS : FSpec UU where
  X := List Mix3 × Int
  pick := fun args H => match args with
    | [g, a] => match avMixes H g, avInt a with
      | some l, some a => some (l, a)
      | _, _ => none
    | _ => none
  args := fun x => [.ptr 1 0 0 0, .i x.2]
  H := fun x => [.one (.ro .mix x.1), .one (.rc [.junk, .junk, .junk, .junk, .junk, .sl 0 0 0 x.1.length] 71)]
  R := fun x => .val ⟨.i (classesM (x.1.getD x.2.toNat m0)), [], [], []⟩
  pre := fun x => 0 ≤ x.2 ∧ x.2 < x.1.length ∧ x.1.length < 1000
def Tclasses : Tab UU := [(59, kindsS.con), (60, isNoneS.con), (79, (partS 73 fromM).con), (80, (partS 74 belowM).con)]
theorem Tclasses_ok : Tclasses.Sound Try.prog := .cons kinds_sound (.cons isNone_sound (.cons can_sound (.cons cannot_sound .nil)))
theorem set1t {m : Mix3} (h : noneM (andM m (ptM .p0 anyM (fromM 8))) = true) : setM m 1 = 0 := by
  show (if noneM (andM m (ptM .p0 anyM (fromM 8))) then setM m 0 else _) = _
  rw [h]; exact if_pos rfl
theorem set1f {m : Mix3} (h : noneM (andM m (ptM .p0 anyM (fromM 8))) = false) : setM m 1 = W 8 := by
  show (if noneM (andM m (ptM .p0 anyM (fromM 8))) then setM m 0 else orM (setM m 0) (W (1 * 2 ^ 3))) = _
  rw [h]; exact (if_neg (by decide)).trans (show orM 0 (W (1 * 2 ^ 3)) = W 8 by decide)
theorem set2t {m : Mix3} (h : noneM (andM (leftM m 1) (ptM .p1 anyM (fromM 14))) = true) : setM m 2 = setM m 1 := by
  show (if noneM (andM (leftM m 1) (ptM .p1 anyM (fromM 14))) then setM m 1 else _) = _
  rw [h]; exact if_pos rfl
theorem set2f {m : Mix3} (h : noneM (andM (leftM m 1) (ptM .p1 anyM (fromM 14))) = false) : setM m 2 = orM (setM m 1) (W (1 * 2 ^ 1)) := by
  show (if noneM (andM (leftM m 1) (ptM .p1 anyM (fromM 14))) then setM m 1 else orM (setM m 1) (W (1 * 2 ^ 1))) = _
  rw [h]; exact if_neg (by decide)
theorem set3t {m : Mix3} (h : noneM (andM (leftM m 2) (ptM .p2 anyM (fromM 12))) = true) : setM m 3 = setM m 2 := by
  show (if noneM (andM (leftM m 2) (ptM .p2 anyM (fromM 12))) then setM m 2 else _) = _
  rw [h]; exact if_pos rfl
theorem set3f {m : Mix3} (h : noneM (andM (leftM m 2) (ptM .p2 anyM (fromM 12))) = false) : setM m 3 = orM (setM m 2) (W (1 * 2 ^ 2)) := by
  show (if noneM (andM (leftM m 2) (ptM .p2 anyM (fromM 12))) then setM m 2 else orM (setM m 2) (W (1 * 2 ^ 2))) = _
  rw [h]; exact if_neg (by decide)
theorem cls1 {m : Mix3} (h : noneM (leftM m 1) = true) : classesM m = setM m 1 := by unfold classesM; rw [h]; rfl
theorem cls2 {m : Mix3} (h1 : noneM (leftM m 1) = false) (h : noneM (leftM m 2) = true) : classesM m = setM m 2 := by unfold classesM; rw [h1, h]; rfl
theorem cls3 {m : Mix3} (h1 : noneM (leftM m 1) = false) (h2 : noneM (leftM m 2) = false) (h : noneM (leftM m 3) = true) : classesM m = setM m 3 := by unfold classesM; rw [h1, h2, h]; rfl
theorem cls4 {m : Mix3} (h1 : noneM (leftM m 1) = false) (h2 : noneM (leftM m 2) = false) (h : noneM (leftM m 3) = false) : classesM m = orM (setM m 3) 1 := by unfold classesM; rw [h1, h2, h]; rfl
theorem left1 (m : Mix3) : andM m (ptM .p0 anyM (belowM 8)) = leftM m 1 := rfl
theorem left2 (m : Mix3) : andM (leftM m 1) (ptM .p1 anyM (belowM 14)) = leftM m 2 := rfl
theorem left3 (m : Mix3) : andM (leftM m 2) (ptM .p2 anyM (belowM 12)) = leftM m 3 := rfl
section
set_option maxHeartbeats 0 in
set_option maxRecDepth 100000 in
theorem classes_ok : ∀ x, classesS.pre x → FunOk Try.prog 40 (classesS.args x) (classesS.H x) (classesS.R x) := by
  rintro ⟨l, at_⟩ hx
  refine fun_of (T := Tclasses) (L := fun _ => some (.steps [(classSt (l.getD at_.toNat m0) 0 0, classH l (l.getD at_.toNat m0)), (classSt (l.getD at_.toNat m0) (setM (l.getD at_.toNat m0) 1) 1, classH l (leftM (l.getD at_.toNat m0) 1)), (classSt (l.getD at_.toNat m0) (setM (l.getD at_.toNat m0) 2) 2, classH l (leftM (l.getD at_.toNat m0) 2)), (classSt (l.getD at_.toNat m0) (setM (l.getD at_.toNat m0) 3) 3, classH l (leftM (l.getD at_.toNat m0) 3))])) (hs := fun _ => []) hmix Tclasses_ok Try.func40 (by kernel_rfl) (by kernel_rfl) ?_
  refine Eq.mp (α :=
      let Z0 := Int.toNat at_; let Z1 := True ∧ True; let Z2 := List.length l; let Z3 := (↑(nat_lit 0) : Int); let Z4 := nat_lit 0 = nat_lit 0 ∧ nat_lit 0 = nat_lit 0; let Z5 := (↑(nat_lit 3) : Int); let Z6 := (↑(nat_lit 1) : Int); let Z7 := (↑(nat_lit 8) : Int); let Z8 := (↑(nat_lit 2) : Int); let Z9 := (0 : Int); let Z10 := (8 : Int); let Z11 := (3 : Int); let Z12 := (1 : Int); let Z13 := (2 : Int); let Z14 := Fn.func (nat_lit 76) = Fn.func (nat_lit 76); let Z15 := Fn.func (nat_lit 75) = Fn.func (nat_lit 75); let Z16 := Fn.func (nat_lit 77) = Fn.func (nat_lit 77); let Z17 := (12 : Int); let Z18 := (14 : Int); let Z19 := (79 : FuncId); let Z20 := (73 : FuncId); let Z21 := (80 : FuncId); let Z22 := l = l; let Z23 := (74 : FuncId); let Z24 := fromM Z10; let Z25 := belowM Z10; let Z26 := fromM Z18; let Z27 := fromM Z17; let Z28 := belowM Z18; let Z29 := belowM Z17; let Z30 := nat_lit 0 = nat_lit 0 ∧ Z4; let Z31 := Fn.func Z20; let Z32 := Fn.func Z23; let Z33 := Fn.func Z19; let Z34 := Fn.func Z21; let Z35 := BitVec.ofInt (nat_lit 64) Z12; let Z36 := Value.int IntKind.i64 Z6; let Z37 := Value.int IntKind.i64 Z8; let Z38 := Value.int IntKind.i64 Z5; let Z39 := Value.int IntKind.i64 Z10; let Z40 := Value.int IntKind.i64 Z11; let Z41 := Prod.fst anyM; let Z42 := Prod.snd anyM; let Z43 := Value.int IntKind.i64 Z12; let Z44 := Value.int IntKind.i64 Z9; let Z45 := Value.int IntKind.i64 Z13; let Z46 := IntKind.wrap IntKind.i64 Z7; let Z47 := Value.int IntKind.i64 Z18; let Z48 := Value.int IntKind.i64 Z17; let Z49 := Z30 ∧ True; let Z50 := Z2 = Z2; let Z51 := nat_lit 0 + Z0; let Z52 := True ∧ Z49; let Z53 := Z32 = Fn.func (nat_lit 74); let Z54 := Z31 = Fn.func (nat_lit 73); let Z55 := ptM Pt.p0 anyM Z24; let Z56 := ptM Pt.p0 anyM Z25; let Z57 := ptM Pt.p1 anyM Z26; let Z58 := ptM Pt.p2 anyM Z27; let Z59 := Prod.snd Z41; let Z60 := ptM Pt.p1 anyM Z28; let Z61 := ptM Pt.p2 anyM Z29; let Z62 := Prod.fst Z41; let Z63 := nat_lit 0 = nat_lit 0 ∧ Z50; let Z64 := Value.int IntKind.i64 Z46; let Z65 := (Z9, Z9); let Z66 := Prod.snd Z42; let Z67 := Prod.fst Z42; let Z68 := Z8 < Z5; let Z69 := Z6 < Z5; let Z70 := Z5 < Z5; let Z71 := Z3 < Z11; let Z72 := Z9 ≤ Z5; let Z73 := Z5 < Z11; let Z74 := Z8 < Z11; let Z75 := Z9 ≤ Z8; let Z76 := Z9 ≤ Z6; let Z77 := Z6 < Z11; let Z78 := Z9 ≤ Z13; let Z79 := Z9 ≤ Z12; let Z80 := Z54 ∧ Z1; let Z81 := Z53 ∧ Z1; let Z82 := Value.int IntKind.i64 Z62; let Z83 := nat_lit 0 = nat_lit 0 ∧ Z63; let Z84 := Value.int IntKind.i64 Z59; let Z85 := Z80 ∧ True; let Z86 := Z81 ∧ True; let Z87 := Prod.snd Z66; let Z88 := Prod.snd Z67; let Z89 := Prod.fst Z66; let Z90 := Prod.fst Z67; let Z91 := Z13 ^ nat_lit 2; let Z92 := Z13 ^ nat_lit 1; let Z93 := Z34 = Z34; let Z94 := Z83 ∧ True; let Z95 := Z32 = Z32; let Z96 := Z31 = Z31; let Z97 := Z33 = Z33; let Z98 := Z15 ∧ Z52; let Z99 := Z16 ∧ Z52; let Z100 := Z14 ∧ Z52; let Z101 := Z3 + Z12; let Z102 := Z6 + Z12; let Z103 := Z8 + Z12; let Z104 := Z30 ∧ Z49; let Z105 := True ∧ Z94; let Z106 := Z98 ∧ True; let Z107 := Z100 ∧ True; let Z108 := Z99 ∧ True; let Z109 := Z39 = Z39; let Z110 := Z45 = Z45; let Z111 := Z40 = Z40; let Z112 := Z43 = Z43; let Z113 := Z48 = Z48; let Z114 := Z47 = Z47; let Z115 := Value.int IntKind.i64 Z87; let Z116 := Value.int IntKind.i64 Z88; let Z117 := Value.int IntKind.i64 Z90; let Z118 := Value.int IntKind.i64 Z89; let Z119 := Z95 ∧ Z1; let Z120 := True ∧ Z105; let Z121 := Z96 ∧ Z1; let Z122 := Z108 ∧ True; let Z123 := Z109 ∧ True; let Z124 := Z113 ∧ True; let Z125 := Z114 ∧ True; let Z126 := IntKind.wrap IntKind.i64 Z103; let Z127 := IntKind.wrap IntKind.i64 Z102; let Z128 := IntKind.wrap IntKind.i64 Z101; let Z129 := True ∧ Z120; let Z130 := Z119 ∧ True; let Z131 := Z121 ∧ True; let Z132 := True ∧ Z129; let Z133 := True ∧ Z132; let Z134 := Value.int IntKind.i64 Z126; let Z135 := Value.int IntKind.i64 Z127; let Z136 := Value.int IntKind.i64 Z128; let Z137 := Z30 ∧ Z104; let Z138 := Z133 ∧ True; let Z139 := True ∧ Z137; let Z140 := Z76 ∧ Z69; let Z141 := Z72 ∧ Z70; let Z142 := Z75 ∧ Z68; let Z143 := Z12 * Z92; let Z144 := Z12 * Z91; let Z145 := Z141 ∧ False; let Z146 := (Z65, Z65); let Z147 := Z84 = Z84; let Z148 := Z82 = Z82; let Z149 := IntKind.wrap IntKind.i64 Z143; let Z150 := IntKind.wrap IntKind.i64 Z144; let Z151 := decide Z71; let Z152 := decide Z77; let Z153 := decide Z73; let Z154 := decide Z74; let Z155 := Z22 ∧ Z138; let Z156 := Z135 = Z37; let Z157 := Z134 = Z38; let Z158 := Z136 = Z36; let Z159 := True ∧ Z155; let Z160 := BitVec.ofInt (nat_lit 64) Z149; let Z161 := BitVec.ofInt (nat_lit 64) Z150; let Z162 := Z153 = true; let Z163 := Z152 = true; let Z164 := Z154 = true; let Z165 := Z153 = false; let Z166 := Z152 = false; let Z167 := Z154 = false; let Z168 := Z158 ∧ True; let Z169 := Z157 ∧ True; let Z170 := Z156 ∧ True; let Z171 := Z117 = Z117; let Z172 := Z118 = Z118; let Z173 := Z116 = Z116; let Z174 := Z115 = Z115; let Z175 := Z124 ∧ Z122; let Z176 := Z174 ∧ True; let Z177 := Z97 ∧ Z139; let Z178 := Z93 ∧ Z139; let Z179 := Z178 ∧ True; let Z180 := (Z65, Z146); let Z181 := List.getD l Z0 Z180; let Z182 := setM Z181 (nat_lit 1); let Z183 := setM Z181 (nat_lit 3); let Z184 := setM Z181 (nat_lit 2); let Z185 := leftM Z181 (nat_lit 1); let Z186 := leftM Z181 (nat_lit 3); let Z187 := leftM Z181 (nat_lit 2); let Z188 := classesM Z181; let Z189 := BitVec.ofInt (nat_lit 64) Z182; let Z190 := BitVec.ofInt (nat_lit 64) Z183; let Z191 := BitVec.ofInt (nat_lit 64) Z184; let Z192 := Value.int IntKind.i64 Z184; let Z193 := Value.int IntKind.i64 Z182; let Z194 := Value.int IntKind.i64 Z183; let Z195 := Z107 ∧ Z175; let Z196 := Value.int IntKind.i64 Z188; let Z197 := Prod.snd Z181; let Z198 := Prod.fst Z181; let Z199 := Prod.snd Z187; let Z200 := Prod.snd Z185; let Z201 := Prod.fst Z186; let Z202 := Prod.fst Z187; let Z203 := Prod.snd Z186; let Z204 := Prod.fst Z185; let Z205 := List.getD l Z51 Z180; let Z206 := Prod.snd Z198; let Z207 := Prod.fst Z198; let Z208 := Z162 → Z145; let Z209 := Prod.snd Z197; let Z210 := Prod.fst Z197; let Z211 := Prod.fst Z201; let Z212 := Prod.fst Z202; let Z213 := Prod.fst Z204; let Z214 := Prod.snd Z201; let Z215 := Prod.snd Z202; let Z216 := Prod.snd Z204; let Z217 := andM Z181 Z55; let Z218 := andM Z181 Z56; let Z219 := Value.int IntKind.i64 Z207; let Z220 := Value.int IntKind.i64 Z206; let Z221 := Prod.fst Z200; let Z222 := Prod.snd Z200; let Z223 := Prod.fst Z203; let Z224 := Prod.fst Z199; let Z225 := Prod.snd Z203; let Z226 := Prod.snd Z199; let Z227 := Prod.snd Z210; let Z228 := Prod.snd Z209; let Z229 := Prod.fst Z209; let Z230 := Prod.fst Z210; let Z231 := noneM Z217; let Z232 := noneM Z218; let Z233 := andM Z185 Z57; let Z234 := andM Z187 Z58; let Z235 := andM Z187 Z61; let Z236 := andM Z185 Z60; let Z237 := Value.int IntKind.i64 Z212; let Z238 := Value.int IntKind.i64 Z213; let Z239 := Value.int IntKind.i64 Z211; let Z240 := Value.int IntKind.i64 Z215; let Z241 := Value.int IntKind.i64 Z216; let Z242 := Value.int IntKind.i64 Z214; let Z243 := !Z231; let Z244 := Prod.snd Z226; let Z245 := Prod.snd Z224; let Z246 := Prod.fst Z221; let Z247 := Prod.snd Z221; let Z248 := Prod.fst Z222; let Z249 := Prod.snd Z222; let Z250 := Prod.fst Z224; let Z251 := Prod.snd Z223; let Z252 := Prod.fst Z223; let Z253 := Prod.fst Z226; let Z254 := Prod.fst Z225; let Z255 := Prod.snd Z225; let Z256 := Prod.fst Z205; let Z257 := Prod.snd Z205; let Z258 := noneM Z234; let Z259 := noneM Z233; let Z260 := noneM Z236; let Z261 := noneM Z235; let Z262 := Z232 = true; let Z263 := Z232 = false; let Z264 := Value.int IntKind.i64 Z230; let Z265 := Value.int IntKind.i64 Z228; let Z266 := Value.int IntKind.i64 Z227; let Z267 := Value.int IntKind.i64 Z229; let Z268 := !Z258; let Z269 := !Z259; let Z270 := Prod.snd Z217; let Z271 := Prod.fst Z217; let Z272 := Prod.snd Z218; let Z273 := Prod.fst Z218; let Z274 := Value.int IntKind.i64 Z247; let Z275 := Value.int IntKind.i64 Z253; let Z276 := Value.int IntKind.i64 Z250; let Z277 := Value.int IntKind.i64 Z246; let Z278 := Value.int IntKind.i64 Z254; let Z279 := Value.int IntKind.i64 Z244; let Z280 := Z260 = true; let Z281 := Value.int IntKind.i64 Z249; let Z282 := Value.int IntKind.i64 Z252; let Z283 := Value.int IntKind.i64 Z251; let Z284 := Value.int IntKind.i64 Z245; let Z285 := Value.int IntKind.i64 Z255; let Z286 := Value.int IntKind.i64 Z248; let Z287 := Z261 = true; let Z288 := Z261 = false; let Z289 := Z260 = false; let Z290 := Prod.fst Z257; let Z291 := Prod.snd Z257; let Z292 := Z268 = true; let Z293 := Z269 = true; let Z294 := Z269 = false; let Z295 := Z268 = false; let Z296 := Prod.snd Z234; let Z297 := Prod.snd Z233; let Z298 := Prod.fst Z233; let Z299 := Prod.fst Z234; let Z300 := Prod.fst Z236; let Z301 := Prod.fst Z235; let Z302 := Prod.snd Z236; let Z303 := Prod.snd Z235; let Z304 := Prod.fst Z271; let Z305 := Prod.snd Z271; let Z306 := Prod.snd Z273; let Z307 := Prod.fst Z273; let Z308 := Prod.snd Z270; let Z309 := Prod.fst Z270; let Z310 := Prod.snd Z272; let Z311 := Prod.fst Z272; let Z312 := Prod.snd Z299; let Z313 := Prod.snd Z298; let Z314 := Prod.fst Z298; let Z315 := Prod.fst Z299; let Z316 := Prod.snd Z300; let Z317 := Prod.fst Z300; let Z318 := Prod.fst Z301; let Z319 := Prod.snd Z301; let Z320 := Value.int IntKind.i64 Z305; let Z321 := Value.int IntKind.i64 Z304; let Z322 := Value.int IntKind.i64 Z307; let Z323 := Value.int IntKind.i64 Z306; let Z324 := Prod.fst Z296; let Z325 := Prod.snd Z297; let Z326 := Prod.snd Z296; let Z327 := Prod.fst Z297; let Z328 := Prod.snd Z302; let Z329 := Prod.fst Z303; let Z330 := Prod.fst Z302; let Z331 := Prod.snd Z303; let Z332 := Prod.fst Z309; let Z333 := Prod.snd Z308; let Z334 := Prod.fst Z308; let Z335 := Prod.snd Z309; let Z336 := Prod.fst Z311; let Z337 := Prod.snd Z311; let Z338 := Prod.fst Z310; let Z339 := Prod.snd Z310; let Z340 := Z125 ∧ Z195; let Z341 := Z172 ∧ Z176; let Z342 := Value.int IntKind.i64 Z312; let Z343 := Value.int IntKind.i64 Z314; let Z344 := Value.int IntKind.i64 Z313; let Z345 := Value.int IntKind.i64 Z315; let Z346 := Value.int IntKind.i64 Z319; let Z347 := Value.int IntKind.i64 Z317; let Z348 := Value.int IntKind.i64 Z316; let Z349 := Value.int IntKind.i64 Z318; let Z350 := Prod.snd Z327; let Z351 := Prod.fst Z326; let Z352 := Prod.fst Z327; let Z353 := Prod.fst Z325; let Z354 := Prod.fst Z324; let Z355 := Prod.snd Z326; let Z356 := Prod.snd Z325; let Z357 := Prod.snd Z324; let Z358 := Prod.fst Z329; let Z359 := Prod.fst Z328; let Z360 := Prod.fst Z331; let Z361 := Prod.snd Z328; let Z362 := Prod.snd Z331; let Z363 := Prod.fst Z330; let Z364 := Prod.snd Z329; let Z365 := Prod.snd Z330; let Z366 := Value.int IntKind.i64 Z332; let Z367 := Value.int IntKind.i64 Z333; let Z368 := Value.int IntKind.i64 Z334; let Z369 := Value.int IntKind.i64 Z335; let Z370 := Value.int IntKind.i64 Z337; let Z371 := Value.int IntKind.i64 Z338; let Z372 := Value.int IntKind.i64 Z339; let Z373 := Value.int IntKind.i64 Z336; let Z374 := Value.int IntKind.i64 Z355; let Z375 := Value.int IntKind.i64 Z356; let Z376 := Value.int IntKind.i64 Z352; let Z377 := Value.int IntKind.i64 Z354; let Z378 := Value.int IntKind.i64 Z350; let Z379 := Value.int IntKind.i64 Z357; let Z380 := Value.int IntKind.i64 Z353; let Z381 := Value.int IntKind.i64 Z351; let Z382 := Value.int IntKind.i64 Z358; let Z383 := Value.int IntKind.i64 Z360; let Z384 := Value.int IntKind.i64 Z359; let Z385 := Value.int IntKind.i64 Z365; let Z386 := Value.int IntKind.i64 Z362; let Z387 := Value.int IntKind.i64 Z364; let Z388 := Value.int IntKind.i64 Z363; let Z389 := Value.int IntKind.i64 Z361; let Z390 := Z177 ∧ Z179; let Z391 := Z189 ||| Z35; let Z392 := Z191 ||| Z35; let Z393 := Z190 ||| Z35; let Z394 := Z106 ∧ Z340; let Z395 := BitVec.toNat Z392; let Z396 := BitVec.toNat Z391; let Z397 := BitVec.toNat Z393; let Z398 := (↑Z395 : Int); let Z399 := (↑Z397 : Int); let Z400 := (↑Z396 : Int); let Z401 := IntKind.wrap IntKind.i64 Z398; let Z402 := IntKind.wrap IntKind.i64 Z399; let Z403 := IntKind.wrap IntKind.i64 Z400; let Z404 := Z110 ∧ Z390; let Z405 := Value.int IntKind.i64 Z401; let Z406 := Value.int IntKind.i64 Z402; let Z407 := Value.int IntKind.i64 Z403; let Z408 := Z123 ∧ Z394; let Z409 := Z192 = Z194; let Z410 := Z193 = Z192; let Z411 := Z193 = Z196; let Z412 := Z192 = Z196; let Z413 := Z173 ∧ Z341; let Z414 := Z412 ∧ True; let Z415 := Z411 ∧ True; let Z416 := Z189 ||| Z160; let Z417 := Z191 ||| Z161; let Z418 := BitVec.toNat Z416; let Z419 := BitVec.toNat Z417; let Z420 := (↑Z419 : Int); let Z421 := (↑Z418 : Int); let Z422 := IntKind.wrap IntKind.i64 Z420; let Z423 := IntKind.wrap IntKind.i64 Z421; let Z424 := Z220 = Z220; let Z425 := Z219 = Z219; let Z426 := Value.int IntKind.i64 Z423; let Z427 := Value.int IntKind.i64 Z422; let Z428 := Z238 = Z238; let Z429 := Z237 = Z237; let Z430 := Z241 = Z241; let Z431 := Z240 = Z240; let Z432 := Z264 = Z264; let Z433 := Z265 = Z265; let Z434 := Z266 = Z266; let Z435 := Z267 = Z267; let Z436 := Z433 ∧ True; let Z437 := Z275 = Z275; let Z438 := Z281 = Z281; let Z439 := Z279 = Z279; let Z440 := Z277 = Z277; let Z441 := Z274 = Z274; let Z442 := Z276 = Z276; let Z443 := Z286 = Z286; let Z444 := Z284 = Z284; let Z445 := Z323 = Z241; let Z446 := Z322 = Z238; let Z447 := Z439 ∧ True; let Z448 := Z438 ∧ True; let Z449 := Z347 = Z237; let Z450 := Z349 = Z239; let Z451 := Z346 = Z242; let Z452 := Z348 = Z240; let Z453 := Z178 ∧ Z404; let Z454 := Z414 ∧ Z159; let Z455 := Z415 ∧ Z159; let Z456 := True ∧ Z454; let Z457 := True ∧ Z455; let Z458 := Z370 = Z274; let Z459 := Z373 = Z277; let Z460 := Z372 = Z281; let Z461 := Z371 = Z286; let Z462 := Z322 = Z322; let Z463 := Z323 = Z323; let Z464 := Z460 ∧ True; let Z465 := Z388 = Z276; let Z466 := Z385 = Z284; let Z467 := Z384 = Z275; let Z468 := Z383 = Z278; let Z469 := Z389 = Z279; let Z470 := Z387 = Z283; let Z471 := Z386 = Z285; let Z472 := Z382 = Z282; let Z473 := Z171 ∧ Z413; let Z474 := Z469 ∧ True; let Z475 := Z471 ∧ True; let Z476 := Z344 = Z344; let Z477 := Z343 = Z343; let Z478 := Z342 = Z342; let Z479 := Z345 = Z345; let Z480 := Z347 = Z347; let Z481 := Z349 = Z349; let Z482 := Z346 = Z346; let Z483 := Z348 = Z348; let Z484 := Z370 = Z370; let Z485 := Z372 = Z372; let Z486 := Z373 = Z373; let Z487 := Z371 = Z371; let Z488 := Z485 ∧ True; let Z489 := Z406 = Z196; let Z490 := Z405 = Z196; let Z491 := Z407 = Z196; let Z492 := Z491 ∧ True; let Z493 := Z490 ∧ True; let Z494 := Z489 ∧ True; let Z495 := Z375 = Z375; let Z496 := Z378 = Z378; let Z497 := Z381 = Z381; let Z498 := Z377 = Z377; let Z499 := Z374 = Z374; let Z500 := Z380 = Z380; let Z501 := Z379 = Z379; let Z502 := Z376 = Z376; let Z503 := Z383 = Z383; let Z504 := Z382 = Z382; let Z505 := Z388 = Z388; let Z506 := Z389 = Z389; let Z507 := Z387 = Z387; let Z508 := Z385 = Z385; let Z509 := Z386 = Z386; let Z510 := Z384 = Z384; let Z511 := Z495 ∧ True; let Z512 := Z499 ∧ True; let Z513 := Z506 ∧ True; let Z514 := Z509 ∧ True; let Z515 := Z147 ∧ Z473; let Z516 := Z177 ∧ Z453; let Z517 := Z427 = Z194; let Z518 := Z426 = Z192; let Z519 := Z426 = Z196; let Z520 := Z427 = Z196; let Z521 := Z520 ∧ True; let Z522 := Z519 ∧ True; let Z523 := Z493 ∧ Z159; let Z524 := Z494 ∧ Z159; let Z525 := Z492 ∧ Z159; let Z526 := True ∧ Z523; let Z527 := True ∧ Z524; let Z528 := True ∧ Z525; let Z529 := Z112 ∧ Z516; let Z530 := Z148 ∧ Z515; let Z531 := Z530 ∧ True; let Z532 := Z287 → Z456; let Z533 := Z280 → Z457; let Z534 := Z522 ∧ Z159; let Z535 := Z521 ∧ Z159; let Z536 := True ∧ Z534; let Z537 := True ∧ Z535; let Z538 := Z165 → Z527; let Z539 := Z166 → Z528; let Z540 := Z167 → Z526; let Z541 := Z123 ∧ Z531; let Z542 := Z124 ∧ Z531; let Z543 := Z125 ∧ Z531; let Z544 := Z178 ∧ Z529; let Z545 := Z86 ∧ Z541; let Z546 := Z85 ∧ Z542; let Z547 := Z85 ∧ Z543; let Z548 := Z86 ∧ Z543; let Z549 := Z86 ∧ Z542; let Z550 := Z106 ∧ Z545; let Z551 := Z108 ∧ Z549; let Z552 := Z107 ∧ Z548; let Z553 := Z108 ∧ Z546; let Z554 := Z107 ∧ Z547; let Z555 := Z435 ∧ Z436; let Z556 := Z437 ∧ Z447; let Z557 := Z443 ∧ Z448; let Z558 := Z177 ∧ Z544; let Z559 := Z208 ∧ Z538; let Z560 := Z280 → Z536; let Z561 := Z287 → Z537; let Z562 := Z461 ∧ Z464; let Z563 := Z468 ∧ Z475; let Z564 := Z467 ∧ Z474; let Z565 := Z111 ∧ Z558; let Z566 := Z487 ∧ Z488; let Z567 := Z530 ∧ Z408; let Z568 := Z497 ∧ Z512; let Z569 := Z500 ∧ Z511; let Z570 := Z503 ∧ Z514; let Z571 := Z510 ∧ Z513; let Z572 := Z565 ∧ Z170; let Z573 := Z565 ∧ Z169; let Z574 := Z565 ∧ Z168; let Z575 := Z130 ∧ Z567; let Z576 := Z30 ∧ Z574; let Z577 := Z30 ∧ Z572; let Z578 := Z30 ∧ Z573; let Z579 := Z131 ∧ Z575; let Z580 := Z434 ∧ Z555; let Z581 := Z441 ∧ Z557; let Z582 := Z444 ∧ Z556; let Z583 := Z458 ∧ Z562; let Z584 := Z470 ∧ Z563; let Z585 := Z466 ∧ Z564; let Z586 := Z410 ∧ Z577; let Z587 := Z409 ∧ Z578; let Z588 := Z484 ∧ Z566; let Z589 := Z496 ∧ Z569; let Z590 := Z501 ∧ Z568; let Z591 := Z507 ∧ Z570; let Z592 := Z508 ∧ Z571; let Z593 := Z518 ∧ Z577; let Z594 := Z517 ∧ Z578; let Z595 := Z432 ∧ Z580; let Z596 := Z440 ∧ Z581; let Z597 := Z442 ∧ Z582; let Z598 := Z459 ∧ Z583; let Z599 := Z465 ∧ Z585; let Z600 := Z472 ∧ Z584; let Z601 := Z486 ∧ Z588; let Z602 := Z502 ∧ Z589; let Z603 := Z498 ∧ Z590; let Z604 := Z504 ∧ Z591; let Z605 := Z505 ∧ Z592; let Z606 := Z424 ∧ Z595; let Z607 := Z430 ∧ Z596; let Z608 := Z431 ∧ Z597; let Z609 := Z445 ∧ Z598; let Z610 := Z452 ∧ Z599; let Z611 := Z451 ∧ Z600; let Z612 := Z463 ∧ Z601; let Z613 := Z425 ∧ Z606; let Z614 := Z478 ∧ Z603; let Z615 := Z476 ∧ Z602; let Z616 := Z482 ∧ Z604; let Z617 := Z483 ∧ Z605; let Z618 := Z429 ∧ Z608; let Z619 := Z428 ∧ Z607; let Z620 := Z613 ∧ Z137; let Z621 := Z618 ∧ Z137; let Z622 := Z619 ∧ Z137; let Z623 := Z446 ∧ Z609; let Z624 := Z449 ∧ Z610; let Z625 := Z450 ∧ Z611; let Z626 := Z462 ∧ Z612; let Z627 := Z626 ∧ True; let Z628 := Z479 ∧ Z614; let Z629 := Z477 ∧ Z615; let Z630 := Z628 ∧ True; let Z631 := Z629 ∧ True; let Z632 := Z480 ∧ Z617; let Z633 := Z481 ∧ Z616; let Z634 := Z633 ∧ True; let Z635 := Z632 ∧ True; let Z636 := Z623 ∧ Z579; let Z637 := Z624 ∧ Z579; let Z638 := Z625 ∧ Z579; let Z639 := Z133 ∧ Z636; let Z640 := Z22 ∧ Z639; let Z641 := True ∧ Z640; let Z642 := Z133 ∧ Z638; let Z643 := Z133 ∧ Z637; let Z644 := Z22 ∧ Z642; let Z645 := Z22 ∧ Z643; let Z646 := True ∧ Z644; let Z647 := True ∧ Z645; let Z648 := Z587 ∧ Z646; let Z649 := Z586 ∧ Z647; let Z650 := Z594 ∧ Z646; let Z651 := Z593 ∧ Z647; let Z652 := Z648 ∧ Z559; let Z682 := (Z164 → Z142 ∧ True ∧ Z621 ∧ Z553 ∧ True ∧ Z630 ∧ True ∧ (Z292 → Z78 ∧ True ∧ Z621 ∧ Z551 ∧ True ∧ Z634 ∧ True ∧ Z561 ∧ (Z288 → Z650 ∧ Z559)) ∧ (Z295 → True ∧ Z621 ∧ Z551 ∧ True ∧ Z634 ∧ True ∧ Z532 ∧ (Z288 → Z652))) ∧ Z540; (Z9 ≤ at_ ∧ at_ < (↑Z2 : Int)) ∧ Z51 < List.length l ∧ True ∧ True ∧ True ∧ ((Z44 = Z44 ∧ Z30 ∧ Z565 ∧ Z44 = Value.int IntKind.i64 Z3 ∧ True) ∧ True ∧ Z22 ∧ Z133 ∧ (Value.int IntKind.i64 (Prod.fst Z256) = Z219 ∧ Value.int IntKind.i64 (Prod.snd Z256) = Z220 ∧ Value.int IntKind.i64 (Prod.fst Z290) = Z264 ∧ Value.int IntKind.i64 (Prod.snd Z290) = Z266 ∧ Value.int IntKind.i64 (Prod.fst Z291) = Z267 ∧ Value.int IntKind.i64 (Prod.snd Z291) = Z265 ∧ True) ∧ Z579) ∧ (Z151 = true → (Z9 ≤ Z3 ∧ Z3 < Z5) ∧ True ∧ Z620 ∧ (Z106 ∧ Z85 ∧ Z541) ∧ True ∧ ((Z321 = Z321 ∧ Z320 = Z320 ∧ Z366 = Z366 ∧ Z369 = Z369 ∧ Z368 = Z368 ∧ Z367 = Z367 ∧ True) ∧ True) ∧ True ∧ (Z243 = true → Z9 ≤ Z11 ∧ True ∧ Z620 ∧ Z550 ∧ True ∧ Z627 ∧ True ∧ (Z262 → True ∧ (Z64 = Z196 ∧ True) ∧ Z159) ∧ (Z263 → ((Z64 = Z193 ∧ Z576) ∧ Z641) ∧ (Z163 → Z140 ∧ True ∧ Z622 ∧ Z554 ∧ True ∧ Z631 ∧ True ∧ (Z293 → Z79 ∧ True ∧ Z622 ∧ Z552 ∧ True ∧ Z635 ∧ True ∧ Z560 ∧ (Z289 → Z651 ∧ Z682)) ∧ (Z294 → True ∧ Z622 ∧ Z552 ∧ True ∧ Z635 ∧ True ∧ Z533 ∧ (Z289 → Z649 ∧ Z682))) ∧ Z539)) ∧ (Z243 = false → True ∧ Z620 ∧ Z550 ∧ True ∧ Z627 ∧ True ∧ (Z262 → True ∧ (Z44 = Z196 ∧ True) ∧ Z159) ∧ (Z263 → ((Z44 = Z193 ∧ Z576) ∧ Z641) ∧ (Z163 → Z140 ∧ True ∧ Z622 ∧ Z554 ∧ True ∧ Z631 ∧ True ∧ (Z293 → Z79 ∧ True ∧ Z622 ∧ Z552 ∧ True ∧ Z635 ∧ True ∧ Z560 ∧ (Z289 → Z651 ∧ Z682)) ∧ (Z294 → True ∧ Z622 ∧ Z552 ∧ True ∧ Z635 ∧ True ∧ Z533 ∧ (Z289 → Z649 ∧ Z682))) ∧ Z539))) ∧ (Z151 = false → True ∧ (Value.int IntKind.i64 (IntKind.wrap IntKind.i64 Z6) = Z196 ∧ True) ∧ Z159))
    (by kernel_rfl) ?_
  simp only [eq_self, true_and, and_true, Int.toNat_natCast, Nat.zero_add, Nat.sub_zero, Value.int.injEq, Value.bool.injEq, decide_eq_true_eq, decide_eq_false_iff_not]
  obtain ⟨h0, h1, h2⟩ := hx
  have h0' : 0 ≤ at_ := h0
  have h1' : at_ < (l.length : Int) := h1
  refine ⟨⟨h0', h1'⟩, by omega, ?_⟩
  generalize l.getD at_.toNat ((0, 0), (0, 0), 0, 0) = m
  have e1 := left1 m
  have e2 := left2 m
  have e3 := left3 m
  have i1 : IntKind.i64.wrap (((0 : Nat) : Int) + 1) = ((1 : Nat) : Int) := by decide
  have i2 : IntKind.i64.wrap (((1 : Nat) : Int) + 1) = ((2 : Nat) : Int) := by decide
  have i3 : IntKind.i64.wrap (((2 : Nat) : Int) + 1) = ((3 : Nat) : Int) := by decide
  have l0 : ((0 : Nat) : Int) < 3 := by decide
  have l1 : ((1 : Nat) : Int) < 3 := by decide
  have l2 : ((2 : Nat) : Int) < 3 := by decide
  have l3 : ¬ ((3 : Nat) : Int) < 3 := by decide
  simp only [e1, e2, e3, i1, i2, i3, l0, l1, l2, l3, eq_self, true_and, and_true, not_true, not_false_iff, false_implies, true_implies, Bool.not_eq_true', Bool.not_eq_false']
  have f1 := @set1f m
  have g1 := @set1t m
  have f2 := @set2f m
  have g2 := @set2t m
  have f3 := @set3f m
  have g3 := @set3t m
  have c1 := @cls1 m
  have c2 := @cls2 m
  have c3 := @cls3 m
  have c4 := @cls4 m
  clear e1 e2 e3 i1 i2 i3
  revert f1 g1 f2 g2 f3 g3 c1 c2 c3 c4
  generalize classesM m = c
  generalize setM m 1 = s1
  generalize setM m 2 = s2
  generalize setM m 3 = s3
  generalize noneM (andM m (ptM .p0 anyM (fromM 8))) = n0
  generalize noneM (andM (leftM m 1) (ptM .p1 anyM (fromM 14))) = n1
  generalize noneM (andM (leftM m 2) (ptM .p2 anyM (fromM 12))) = n2
  generalize noneM (leftM m 1) = q1
  generalize noneM (leftM m 2) = q2
  generalize noneM (leftM m 3) = q3
  intro f1 g1 f2 g2 f3 g3 c1 c2 c3 c4
  repeat' (first | refine And.intro ?_ ?_ | intro _)
  all_goals first
    | decide
    | refine Eq.symm ?_; first
      | exact f1 (by assumption)
      | exact g1 (by assumption)
      | exact f2 (by assumption)
      | exact g2 (by assumption)
      | exact f3 (by assumption)
      | exact g3 (by assumption)
      | exact (c1 (by assumption)).trans (f1 (by assumption))
      | exact (c1 (by assumption)).trans (g1 (by assumption))
      | exact (c2 (by assumption) (by assumption)).trans (f2 (by assumption))
      | exact (c2 (by assumption) (by assumption)).trans (g2 (by assumption))
      | exact (c3 (by assumption) (by assumption) (by assumption)).trans (f3 (by assumption))
      | exact (c3 (by assumption) (by assumption) (by assumption)).trans (g3 (by assumption))
      | exact c4 (by assumption) (by assumption) (by assumption)

end
theorem classes_sound : Sound Try.prog 40 classesS.con := FSpec.sound _ (enter_of Try.func40 (by kernel_rfl) (by kernel_rfl)) classes_ok
end AE.Soil

namespace AE.Soil
open Go AE Go.Proofs

def classOM (g : GroundT) (at_ : Int) : Int × Int := if openErrM g .place [at_] == 0 then (classesM ((boxesM g).getD at_.toNat m0), 0) else (0, openErrM g .place [at_])
def Tclass : Tab UU := [(33, isPlaceS.con), (32, openAS.con), (40, classesS.con)]
theorem Tclass_ok : Tclass.Sound Try.prog := .cons isPlace_sound (.cons openA_sound (.cons classes_sound .nil))
def classOS : FSpec UU where
  X := GroundT × Int
  pick := fun args H => match args with
    | [a, b] => match avGround H a, avInt b with
      | some a, some b => some (a, b)
      | _, _ => none
    | _ => none
  args := fun x => [vGround x.1 0, .i x.2]
  H := fun x => [.one (.ro .pit x.1.pits)]
  R := fun x => .val ⟨.tup [.i (classOM x.1 x.2).1, .i (classOM x.1 x.2).2], [], [], []⟩
  pre := fun x => x.1.pits.length < 1000000
set_option maxHeartbeats 0 in
set_option maxRecDepth 100000 in
theorem classO_ok : ∀ x, classOS.pre x → FunOk Try.prog 13 (classOS.args x) (classOS.H x) (classOS.R x) := by
  rintro ⟨⟨long, rise, change, ps⟩, at_⟩ hx
  refine fun_ofT (T := Tclass) (L := fun _ => none) (hs := fun _ => []) (sp := fun _ => none) hmix Tclass_ok (tdAt_ok told_ok) (it := fun _ => none) (fun _ _ h => by cases h) Try.func13 (by kernel_rfl) (by kernel_rfl) ?_
  refine Eq.mp (α :=
      let Z0 := GroundT.mk long rise change ps; let Z1 := List.length ps; let Z2 := Value.int IntKind.i64 long; let Z3 := Value.int IntKind.i64 rise; let Z4 := Value.int IntKind.i64 at_; let Z5 := Value.int IntKind.i64 change; let Z7 := nat_lit 0 = nat_lit 0 ∧ nat_lit 1 = nat_lit 1; let Z9 := (0 : Int); let Z11 := (4 : Nat); let Z12 : List Mix3 := boxesM Z0; let Z14 := ps = ps; let Z17 := nat_lit 0 = nat_lit 0 ∧ nat_lit 0 = nat_lit 0 ∧ nat_lit 0 = nat_lit 0; let Z18 := Fn.func (56 : FuncId); let Z20 := Value.int IntKind.i64 Z9; let Z25 := List.length Z12; let Z31 : List Int := [at_]; let Z34 := Value.int IntKind.i64 (Prod.fst (classOM Z0 at_)); let Z35 := (Z9, Z9); let Z36 := Value.int IntKind.i64 (Prod.snd (classOM Z0 at_)); let Z40 := openErrM Z0 Ask.place Z31; let Z44 := Z31 = Z31; let Z47 := Z40 == Z9; let Z49 := Z2 = Z2 ∧ Z3 = Z3 ∧ Z5 = Z5 ∧ (nat_lit 0 = nat_lit 0 ∧ nat_lit 0 = nat_lit 0 ∧ Z1 = Z1) ∧ True; True ∧ (Z49 ∧ True) ∧ (Z14 ∧ True) ∧ (nat_lit 1 = nat_lit 1 ∧ AV.v Z4 = AV.v Z4 ∧ True) ∧ (Z1 < nat_lit 1000000 ∧ nat_lit 1 < nat_lit 1000) ∧ (Z47 = true → (Z49 ∧ (Z18 = Z18 ∧ True ∧ Z17 ∧ True) ∧ (Z11 = Z11 ∧ nat_lit 0 = nat_lit 0 ∧ Z7) ∧ True) ∧ (Z14 ∧ Z49 ∧ Z44 ∧ True) ∧ (Z9 ≤ at_ ∧ at_ < (↑Z25 : Int) ∧ Z25 < nat_lit 1000) ∧ (Z17 ∧ Z4 = Z4 ∧ True) ∧ (Z12 = Z12 ∧ (True ∧ True ∧ True ∧ True ∧ True ∧ (nat_lit 6 = nat_lit 6 ∧ nat_lit 0 = nat_lit 0 ∧ nat_lit 0 = nat_lit 0 ∧ List.length Z12 = Z25) ∧ True) ∧ True) ∧ (true = true → True ∧ True ∧ ((Value.int IntKind.i64 (classesM (List.getD Z12 (Int.toNat at_) (Z35, Z35, Z35))) = Z34 ∧ Z20 = Z36 ∧ True) ∧ True) ∧ True ∧ Z14 ∧ True) ∧ (true = false → False)) ∧ (Z47 = false → (Z49 ∧ (Z18 = Z18 ∧ True ∧ Z17 ∧ True) ∧ (Z11 = Z11 ∧ nat_lit 0 = nat_lit 0 ∧ Z7) ∧ True) ∧ (Z14 ∧ Z49 ∧ Z44 ∧ True) ∧ True ∧ True ∧ ((Z20 = Z34 ∧ Value.int IntKind.i64 Z40 = Z36 ∧ True) ∧ True) ∧ True ∧ Z14 ∧ True))
    (by kernel_rfl) ?_
  simp only [eq_self, true_and, and_true, Int.toNat_natCast, Nat.zero_add, Nat.sub_zero, Value.int.injEq, Value.bool.injEq, decide_eq_true_eq, decide_eq_false_iff_not]
  refine ⟨⟨hx, by decide⟩, fun h => ?_, fun h => ?_⟩
  · obtain ⟨k, rfl, hk⟩ := place_nat h
    have hl : (boxesM ⟨long, rise, change, ps⟩).length = nM ⟨long, rise, change, ps⟩ := stage_len _ 2
    have hn := n_ok (ground_ok (open_ok h).1)
    have e : classOM ⟨long, rise, change, ps⟩ (k : Int) = (classesM ((boxesM ⟨long, rise, change, ps⟩).getD k m0), 0) := by unfold classOM; rw [h]; rfl
    rw [Int.toNat_natCast, e]
    exact ⟨⟨Int.natCast_nonneg _, by omega, by omega⟩, fun _ => ⟨rfl, rfl⟩, fun h => absurd h (by decide)⟩
  · have e : classOM ⟨long, rise, change, ps⟩ at_ = (0, openErrM ⟨long, rise, change, ps⟩ .place [at_]) := by unfold classOM; rw [h]; rfl
    rw [e]; exact ⟨rfl, rfl⟩

theorem classO_sound : Sound Try.prog 13 classOS.con := FSpec.sound _ (enter_of Try.func13 (by kernel_rfl) (by kernel_rfl)) classO_ok
end AE.Soil

namespace AE.Soil
open Go AE Go.Proofs

def openBL (g : GroundT) (l : List Int) : LSpec UU where
  T := { i : Nat // i ≤ l.length ∧ (l.take i).all (askM .cls g.long) = true }
  fr := fun i => [(1, .fn (.func 47) [] []), (3, .ptr 2 0 0 0), (14, .sl 1 0 0 l.length), (15, .i l.length), (16, .i i.1)]
  H := fun _ => [.one (.ro .pit g.pits), .one (.ro .int l), .one (.cells (cGround g 0) 24)]
  mu := fun i => l.length - i.1
def openBS : FSpec2 UU where
  X := GroundT × List Int
  pick := fun args H => match args with
    | [a, .fn (.func 47) [] [], l] => match avGround H a, sliceAt .int H l with
      | some a, some l => some (a, l)
      | _, _ => none
    | _ => none
  args := fun x => [vGround x.1 0, .fn (.func 47) [] [], .sl 1 0 0 x.2.length]
  H := fun x => [.one (.ro .pit x.1.pits), .one (.ro .int x.2)]
  c := fun x => openErrM x.1 .cls x.2 == 0
  R := fun x => .val ⟨.ptr 4 0 0 0, [], [], [.row .span (hardsM x.1 (nM x.1)) 28, .row .mix (boxesM x.1) 80, .cells [.i x.1.long, .i x.1.rise, .i x.1.change, .sl 0 0 0 x.1.pits.length, .gs 2 0, .gs 3 0] 71]⟩
  R' := fun x => .panic (failV (openErrM x.1 .cls x.2))
  pre := fun x => x.1.pits.length < 1000000 ∧ x.2.length < 1000
set_option maxHeartbeats 0 in
set_option maxRecDepth 100000 in
theorem openB_ok : ∀ x, openBS.pre x → (openBS.c x = true → FunOk Try.prog 32 (openBS.args x) (openBS.H x) (openBS.R x)) ∧ (openBS.c x = false → FunOk Try.prog 32 (openBS.args x) (openBS.H x) (openBS.R' x)) := by
  rintro ⟨⟨long, rise, change, ps⟩, l⟩ hx
  refine fun_of2 (T := Topen) (L := fun _ => some (.inv (openBL ⟨long, rise, change, ps⟩ l))) (hs := fun _ => []) (sp := fun _ => none) hmix Topen_ok (td := fun _ => none) (fun _ _ h => by cases h) (it := fun _ => none) (fun _ _ h => by cases h) Try.func32 (by kernel_rfl) (by kernel_rfl) ?_
  refine Eq.mp (α :=
      let Z0 := List.length l; let Z1 := Value.bool true; let Z2 := Value.bool false; let Z3 := GroundT.mk long rise change ps; let Z4 := List.length ps; let Z5 := Value.int IntKind.i64 change; let Z6 := Value.int IntKind.i64 long; let Z7 := Value.int IntKind.i64 rise; let Z9 := (0 : Int); let Z10 := (1 : Int); let Z17 := groundM Z3; let Z19 := l = l; let Z20 := (28 : TypeId); let Z21 := ps = ps; let Z22 := (47 : FuncId); let Z23 := (80 : TypeId); let Z24 := (104 : TypeId); let Z27 := nat_lit 0 = nat_lit 0 ∧ nat_lit 0 = nat_lit 0 ∧ nat_lit 0 = nat_lit 0; let Z28 := (↑Z0 : Int); let Z29 := openErrM Z3 Ask.cls l; let Z32 := Value.bool Z17; let Z34 := Value.int IntKind.i64 Z10; let Z35 := Value.int IntKind.i64 (2 : Int); let Z37 := Value.int IntKind.i64 (10 : Int); let Z45 := Value.int IntKind.i64 Z28; let Z46 := Value.int IntKind.i64 Z29; let Z50 := Z24 = Z24; let Z59 := Fn.func Z22 = Fn.func Z22 ∧ True ∧ True; let Z62 := Z37 = Z37 ∧ True; let Z63 := Z29 == Z9; let Z67 := Z63 = true; let Z68 := Z63 = false; let Z70 := Z67 → False; let Z73 : Type := { i : Nat // i ≤ Z0 ∧ List.all (List.take i l) (askM Ask.cls (GroundT.long Z3)) = true }; let Z74 := fun (x : Z73) => Subtype.val x; let Z77 := fun (x : Z73) => (↑(Z74 x) : Int); let Z83 := fun (x : Z73) => Z0 - Z74 x; let Z85 := fun (t : Z73) => nat_lit 0 + Int.toNat (Z77 t); let Z88 := (Z6 = Z6 ∧ Z7 = Z7 ∧ Z5 = Z5 ∧ (nat_lit 0 = nat_lit 0 ∧ nat_lit 0 = nat_lit 0 ∧ Z4 = Z4) ∧ True) ∧ True; let Z89 := fun (t : Z73) => List.getD l (Z85 t) Z9; let Z95 := fun (t : Z73) => inM (Z89 t) Z9 (3 : Int); let Z96 := fun (t : Z73) => Value.bool (Z95 t); let Z97 := fun (t : Z73) => decide (Z77 t < Z28); Z4 < nat_lit 1000000 ∧ Z88 ∧ (Z21 ∧ True) ∧ True ∧ (Z17 = true → (Z32 = Z32 ∧ Z34 = Z34 ∧ True) ∧ True ∧ (∃ (x : Z73), (Z59 ∧ Z27 ∧ (nat_lit 0 = nat_lit 0 ∧ nat_lit 0 = nat_lit 0 ∧ Z0 = Z0) ∧ Z45 = Z45 ∧ Value.int IntKind.i64 Z9 = Value.int IntKind.i64 (Z77 x) ∧ True) ∧ True ∧ Z21 ∧ Z19 ∧ Z88) ∧ ∀ (t : Z73), (Z97 t = true → (Z9 ≤ Z77 t ∧ Z77 t < Z28) ∧ Z85 t < List.length l ∧ True ∧ (Value.int IntKind.i64 (Z89 t) = Value.int IntKind.i64 (Z89 t) ∧ True) ∧ True ∧ True ∧ (Z95 t = true → (Z96 t = Z96 t ∧ Z35 = Z35 ∧ True) ∧ True ∧ True ∧ ∃ (x : Z73), ((Z59 ∧ Z27 ∧ (nat_lit 0 = nat_lit 0 ∧ nat_lit 0 = nat_lit 0 ∧ Z0 = Z0) ∧ Z45 = Z45 ∧ Value.int IntKind.i64 (IntKind.wrap IntKind.i64 (Z77 t + Z10)) = Value.int IntKind.i64 (Z77 x) ∧ True) ∧ True ∧ Z21 ∧ Z19 ∧ Z88) ∧ Z83 x < Z83 t) ∧ (Z95 t = false → (Z96 t = Z96 t ∧ Z35 = Z35 ∧ True) ∧ True ∧ Z70 ∧ (Z68 → True ∧ Z50 ∧ Z35 = Z46 ∧ True))) ∧ (Z97 t = false → Z17 = true ∧ (lookM Z3 = true → Z88 ∧ (Z21 ∧ True) ∧ True ∧ (true = true → (Z1 = Z1 ∧ Z62) ∧ True ∧ (Z67 → True ∧ (Z27 ∧ True) ∧ True ∧ Z21 ∧ Z19 ∧ (Z20 = Z20 ∧ hardsM Z3 (nM Z3) = hardsM Z3 (nM Z3)) ∧ (Z23 = Z23 ∧ boxesM Z3 = boxesM Z3) ∧ (Z6 = Z6 ∧ Z7 = Z7 ∧ Z5 = Z5 ∧ (nat_lit 0 = nat_lit 0 ∧ nat_lit 0 = nat_lit 0 ∧ Z4 = Z4) ∧ nat_lit 0 = nat_lit 0 ∧ nat_lit 0 = nat_lit 0 ∧ True) ∧ True) ∧ (Z68 → False)) ∧ (true = false → (Z1 = Z1 ∧ Z62) ∧ True ∧ Z70 ∧ (Z68 → True ∧ Z50 ∧ Z37 = Z46 ∧ True))) ∧ (lookM Z3 = false → Z88 ∧ (Z21 ∧ True) ∧ True ∧ (false = true → (Z2 = Z2 ∧ Z62) ∧ True ∧ (Z67 → True ∧ (False ∧ True) ∧ True ∧ Z21 ∧ Z19 ∧ False ∧ False ∧ False ∧ True) ∧ (Z68 → False)) ∧ (false = false → (Z2 = Z2 ∧ Z62) ∧ True ∧ Z70 ∧ (Z68 → True ∧ Z50 ∧ Z37 = Z46 ∧ True))))) ∧ (Z17 = false → (Z32 = Z32 ∧ Z34 = Z34 ∧ True) ∧ True ∧ Z70 ∧ (Z68 → True ∧ Z50 ∧ Z34 = Z46 ∧ True)))
    (by kernel_rfl) ?_
  simp only [eq_self, true_and, and_true, Int.toNat_natCast, Nat.zero_add, Nat.sub_zero, Value.int.injEq, Value.bool.injEq, decide_eq_true_eq, decide_eq_false_iff_not]
  obtain ⟨hl1, hl2⟩ := hx
  have hl2' : l.length < 1000 := hl2
  refine ⟨hl1, fun hg => ⟨⟨⟨0, Nat.zero_le _, rfl⟩, rfl⟩, fun t => ⟨fun ht => ?_, fun ht => ⟨hg, fun hk => ?_, fun hk => ?_⟩⟩⟩, fun hg => ?_⟩
  · obtain ⟨i, hi, ha⟩ := t
    have hlt : i < l.length := by have h0 : (i : Int) < (l.length : Int) := ht; omega
    refine ⟨⟨Int.natCast_nonneg _, ht⟩, hlt, fun h => ⟨⟨i + 1, hlt, ask_suc hlt ha h⟩, sucI i (by omega), dec1 hlt⟩, fun h => ?_⟩
    rw [open_range (a := .cls) hg hlt h]
    exact ⟨fun h => absurd h (by decide), fun _ => rfl⟩
  · obtain ⟨i, hi, ha⟩ := t
    have hie : i = l.length := by have h0 : ¬ (i : Int) < (l.length : Int) := ht; omega
    rw [hie, List.take_length] at ha
    rw [open_look (a := .cls) hg ha, hk]
    exact ⟨fun _ => ⟨fun _ => trivial, fun h => absurd h (by decide)⟩, fun h => absurd h (by decide)⟩
  · obtain ⟨i, hi, ha⟩ := t
    have hie : i = l.length := by have h0 : ¬ (i : Int) < (l.length : Int) := ht; omega
    rw [hie, List.take_length] at ha
    rw [open_look (a := .cls) hg ha, hk]
    exact ⟨fun h => absurd h (by decide), fun _ => ⟨fun h => absurd h (by decide), fun _ => rfl⟩⟩
  · rw [open_arg hg]
    exact ⟨fun h => absurd h (by decide), fun _ => rfl⟩

theorem openB_sound : Sound Try.prog 32 openBS.con := FSpec2.sound _ (enter_of Try.func32 (by kernel_rfl) (by kernel_rfl)) openB_ok
end AE.Soil

namespace AE.Soil
open Go AE Go.Proofs

structure WQ where
  n : Int
  long : Int
  rise : Int
  change : Int
  from_ : Int
  to : Int
def avTri (H : Heap UU) : AV → Option (Int × Int × Int)
  | .fn (.func 56) [] [.ptr id k 0 0] => match blkAt H id k with
    | some (.cells [b, c, d, _] _) => match avInt b, avInt c, avInt d with
      | some b, some c, some d => some (b, c, d)
      | _, _, _ => none
    | some (.rc [b, c, d, _] _) => match avInt b, avInt c, avInt d with
      | some b, some c, some d => some (b, c, d)
      | _, _, _ => none
    | _ => none
  | _ => none
def spanOkM (a b : Int) : Bool := decide (a ≤ b)
def workS : FSpec UU where
  X := WQ
  pick := fun args H => match args with
    | [n, p, a, b] => match avInt n, avCell H p, avCell H a, avCell H b with
      | some n, some p, some a, some b => match avTri H p, avInt a, avInt b with
        | some (l, r, c), some a, some b => some ⟨n, l, r, c, a, b⟩
        | _, _, _ => none
      | _, _, _, _ => none
    | _ => none
  args := fun x => [.i x.n, .ptr 0 0 0 0, .ptr 1 0 0 0, .ptr 2 0 0 0]
  H := fun x => [.one (.rc [.fn (.func 56) [] [.ptr 3 0 0 0]] 74), .one (.rc [.i x.from_] 3), .one (.rc [.i x.to] 3), .one (.rc [.i x.long, .i x.rise, .i x.change, .junk] 24)]
  R := fun x => .val ⟨.b (inM x.n 0 x.long && spanOkM x.from_ x.to), [], [], []⟩
def Twork1 : Tab UU := [(56, placeS.con)]
theorem Twork1_ok : Twork1.Sound Try.prog := .cons place_sound .nil
set_option maxRecDepth 100000 in
theorem work1_ok : ∀ x, workS.pre x → FunOk Try.prog 42 (workS.args x) (workS.H x) (workS.R x) := by
  rintro ⟨n, l, r, c, a, b⟩ _
  refine fun_of (T := Twork1) (L := fun _ => none) (hs := fun _ => []) hmix Twork1_ok Try.func42 (by kernel_rfl) (by kernel_rfl) ?_
  refine Eq.mp (α :=
      let Z0 := Value.int IntKind.i64 c; let Z1 := Value.int IntKind.i64 r; let Z2 := Value.int IntKind.i64 l; let Z3 := Value.int IntKind.i64 b; let Z4 := Value.int IntKind.i64 a; let Z8 := nat_lit 0 = nat_lit 0 ∧ nat_lit 0 = nat_lit 0 ∧ nat_lit 0 = nat_lit 0; let Z9 := inM n (0 : Int) l; let Z10 := Fn.func (56 : FuncId); let Z13 := Z2 = Z2; let Z16 := Z1 = Z1; let Z20 := Z9 && spanOkM a b; let Z21 := Z0 = Z0 ∧ True ∧ True; True ∧ (Value.int IntKind.i64 n = Value.int IntKind.i64 n ∧ Z8 ∧ True) ∧ ((Z13 ∧ Z16 ∧ Z21) ∧ True) ∧ (Z9 = true → True ∧ (Value.bool (decide (a ≤ b)) = Value.bool Z20 ∧ True) ∧ True ∧ ((Z10 = Z10 ∧ True ∧ Z8 ∧ True) ∧ True) ∧ (Z4 = Z4 ∧ True) ∧ (Z3 = Z3 ∧ True) ∧ (Z13 ∧ Z16 ∧ Z21) ∧ True) ∧ (Z9 = false → True ∧ (Value.bool Z20 = Value.bool false ∧ True) ∧ True ∧ ((Z10 = Z10 ∧ True ∧ Z8 ∧ True) ∧ True) ∧ (Z4 = Z4 ∧ True) ∧ (Z3 = Z3 ∧ True) ∧ (Z13 ∧ Z16 ∧ Z21) ∧ True))
    (by kernel_rfl) ?_
  simp [spanOkM]
  exact ⟨fun h _ => h, fun h h' => by rw [h] at h'; cases h'⟩

theorem work1_sound : Sound Try.prog 42 workS.con := FSpec.sound _ (enter_of Try.func42 (by kernel_rfl) (by kernel_rfl)) work1_ok
end AE.Soil

namespace AE.Soil
open Go AE Go.Proofs

structure OC where
  g : GroundT
  l : List Int
  f : Int
  t : Int
def openCL (g : GroundT) (l : List Int) (f t : Int) : LSpec UU where
  T := { i : Nat // i ≤ l.length ∧ (l.take i).all (askM (.span (spanOkM f t)) g.long) = true }
  fr := fun i => [(1, .fn (.func 42) [] [.ptr 2 0 0 0, .ptr 3 0 0 0, .ptr 4 0 0 0]), (3, .ptr 6 0 0 0), (14, .sl 5 0 0 l.length), (15, .i l.length), (16, .i i.1)]
  H := fun _ => [.one (.ro .pit g.pits), .one (.rc (cGround g 0) 24), .one (.rc [.fn (.func 56) [] [.ptr 1 0 0 0]] 74), .one (.rc [.i f] 3), .one (.rc [.i t] 3), .one (.ro .int l), .one (.cells (cGround g 0) 24)]
  mu := fun i => l.length - i.1
def openCS : FSpec2 UU where
  X := OC
  pick := fun args H => match args with
    | [a, .fn (.func 42) [] [_, f, t], l] => match avGround H a, sliceAt .int H l, avCell H f, avCell H t with
      | some a, some l, some f, some t => match avInt f, avInt t with
        | some f, some t => some ⟨a, l, f, t⟩
        | _, _ => none
      | _, _, _, _ => none
    | _ => none
  args := fun x => [vGround x.g 0, .fn (.func 42) [] [.ptr 2 0 0 0, .ptr 3 0 0 0, .ptr 4 0 0 0], .sl 5 0 0 x.l.length]
  H := fun x => [.one (.ro .pit x.g.pits), .one (.rc (cGround x.g 0) 24), .one (.rc [.fn (.func 56) [] [.ptr 1 0 0 0]] 74), .one (.rc [.i x.f] 3), .one (.rc [.i x.t] 3), .one (.ro .int x.l)]
  c := fun x => openErrM x.g (.span (spanOkM x.f x.t)) x.l == 0
  R := fun x => .val ⟨.ptr 8 0 0 0, [], [], [.row .span (hardsM x.g (nM x.g)) 28, .row .mix (boxesM x.g) 80, .cells [.i x.g.long, .i x.g.rise, .i x.g.change, .sl 0 0 0 x.g.pits.length, .gs 6 0, .gs 7 0] 71]⟩
  R' := fun x => .panic (failV (openErrM x.g (.span (spanOkM x.f x.t)) x.l))
  pre := fun x => x.g.pits.length < 1000000 ∧ x.l.length < 1000
def TopenC : Tab UU := [(51, isGroundS.con), (50, mustS.con), (52, lookS.con), (42, workS.con)]
theorem TopenC_ok : TopenC.Sound Try.prog := .cons isGround_sound (.cons must_sound (.cons look_sound (.cons work1_sound .nil)))
set_option maxHeartbeats 0 in
set_option maxRecDepth 100000 in
theorem openC_ok : ∀ x, openCS.pre x → (openCS.c x = true → FunOk Try.prog 32 (openCS.args x) (openCS.H x) (openCS.R x)) ∧ (openCS.c x = false → FunOk Try.prog 32 (openCS.args x) (openCS.H x) (openCS.R' x)) := by
  rintro ⟨⟨long, rise, change, ps⟩, l, f, t⟩ hx
  refine fun_of2 (T := TopenC) (L := fun _ => some (.inv (openCL ⟨long, rise, change, ps⟩ l f t))) (hs := fun _ => []) (sp := fun _ => none) hmix TopenC_ok (td := fun _ => none) (fun _ _ h => by cases h) (it := fun _ => none) (fun _ _ h => by cases h) Try.func32 (by kernel_rfl) (by kernel_rfl) ?_
  refine Eq.mp (α :=
      let Z0 := spanOkM f t; let Z1 := List.length l; let Z2 := Value.bool true; let Z3 := Value.bool false; let Z4 := GroundT.mk long rise change ps; let Z5 := List.length ps; let Z6 := Value.int IntKind.i64 change; let Z7 := Value.int IntKind.i64 f; let Z8 := Value.int IntKind.i64 rise; let Z9 := Value.int IntKind.i64 t; let Z10 := Value.int IntKind.i64 long; let Z11 := Ask.span Z0; let Z12 := nat_lit 0 = nat_lit 0 ∧ nat_lit 0 = nat_lit 0; let Z13 := (0 : Int); let Z14 := (2 : Int); let Z15 := (1 : Int); let Z16 := nM Z4; let Z17 := (10 : Int); let Z18 := lookM Z4; let Z19 : List Mix3 := boxesM Z4; let Z20 := GroundT.long Z4; let Z21 := groundM Z4; let Z22 := (56 : FuncId); let Z23 := l = l; let Z24 := (28 : TypeId); let Z25 := (42 : FuncId); let Z26 := (80 : TypeId); let Z27 := ps = ps; let Z28 := (104 : TypeId); let Z29 := fun (i : Nat) => i ≤ Z1; let Z31 := nat_lit 0 = nat_lit 0 ∧ Z12; let Z32 := (↑Z1 : Int); let Z33 := Fn.func Z25; let Z35 := Value.bool Z21; let Z38 := Value.int IntKind.i64 Z15; let Z39 := Value.int IntKind.i64 Z14; let Z41 := Value.int IntKind.i64 Z17; let Z43 := Z31 ∧ True; let Z45 := Z8 = Z8; let Z47 := Z10 = Z10; let Z49 := Z6 = Z6; let Z53 := Value.int IntKind.i64 Z32; let Z54 := Z9 = Z9 ∧ True; let Z55 := openErrM Z4 Z11 l; let Z56 := Z7 = Z7 ∧ True; let Z59 := Value.int IntKind.i64 Z55; let Z60 := Z28 = Z28; let Z74 := Z41 = Z41 ∧ True; let Z76 := Z55 == Z13; let Z82 := Z76 = true; let Z84 := Z76 = false; let Z86 := (Fn.func Z22 = Fn.func Z22 ∧ True ∧ Z43) ∧ True; let Z87 := Z82 → False; let Z91 : Type := { i : Nat // Z29 i ∧ List.all (List.take i l) (askM Z11 Z20) = true }; let Z92 := fun (x : Z91) => Subtype.val x; let Z94 := fun (x : Z91) => (↑(Z92 x) : Int); let Z99 := fun (x : Z91) => Z1 - Z92 x; let Z102 := fun (t : Z91) => nat_lit 0 + Int.toNat (Z94 t); let Z103 := Z47 ∧ Z45 ∧ Z49 ∧ (nat_lit 0 = nat_lit 0 ∧ nat_lit 0 = nat_lit 0 ∧ Z5 = Z5) ∧ True; let Z105 := Z103 ∧ True; let Z107 := fun (t : Z91) => List.getD l (Z102 t) Z13; let Z109 := fun (t : Z91) => inM (Z107 t) Z13 long; let Z112 := fun (t : Z91) => Value.bool (Z109 t && Z0); let Z115 := fun (t_1 : Z91) => decide (Z94 t_1 < Z32); Z5 < nat_lit 1000000 ∧ Z105 ∧ (Z27 ∧ True) ∧ True ∧ (Z21 = true → (Z35 = Z35 ∧ Z38 = Z38 ∧ True) ∧ True ∧ (∃ (x : Z91), ((Z33 = Z33 ∧ True ∧ Z31 ∧ Z31 ∧ Z43) ∧ Z31 ∧ (nat_lit 0 = nat_lit 0 ∧ nat_lit 0 = nat_lit 0 ∧ Z1 = Z1) ∧ Z53 = Z53 ∧ Value.int IntKind.i64 Z13 = Value.int IntKind.i64 (Z94 x) ∧ True) ∧ True ∧ Z27 ∧ Z103 ∧ Z86 ∧ Z56 ∧ Z54 ∧ Z23 ∧ Z105) ∧ ∀ (t_1 : Z91), (Z115 t_1 = true → (Z13 ≤ Z94 t_1 ∧ Z94 t_1 < Z32) ∧ Z102 t_1 < List.length l ∧ True ∧ (Value.int IntKind.i64 (Z107 t_1) = Value.int IntKind.i64 (Z107 t_1) ∧ Z31 ∧ Z31 ∧ Z43) ∧ (Z86 ∧ Z56 ∧ Z54 ∧ (Z47 ∧ Z45 ∧ Z49 ∧ True ∧ True) ∧ True) ∧ True ∧ ((Z109 t_1 && Z0) = true → (Z112 t_1 = Z112 t_1 ∧ Z39 = Z39 ∧ True) ∧ True ∧ True ∧ ∃ (x : Z91), (((Z33 = Z33 ∧ True ∧ Z31 ∧ Z31 ∧ Z43) ∧ Z31 ∧ (nat_lit 0 = nat_lit 0 ∧ nat_lit 0 = nat_lit 0 ∧ Z1 = Z1) ∧ Z53 = Z53 ∧ Value.int IntKind.i64 (IntKind.wrap IntKind.i64 (Z94 t_1 + Z15)) = Value.int IntKind.i64 (Z94 x) ∧ True) ∧ True ∧ Z27 ∧ Z103 ∧ Z86 ∧ Z56 ∧ Z54 ∧ Z23 ∧ Z105) ∧ Z99 x < Z99 t_1) ∧ ((Z109 t_1 && Z0) = false → (Z112 t_1 = Z112 t_1 ∧ Z39 = Z39 ∧ True) ∧ True ∧ Z87 ∧ (Z84 → True ∧ Z60 ∧ Z39 = Z59 ∧ True))) ∧ (Z115 t_1 = false → Z21 = true ∧ (Z18 = true → Z105 ∧ (Z27 ∧ True) ∧ True ∧ (true = true → (Z2 = Z2 ∧ Z74) ∧ True ∧ (Z82 → True ∧ Z43 ∧ True ∧ Z27 ∧ Z103 ∧ Z86 ∧ Z56 ∧ Z54 ∧ Z23 ∧ (Z24 = Z24 ∧ hardsM Z4 Z16 = hardsM Z4 Z16) ∧ (Z26 = Z26 ∧ Z19 = Z19) ∧ (Z47 ∧ Z45 ∧ Z49 ∧ (nat_lit 0 = nat_lit 0 ∧ nat_lit 0 = nat_lit 0 ∧ Z5 = Z5) ∧ nat_lit 0 = nat_lit 0 ∧ nat_lit 0 = nat_lit 0 ∧ True) ∧ True) ∧ (Z84 → False)) ∧ (true = false → (Z2 = Z2 ∧ Z74) ∧ True ∧ Z87 ∧ (Z84 → True ∧ Z60 ∧ Z41 = Z59 ∧ True))) ∧ (Z18 = false → Z105 ∧ (Z27 ∧ True) ∧ True ∧ (false = true → (Z3 = Z3 ∧ Z74) ∧ True ∧ (Z82 → True ∧ (False ∧ True) ∧ True ∧ Z27 ∧ Z103 ∧ Z86 ∧ Z56 ∧ Z54 ∧ Z23 ∧ False ∧ False ∧ False ∧ True) ∧ (Z84 → False)) ∧ (false = false → (Z3 = Z3 ∧ Z74) ∧ True ∧ Z87 ∧ (Z84 → True ∧ Z60 ∧ Z41 = Z59 ∧ True))))) ∧ (Z21 = false → (Z35 = Z35 ∧ Z38 = Z38 ∧ True) ∧ True ∧ Z87 ∧ (Z84 → True ∧ Z60 ∧ Z38 = Z59 ∧ True)))
    (by kernel_rfl) ?_
  simp only [eq_self, true_and, and_true, Int.toNat_natCast, Nat.zero_add, Nat.sub_zero, Value.int.injEq, Value.bool.injEq, decide_eq_true_eq, decide_eq_false_iff_not]
  obtain ⟨hl1, hl2⟩ := hx
  have hl2' : l.length < 1000 := hl2
  refine ⟨hl1, fun hg => ⟨⟨⟨0, Nat.zero_le _, rfl⟩, rfl⟩, fun tt => ⟨fun ht => ?_, fun ht => ⟨hg, fun hk => ?_, fun hk => ?_⟩⟩⟩, fun hg => ?_⟩
  · obtain ⟨i, hi, ha⟩ := tt
    have hlt : i < l.length := by have h0 : (i : Int) < (l.length : Int) := ht; omega
    refine ⟨⟨Int.natCast_nonneg _, ht⟩, hlt, fun h => ⟨⟨i + 1, hlt, ask_suc hlt ha h⟩, sucI i (by omega), dec1 hlt⟩, fun h => ?_⟩
    rw [open_range (a := .span (spanOkM f t)) hg hlt h]
    exact ⟨fun h => absurd h (by decide), fun _ => rfl⟩
  · obtain ⟨i, hi, ha⟩ := tt
    have hie : i = l.length := by have h0 : ¬ (i : Int) < (l.length : Int) := ht; omega
    rw [hie, List.take_length] at ha
    rw [open_look (a := .span (spanOkM f t)) hg ha, hk]
    exact ⟨fun _ => ⟨fun _ => trivial, fun h => absurd h (by decide)⟩, fun h => absurd h (by decide)⟩
  · obtain ⟨i, hi, ha⟩ := tt
    have hie : i = l.length := by have h0 : ¬ (i : Int) < (l.length : Int) := ht; omega
    rw [hie, List.take_length] at ha
    rw [open_look (a := .span (spanOkM f t)) hg ha, hk]
    exact ⟨fun h => absurd h (by decide), fun _ => ⟨fun h => absurd h (by decide), fun _ => rfl⟩⟩
  · rw [open_arg hg]
    exact ⟨fun h => absurd h (by decide), fun _ => rfl⟩

theorem openC_sound : Sound Try.prog 32 openCS.con := FSpec2.sound _ (enter_of Try.func32 (by kernel_rfl) (by kernel_rfl)) openC_ok
end AE.Soil

namespace AE.Soil
open Go AE Go.Proofs

def workNM (a b : Int) : Nat := (W (b + 1)).toNat - a.toNat
def workAtM (g : GroundT) (a : Int) : Nat → Span
  | 0 => (0, 0)
  | i + 1 => (W ((workAtM g a i).1 + ((hardsM g (nM g)).getD (a.toNat + i) (0, 0)).1), W ((workAtM g a i).2 + ((hardsM g (nM g)).getD (a.toNat + i) (0, 0)).2))
def workErrM (g : GroundT) (a b : Int) : Int := openErrM g (.span (spanOkM a b)) [a, b]
def workOM (g : GroundT) (a b : Int) : Span × Int := if workErrM g a b == 0 then (workAtM g a (workNM a b), 0) else ((0, 0), workErrM g a b)
def workL (g : GroundT) (a b : Int) : LSpec UU where
  T := { i : Nat // i ≤ workNM a b }
  fr := fun i => [(6, .ptr 4 0 0 0), (7, .ptr 5 0 0 0), (27, .sl 9 0 a.toNat (workNM a b)), (28, .i (workNM a b : Nat)), (29, .i i.1)]
  H := fun i => [.one (.ro .pit g.pits), .none, .none, .none, .one (.cells [.i (workAtM g a i.1).1, .i (workAtM g a i.1).2] 28), .one (.cells [.i 0] 29), .none, .none, .none, .one (.row .span (hardsM g (nM g)) 28)]
  mu := fun i => workNM a b - i.1
def Twork : Tab UU := [(33, isPlaceS.con), (32, openCS.con)]
theorem Twork_ok : Twork.Sound Try.prog := .cons isPlace_sound (.cons openC_sound .nil)
def workOS : FSpec UU where
  X := GroundT × Int × Int
  pick := fun args H => match args with
    | [a, b, c] => match avGround H a, avInt b, avInt c with
      | some a, some b, some c => some (a, b, c)
      | _, _, _ => none
    | _ => none
  args := fun x => [vGround x.1 0, .i x.2.1, .i x.2.2]
  H := fun x => [.one (.ro .pit x.1.pits)]
  R := fun x => .val ⟨.tup [vSpan (workOM x.1 x.2.1 x.2.2).1, .i (workOM x.1 x.2.1 x.2.2).2], [], [], []⟩
  pre := fun x => x.1.pits.length < 1000000
set_option maxHeartbeats 0 in
set_option maxRecDepth 100000 in
theorem workO_ok : ∀ x, workOS.pre x → FunOk Try.prog 15 (workOS.args x) (workOS.H x) (workOS.R x) := by
  rintro ⟨⟨long, rise, change, ps⟩, a, b⟩ hx
  refine fun_ofT (T := Twork) (L := fun _ => some (.inv (workL ⟨long, rise, change, ps⟩ a b))) (hs := fun _ => []) (sp := fun _ => none) hmix Twork_ok (tdAt_ok told_ok) (it := fun _ => none) (fun _ _ h => by cases h) Try.func15 (by kernel_rfl) (by kernel_rfl) ?_
  refine Eq.mp (α :=
      let Z0 := Int.toNat a; let Z1 := workNM a b; let Z2 := spanOkM a b; let Z3 := GroundT.mk long rise change ps; let Z4 := Value.int IntKind.i64 a; let Z5 := List.length ps; let Z6 := Value.int IntKind.i64 long; let Z7 := Value.int IntKind.i64 b; let Z8 := Value.int IntKind.i64 rise; let Z9 := Value.int IntKind.i64 change; let Z10 := Ask.span Z2; let Z11 := nat_lit 0 = nat_lit 0 ∧ nat_lit 2 = nat_lit 2; let Z12 := nat_lit 0 = nat_lit 0 ∧ nat_lit 0 = nat_lit 0; let Z13 := (0 : Int); let Z14 := (1 : Int); let Z15 := AV.v Z7; let Z16 := AV.v Z4; let Z17 := nM Z3; let Z18 : List Int := []; let Z19 := (8 : Nat); let Z20 := (5 : Nat); let Z21 := (42 : FuncId); let Z22 := (28 : TypeId); let Z23 := ps = ps; let Z24 := (56 : FuncId); let Z25 := fun (i : Nat) => i ≤ Z1; let Z26 := workOM Z3 a b; let Z27 := (↑Z1 : Int); let Z28 := nat_lit 0 = nat_lit 0 ∧ Z12; let Z29 := nat_lit 0 = nat_lit 0 ∧ Z11; let Z30 := AV.ptr Z20 (nat_lit 0) (nat_lit 0) (nat_lit 0); let Z31 := Fn.func Z24; let Z34 := Value.int IntKind.i64 Z13; let Z35 := Z28 ∧ True; let Z43 : Type := { i : Nat // Z25 i }; let Z45 := Prod.fst Z26; let Z46 := Fn.func (nat_lit 42) = Fn.func Z21; let Z49 := Value.int IntKind.i64 Z27; let Z51 : List Span := hardsM Z3 Z17; let Z54 := fun (x : Z43) => Subtype.val x; let Z63 := Value.int IntKind.i64 (Prod.snd Z26); let Z66 := fun (x : Z43) => (↑(Z54 x) : Int); let Z69 := List.length Z51; let Z70 := Value.int IntKind.i64 (Prod.snd Z45); let Z71 : List Int := a :: b :: Z18; let Z72 := Value.int IntKind.i64 (Prod.fst Z45); let Z73 := IntKind.wrap IntKind.i64 (b + Z14); let Z77 := fun (x : Z43) => workAtM Z3 a (Z54 x); let Z85 := fun (x : Z43) => Z1 - Z54 x; let Z86 : List DfE := [DfE.call (Fn.func (nat_lit 31)) [] [Z30]]; let Z88 := fun (x : Z43) => Value.int IntKind.i64 (Prod.snd (Z77 x)); let Z89 := fun (x : Z43) => Value.int IntKind.i64 (Prod.fst (Z77 x)); let Z93 := fun (t : Z43) => Z0 + Int.toNat (Z66 t); let Z94 := Z51 = Z51; let Z95 := openErrM Z3 Z10 Z71; let Z98 := Int.toNat Z73 - Z0; let Z101 := Z71 = Z71; let Z104 := Z95 == Z13; let Z109 := Z6 = Z6 ∧ Z8 = Z8 ∧ Z9 = Z9 ∧ (nat_lit 0 = nat_lit 0 ∧ nat_lit 0 = nat_lit 0 ∧ Z5 = Z5) ∧ True; let Z112 := fun (t : Z43) => decide (Z66 t < Z27); let Z113 := fun (t : Z43) => List.getD Z51 (Z93 t) (Z13, Z13); True ∧ (Z109 ∧ True) ∧ (Z23 ∧ True) ∧ (nat_lit 2 = nat_lit 2 ∧ Z16 = Z16 ∧ Z15 = Z15 ∧ True) ∧ (Z5 < nat_lit 1000000 ∧ nat_lit 2 < nat_lit 1000) ∧ (Z104 = true → (Z109 ∧ (Z46 ∧ True ∧ Z28 ∧ Z28 ∧ Z35) ∧ (Z19 = Z19 ∧ Z29) ∧ True) ∧ (Z23 ∧ Z109 ∧ ((Z31 = Z31 ∧ True ∧ Z35) ∧ True) ∧ (Z4 = Z4 ∧ True) ∧ (Z7 = Z7 ∧ True) ∧ Z101 ∧ True) ∧ (Z13 ≤ a ∧ a ≤ Z73 ∧ Z73 ≤ (↑Z69 : Int)) ∧ (∃ (x : Z43), (Z28 ∧ Z28 ∧ (nat_lit 0 = nat_lit 0 ∧ nat_lit 0 + Z0 = Z0 ∧ Z98 = Z1) ∧ Value.int IntKind.i64 (↑Z98 : Int) = Z49 ∧ Z34 = Value.int IntKind.i64 (Z66 x) ∧ True) ∧ (True ∧ Z35 ∧ True) ∧ Z23 ∧ True ∧ True ∧ True ∧ (Z34 = Z89 x ∧ Z34 = Z88 x ∧ True) ∧ (Z34 = Z34 ∧ True) ∧ True ∧ True ∧ True ∧ (Z22 = Z22 ∧ Z94) ∧ True) ∧ ∀ (t : Z43), (Z112 t = true → (Z13 ≤ Z66 t ∧ Z66 t < Z27) ∧ Z93 t < Z69 ∧ Z86 = Z86 ∧ ∃ (x : Z43), ((Z28 ∧ Z28 ∧ (nat_lit 0 = nat_lit 0 ∧ Z0 = Z0 ∧ Z1 = Z1) ∧ Z49 = Z49 ∧ Value.int IntKind.i64 (IntKind.wrap IntKind.i64 (Z66 t + Z14)) = Value.int IntKind.i64 (Z66 x) ∧ True) ∧ (True ∧ Z35 ∧ True) ∧ Z23 ∧ True ∧ True ∧ True ∧ (Value.int IntKind.i64 (IntKind.wrap IntKind.i64 (Prod.fst (Z77 t) + Prod.fst (Z113 t))) = Z89 x ∧ Value.int IntKind.i64 (IntKind.wrap IntKind.i64 (Prod.snd (Z77 t) + Prod.snd (Z113 t))) = Z88 x ∧ True) ∧ (Z34 = Z34 ∧ True) ∧ True ∧ True ∧ True ∧ (Z22 = Z22 ∧ Z94) ∧ True) ∧ Z85 x < Z85 t) ∧ (Z112 t = false → (true = true → True ∧ True ∧ (((Z89 t = Z72 ∧ Z88 t = Z70 ∧ True) ∧ Z34 = Z63 ∧ True) ∧ True) ∧ True ∧ Z23 ∧ True) ∧ (true = false → False))) ∧ (Z104 = false → (Z109 ∧ (Z46 ∧ True ∧ Z28 ∧ Z28 ∧ Z35) ∧ (Z19 = Z19 ∧ Z29) ∧ True) ∧ (Z23 ∧ Z109 ∧ ((Z31 = Z31 ∧ True ∧ Z35) ∧ True) ∧ (Z4 = Z4 ∧ True) ∧ (Z7 = Z7 ∧ True) ∧ Z101 ∧ True) ∧ True ∧ True ∧ (((Z34 = Z72 ∧ Z34 = Z70 ∧ True) ∧ Value.int IntKind.i64 Z95 = Z63 ∧ True) ∧ True) ∧ True ∧ Z23 ∧ True))
    (by kernel_rfl) ?_
  simp only [eq_self, true_and, and_true, Int.toNat_natCast, Nat.zero_add, Nat.sub_zero, Value.int.injEq, Value.bool.injEq, decide_eq_true_eq, decide_eq_false_iff_not]
  refine ⟨⟨hx, by decide⟩, fun h => ?_, fun h => ?_⟩
  · obtain ⟨hg, ha, _⟩ := open_ok h
    obtain ⟨n0, n1, n2⟩ := n_ok (ground_ok hg)
    have hl := hards_len ⟨long, rise, change, ps⟩ (nM ⟨long, rise, change, ps⟩)
    simp only [List.all_cons, List.all_nil, Bool.and_true, Bool.and_eq_true, askM, inM_iff, spanOkM, decide_eq_true_eq] at ha
    obtain ⟨⟨⟨a0, a1⟩, a2⟩, ⟨b0, b1⟩, _⟩ := ha
    have n0' : ((nM ⟨long, rise, change, ps⟩ : Nat) : Int) = long + 1 := n0
    have b1' : b ≤ long := b1
    have hw : IntKind.i64.wrap (b + 1) = b + 1 := wrap_id (by omega) (by omega)
    have hn : workNM a b = (b + 1).toNat - a.toNat := by unfold workNM; rw [show W (b + 1) = b + 1 from hw]
    have e : workOM ⟨long, rise, change, ps⟩ a b = (workAtM ⟨long, rise, change, ps⟩ a (workNM a b), 0) := by unfold workOM workErrM; rw [h]; rfl
    simp only [hw, e]
    refine ⟨⟨a0, by omega, by omega⟩, ⟨⟨0, Nat.zero_le _⟩, ⟨hn.symm, by rw [hn], rfl⟩, rfl, rfl⟩, fun t => ⟨fun ht => ?_, fun ht => ?_⟩⟩
    · obtain ⟨i, hi⟩ := t
      have hlt : i < workNM a b := by have h0 : (i : Int) < (workNM a b : Int) := ht; omega
      exact ⟨⟨Int.natCast_nonneg _, ht⟩, by show a.toNat + i < _; omega, ⟨i + 1, hlt⟩, ⟨sucI i (by omega), rfl, rfl⟩, dec1 hlt⟩
    · obtain ⟨i, hi⟩ := t
      have hie : i = workNM a b := by have h0 : ¬ (i : Int) < (workNM a b : Int) := ht; omega
      subst hie
      exact ⟨fun _ => ⟨⟨rfl, rfl⟩, trivial⟩, fun h => absurd h (by decide)⟩
  · have e : workOM ⟨long, rise, change, ps⟩ a b = ((0, 0), workErrM ⟨long, rise, change, ps⟩ a b) := by unfold workOM workErrM; rw [h]; rfl
    rw [e]; exact ⟨⟨rfl, rfl⟩, rfl⟩

theorem workO_sound : Sound Try.prog 15 workOS.con := FSpec.sound _ (enter_of Try.func15 (by kernel_rfl) (by kernel_rfl)) workO_ok
end AE.Soil

namespace AE.Soil
open Go AE Go.Proofs

def digStepM (i : Int) (s : Span) (p : Int × Int) : Int × Int := if W (s.2 - s.1) > p.2 then (i, W (s.2 - s.1)) else p
def digAtM (l : List Span) : Nat → Int × Int
  | 0 => (0, -1)
  | i + 1 => digStepM i (l.getD i (0, 0)) (digAtM l i)
theorem dig_yes {l : List Span} {i : Nat} (h : W ((l.getD i (0, 0)).2 - (l.getD i (0, 0)).1) > (digAtM l i).2) : digAtM l (i + 1) = ((i : Int), W ((l.getD i (0, 0)).2 - (l.getD i (0, 0)).1)) := if_pos h
theorem dig_no {l : List Span} {i : Nat} (h : ¬ W ((l.getD i (0, 0)).2 - (l.getD i (0, 0)).1) > (digAtM l i).2) : digAtM l (i + 1) = digAtM l i := if_neg h
def digErrM (g : GroundT) : Int := openErrM g .place []
def digOM (g : GroundT) : Int × Int × Int := if digErrM g == 0 then ((digAtM (hardsM g (nM g)) (nM g)).1, (digAtM (hardsM g (nM g)) (nM g)).2, 0) else (0, 0, digErrM g)
def digL (g : GroundT) : LSpec UU where
  T := { i : Nat // i ≤ nM g }
  fr := fun i => [(2, .i (digAtM (hardsM g (nM g)) i.1).1), (3, .i (digAtM (hardsM g (nM g)) i.1).2), (4, .ptr 2 0 0 0), (15, .gs 4 0), (16, .i (nM g : Nat)), (17, .i i.1)]
  H := fun _ => [.one (.ro .pit g.pits), .none, .one (.cells [.i 0] 29), .none, .one (.row .span (hardsM g (nM g)) 28)]
  mu := fun i => nM g - i.1
def digOS : FSpec UU where
  X := GroundT
  pick := fun args H => match args with
    | [a] => avGround H a
    | _ => none
  args := fun (x : GroundT) => [vGround x 0]
  H := fun (x : GroundT) => [.one (.ro .pit x.pits)]
  R := fun (x : GroundT) => .val ⟨.tup [.i (digOM x).1, .i (digOM x).2.1, .i (digOM x).2.2], [], [], []⟩
  pre := fun (x : GroundT) => x.pits.length < 1000000
set_option maxHeartbeats 0 in
set_option maxRecDepth 100000 in
theorem digO_ok : ∀ x, digOS.pre x → FunOk Try.prog 29 (digOS.args x) (digOS.H x) (digOS.R x) := by
  rintro ⟨long, rise, change, ps⟩ hx
  refine fun_ofT (T := Tq) (L := fun _ => some (.inv (digL ⟨long, rise, change, ps⟩))) (hs := fun _ => []) (sp := fun _ => none) hmix Tq_ok (tdAt_ok told_ok) (it := fun _ => none) (fun _ _ h => by cases h) Try.func29 (by kernel_rfl) (by kernel_rfl) ?_
  refine Eq.mp (α :=
      let Z0 : List DfE := []; let Z1 := True ∧ True; let Z2 := nat_lit 0 = nat_lit 0 ∧ True; let Z3 := GroundT.mk long rise change ps; let Z4 : List (CC.ty CC.int) := []; let Z5 := True ∧ Z1; let Z6 := Value.int IntKind.i64 change; let Z7 := Value.int IntKind.i64 long; let Z8 := Value.int IntKind.i64 rise; let Z9 := List.length ps; let Z10 := nat_lit 0 = nat_lit 0 ∧ nat_lit 0 = nat_lit 0; let Z11 := (0 : Int); let Z12 := (1 : Int); let Z13 := nM Z3; let Z14 : List Int := []; let Z15 := (2 : Nat); let Z16 := digOM Z3; let Z17 := True ∧ Z5; let Z18 := ps = ps; let Z20 := (28 : TypeId); let Z21 := True ∧ Z17; let Z22 := nat_lit 0 = nat_lit 0 ∧ Z10; let Z24 := Fn.func (56 : FuncId); let Z27 := Value.int IntKind.i64 Z11; let Z29 := Z22 ∧ True; let Z34 := (↑Z13 : Int); let Z37 := Prod.snd Z16; let Z40 : List Span := hardsM Z3 Z13; let Z41 := openErrM Z3 Ask.place Z4; let Z45 : Type := { i : Nat // i ≤ Z13 }; let Z49 := Value.int IntKind.i64 Z34; let Z50 := fun (x : Z45) => Subtype.val x; let Z51 := Value.int IntKind.i64 (Prod.fst Z16); let Z52 := Z20 = Z20; let Z53 := Z4 = Z14; let Z56 := Value.int IntKind.i64 (Prod.snd Z37); let Z57 := Value.int IntKind.i64 (Prod.fst Z37); let Z61 := List.length Z40; let Z63 := fun (x : Z45) => (↑(Z50 x) : Int); let Z64 := Z27 = Z27; let Z67 := (↑Z61 : Int); let Z68 := fun (x : Z45) => Value.int IntKind.i64 (Z63 x); let Z69 : List DfE := DfE.call (Fn.func (nat_lit 31)) [] [AV.ptr Z15 (nat_lit 0) (nat_lit 0) (nat_lit 0)] :: Z0; let Z71 := Z41 == Z11; let Z73 := fun (x : Z45) => Z13 - Z50 x; let Z74 := fun (x : Z45) => digAtM Z40 (Z50 x); let Z76 := Z40 = Z40; let Z77 := fun (t : Z45) => nat_lit 0 + Int.toNat (Z63 t); let Z82 := fun (t : Z45) => Z63 t + Z12; let Z85 := fun (x : Z45) => Value.int IntKind.i64 (Prod.snd (Z74 x)); let Z86 := fun (x : Z45) => Value.int IntKind.i64 (Prod.fst (Z74 x)); let Z94 := Z7 = Z7 ∧ Z8 = Z8 ∧ Z6 = Z6 ∧ (nat_lit 0 = nat_lit 0 ∧ nat_lit 0 = nat_lit 0 ∧ Z9 = Z9) ∧ True; let Z97 := fun (t : Z45) => List.getD Z40 (Z77 t) (Z11, Z11); let Z103 := fun (t : Z45) => decide (Z63 t < Z34); let Z112 := fun (t : Z45) => Prod.snd (Z97 t) - Prod.fst (Z97 t); let Z115 := fun (t : Z45) => decide (IntKind.wrap IntKind.i64 (Z112 t) > Prod.snd (Z74 t)); True ∧ (Z94 ∧ True) ∧ (Z18 ∧ True) ∧ (Z9 < nat_lit 1000000 ∧ nat_lit 0 < nat_lit 1000) ∧ (Z71 = true → (Z21 ∧ Z5 ∧ Z2) ∧ (True ∧ Z21 ∧ Z53 ∧ True) ∧ (Z94 ∧ (Z24 = Z24 ∧ True ∧ Z29) ∧ Z2) ∧ (Z18 ∧ Z94 ∧ Z1) ∧ (∃ (x : Z45), (Z27 = Z86 x ∧ Value.int IntKind.i64 (-Z12) = Z85 x ∧ Z22 ∧ nat_lit 0 = nat_lit 0 ∧ Value.int IntKind.i64 Z67 = Z49 ∧ Z27 = Z68 x ∧ True) ∧ (True ∧ Z29 ∧ True) ∧ Z18 ∧ True ∧ (Z64 ∧ True) ∧ True ∧ (Z52 ∧ Z76) ∧ True) ∧ ∀ (t : Z45), (Z103 t = true → (Z11 ≤ Z63 t ∧ Z63 t < Z67) ∧ Z77 t < Z61 ∧ (Z115 t = true → Z69 = Z69 ∧ ∃ (x : Z45), ((Z68 t = Z86 x ∧ Value.int IntKind.i64 (IntKind.wrap IntKind.i64 (Z112 t)) = Z85 x ∧ Z22 ∧ nat_lit 0 = nat_lit 0 ∧ Z49 = Z49 ∧ Value.int IntKind.i64 (IntKind.wrap IntKind.i64 (Z82 t)) = Z68 x ∧ True) ∧ (True ∧ Z29 ∧ True) ∧ Z18 ∧ True ∧ (Z64 ∧ True) ∧ True ∧ (Z52 ∧ Z76) ∧ True) ∧ Z73 x < Z73 t) ∧ (Z115 t = false → Z69 = Z69 ∧ ∃ (x : Z45), ((Z86 t = Z86 x ∧ Z85 t = Z85 x ∧ Z22 ∧ nat_lit 0 = nat_lit 0 ∧ Z49 = Z49 ∧ Value.int IntKind.i64 (IntKind.wrap IntKind.i64 (Z82 t)) = Z68 x ∧ True) ∧ (True ∧ Z29 ∧ True) ∧ Z18 ∧ True ∧ (Z64 ∧ True) ∧ True ∧ (Z52 ∧ Z76) ∧ True) ∧ Z73 x < Z73 t)) ∧ (Z103 t = false → (true = true → True ∧ True ∧ ((Z86 t = Z51 ∧ Z85 t = Z57 ∧ Z27 = Z56 ∧ True) ∧ True) ∧ True ∧ Z18 ∧ True) ∧ (true = false → False))) ∧ (Z71 = false → (Z21 ∧ Z5 ∧ Z2) ∧ (True ∧ Z21 ∧ Z53 ∧ True) ∧ (true && true && true) = true ∧ (Z94 ∧ (Z24 = Z24 ∧ True ∧ Z29) ∧ Z2) ∧ (Z18 ∧ Z94 ∧ Z1) ∧ True ∧ True ∧ ((Z27 = Z51 ∧ Z27 = Z57 ∧ Value.int IntKind.i64 Z41 = Z56 ∧ True) ∧ True) ∧ True ∧ Z18 ∧ True))
    (by kernel_rfl) ?_
  simp only [eq_self, true_and, and_true, Int.toNat_natCast, Nat.zero_add, Nat.sub_zero, Value.int.injEq, Value.bool.injEq, decide_eq_true_eq, decide_eq_false_iff_not]
  refine ⟨⟨hx, by decide⟩, fun h => ?_, fun h => ?_⟩
  · obtain ⟨n0, n1, n2⟩ := n_ok (ground_ok (open_ok h).1)
    have hl := hards_len ⟨long, rise, change, ps⟩ (nM ⟨long, rise, change, ps⟩)
    have e : digOM ⟨long, rise, change, ps⟩ = ((digAtM (hardsM ⟨long, rise, change, ps⟩ (nM ⟨long, rise, change, ps⟩)) (nM ⟨long, rise, change, ps⟩)).1, (digAtM (hardsM ⟨long, rise, change, ps⟩ (nM ⟨long, rise, change, ps⟩)) (nM ⟨long, rise, change, ps⟩)).2, 0) := by
      have h' : (digErrM ⟨long, rise, change, ps⟩ == 0) = true := h
      unfold digOM; rw [h']; rfl
    rw [e, hl]
    clear e hx h
    revert hl
    generalize hardsM ⟨long, rise, change, ps⟩ (nM ⟨long, rise, change, ps⟩) = l
    revert n0 n1 n2
    generalize nM ⟨long, rise, change, ps⟩ = n
    intro n0 n1 n2 hl
    refine ⟨rfl, ⟨⟨0, Nat.zero_le _⟩, rfl, rfl, rfl, rfl⟩, fun t => ⟨fun ht => ?_, fun ht => ?_⟩⟩
    · obtain ⟨i, hi⟩ := t
      have hlt : i < n := by have h0 : (i : Int) < (n : Int) := ht; omega
      refine ⟨⟨Int.natCast_nonneg _, ht⟩, by show i < n; omega, fun hy => ⟨⟨i + 1, hlt⟩, ?_, dec1 hlt⟩, fun hy => ⟨⟨i + 1, hlt⟩, ?_, dec1 hlt⟩⟩
      · have := dig_yes (l := l) (i := i) hy
        refine ⟨?_, ?_, sucI i (by omega)⟩
        · exact (congrArg Prod.fst this).symm
        · exact (congrArg Prod.snd this).symm
      · have := dig_no (l := l) (i := i) hy
        refine ⟨?_, ?_, sucI i (by omega)⟩
        · exact (congrArg Prod.fst this).symm
        · exact (congrArg Prod.snd this).symm
    · obtain ⟨i, hi⟩ := t
      have hie : i = n := by have h0 : ¬ (i : Int) < (n : Int) := ht; omega
      subst hie
      exact ⟨fun _ => ⟨rfl, rfl, rfl⟩, fun h => absurd h (by decide)⟩
  · have e : digOM ⟨long, rise, change, ps⟩ = (0, 0, digErrM ⟨long, rise, change, ps⟩) := by
      have h' : (digErrM ⟨long, rise, change, ps⟩ == 0) = false := h
      unfold digOM; rw [h']; rfl
    rw [e]; exact ⟨rfl, rfl, rfl, rfl, rfl⟩

theorem digO_sound : Sound Try.prog 29 digOS.con := FSpec.sound _ (enter_of Try.func29 (by kernel_rfl) (by kernel_rfl)) digO_ok
end AE.Soil

namespace AE.Soil
open Go AE Go.Proofs

def strStepM (c n : Int) (k : Int) (p : Int × Int × Int) : Int × Int × Int := if c = W (1 * 2 ^ n.toNat) then (if W (k - p.2.2) > W (p.2.1 - p.1) then (p.2.2, k, p.2.2) else p) else (p.1, p.2.1, W (k + 1))
def strAtM (l : List Mix3) (n : Int) : Nat → Int × Int × Int
  | 0 => (0, -1, 0)
  | k + 1 => strStepM (classesM (l.getD k m0)) n k (strAtM l n k)
theorem str_no {l : List Mix3} {n : Int} {k : Nat} (h : ¬ classesM (l.getD k m0) = W (1 * 2 ^ n.toNat)) : strAtM l n (k + 1) = ((strAtM l n k).1, (strAtM l n k).2.1, W ((k : Int) + 1)) := if_neg h
theorem str_new {l : List Mix3} {n : Int} {k : Nat} (h : classesM (l.getD k m0) = W (1 * 2 ^ n.toNat)) (h2 : W ((k : Int) - (strAtM l n k).2.2) > W ((strAtM l n k).2.1 - (strAtM l n k).1)) : strAtM l n (k + 1) = ((strAtM l n k).2.2, (k : Int), (strAtM l n k).2.2) := (if_pos h).trans (if_pos h2)
theorem str_old {l : List Mix3} {n : Int} {k : Nat} (h : classesM (l.getD k m0) = W (1 * 2 ^ n.toNat)) (h2 : ¬ W ((k : Int) - (strAtM l n k).2.2) > W ((strAtM l n k).2.1 - (strAtM l n k).1)) : strAtM l n (k + 1) = strAtM l n k := (if_pos h).trans (if_neg h2)
def strErrM (g : GroundT) (n : Int) : Int := openErrM g .cls [n]
def strEndM (l : List Mix3) (n : Int) (k : Nat) : Int × Int × Int := if (strAtM l n k).2.1 ≥ 0 then ((strAtM l n k).1, (strAtM l n k).2.1, 0) else (0, 0, 4)
def strOM (g : GroundT) (n : Int) : Int × Int × Int := if strErrM g n == 0 then strEndM (boxesM g) n (nM g) else (0, 0, strErrM g n)
def strI (g : GroundT) (n : Int) (l : Nat) : LSpec UU where
  T := { k : Nat // k ≤ nM g }
  fr := fun k => itFr l 12 13 ++ [(10, .i (nM g : Nat)), (11, .i k.1)]
  H := fun k => [.one (.ro .pit g.pits), .none, .one (.cells [.i n] 3), .one (.cells [.i 0] 29), .none, .one (.row .span (hardsM g (nM g)) 28), .one (.row .mix (boxesM g) 80), .one (.cells [.i g.long, .i g.rise, .i g.change, .sl 0 0 0 g.pits.length, .gs 5 0, .gs 6 0] 71), .one (.cells [.ptr 7 0 0 0] 72), .one (.cells [.i (strAtM (boxesM g) n k.1).1] 3), .one (.cells [.i (strAtM (boxesM g) n k.1).2.1] 3), .one (.cells [.i (strAtM (boxesM g) n k.1).2.2] 3), .one (.cells [.ptr 7 0 0 0] 72), ffCell]
  mu := fun k => nM g - k.1
def Tstr : Tab UU := [(32, openBS.con), (49, placesS.con), (40, classesS.con), (50, mustS.con)]
theorem Tstr_ok : Tstr.Sound Try.prog := .cons openB_sound (.cons places_sound (.cons classes_sound (.cons must_sound .nil)))
def strOS : FSpec UU where
  X := GroundT × Int
  pick := fun args H => match args with
    | [a, b] => match avGround H a, avInt b with
      | some a, some b => some (a, b)
      | _, _ => none
    | _ => none
  args := fun x => [vGround x.1 0, .i x.2]
  H := fun x => [.one (.ro .pit x.1.pits)]
  R := fun x => .val ⟨.tup [.i (strOM x.1 x.2).1, .i (strOM x.1 x.2).2.1, .i (strOM x.1 x.2).2.2], [], [], []⟩
  pre := fun x => x.1.pits.length < 1000000
set_option maxHeartbeats 0 in
set_option maxRecDepth 100000 in
theorem strO_ok : ∀ x, strOS.pre x → FunOk Try.prog 21 (strOS.args x) (strOS.H x) (strOS.R x) := by
  rintro ⟨⟨long, rise, change, ps⟩, n⟩ hx
  refine fun_ofT (T := Tstr) (L := fun _ => none) (hs := fun _ => []) (sp := fun _ => none) hmix Tstr_ok (tdAt_ok told_ok) (it := onlyAt 7 (itOf Try.prog [] 63 Try.f63 fun l _ => some (.inv (strI ⟨long, rise, change, ps⟩ n l)))) (onlyAt_ok it_ok) Try.func21 (by kernel_rfl) (by kernel_rfl) ?_
  refine Eq.mp (α :=
      let Z0 := True ∧ True; let Z1 := Value.bool false; let Z2 := nat_lit 0 = nat_lit 0 ∧ True; let Z3 := GroundT.mk long rise change ps; let Z4 := Value.int IntKind.i64 change; let Z5 := Value.int IntKind.i64 long; let Z6 := Value.int IntKind.i64 n; let Z7 := Value.int IntKind.i64 rise; let Z8 := List.length ps; let Z9 := Z0 ∧ True; let Z10 := nat_lit 0 = nat_lit 0 ∧ nat_lit 0 = nat_lit 0; let Z11 := nat_lit 0 = nat_lit 0 ∧ nat_lit 1 = nat_lit 1; let Z12 := AV.v Z6; let Z13 := (2 : Int); let Z14 := (0 : Int); let Z15 := (1 : Int); let Z16 := (4 : Int); let Z17 : List Int := []; let Z18 := nM Z3; let Z19 := fun (l : Nat) => Fn.yield l = Fn.yield l; let Z20 := (4 : Nat); let Z21 : List Mix3 := boxesM Z3; let Z22 := strOM Z3 n; let Z23 := (28 : TypeId); let Z24 := (47 : FuncId); let Z25 := (80 : TypeId); let Z26 := ps = ps; let Z27 := nat_lit 0 = nat_lit 0 ∧ Z2; let Z28 := min (Int.toNat n) (nat_lit 64); let Z29 := nat_lit 0 = nat_lit 0 ∧ Z11; let Z30 := nat_lit 0 = nat_lit 0 ∧ Z10; let Z31 := Fn.func Z24; let Z32 := Z26 ∧ True; let Z33 := Value.int IntKind.i64 Z14; let Z34 := Value.int IntKind.i64 Z16; let Z35 := fun (l : Nat) => Z19 l ∧ Z0; let Z36 := Z1 = Z1; let Z37 := fun (k : Nat) => k ≤ Z18; let Z38 := Z30 ∧ True; let Z39 := List.length Z21; let Z40 := Z8 = Z8; let Z41 := True ∧ Z32; let Z42 := (↑Z18 : Int); let Z43 := Z4 = Z4; let Z44 := Z7 = Z7; let Z45 := Z5 = Z5; let Z46 := Z6 = Z6; let Z47 := Z36 ∧ True; let Z48 := Prod.fst Z22; let Z49 := Prod.snd Z22; let Z50 := Fn.func (nat_lit 47) = Z31; let Z51 : List Int := n :: Z17; let Z52 : List Span := hardsM Z3 Z18; let Z53 := Z46 ∧ True; let Z54 := nat_lit 0 = nat_lit 0 ∧ Z40; let Z56 : Type := { k : Nat // Z37 k }; let Z57 := (Z14, Z14); let Z58 := Value.int IntKind.i64 Z42; let Z61 := fun (x : Z56) => Subtype.val x; let Z64 := Value.int IntKind.i64 Z48; let Z67 := nat_lit 0 = nat_lit 0 ∧ Z54; let Z69 := Value.int IntKind.i64 (Prod.fst Z49); let Z70 := Z21 = Z21; let Z71 := Value.int IntKind.i64 (Prod.snd Z49); let Z72 := fun (x : Z56) => (↑(Z61 x) : Int); let Z73 := openErrM Z3 Ask.cls Z51; let Z78 := Z33 = Z33 ∧ True; let Z80 := fun (x : Z56) => Value.int IntKind.i64 (Z72 x); let Z86 := fun (x : Z56) => Z18 - Z61 x; let Z87 := fun (x : Z56) => Prod.snd (strAtM Z21 n (Z61 x)); let Z88 := fun (x : Z56) => Prod.fst (strAtM Z21 n (Z61 x)); let Z91 := Z51 = Z51; let Z93 := Z58 = Z58; let Z96 := fun (x : Z56) => Prod.fst (Z87 x); let Z98 := fun (x : Z56) => Value.int IntKind.i64 (Z88 x); let Z101 := Z25 = Z25 ∧ Z70; let Z102 := Z73 == Z14; let Z103 := fun (x : Z56) => Value.int IntKind.i64 (Prod.snd (Z87 x)); let Z104 := fun (x : Z56) => Value.int IntKind.i64 (Z96 x); let Z112 := fun (t : Z56) => Value.int IntKind.i64 (IntKind.wrap IntKind.i64 (Z72 t + Z15)); let Z114 := Z23 = Z23 ∧ Z52 = Z52; let Z118 := Z45 ∧ Z44 ∧ Z43 ∧ Z67 ∧ Z27; let Z120 := fun (x t : Z56) => Z86 x < Z86 t; let Z127 := fun (t : Z56) => decide (Z72 t < Z42); let Z133 := fun (t : Z56) => decide (Z96 t ≥ Z14); let Z135 := fun (t : Z56) => Value.bool (Z133 t); let Z143 := fun (t : Z56) => classesM (List.getD Z21 (Int.toNat (Z72 t)) (Z57, Z57, Z57)) != IntKind.wrap IntKind.i64 (Z15 * Z13 ^ Z28); let Z147 := fun (t : Z56) => decide (IntKind.wrap IntKind.i64 (Z72 t - Prod.snd (Z87 t)) > IntKind.wrap IntKind.i64 (Z96 t - Z88 t)); (nat_lit 1 = nat_lit 1 ∧ Z12 = Z12 ∧ True) ∧ (Z8 < nat_lit 1000000 ∧ nat_lit 1 < nat_lit 1000) ∧ (Z102 = true → ((Z45 ∧ Z44 ∧ Z43 ∧ Z67 ∧ True) ∧ (Z50 ∧ Z0) ∧ (Z20 = Z20 ∧ Z29) ∧ True) ∧ (Z26 ∧ Z91 ∧ True) ∧ True ∧ (Z30 ∧ Z47) ∧ ((True ∧ True ∧ True ∧ True ∧ True ∧ Z0) ∧ True) ∧ ∀ (l : Nat), (∃ (x : Z56), (Z35 l ∧ Z30 ∧ Z30 ∧ Value.int IntKind.i64 (IntKind.wrap IntKind.i64 (long + Z15)) = Z58 ∧ Z33 = Z80 x ∧ True) ∧ True ∧ Z26 ∧ True ∧ Z53 ∧ Z78 ∧ True ∧ Z114 ∧ Z101 ∧ Z118 ∧ Z38 ∧ (Z33 = Z98 x ∧ True) ∧ (Value.int IntKind.i64 (-Z15) = Z104 x ∧ True) ∧ (Z33 = Z103 x ∧ True) ∧ Z38 ∧ Z47 ∧ True) ∧ ∀ (t : Z56), (Z127 t = true → l = l ∧ True ∧ (Z14 ≤ Z72 t ∧ Z72 t < (↑Z39 : Int) ∧ Z39 < nat_lit 1000) ∧ (Z30 ∧ Z80 t = Z80 t ∧ True) ∧ (Z70 ∧ (True ∧ True ∧ True ∧ True ∧ True ∧ (nat_lit 6 = nat_lit 6 ∧ nat_lit 0 = nat_lit 0 ∧ nat_lit 0 = nat_lit 0 ∧ List.length Z21 = Z39) ∧ True) ∧ True) ∧ Z14 ≤ n ∧ (Z143 t = true → True ∧ True ∧ ∃ (x : Z56), ((Z35 l ∧ Z30 ∧ Z30 ∧ Z93 ∧ Z112 t = Z80 x ∧ True) ∧ True ∧ Z26 ∧ True ∧ Z53 ∧ Z78 ∧ True ∧ Z114 ∧ Z101 ∧ Z118 ∧ Z38 ∧ (Z98 t = Z98 x ∧ True) ∧ (Z104 t = Z104 x ∧ True) ∧ (Z112 t = Z103 x ∧ True) ∧ Z38 ∧ Z9) ∧ Z120 x t) ∧ (Z143 t = false → (Z147 t = true → True ∧ True ∧ ∃ (x : Z56), ((Z35 l ∧ Z30 ∧ Z30 ∧ Z93 ∧ Z112 t = Z80 x ∧ True) ∧ True ∧ Z26 ∧ True ∧ Z53 ∧ Z78 ∧ True ∧ Z114 ∧ Z101 ∧ Z118 ∧ Z38 ∧ (Z103 t = Z98 x ∧ True) ∧ (Z80 t = Z104 x ∧ True) ∧ (Z103 t = Z103 x ∧ True) ∧ Z38 ∧ Z9) ∧ Z120 x t) ∧ (Z147 t = false → True ∧ True ∧ ∃ (x : Z56), ((Z35 l ∧ Z30 ∧ Z30 ∧ Z93 ∧ Z112 t = Z80 x ∧ True) ∧ True ∧ Z26 ∧ True ∧ Z53 ∧ Z78 ∧ True ∧ Z114 ∧ Z101 ∧ Z118 ∧ Z38 ∧ (Z98 t = Z98 x ∧ True) ∧ (Z104 t = Z104 x ∧ True) ∧ (Z103 t = Z103 x ∧ True) ∧ Z38 ∧ Z9) ∧ Z120 x t))) ∧ (Z127 t = false → True ∧ (Z133 t = true → (Z135 t = Z135 t ∧ Z34 = Z34 ∧ True) ∧ True ∧ (true = true → True ∧ True ∧ ((Z98 t = Z64 ∧ Z104 t = Z69 ∧ Z33 = Z71 ∧ True) ∧ True) ∧ Z41) ∧ (true = false → False)) ∧ (Z133 t = false → (Z135 t = Z135 t ∧ Z34 = Z34 ∧ True) ∧ True ∧ True ∧ True ∧ ((Z33 = Z64 ∧ Z33 = Z69 ∧ Z34 = Z71 ∧ True) ∧ True) ∧ Z41))) ∧ (Z102 = false → ((Z45 ∧ Z44 ∧ Z43 ∧ Z67 ∧ True) ∧ (Z50 ∧ Z0) ∧ (Z20 = Z20 ∧ Z29) ∧ True) ∧ (Z26 ∧ Z91 ∧ True) ∧ True ∧ True ∧ ((Z33 = Z64 ∧ Z33 = Z69 ∧ Value.int IntKind.i64 Z73 = Z71 ∧ True) ∧ True) ∧ Z41))
    (by kernel_rfl) ?_
  simp only [eq_self, true_and, and_true, Int.toNat_natCast, Nat.zero_add, Nat.sub_zero, Value.int.injEq, Value.bool.injEq, decide_eq_true_eq, decide_eq_false_iff_not]
  refine ⟨⟨hx, by decide⟩, fun h => ?_, fun h => ?_⟩
  · obtain ⟨hg, ha, _⟩ := open_ok h
    obtain ⟨n0, n1, n2⟩ := n_ok (ground_ok hg)
    have n0' : ((nM ⟨long, rise, change, ps⟩ : Nat) : Int) = long + 1 := n0
    simp only [List.all_cons, List.all_nil, Bool.and_true, askM, inM_iff] at ha
    obtain ⟨a0, a1⟩ := ha
    have hmin : min n.toNat 64 = n.toNat := by omega
    have hW : IntKind.i64.wrap (long + 1) = ((nM ⟨long, rise, change, ps⟩ : Nat) : Int) := by rw [wrap_id (by omega) (by omega)]; omega
    have hl : (boxesM ⟨long, rise, change, ps⟩).length = nM ⟨long, rise, change, ps⟩ := stage_len _ 2
    have e : strOM ⟨long, rise, change, ps⟩ n = strEndM (boxesM ⟨long, rise, change, ps⟩) n (nM ⟨long, rise, change, ps⟩) := by
      have h' : (strErrM ⟨long, rise, change, ps⟩ n == 0) = true := h
      unfold strOM; rw [h']; rfl
    rw [e, hW, hmin]
    clear e hx h hW hg n0
    revert hl n0'
    generalize boxesM ⟨long, rise, change, ps⟩ = l
    generalize nM ⟨long, rise, change, ps⟩ = N at *
    intro hl n0'
    refine fun _ => ⟨⟨⟨0, Nat.zero_le _⟩, ⟨rfl, rfl⟩, rfl, rfl, rfl⟩, fun t => ⟨fun ht => ?_, fun ht => ?_⟩⟩
    · obtain ⟨k, hk⟩ := t
      have hlt : k < N := by have h0 : (k : Int) < (N : Int) := ht; omega
      refine ⟨⟨Int.natCast_nonneg _, by show (k : Int) < _; omega, by omega⟩, a0, fun hy => ⟨⟨k + 1, hlt⟩, ?_, dec1 hlt⟩, fun hy => ⟨fun hz => ⟨⟨k + 1, hlt⟩, ?_, dec1 hlt⟩, fun hz => ⟨⟨k + 1, hlt⟩, ?_, dec1 hlt⟩⟩⟩
      · have hy' : ¬ classesM (l.getD k m0) = W (1 * 2 ^ n.toNat) := by simpa [bne_iff_ne] using hy
        have e := str_no hy'
        exact ⟨sucI k (by omega), (congrArg (fun p => p.1) e).symm, (congrArg (fun p => p.2.1) e).symm, (congrArg (fun p => p.2.2) e).symm⟩
      · have hy' : classesM (l.getD k m0) = W (1 * 2 ^ n.toNat) := by simpa using hy
        have e := str_new hy' hz
        exact ⟨sucI k (by omega), (congrArg (fun p => p.1) e).symm, (congrArg (fun p => p.2.1) e).symm, (congrArg (fun p => p.2.2) e).symm⟩
      · have hy' : classesM (l.getD k m0) = W (1 * 2 ^ n.toNat) := by simpa using hy
        have e := str_old hy' hz
        exact ⟨sucI k (by omega), (congrArg (fun p => p.1) e).symm, (congrArg (fun p => p.2.1) e).symm, (congrArg (fun p => p.2.2) e).symm⟩
    · obtain ⟨k, hk⟩ := t
      have hke : k = N := by have h0 : ¬ (k : Int) < (N : Int) := ht; omega
      subst hke
      refine ⟨fun hz => ⟨fun _ => ?_, fun h => absurd h (by decide)⟩, fun hz => ?_⟩
      · have e : strEndM l n k = ((strAtM l n k).1, (strAtM l n k).2.1, 0) := if_pos hz
        rw [e]; exact ⟨rfl, rfl, rfl⟩
      · have e : strEndM l n k = (0, 0, 4) := if_neg hz
        rw [e]; exact ⟨rfl, rfl, rfl⟩
  · have e : strOM ⟨long, rise, change, ps⟩ n = (0, 0, strErrM ⟨long, rise, change, ps⟩ n) := by
      have h' : (strErrM ⟨long, rise, change, ps⟩ n == 0) = false := h
      unfold strOM; rw [h']; rfl
    rw [e]; exact ⟨rfl, rfl, rfl⟩

theorem strO_sound : Sound Try.prog 21 strOS.con := FSpec.sound _ (enter_of Try.func21 (by kernel_rfl) (by kernel_rfl)) strO_ok
end AE.Soil

namespace AE.Soil
open Go AE Go.Proofs

/-- A ground without one of its pits. -/
def lessM (g : GroundT) (i : Nat) : GroundT := ⟨g.long, g.rise, g.change, g.pits.take i ++ g.pits.drop (i + 1)⟩
def oddAtM (g : GroundT) : Nat → Int
  | 0 => 0
  | i + 1 => if lookM (lessM g i) then orM (oddAtM g i) (W (1 * 2 ^ i)) else oddAtM g i
theorem odd_yes {g : GroundT} {i : Nat} (h : lookM (lessM g i) = true) : oddAtM g (i + 1) = orM (oddAtM g i) (W (1 * 2 ^ i)) := if_pos h
theorem odd_no {g : GroundT} {i : Nat} (h : lookM (lessM g i) = false) : oddAtM g (i + 1) = oddAtM g i := if_neg (by rw [h]; decide)
theorem pits_of {long : Int} (hl : long ≤ 40) : ∀ (l : List PitT) (b : Int), -1 ≤ b → b ≤ 40 → (∀ p ∈ l, b < p.1 ∧ PitOk long p) → (l.Pairwise fun p q => p.1 < q.1) → pitsM long b l = true
  | [], b, _, _, _, _ => rfl
  | q :: l, b, h1, h2, h, hp => by
    obtain ⟨hb, ok⟩ := h q List.mem_cons_self
    obtain ⟨hp1, hp2⟩ := List.pairwise_cons.1 hp
    have hw : W (b + 1) = b + 1 := wrap_id (by omega) (by omega)
    have := pits_of hl l q.1 (by have := ok.at_; omega) (by have := ok.at_; omega) (fun p hp => ⟨hp1 p hp, (h p (List.mem_cons_of_mem _ hp)).2⟩) hp2
    simp only [pitsM, okPitM, Bool.and_eq_true, inM_iff, spanM_iff, hw]
    exact ⟨⟨⟨⟨⟨⟨by omega, ok.at_.2⟩, ok.hard⟩, ok.sand⟩, ok.silt⟩, ok.clay⟩, this⟩
theorem ground_of {g : GroundT} (h : GOk g) : groundM g = true := by
  have := pits_of h.long.2 g.pits (-1) (by omega) (by omega) (fun p hp => ⟨by have := (h.pits p hp).at_; omega, h.pits p hp⟩) h.inc
  have hl := h.len
  simp only [groundM, Bool.and_eq_true, inM_iff, decide_eq_true_eq]
  exact ⟨⟨⟨⟨h.long, h.rise⟩, h.change⟩, by omega⟩, this⟩
theorem less_sub (l : List PitT) (i : Nat) : (l.take i ++ l.drop (i + 1)).Sublist l := by
  have : l.drop (i + 1) = (l.drop i).drop 1 := by rw [List.drop_drop]
  rw [this]
  calc (l.take i ++ (l.drop i).drop 1).Sublist (l.take i ++ l.drop i) := (List.Sublist.refl _).append (List.drop_sublist _ _)
    _ = l := List.take_append_drop i l
theorem less_ok {g : GroundT} (h : GOk g) (i : Nat) : GOk (lessM g i) where
  long := h.long
  rise := h.rise
  change := h.change
  len := Nat.le_trans (less_sub g.pits i).length_le h.len
  pits := fun p hp => h.pits p ((less_sub g.pits i).subset hp)
  inc := h.inc.sublist (less_sub g.pits i)
def oddErrM (g : GroundT) : Int := if groundM g then (if lookM g then 4 else 0) else 1
def oddOM (g : GroundT) : Int × Int := if oddErrM g == 0 then (oddAtM g g.pits.length, 0) else (0, oddErrM g)
def oddL (g : GroundT) : LSpec UU where
  T := { i : Nat // i ≤ g.pits.length }
  fr := fun i => [(1, .ptr 1 0 0 0), (2, .i (oddAtM g i.1)), (3, .ptr 2 0 0 0), (23, .i g.pits.length), (24, .i i.1)]
  H := fun i => [.one (.ro .pit g.pits), .one (.cells (cGround g 0) 24), .one (.cells [.i 0] 29)]
  mu := fun i => g.pits.length - i.1
def Todd : Tab UU := [(51, isGroundS.con), (50, mustS.con), (52, lookS.con)]
theorem Todd_ok : Todd.Sound Try.prog := .cons isGround_sound (.cons must_sound (.cons look_sound .nil))
def oddOS : FSpec UU where
  X := GroundT
  pick := fun args H => match args with
    | [a] => avGround H a
    | _ => none
  args := fun (x : GroundT) => [vGround x 0]
  H := fun (x : GroundT) => [.one (.ro .pit x.pits)]
  R := fun (x : GroundT) => .val ⟨.tup [.i (oddOM x).1, .i (oddOM x).2], [], [], []⟩
  pre := fun (x : GroundT) => x.pits.length < 1000000
set_option maxHeartbeats 0 in
set_option maxRecDepth 100000 in
theorem oddO_ok : ∀ x, oddOS.pre x → FunOk Try.prog 22 (oddOS.args x) (oddOS.H x) (oddOS.R x) := by
  rintro ⟨long, rise, change, ps⟩ hx
  refine fun_ofT (T := Todd) (L := fun _ => some (.inv (oddL ⟨long, rise, change, ps⟩))) (hs := fun _ => []) (sp := fun _ => none) hmix Todd_ok (tdAt_ok told_ok) (it := fun _ => none) (fun _ _ h => by cases h) Try.func22 (by kernel_rfl) (by kernel_rfl) ?_
  refine Eq.mp (α :=
      let Z0 : List DfE := []; let Z1 := !true; let Z2 := !false; let Z3 := GroundT.mk long rise change ps; let Z4 := List.length ps; let Z5 := Value.int IntKind.i64 change; let Z6 := Value.int IntKind.i64 long; let Z7 := Value.int IntKind.i64 rise; let Z8 := true = true; let Z9 := false = true; let Z10 := true = false; let Z11 := nat_lit 0 = nat_lit 0 ∧ nat_lit 0 = nat_lit 0; let Z12 := false = false; let Z13 := (0 : Int); let Z14 := Value.bool Z1; let Z15 := (4 : Int); let Z16 := (1 : Int); let Z17 := (2 : Int); let Z18 := Value.bool Z2; let Z19 := (0 : Nat); let Z20 := (5 : Nat); let Z21 := (2 : Nat); let Z22 := lookM Z3; let Z23 := oddOM Z3; let Z24 : List PitT := GroundT.pits Z3; let Z25 := groundM Z3; let Z26 : List (Int × Span × Span × Span × Span) := List.drop (nat_lit 0) ps; let Z27 := List.length ps; let Z28 := Z10 → False; let Z29 := ps = ps; let Z30 := nat_lit 0 = nat_lit 0 ∧ Z11; let Z31 := AV.ptr Z21 (nat_lit 0) (nat_lit 0) (nat_lit 0); let Z32 := Value.bool Z25; let Z33 := Z29 ∧ True; let Z34 := (↑Z4 : Int); let Z35 := Prod.snd Z23; let Z36 := Prod.fst Z23; let Z37 := Value.int IntKind.i64 Z13; let Z38 := Value.int IntKind.i64 Z15; let Z39 := Value.int IntKind.i64 Z16; let Z40 := Z25 = true; let Z41 := Z30 ∧ True; let Z42 := Z4 = Z4; let Z43 := List.length Z24; let Z44 := True ∧ Z33; let Z45 := Z5 = Z5; let Z46 := Z7 = Z7; let Z47 := Z6 = Z6; let Z48 := Int.toNat Z34; let Z49 := Z41 ∧ True; let Z50 : List (Int × Span × Span × Span × Span) := List.drop Z19 ps; let Z51 := Z14 = Z14; let Z52 := Value.int IntKind.i64 Z36; let Z53 : List AV := [Z31]; let Z54 := Value.int IntKind.i64 Z34; let Z55 := Value.int IntKind.i64 Z35; let Z56 := Z18 = Z18; let Z57 := nat_lit 0 = nat_lit 0 ∧ Z42; let Z58 := Z20 = Z20; let Z59 := True ∧ Z49; let Z60 := fun (i : Nat) => i ≤ Z43; let Z61 := Z13 ≤ Z13; let Z62 := nat_lit 0 = nat_lit 0 ∧ Z57; let Z63 := Z62 ∧ True; let Z64 : Type := { i : Nat // Z60 i }; let Z65 := Z32 = Z32; let Z66 := DfE.call (Fn.func (nat_lit 31)) [] Z53; let Z67 := fun (x : Z64) => Subtype.val x; let Z68 := Z38 = Z38; let Z69 := Z39 = Z39; let Z70 := Z37 = Z37; let Z71 := Z69 ∧ True; let Z72 := Z68 ∧ True; let Z73 := Z70 ∧ True; let Z74 := Z34 ≤ Z34; let Z75 := Z73 ∧ True; let Z76 : List DfE := Z66 :: Z0; let Z77 := Z37 = Z55; let Z78 := Z38 = Z55; let Z79 := Z37 = Z52; let Z80 := fun (x : Z64) => (↑(Z67 x) : Int); let Z81 := fun (x : Z64) => oddAtM Z3 (Z67 x); let Z82 := Z78 ∧ True; let Z83 := Z77 ∧ True; let Z84 := fun (t : Z64) => Int.toNat (Z80 t); let Z85 := Z54 = Z54; let Z86 := fun (x : Z64) => Value.int IntKind.i64 (Z80 x); let Z87 := fun (t : Z64) => BitVec.ofInt (nat_lit 64) (Z81 t); let Z88 := Z45 ∧ Z63; let Z89 := fun (x : Z64) => Value.int IntKind.i64 (Z81 x); let Z90 := fun (t : Z64) => min (Z84 t) (nat_lit 64); let Z91 := fun (x : Z64) => Z4 - Z67 x; let Z92 := fun (t : Z64) => Z13 ≤ Z80 t; let Z93 := fun (t : Z64) => Z84 t - nat_lit 0; let Z94 := Z51 ∧ Z72; let Z95 := Z56 ∧ Z72; let Z96 := fun (t : Z64) => Z80 t < Z34; let Z97 := fun (t : Z64) => Z80 t ≤ Z34; let Z98 := fun (t : Z64) => Z80 t + Z16; let Z99 := fun (x : Z64) => Z37 = Z86 x; let Z100 := fun (t : Z64) => Z84 t - Z19; let Z101 := fun (x : Z64) => Z37 = Z89 x; let Z102 := Z46 ∧ Z88; let Z103 := fun (x : Z64) => Z99 x ∧ True; let Z104 := Z65 ∧ Z71; let Z105 := fun (t : Z64) => IntKind.wrap IntKind.i64 (Z98 t); let Z106 := fun (t : Z64) => nat_lit 0 + Z93 t; let Z107 := fun (t : Z64) => Int.toNat (Z105 t); let Z108 := fun (t : Z64) => Z89 t = Z52; let Z109 := fun (t : Z64) => Value.int IntKind.i64 (Z105 t); let Z110 := fun (t : Z64) => List.take (Z93 t) Z26; let Z111 := fun (t : Z64) => Z17 ^ Z90 t; let Z112 := Z76 = Z76; let Z113 := Z79 ∧ Z82; let Z114 := fun (t : Z64) => Z13 ≤ Z105 t; let Z115 := Z47 ∧ Z102; let Z116 := fun (t : Z64) => nat_lit 0 + Z107 t; let Z117 := Z113 ∧ True; let Z118 := fun (t : Z64) => List.length (Z110 t); let Z119 := fun (t : Z64) => Z106 t ≤ Z27; let Z120 := Z115 ∧ True; let Z121 := fun (t : Z64) => Z105 t ≤ Z34; let Z122 := fun (t : Z64) => Z19 + Z107 t; let Z123 := fun (t : Z64) => List.take (Z100 t) Z50; let Z124 := fun (t : Z64) => List.drop (Z116 t) ps; let Z125 := fun (t : Z64) => Z118 t ≤ nat_lit 1099511627776; let Z126 := fun (t x : Z64) => Z89 t = Z89 x; let Z127 := fun (t : Z64) => Z16 * Z111 t; let Z128 := fun (t : Z64) => Z48 - Z107 t; let Z129 := Z117 ∧ Z44; let Z130 := fun (t : Z64) => List.drop (Z122 t) ps; let Z131 := True ∧ Z129; let Z132 := fun (t : Z64) => IntKind.wrap IntKind.i64 (Z127 t); let Z133 := fun (x t : Z64) => Z91 x < Z91 t; let Z134 := True ∧ Z131; let Z135 := fun (t : Z64) => BitVec.ofInt (nat_lit 64) (Z132 t); let Z136 := True ∧ Z134; let Z137 := fun (x : Z64) => Z85 ∧ Z103 x; let Z138 := fun (t : Z64) => Z108 t ∧ Z83; let Z139 := fun (t : Z64) => Z92 t ∧ Z97 t; let Z140 := fun (t : Z64) => Z138 t ∧ True; let Z141 := fun (t x : Z64) => Z109 t = Z86 x; let Z142 := Z115 ∧ Z75; let Z143 := fun (t x : Z64) => Z141 t x ∧ True; let Z144 := fun (x : Z64) => Z30 ∧ Z137 x; let Z145 := fun (t : Z64) => Z121 t ∧ Z74; let Z146 := fun (t : Z64) => decide (Z96 t); let Z147 := fun (t : Z64) => Z140 t ∧ Z44; let Z148 := Z29 ∧ Z142; let Z149 := fun (t : Z64) => Z146 t = true; let Z150 := fun (t : Z64) => Z146 t = false; let Z151 := fun (t : Z64) => True ∧ Z147 t; let Z152 := fun (t : Z64) => True ∧ Z151 t; let Z153 := fun (t : Z64) => Z61 ∧ Z139 t; let Z154 := fun (t : Z64) => Z8 → Z152 t; let Z155 := Z59 ∧ Z148; let Z156 := fun (t : Z64) => Z154 t ∧ Z28; let Z157 := fun (t x : Z64) => Z85 ∧ Z143 t x; let Z158 := fun (t x : Z64) => Z30 ∧ Z157 t x; let Z159 := fun (x : Z64) => Z101 x ∧ Z144 x; let Z160 := fun (t : Z64) => Z116 t + Z128 t; let Z161 := fun (t : Z64) => List.take (Z128 t) (Z124 t); let Z162 := fun (x : Z64) => Z30 ∧ Z159 x; let Z163 := fun (t : Z64) => Z114 t ∧ Z145 t; let Z164 := fun (t : Z64) => Z87 t ||| Z135 t; let Z165 := fun (t : Z64) => List.take (Z128 t) (Z130 t); let Z166 := fun (t : Z64) => List.length (Z161 t); let Z177 := fun (t : Z64) => Z118 t + Z166 t ≤ nat_lit 1099511627776; let Z178 := fun (t : Z64) => Z110 t ++ Z161 t; let Z181 := fun (t : Z64) => Z123 t ++ Z165 t; let Z182 := fun (t : Z64) => GroundT.mk long rise change (Z181 t); let Z184 := fun (t : Z64) => lookM (Z182 t); let Z189 := ∃ (x : Z64), Z162 x ∧ Z155; let Z194 := fun (t : Z64) => ∃ (x : Z64), ((Z30 ∧ Z126 t x ∧ Z158 t x) ∧ Z155) ∧ Z133 x t; let Z200 := fun (t : Z64) => Z181 t = Z178 t ∧ True; let Z210 := fun (t : Z64) => (Z47 ∧ Z46 ∧ Z45 ∧ (Z58 ∧ nat_lit 0 = nat_lit 0 ∧ nat_lit 0 = nat_lit 0 ∧ List.length (Z178 t) = List.length (Z178 t)) ∧ True) ∧ True; let Z213 := fun (t : Z64) => Z92 t ∧ Z112 ∧ ∃ (x : Z64), ((Z30 ∧ Value.int IntKind.i64 (IntKind.wrap IntKind.i64 (↑(BitVec.toNat (Z164 t)) : Int)) = Z89 x ∧ Z158 t x) ∧ Z155) ∧ Z133 x t; Z4 < nat_lit 1000000 ∧ Z120 ∧ Z33 ∧ True ∧ (Z40 → Z104 ∧ True ∧ Z40 ∧ (Z22 = true → Z120 ∧ Z33 ∧ True ∧ (Z9 → Z94 ∧ True ∧ Z189 ∧ ∀ (t : Z64), (Z149 t → Z153 t ∧ Z119 t ∧ Z125 t ∧ Z163 t ∧ Z160 t ≤ Z27 ∧ Z177 t ∧ groundM (Z182 t) = true ∧ (Z184 t = true → Z210 t ∧ Z200 t ∧ (Z8 → Z213 t) ∧ (Z10 → Z112 ∧ Z194 t)) ∧ (Z184 t = false → Z210 t ∧ Z200 t ∧ (Z9 → Z213 t) ∧ (Z12 → Z112 ∧ Z194 t))) ∧ (Z150 t → Z156 t)) ∧ (Z12 → Z94 ∧ Z136)) ∧ (Z22 = false → Z120 ∧ Z33 ∧ True ∧ (Z8 → Z95 ∧ True ∧ Z189 ∧ ∀ (t : Z64), (Z149 t → Z153 t ∧ Z119 t ∧ Z125 t ∧ Z163 t ∧ Z160 t ≤ Z27 ∧ Z177 t ∧ groundM (Z182 t) = true ∧ (Z184 t = true → Z210 t ∧ Z200 t ∧ (Z8 → Z213 t) ∧ (Z10 → Z112 ∧ Z194 t)) ∧ (Z184 t = false → Z210 t ∧ Z200 t ∧ (Z9 → Z213 t) ∧ (Z12 → Z112 ∧ Z194 t))) ∧ (Z150 t → Z156 t)) ∧ (Z10 → Z95 ∧ Z136))) ∧ (Z25 = false → Z104 ∧ True ∧ True ∧ True ∧ ((Z79 ∧ Z39 = Z55 ∧ True) ∧ True) ∧ Z44))
    (by kernel_rfl) ?_
  simp only [eq_self, true_and, and_true, Int.toNat_natCast, Nat.zero_add, Nat.sub_zero, Value.int.injEq, Value.bool.injEq, decide_eq_true_eq, decide_eq_false_iff_not]
  refine ⟨hx, fun hg => ⟨hg, fun hl => ⟨fun h => absurd h (by decide), fun _ => ?_⟩, fun hl => ⟨fun _ => ⟨⟨⟨0, Nat.zero_le _⟩, rfl, rfl⟩, fun t => ⟨fun ht => ?_, fun ht => ?_⟩⟩, fun h => absurd h (by decide)⟩⟩, fun hg => ?_⟩
  · have e : oddOM ⟨long, rise, change, ps⟩ = (0, 4) := by unfold oddOM oddErrM; rw [hg, hl]; rfl
    rw [e]; exact ⟨rfl, rfl⟩
  · obtain ⟨i, hi⟩ := t
    have hlt : i < ps.length := by have h0 : (i : Int) < (ps.length : Int) := ht; omega
    have hok := ground_ok hg
    have h8 : ps.length ≤ 8 := hok.len
    have hs := sucI i (by omega)
    have hmin : min i 64 = i := by omega
    have hd : (ps.drop (i + 1)).take (ps.length - (i + 1)) = ps.drop (i + 1) := List.take_of_length_le (by rw [List.length_drop]; omega)
    have hless : groundM (lessM ⟨long, rise, change, ps⟩ i) = true := ground_of (less_ok hok i)
    simp only [hs, Int.toNat_natCast, List.drop_zero, hmin, hd]
    have hlen1 : (ps.take i).length ≤ 1099511627776 := by rw [List.length_take]; omega
    have hlen2 : (ps.take i).length + (ps.drop (i + 1)).length ≤ 1099511627776 := by rw [List.length_take, List.length_drop]; omega
    refine ⟨⟨Int.le_refl _, Int.natCast_nonneg _, by omega⟩, by omega, hlen1, ⟨Int.natCast_nonneg _, by omega, Int.le_refl _⟩, by omega, hlen2, hless, fun hk => ⟨fun _ => ⟨Int.natCast_nonneg _, ⟨i + 1, hlt⟩, ⟨?_, rfl⟩, dec1 hlt⟩, fun h => absurd h (by decide)⟩, fun hk => ⟨fun h => absurd h (by decide), fun _ => ⟨⟨i + 1, hlt⟩, ⟨?_, rfl⟩, dec1 hlt⟩⟩⟩
    · exact (odd_yes (g := ⟨long, rise, change, ps⟩) hk).symm
    · exact (odd_no (g := ⟨long, rise, change, ps⟩) hk).symm
  · obtain ⟨i, hi⟩ := t
    have hie : i = ps.length := by have h0 : ¬ (i : Int) < (ps.length : Int) := ht; omega
    subst hie
    have e : oddOM ⟨long, rise, change, ps⟩ = (oddAtM ⟨long, rise, change, ps⟩ ps.length, 0) := by unfold oddOM oddErrM; rw [hg, hl]; rfl
    rw [e]; exact ⟨fun _ => ⟨rfl, rfl⟩, fun h => absurd h (by decide)⟩
  · have e : oddOM ⟨long, rise, change, ps⟩ = (0, 1) := by unfold oddOM oddErrM; rw [hg]; rfl
    rw [e]; exact ⟨rfl, rfl⟩

theorem oddO_sound : Sound Try.prog 22 oddOS.con := FSpec.sound _ (enter_of Try.func22 (by kernel_rfl) (by kernel_rfl)) oddO_ok
end AE.Soil

namespace AE.Soil
open Go AE Go.Proofs

abbrev pA : PitT := (2, (300, 320), (10, 12), (4, 6), 4, 5)
abbrev pB : PitT := (8, (500, 520), (5, 6), (3, 5), 9, 11)
abbrev pC : PitT := (5, (900, 900), (0, 20), (0, 20), 0, 20)
def sampleS : FSpec UU where
  X := Unit
  pick := fun args _ => match args with
    | [] => some ()
    | _ => none
  args := fun _ => []
  H := fun _ => []
  R := fun _ => .val ⟨.agg [.i 10, .i 50, .i 2, .gs 0 0], [], [], [.row .pit [pA, pB] 54]⟩
def Tsample : Tab UU := [(28, lpitS.con)]
theorem Tsample_ok : Tsample.Sound Try.prog := .cons lpit_sound .nil
set_option maxRecDepth 100000 in
theorem sample_ok : ∀ x, sampleS.pre x → FunOk Try.prog 30 (sampleS.args x) (sampleS.H x) (sampleS.R x) := by
  intro x _
  refine fun_of (T := Tsample) (L := fun _ => none) (hs := fun _ => []) hmix Tsample_ok Try.func30 (by kernel_rfl) (by kernel_rfl) ?_
  refine Eq.mp (α :=
      let Z0 := (6 : Int); let Z1 := (5 : Int); let Z2 := (2 : Int); let Z3 := (4 : Int); let Z4 := (3 : Int); let Z5 := (8 : Int); let Z6 := (9 : Int); let Z8 := (10 : Int); let Z9 := (12 : Int); let Z10 := (11 : Int); let Z12 := (500 : Int); let Z13 := (320 : Int); let Z14 := (300 : Int); let Z15 := (520 : Int); let Z16 := Value.int IntKind.i64 Z0; let Z17 := Value.int IntKind.i64 Z6; let Z18 := Value.int IntKind.i64 Z4; let Z19 := Value.int IntKind.i64 Z5; let Z20 := Value.int IntKind.i64 Z1; let Z21 := Value.int IntKind.i64 Z2; let Z22 := Value.int IntKind.i64 Z3; let Z23 := Value.int IntKind.i64 Z8; let Z24 := Value.int IntKind.i64 Z9; let Z25 := Value.int IntKind.i64 Z10; let Z26 := Value.int IntKind.i64 (50 : Int); let Z27 := Value.int IntKind.i64 Z13; let Z28 := Value.int IntKind.i64 Z15; let Z29 := Value.int IntKind.i64 Z12; let Z30 := Value.int IntKind.i64 Z14; let Z35 := AV.v Z20; let Z55 := Z20 = Z20; let Z70 : List (Int × Span × Span × Span × Span) := [(Z2, (Z14, Z13), (Z8, Z9), (Z3, Z0), Z3, Z1), (Z5, (Z12, Z15), (Z1, Z0), (Z4, Z1), Z6, Z10)]; True ∧ (Z21 = Z21 ∧ Z30 = Z30 ∧ Z27 = Z27 ∧ Z23 = Z23 ∧ Z24 = Z24 ∧ Z22 = Z22 ∧ Z16 = Z16 ∧ Z22 = Z22 ∧ Z55 ∧ True) ∧ True ∧ True ∧ (Z19 = Z19 ∧ Z29 = Z29 ∧ Z28 = Z28 ∧ Z55 ∧ Z16 = Z16 ∧ Z18 = Z18 ∧ Z55 ∧ Z17 = Z17 ∧ Z25 = Z25 ∧ True) ∧ True ∧ (nat_lit 2 = nat_lit 2 ∧ AV.v Z21 = AV.v Z21 ∧ AV.v Z30 = AV.v Z30 ∧ AV.v Z27 = AV.v Z27 ∧ AV.v Z23 = AV.v Z23 ∧ AV.v Z24 = AV.v Z24 ∧ AV.v Z22 = AV.v Z22 ∧ AV.v Z16 = AV.v Z16 ∧ AV.v Z22 = AV.v Z22 ∧ Z35 = Z35 ∧ AV.v Z19 = AV.v Z19 ∧ AV.v Z29 = AV.v Z29 ∧ AV.v Z28 = AV.v Z28 ∧ Z35 = Z35 ∧ AV.v Z16 = AV.v Z16 ∧ AV.v Z18 = AV.v Z18 ∧ Z35 = Z35 ∧ AV.v Z17 = AV.v Z17 ∧ AV.v Z25 = AV.v Z25 ∧ True) ∧ True ∧ ((Z23 = Z23 ∧ Z26 = Z26 ∧ Z21 = Z21 ∧ nat_lit 0 = nat_lit 0 ∧ True) ∧ True) ∧ True ∧ (nat_lit 54 = (54 : TypeId) ∧ Z70 = Z70) ∧ True)
    (by kernel_rfl) ?_
  simp

theorem sample_sound : Sound Try.prog 30 sampleS.con := FSpec.sound _ (enter_of Try.func30 (by kernel_rfl) (by kernel_rfl)) sample_ok
theorem c1 : hardOM ⟨10, 50, 2, [pA, pB]⟩ 5 = ((350, 470), 0) := by decide +kernel
theorem c2 : partsOM ⟨10, 50, 2, [pA, pB]⟩ 5 = (((4, 12), (0, 11), 3, 11), 0) := by decide +kernel
theorem c3 : classOM ⟨10, 50, 2, [pA, pB]⟩ 3 = (3, 0) := by decide +kernel
theorem c4 : strOM ⟨10, 50, 2, [pA, pB]⟩ 3 = (8, 8, 0) := by decide +kernel
theorem c5 : workOM ⟨10, 50, 2, [pA, pB]⟩ 4 6 = ((1050, 1410), 0) := by decide +kernel
theorem c6 : digOM ⟨10, 50, 2, [pA, pB]⟩ = (0, 220, 0) := by decide +kernel
theorem c7 : oddOM ⟨10, 50, 2, [pA, pC, pB]⟩ = (2, 0) := by decide +kernel
def awakeS : FSpec UU where
  X := Unit
  pick := fun args _ => match args with
    | [] => some ()
    | _ => none
  args := fun _ => []
  H := fun _ => []
  R := fun _ => .val ⟨.b true, [], [], []⟩
def Tawake : Tab UU := [(30, sampleS.con), (28, lpitS.con), (23, lspanS.con), (9, hardOS.con), (11, partsOS.con), (13, classOS.con), (21, strOS.con), (15, workOS.con), (29, digOS.con), (22, oddOS.con)]
theorem Tawake_ok : Tawake.Sound Try.prog := .cons sample_sound (.cons lpit_sound (.cons lspan_sound (.cons hardO_sound (.cons partsO_sound (.cons classO_sound (.cons strO_sound (.cons workO_sound (.cons digO_sound (.cons oddO_sound .nil)))))))))
set_option maxHeartbeats 0 in
set_option maxRecDepth 100000 in
theorem awake_ok : ∀ x, awakeS.pre x → FunOk Try.prog 8 (awakeS.args x) (awakeS.H x) (awakeS.R x) := by
  intro x _
  refine fun_of (T := Tawake) (L := fun _ => none) (hs := fun _ => []) hmix Tawake_ok Try.func8 (by kernel_rfl) (by kernel_rfl) ?_
  refine Eq.mp (α :=
      let Z0 := True ∧ True; let Z1 := Value.bool true; let Z2 := Value.bool false; let Z3 := nat_lit 2 < nat_lit 1000000; let Z4 := (↑(nat_lit 2) : Int); let Z5 := nat_lit 0 = nat_lit 0 ∧ nat_lit 2 = nat_lit 2; let Z6 := (0 : Int); let Z7 := (6 : Int); let Z8 := (9 : Int); let Z9 := (2 : Int); let Z10 := (5 : Int); let Z11 := (4 : Int); let Z12 := (3 : Int); let Z13 := (1 : Int); let Z14 := (8 : Int); let Z15 : List (Int × Span × Span × Span × Span) := []; let Z16 := (50 : Int); let Z17 := (11 : Int); let Z18 := (12 : Int); let Z19 := (10 : Int); let Z20 := (20 : Int); let Z21 := (1 : Nat); let Z22 := (0 : Nat); let Z23 := (900 : Int); let Z24 := (350 : Int); let Z25 := (320 : Int); let Z26 := (500 : Int); let Z27 := (520 : Int); let Z28 := (470 : Int); let Z29 := (300 : Int); let Z30 := (220 : Int); let Z31 := (13 : Nat); let Z32 := (1050 : Int); let Z33 := (1410 : Int); let Z34 := nat_lit 0 = nat_lit 0 ∧ Z5; let Z35 := Value.int IntKind.i64 Z11; let Z36 := Value.int IntKind.i64 Z10; let Z37 := Value.int IntKind.i64 Z9; let Z38 := Value.int IntKind.i64 Z12; let Z39 := Value.int IntKind.i64 Z6; let Z40 := Value.int IntKind.i64 Z7; let Z41 := Z1 = Z2; let Z42 := Value.int IntKind.i64 Z20; let Z43 := Value.int IntKind.i64 Z19; let Z44 := Value.int IntKind.i64 Z16; let Z45 := Value.int IntKind.i64 Z17; let Z46 := Value.int IntKind.i64 Z18; let Z47 := Value.int IntKind.i64 Z28; let Z48 := Value.int IntKind.i64 Z23; let Z49 := Value.int IntKind.i64 Z24; let Z50 := Value.int IntKind.i64 Z32; let Z51 := Value.int IntKind.i64 Z33; let Z52 := AV.v Z39; let Z53 := AV.v Z36; let Z54 := AV.v Z42; let Z55 := AV.v Z48; let Z56 := Z41 ∧ True; let Z57 := (Z6, Z6); let Z58 := (Z11, Z7); let Z59 := (Z11, Z10); let Z60 := (Z12, Z10); let Z61 := (Z10, Z7); let Z62 := (Z6, Z20); let Z63 := (Z8, Z17); let Z64 := (Z19, Z18); let Z65 := Z56 ∧ Z0; let Z66 := (Z29, Z25); let Z67 := (Z23, Z23); let Z68 := (Z26, Z27); let Z69 := True ∧ Z65; let Z70 := Z36 = Z36; let Z71 := Z37 = Z37; let Z72 := Z39 = Z39; let Z73 := Z35 = Z35; let Z74 := Z38 = Z38; let Z75 := Z45 = Z45; let Z76 := Z44 = Z44; let Z77 := Z42 = Z42; let Z78 := Z43 = Z43; let Z79 := Z48 = Z48; let Z80 := Z74 ∧ True; let Z81 := Z52 = Z52; let Z82 := Z70 ∧ True; let Z83 := Z54 = Z54; let Z84 := Z75 ∧ True; let Z85 := Z55 = Z55; let Z86 := (Z58, Z59); let Z87 := (Z57, Z57); let Z88 := (Z60, Z63); let Z89 := (Z62, Z62); let Z90 := (Z57, Z87); let Z91 := (Z61, Z88); let Z92 := (Z64, Z86); let Z93 := (Z62, Z89); let Z94 := (Z57, Z90); let Z95 := (Z68, Z91); let Z96 := (Z66, Z92); let Z97 := (Z67, Z93); let Z98 := (Z6, Z94); let Z99 := (Z14, Z95); let Z100 := (Z9, Z96); let Z101 := (Z10, Z97); let Z102 : List (Int × Span × Span × Span × Span) := Z99 :: Z15; let Z103 : List (Int × Span × Span × Span × Span) := Z100 :: Z102; let Z104 := GroundT.mk Z19 Z16 Z9 Z103; let Z105 := digOM Z104; let Z106 := Prod.fst Z105; let Z107 := Prod.snd Z105; let Z108 := strOM Z104 Z12; let Z109 := hardOM Z104 Z10; let Z110 := partsOM Z104 Z10; let Z111 := classOM Z104 Z12; let Z112 := Prod.fst Z107; let Z113 := Prod.snd Z107; let Z114 := Prod.fst Z111; let Z115 := Prod.snd Z111; let Z116 := Prod.snd Z109; let Z117 := Prod.fst Z109; let Z118 := Prod.snd Z110; let Z119 := Prod.fst Z110; let Z120 := Prod.snd Z108; let Z121 := Prod.fst Z108; let Z122 := workOM Z104 Z11 Z7; let Z123 := Prod.snd Z117; let Z124 := Prod.fst Z117; let Z125 := Prod.fst Z120; let Z126 := Prod.snd Z120; let Z127 := Prod.fst Z122; let Z128 := Prod.snd Z122; let Z129 := Prod.snd Z119; let Z130 := Prod.fst Z119; let Z131 := Prod.fst Z127; let Z132 := Prod.snd Z127; let Z133 := Z106 == Z6; let Z134 := Prod.fst Z130; let Z135 := Prod.snd Z130; let Z136 := Prod.snd Z129; let Z137 := Prod.fst Z129; let Z138 := Z113 == Z6; let Z139 := Z114 != Z12; let Z140 := Z115 != Z6; let Z141 := Z112 == Z30; let Z142 := Z116 != Z6; let Z143 := Z118 != Z6; let Z144 := Z121 != Z14; let Z145 := Prod.snd Z137; let Z146 := Prod.snd Z136; let Z147 := Prod.fst Z136; let Z149 := Z125 != Z14; let Z150 := Z126 != Z6; let Z151 := Z124 == Z24; let Z153 := Z128 == Z6; let Z154 := Z123 == Z28 && true; let Z155 := Z131 == Z32; let Z157 := Z134 == Z11; let Z159 := Z132 == Z33 && true; let Z160 := Z135 == Z18 && true; let Z161 := Prod.fst Z137 == Z6; let Z162 := Z147 == Z12; let Z165 := Z145 == Z17 && true; let Z166 := Z146 == Z17 && true; let Z167 := List.getD Z103 (nat_lit 0) Z98; let Z168 := List.getD Z103 (nat_lit 1) Z98; let Z169 := List.getD Z103 Z21 Z98; let Z170 := List.getD Z103 Z22 Z98; let Z171 := Prod.snd Z167; let Z172 := Prod.snd Z168; let Z173 := Prod.fst Z170; let Z174 := Prod.fst Z169; let Z175 := Prod.snd Z169; let Z176 := Prod.snd Z170; let Z177 := Prod.fst Z172; let Z178 := Prod.fst Z171; let Z179 := Prod.snd Z172; let Z180 := Prod.snd Z171; let Z183 := Prod.snd Z175; let Z184 := Prod.fst Z176; let Z185 := Prod.snd Z176; let Z186 := Prod.fst Z175; let Z187 := Value.int IntKind.i64 (Prod.fst Z177); let Z188 := Value.int IntKind.i64 (Prod.fst Z178); let Z189 := Prod.fst Z180; let Z190 := Prod.snd Z179; let Z191 := Prod.snd Z180; let Z192 := Prod.fst Z179; let Z199 := Prod.snd Z190; let Z200 := Prod.snd Z191; let Z201 := Prod.fst Z191; let Z202 := Prod.fst Z190; let Z203 := Prod.snd Z183; let Z204 := Prod.fst Z183; let Z205 := Prod.snd Z185; let Z206 := Prod.fst Z185; let Z207 := Value.int IntKind.i64 (Prod.fst Z189); let Z208 := Value.int IntKind.i64 (Prod.fst Z192); let Z217 := Prod.snd Z205; let Z218 := Prod.fst Z205; let Z219 := Prod.fst Z203; let Z220 := Prod.snd Z203; let Z221 := Value.int IntKind.i64 (Prod.fst Z202); let Z222 := Value.int IntKind.i64 (Prod.fst Z200); let Z223 := Value.int IntKind.i64 (Prod.fst Z199); let Z224 := Value.int IntKind.i64 (Prod.fst Z201); let Z234 := Z103 = Z103 ∧ True; let Z262 : List (Int × Span × Span × Span × Span) := (Z173, (Prod.fst Z178, Prod.snd Z184), (Prod.fst Z189, Prod.snd Z206), (Prod.fst Z201, Prod.snd Z218), Prod.fst Z200, Prod.snd Z217) :: Z101 :: (Z174, (Prod.fst Z177, Prod.snd Z186), (Prod.fst Z192, Prod.snd Z204), (Prod.fst Z202, Prod.snd Z219), Prod.fst Z199, Prod.snd Z220) :: Z15; let Z263 := GroundT.mk Z19 Z16 Z9 Z262; let Z266 := Prod.fst (oddOM Z263) == Z9; True ∧ True ∧ True ∧ Z3 ∧ ((Z78 ∧ Z76 ∧ Z71 ∧ (nat_lit 0 = nat_lit 0 ∧ Z34) ∧ True) ∧ Z82) ∧ Z234 ∧ True ∧ True ∧ True ∧ Z3 ∧ ((Z78 ∧ Z76 ∧ Z71 ∧ (nat_lit 2 = nat_lit 2 ∧ Z34) ∧ True) ∧ Z82) ∧ Z234 ∧ True ∧ True ∧ True ∧ Z3 ∧ ((Z78 ∧ Z76 ∧ Z71 ∧ (nat_lit 6 = nat_lit 6 ∧ Z34) ∧ True) ∧ Z80) ∧ Z234 ∧ True ∧ True ∧ True ∧ Z3 ∧ ((Z78 ∧ Z76 ∧ Z71 ∧ (nat_lit 7 = nat_lit 7 ∧ Z34) ∧ True) ∧ Z80) ∧ Z234 ∧ True ∧ True ∧ True ∧ Z3 ∧ ((Z78 ∧ Z76 ∧ Z71 ∧ (nat_lit 8 = nat_lit 8 ∧ Z34) ∧ True) ∧ Z73 ∧ Z40 = Z40 ∧ True) ∧ Z234 ∧ True ∧ True ∧ True ∧ Z3 ∧ ((Z78 ∧ Z76 ∧ Z71 ∧ (nat_lit 10 = nat_lit 10 ∧ Z34) ∧ True) ∧ True) ∧ Z234 ∧ True ∧ True ∧ True ∧ (Z6 ≤ Z6 ∧ Z6 < Z4) ∧ nat_lit 0 < nat_lit 2 ∧ True ∧ (Z70 ∧ Z79 ∧ Z79 ∧ Z72 ∧ Z77 ∧ Z72 ∧ Z77 ∧ Z72 ∧ Z77 ∧ True) ∧ True ∧ (Z6 ≤ Z13 ∧ Z13 < Z4) ∧ nat_lit 1 < nat_lit 2 ∧ (nat_lit 3 = nat_lit 3 ∧ AV.v (Value.int IntKind.i64 (Prod.fst Z167)) = AV.v (Value.int IntKind.i64 Z173) ∧ AV.v Z188 = AV.v Z188 ∧ AV.v (Value.int IntKind.i64 (Prod.snd Z178)) = AV.v (Value.int IntKind.i64 (Prod.snd Z184)) ∧ AV.v Z207 = AV.v Z207 ∧ AV.v (Value.int IntKind.i64 (Prod.snd Z189)) = AV.v (Value.int IntKind.i64 (Prod.snd Z206)) ∧ AV.v Z224 = AV.v Z224 ∧ AV.v (Value.int IntKind.i64 (Prod.snd Z201)) = AV.v (Value.int IntKind.i64 (Prod.snd Z218)) ∧ AV.v Z222 = AV.v Z222 ∧ AV.v (Value.int IntKind.i64 (Prod.snd Z200)) = AV.v (Value.int IntKind.i64 (Prod.snd Z217)) ∧ Z53 = Z53 ∧ Z85 ∧ Z85 ∧ Z81 ∧ Z83 ∧ Z81 ∧ Z83 ∧ Z81 ∧ Z83 ∧ AV.v (Value.int IntKind.i64 (Prod.fst Z168)) = AV.v (Value.int IntKind.i64 Z174) ∧ AV.v Z187 = AV.v Z187 ∧ AV.v (Value.int IntKind.i64 (Prod.snd Z177)) = AV.v (Value.int IntKind.i64 (Prod.snd Z186)) ∧ AV.v Z208 = AV.v Z208 ∧ AV.v (Value.int IntKind.i64 (Prod.snd Z192)) = AV.v (Value.int IntKind.i64 (Prod.snd Z204)) ∧ AV.v Z221 = AV.v Z221 ∧ AV.v (Value.int IntKind.i64 (Prod.snd Z202)) = AV.v (Value.int IntKind.i64 (Prod.snd Z219)) ∧ AV.v Z223 = AV.v Z223 ∧ AV.v (Value.int IntKind.i64 (Prod.snd Z199)) = AV.v (Value.int IntKind.i64 (Prod.snd Z220)) ∧ True) ∧ nat_lit 3 < nat_lit 1000000 ∧ ((Z78 ∧ Z76 ∧ Z71 ∧ (Z31 = Z31 ∧ nat_lit 0 = nat_lit 0 ∧ nat_lit 0 = nat_lit 0 ∧ nat_lit 3 = nat_lit 3) ∧ True) ∧ True) ∧ (Z262 = Z262 ∧ True) ∧ True ∧ (Z49 = Z49 ∧ Z47 = Z47 ∧ True) ∧ True ∧ ((!(Z151 && Z154)) = true → Z69) ∧ ((!(Z151 && Z154)) = false → (Z142 = true → Z69) ∧ (Z142 = false → True ∧ (Z73 ∧ Z46 = Z46 ∧ True) ∧ True ∧ ((!(Z157 && Z160)) = true → Z69) ∧ ((!(Z157 && Z160)) = false → True ∧ (Z72 ∧ Z84) ∧ True ∧ ((!(Z161 && Z165)) = true → Z69) ∧ ((!(Z161 && Z165)) = false → True ∧ (Z74 ∧ Z84) ∧ True ∧ ((!(Z162 && Z166)) = true → Z69) ∧ ((!(Z162 && Z166)) = false → (Z143 = true → Z69) ∧ (Z143 = false → (Z139 = true → Z69) ∧ (Z139 = false → (Z140 = true → Z69) ∧ (Z140 = false → (Z144 = true → Z69) ∧ (Z144 = false → (Z149 = true → Z69) ∧ (Z149 = false → (Z150 = true → Z69) ∧ (Z150 = false → True ∧ (Z50 = Z50 ∧ Z51 = Z51 ∧ True) ∧ True ∧ ((Z155 && Z159) = true → (Z153 = true → (Z133 = true → (Z141 = true → (Z138 = true → (Z266 = true → True ∧ (Value.bool (Prod.snd (oddOM Z263) == Z6) = Z1 ∧ True) ∧ Z0) ∧ (Z266 = false → Z69)) ∧ (Z138 = false → Z69)) ∧ (Z141 = false → Z69)) ∧ (Z133 = false → Z69)) ∧ (Z153 = false → Z69)) ∧ ((Z155 && Z159) = false → Z69)))))))))))))
    (by kernel_rfl) ?_
  simp only [eq_self, true_and, and_true, Int.toNat_natCast, Nat.zero_add, Nat.sub_zero, Value.int.injEq, Value.bool.injEq, decide_eq_true_eq, decide_eq_false_iff_not]
  simp only [c1, c2, c3, c4, c5, c6]
  simp
  exact ⟨fun _ => congrArg Prod.snd c7, congrArg Prod.fst c7⟩

theorem awake_sound : Sound Try.prog 8 awakeS.con := FSpec.sound _ (enter_of Try.func8 (by kernel_rfl) (by kernel_rfl)) awake_ok
end AE.Soil

namespace AE.Soil
open Go AE Go.Proofs

theorem getD_mem {α : Type} {l : List α} {i : Nat} (d : α) (h : i < l.length) : l.getD i d ∈ l := by
  rw [List.getD_eq_getElem?_getD, List.getElem?_eq_getElem h]; exact List.getElem_mem h
def drawM (by' : List Int) (at' n : Int) : Int := (by'.getD ((at' + 1) % (by'.length : Int)).toNat 0 + 53 * (at' + 1)) % n
def okBy (l : List Int) : Prop := (0 < l.length ∧ l.length < 9223372036854775808) ∧ ∀ x ∈ l, 0 ≤ x ∧ x ≤ 65535
def avBy (H : Heap UU) (id : Nat) : Option (List Int) := match blkAt H id 0 with
  | some (.cells [a] _) => sliceAt .u16 H a
  | some (.rc [a] _) => sliceAt .u16 H a
  | _ => none
def avAt (H : Heap UU) (id : Nat) : Option Int := match blkAt H id 0 with
  | some (.cells [a] _) => avInt a
  | _ => none
def drawS : FSpec UU where
  X := Int × Int × List Int
  pick := fun args H => match args with
    | [n, .ptr i 0 0 0, .ptr j 0 0 0] => match avInt n, avAt H i, avBy H j with
      | some n, some a, some l => some (n, a, l)
      | _, _, _ => none
    | _ => none
  args := fun x => [.i x.1, .ptr 0 0 0 0, .ptr 1 0 0 0]
  H := fun x => [.one (.cells [.i x.2.1] 3), .one (.rc [.sl 2 0 0 x.2.2.length] 38), .one (.ro .u16 x.2.2)]
  R := fun x => .val ⟨.i (drawM x.2.2 x.2.1 x.1), [(0, 0, .cells [.i (x.2.1 + 1)] 3)], [], []⟩
  pre := fun x => (0 < x.1 ∧ x.1 < 100000) ∧ (0 ≤ x.2.1 ∧ x.2.1 < 1000000) ∧ okBy x.2.2
set_option maxHeartbeats 0 in
set_option maxRecDepth 100000 in
theorem draw_ok : ∀ x, drawS.pre x → FunOk Try.prog 45 (drawS.args x) (drawS.H x) (drawS.R x) := by
  rintro ⟨n, a, l⟩ hx
  refine fun_of (T := []) (L := fun _ => none) (hs := fun _ => []) hmix .nil Try.func45 (by kernel_rfl) (by kernel_rfl) ?_
  refine Eq.mp (α :=
      let Z0 := List.length l; let Z1 := (0 : Int); let Z3 := (↑Z0 : Int); let Z4 := a + (1 : Int); let Z5 := IntKind.wrap IntKind.i64 Z4; let Z6 := Int.tmod Z5 Z3; let Z8 := nat_lit 0 + Int.toNat Z6; Z3 ≠ Z1 ∧ (Z1 ≤ Z6 ∧ Z6 < Z3) ∧ Z8 < List.length l ∧ n ≠ Z1 ∧ True ∧ (Value.int IntKind.i64 (Int.tmod (IntKind.wrap IntKind.i64 (IntKind.wrap IntKind.i64 (List.getD l Z8 Z1) + IntKind.wrap IntKind.i64 ((53 : Int) * Z5))) n) = Value.int IntKind.i64 (drawM l a n) ∧ True) ∧ True ∧ (Value.int IntKind.i64 Z5 = Value.int IntKind.i64 Z4 ∧ True) ∧ ((nat_lit 0 = nat_lit 0 ∧ nat_lit 0 = nat_lit 0 ∧ Z0 = Z0) ∧ True) ∧ l = l ∧ True)
    (by kernel_rfl) ?_
  simp only [eq_self, true_and, and_true, Int.toNat_natCast, Nat.zero_add, Nat.sub_zero, Value.int.injEq, Value.bool.injEq, decide_eq_true_eq, decide_eq_false_iff_not]
  obtain ⟨⟨hn0, hn1⟩, ⟨ha0, ha1⟩, ⟨hl0, hl1⟩, hv⟩ := hx
  have hn0' : 0 < n := hn0
  have hn1' : n < 100000 := hn1
  have ha0' : 0 ≤ a := ha0
  have ha1' : a < 1000000 := ha1
  have hl0' : 0 < l.length := hl0
  have e1 : IntKind.i64.wrap (a + 1) = a + 1 := wrap_id (by omega) (by omega)
  have e2 : (a + 1).tmod (l.length : Int) = (a + 1) % (l.length : Int) := Int.tmod_eq_emod_of_nonneg (by omega)
  have hm0 := Int.emod_nonneg (a + 1) (show ((l.length : Nat) : Int) ≠ 0 by omega)
  have hm1 := Int.emod_lt_of_pos (a + 1) (show (0 : Int) < ((l.length : Nat) : Int) by omega)
  have hlt : ((a + 1) % (l.length : Int)).toNat < l.length := by omega
  have hx := hv _ (getD_mem 0 hlt)
  have hx0 : 0 ≤ l.getD ((a + 1) % (l.length : Int)).toNat 0 ∧ l.getD ((a + 1) % (l.length : Int)).toNat 0 ≤ 65535 := hx
  rw [e1, e2]
  refine ⟨by omega, ⟨hm0, hm1⟩, hlt, by omega, ?_, rfl⟩
  unfold drawM
  generalize l.getD ((a + 1) % (l.length : Int)).toNat 0 = v at *
  rw [wrap_id (x := 53 * (a + 1)) (by omega) (by omega), wrap_id (x := v) (by omega) (by omega), wrap_id (by omega) (by omega)]
  exact Int.tmod_eq_emod_of_nonneg (by omega)

theorem draw_sound : Sound Try.prog 45 drawS.con := FSpec.sound _ (enter_of Try.func45 (by kernel_rfl) (by kernel_rfl)) draw_ok
theorem drawM_lt (l : List Int) (a : Int) {n : Int} (h : 0 < n) : 0 ≤ drawM l a n ∧ drawM l a n < n := ⟨Int.emod_nonneg _ (by omega), Int.emod_lt_of_pos _ h⟩
def drawsS : FSpec UU where
  X := List Int
  pick := fun args H => match args with
    | [a] => sliceAt .u16 H a
    | _ => none
  args := fun (x : List Int) => [.sl 0 0 0 x.length]
  H := fun x => [.one (.ro .u16 x)]
  R := fun (x : List Int) => .val ⟨.fn (.func 45) [] [.ptr 2 0 0 0, .ptr 1 0 0 0], [], [], [.cells [.sl 0 0 0 x.length] 38, .cells [.i 0] 3]⟩
set_option maxRecDepth 100000 in
theorem draws_ok : ∀ x, drawsS.pre x → FunOk Try.prog 18 (drawsS.args x) (drawsS.H x) (drawsS.R x) := by
  intro (x : List Int) _
  refine fun_of (T := []) (L := fun _ => none) (hs := fun _ => []) hmix .nil Try.func18 (by kernel_rfl) (by kernel_rfl) ?_
  refine Eq.mp (α :=
      let Z0 := nat_lit 0 = nat_lit 0 ∧ nat_lit 0 = nat_lit 0; let Z3 := Value.int IntKind.i64 (0 : Int); True ∧ ((Fn.func (nat_lit 45) = Fn.func (45 : FuncId) ∧ True ∧ (nat_lit 0 = nat_lit 0 ∧ Z0) ∧ (nat_lit 0 = nat_lit 0 ∧ Z0) ∧ True) ∧ True) ∧ True ∧ x = x ∧ ((nat_lit 0 = nat_lit 0 ∧ nat_lit 0 = nat_lit 0 ∧ List.length x = List.length x) ∧ True) ∧ (Z3 = Z3 ∧ True) ∧ True)
    (by kernel_rfl) ?_
  simp

theorem draws_sound : Sound Try.prog 18 drawsS.con := FSpec.sound _ (enter_of Try.func18 (by kernel_rfl) (by kernel_rfl)) draws_ok
/-! ### a span around a number -/
def aroundM (l : List Int) (a n wide high : Int) : Span := (max 0 (n - drawM l a wide), min high (n + drawM l (a + 1) wide))
def avDr (H : Heap UU) (id : Nat) : Option (Int × List Int) := match blkAt H id 0 with
  | some (.cells [.fn (.func 45) [] [.ptr i 0 0 0, .ptr j 0 0 0]] _) => match avAt H i, avBy H j with
    | some a, some l => some (a, l)
    | _, _ => none
  | some (.rc [.fn (.func 45) [] [.ptr i 0 0 0, .ptr j 0 0 0]] _) => match avAt H i, avBy H j with
    | some a, some l => some (a, l)
    | _, _ => none
  | _ => none
structure AQ where
  n : Int
  wide : Int
  high : Int
  a : Int
  l : List Int
def aroundS : FSpec UU where
  X := AQ
  pick := fun args H => match args with
    | [n, w, h, .ptr i 0 0 0] => match avInt n, avInt w, avInt h, avDr H i with
      | some n, some w, some h, some (a, l) => some ⟨n, w, h, a, l⟩
      | _, _, _, _ => none
    | _ => none
  args := fun x => [.i x.n, .i x.wide, .i x.high, .ptr 0 0 0 0]
  H := fun x => [.one (.rc [.fn (.func 45) [] [.ptr 1 0 0 0, .ptr 2 0 0 0]] 43), .one (.cells [.i x.a] 3), .one (.rc [.sl 3 0 0 x.l.length] 38), .one (.ro .u16 x.l)]
  R := fun x => .val ⟨vSpan (aroundM x.l x.a x.n x.wide x.high), [(1, 0, .cells [.i (x.a + 2)] 3)], [], []⟩
  pre := fun x => ((0 < x.wide ∧ x.wide < 100) ∧ (0 ≤ x.n ∧ x.n ≤ 1000)) ∧ (0 ≤ x.a ∧ x.a < 900000) ∧ okBy x.l
def Taround : Tab UU := [(45, drawS.con), (23, lspanS.con)]
theorem Taround_ok : Taround.Sound Try.prog := .cons draw_sound (.cons lspan_sound .nil)
set_option maxHeartbeats 0 in
set_option maxRecDepth 100000 in
theorem around_ok : ∀ x, aroundS.pre x → FunOk Try.prog 44 (aroundS.args x) (aroundS.H x) (aroundS.R x) := by
  rintro ⟨n, w, h, a, l⟩ hx
  refine fun_of (T := Taround) (L := fun _ => none) (hs := fun _ => [1]) hmix Taround_ok Try.func44 (by kernel_rfl) (by kernel_rfl) ?_
  refine Eq.mp (α :=
      let Z0 := List.length l; let Z2 := Value.int IntKind.i64 w; let Z3 := aroundM l a n w h; let Z5 := (1 : Int); let Z6 := (0 : Int); let Z7 := (45 : FuncId); let Z8 := (65535 : Int); let Z9 := l = l; let Z11 := nat_lit 0 < Z0; let Z12 := (1000000 : Int); let Z14 := nat_lit 0 = nat_lit 0 ∧ nat_lit 0 = nat_lit 0 ∧ nat_lit 0 = nat_lit 0; let Z19 := Z6 < w; let Z20 := Z0 < nat_lit 9223372036854775808; let Z21 := fun (x : Int) => x ∈ l; let Z25 := w < (100000 : Int); let Z27 := a + Z5; let Z28 := nat_lit 0 = nat_lit 0 ∧ nat_lit 0 = nat_lit 0 ∧ Z0 = Z0; let Z32 := Value.int IntKind.i64 Z27; let Z40 := Value.int IntKind.i64 (max Z6 (IntKind.wrap IntKind.i64 (n - drawM l a w))); let Z46 := Value.int IntKind.i64 (min h (IntKind.wrap IntKind.i64 (n + drawM l Z27 w))); ((Z19 ∧ Z25) ∧ (Z6 ≤ a ∧ a < Z12) ∧ (Z11 ∧ Z20) ∧ ∀ (x : Int), Z21 x → Z6 ≤ x ∧ x ≤ Z8) ∧ (Z2 = Z2 ∧ Z14 ∧ Z14 ∧ True) ∧ ((Value.int IntKind.i64 a = Value.int IntKind.i64 a ∧ True) ∧ (Z28 ∧ True) ∧ Z9 ∧ True) ∧ ((Z19 ∧ Z25) ∧ (Z6 ≤ Z27 ∧ Z27 < Z12) ∧ (Z11 ∧ Z20) ∧ ∀ (x : Int), Z21 x → Z6 ≤ x ∧ x ≤ Z8) ∧ (Z2 = Z2 ∧ Z14 ∧ Z14 ∧ True) ∧ ((Z32 = Z32 ∧ True) ∧ (Z28 ∧ True) ∧ Z9 ∧ True) ∧ True ∧ (Z40 = Z40 ∧ Z46 = Z46 ∧ True) ∧ True ∧ True ∧ ((Z40 = Value.int IntKind.i64 (Prod.fst Z3) ∧ Z46 = Value.int IntKind.i64 (Prod.snd Z3) ∧ True) ∧ True) ∧ True ∧ ((Fn.func Z7 = Fn.func Z7 ∧ True ∧ Z14 ∧ Z14 ∧ True) ∧ True) ∧ (Value.int IntKind.i64 (Z27 + Z5) = Value.int IntKind.i64 (a + (2 : Int)) ∧ True) ∧ (Z28 ∧ True) ∧ Z9 ∧ True)
    (by kernel_rfl) ?_
  simp only [eq_self, true_and, and_true, Int.toNat_natCast, Nat.zero_add, Nat.sub_zero, Value.int.injEq, Value.bool.injEq, decide_eq_true_eq, decide_eq_false_iff_not]
  obtain ⟨⟨⟨w0, w1⟩, n0, n1⟩, ⟨a0, a1⟩, hby⟩ := hx
  have w0' : 0 < w := w0
  have w1' : w < 100 := w1
  have n0' : 0 ≤ n := n0
  have n1' : n ≤ 1000 := n1
  have a0' : 0 ≤ a := a0
  have a1' : a < 900000 := a1
  have d1 := drawM_lt l a w0'
  have d2 := drawM_lt l (a + 1) w0'
  rw [show IntKind.i64.wrap (n - drawM l a w) = n - drawM l a w from wrap_id (by omega) (by omega), show IntKind.i64.wrap (n + drawM l (a + 1) w) = n + drawM l (a + 1) w from wrap_id (by omega) (by omega)]
  exact ⟨⟨⟨w0', by omega⟩, ⟨a0', by omega⟩, hby⟩, ⟨⟨w0', by omega⟩, ⟨by omega, by omega⟩, hby⟩, ⟨rfl, rfl⟩, by omega⟩

theorem around_sound : Sound Try.prog 44 aroundS.con := FSpec.sound _ (enter_of Try.func44 (by kernel_rfl) (by kernel_rfl)) around_ok
/-! ### inside -/
def insideM (s : Span) (n : Int) : Bool := decide (s.1 ≤ n) && decide (n ≤ s.2)
def insideS : FSpec UU where
  X := Span × Int
  pick := fun args _ => match args with
    | [.agg [a, b], n] => match avInt a, avInt b, avInt n with
      | some a, some b, some n => some ((a, b), n)
      | _, _, _ => none
    | _ => none
  args := fun x => [vSpan x.1, .i x.2]
  H := fun _ => []
  R := fun x => .val ⟨.b (insideM x.1 x.2), [], [], []⟩
set_option maxRecDepth 100000 in
theorem inside_ok : ∀ x, insideS.pre x → FunOk Try.prog 19 (insideS.args x) (insideS.H x) (insideS.R x) := by
  rintro ⟨⟨a, b⟩, n⟩ _
  refine fun_of (T := []) (L := fun _ => none) (hs := fun _ => []) hmix .nil Try.func19 (by kernel_rfl) (by kernel_rfl) ?_
  refine Eq.mp (α :=
      let Z1 := insideM (a, b) n; let Z3 := decide (a ≤ n); (Z3 = true → True ∧ (Value.bool (decide (n ≤ b)) = Value.bool Z1 ∧ True) ∧ True ∧ True) ∧ (Z3 = false → True ∧ (Value.bool Z1 = Value.bool false ∧ True) ∧ True ∧ True))
    (by kernel_rfl) ?_
  simp [insideM]
  exact ⟨fun h _ => h, fun h1 h2 => absurd h2 (by omega)⟩

theorem inside_sound : Sound Try.prog 19 insideS.con := FSpec.sound _ (enter_of Try.func19 (by kernel_rfl) (by kernel_rfl)) inside_ok
/-! ### the class of a mix -/
def rclayM (m : Int × Int) : Int := W (W (20 - m.1) - m.2)
def rclayS : FSpec UU where
  X := Int × Int
  pick := fun args _ => match args with
    | [.agg [a, b]] => match avInt a, avInt b with
      | some a, some b => some (a, b)
      | _, _ => none
    | _ => none
  args := fun x => [.agg [.i x.1, .i x.2]]
  H := fun _ => []
  R := fun x => .val ⟨.i (rclayM x), [], [], []⟩
set_option maxRecDepth 100000 in
theorem rclay_ok : ∀ x, rclayS.pre x → FunOk Try.prog 38 (rclayS.args x) (rclayS.H x) (rclayS.R x) := by
  rintro ⟨a, b⟩ _
  refine fun_of (T := []) (L := fun _ => none) (hs := fun _ => []) hmix .nil Try.func38 (by kernel_rfl) (by kernel_rfl) ?_
  refine Eq.mp (α :=
      True ∧ (Value.int IntKind.i64 (IntKind.wrap IntKind.i64 (IntKind.wrap IntKind.i64 ((20 : Int) - a) - b)) = Value.int IntKind.i64 (rclayM (a, b)) ∧ True) ∧ True ∧ True)
    (by kernel_rfl) ?_
  simp [rclayM]

theorem rclay_sound : Sound Try.prog 38 rclayS.con := FSpec.sound _ (enter_of Try.func38 (by kernel_rfl) (by kernel_rfl)) rclay_ok
def rofM (m : Int × Int) : Int := if rclayM m ≥ 8 then 3 else if m.1 ≥ 14 then 1 else if m.2 ≥ 12 then 2 else 0
def rofS : FSpec UU where
  X := Int × Int
  pick := fun args _ => match args with
    | [.agg [a, b]] => match avInt a, avInt b with
      | some a, some b => some (a, b)
      | _, _ => none
    | _ => none
  args := fun x => [.agg [.i x.1, .i x.2]]
  H := fun _ => []
  R := fun x => .val ⟨.i (rofM x), [], [], []⟩
def Trof : Tab UU := [(38, rclayS.con)]
theorem Trof_ok : Trof.Sound Try.prog := .cons rclay_sound .nil
set_option maxRecDepth 100000 in
theorem rof_ok : ∀ x, rofS.pre x → FunOk Try.prog 46 (rofS.args x) (rofS.H x) (rofS.R x) := by
  rintro ⟨a, b⟩ _
  refine fun_of (T := Trof) (L := fun _ => none) (hs := fun _ => []) hmix Trof_ok Try.func46 (by kernel_rfl) (by kernel_rfl) ?_
  refine Eq.mp (α :=
      let Z0 := True ∧ True; let Z1 := (a, b); let Z7 := Value.int IntKind.i64 (rofM Z1); let Z11 := decide (a ≥ (14 : Int)); let Z12 := decide (b ≥ (12 : Int)); let Z13 := decide (rclayM Z1 ≥ (8 : Int)); True ∧ ((Value.int IntKind.i64 a = Value.int IntKind.i64 a ∧ Value.int IntKind.i64 b = Value.int IntKind.i64 b ∧ True) ∧ True) ∧ True ∧ (Z13 = true → True ∧ (Value.int IntKind.i64 (3 : Int) = Z7 ∧ True) ∧ Z0) ∧ (Z13 = false → (Z11 = true → True ∧ (Value.int IntKind.i64 (1 : Int) = Z7 ∧ True) ∧ Z0) ∧ (Z11 = false → (Z12 = true → True ∧ (Value.int IntKind.i64 (2 : Int) = Z7 ∧ True) ∧ Z0) ∧ (Z12 = false → True ∧ (Value.int IntKind.i64 (0 : Int) = Z7 ∧ True) ∧ Z0))))
    (by kernel_rfl) ?_
  simp only [eq_self, true_and, and_true, Int.toNat_natCast, Nat.zero_add, Nat.sub_zero, Value.int.injEq, Value.bool.injEq, decide_eq_true_eq, decide_eq_false_iff_not]
  unfold rofM
  refine ⟨fun h => (if_pos h).symm, fun h => ⟨fun h1 => ?_, fun h1 => ⟨fun h2 => ?_, fun h2 => ?_⟩⟩⟩
  · rw [if_neg h, if_pos h1]
  · rw [if_neg h, if_neg h1, if_pos h2]
  · rw [if_neg h, if_neg h1, if_neg h2]

theorem rof_sound : Sound Try.prog 46 rofS.con := FSpec.sound _ (enter_of Try.func46 (by kernel_rfl) (by kernel_rfl)) rof_ok
abbrev Pl4 := Int × Int × Int × Int
def vPlace (p : Pl4) : AV := .agg [.i p.1, .i p.2.1, .i p.2.2.1, .i p.2.2.2]
def pclassS : FSpec UU where
  X := Pl4
  pick := fun args _ => match args with
    | [.agg [a, b, c, d]] => match avInt a, avInt b, avInt c, avInt d with
      | some a, some b, some c, some d => some (a, b, c, d)
      | _, _, _, _ => none
    | _ => none
  args := fun x => [vPlace x]
  H := fun _ => []
  R := fun x => .val ⟨.i (rofM (x.2.1, x.2.2.1)), [], [], []⟩
def Tpclass : Tab UU := [(46, rofS.con)]
theorem Tpclass_ok : Tpclass.Sound Try.prog := .cons rof_sound .nil
set_option maxRecDepth 100000 in
theorem pclass_ok : ∀ x, pclassS.pre x → FunOk Try.prog 20 (pclassS.args x) (pclassS.H x) (pclassS.R x) := by
  rintro ⟨a, b, c, d⟩ _
  refine fun_of (T := Tpclass) (L := fun _ => none) (hs := fun _ => []) hmix Tpclass_ok Try.func20 (by kernel_rfl) (by kernel_rfl) ?_
  refine Eq.mp (α :=
      let Z1 := Value.int IntKind.i64 (rofM (b, c)); True ∧ ((Value.int IntKind.i64 b = Value.int IntKind.i64 b ∧ Value.int IntKind.i64 c = Value.int IntKind.i64 c ∧ True) ∧ True) ∧ True ∧ True ∧ (Z1 = Z1 ∧ True) ∧ True ∧ True)
    (by kernel_rfl) ?_
  simp only [eq_self, true_and, and_true, Int.toNat_natCast, Nat.zero_add, Nat.sub_zero, Value.int.injEq, Value.bool.injEq, decide_eq_true_eq, decide_eq_false_iff_not]

theorem pclass_sound : Sound Try.prog 20 pclassS.con := FSpec.sound _ (enter_of Try.func20 (by kernel_rfl) (by kernel_rfl)) pclass_ok
end AE.Soil

namespace AE.Soil
open Go AE Go.Proofs

abbrev MSt := Pl4 × Int × List Pl4 × List PitT
def hstepM (l : List Int) (rise c h : Int) : Int := min 1000 (max 0 (h + drawM l c (2 * rise + 1) - rise))
def pgetM (p : Pl4) (i : Int) : Int := if i = 0 then p.2.1 else if i = 1 then p.2.2.1 else p.2.2.2
def paddM (p : Pl4) (i d : Int) : Pl4 := (p.1, p.2.1 + (if i = 0 then d else 0), p.2.2.1 + (if i = 1 then d else 0), p.2.2.2 + (if i = 2 then d else 0))
def howM (l : List Int) (change c : Int) (p : Pl4) : Int := min (pgetM p (drawM l (c + 1) 3)) (drawM l (c + 1 + 1 + 1) (change + 1))
def moveM (l : List Int) (change c : Int) (p : Pl4) : Pl4 × Int := if drawM l (c + 1) 3 = drawM l (c + 1 + 1) 3 then (p, c + 1 + 1 + 1) else (paddM (paddM p (drawM l (c + 1) 3) (-(howM l change c p))) (drawM l (c + 1 + 1) 3) (howM l change c p), c + 1 + 1 + 1 + 1)
def goM (l : List Int) (rise change : Int) (k : Nat) (p : Pl4) (c : Int) : Pl4 × Int := if k = 0 then (p, c) else moveM l change c (hstepM l rise c p.1, p.2)
def pitDM (l : List Int) (k : Nat) (p : Pl4) (c : Int) : PitT := ((k : Int), aroundM l c p.1 30 1000, aroundM l (c + 2) p.2.1 3 20, aroundM l (c + 2 + 2) p.2.2.1 3 20, aroundM l (c + 2 + 2 + 2) p.2.2.2 3 20)
def putM (l : List Int) (k : Nat) (s : MSt) (q : Pl4 × Int) : MSt := if drawM l q.2 3 = 0 ∧ s.2.2.2.length < 8 then (q.1, q.2 + 1 + 2 + 2 + 2 + 2, s.2.2.1 ++ [q.1], s.2.2.2 ++ [pitDM l k q.1 (q.2 + 1)]) else (q.1, q.2 + 1, s.2.2.1 ++ [q.1], s.2.2.2)
def mlongM (l : List Int) : Int := drawM l 0 13
def mriseM (l : List Int) : Int := drawM l 1 60
def mchM (l : List Int) : Int := drawM l 2 4
def mnM (l : List Int) : Nat := (mlongM l + 1).toNat
def stM (l : List Int) : Nat → MSt
  | 0 => ((200 + drawM l 3 600, drawM l 4 21, drawM l 5 (21 - drawM l 4 21), 20 - drawM l 4 21 - drawM l 5 (21 - drawM l 4 21)), 6, [], [])
  | k + 1 => putM l k (stM l k) (goM l (mriseM l) (mchM l) k (stM l k).1 (stM l k).2.1)
/-! ### what is drawn stays within bounds -/
structure PB (p : Pl4) : Prop where
  h : 0 ≤ p.1 ∧ p.1 ≤ 1000
  a : 0 ≤ p.2.1
  b : 0 ≤ p.2.2.1
  c : 0 ≤ p.2.2.2
  s : p.2.1 + p.2.2.1 + p.2.2.2 = 20
theorem d3_cases (l : List Int) (c : Int) : drawM l c 3 = 0 ∨ drawM l c 3 = 1 ∨ drawM l c 3 = 2 := by
  have := drawM_lt l c (show (0 : Int) < 3 by decide); omega
theorem rise_b (l : List Int) : 0 ≤ mriseM l ∧ mriseM l ≤ 60 := by have := drawM_lt l 1 (show (0 : Int) < 60 by decide); unfold mriseM; omega
theorem ch_b (l : List Int) : 0 ≤ mchM l ∧ mchM l ≤ 4 := by have := drawM_lt l 2 (show (0 : Int) < 4 by decide); unfold mchM; omega
theorem long_b (l : List Int) : 0 ≤ mlongM l ∧ mlongM l ≤ 12 := by have := drawM_lt l 0 (show (0 : Int) < 13 by decide); unfold mlongM; omega
theorem mn_b (l : List Int) : ((mnM l : Nat) : Int) = mlongM l + 1 ∧ mnM l ≤ 13 := by have := long_b l; unfold mnM; omega
theorem how_b (l : List Int) {ch c : Int} (hc : 0 ≤ ch) {p : Pl4} (h : PB p) : 0 ≤ howM l ch c p ∧ howM l ch c p ≤ pgetM p (drawM l (c + 1) 3) ∧ howM l ch c p ≤ ch := by
  have h1 := drawM_lt l (c + 1 + 1 + 1) (show 0 < ch + 1 by omega)
  have h2 : 0 ≤ pgetM p (drawM l (c + 1) 3) := by
    have := h.a; have := h.b; have := h.c
    unfold pgetM; split
    · assumption
    · split <;> assumption
  unfold howM; omega
theorem move_b (l : List Int) {ch c : Int} (hc : 0 ≤ ch) {p : Pl4} (h : PB p) : PB (moveM l ch c p).1 ∧ c + 3 ≤ (moveM l ch c p).2 ∧ (moveM l ch c p).2 ≤ c + 4 ∧ (moveM l ch c p).1.1 = p.1 := by
  obtain ⟨n0, n1, _⟩ := how_b l (c := c) hc h
  obtain ⟨h1, h2, h3, h4, h5⟩ := h
  unfold moveM
  split
  · exact ⟨⟨h1, h2, h3, h4, h5⟩, by show c + 3 ≤ c + 1 + 1 + 1; omega, by show c + 1 + 1 + 1 ≤ c + 4; omega, rfl⟩
  · rename_i hne
    refine ⟨?_, by show c + 3 ≤ c + 1 + 1 + 1 + 1; omega, by show c + 1 + 1 + 1 + 1 ≤ c + 4; omega, rfl⟩
    revert n0 n1
    generalize howM l ch c p = n
    intro n0 n1
    rcases d3_cases l (c + 1) with e1 | e1 | e1 <;> rcases d3_cases l (c + 1 + 1) with e2 | e2 | e2 <;> rw [e1, e2] at hne <;> first | (exact absurd rfl hne) | skip
    all_goals
      rw [e1] at n1
      rw [e1, e2]
      simp only [pgetM, paddM, if_pos, if_neg, show ((1 : Int) = 0) = False by decide, show ((2 : Int) = 0) = False by decide, show ((2 : Int) = 1) = False by decide, show ((0 : Int) = 1) = False by decide, show ((0 : Int) = 2) = False by decide, show ((1 : Int) = 2) = False by decide, if_true, if_false] at n1 ⊢
      exact ⟨h1, by dsimp only; omega, by dsimp only; omega, by dsimp only; omega, by dsimp only; omega⟩
theorem go_b (l : List Int) (k : Nat) {p : Pl4} {c : Int} (h : PB p) : PB (goM l (mriseM l) (mchM l) k p c).1 ∧ c ≤ (goM l (mriseM l) (mchM l) k p c).2 ∧ (goM l (mriseM l) (mchM l) k p c).2 ≤ c + 4 := by
  unfold goM
  split
  · exact ⟨h, Int.le_refl _, by show c ≤ c + 4; omega⟩
  · have hp : PB (hstepM l (mriseM l) c p.1, p.2) := ⟨by unfold hstepM; dsimp only; omega, h.a, h.b, h.c, h.s⟩
    obtain ⟨m1, m2, m3, _⟩ := move_b l (c := c) (ch_b l).1 hp
    exact ⟨m1, by omega, m3⟩
structure SB (k : Nat) (s : MSt) : Prop where
  p : PB s.1
  c : 6 ≤ s.2.1 ∧ s.2.1 ≤ 6 + 13 * k
  l : s.2.2.1.length = k
  t : s.2.2.2.length ≤ 8
theorem st_b (l : List Int) : ∀ k, SB k (stM l k)
  | 0 => by
    have h1 := drawM_lt l 3 (show (0 : Int) < 600 by decide)
    have h2 := drawM_lt l 4 (show (0 : Int) < 21 by decide)
    have h3 := drawM_lt l 5 (show (0 : Int) < 21 - drawM l 4 21 by omega)
    exact ⟨⟨by show 0 ≤ 200 + drawM l 3 600 ∧ 200 + drawM l 3 600 ≤ 1000; omega, h2.1, h3.1, by show 0 ≤ 20 - drawM l 4 21 - drawM l 5 (21 - drawM l 4 21); omega, by show drawM l 4 21 + drawM l 5 (21 - drawM l 4 21) + (20 - drawM l 4 21 - drawM l 5 (21 - drawM l 4 21)) = 20; omega⟩, ⟨Int.le_refl _, by show (6 : Int) ≤ _; omega⟩, rfl, by show 0 ≤ 8; omega⟩
  | k + 1 => by
    obtain ⟨p, c, ll, t⟩ := st_b l k
    obtain ⟨g1, g2, g3⟩ := go_b l k (c := (stM l k).2.1) p
    show SB (k + 1) (putM l k (stM l k) (goM l (mriseM l) (mchM l) k (stM l k).1 (stM l k).2.1))
    unfold putM
    split
    · rename_i hc
      exact ⟨g1, ⟨by show _ ≤ _ + 1 + 2 + 2 + 2 + 2; omega, by show _ + 1 + 2 + 2 + 2 + 2 ≤ _; omega⟩, by simp [ll], by simp; omega⟩
    · exact ⟨g1, ⟨by show _ ≤ _ + 1; omega, by show _ + 1 ≤ _; omega⟩, by simp [ll], t⟩
theorem put_yes {l : List Int} {k : Nat} {q : Pl4 × Int} (hg : goM l (mriseM l) (mchM l) k (stM l k).1 (stM l k).2.1 = q) (h1 : drawM l q.2 3 = 0) (h2 : (stM l k).2.2.2.length < 8) : stM l (k + 1) = (q.1, q.2 + 1 + 2 + 2 + 2 + 2, (stM l k).2.2.1 ++ [q.1], (stM l k).2.2.2 ++ [pitDM l k q.1 (q.2 + 1)]) := by
  show putM l k (stM l k) (goM l (mriseM l) (mchM l) k (stM l k).1 (stM l k).2.1) = _
  rw [hg]; exact if_pos ⟨h1, h2⟩
theorem put_no {l : List Int} {k : Nat} {q : Pl4 × Int} (hg : goM l (mriseM l) (mchM l) k (stM l k).1 (stM l k).2.1 = q) (h : ¬ (drawM l q.2 3 = 0 ∧ (stM l k).2.2.2.length < 8)) : stM l (k + 1) = (q.1, q.2 + 1, (stM l k).2.2.1 ++ [q.1], (stM l k).2.2.2) := by
  show putM l k (stM l k) (goM l (mriseM l) (mchM l) k (stM l k).1 (stM l k).2.1) = _
  rw [hg]; exact if_neg h
theorem made_tail {l : List Int} (hby : okBy l) {k : Nat} (hk : k < mnM l) {ph p1 p2 p3 c : Int} (hg : goM l (mriseM l) (mchM l) k (stM l k).1 (stM l k).2.1 = ((ph, p1, p2, p3), c)) :
    1 ≤ 1 ∧ (stM l k).2.2.1.length + 1 ≤ 1099511627776 ∧ (((0 : Int) < 3 ∧ (3 : Int) < 100000) ∧ (0 ≤ c ∧ c < 1000000) ∧ (0 < l.length ∧ l.length < 9223372036854775808) ∧ ∀ (x : Int), x ∈ l → 0 ≤ x ∧ x ≤ 65535) ∧
    ((drawM l c 3 == 0) = true → (((stM l k).2.2.2.length : Int) < 8 →
      ((((0 : Int) < 30 ∧ (30 : Int) < 100) ∧ 0 ≤ ph ∧ ph ≤ 1000) ∧ (0 ≤ c + 1 ∧ c + 1 < 900000) ∧ (0 < l.length ∧ l.length < 9223372036854775808) ∧ ∀ (x : Int), x ∈ l → 0 ≤ x ∧ x ≤ 65535) ∧
      ((((0 : Int) < 3 ∧ (3 : Int) < 100) ∧ 0 ≤ p1 ∧ p1 ≤ 1000) ∧ (0 ≤ c + 1 + 2 ∧ c + 1 + 2 < 900000) ∧ (0 < l.length ∧ l.length < 9223372036854775808) ∧ ∀ (x : Int), x ∈ l → 0 ≤ x ∧ x ≤ 65535) ∧
      ((((0 : Int) < 3 ∧ (3 : Int) < 100) ∧ 0 ≤ p2 ∧ p2 ≤ 1000) ∧ (0 ≤ c + 1 + 2 + 2 ∧ c + 1 + 2 + 2 < 900000) ∧ (0 < l.length ∧ l.length < 9223372036854775808) ∧ ∀ (x : Int), x ∈ l → 0 ≤ x ∧ x ≤ 65535) ∧
      ((((0 : Int) < 3 ∧ (3 : Int) < 100) ∧ 0 ≤ p3 ∧ p3 ≤ 1000) ∧ (0 ≤ c + 1 + 2 + 2 + 2 ∧ c + 1 + 2 + 2 + 2 < 900000) ∧ (0 < l.length ∧ l.length < 9223372036854775808) ∧ ∀ (x : Int), x ∈ l → 0 ≤ x ∧ x ≤ 65535) ∧
      1 ≤ 1 ∧ (stM l k).2.2.2.length + 1 ≤ 1099511627776 ∧ ∃ x : { k : Nat // k ≤ mnM l }, (IntKind.i64.wrap ((k : Int) + 1) = (x.1 : Int) ∧ c + 1 + 2 + 2 + 2 + 2 = (stM l x.1).2.1 ∧ (ph = (stM l x.1).1.1 ∧ p1 = (stM l x.1).1.2.1 ∧ p2 = (stM l x.1).1.2.2.1 ∧ p3 = (stM l x.1).1.2.2.2) ∧ (stM l k).2.2.1 ++ List.take 1 (List.drop 0 [(ph, p1, p2, p3)]) = (stM l x.1).2.2.1 ∧
        (stM l k).2.2.2 ++ List.take 1 (List.drop 0 [((k : Int), aroundM l (c + 1) ph 30 1000, aroundM l (c + 1 + 2) p1 3 20, aroundM l (c + 1 + 2 + 2) p2 3 20, aroundM l (c + 1 + 2 + 2 + 2) p3 3 20)]) = (stM l x.1).2.2.2) ∧ mnM l - x.1 < mnM l - k) ∧
      (¬ ((stM l k).2.2.2.length : Int) < 8 → ∃ x : { k : Nat // k ≤ mnM l }, (IntKind.i64.wrap ((k : Int) + 1) = (x.1 : Int) ∧ c + 1 = (stM l x.1).2.1 ∧ (ph = (stM l x.1).1.1 ∧ p1 = (stM l x.1).1.2.1 ∧ p2 = (stM l x.1).1.2.2.1 ∧ p3 = (stM l x.1).1.2.2.2) ∧ (stM l k).2.2.1 ++ List.take 1 (List.drop 0 [(ph, p1, p2, p3)]) = (stM l x.1).2.2.1 ∧ (stM l k).2.2.2 = (stM l x.1).2.2.2) ∧ mnM l - x.1 < mnM l - k)) ∧
    ((drawM l c 3 == 0) = false → ∃ x : { k : Nat // k ≤ mnM l }, (IntKind.i64.wrap ((k : Int) + 1) = (x.1 : Int) ∧ c + 1 = (stM l x.1).2.1 ∧ (ph = (stM l x.1).1.1 ∧ p1 = (stM l x.1).1.2.1 ∧ p2 = (stM l x.1).1.2.2.1 ∧ p3 = (stM l x.1).1.2.2.2) ∧ (stM l k).2.2.1 ++ List.take 1 (List.drop 0 [(ph, p1, p2, p3)]) = (stM l x.1).2.2.1 ∧ (stM l k).2.2.2 = (stM l x.1).2.2.2) ∧ mnM l - x.1 < mnM l - k) := by
  obtain ⟨sp, sc, sl, st⟩ := st_b l k
  obtain ⟨gp, g2, g3⟩ := go_b l k (c := (stM l k).2.1) sp
  rw [hg] at gp g2 g3
  obtain ⟨q1, q2, q3, q4, q5⟩ := gp
  have q1' : 0 ≤ ph ∧ ph ≤ 1000 := q1
  have q2' : 0 ≤ p1 := q2
  have q3' : 0 ≤ p2 := q3
  have q4' : 0 ≤ p3 := q4
  have q5' : p1 + p2 + p3 = 20 := q5
  have g2' : (stM l k).2.1 ≤ c := g2
  have g3' : c ≤ (stM l k).2.1 + 4 := g3
  have hm := mn_b l
  have hsu := sucI k (by omega)
  refine ⟨Nat.le_refl _, by omega, ⟨⟨by decide, by decide⟩, ⟨by omega, by omega⟩, hby⟩, fun hd => ⟨fun h8 => ⟨⟨⟨⟨by decide, by decide⟩, q1'⟩, ⟨by omega, by omega⟩, hby⟩, ⟨⟨⟨by decide, by decide⟩, q2', by omega⟩, ⟨by omega, by omega⟩, hby⟩, ⟨⟨⟨by decide, by decide⟩, q3', by omega⟩, ⟨by omega, by omega⟩, hby⟩, ⟨⟨⟨by decide, by decide⟩, q4', by omega⟩, ⟨by omega, by omega⟩, hby⟩, Nat.le_refl _, by omega, ⟨k + 1, hk⟩, ?_, dec1 hk⟩, fun h8 => ⟨⟨k + 1, hk⟩, ?_, dec1 hk⟩⟩, fun hd => ⟨⟨k + 1, hk⟩, ?_, dec1 hk⟩⟩
  · have hd' : drawM l c 3 = 0 := by simpa using hd
    rw [put_yes hg hd' (by omega)]
    exact ⟨hsu, rfl, ⟨rfl, rfl, rfl, rfl⟩, rfl, rfl⟩
  · rw [put_no hg (fun h => by have := h.2; omega)]
    exact ⟨hsu, rfl, ⟨rfl, rfl, rfl, rfl⟩, rfl, rfl⟩
  · have hd' : ¬ drawM l c 3 = 0 := by simpa using hd
    rw [put_no hg (fun h => hd' h.1)]
    exact ⟨hsu, rfl, ⟨rfl, rfl, rfl, rfl⟩, rfl, rfl⟩
theorem go_same {l : List Int} {k : Nat} (hk : (k : Int) > 0) {p : Pl4} {c : Int} (he : drawM l (c + 1) 3 = drawM l (c + 1 + 1) 3) : goM l (mriseM l) (mchM l) k p c = ((hstepM l (mriseM l) c p.1, p.2.1, p.2.2.1, p.2.2.2), c + 1 + 1 + 1) := by
  unfold goM moveM
  rw [if_neg (by omega), if_pos he]
theorem go_move {l : List Int} {k : Nat} (hk : (k : Int) > 0) {p : Pl4} {c : Int} {i j : Int} (hi : drawM l (c + 1) 3 = i) (hj : drawM l (c + 1 + 1) 3 = j) (hij : i ≠ j) : goM l (mriseM l) (mchM l) k p c = (paddM (paddM (hstepM l (mriseM l) c p.1, p.2) i (-(min (pgetM p i) (drawM l (c + 1 + 1 + 1) (mchM l + 1))))) j (min (pgetM p i) (drawM l (c + 1 + 1 + 1) (mchM l + 1))), c + 1 + 1 + 1 + 1) := by
  unfold goM moveM howM
  rw [if_neg (by omega), if_neg (by rw [hi, hj]; exact hij), hi, hj]; rfl
def madeL (l : List Int) : LSpec UU where
  T := { k : Nat // k ≤ mnM l }
  fr := fun k => [(1, .ptr 3 0 0 0), (2, .ptr 4 0 0 0), (3, .gs 6 0), (4, .ptr 5 0 0 0), (5, .fn (.func 44) [] [.ptr 3 0 0 0]), (42, .i (mnM l : Nat)), (43, .i k.1)]
  H := fun k => [.one (.cells [.i (stM l k.1).2.1] 3), .one (.rc [.sl 2 0 0 l.length] 38), .one (.ro .u16 l), .one (.cells [.fn (.func 45) [] [.ptr 0 0 0 0, .ptr 1 0 0 0]] 43), .one (.cells [.i (mlongM l), .i (mriseM l), .i (mchM l), .gs 7 0] 24), .one (.cells [.i (stM l k.1).1.1, .i (stM l k.1).1.2.1, .i (stM l k.1).1.2.2.1, .i (stM l k.1).1.2.2.2] 46), .one (.row .place (stM l k.1).2.2.1 46), .one (.row .pit (stM l k.1).2.2.2 54)]
  mu := fun k => mnM l - k.1
def Tmade : Tab UU := [(45, drawS.con), (44, aroundS.con)]
theorem Tmade_ok : Tmade.Sound Try.prog := .cons draw_sound (.cons around_sound .nil)
def avClo (H : Heap UU) : AV → Option (Int × List Int)
  | .fn (.func 45) [] [.ptr i 0 0 0, .ptr j 0 0 0] => match avAt H i, avBy H j with
    | some a, some l => some (a, l)
    | _, _ => none
  | _ => none
def madeS : FSpec UU where
  X := List Int
  pick := fun args H => match args with
    | [a] => match avClo H a with
      | some (_, l) => some l
      | none => none
    | _ => none
  args := fun _ => [.fn (.func 45) [] [.ptr 0 0 0 0, .ptr 1 0 0 0]]
  H := fun (l : List Int) => [.one (.cells [.i 0] 3), .one (.rc [.sl 2 0 0 l.length] 38), .one (.ro .u16 l)]
  R := fun (l : List Int) => .val ⟨.tup [.agg [.i (mlongM l), .i (mriseM l), .i (mchM l), .gs 3 0], .gs 4 0], [(0, 0, .cells [.i (stM l (mnM l)).2.1] 3)], [], [.row .pit (stM l (mnM l)).2.2.2 54, .row .place (stM l (mnM l)).2.2.1 46]⟩
  pre := fun (l : List Int) => okBy l
set_option maxHeartbeats 0 in
set_option maxRecDepth 100000 in
theorem made_ok : ∀ x, madeS.pre x → FunOk Try.prog 17 (madeS.args x) (madeS.H x) (madeS.R x) := by
  intro (l : List Int) hx
  refine fun_of (T := Tmade) (L := fun _ => some (.inv (madeL l))) (hs := fun _ => [0]) hmix Tmade_ok Try.func17 (by kernel_rfl) (by kernel_rfl) ?_
  refine Eq.mp (α :=
      let Z0 := mchM l; let Z1 := True ∧ True; let Z2 := mriseM l; let Z3 := mlongM l; let Z4 : Option Addr := none; let Z5 := List.length l; let Z6 := !true; let Z7 := !false; let Z8 := nat_lit 0 = nat_lit 0 ∧ True; let Z9 := nat_lit 1 ≤ nat_lit 1; let Z10 := True ∧ Z1; let Z11 := stM l (mnM l); let Z12 := (↑(nat_lit 3) : Int); let Z13 := nat_lit 0 = nat_lit 0 ∧ nat_lit 0 = nat_lit 0; let Z14 := (0 : Int); let Z15 := (2 : Int); let Z16 := (3 : Int); let Z17 := (4 : Int); let Z18 := (8 : Int); let Z19 := (1 : Int); let Z20 : List (Int × Span × Span × Span × Span) := []; let Z21 := (20 : Int); let Z22 := (13 : Int); let Z23 := (60 : Int); let Z24 := (30 : Int); let Z25 := (21 : Int); let Z26 : List (Int × Int × Int × Int) := []; let Z27 := (0 : Nat); let Z28 := (1 : Nat); let Z29 := Value.slice Z4 (nat_lit 0) (nat_lit 0); let Z30 := (2 : Nat); let Z31 := (100 : Int); let Z32 := (600 : Int); let Z33 := True ∧ Z10; let Z34 := Value.int IntKind.i64 Z0; let Z35 := fun (k : Nat) => k ≤ mnM l; let Z36 := (1000 : Int); let Z37 := Value.int IntKind.i64 Z3; let Z38 := Value.int IntKind.i64 Z2; let Z39 := Z6 = true; let Z40 := l = l; let Z41 := (44 : FuncId); let Z42 := (45 : FuncId); let Z43 := (65535 : Int); let Z44 := Z6 = false; let Z45 := (46 : TypeId); let Z46 := (54 : TypeId); let Z47 := Z7 = true; let Z48 := Z7 = false; let Z49 := (100000 : Int); let Z50 := (900000 : Int); let Z51 := (↑(mnM l) : Int); let Z52 := nat_lit 0 < Z5; let Z53 := (1000000 : Int); let Z54 := Z5 = Z5; let Z55 := nat_lit 0 = nat_lit 0 ∧ Z13; let Z56 := Fn.func Z41; let Z57 := Fn.func Z42; let Z58 := Z40 ∧ True; let Z59 := nat_lit 46 = Z45; let Z60 := nat_lit 54 = Z46; let Z61 := Value.int IntKind.i64 Z16; let Z62 := Value.int IntKind.i64 Z17; let Z63 := Value.int IntKind.i64 Z14; let Z64 := Value.int IntKind.i64 Z21; let Z65 := Value.int IntKind.i64 Z24; let Z66 := Value.int IntKind.i64 Z23; let Z67 := Value.int IntKind.i64 Z22; let Z68 := Value.int IntKind.i64 Z25; let Z69 := Value.int IntKind.i64 Z32; let Z70 := Z55 ∧ True; let Z71 := fun (x : Int) => Z14 ≤ x; let Z72 := Z5 < nat_lit 9223372036854775808; let Z73 := fun (x : Int) => x ∈ l; let Z74 := Value.int IntKind.i64 Z36; let Z75 : Type := { k : Nat // Z35 k }; let Z76 := (↑Z28 : Int); let Z77 := (↑Z27 : Int); let Z78 := (↑Z30 : Int); let Z79 := Value.int IntKind.i64 Z51; let Z80 := nat_lit 0 = nat_lit 0 ∧ Z54; let Z81 := fun (x : Int) => x ≤ Z43; let Z82 := fun (x : Z75) => Subtype.val x; let Z83 := True ∧ Z70; let Z84 := Z29 = Z29; let Z85 := fun (x : Z75) => stM l (Z82 x); let Z86 := drawM l Z14 Z22; let Z87 := Z34 = Z34; let Z88 := nat_lit 0 = nat_lit 0 ∧ Z80; let Z89 := Z38 = Z38; let Z90 := Z37 = Z37; let Z91 := Z14 < Z16; let Z92 := Z14 < Z24; let Z93 := Z46 = Z46; let Z94 := Z16 < Z31; let Z95 := Prod.snd Z11; let Z96 := Z0 + Z19; let Z97 := Z88 ∧ True; let Z98 := Z24 < Z31; let Z99 := fun (x : Z75) => (↑(Z82 x) : Int); let Z100 := Z15 * Z2; let Z101 := Z16 < Z49; let Z102 := Z57 = Z57; let Z103 := Z56 = Z56; let Z104 := Z52 ∧ Z72; let Z105 := Z14 + Z19; let Z106 := Z55 ∧ Z70; let Z107 := Z87 ∧ Z8; let Z108 := fun (x : Z75) => Value.int IntKind.i64 (Z99 x); let Z109 := Z61 = Z61; let Z110 := IntKind.wrap IntKind.i64 Z96; let Z111 := IntKind.wrap IntKind.i64 Z100; let Z112 := True ∧ Z106; let Z113 := Z64 = Z64; let Z114 := Z65 = Z65; let Z115 := fun (t : Z75) => AV.v (Z108 t); let Z116 := fun (x : Z75) => mnM l - Z82 x; let Z117 := Z74 = Z74; let Z118 := fun (x : Int) => Z71 x ∧ Z81 x; let Z119 := Value.int IntKind.i64 Z105; let Z120 := Z79 = Z79; let Z121 := Value.int IntKind.i64 Z110; let Z122 := Prod.snd Z95; let Z123 := fun (x : Z75) => Prod.snd (Z85 x); let Z124 := fun (x : Z75) => Prod.fst (Z85 x); let Z125 := Z97 ∧ Z58; let Z126 := fun (t : Z75) => Z99 t > Z14; let Z127 := fun (t : Z75) => Z99 t < Z51; let Z128 := fun (t : Z75) => Z99 t + Z19; let Z129 := Z14 < Z110; let Z130 := Z103 ∧ Z83; let Z131 := fun (x : Z75) => Prod.fst (Z124 x); let Z132 := Z110 < Z49; let Z133 := fun (x : Z75) => Prod.snd (Z124 x); let Z134 := Z91 ∧ Z94; let Z135 := Z113 ∧ Z70; let Z136 := Z92 ∧ Z98; let Z137 := Z105 + Z19; let Z138 := Z91 ∧ Z101; let Z139 := fun (x : Int) => Z73 x → Z118 x; let Z140 := Z117 ∧ Z70; let Z141 := fun (x : Z75) => Prod.fst (Z123 x); let Z142 := fun (x : Z75) => Prod.snd (Z123 x); let Z143 := fun (t : Z75) => IntKind.wrap IntKind.i64 (Z128 t); let Z144 := Z111 + Z19; let Z145 := ∀ (x : Int), Z139 x; let Z146 := Z89 ∧ Z107; let Z147 := fun (x : Z75) => Value.int IntKind.i64 (Z131 x); let Z148 := fun (x : Z75) => Prod.fst (Z133 x); let Z149 := fun (x : Z75) => Prod.snd (Z133 x); let Z150 := fun (t : Z75) => AV.v (Z147 t); let Z151 := Value.int IntKind.i64 Z137; let Z152 := fun (t : Z75) => Z124 t :: Z26; let Z153 := fun (x : Z75) => Value.int IntKind.i64 (Z141 x); let Z154 := fun (t : Z75) => Value.int IntKind.i64 (Z143 t); let Z155 := IntKind.wrap IntKind.i64 Z144; let Z156 := fun (x : Z75) => Prod.fst (Z149 x); let Z157 := fun (x : Z75) => Prod.snd (Z149 x); let Z158 := Z102 ∧ Z112; let Z159 := fun (x : Z75) => Value.int IntKind.i64 (Z148 x); let Z160 := Z109 ∧ Z106; let Z161 := fun (x : Z75) => Prod.fst (Z142 x); let Z162 := fun (x : Z75) => Prod.snd (Z142 x); let Z163 := fun (t : Z75) => AV.v (Z159 t); let Z164 := Z158 ∧ True; let Z165 := fun (t : Z75) => drawM l (Z141 t) Z16; let Z166 := Value.int IntKind.i64 Z155; let Z167 := fun (x : Z75) => Value.int IntKind.i64 (Z156 x); let Z168 := fun (x : Z75) => Value.int IntKind.i64 (Z157 x); let Z169 := fun (t : Z75) => Z14 ≤ Z141 t; let Z170 := fun (t : Z75) => Z115 t = Z115 t; let Z171 := fun (t : Z75) => AV.v (Z168 t); let Z172 := fun (t : Z75) => AV.v (Z167 t); let Z173 := fun (t : Z75) => Z141 t < Z53; let Z174 := fun (t : Z75) => Z14 ≤ Z148 t; let Z175 := Z137 + Z19; let Z176 := fun (x t : Z75) => Z116 x < Z116 t; let Z177 := fun (t : Z75) => Z148 t ≤ Z36; let Z178 := fun (t : Z75) => List.length (Z162 t); let Z179 := fun (t : Z75) => List.length (Z161 t); let Z180 := fun (t : Z75) => Z141 t + Z19; let Z181 := fun (t : Z75) => Z14 ≤ Z157 t; let Z182 := fun (t : Z75) => Z14 ≤ Z156 t; let Z183 := fun (t : Z75) => List.drop Z27 (Z152 t); let Z184 := fun (t : Z75) => Z157 t ≤ Z36; let Z185 := fun (t : Z75) => Z156 t ≤ Z36; let Z186 := Z121 = Z121; let Z187 := Value.int IntKind.i64 Z175; let Z188 := Z90 ∧ Z146; let Z189 := fun (t : Z75) => Value.int IntKind.i64 (Z180 t); let Z190 := fun (t : Z75) => (↑(Z178 t) : Int); let Z191 := fun (t : Z75) => decide (Z126 t); let Z192 := Z109 ∧ Z135; let Z193 := Z104 ∧ Z145; let Z194 := Z114 ∧ Z140; let Z195 := fun (t : Z75) => Z178 t + nat_lit 1; let Z196 := fun (t : Z75) => drawM l (Z180 t) Z16; let Z197 := fun (t : Z75) => decide (Z127 t); let Z198 := fun (t : Z75) => Z179 t + nat_lit 1; let Z199 := fun (t : Z75) => Z165 t == Z14; let Z200 := fun (t : Z75) => Z14 ≤ Z180 t; let Z201 := fun (t x : Z75) => Z154 t = Z108 x; let Z202 := Z175 + Z19; let Z203 := fun (t : Z75) => Z195 t ≤ nat_lit 1099511627776; let Z204 := fun (t : Z75) => Z180 t + Z15; let Z205 := fun (t : Z75) => Z180 t + Z19; let Z206 := fun (t : Z75) => List.take Z28 (Z183 t); let Z207 := fun (t : Z75) => Z190 t < Z18; let Z208 := fun (t : Z75) => Z198 t ≤ nat_lit 1099511627776; let Z209 := fun (t x : Z75) => Z201 t x ∧ True; let Z210 := Z129 ∧ Z132; let Z211 := Value.int IntKind.i64 Z202; let Z212 := fun (t : Z75) => Value.int IntKind.i64 (Z204 t); let Z213 := fun (t : Z75) => Value.int IntKind.i64 (Z205 t); let Z214 := drawM l Z202 Z25; let Z215 := fun (t : Z75) => drawM l (Z205 t) Z16; let Z216 := Z186 ∧ Z106; let Z217 := fun (t : Z75) => Z14 ≤ Z205 t; let Z218 := fun (t : Z75) => Z205 t < Z53; let Z219 := fun (t x : Z75) => Z147 t = Z147 x; let Z220 := Z202 + Z19; let Z221 := fun (t : Z75) => Z204 t + Z15; let Z222 := fun (t : Z75) => Z205 t + Z19; let Z223 := fun (t : Z75) => drawM l (Z141 t) Z155; let Z224 := fun (t : Z75) => Z153 t = Z153 t; let Z225 := Value.int IntKind.i64 Z220; let Z226 := fun (t : Z75) => Z215 t < Z12; let Z227 := fun (t : Z75) => Value.int IntKind.i64 (Z222 t); let Z228 := fun (t : Z75) => Value.int IntKind.i64 (Z221 t); let Z229 := fun (t : Z75) => Z14 ≤ Z215 t; let Z230 := fun (t : Z75) => Z224 t ∧ True; let Z231 := fun (t : Z75) => Z215 t = Z76; let Z232 := fun (t : Z75) => Z215 t = Z78; let Z233 := fun (t : Z75) => Z215 t = Z77; let Z234 := Z25 - Z214; let Z235 := fun (t : Z75) => Z159 t = Z159 t; let Z236 := fun (t x : Z75) => Z159 t = Z159 x; let Z237 := fun (t : Z75) => drawM l (Z222 t) Z16; let Z238 := fun (t : Z75) => Z163 t = Z163 t; let Z239 := fun (t : Z75) => Z14 ≤ Z222 t; let Z240 := fun (t x : Z75) => Z120 ∧ Z209 t x; let Z241 := fun (t : Z75) => Z222 t < Z53; let Z242 := IntKind.wrap IntKind.i64 Z234; let Z243 := fun (t x : Z75) => Z162 t = Z162 x; let Z244 := fun (t : Z75) => Z222 t + Z19; let Z245 := fun (t : Z75) => Z167 t = Z167 t; let Z246 := fun (t : Z75) => Z221 t + Z15; let Z247 := fun (t x : Z75) => Z168 t = Z168 x; let Z248 := fun (t x : Z75) => Z167 t = Z167 x; let Z249 := fun (t : Z75) => Z168 t = Z168 t; let Z250 := fun (t : Z75) => Z169 t ∧ Z173 t; let Z251 := fun (t : Z75) => Z172 t = Z172 t; let Z252 := fun (t x : Z75) => Z247 t x ∧ True; let Z253 := fun (t : Z75) => Z171 t = Z171 t; let Z254 := Value.int IntKind.i64 Z242; let Z255 := fun (t x : Z75) => Z189 t = Z153 x; let Z256 := fun (t : Z75) => Z253 t ∧ True; let Z257 := fun (t : Z75) => Value.int IntKind.i64 (Z244 t); let Z258 := fun (t : Z75) => Value.int IntKind.i64 (Z246 t); let Z259 := fun (t x : Z75) => Z255 t x ∧ True; let Z260 := fun (t : Z75) => Z174 t ∧ Z177 t; let Z261 := fun (t : Z75) => aroundM l (Z180 t) (Z131 t) Z24 Z36; let Z262 := fun (t : Z75) => drawM l (Z244 t) Z16; let Z263 := fun (t : Z75) => Prod.fst (Z261 t); let Z264 := fun (t : Z75) => Prod.snd (Z261 t); let Z265 := fun (t : Z75) => drawM l (Z222 t) Z110; let Z266 := fun (t : Z75) => Z14 ≤ Z244 t; let Z267 := fun (t : Z75) => Z237 t == Z14; let Z268 := fun (t : Z75) => Z244 t < Z50; let Z269 := fun (t : Z75) => Z244 t < Z53; let Z270 := fun (t : Z75) => Z181 t ∧ Z184 t; let Z271 := fun (t : Z75) => Z182 t ∧ Z185 t; let Z272 := fun (t : Z75) => Value.int IntKind.i64 (Z263 t); let Z273 := fun (t : Z75) => Value.int IntKind.i64 (Z264 t); let Z274 := fun (t : Z75) => Z267 t = true; let Z275 := fun (t : Z75) => Z267 t = false; let Z276 := fun (t : Z75) => Z244 t + Z19; let Z277 := fun (t : Z75) => Z244 t + Z15; let Z278 := fun (t : Z75) => AV.v (Z273 t); let Z279 := fun (t : Z75) => AV.v (Z272 t); let Z280 := fun (t x : Z75) => Z93 ∧ Z243 t x; let Z281 := fun (t : Z75) => Z189 t = Z189 t; let Z282 := fun (t : Z75) => Z230 t ∧ Z125; let Z283 := fun (t x : Z75) => Z280 t x ∧ True; let Z284 := fun (t : Z75) => Value.int IntKind.i64 (Z277 t); let Z285 := fun (t : Z75) => Value.int IntKind.i64 (Z276 t); let Z286 := fun (t : Z75) => Z281 t ∧ True; let Z287 := fun (t : Z75) => Z14 ≤ Z276 t; let Z288 := fun (t : Z75) => Z14 ≤ Z277 t; let Z289 := fun (t : Z75) => aroundM l (Z204 t) (Z148 t) Z16 Z21; let Z290 := fun (t : Z75) => Z262 t == Z14; let Z291 := fun (t : Z75) => Z276 t < Z50; let Z292 := fun (t : Z75) => Z277 t < Z50; let Z293 := fun (t : Z75) => Prod.snd (Z289 t); let Z294 := fun (t : Z75) => Prod.fst (Z289 t); let Z295 := fun (t : Z75) => Z131 t + Z223 t; let Z296 := fun (t : Z75) => Z290 t = true; let Z297 := fun (t : Z75) => Z290 t = false; let Z298 := fun (t : Z75) => Z277 t + Z15; let Z299 := fun (t : Z75) => Z276 t + Z15; let Z300 := fun (t x : Z75) => Z130 ∧ Z240 t x; let Z301 := fun (t : Z75) => Value.int IntKind.i64 (Z294 t); let Z302 := fun (t : Z75) => Value.int IntKind.i64 (Z293 t); let Z303 := fun (t : Z75) => IntKind.wrap IntKind.i64 (Z295 t); let Z304 := fun (t : Z75) => Value.int IntKind.i64 (Z299 t); let Z305 := fun (t : Z75) => Value.int IntKind.i64 (Z298 t); let Z306 := fun (t : Z75) => AV.v (Z301 t); let Z307 := fun (t : Z75) => AV.v (Z302 t); let Z308 := fun (t : Z75) => decide (Z207 t); let Z309 := fun (t : Z75) => Z14 ≤ Z299 t; let Z310 := fun (t : Z75) => Z14 ≤ Z298 t; let Z311 := fun (t : Z75) => Z134 ∧ Z260 t; let Z312 := fun (t x : Z75) => Z55 ∧ Z300 t x; let Z313 := fun (t : Z75) => Z299 t < Z50; let Z314 := fun (t : Z75) => Z298 t < Z50; let Z315 := fun (t : Z75) => Z308 t = true; let Z316 := fun (t : Z75) => Z308 t = false; let Z317 := fun (t : Z75) => aroundM l (Z221 t) (Z156 t) Z16 Z21; let Z318 := fun (t : Z75) => Z298 t + Z15; let Z319 := fun (t : Z75) => Z299 t + Z15; let Z320 := fun (t x : Z75) => nat_lit 0 = nat_lit 0 ∧ Z312 t x; let Z321 := fun (t : Z75) => Z303 t - Z2; let Z322 := fun (t : Z75) => Prod.snd (Z317 t); let Z323 := fun (t : Z75) => Prod.fst (Z317 t); let Z324 := fun (t x : Z75) => Z257 t = Z153 x; let Z325 := fun (t : Z75) => Z213 t = Z213 t; let Z326 := fun (t : Z75) => Z286 t ∧ Z125; let Z327 := fun (t : Z75) => Z134 ∧ Z271 t; let Z328 := fun (t : Z75) => Z134 ∧ Z270 t; let Z329 := fun (t : Z75) => Value.int IntKind.i64 (Z319 t); let Z330 := fun (t : Z75) => Value.int IntKind.i64 (Z318 t); let Z331 := fun (t x : Z75) => Z324 t x ∧ True; let Z332 := fun (t : Z75) => Z325 t ∧ True; let Z333 := fun (t : Z75) => IntKind.wrap IntKind.i64 (Z321 t); let Z334 := fun (t : Z75) => Value.int IntKind.i64 (Z323 t); let Z335 := fun (t : Z75) => Value.int IntKind.i64 (Z322 t); let Z336 := fun (t : Z75) => AV.v (Z335 t); let Z337 := fun (t : Z75) => AV.v (Z334 t); let Z338 := fun (t : Z75) => Z235 t ∧ Z192; let Z339 := fun (t : Z75) => Z161 t ++ Z206 t; let Z340 := fun (t : Z75) => min (Z148 t) (Z265 t); let Z341 := fun (t : Z75) => Z14 ≤ Z318 t; let Z342 := fun (t : Z75) => Z14 ≤ Z319 t; let Z343 := fun (t x : Z75) => Z55 ∧ Z320 t x; let Z344 := fun (t : Z75) => Z319 t < Z50; let Z345 := fun (t : Z75) => Z318 t < Z50; let Z346 := fun (t : Z75) => min (Z157 t) (Z265 t); let Z347 := fun (t : Z75) => min (Z156 t) (Z265 t); let Z348 := fun (t : Z75) => aroundM l (Z246 t) (Z157 t) Z16 Z21; let Z349 := fun (t : Z75) => Z249 t ∧ Z192; let Z350 := fun (t : Z75) => Z245 t ∧ Z192; let Z351 := fun (t : Z75) => Z319 t + Z15; let Z352 := fun (t : Z75) => Z318 t + Z15; let Z353 := fun (t : Z75) => max Z14 (Z333 t); let Z354 := fun (t : Z75) => Z217 t ∧ Z218 t; let Z355 := fun (t : Z75) => Z250 t ∧ Z193; let Z356 := fun (t : Z75) => Prod.snd (Z348 t); let Z357 := fun (t : Z75) => Prod.fst (Z348 t); let Z358 := fun (t x : Z75) => Z285 t = Z153 x; let Z359 := fun (t : Z75) => Value.int IntKind.i64 (Z352 t); let Z360 := fun (t : Z75) => Value.int IntKind.i64 (Z351 t); let Z361 := fun (t x : Z75) => Z358 t x ∧ True; let Z362 := fun (t x : Z75) => Z55 ∧ Z343 t x; let Z363 := fun (t : Z75) => Value.int IntKind.i64 (Z357 t); let Z364 := fun (t : Z75) => Value.int IntKind.i64 (Z356 t); let Z365 := fun (t : Z75) => AV.v (Z364 t); let Z366 := fun (t : Z75) => AV.v (Z363 t); let Z367 := fun (t : Z75) => aroundM l (Z277 t) (Z148 t) Z16 Z21; let Z368 := fun (t : Z75) => Z14 ≤ Z351 t; let Z369 := fun (t : Z75) => Z351 t < Z50; let Z370 := fun (t : Z75) => min Z36 (Z353 t); let Z371 := fun (t : Z75) => Prod.fst (Z367 t); let Z372 := fun (t : Z75) => Prod.snd (Z367 t); let Z373 := fun (t : Z75) => Z351 t + Z15; let Z374 := fun (t : Z75) => Z229 t ∧ Z226 t; let Z375 := fun (t : Z75) => Value.int IntKind.i64 (Z370 t); let Z376 := fun (t : Z75) => Z227 t = Z227 t; let Z377 := fun (t : Z75) => Value.int IntKind.i64 (Z372 t); let Z378 := fun (t : Z75) => Value.int IntKind.i64 (Z371 t); let Z379 := fun (t : Z75) => AV.v (Z375 t); let Z380 := fun (t : Z75) => Z332 t ∧ Z125; let Z381 := fun (t : Z75) => Value.int IntKind.i64 (Z373 t); let Z382 := fun (t : Z75) => AV.v (Z378 t); let Z383 := fun (t : Z75) => AV.v (Z377 t); let Z384 := fun (t : Z75) => Z376 t ∧ True; let Z385 := drawM l Z220 Z242; let Z386 := fun (t : Z75) => Z14 ≤ Z370 t; let Z387 := fun (t : Z75) => Z370 t ≤ Z36; let Z388 := fun (t : Z75) => aroundM l (Z299 t) (Z148 t) Z16 Z21; let Z389 := fun (t : Z75) => aroundM l (Z298 t) (Z156 t) Z16 Z21; let Z390 := fun (t : Z75) => Prod.fst (Z388 t); let Z391 := fun (t : Z75) => Prod.snd (Z388 t); let Z392 := fun (t : Z75) => Z239 t ∧ Z241 t; let Z393 := fun (t : Z75) => Prod.fst (Z389 t); let Z394 := fun (t : Z75) => Prod.snd (Z389 t); let Z395 := fun (t : Z75) => Value.int IntKind.i64 (Z390 t); let Z396 := fun (t : Z75) => Value.int IntKind.i64 (Z391 t); let Z397 := fun (t : Z75) => AV.v (Z395 t); let Z398 := fun (t : Z75) => AV.v (Z396 t); let Z399 := fun (t : Z75) => Value.int IntKind.i64 (Z394 t); let Z400 := fun (t : Z75) => Value.int IntKind.i64 (Z393 t); let Z401 := fun (t : Z75) => AV.v (Z400 t); let Z402 := fun (t : Z75) => AV.v (Z399 t); let Z403 := fun (t x : Z75) => Z248 t x ∧ Z252 t x; let Z404 := fun (t : Z75) => Z148 t + Z340 t; let Z405 := fun (t : Z75) => Z148 t - Z340 t; let Z406 := fun (t : Z75) => aroundM l (Z318 t) (Z157 t) Z16 Z21; let Z407 := fun (t : Z75) => aroundM l (Z319 t) (Z156 t) Z16 Z21; let Z408 := fun (t : Z75) => Z251 t ∧ Z256 t; let Z409 := fun (t x : Z75) => Z339 t = Z161 x; let Z410 := fun (t : Z75) => Z148 t + Z346 t; let Z411 := fun (t : Z75) => Prod.fst (Z407 t); let Z412 := fun (t : Z75) => Prod.snd (Z407 t); let Z413 := fun (t : Z75) => Z157 t + Z340 t; let Z414 := fun (t : Z75) => Z148 t + Z347 t; let Z415 := fun (t : Z75) => Z156 t + Z340 t; let Z416 := fun (t : Z75) => Prod.fst (Z406 t); let Z417 := fun (t : Z75) => Prod.snd (Z406 t); let Z418 := fun (t x : Z75) => Z359 t = Z153 x; let Z419 := fun (t : Z75) => Z257 t = Z257 t; let Z420 := fun (t : Z75) => IntKind.wrap IntKind.i64 (Z404 t); let Z421 := fun (t : Z75) => IntKind.wrap IntKind.i64 (Z405 t); let Z422 := fun (t : Z75) => Z384 t ∧ Z125; let Z423 := fun (t : Z75) => Z419 t ∧ True; let Z424 := fun (t x : Z75) => Z418 t x ∧ True; let Z425 := fun (t : Z75) => Z157 t - Z346 t; let Z426 := fun (t : Z75) => Z157 t + Z347 t; let Z427 := fun (t : Z75) => Z157 t + Z346 t; let Z428 := fun (t : Z75) => Z156 t - Z347 t; let Z429 := fun (t : Z75) => Z156 t + Z346 t; let Z430 := fun (t : Z75) => Z156 t + Z347 t; let Z431 := fun (t : Z75) => Value.int IntKind.i64 (Z411 t); let Z432 := fun (t : Z75) => Value.int IntKind.i64 (Z417 t); let Z433 := fun (t : Z75) => Value.int IntKind.i64 (Z416 t); let Z434 := fun (t : Z75) => Value.int IntKind.i64 (Z412 t); let Z435 := fun (t : Z75) => IntKind.wrap IntKind.i64 (Z410 t); let Z436 := fun (t : Z75) => IntKind.wrap IntKind.i64 (Z414 t); let Z437 := fun (t : Z75) => IntKind.wrap IntKind.i64 (Z413 t); let Z438 := fun (t : Z75) => IntKind.wrap IntKind.i64 (Z415 t); let Z439 := fun (t : Z75) => AV.v (Z432 t); let Z440 := fun (t : Z75) => AV.v (Z431 t); let Z441 := fun (t : Z75) => AV.v (Z433 t); let Z442 := fun (t : Z75) => AV.v (Z434 t); let Z443 := fun (t : Z75) => Value.int IntKind.i64 (Z421 t); let Z444 := fun (t : Z75) => Value.int IntKind.i64 (Z420 t); let Z445 := fun (t : Z75) => AV.v (Z444 t); let Z446 := fun (t : Z75) => AV.v (Z443 t); let Z447 := fun (t : Z75) => (Z370 t, Z133 t); let Z448 := fun (t : Z75) => IntKind.wrap IntKind.i64 (Z429 t); let Z449 := fun (t : Z75) => IntKind.wrap IntKind.i64 (Z426 t); let Z450 := fun (t : Z75) => IntKind.wrap IntKind.i64 (Z430 t); let Z451 := fun (t : Z75) => IntKind.wrap IntKind.i64 (Z428 t); let Z452 := fun (t : Z75) => IntKind.wrap IntKind.i64 (Z427 t); let Z453 := fun (t : Z75) => IntKind.wrap IntKind.i64 (Z425 t); let Z454 := fun (t x : Z75) => Z59 ∧ Z409 t x; let Z455 := fun (t : Z75) => Value.int IntKind.i64 (Z438 t); let Z456 := fun (t : Z75) => Value.int IntKind.i64 (Z435 t); let Z457 := fun (t : Z75) => Value.int IntKind.i64 (Z437 t); let Z458 := fun (t : Z75) => Value.int IntKind.i64 (Z436 t); let Z459 := fun (t : Z75) => AV.v (Z457 t); let Z460 := fun (t : Z75) => AV.v (Z456 t); let Z461 := fun (t : Z75) => AV.v (Z458 t); let Z462 := fun (t : Z75) => AV.v (Z455 t); let Z463 := fun (t x : Z75) => Z375 t = Z147 x; let Z464 := fun (t : Z75) => aroundM l (Z351 t) (Z157 t) Z16 Z21; let Z465 := fun (t : Z75) => Z14 ≤ Z421 t; let Z466 := fun (t : Z75) => Value.int IntKind.i64 (Z452 t); let Z467 := fun (t : Z75) => Value.int IntKind.i64 (Z449 t); let Z468 := fun (t : Z75) => Value.int IntKind.i64 (Z450 t); let Z469 := fun (t : Z75) => Value.int IntKind.i64 (Z448 t); let Z470 := fun (t : Z75) => Value.int IntKind.i64 (Z451 t); let Z471 := fun (t : Z75) => Value.int IntKind.i64 (Z453 t); let Z472 := fun (t : Z75) => Z421 t ≤ Z36; let Z473 := fun (t : Z75) => AV.v (Z469 t); let Z474 := fun (t : Z75) => AV.v (Z466 t); let Z475 := fun (t : Z75) => AV.v (Z471 t); let Z476 := fun (t : Z75) => AV.v (Z470 t); let Z477 := fun (t : Z75) => AV.v (Z468 t); let Z478 := fun (t : Z75) => AV.v (Z467 t); let Z479 := fun (t : Z75) => Z266 t ∧ Z268 t; let Z480 := fun (t : Z75) => Z354 t ∧ Z193; let Z481 := fun (t : Z75) => Z266 t ∧ Z269 t; let Z482 := fun (t : Z75) => Prod.snd (Z464 t); let Z483 := fun (t : Z75) => Prod.fst (Z464 t); let Z484 := fun (t x : Z75) => Z381 t = Z153 x; let Z485 := fun (t x : Z75) => Z484 t x ∧ True; let Z486 := fun (t : Z75) => Z14 ≤ Z453 t; let Z487 := fun (t : Z75) => Z14 ≤ Z451 t; let Z488 := fun (t : Z75) => Value.int IntKind.i64 (Z483 t); let Z489 := fun (t : Z75) => Value.int IntKind.i64 (Z482 t); let Z490 := fun (t : Z75) => Z453 t ≤ Z36; let Z491 := fun (t : Z75) => Z451 t ≤ Z36; let Z492 := fun (t : Z75) => AV.v (Z488 t); let Z493 := fun (t : Z75) => AV.v (Z489 t); let Z494 := fun (t : Z75) => Z447 t :: Z26; let Z495 := fun (t : Z75) => Z284 t = Z284 t; let Z496 := fun (t : Z75) => Z285 t = Z285 t; let Z497 := fun (t : Z75) => Z423 t ∧ Z125; let Z498 := fun (t : Z75) => Z496 t ∧ True; let Z499 := fun (t : Z75) => Z495 t ∧ True; let Z500 := fun (t : Z75) => List.drop Z27 (Z494 t); let Z501 := fun (t : Z75) => Z287 t ∧ Z291 t; let Z502 := fun (t : Z75) => Z288 t ∧ Z292 t; let Z503 := fun (t : Z75) => Z392 t ∧ Z193; let Z504 := fun (t : Z75) => (Z420 t, Z149 t); let Z505 := fun (t : Z75) => List.take Z28 (Z500 t); let Z506 := fun (t : Z75) => (Z438 t, Z157 t); let Z507 := fun (t : Z75) => Z138 ∧ Z480 t; let Z508 := fun (t : Z75) => (Z156 t, Z437 t); let Z509 := fun (t x : Z75) => Z443 t = Z159 x; let Z510 := fun (t x : Z75) => Z444 t = Z159 x; let Z511 := fun (t : Z75) => (Z156 t, Z453 t); let Z512 := fun (t : Z75) => (Z451 t, Z157 t); let Z513 := fun (t : Z75) => (Z156 t, Z452 t); let Z514 := fun (t : Z75) => (Z450 t, Z157 t); let Z515 := fun (t x : Z75) => Z458 t = Z159 x; let Z516 := fun (t x : Z75) => Z456 t = Z159 x; let Z517 := fun (t x : Z75) => Z457 t = Z168 x; let Z518 := fun (t x : Z75) => Z455 t = Z167 x; let Z519 := fun (t : Z75) => Z304 t = Z304 t; let Z520 := fun (t : Z75) => Z305 t = Z305 t; let Z521 := fun (t x : Z75) => Z517 t x ∧ True; let Z522 := fun (t : Z75) => Z499 t ∧ Z125; let Z523 := fun (t : Z75) => Z498 t ∧ Z125; let Z524 := fun (t x : Z75) => Z466 t = Z168 x; let Z525 := fun (t x : Z75) => Z469 t = Z167 x; let Z526 := fun (t x : Z75) => Z467 t = Z168 x; let Z527 := fun (t x : Z75) => Z470 t = Z167 x; let Z528 := fun (t x : Z75) => Z468 t = Z167 x; let Z529 := fun (t x : Z75) => Z471 t = Z168 x; let Z530 := fun (t : Z75) => Z520 t ∧ True; let Z531 := fun (t : Z75) => Z519 t ∧ True; let Z532 := fun (t x : Z75) => Z526 t x ∧ True; let Z533 := fun (t x : Z75) => Z529 t x ∧ True; let Z534 := fun (t x : Z75) => Z524 t x ∧ True; let Z535 := fun (t : Z75) => Z310 t ∧ Z314 t; let Z536 := fun (t : Z75) => Z309 t ∧ Z313 t; let Z537 := fun (t : Z75) => Z479 t ∧ Z193; let Z538 := fun (t : Z75) => Z481 t ∧ Z193; let Z539 := fun (t : Z75) => Z164 ∧ Z497 t; let Z540 := fun (t : Z75) => aroundM l (Z244 t) (Z370 t) Z24 Z36; let Z541 := fun (t : Z75) => Z138 ∧ Z503 t; let Z542 := fun (t : Z75) => Prod.fst (Z540 t); let Z543 := fun (t : Z75) => Prod.snd (Z540 t); let Z544 := fun (t x : Z75) => Z236 t x ∧ Z403 t x; let Z545 := fun (t : Z75) => Value.int IntKind.i64 (Z542 t); let Z546 := fun (t : Z75) => Value.int IntKind.i64 (Z543 t); let Z547 := fun (t : Z75) => AV.v (Z545 t); let Z548 := fun (t : Z75) => AV.v (Z546 t); let Z549 := fun (t : Z75) => Z330 t = Z330 t; let Z550 := fun (t : Z75) => Z238 t ∧ Z408 t; let Z551 := fun (t : Z75) => Z329 t = Z329 t; let Z552 := fun (t : Z75) => Z530 t ∧ Z125; let Z553 := fun (t : Z75) => Z531 t ∧ Z125; let Z554 := fun (t : Z75) => Z549 t ∧ True; let Z555 := fun (t : Z75) => Z551 t ∧ True; let Z556 := fun (t : Z75) => aroundM l (Z276 t) (Z370 t) Z24 Z36; let Z557 := fun (t : Z75) => Prod.fst (Z556 t); let Z558 := fun (t : Z75) => Prod.snd (Z556 t); let Z559 := fun (t : Z75) => (Z148 t, Z514 t); let Z560 := fun (t : Z75) => (Z148 t, Z513 t); let Z561 := fun (t : Z75) => Value.int IntKind.i64 (Z557 t); let Z562 := fun (t : Z75) => Value.int IntKind.i64 (Z558 t); let Z563 := fun (t : Z75) => AV.v (Z562 t); let Z564 := fun (t : Z75) => AV.v (Z561 t); let Z565 := fun (t : Z75) => Z501 t ∧ Z193; let Z566 := fun (t : Z75) => Z342 t ∧ Z344 t; let Z567 := fun (t : Z75) => Z341 t ∧ Z345 t; let Z568 := fun (t : Z75) => Z502 t ∧ Z193; let Z569 := fun (t : Z75) => Z164 ∧ Z523 t; let Z570 := fun (t : Z75) => Z164 ∧ Z522 t; let Z571 := fun (t : Z75) => Z138 ∧ Z538 t; let Z572 := fun (t : Z75) => Z210 ∧ Z503 t; let Z573 := fun (t : Z75) => Z360 t = Z360 t; let Z574 := fun (t : Z75) => Z554 t ∧ Z125; let Z575 := fun (t : Z75) => Z555 t ∧ Z125; let Z576 := fun (t : Z75) => Z573 t ∧ True; let Z577 := fun (t x : Z75) => Z454 t x ∧ Z283 t x; let Z578 := fun (t : Z75) => Z161 t ++ Z505 t; let Z579 := fun (t : Z75) => Z536 t ∧ Z193; let Z580 := fun (t : Z75) => Z368 t ∧ Z369 t; let Z581 := fun (t : Z75) => Z535 t ∧ Z193; let Z582 := fun (t : Z75) => Z164 ∧ Z553 t; let Z583 := fun (t : Z75) => Z164 ∧ Z552 t; let Z584 := fun (t : Z75) => aroundM l (Z299 t) (Z420 t) Z16 Z21; let Z585 := fun (t : Z75) => aroundM l (Z299 t) (Z421 t) Z16 Z21; let Z586 := fun (t : Z75) => Z375 t = Z375 t; let Z587 := fun (t : Z75) => aroundM l (Z299 t) (Z435 t) Z16 Z21; let Z588 := fun (t : Z75) => Prod.snd (Z585 t); let Z589 := fun (t : Z75) => Prod.fst (Z585 t); let Z590 := fun (t : Z75) => Prod.snd (Z584 t); let Z591 := fun (t : Z75) => aroundM l (Z299 t) (Z436 t) Z16 Z21; let Z592 := fun (t : Z75) => Prod.fst (Z584 t); let Z593 := fun (t : Z75) => Z379 t = Z379 t; let Z594 := fun (t : Z75) => Z382 t = Z382 t; let Z595 := fun (t : Z75) => Z383 t = Z383 t; let Z596 := fun (t : Z75) => Prod.snd (Z591 t); let Z597 := fun (t : Z75) => Prod.snd (Z587 t); let Z598 := fun (t : Z75) => Prod.fst (Z591 t); let Z599 := fun (t : Z75) => Prod.fst (Z587 t); let Z600 := fun (t : Z75) => Z576 t ∧ Z125; let Z601 := fun (t : Z75) => Value.int IntKind.i64 (Z592 t); let Z602 := fun (t : Z75) => Value.int IntKind.i64 (Z588 t); let Z603 := fun (t : Z75) => Value.int IntKind.i64 (Z589 t); let Z604 := fun (t : Z75) => Value.int IntKind.i64 (Z590 t); let Z605 := fun (t : Z75) => AV.v (Z604 t); let Z606 := fun (t : Z75) => AV.v (Z603 t); let Z607 := fun (t : Z75) => AV.v (Z602 t); let Z608 := fun (t : Z75) => AV.v (Z601 t); let Z609 := fun (t : Z75) => Value.int IntKind.i64 (Z597 t); let Z610 := fun (t : Z75) => Value.int IntKind.i64 (Z598 t); let Z611 := fun (t : Z75) => Value.int IntKind.i64 (Z599 t); let Z612 := fun (t : Z75) => Value.int IntKind.i64 (Z596 t); let Z613 := fun (t : Z75) => AV.v (Z611 t); let Z614 := fun (t : Z75) => AV.v (Z612 t); let Z615 := fun (t : Z75) => AV.v (Z609 t); let Z616 := fun (t : Z75) => AV.v (Z610 t); let Z617 := fun (t x : Z75) => Z518 t x ∧ Z252 t x; let Z618 := fun (t x : Z75) => Z248 t x ∧ Z521 t x; let Z619 := fun (t : Z75) => Z386 t ∧ Z387 t; let Z620 := fun (t x : Z75) => Z248 t x ∧ Z534 t x; let Z621 := fun (t x : Z75) => Z528 t x ∧ Z252 t x; let Z622 := fun (t x : Z75) => Z248 t x ∧ Z533 t x; let Z623 := fun (t x : Z75) => Z527 t x ∧ Z252 t x; let Z624 := fun (t : Z75) => aroundM l (Z319 t) (Z438 t) Z16 Z21; let Z625 := fun (t : Z75) => Z566 t ∧ Z193; let Z626 := fun (t : Z75) => Z567 t ∧ Z193; let Z627 := fun (t x : Z75) => Z219 t x ∧ Z544 t x; let Z628 := fun (t : Z75) => Prod.snd (Z624 t); let Z629 := fun (t : Z75) => aroundM l (Z319 t) (Z451 t) Z16 Z21; let Z630 := fun (t : Z75) => aroundM l (Z319 t) (Z450 t) Z16 Z21; let Z631 := fun (t : Z75) => aroundM l (Z319 t) (Z448 t) Z16 Z21; let Z632 := fun (t : Z75) => Prod.fst (Z624 t); let Z633 := fun (t : Z75) => Z164 ∧ Z575 t; let Z634 := fun (t : Z75) => Z164 ∧ Z574 t; let Z635 := fun (t : Z75) => Prod.snd (Z630 t); let Z636 := fun (t : Z75) => Prod.fst (Z629 t); let Z637 := fun (t : Z75) => Prod.snd (Z629 t); let Z638 := fun (t : Z75) => Prod.fst (Z631 t); let Z639 := fun (t : Z75) => Prod.snd (Z631 t); let Z640 := fun (t : Z75) => Prod.fst (Z630 t); let Z641 := fun (t : Z75) => Value.int IntKind.i64 (Z628 t); let Z642 := fun (t : Z75) => Value.int IntKind.i64 (Z632 t); let Z643 := fun (t : Z75) => AV.v (Z642 t); let Z644 := fun (t : Z75) => AV.v (Z641 t); let Z645 := fun (t : Z75) => Value.int IntKind.i64 (Z640 t); let Z646 := fun (t : Z75) => Value.int IntKind.i64 (Z638 t); let Z647 := fun (t : Z75) => Value.int IntKind.i64 (Z636 t); let Z648 := fun (t : Z75) => Value.int IntKind.i64 (Z637 t); let Z649 := fun (t : Z75) => Value.int IntKind.i64 (Z639 t); let Z650 := fun (t : Z75) => Value.int IntKind.i64 (Z635 t); let Z651 := fun (t : Z75) => AV.v (Z648 t); let Z652 := fun (t : Z75) => AV.v (Z645 t); let Z653 := fun (t : Z75) => AV.v (Z650 t); let Z654 := fun (t : Z75) => AV.v (Z646 t); let Z655 := fun (t : Z75) => AV.v (Z647 t); let Z656 := fun (t : Z75) => AV.v (Z649 t); let Z657 := fun (t : Z75) => aroundM l (Z351 t) (Z437 t) Z16 Z21; let Z658 := fun (t : Z75) => Z398 t = Z398 t; let Z659 := fun (t : Z75) => Z397 t = Z397 t; let Z660 := fun (t : Z75) => Prod.fst (Z657 t); let Z661 := fun (t : Z75) => aroundM l (Z351 t) (Z449 t) Z16 Z21; let Z662 := fun (t : Z75) => aroundM l (Z351 t) (Z453 t) Z16 Z21; let Z663 := fun (t : Z75) => aroundM l (Z351 t) (Z452 t) Z16 Z21; let Z664 := fun (t : Z75) => Prod.snd (Z657 t); let Z665 := fun (t x : Z75) => Z578 t = Z161 x; let Z666 := fun (t : Z75) => Prod.fst (Z661 t); let Z667 := fun (t : Z75) => Prod.snd (Z662 t); let Z668 := fun (t : Z75) => Prod.snd (Z661 t); let Z669 := fun (t : Z75) => Prod.fst (Z662 t); let Z670 := fun (t : Z75) => Prod.fst (Z663 t); let Z671 := fun (t : Z75) => Prod.snd (Z663 t); let Z672 := fun (t : Z75) => Value.int IntKind.i64 (Z660 t); let Z673 := fun (t : Z75) => Value.int IntKind.i64 (Z664 t); let Z674 := fun (t : Z75) => AV.v (Z672 t); let Z675 := fun (t : Z75) => AV.v (Z673 t); let Z676 := fun (t : Z75) => Z401 t = Z401 t; let Z677 := fun (t : Z75) => Z402 t = Z402 t; let Z678 := fun (t : Z75) => (Z389 t, Z406 t); let Z679 := fun (t : Z75) => Value.int IntKind.i64 (Z667 t); let Z680 := fun (t : Z75) => Value.int IntKind.i64 (Z666 t); let Z681 := fun (t : Z75) => Value.int IntKind.i64 (Z671 t); let Z682 := fun (t : Z75) => Value.int IntKind.i64 (Z669 t); let Z683 := fun (t : Z75) => Value.int IntKind.i64 (Z670 t); let Z684 := fun (t : Z75) => Value.int IntKind.i64 (Z668 t); let Z685 := fun (t : Z75) => AV.v (Z684 t); let Z686 := fun (t : Z75) => AV.v (Z681 t); let Z687 := fun (t : Z75) => AV.v (Z682 t); let Z688 := fun (t : Z75) => AV.v (Z683 t); let Z689 := fun (t : Z75) => AV.v (Z679 t); let Z690 := fun (t : Z75) => AV.v (Z680 t); let Z691 := fun (t x : Z75) => Z59 ∧ Z665 t x; let Z692 := fun (t : Z75) => Z580 t ∧ Z193; let Z693 := fun (t : Z75) => Z136 ∧ Z619 t; let Z694 := fun (t : Z75) => Z164 ∧ Z600 t; let Z695 := fun (t : Z75) => Z586 t ∧ Z194; let Z696 := fun (t : Z75) => Z440 t = Z440 t; let Z697 := fun (t : Z75) => Z441 t = Z441 t; let Z698 := fun (t : Z75) => Z442 t = Z442 t; let Z699 := fun (t : Z75) => Z439 t = Z439 t; let Z700 := fun (t : Z75) => Z443 t = Z443 t; let Z701 := fun (t : Z75) => Z699 t ∧ True; let Z702 := fun (t : Z75) => Z446 t = Z446 t; let Z703 := fun (t : Z75) => (Z370 t, Z504 t); let Z704 := fun (t : Z75) => (Z451 t, Z449 t); let Z705 := fun (t : Z75) => (Z448 t, Z453 t); let Z706 := fun (t : Z75) => Z465 t ∧ Z472 t; let Z707 := fun (t : Z75) => Z471 t = Z471 t; let Z708 := fun (t : Z75) => Z470 t = Z470 t; let Z709 := fun (t : Z75) => Z476 t = Z476 t; let Z710 := fun (t : Z75) => Z475 t = Z475 t; let Z711 := fun (t : Z75) => Z710 t ∧ True; let Z712 := fun (t : Z75) => Z703 t :: Z26; let Z713 := fun (t : Z75) => Z486 t ∧ Z490 t; let Z714 := fun (t : Z75) => Z487 t ∧ Z491 t; let Z715 := fun (t : Z75) => Z311 t ∧ Z568 t; let Z716 := fun (t : Z75) => Z493 t = Z493 t; let Z717 := fun (t : Z75) => Z492 t = Z492 t; let Z718 := fun (t : Z75) => Z716 t ∧ True; let Z719 := fun (t : Z75) => List.drop Z27 (Z712 t); let Z720 := fun (t x : Z75) => Z510 t x ∧ Z403 t x; let Z721 := fun (t x : Z75) => Z236 t x ∧ Z621 t x; let Z722 := fun (t x : Z75) => Z236 t x ∧ Z620 t x; let Z723 := fun (t : Z75) => (Z421 t, Z506 t); let Z724 := fun (t : Z75) => (Z421 t, Z508 t); let Z725 := fun (t : Z75) => List.take Z28 (Z719 t); let Z726 := fun (t : Z75) => Z134 ∧ Z706 t; let Z727 := fun (t : Z75) => (Z435 t, Z511 t); let Z728 := fun (t : Z75) => (Z436 t, Z512 t); let Z729 := fun (t : Z75) => (Z148 t, Z705 t); let Z730 := fun (t : Z75) => (Z148 t, Z704 t); let Z731 := fun (t : Z75) => Z311 t ∧ Z579 t; let Z732 := fun (t : Z75) => (Z370 t, Z560 t); let Z733 := fun (t : Z75) => (Z370 t, Z559 t); let Z734 := fun (t : Z75) => Z700 t ∧ Z192; let Z735 := fun (t : Z75) => Z134 ∧ Z714 t; let Z736 := fun (t : Z75) => Z134 ∧ Z713 t; let Z737 := fun (t : Z75) => Z327 t ∧ Z581 t; let Z738 := fun (t : Z75) => Z732 t :: Z26; let Z739 := fun (t : Z75) => Z733 t :: Z26; let Z740 := fun (t : Z75) => Z707 t ∧ Z192; let Z741 := fun (t : Z75) => Z708 t ∧ Z192; let Z742 := fun (t x : Z75) => Z463 t x ∧ Z544 t x; let Z743 := fun (t : Z75) => List.drop Z27 (Z739 t); let Z744 := fun (t : Z75) => List.drop Z27 (Z738 t); let Z745 := fun (t x : Z75) => Z691 t x ∧ Z283 t x; let Z746 := fun (t : Z75) => Z328 t ∧ Z626 t; let Z747 := fun (t : Z75) => Z327 t ∧ Z625 t; let Z748 := fun (t : Z75) => List.take Z28 (Z744 t); let Z749 := fun (t : Z75) => List.take Z28 (Z743 t); let Z750 := fun (t x : Z75) => Z525 t x ∧ Z533 t x; let Z751 := fun (t x : Z75) => Z527 t x ∧ Z532 t x; let Z752 := fun (t : Z75) => Z328 t ∧ Z692 t; let Z753 := fun (t : Z75) => Z161 t ++ Z725 t; let Z754 := fun (t : Z75) => (Z367 t, Z678 t); let Z755 := fun (t : Z75) => Z548 t = Z548 t; let Z756 := fun (t : Z75) => Z547 t = Z547 t; let Z757 := fun (t x : Z75) => Z753 t = Z161 x; let Z758 := fun (t : Z75) => Z161 t ++ Z748 t; let Z759 := fun (t : Z75) => Z161 t ++ Z749 t; let Z760 := fun (t x : Z75) => Z59 ∧ Z757 t x; let Z761 := fun (t : Z75) => Z564 t = Z564 t; let Z762 := fun (t : Z75) => Z563 t = Z563 t; let Z763 := fun (t x : Z75) => Z509 t x ∧ Z617 t x; let Z764 := fun (t x : Z75) => Z509 t x ∧ Z618 t x; let Z765 := fun (t x : Z75) => Z516 t x ∧ Z622 t x; let Z766 := fun (t x : Z75) => Z236 t x ∧ Z751 t x; let Z767 := fun (t x : Z75) => Z236 t x ∧ Z750 t x; let Z768 := fun (t x : Z75) => Z515 t x ∧ Z623 t x; let Z769 := fun (t : Z75) => (Z370 t, Z723 t); let Z770 := fun (t : Z75) => (Z370 t, Z724 t); let Z771 := fun (t : Z75) => Z593 t ∧ Z550 t; let Z772 := fun (t : Z75) => (Z370 t, Z727 t); let Z773 := fun (t : Z75) => (Z370 t, Z728 t); let Z774 := fun (t : Z75) => (Z370 t, Z729 t); let Z775 := fun (t : Z75) => (Z370 t, Z730 t); let Z776 := fun (t : Z75) => nat_lit 1 = nat_lit 1 ∧ Z771 t; let Z777 := fun (t x : Z75) => Z758 t = Z161 x; let Z778 := fun (t x : Z75) => Z759 t = Z161 x; let Z779 := fun (t : Z75) => Z770 t :: Z26; let Z780 := fun (t : Z75) => Z769 t :: Z26; let Z781 := fun (t : Z75) => Z774 t :: Z26; let Z782 := fun (t : Z75) => Z772 t :: Z26; let Z783 := fun (t : Z75) => Z775 t :: Z26; let Z784 := fun (t : Z75) => Z773 t :: Z26; let Z785 := fun (t x : Z75) => Z59 ∧ Z777 t x; let Z786 := fun (t x : Z75) => Z59 ∧ Z778 t x; let Z787 := fun (t : Z75) => List.drop Z27 (Z779 t); let Z788 := fun (t : Z75) => List.drop Z27 (Z780 t); let Z789 := fun (t x : Z75) => Z463 t x ∧ Z720 t x; let Z790 := fun (t x : Z75) => Z463 t x ∧ Z722 t x; let Z791 := fun (t x : Z75) => Z463 t x ∧ Z721 t x; let Z792 := fun (t : Z75) => List.drop Z27 (Z784 t); let Z793 := fun (t : Z75) => List.drop Z27 (Z781 t); let Z794 := fun (t : Z75) => List.drop Z27 (Z783 t); let Z795 := fun (t : Z75) => List.drop Z27 (Z782 t); let Z796 := fun (t : Z75) => Z693 t ∧ Z537 t; let Z797 := fun (t : Z75) => List.take Z28 (Z787 t); let Z798 := fun (t : Z75) => List.take Z28 (Z788 t); let Z799 := fun (t : Z75) => List.take Z28 (Z792 t); let Z800 := fun (t : Z75) => List.take Z28 (Z794 t); let Z801 := fun (t : Z75) => List.take Z28 (Z795 t); let Z802 := fun (t : Z75) => List.take Z28 (Z793 t); let Z803 := fun (t x : Z75) => Z627 t x ∧ Z577 t x; let Z804 := fun (t : Z75) => Z693 t ∧ Z565 t; let Z805 := fun (t : Z75) => Z606 t = Z606 t; let Z806 := fun (t : Z75) => Z607 t = Z607 t; let Z807 := fun (t x : Z75) => Z760 t x ∧ Z283 t x; let Z808 := fun (t x : Z75) => Z188 ∧ Z803 t x; let Z809 := fun (t : Z75) => Z655 t = Z655 t; let Z810 := fun (t : Z75) => Z651 t = Z651 t; let Z811 := fun (t : Z75) => Z161 t ++ Z798 t; let Z812 := fun (t : Z75) => Z161 t ++ Z797 t; let Z813 := fun (t : Z75) => Z161 t ++ Z800 t; let Z814 := fun (t : Z75) => Z161 t ++ Z802 t; let Z815 := fun (t : Z75) => Z161 t ++ Z799 t; let Z816 := fun (t : Z75) => Z161 t ++ Z801 t; let Z817 := fun (t x : Z75) => Z785 t x ∧ Z283 t x; let Z818 := fun (t x : Z75) => Z786 t x ∧ Z283 t x; let Z819 := fun (t : Z75) => Z689 t = Z689 t; let Z820 := fun (t : Z75) => Z687 t = Z687 t; let Z821 := fun (t : Z75) => Z819 t ∧ True; let Z822 := fun (t x : Z75) => Z164 ∧ Z808 t x; let Z823 := fun (t : Z75) => Z726 t ∧ Z579 t; let Z824 := fun (t x : Z75) => Z40 ∧ Z822 t x; let Z825 := fun (t x : Z75) => Z811 t = Z161 x; let Z826 := fun (t x : Z75) => Z812 t = Z161 x; let Z827 := fun (t x : Z75) => Z814 t = Z161 x; let Z828 := fun (t x : Z75) => Z816 t = Z161 x; let Z829 := fun (t x : Z75) => Z815 t = Z161 x; let Z830 := fun (t x : Z75) => Z813 t = Z161 x; let Z831 := fun (t x : Z75) => Z59 ∧ Z826 t x; let Z832 := fun (t x : Z75) => Z59 ∧ Z825 t x; let Z833 := fun (t x : Z75) => Z97 ∧ Z824 t x; let Z834 := fun (t x : Z75) => Z59 ∧ Z828 t x; let Z835 := fun (t x : Z75) => Z59 ∧ Z829 t x; let Z836 := fun (t x : Z75) => Z59 ∧ Z830 t x; let Z837 := fun (t x : Z75) => Z59 ∧ Z827 t x; let Z838 := fun (t x : Z75) => Z463 t x ∧ Z763 t x; let Z839 := fun (t x : Z75) => Z463 t x ∧ Z764 t x; let Z840 := fun (t x : Z75) => Z463 t x ∧ Z767 t x; let Z841 := fun (t x : Z75) => Z463 t x ∧ Z768 t x; let Z842 := fun (t x : Z75) => Z463 t x ∧ Z765 t x; let Z843 := fun (t x : Z75) => Z463 t x ∧ Z766 t x; let Z844 := fun (t : Z75) => Z697 t ∧ Z701 t; let Z845 := fun (t : Z75) => Z735 t ∧ Z625 t; let Z846 := fun (t : Z75) => (Z540 t, Z754 t); let Z847 := fun (t : Z75) => Z736 t ∧ Z692 t; let Z848 := fun (t : Z75) => (Z99 t, Z846 t); let Z849 := fun (t : Z75) => Z717 t ∧ Z718 t; let Z850 := fun (t : Z75) => Z848 t :: Z20; let Z851 := fun (t : Z75) => List.drop Z27 (Z850 t); let Z852 := fun (t : Z75) => List.take Z28 (Z851 t); let Z853 := fun (t x : Z75) => Z259 t x ∧ Z833 t x; let Z854 := fun (t x : Z75) => True ∧ Z853 t x; let Z855 := fun (t x : Z75) => Z832 t x ∧ Z283 t x; let Z856 := fun (t x : Z75) => Z831 t x ∧ Z283 t x; let Z857 := fun (t x : Z75) => Z835 t x ∧ Z283 t x; let Z858 := fun (t x : Z75) => Z834 t x ∧ Z283 t x; let Z859 := fun (t x : Z75) => Z837 t x ∧ Z283 t x; let Z860 := fun (t x : Z75) => Z836 t x ∧ Z283 t x; let Z861 := fun (t : Z75) => Z162 t ++ Z852 t; let Z862 := fun (t x : Z75) => Z742 t x ∧ Z745 t x; let Z863 := fun (t x : Z75) => Z861 t = Z162 x; let Z864 := fun (t x : Z75) => Z60 ∧ Z863 t x; let Z865 := fun (t x : Z75) => Z188 ∧ Z862 t x; let Z866 := fun (t x : Z75) => Z864 t x ∧ True; let Z867 := fun (t x : Z75) => Z362 t x ∧ Z854 t x; let Z868 := fun (t x : Z75) => Z164 ∧ Z865 t x; let Z869 := fun (t x : Z75) => Z40 ∧ Z868 t x; let Z870 := fun (t x : Z75) => Z97 ∧ Z869 t x; let Z871 := fun (t x : Z75) => Z867 t x ∧ Z176 x t; let Z872 := fun (t : Z75) => ∃ (x : Z75), Z871 t x; let Z873 := fun (t : Z75) => True ∧ Z872 t; let Z874 := fun (t : Z75) => Z677 t ∧ Z844 t; let Z875 := fun (t x : Z75) => Z331 t x ∧ Z870 t x; let Z876 := fun (t x : Z75) => True ∧ Z875 t x; let Z877 := fun (t x : Z75) => Z789 t x ∧ Z807 t x; let Z878 := fun (t x : Z75) => Z791 t x ∧ Z818 t x; let Z879 := fun (t x : Z75) => Z790 t x ∧ Z817 t x; let Z880 := fun (t x : Z75) => Z188 ∧ Z877 t x; let Z881 := fun (t x : Z75) => Z362 t x ∧ Z876 t x; let Z882 := fun (t x : Z75) => Z691 t x ∧ Z866 t x; let Z883 := fun (t x : Z75) => Z164 ∧ Z880 t x; let Z884 := fun (t x : Z75) => Z40 ∧ Z883 t x; let Z885 := fun (t x : Z75) => Z188 ∧ Z878 t x; let Z886 := fun (t x : Z75) => Z188 ∧ Z879 t x; let Z887 := fun (t x : Z75) => Z881 t x ∧ Z176 x t; let Z888 := fun (t x : Z75) => Z97 ∧ Z884 t x; let Z889 := fun (t : Z75) => ∃ (x : Z75), Z887 t x; let Z890 := fun (t : Z75) => True ∧ Z889 t; let Z891 := fun (t x : Z75) => Z164 ∧ Z885 t x; let Z892 := fun (t x : Z75) => Z164 ∧ Z886 t x; let Z893 := fun (t x : Z75) => Z40 ∧ Z892 t x; let Z894 := fun (t x : Z75) => Z40 ∧ Z891 t x; let Z895 := fun (t : Z75) => Z820 t ∧ Z821 t; let Z896 := fun (t x : Z75) => Z97 ∧ Z893 t x; let Z897 := fun (t x : Z75) => Z97 ∧ Z894 t x; let Z898 := fun (t : Z75) => Z676 t ∧ Z874 t; let Z899 := fun (t : Z75) => Z275 t → Z890 t; let Z900 := fun (t : Z75) => Z316 t → Z890 t; let Z901 := fun (t x : Z75) => Z361 t x ∧ Z888 t x; let Z902 := fun (t x : Z75) => True ∧ Z901 t x; let Z903 := fun (t x : Z75) => Z361 t x ∧ Z897 t x; let Z904 := fun (t x : Z75) => Z361 t x ∧ Z896 t x; let Z905 := fun (t x : Z75) => True ∧ Z903 t x; let Z906 := fun (t x : Z75) => True ∧ Z904 t x; let Z907 := fun (t x : Z75) => Z838 t x ∧ Z855 t x; let Z908 := fun (t x : Z75) => Z839 t x ∧ Z856 t x; let Z909 := fun (t x : Z75) => Z842 t x ∧ Z858 t x; let Z910 := fun (t x : Z75) => Z841 t x ∧ Z857 t x; let Z911 := fun (t x : Z75) => Z843 t x ∧ Z860 t x; let Z912 := fun (t x : Z75) => Z840 t x ∧ Z859 t x; let Z913 := fun (t x : Z75) => Z188 ∧ Z907 t x; let Z914 := fun (t x : Z75) => Z188 ∧ Z908 t x; let Z915 := fun (t x : Z75) => Z188 ∧ Z909 t x; let Z916 := fun (t x : Z75) => Z188 ∧ Z910 t x; let Z917 := fun (t x : Z75) => Z188 ∧ Z911 t x; let Z918 := fun (t x : Z75) => Z188 ∧ Z912 t x; let Z919 := fun (t x : Z75) => Z362 t x ∧ Z902 t x; let Z920 := fun (t x : Z75) => Z164 ∧ Z914 t x; let Z921 := fun (t x : Z75) => Z164 ∧ Z913 t x; let Z922 := fun (t x : Z75) => Z40 ∧ Z921 t x; let Z923 := fun (t x : Z75) => Z40 ∧ Z920 t x; let Z924 := fun (t x : Z75) => Z164 ∧ Z915 t x; let Z925 := fun (t x : Z75) => Z164 ∧ Z918 t x; let Z926 := fun (t x : Z75) => Z164 ∧ Z917 t x; let Z927 := fun (t x : Z75) => Z164 ∧ Z916 t x; let Z928 := fun (t x : Z75) => Z40 ∧ Z926 t x; let Z929 := fun (t x : Z75) => Z40 ∧ Z924 t x; let Z930 := fun (t x : Z75) => Z40 ∧ Z927 t x; let Z931 := fun (t x : Z75) => Z40 ∧ Z925 t x; let Z932 := fun (t x : Z75) => Z919 t x ∧ Z176 x t; let Z933 := fun (t x : Z75) => Z97 ∧ Z922 t x; let Z934 := fun (t x : Z75) => Z97 ∧ Z923 t x; let Z935 := fun (t x : Z75) => Z362 t x ∧ Z906 t x; let Z936 := fun (t x : Z75) => Z362 t x ∧ Z905 t x; let Z937 := fun (t x : Z75) => Z97 ∧ Z929 t x; let Z938 := fun (t x : Z75) => Z97 ∧ Z928 t x; let Z939 := fun (t x : Z75) => Z97 ∧ Z930 t x; let Z940 := fun (t x : Z75) => Z97 ∧ Z931 t x; let Z941 := fun (t : Z75) => ∃ (x : Z75), Z932 t x; let Z942 := fun (t : Z75) => True ∧ Z941 t; let Z943 := fun (t x : Z75) => Z936 t x ∧ Z176 x t; let Z944 := fun (t x : Z75) => Z935 t x ∧ Z176 x t; let Z945 := fun (t x : Z75) => Z742 t x ∧ Z882 t x; let Z946 := fun (t : Z75) => Z595 t ∧ Z898 t; let Z947 := fun (t : Z75) => ∃ (x : Z75), Z943 t x; let Z948 := fun (t : Z75) => ∃ (x : Z75), Z944 t x; let Z949 := fun (t : Z75) => True ∧ Z948 t; let Z950 := fun (t : Z75) => True ∧ Z947 t; let Z951 := fun (t x : Z75) => Z188 ∧ Z945 t x; let Z952 := fun (t x : Z75) => Z361 t x ∧ Z934 t x; let Z953 := fun (t x : Z75) => Z361 t x ∧ Z933 t x; let Z954 := fun (t x : Z75) => True ∧ Z952 t x; let Z955 := fun (t x : Z75) => True ∧ Z953 t x; let Z956 := fun (t x : Z75) => Z164 ∧ Z951 t x; let Z957 := fun (t x : Z75) => Z361 t x ∧ Z938 t x; let Z958 := fun (t x : Z75) => Z361 t x ∧ Z937 t x; let Z959 := fun (t x : Z75) => Z361 t x ∧ Z939 t x; let Z960 := fun (t x : Z75) => Z361 t x ∧ Z940 t x; let Z979 := fun (t : Z75) => ∃ (x : Z75), (Z362 t x ∧ Z955 t x) ∧ Z176 x t; let Z980 := fun (t : Z75) => ∃ (x : Z75), (Z362 t x ∧ Z954 t x) ∧ Z176 x t; let Z985 := fun (t : Z75) => ∃ (x : Z75), (Z362 t x ∧ True ∧ Z959 t x) ∧ Z176 x t; let Z986 := fun (t : Z75) => ∃ (x : Z75), (Z362 t x ∧ True ∧ Z958 t x) ∧ Z176 x t; let Z987 := fun (t : Z75) => ∃ (x : Z75), (Z362 t x ∧ True ∧ Z960 t x) ∧ Z176 x t; let Z988 := fun (t : Z75) => ∃ (x : Z75), (Z362 t x ∧ True ∧ Z957 t x) ∧ Z176 x t; let Z1026 := fun (t : Z75) => Z776 t ∧ Z9 ∧ Z208 t ∧ Z541 t ∧ Z160 ∧ Z422 t ∧ (Z274 t → (Z315 t → Z796 t ∧ Z695 t ∧ Z539 t ∧ Z715 t ∧ Z338 t ∧ Z570 t ∧ Z737 t ∧ Z350 t ∧ Z583 t ∧ Z746 t ∧ Z349 t ∧ Z634 t ∧ (nat_lit 1 = nat_lit 1 ∧ Z170 t ∧ Z756 t ∧ Z755 t ∧ Z594 t ∧ Z946 t) ∧ Z9 ∧ Z203 t ∧ True ∧ ∃ (x : Z75), (Z362 t x ∧ True ∧ Z424 t x ∧ Z97 ∧ Z40 ∧ Z956 t x) ∧ Z176 x t) ∧ Z900 t) ∧ Z899 t; let Z1028 := fun (t : Z75) => Z48 → Z1026 t; ((Z14 < Z22 ∧ Z22 < Z49) ∧ (Z14 ≤ Z14 ∧ Z14 < Z53) ∧ Z193) ∧ (Z67 = Z67 ∧ Z106) ∧ ((Z63 = Z63 ∧ True) ∧ Z125) ∧ ((Z14 < Z23 ∧ Z23 < Z49) ∧ (Z14 ≤ Z105 ∧ Z105 < Z53) ∧ Z193) ∧ (Z66 = Z66 ∧ Z106) ∧ ((Z119 = Z119 ∧ True) ∧ Z125) ∧ ((Z14 < Z17 ∧ Z17 < Z49) ∧ (Z14 ≤ Z137 ∧ Z137 < Z53) ∧ Z193) ∧ (Z62 = Z62 ∧ Z106) ∧ ((Z151 = Z151 ∧ True) ∧ Z125) ∧ ((Z14 < Z32 ∧ Z32 < Z49) ∧ (Z14 ≤ Z175 ∧ Z175 < Z53) ∧ Z193) ∧ (Z69 = Z69 ∧ Z106) ∧ ((Z187 = Z187 ∧ True) ∧ Z125) ∧ ((Z14 < Z25 ∧ Z25 < Z49) ∧ (Z14 ≤ Z202 ∧ Z202 < Z53) ∧ Z193) ∧ (Z68 = Z68 ∧ Z106) ∧ ((Z211 = Z211 ∧ True) ∧ Z125) ∧ ((Z14 < Z242 ∧ Z242 < Z49) ∧ (Z14 ≤ Z220 ∧ Z220 < Z53) ∧ Z193) ∧ (Z254 = Z254 ∧ Z106) ∧ ((Z225 = Z225 ∧ True) ∧ Z125) ∧ (∃ (x : Z75), (True ∧ True ∧ nat_lit 0 = nat_lit 0 ∧ True ∧ Z10 ∧ Z10) ∧ (Z1 ∧ Z1 ∧ True ∧ (Z33 ∧ True) ∧ (True ∧ True ∧ True ∧ Z8) ∧ (True ∧ Z33) ∧ Z161 x = Z26 ∧ Z162 x = Z20 ∧ True) ∧ (Z55 ∧ Z55 ∧ Z84 ∧ Z55 ∧ (Fn.func (nat_lit 44) = Z56 ∧ Z83) ∧ Value.int IntKind.i64 (IntKind.wrap IntKind.i64 (Z86 + Z19)) = Z79 ∧ Z63 = Z108 x ∧ True) ∧ True ∧ (Value.int IntKind.i64 (Z220 + Z19) = Z153 x ∧ True) ∧ Z97 ∧ Z40 ∧ Z164 ∧ (Value.int IntKind.i64 Z86 = Z37 ∧ Value.int IntKind.i64 (drawM l Z105 Z23) = Z38 ∧ Value.int IntKind.i64 (drawM l Z137 Z17) = Z34 ∧ Z84 ∧ True) ∧ (Value.int IntKind.i64 (IntKind.wrap IntKind.i64 ((200 : Int) + drawM l Z175 Z32)) = Z147 x ∧ Value.int IntKind.i64 Z214 = Z159 x ∧ Value.int IntKind.i64 Z385 = Z167 x ∧ Value.int IntKind.i64 (IntKind.wrap IntKind.i64 (IntKind.wrap IntKind.i64 (Z21 - Z214) - Z385)) = Z168 x ∧ True) ∧ Z10) ∧ ∀ (t : Z75), (Z197 t = true → (Z191 t = true → ((Z14 < Z155 ∧ Z155 < Z49) ∧ Z355 t) ∧ (Z166 = Z166 ∧ Z106) ∧ Z282 t ∧ (Z138 ∧ (Z200 t ∧ Z180 t < Z53) ∧ Z193) ∧ Z160 ∧ Z326 t ∧ (Z14 ≤ Z196 t ∧ Z196 t < Z12) ∧ ((True ∧ (Z196 t = Z77 → Z507 t ∧ Z160 ∧ Z380 t ∧ Z374 t ∧ ((True ∧ (Z233 t → (Z39 → Z572 t ∧ Z216 ∧ Z422 t ∧ (nat_lit 1 = nat_lit 1 ∧ Z593 t ∧ Z445 t = Z445 t ∧ Z408 t) ∧ Z9 ∧ Z208 t ∧ Z571 t ∧ Z160 ∧ Z497 t ∧ (Z296 t → (Z315 t → Z804 t ∧ Z695 t ∧ Z569 t ∧ ((Z134 ∧ Z14 ≤ Z420 t ∧ Z420 t ≤ Z36) ∧ Z579 t) ∧ (Z444 t = Z444 t ∧ Z192) ∧ Z582 t ∧ Z747 t ∧ Z350 t ∧ Z633 t ∧ Z752 t ∧ Z349 t ∧ Z694 t ∧ (nat_lit 1 = nat_lit 1 ∧ Z170 t ∧ Z761 t ∧ Z762 t ∧ Z608 t = Z608 t ∧ Z605 t = Z605 t ∧ Z696 t ∧ Z698 t ∧ Z849 t) ∧ Z9 ∧ Z203 t ∧ True ∧ ∃ (x : Z75), (Z362 t x ∧ True ∧ Z485 t x ∧ Z97 ∧ Z40 ∧ Z164 ∧ Z188 ∧ Z789 t x ∧ Z760 t x ∧ (Z60 ∧ Z162 t ++ List.take Z28 (List.drop Z27 ((Z99 t, Z556 t, Z584 t, Z407 t, Z464 t) :: Z20)) = Z162 x) ∧ True) ∧ Z176 x t) ∧ (Z316 t → Z942 t)) ∧ (Z297 t → Z942 t)) ∧ (Z44 → Z1026 t))) ∧ (Z231 t → (Z47 → Z572 t ∧ Z216 ∧ Z422 t ∧ (nat_lit 1 = nat_lit 1 ∧ Z593 t ∧ Z702 t ∧ Z462 t = Z462 t ∧ Z256 t) ∧ Z9 ∧ Z208 t ∧ Z571 t ∧ Z160 ∧ Z497 t ∧ (Z296 t → (Z315 t → Z804 t ∧ Z695 t ∧ Z569 t ∧ Z823 t ∧ Z734 t ∧ Z582 t ∧ ((Z134 ∧ Z14 ≤ Z438 t ∧ Z438 t ≤ Z36) ∧ Z625 t) ∧ (Z455 t = Z455 t ∧ Z192) ∧ Z633 t ∧ Z752 t ∧ Z349 t ∧ Z694 t ∧ (nat_lit 1 = nat_lit 1 ∧ Z170 t ∧ Z761 t ∧ Z762 t ∧ Z805 t ∧ Z806 t ∧ Z643 t = Z643 t ∧ Z644 t = Z644 t ∧ Z849 t) ∧ Z9 ∧ Z203 t ∧ True ∧ ∃ (x : Z75), (Z362 t x ∧ True ∧ Z485 t x ∧ Z97 ∧ Z40 ∧ Z164 ∧ Z188 ∧ Z838 t x ∧ Z832 t x ∧ (Z60 ∧ Z162 t ++ List.take Z28 (List.drop Z27 ((Z99 t, Z556 t, Z585 t, Z624 t, Z464 t) :: Z20)) = Z162 x) ∧ True) ∧ Z176 x t) ∧ (Z316 t → True ∧ Z979 t)) ∧ (Z297 t → True ∧ Z979 t)) ∧ Z1028 t)) ∧ (Z232 t → (Z47 → Z572 t ∧ Z216 ∧ Z422 t ∧ (nat_lit 1 = nat_lit 1 ∧ Z593 t ∧ Z702 t ∧ Z251 t ∧ Z459 t = Z459 t ∧ True) ∧ Z9 ∧ Z208 t ∧ Z571 t ∧ Z160 ∧ Z497 t ∧ (Z296 t → (Z315 t → Z804 t ∧ Z695 t ∧ Z569 t ∧ Z823 t ∧ Z734 t ∧ Z582 t ∧ Z747 t ∧ Z350 t ∧ Z633 t ∧ ((Z134 ∧ Z14 ≤ Z437 t ∧ Z437 t ≤ Z36) ∧ Z692 t) ∧ (Z457 t = Z457 t ∧ Z192) ∧ Z694 t ∧ (nat_lit 1 = nat_lit 1 ∧ Z170 t ∧ Z761 t ∧ Z762 t ∧ Z805 t ∧ Z806 t ∧ Z696 t ∧ Z698 t ∧ Z674 t = Z674 t ∧ Z675 t = Z675 t ∧ True) ∧ Z9 ∧ Z203 t ∧ True ∧ ∃ (x : Z75), (Z362 t x ∧ True ∧ Z485 t x ∧ Z97 ∧ Z40 ∧ Z164 ∧ Z188 ∧ Z839 t x ∧ Z831 t x ∧ (Z60 ∧ Z162 t ++ List.take Z28 (List.drop Z27 ((Z99 t, Z556 t, Z585 t, Z407 t, Z657 t) :: Z20)) = Z162 x) ∧ True) ∧ Z176 x t) ∧ (Z316 t → True ∧ Z980 t)) ∧ (Z297 t → True ∧ Z980 t)) ∧ Z1028 t))) ∧ (Z196 t = Z76 → Z507 t ∧ Z160 ∧ Z380 t ∧ Z374 t ∧ ((True ∧ (Z233 t → (Z47 → Z572 t ∧ Z216 ∧ Z422 t ∧ (nat_lit 1 = nat_lit 1 ∧ Z593 t ∧ Z461 t = Z461 t ∧ Z709 t ∧ Z256 t) ∧ Z9 ∧ Z208 t ∧ Z571 t ∧ Z160 ∧ Z497 t ∧ (Z296 t → (Z315 t → Z804 t ∧ Z695 t ∧ Z569 t ∧ ((Z134 ∧ Z14 ≤ Z436 t ∧ Z436 t ≤ Z36) ∧ Z579 t) ∧ (Z458 t = Z458 t ∧ Z192) ∧ Z582 t ∧ Z845 t ∧ Z741 t ∧ Z633 t ∧ Z752 t ∧ Z349 t ∧ Z694 t ∧ (nat_lit 1 = nat_lit 1 ∧ Z170 t ∧ Z761 t ∧ Z762 t ∧ Z616 t = Z616 t ∧ Z614 t = Z614 t ∧ Z809 t ∧ Z810 t ∧ Z849 t) ∧ Z9 ∧ Z203 t ∧ True ∧ ∃ (x : Z75), (Z362 t x ∧ True ∧ Z485 t x ∧ Z97 ∧ Z40 ∧ Z164 ∧ Z188 ∧ Z841 t x ∧ Z835 t x ∧ (Z60 ∧ Z162 t ++ List.take Z28 (List.drop Z27 ((Z99 t, Z556 t, Z591 t, Z629 t, Z464 t) :: Z20)) = Z162 x) ∧ True) ∧ Z176 x t) ∧ (Z316 t → True ∧ Z985 t)) ∧ (Z297 t → True ∧ Z985 t)) ∧ Z1028 t)) ∧ (Z231 t → (Z39 → Z572 t ∧ Z216 ∧ Z422 t ∧ (nat_lit 1 = nat_lit 1 ∧ Z593 t ∧ Z238 t ∧ Z477 t = Z477 t ∧ Z256 t) ∧ Z9 ∧ Z208 t ∧ Z571 t ∧ Z160 ∧ Z497 t ∧ (Z296 t → (Z315 t → Z804 t ∧ Z695 t ∧ Z569 t ∧ Z731 t ∧ Z338 t ∧ Z582 t ∧ ((Z134 ∧ Z14 ≤ Z450 t ∧ Z450 t ≤ Z36) ∧ Z625 t) ∧ (Z468 t = Z468 t ∧ Z192) ∧ Z633 t ∧ Z752 t ∧ Z349 t ∧ Z694 t ∧ (nat_lit 1 = nat_lit 1 ∧ Z170 t ∧ Z761 t ∧ Z762 t ∧ Z659 t ∧ Z658 t ∧ Z652 t = Z652 t ∧ Z653 t = Z653 t ∧ Z849 t) ∧ Z9 ∧ Z203 t ∧ True ∧ ∃ (x : Z75), (Z362 t x ∧ True ∧ Z485 t x ∧ Z97 ∧ Z40 ∧ Z164 ∧ Z188 ∧ Z791 t x ∧ Z786 t x ∧ (Z60 ∧ Z162 t ++ List.take Z28 (List.drop Z27 ((Z99 t, Z556 t, Z388 t, Z630 t, Z464 t) :: Z20)) = Z162 x) ∧ True) ∧ Z176 x t) ∧ (Z316 t → Z950 t)) ∧ (Z297 t → Z950 t)) ∧ (Z44 → Z1026 t))) ∧ (Z232 t → (Z47 → Z572 t ∧ Z216 ∧ Z422 t ∧ (nat_lit 1 = nat_lit 1 ∧ Z593 t ∧ Z238 t ∧ Z709 t ∧ Z478 t = Z478 t ∧ True) ∧ Z9 ∧ Z208 t ∧ Z571 t ∧ Z160 ∧ Z497 t ∧ (Z296 t → (Z315 t → Z804 t ∧ Z695 t ∧ Z569 t ∧ Z731 t ∧ Z338 t ∧ Z582 t ∧ Z845 t ∧ Z741 t ∧ Z633 t ∧ ((Z134 ∧ Z14 ≤ Z449 t ∧ Z449 t ≤ Z36) ∧ Z692 t) ∧ (Z467 t = Z467 t ∧ Z192) ∧ Z694 t ∧ (nat_lit 1 = nat_lit 1 ∧ Z170 t ∧ Z761 t ∧ Z762 t ∧ Z659 t ∧ Z658 t ∧ Z809 t ∧ Z810 t ∧ Z690 t = Z690 t ∧ Z685 t = Z685 t ∧ True) ∧ Z9 ∧ Z203 t ∧ True ∧ ∃ (x : Z75), (Z362 t x ∧ True ∧ Z485 t x ∧ Z97 ∧ Z40 ∧ Z164 ∧ Z188 ∧ Z843 t x ∧ Z836 t x ∧ (Z60 ∧ Z162 t ++ List.take Z28 (List.drop Z27 ((Z99 t, Z556 t, Z388 t, Z629 t, Z661 t) :: Z20)) = Z162 x) ∧ True) ∧ Z176 x t) ∧ (Z316 t → True ∧ Z988 t)) ∧ (Z297 t → True ∧ Z988 t)) ∧ Z1028 t))) ∧ (Z196 t = Z78 → Z507 t ∧ Z160 ∧ Z380 t ∧ Z374 t ∧ ((True ∧ (Z233 t → (Z47 → Z572 t ∧ Z216 ∧ Z422 t ∧ (nat_lit 1 = nat_lit 1 ∧ Z593 t ∧ Z460 t = Z460 t ∧ Z251 t ∧ Z711 t) ∧ Z9 ∧ Z208 t ∧ Z571 t ∧ Z160 ∧ Z497 t ∧ (Z296 t → (Z315 t → Z804 t ∧ Z695 t ∧ Z569 t ∧ ((Z134 ∧ Z14 ≤ Z435 t ∧ Z435 t ≤ Z36) ∧ Z579 t) ∧ (Z456 t = Z456 t ∧ Z192) ∧ Z582 t ∧ Z747 t ∧ Z350 t ∧ Z633 t ∧ Z847 t ∧ Z740 t ∧ Z694 t ∧ (nat_lit 1 = nat_lit 1 ∧ Z170 t ∧ Z761 t ∧ Z762 t ∧ Z613 t = Z613 t ∧ Z615 t = Z615 t ∧ Z696 t ∧ Z698 t ∧ Z895 t) ∧ Z9 ∧ Z203 t ∧ True ∧ ∃ (x : Z75), (Z362 t x ∧ True ∧ Z485 t x ∧ Z97 ∧ Z40 ∧ Z164 ∧ Z188 ∧ Z842 t x ∧ Z834 t x ∧ (Z60 ∧ Z162 t ++ List.take Z28 (List.drop Z27 ((Z99 t, Z556 t, Z587 t, Z407 t, Z662 t) :: Z20)) = Z162 x) ∧ True) ∧ Z176 x t) ∧ (Z316 t → True ∧ Z986 t)) ∧ (Z297 t → True ∧ Z986 t)) ∧ Z1028 t)) ∧ (Z231 t → (Z47 → Z572 t ∧ Z216 ∧ Z422 t ∧ (nat_lit 1 = nat_lit 1 ∧ Z593 t ∧ Z238 t ∧ Z473 t = Z473 t ∧ Z711 t) ∧ Z9 ∧ Z208 t ∧ Z571 t ∧ Z160 ∧ Z497 t ∧ (Z296 t → (Z315 t → Z804 t ∧ Z695 t ∧ Z569 t ∧ Z731 t ∧ Z338 t ∧ Z582 t ∧ ((Z134 ∧ Z14 ≤ Z448 t ∧ Z448 t ≤ Z36) ∧ Z625 t) ∧ (Z469 t = Z469 t ∧ Z192) ∧ Z633 t ∧ Z847 t ∧ Z740 t ∧ Z694 t ∧ (nat_lit 1 = nat_lit 1 ∧ Z170 t ∧ Z761 t ∧ Z762 t ∧ Z659 t ∧ Z658 t ∧ Z654 t = Z654 t ∧ Z656 t = Z656 t ∧ Z895 t) ∧ Z9 ∧ Z203 t ∧ True ∧ ∃ (x : Z75), (Z362 t x ∧ True ∧ Z485 t x ∧ Z97 ∧ Z40 ∧ Z164 ∧ Z188 ∧ Z840 t x ∧ Z837 t x ∧ (Z60 ∧ Z162 t ++ List.take Z28 (List.drop Z27 ((Z99 t, Z556 t, Z388 t, Z631 t, Z662 t) :: Z20)) = Z162 x) ∧ True) ∧ Z176 x t) ∧ (Z316 t → True ∧ Z987 t)) ∧ (Z297 t → True ∧ Z987 t)) ∧ Z1028 t)) ∧ (Z232 t → (Z39 → Z572 t ∧ Z216 ∧ Z422 t ∧ (nat_lit 1 = nat_lit 1 ∧ Z593 t ∧ Z238 t ∧ Z251 t ∧ Z474 t = Z474 t ∧ True) ∧ Z9 ∧ Z208 t ∧ Z571 t ∧ Z160 ∧ Z497 t ∧ (Z296 t → (Z315 t → Z804 t ∧ Z695 t ∧ Z569 t ∧ Z731 t ∧ Z338 t ∧ Z582 t ∧ Z747 t ∧ Z350 t ∧ Z633 t ∧ ((Z134 ∧ Z14 ≤ Z452 t ∧ Z452 t ≤ Z36) ∧ Z692 t) ∧ (Z466 t = Z466 t ∧ Z192) ∧ Z694 t ∧ (nat_lit 1 = nat_lit 1 ∧ Z170 t ∧ Z761 t ∧ Z762 t ∧ Z659 t ∧ Z658 t ∧ Z696 t ∧ Z698 t ∧ Z688 t = Z688 t ∧ Z686 t = Z686 t ∧ True) ∧ Z9 ∧ Z203 t ∧ True ∧ ∃ (x : Z75), (Z362 t x ∧ True ∧ Z485 t x ∧ Z97 ∧ Z40 ∧ Z164 ∧ Z188 ∧ Z790 t x ∧ Z785 t x ∧ (Z60 ∧ Z162 t ++ List.take Z28 (List.drop Z27 ((Z99 t, Z556 t, Z388 t, Z407 t, Z663 t) :: Z20)) = Z162 x) ∧ True) ∧ Z176 x t) ∧ (Z316 t → Z949 t)) ∧ (Z297 t → Z949 t)) ∧ (Z44 → Z1026 t)))) ∧ (Z191 t = false → (nat_lit 1 = nat_lit 1 ∧ Z150 t = Z150 t ∧ Z550 t) ∧ Z9 ∧ Z208 t ∧ (Z138 ∧ Z355 t) ∧ Z160 ∧ Z282 t ∧ (Z199 t = true → (Z315 t → ((Z136 ∧ Z14 ≤ Z131 t ∧ Z131 t ≤ Z36) ∧ (Z200 t ∧ Z180 t < Z50) ∧ Z193) ∧ (Z147 t = Z147 t ∧ Z194) ∧ (Z164 ∧ Z326 t) ∧ (Z311 t ∧ (Z14 ≤ Z204 t ∧ Z204 t < Z50) ∧ Z193) ∧ Z338 t ∧ (Z164 ∧ (Z212 t = Z212 t ∧ True) ∧ Z125) ∧ (Z327 t ∧ (Z14 ≤ Z221 t ∧ Z221 t < Z50) ∧ Z193) ∧ Z350 t ∧ (Z164 ∧ (Z228 t = Z228 t ∧ True) ∧ Z125) ∧ (Z328 t ∧ (Z14 ≤ Z246 t ∧ Z246 t < Z50) ∧ Z193) ∧ Z349 t ∧ (Z164 ∧ (Z258 t = Z258 t ∧ True) ∧ Z125) ∧ (nat_lit 1 = nat_lit 1 ∧ Z170 t ∧ Z279 t = Z279 t ∧ Z278 t = Z278 t ∧ Z306 t = Z306 t ∧ Z307 t = Z307 t ∧ Z337 t = Z337 t ∧ Z336 t = Z336 t ∧ Z366 t = Z366 t ∧ Z365 t = Z365 t ∧ True) ∧ Z9 ∧ Z203 t ∧ True ∧ ∃ (x : Z75), (Z362 t x ∧ True ∧ (Value.int IntKind.i64 (Z246 t + Z15) = Z153 x ∧ True) ∧ Z97 ∧ Z40 ∧ Z164 ∧ Z188 ∧ Z627 t x ∧ Z454 t x ∧ (Z60 ∧ Z162 t ++ List.take Z28 (List.drop Z27 ((Z99 t, Z261 t, Z289 t, Z317 t, Z348 t) :: Z20)) = Z162 x) ∧ True) ∧ Z176 x t) ∧ (Z316 t → Z873 t)) ∧ (Z199 t = false → Z873 t))) ∧ (Z197 t = false → True ∧ ((Z188 ∧ Z8) ∧ True) ∧ True ∧ (Z153 t = Value.int IntKind.i64 (Prod.fst Z95) ∧ True) ∧ Z97 ∧ Z40 ∧ (Z93 ∧ Z162 t = Prod.snd Z122) ∧ (Z45 = Z45 ∧ Z161 t = Prod.fst Z122) ∧ True))
    (by kernel_rfl) ?_
  simp only [eq_self, true_and, and_true, Int.toNat_natCast, Nat.zero_add, Nat.sub_zero, Value.int.injEq, Value.bool.injEq, decide_eq_true_eq, decide_eq_false_iff_not]
  have hby : (0 < l.length ∧ l.length < 9223372036854775808) ∧ ∀ (x : Int), x ∈ l → 0 ≤ x ∧ x ≤ 65535 := hx
  have h4 := drawM_lt l 4 (show (0 : Int) < 21 by decide)
  have h3 := drawM_lt l 3 (show (0 : Int) < 600 by decide)
  have h5 := drawM_lt l 5 (show (0 : Int) < 21 - drawM l 4 21 by omega)
  have hr := rise_b l
  have hc := ch_b l
  have hlg := long_b l
  obtain ⟨hmn, hmn2⟩ := mn_b l
  have w1 : IntKind.i64.wrap (21 - drawM l 4 21) = 21 - drawM l 4 21 := wrap_id (by omega) (by omega)
  have w2 : IntKind.i64.wrap (drawM l 0 13 + 1) = ((mnM l : Nat) : Int) := by rw [show drawM l 0 13 = mlongM l from rfl, wrap_id (by omega) (by omega)]; omega
  have w3 : IntKind.i64.wrap (200 + drawM l 3 600) = 200 + drawM l 3 600 := wrap_id (by omega) (by omega)
  have w4 : IntKind.i64.wrap (20 - drawM l 4 21) = 20 - drawM l 4 21 := wrap_id (by omega) (by omega)
  have w5 : IntKind.i64.wrap (20 - drawM l 4 21 - drawM l 5 (21 - drawM l 4 21)) = 20 - drawM l 4 21 - drawM l 5 (21 - drawM l 4 21) := wrap_id (by omega) (by omega)
  have w6 : IntKind.i64.wrap (2 * mriseM l) = 2 * mriseM l := wrap_id (by omega) (by omega)
  have w7 : IntKind.i64.wrap (2 * mriseM l + 1) = 2 * mriseM l + 1 := wrap_id (by omega) (by omega)
  have w8 : IntKind.i64.wrap (mchM l + 1) = mchM l + 1 := wrap_id (by omega) (by omega)
  simp only [show (0 : Int) + 1 = 1 from rfl, show (1 : Int) + 1 = 2 from rfl, show (2 : Int) + 1 = 3 from rfl, show (3 : Int) + 1 = 4 from rfl, show (4 : Int) + 1 = 5 from rfl, show (5 : Int) + 1 = 6 from rfl, w1, w2, w3, w4, w5, w6, w7, w8]
  refine ⟨⟨⟨by decide, by decide⟩, ⟨by decide, by decide⟩, hby⟩, ⟨⟨by decide, by decide⟩, ⟨by decide, by decide⟩, hby⟩, ⟨⟨by decide, by decide⟩, ⟨by decide, by decide⟩, hby⟩, ⟨⟨by decide, by decide⟩, ⟨by decide, by decide⟩, hby⟩, ⟨⟨by decide, by decide⟩, ⟨by decide, by decide⟩, hby⟩, ⟨⟨by omega, by omega⟩, ⟨by decide, by decide⟩, hby⟩, ⟨⟨0, Nat.zero_le _⟩, by refine ⟨⟨?_, ?_⟩, ⟨?_, ?_⟩, ?_, ⟨?_, ?_, ?_⟩, ?_, ?_, ?_, ?_⟩ <;> first | trivial | rfl⟩, fun t => ⟨fun ht => ?_, fun ht => ?_⟩⟩
  · obtain ⟨k, hk⟩ := t
    have hlt : k < mnM l := by have h0 : (k : Int) < (mnM l : Int) := ht; omega
    have hb := st_b l k
    have dh := drawM_lt l (stM l k).2.1 (show 0 < 2 * mriseM l + 1 by omega)
    have hph := hb.p.h
    have hpa := hb.p.a
    have hpb := hb.p.b
    have hpc := hb.p.c
    have hps := hb.p.s
    have hcc := hb.c
    have dn := drawM_lt l ((stM l k).2.1 + 1 + 1 + 1) (show 0 < mchM l + 1 by omega)
    have w9 : IntKind.i64.wrap ((stM l k).1.1 + drawM l (stM l k).2.1 (2 * mriseM l + 1)) = (stM l k).1.1 + drawM l (stM l k).2.1 (2 * mriseM l + 1) := wrap_id (by omega) (by omega)
    have w10 : IntKind.i64.wrap ((stM l k).1.1 + drawM l (stM l k).2.1 (2 * mriseM l + 1) - mriseM l) = (stM l k).1.1 + drawM l (stM l k).2.1 (2 * mriseM l + 1) - mriseM l := wrap_id (by omega) (by omega)
    simp only [w9, w10]
    have d1 := drawM_lt l ((stM l k).2.1 + 1) (show (0 : Int) < 3 by decide)
    have d2 := drawM_lt l ((stM l k).2.1 + 1 + 1) (show (0 : Int) < 3 by decide)
    refine ⟨fun h0 => ⟨⟨⟨by omega, by omega⟩, ⟨by omega, by omega⟩, hby⟩, ⟨⟨by decide, by decide⟩, ⟨by omega, by omega⟩, hby⟩, d1, ?_⟩, fun h0 => ?_⟩
    · refine ⟨⟨?_, ?_⟩, ?_⟩
      all_goals
        intro hi
        refine ⟨⟨⟨by decide, by decide⟩, ⟨by omega, by omega⟩, hby⟩, d2, ⟨?_, ?_⟩, ?_⟩
        all_goals
          intro hj
          refine ⟨fun he => ?_, fun he => ?_⟩
          · first
            | (exfalso; revert he; decide)
            | (refine ⟨⟨⟨by omega, by omega⟩, ⟨by omega, by omega⟩, hby⟩, made_tail hby hlt ?_⟩
               simp only [show ((0 : Nat) : Int) = 0 from rfl, show ((1 : Nat) : Int) = 1 from rfl, show ((2 : Nat) : Int) = 2 from rfl] at hi hj
               rw [go_move h0 hi hj (by decide)]
               refine Prod.ext (Prod.ext rfl (Prod.ext ?_ (Prod.ext ?_ ?_))) rfl <;> simp [paddM, pgetM] <;> (rw [wrap_id (by omega) (by omega)] <;> omega))
          · first
            | (exfalso; revert he; decide)
            | exact made_tail hby hlt (go_same h0 (hi.trans hj.symm))
    · refine made_tail hby hlt ?_
      unfold goM
      rw [if_pos (show k = 0 by have : ¬ (k : Int) > 0 := h0; omega)]
  · obtain ⟨k, hk⟩ := t
    have hie : k = mnM l := by have h0 : ¬ (k : Int) < (mnM l : Int) := ht; omega
    subst hie
    exact ⟨rfl, rfl, rfl⟩

theorem made_sound : Sound Try.prog 17 madeS.con := FSpec.sound _ (enter_of Try.func17 (by kernel_rfl) (by kernel_rfl)) made_ok
end AE.Soil

namespace AE.Soil
open Go AE Go.Proofs

/-- How far a place is from another one. -/
def D (p k : Int) : Int := max (k - p) (p - k)
theorem D_nonneg (p k : Int) : 0 ≤ D p k := by unfold D; omega
theorem D_self (p : Int) : D p p = 0 := by unfold D; omega
theorem D_comm (p k : Int) : D p k = D k p := by unfold D; omega
theorem D_tri (p j k : Int) : D p k ≤ D p j + D j k := by unfold D; omega
theorem D_le {p k n : Int} (h1 : 0 ≤ p) (h2 : p ≤ n) (h3 : 0 ≤ k) (h4 : k ≤ n) : D p k ≤ n := by unfold D; omega
theorem D_suc (k : Int) : D k (k + 1) = 1 := by unfold D; omega
theorem D_pre (k : Int) : D (k + 1) k = 1 := by unfold D; omega
theorem DR_tri (p j k r : Int) (hr : 0 ≤ r) : D p k * r ≤ D p j * r + D j k * r := by
  rw [← Int.add_mul]; exact Int.mul_le_mul_of_nonneg_right (D_tri p j k) hr
theorem DR_nonneg (p k r : Int) (hr : 0 ≤ r) : 0 ≤ D p k * r := Int.mul_nonneg (D_nonneg p k) hr
theorem DR_le {p k n r m : Int} (h : D p k ≤ n) (hr : 0 ≤ r) (hm : r ≤ m) (hn : 0 ≤ n) : D p k * r ≤ n * m := Int.mul_le_mul h hm hr hn

def Pl (g : GroundT) (k : Int) : Prop := 0 ≤ k ∧ k ≤ g.long
theorem far_eq {g : GroundT} (hg : GOk g) {p : PitT} (hp : PitOk g.long p) {k : Int} (hk : Pl g k) : farM p k g.rise = D p.1 k * g.rise ∧ 0 ≤ D p.1 k * g.rise ∧ D p.1 k * g.rise ≤ 40000 := by
  have h1 := hp.at_
  have h2 := hg.long
  have h3 := hg.rise
  have h4 : D p.1 k ≤ 40 := D_le h1.1 (by omega) hk.1 (by have := hk.2; omega)
  have h5 := DR_nonneg p.1 k g.rise h3.1
  have h6 : D p.1 k * g.rise ≤ 40000 := DR_le h4 h3.1 h3.2 (by omega)
  have hk1 := hk.1
  have hk2 := hk.2
  refine ⟨?_, h5, h6⟩
  unfold farM
  rw [show W (k - p.1) = k - p.1 from wrap_id (by omega) (by omega), show W (p.1 - k) = p.1 - k from wrap_id (by omega) (by omega)]
  exact wrap_id (by show _ ≤ D p.1 k * g.rise; omega) (by show D p.1 k * g.rise ≤ _; omega)
theorem dug_eq {g : GroundT} (hg : GOk g) {p : PitT} (hp : PitOk g.long p) {k : Int} (hk : Pl g k) : dugM p k g.rise = (p.2.1.1 - D p.1 k * g.rise, p.2.1.2 + D p.1 k * g.rise) := by
  obtain ⟨h1, h2, h3⟩ := far_eq hg hp hk
  have h4 : 0 ≤ p.2.1.1 ∧ p.2.1.1 ≤ p.2.1.2 ∧ p.2.1.2 ≤ 1000 := hp.hard
  unfold dugM
  rw [h1]
  rw [show W (p.2.1.1 - D p.1 k * g.rise) = p.2.1.1 - D p.1 k * g.rise from wrap_id (by omega) (by omega), show W (p.2.1.2 + D p.1 k * g.rise) = p.2.1.2 + D p.1 k * g.rise from wrap_id (by omega) (by omega)]
theorem fold_lo {α : Type} (f : α → Span) (v : Int) : ∀ (l : List α) (s : Span), (l.foldl (fun s t => bothM s (f t)) s).1 ≤ v ↔ s.1 ≤ v ∧ ∀ t ∈ l, (f t).1 ≤ v
  | [], s => by simp
  | x :: l, s => by
    rw [List.foldl_cons, fold_lo f v l]
    simp only [bothM, List.forall_mem_cons]
    constructor
    · rintro ⟨h1, h2⟩; exact ⟨by omega, by omega, h2⟩
    · rintro ⟨h1, h2, h3⟩; exact ⟨by omega, h3⟩
theorem fold_hi {α : Type} (f : α → Span) (v : Int) : ∀ (l : List α) (s : Span), v ≤ (l.foldl (fun s t => bothM s (f t)) s).2 ↔ v ≤ s.2 ∧ ∀ t ∈ l, v ≤ (f t).2
  | [], s => by simp
  | x :: l, s => by
    rw [List.foldl_cons, fold_hi f v l]
    simp only [bothM, List.forall_mem_cons]
    constructor
    · rintro ⟨h1, h2⟩; exact ⟨by omega, by omega, h2⟩
    · rintro ⟨h1, h2, h3⟩; exact ⟨by omega, h3⟩
theorem hard_lo {g : GroundT} (hg : GOk g) {k : Int} (hk : Pl g k) (v : Int) : (hardM g k).1 ≤ v ↔ 0 ≤ v ∧ ∀ p ∈ g.pits, p.2.1.1 - D p.1 k * g.rise ≤ v := by
  unfold hardM hardTM
  rw [fold_lo (fun t => tellM t k g.rise), tells_eq]
  simp only [List.forall_mem_cons, List.forall_mem_map, tellM, if_true]
  constructor
  · rintro ⟨h1, _, h3⟩
    refine ⟨h1, fun p hp => ?_⟩
    have := h3 p hp
    simp only [Bool.false_eq_true, if_false] at this
    rw [dug_eq hg (hg.pits p hp) hk] at this; exact this
  · rintro ⟨h1, h3⟩
    refine ⟨h1, h1, fun p hp => ?_⟩
    simp only [Bool.false_eq_true, if_false]
    rw [dug_eq hg (hg.pits p hp) hk]; exact h3 p hp
theorem hard_hi {g : GroundT} (hg : GOk g) {k : Int} (hk : Pl g k) (v : Int) : v ≤ (hardM g k).2 ↔ v ≤ 1000 ∧ ∀ p ∈ g.pits, v ≤ p.2.1.2 + D p.1 k * g.rise := by
  unfold hardM hardTM
  rw [fold_hi (fun t => tellM t k g.rise), tells_eq]
  simp only [List.forall_mem_cons, List.forall_mem_map, tellM, if_true]
  constructor
  · rintro ⟨h1, _, h3⟩
    refine ⟨h1, fun p hp => ?_⟩
    have := h3 p hp
    simp only [Bool.false_eq_true, if_false] at this
    rw [dug_eq hg (hg.pits p hp) hk] at this; exact this
  · rintro ⟨h1, h3⟩
    refine ⟨h1, h1, fun p hp => ?_⟩
    simp only [Bool.false_eq_true, if_false]
    rw [dug_eq hg (hg.pits p hp) hk]; exact h3 p hp
theorem hard_ge0 {g : GroundT} (hg : GOk g) {k : Int} (hk : Pl g k) : 0 ≤ (hardM g k).1 := ((hard_lo hg hk _).1 (Int.le_refl _)).1
theorem hard_le1000 {g : GroundT} (hg : GOk g) {k : Int} (hk : Pl g k) : (hardM g k).2 ≤ 1000 := ((hard_hi hg hk _).1 (Int.le_refl _)).1
/-- Neither end changes faster than it can. -/
theorem lip_lo {g : GroundT} (hg : GOk g) {j k : Int} (hj : Pl g j) (hk : Pl g k) : (hardM g j).1 ≤ (hardM g k).1 + D j k * g.rise := by
  obtain ⟨h1, h2⟩ := (hard_lo hg hk _).1 (Int.le_refl _)
  refine (hard_lo hg hj _).2 ⟨by have := DR_nonneg j k g.rise hg.rise.1; omega, fun p hp => ?_⟩
  have := h2 p hp
  have := DR_tri p.1 j k g.rise hg.rise.1
  omega
theorem lip_hi {g : GroundT} (hg : GOk g) {j k : Int} (hj : Pl g j) (hk : Pl g k) : (hardM g k).2 ≤ (hardM g j).2 + D j k * g.rise := by
  obtain ⟨h1, h2⟩ := (hard_hi hg hk _).1 (Int.le_refl _)
  have : (hardM g k).2 - D j k * g.rise ≤ (hardM g j).2 := by
    refine (hard_hi hg hj _).2 ⟨by have := DR_nonneg j k g.rise hg.rise.1; omega, fun p hp => ?_⟩
    have := h2 p hp
    have := DR_tri p.1 j k g.rise hg.rise.1
    omega
  omega
/-! ### truths of hardness -/
structure HTr (g : GroundT) (h : Int → Int) : Prop where
  bound : ∀ k, Pl g k → 0 ≤ h k ∧ h k ≤ 1000
  step : ∀ k, Pl g k → Pl g (k + 1) → h (k + 1) ≤ h k + g.rise ∧ h k ≤ h (k + 1) + g.rise
  pits : ∀ p ∈ g.pits, p.2.1.1 ≤ h p.1 ∧ h p.1 ≤ p.2.1.2
theorem HTr.up {g : GroundT} {h : Int → Int} (t : HTr g h) {k : Int} (hk : Pl g k) : ∀ n : Nat, Pl g (k + n) → h (k + n) ≤ h k + n * g.rise ∧ h k ≤ h (k + n) + n * g.rise
  | 0, _ => by simp
  | n + 1, hn => by
    have hk1 := hk.1
    have hk2 := hk.2
    have hn1 : 0 ≤ k + ((n + 1 : Nat) : Int) := hn.1
    have hn2 : k + ((n + 1 : Nat) : Int) ≤ g.long := hn.2
    have hp : Pl g (k + n) := ⟨by omega, by omega⟩
    obtain ⟨i1, i2⟩ := t.up hk n hp
    have he : k + ((n + 1 : Nat) : Int) = k + n + 1 := by omega
    obtain ⟨s1, s2⟩ := t.step (k + n) hp (by rw [← he]; exact hn)
    have hm : ((n + 1 : Nat) : Int) * g.rise = n * g.rise + g.rise := by rw [Int.natCast_succ, Int.add_mul, Int.one_mul]
    rw [he, hm]
    exact ⟨by omega, by omega⟩
theorem HTr.lip {g : GroundT} {h : Int → Int} (t : HTr g h) {j k : Int} (hj : Pl g j) (hk : Pl g k) : h j ≤ h k + D j k * g.rise ∧ h k ≤ h j + D j k * g.rise := by
  rcases Int.le_total j k with hl | hl
  · obtain ⟨n, hn⟩ := Int.eq_ofNat_of_zero_le (show 0 ≤ k - j by omega)
    have he : k = j + n := by omega
    subst he
    have := t.up hj n hk
    have hd : D j (j + n) = n := by unfold D; omega
    rw [hd]; omega
  · obtain ⟨n, hn⟩ := Int.eq_ofNat_of_zero_le (show 0 ≤ j - k by omega)
    have he : j = k + n := by omega
    subst he
    have := t.up hk n hj
    have hd : D (k + n) k = n := by unfold D; omega
    rw [hd]; omega
theorem HTr.inside {g : GroundT} (hg : GOk g) {h : Int → Int} (t : HTr g h) {k : Int} (hk : Pl g k) : (hardM g k).1 ≤ h k ∧ h k ≤ (hardM g k).2 := by
  obtain ⟨b1, b2⟩ := t.bound k hk
  refine ⟨(hard_lo hg hk _).2 ⟨b1, fun p hp => ?_⟩, (hard_hi hg hk _).2 ⟨b2, fun p hp => ?_⟩⟩
  · have := t.lip (hg.pits p hp).at_ hk
    have := t.pits p hp
    omega
  · have := t.lip (hg.pits p hp).at_ hk
    have := t.pits p hp
    omega
/-- All that is told of hardness can be so. -/
def HOk (g : GroundT) : Prop := ∀ k, Pl g k → (hardM g k).1 ≤ (hardM g k).2
theorem hard_pit {g : GroundT} (hg : GOk g) {p : PitT} (hp : p ∈ g.pits) : p.2.1.1 ≤ (hardM g p.1).1 ∧ (hardM g p.1).2 ≤ p.2.1.2 := by
  have hk : Pl g p.1 := (hg.pits p hp).at_
  have h1 := ((hard_lo hg hk _).1 (Int.le_refl _)).2 p hp
  have h2 := ((hard_hi hg hk _).1 (Int.le_refl _)).2 p hp
  rw [D_self] at h1 h2
  omega
theorem HOk.low {g : GroundT} (hg : GOk g) (h : HOk g) : HTr g fun k => (hardM g k).1 where
  bound := fun k hk => ⟨hard_ge0 hg hk, Int.le_trans (h k hk) (hard_le1000 hg hk)⟩
  step := fun k hk hk1 => by
    have h1 := lip_lo hg hk1 hk
    have h2 := lip_lo hg hk hk1
    rw [D_pre, Int.one_mul] at h1
    rw [D_suc, Int.one_mul] at h2
    exact ⟨h1, h2⟩
  pits := fun p hp => by
    have h1 := hard_pit hg hp
    have h2 := h p.1 (hg.pits p hp).at_
    exact ⟨h1.1, by omega⟩
theorem HTr.ok {g : GroundT} (hg : GOk g) {h : Int → Int} (t : HTr g h) : HOk g := fun k hk => by
  have := t.inside hg hk
  omega
theorem hok_iff {g : GroundT} (hg : GOk g) : HOk g ↔ ∃ h, HTr g h := ⟨fun h => ⟨_, h.low hg⟩, fun ⟨_, t⟩ => t.ok hg⟩
/-- Each number that is told is that of a truth. -/
theorem hard_any {g : GroundT} (hg : GOk g) (h : HOk g) {a n : Int} (ha : Pl g a) (h1 : (hardM g a).1 ≤ n) (h2 : n ≤ (hardM g a).2) : HTr g fun k => max (hardM g k).1 (n - D a k * g.rise) where
  bound := fun k hk => by
    have := hard_ge0 hg hk
    have := h k hk
    have := hard_le1000 hg hk
    have := hard_le1000 hg ha
    have := DR_nonneg a k g.rise hg.rise.1
    omega
  step := fun k hk hk1 => by
    have h3 := lip_lo hg hk1 hk
    have h4 := lip_lo hg hk hk1
    rw [D_pre, Int.one_mul] at h3
    rw [D_suc, Int.one_mul] at h4
    have h5 := DR_tri a k (k + 1) g.rise hg.rise.1
    have h6 := DR_tri a (k + 1) k g.rise hg.rise.1
    rw [D_suc, Int.one_mul] at h5
    rw [D_pre, Int.one_mul] at h6
    show max _ _ ≤ max _ _ + _ ∧ max _ _ ≤ max _ _ + _
    constructor <;> omega
  pits := fun p hp => by
    have h3 := hard_pit hg hp
    have h4 := h p.1 (hg.pits p hp).at_
    have h5 := lip_hi hg (hg.pits p hp).at_ ha
    rw [D_comm] at h5
    show _ ≤ max _ _ ∧ max _ _ ≤ _
    constructor <;> omega
theorem hard_any_at {g : GroundT} {a n : Int} (h1 : (hardM g a).1 ≤ n) : max (hardM g a).1 (n - D a a * g.rise) = n := by rw [D_self]; omega

/-! ### what is told or not -/
theorem place_of {g : GroundT} (hg : GOk g) {k : Int} (hk : Pl g k) : ∃ j : Nat, k = (j : Int) ∧ j < nM g := by
  obtain ⟨h0, h1, h2⟩ := n_ok hg
  obtain ⟨j, rfl⟩ := Int.eq_ofNat_of_zero_le hk.1
  exact ⟨j, rfl, by have := hk.2; omega⟩
theorem pl_of {g : GroundT} (hg : GOk g) {j : Nat} (h : j < nM g) : Pl g (j : Int) := by
  obtain ⟨h0, h1, h2⟩ := n_ok hg
  exact ⟨by omega, by omega⟩
theorem look_iff (g : GroundT) : lookM g = true ↔ ∀ j, j < nM g → (hardM g (j : Int)).1 ≤ (hardM g (j : Int)).2 ∧ noneM ((boxesM g).getD j m0) = false := by
  unfold lookM
  rw [List.all_eq_true]
  simp only [List.mem_range]
  constructor
  · intro h j hj
    have h' := h j hj
    unfold badM at h'
    simp only [Bool.not_or, Bool.and_eq_true, Bool.not_eq_true', decide_eq_false_iff_not] at h'
    exact ⟨by omega, h'.2⟩
  · intro h j hj
    have h' := h j hj
    unfold badM
    simp only [Bool.not_or, Bool.and_eq_true, Bool.not_eq_true', decide_eq_false_iff_not]
    exact ⟨by omega, h'.2⟩
theorem look_hok {g : GroundT} (hg : GOk g) (h : lookM g = true) : HOk g := fun k hk => by
  obtain ⟨j, rfl, hj⟩ := place_of hg hk
  exact ((look_iff g).1 h j hj).1
theorem err_of {g : GroundT} (hg : groundM g = true) {a : Ask} {l : List Int} (ha : l.all (askM a g.long) = true) : openErrM g a l = if lookM g then 0 else 10 := open_look hg ha
theorem err_range {g : GroundT} (hg : groundM g = true) {a : Ask} {l : List Int} (ha : l.all (askM a g.long) = false) : openErrM g a l = 2 := by unfold openErrM; rw [hg, ha]; rfl
theorem hard_told {g : GroundT} (hg : groundM g = true) {k : Int} (hk : Pl g k) : hardOM g k = if lookM g then (hardM g k, 0) else ((0, 0), 10) := by
  have ha : [k].all (askM .place g.long) = true := by simp [askM, inM]; exact hk
  unfold hardOM
  rw [err_of hg ha]
  cases lookM g <;> rfl
theorem parts_told {g : GroundT} (hg : groundM g = true) {k : Int} (hk : Pl g k) : partsOM g k = if lookM g then ((boxesM g).getD k.toNat m0, 0) else (m0, 10) := by
  have ha : [k].all (askM .place g.long) = true := by simp [askM, inM]; exact hk
  unfold partsOM
  rw [err_of hg ha]
  cases lookM g <;> rfl
theorem class_told {g : GroundT} (hg : groundM g = true) {k : Int} (hk : Pl g k) : classOM g k = if lookM g then (classesM ((boxesM g).getD k.toNat m0), 0) else (0, 10) := by
  have ha : [k].all (askM .place g.long) = true := by simp [askM, inM]; exact hk
  unfold classOM
  rw [err_of hg ha]
  cases lookM g <;> rfl
/-! ### sums -/
def sumM (g : GroundT) (a : Nat) : Nat → Span
  | 0 => (0, 0)
  | i + 1 => ((sumM g a i).1 + (hardM g ((a + i : Nat) : Int)).1, (sumM g a i).2 + (hardM g ((a + i : Nat) : Int)).2)
theorem sum_add (g : GroundT) (a m : Nat) : ∀ n, sumM g a (m + n) = ((sumM g a m).1 + (sumM g (a + m) n).1, (sumM g a m).2 + (sumM g (a + m) n).2)
  | 0 => by simp [sumM]
  | n + 1 => by
    rw [← Nat.add_assoc, sumM, sum_add g a m n, sumM, Nat.add_assoc a m n, Int.add_assoc, Int.add_assoc]
theorem sum_bound {g : GroundT} (hg : GOk g) (h : HOk g) (a : Nat) : ∀ i, a + i ≤ nM g → 0 ≤ (sumM g a i).1 ∧ (sumM g a i).1 ≤ (sumM g a i).2 ∧ (sumM g a i).2 ≤ 1000 * i
  | 0, _ => by simp [sumM]
  | i + 1, hi => by
    obtain ⟨h1, h2, h3⟩ := sum_bound hg h a i (by omega)
    have hk := pl_of hg (show a + i < nM g by omega)
    have := hard_ge0 hg hk
    have := h _ hk
    have := hard_le1000 hg hk
    simp only [sumM]
    omega
theorem workAt_eq {g : GroundT} (hg : GOk g) (h : HOk g) (a : Int) : ∀ i, a.toNat + i ≤ nM g → workAtM g a i = sumM g a.toNat i
  | 0, _ => rfl
  | i + 1, hi => by
    have e := workAt_eq hg h a i (by omega)
    obtain ⟨h1, h2, h3⟩ := sum_bound hg h a.toNat i (by omega)
    have hn := (n_ok hg).2.2
    have hk := pl_of hg (show a.toNat + i < nM g by omega)
    have := hard_ge0 hg hk
    have := h _ hk
    have := hard_le1000 hg hk
    rw [workAtM, e, hards_get (by omega), sumM, show W ((sumM g a.toNat i).1 + (hardM g ((a.toNat + i : Nat) : Int)).1) = _ from wrap_id (by omega) (by omega), show W ((sumM g a.toNat i).2 + (hardM g ((a.toNat + i : Nat) : Int)).2) = _ from wrap_id (by omega) (by omega)]
theorem work_told {g : GroundT} (hg : groundM g = true) {a b : Int} (ha : Pl g a) (hb : Pl g b) (hab : a ≤ b) : workOM g a b = if lookM g then (sumM g a.toNat (b.toNat + 1 - a.toNat), 0) else ((0, 0), 10) := by
  have hs : [a, b].all (askM (.span (spanOkM a b)) g.long) = true := by simp [askM, inM, spanOkM]; exact ⟨⟨ha, hab⟩, hb, hab⟩
  have hok := ground_ok hg
  have hn := n_ok hok
  have hb2 := hb.2
  have hb1 := hb.1
  have ha1 := ha.1
  unfold workOM workErrM
  rw [err_of hg hs]
  cases hl : lookM g with
  | false => rfl
  | true =>
    have hw : W (b + 1) = b + 1 := wrap_id (by omega) (by omega)
    have e : workNM a b = b.toNat + 1 - a.toNat := by unfold workNM; rw [hw]; omega
    show (workAtM g a (workNM a b), (0 : Int)) = _
    rw [e, workAt_eq hok (look_hok hok hl) a _ (by omega)]; rfl
theorem work_range {g : GroundT} (hg : groundM g = true) {a b : Int} (hab : ¬ (Pl g a ∧ Pl g b ∧ a ≤ b)) : workOM g a b = ((0, 0), 2) := by
  have hs : [a, b].all (askM (.span (spanOkM a b)) g.long) = false := by
    have : ¬ [a, b].all (askM (.span (spanOkM a b)) g.long) = true := by
      simp [askM, inM, spanOkM]
      intro h1 h2 h3 h4 h5
      exact absurd ⟨⟨h1, h2⟩, ⟨h4, h5⟩, h3⟩ hab
    simpa using this
  unfold workOM workErrM
  rw [err_range hg hs]; rfl
/-! ### where to dig -/
theorem dig_at {g : GroundT} (hg : GOk g) (h : HOk g) : ∀ i, i ≤ nM g → (i = 0 → digAtM (hardsM g (nM g)) i = (0, -1)) ∧ (0 < i → ∃ a : Nat, a < i ∧ digAtM (hardsM g (nM g)) i = ((a : Int), (hardM g (a : Int)).2 - (hardM g (a : Int)).1) ∧ ∀ k : Nat, k < i → (hardM g (k : Int)).2 - (hardM g (k : Int)).1 ≤ (hardM g (a : Int)).2 - (hardM g (a : Int)).1 ∧ (k < a → (hardM g (k : Int)).2 - (hardM g (k : Int)).1 < (hardM g (a : Int)).2 - (hardM g (a : Int)).1))
  | 0, _ => ⟨fun _ => rfl, fun h => absurd h (Nat.lt_irrefl _)⟩
  | i + 1, hi => by
    refine ⟨fun h => absurd h (by omega), fun _ => ?_⟩
    obtain ⟨i1, i2⟩ := dig_at hg h i (by omega)
    have hk := pl_of hg (show i < nM g by omega)
    have b1 := hard_ge0 hg hk
    have b2 := h _ hk
    have b3 := hard_le1000 hg hk
    have hW : W ((hardM g (i : Int)).2 - (hardM g (i : Int)).1) = (hardM g (i : Int)).2 - (hardM g (i : Int)).1 := wrap_id (by omega) (by omega)
    have e : digAtM (hardsM g (nM g)) (i + 1) = digStepM i (hardM g (i : Int)) (digAtM (hardsM g (nM g)) i) := by rw [digAtM, hards_get (by omega)]
    rw [e]
    unfold digStepM
    rw [hW]
    by_cases h0 : i = 0
    · subst h0
      rw [i1 rfl, if_pos (by show _ > (-1 : Int); omega)]
      refine ⟨0, by omega, rfl, fun k hk => ?_⟩
      have : k = 0 := by omega
      subst this
      exact ⟨Int.le_refl _, fun h => absurd h (Nat.lt_irrefl _)⟩
    · obtain ⟨a, ha, he, hall⟩ := i2 (by omega)
      rw [he]
      by_cases hc : (hardM g (i : Int)).2 - (hardM g (i : Int)).1 > (hardM g (a : Int)).2 - (hardM g (a : Int)).1
      · rw [if_pos hc]
        refine ⟨i, by omega, rfl, fun k hk => ?_⟩
        rcases Nat.lt_or_eq_of_le (Nat.le_of_lt_succ hk) with hlt | rfl
        · have := (hall k hlt).1
          exact ⟨by omega, fun _ => by omega⟩
        · exact ⟨Int.le_refl _, fun h => absurd h (Nat.lt_irrefl _)⟩
      · rw [if_neg hc]
        refine ⟨a, by omega, rfl, fun k hk => ?_⟩
        rcases Nat.lt_or_eq_of_le (Nat.le_of_lt_succ hk) with hlt | rfl
        · exact hall k hlt
        · exact ⟨by omega, fun _ => by omega⟩
theorem dig_told {g : GroundT} (hg : groundM g = true) (hl : lookM g = true) : ∃ a : Nat, a < nM g ∧ digOM g = ((a : Int), (hardM g (a : Int)).2 - (hardM g (a : Int)).1, 0) ∧ ∀ k : Nat, k < nM g → (hardM g (k : Int)).2 - (hardM g (k : Int)).1 ≤ (hardM g (a : Int)).2 - (hardM g (a : Int)).1 ∧ (k < a → (hardM g (k : Int)).2 - (hardM g (k : Int)).1 < (hardM g (a : Int)).2 - (hardM g (a : Int)).1) := by
  have hok := ground_ok hg
  obtain ⟨_, h2⟩ := dig_at hok (look_hok hok hl) (nM g) (Nat.le_refl _)
  obtain ⟨a, ha, he, hall⟩ := h2 (n_ok hok).2.1
  refine ⟨a, ha, ?_, hall⟩
  unfold digOM digErrM
  rw [err_of hg (by rfl), hl]
  show ((digAtM (hardsM g (nM g)) (nM g)).1, (digAtM (hardsM g (nM g)) (nM g)).2, (0 : Int)) = _
  rw [he]
theorem dig_clash {g : GroundT} (hg : groundM g = true) (hl : lookM g = false) : digOM g = (0, 0, 10) := by
  unfold digOM digErrM
  rw [err_of hg (by rfl), hl]; rfl
end AE.Soil

namespace AE.Soil
open Go AE Go.Proofs

abbrev T3 := Int × Int × Int
/-- Three parts that are all there is. -/
def Ok3 (x : T3) : Prop := x.1 + x.2.1 + x.2.2 = 20 ∧ 0 ≤ x.1 ∧ 0 ≤ x.2.1 ∧ 0 ≤ x.2.2
def In (s : Span) (n : Int) : Prop := s.1 ≤ n ∧ n ≤ s.2
/-- A mix that a box holds. -/
def Mem (m : Mix3) (x : T3) : Prop := x.1 + x.2.1 + x.2.2 = 20 ∧ In m.1 x.1 ∧ In m.2.1 x.2.1 ∧ In m.2.2 x.2.2
structure Tight (m : Mix3) : Prop where
  a : 0 ≤ m.1.1 ∧ m.1.1 ≤ m.1.2 ∧ m.1.2 ≤ 20
  b : 0 ≤ m.2.1.1 ∧ m.2.1.1 ≤ m.2.1.2 ∧ m.2.1.2 ≤ 20
  c : 0 ≤ m.2.2.1 ∧ m.2.2.1 ≤ m.2.2.2 ∧ m.2.2.2 ≤ 20
  la : 20 ≤ m.1.1 + m.2.1.2 + m.2.2.2
  lb : 20 ≤ m.1.2 + m.2.1.1 + m.2.2.2
  lc : 20 ≤ m.1.2 + m.2.1.2 + m.2.2.1
  ha : m.1.2 + m.2.1.1 + m.2.2.1 ≤ 20
  hb : m.1.1 + m.2.1.2 + m.2.2.1 ≤ 20
  hc : m.1.1 + m.2.1.1 + m.2.2.2 ≤ 20
def Bd1 (n : Int) : Prop := -60 ≤ n ∧ n ≤ 60
structure Bd (m : Mix3) : Prop where
  a : Bd1 m.1.1 ∧ Bd1 m.1.2
  b : Bd1 m.2.1.1 ∧ Bd1 m.2.1.2
  c : Bd1 m.2.2.1 ∧ Bd1 m.2.2.2
def Good (m : Mix3) : Prop := (noneM m = true ∧ Bd m) ∨ Tight m
theorem none_iff (m : Mix3) : noneM m = true ↔ (m.1.1 > m.1.2 ∨ m.2.1.1 > m.2.1.2) ∨ m.2.2.1 > m.2.2.2 := by simp [noneM]
theorem some_iff (m : Mix3) : noneM m = false ↔ m.1.1 ≤ m.1.2 ∧ m.2.1.1 ≤ m.2.1.2 ∧ m.2.2.1 ≤ m.2.2.2 := by
  cases h : noneM m with
  | true => rw [none_iff] at h; constructor <;> intro h2 <;> first | (cases h2; done) | omega
  | false =>
    have : ¬ noneM m = true := by rw [h]; decide
    rw [none_iff] at this
    exact ⟨fun _ => by omega, fun _ => rfl⟩
theorem Tight.some {m : Mix3} (h : Tight m) : noneM m = false := (some_iff m).2 ⟨h.a.2.1, h.b.2.1, h.c.2.1⟩
theorem Tight.bd {m : Mix3} (h : Tight m) : Bd m where
  a := by have := h.a; unfold Bd1; omega
  b := by have := h.b; unfold Bd1; omega
  c := by have := h.c; unfold Bd1; omega
theorem Good.bd {m : Mix3} (h : Good m) : Bd m := by
  rcases h with h | h
  · exact h.2
  · exact h.bd
theorem Good.tight {m : Mix3} (h : Good m) (hs : noneM m = false) : Tight m := by
  rcases h with h | h
  · rw [h.1] at hs; cases hs
  · exact h
/-- Three spans hold numbers that are so much together. -/
theorem pt3 {p1 q1 p2 q2 p3 q3 s : Int} (h1 : p1 ≤ q1) (h2 : p2 ≤ q2) (h3 : p3 ≤ q3) (hl : p1 + p2 + p3 ≤ s) (hh : s ≤ q1 + q2 + q3) : ∃ x : T3, x.1 + x.2.1 + x.2.2 = s ∧ In (p1, q1) x.1 ∧ In (p2, q2) x.2.1 ∧ In (p3, q3) x.2.2 := by
  obtain ⟨a, ha⟩ : ∃ a, a = max p1 (s - q2 - q3) := ⟨_, rfl⟩
  obtain ⟨b, hb⟩ : ∃ b, b = max p2 (s - a - q3) := ⟨_, rfl⟩
  refine ⟨(a, b, s - a - b), ?_, ⟨?_, ?_⟩, ⟨?_, ?_⟩, ?_, ?_⟩ <;> dsimp only <;> omega
theorem Tight.lowA {m : Mix3} (h : Tight m) {v : Int} (hv : In m.1 v) : ∃ x, Mem m x ∧ x.1 = v := by
  obtain ⟨ha, hb, hc, la, lb, lc, ka, kb, kc⟩ := h
  obtain ⟨v1, v2⟩ := hv
  obtain ⟨x, h1, h2, h3, h4⟩ := pt3 (p1 := v) (q1 := v) (p2 := m.2.1.1) (q2 := m.2.1.2) (p3 := m.2.2.1) (q3 := m.2.2.2) (s := 20) (Int.le_refl _) hb.2.1 hc.2.1 (by omega) (by omega)
  have e : x.1 = v := by have := h2.1; have := h2.2; dsimp only at *; omega
  exact ⟨x, ⟨h1, by rw [e]; exact ⟨v1, v2⟩, h3, h4⟩, e⟩
theorem Tight.lowB {m : Mix3} (h : Tight m) {v : Int} (hv : In m.2.1 v) : ∃ x, Mem m x ∧ x.2.1 = v := by
  obtain ⟨ha, hb, hc, la, lb, lc, ka, kb, kc⟩ := h
  obtain ⟨v1, v2⟩ := hv
  obtain ⟨x, h1, h2, h3, h4⟩ := pt3 (p2 := v) (q2 := v) (p1 := m.1.1) (q1 := m.1.2) (p3 := m.2.2.1) (q3 := m.2.2.2) (s := 20) ha.2.1 (Int.le_refl _) hc.2.1 (by omega) (by omega)
  have e : x.2.1 = v := by have := h3.1; have := h3.2; dsimp only at *; omega
  exact ⟨x, ⟨h1, h2, by rw [e]; exact ⟨v1, v2⟩, h4⟩, e⟩
theorem Tight.lowC {m : Mix3} (h : Tight m) {v : Int} (hv : In m.2.2 v) : ∃ x, Mem m x ∧ x.2.2 = v := by
  obtain ⟨ha, hb, hc, la, lb, lc, ka, kb, kc⟩ := h
  obtain ⟨v1, v2⟩ := hv
  obtain ⟨x, h1, h2, h3, h4⟩ := pt3 (p3 := v) (q3 := v) (p1 := m.1.1) (q1 := m.1.2) (p2 := m.2.1.1) (q2 := m.2.1.2) (s := 20) ha.2.1 hb.2.1 (Int.le_refl _) (by omega) (by omega)
  have e : x.2.2 = v := by have := h4.1; have := h4.2; dsimp only at *; omega
  exact ⟨x, ⟨h1, h2, h3, by rw [e]; exact ⟨v1, v2⟩⟩, e⟩
theorem Tight.ex {m : Mix3} (h : Tight m) : ∃ x, Mem m x := by
  obtain ⟨x, hx, _⟩ := h.lowA ⟨Int.le_refl _, h.a.2.1⟩
  exact ⟨x, hx⟩
theorem Mem.some {m : Mix3} {x : T3} (h : Mem m x) : noneM m = false := by
  obtain ⟨_, h1, h2, h3⟩ := h
  exact (some_iff m).2 ⟨Int.le_trans h1.1 h1.2, Int.le_trans h2.1 h2.2, Int.le_trans h3.1 h3.2⟩
theorem Good.ex_iff {m : Mix3} (h : Good m) : noneM m = false ↔ ∃ x, Mem m x := ⟨fun hs => (h.tight hs).ex, fun ⟨_, hx⟩ => hx.some⟩
theorem Mem.ok3 {m : Mix3} (h : Good m) {x : T3} (hx : Mem m x) : Ok3 x := by
  have t := h.tight hx.some
  obtain ⟨h0, h1, h2, h3⟩ := hx
  exact ⟨h0, Int.le_trans t.a.1 h1.1, Int.le_trans t.b.1 h2.1, Int.le_trans t.c.1 h3.1⟩
/-! ### as tight as can be -/
theorem one_eq {a b c : Span} (hb : Bd1 b.1 ∧ Bd1 b.2) (hc : Bd1 c.1 ∧ Bd1 c.2) : oneM a b c = (max (max 0 a.1) (20 - b.2 - c.2), min (min 20 a.2) (20 - b.1 - c.1)) := by
  obtain ⟨⟨b1, b2⟩, b3, b4⟩ := hb
  obtain ⟨⟨c1, c2⟩, c3, c4⟩ := hc
  unfold oneM
  rw [show W (20 - b.2) = 20 - b.2 from wrap_id (by omega) (by omega), show W (20 - b.1) = 20 - b.1 from wrap_id (by omega) (by omega), show W (20 - b.2 - c.2) = 20 - b.2 - c.2 from wrap_id (by omega) (by omega), show W (20 - b.1 - c.1) = 20 - b.1 - c.1 from wrap_id (by omega) (by omega)]
theorem tight_eq {m : Mix3} (h : Bd m) : tightM m = ((max (max 0 m.1.1) (20 - m.2.1.2 - m.2.2.2), min (min 20 m.1.2) (20 - m.2.1.1 - m.2.2.1)), (max (max 0 m.2.1.1) (20 - m.1.2 - m.2.2.2), min (min 20 m.2.1.2) (20 - m.1.1 - m.2.2.1)), (max (max 0 m.2.2.1) (20 - m.1.2 - m.2.1.2), min (min 20 m.2.2.2) (20 - m.1.1 - m.2.1.1))) := by
  unfold tightM
  rw [one_eq h.b h.c, one_eq h.a h.c, one_eq h.a h.b]
theorem max3 {L a b c : Int} (h : L = max (max a b) c) : a ≤ L ∧ b ≤ L ∧ c ≤ L ∧ (L = a ∨ L = b ∨ L = c) := by omega
theorem min3 {L a b c : Int} (h : L = min (min a b) c) : L ≤ a ∧ L ≤ b ∧ L ≤ c ∧ (L = a ∨ L = b ∨ L = c) := by omega
theorem tight_mem {m : Mix3} (h : Bd m) (x : T3) : Mem (tightM m) x ↔ Mem m x ∧ Ok3 x := by
  rw [tight_eq h]
  unfold Mem Ok3 In
  dsimp only
  simp only [Int.max_le, Int.le_min]
  constructor
  · rintro ⟨h0, h1, h2, h3⟩
    exact ⟨⟨h0, ⟨h1.1.1.2, h1.2.1.2⟩, ⟨h2.1.1.2, h2.2.1.2⟩, ⟨h3.1.1.2, h3.2.1.2⟩⟩, h0, h1.1.1.1, h2.1.1.1, h3.1.1.1⟩
  · rintro ⟨⟨h0, h1, h2, h3⟩, _, h4, h5, h6⟩
    refine ⟨h0, ⟨⟨⟨h4, h1.1⟩, ?_⟩, ⟨?_, h1.2⟩, ?_⟩, ⟨⟨⟨h5, h2.1⟩, ?_⟩, ⟨?_, h2.2⟩, ?_⟩, ⟨⟨h6, h3.1⟩, ?_⟩, ⟨?_, h3.2⟩, ?_⟩ <;> omega
/-- An end of one span, and the others' other ends. -/
theorem end_lo {a1 a2 b1 b2 c1 c2 La Ha Lb Hb Lc Hc : Int} (la : La = max (max 0 a1) (20 - b2 - c2)) (ha : Ha = min (min 20 a2) (20 - b1 - c1)) (lb : Lb = max (max 0 b1) (20 - a2 - c2)) (hb : Hb = min (min 20 b2) (20 - a1 - c1)) (lc : Lc = max (max 0 c1) (20 - a2 - b2)) (hc : Hc = min (min 20 c2) (20 - a1 - b1))
    (na : La ≤ Ha) (nb : Lb ≤ Hb) (nc : Lc ≤ Hc) : 20 ≤ La + Hb + Hc := by
  obtain ⟨f1, f2, f3, _⟩ := max3 la
  obtain ⟨_, _, f6, _⟩ := min3 ha
  obtain ⟨g1, g2, _, _⟩ := max3 lb
  obtain ⟨_, f9, _, f7⟩ := min3 hb
  obtain ⟨g3, g4, _, _⟩ := max3 lc
  obtain ⟨_, f10, _, f8⟩ := min3 hc
  clear la ha lb hb lc hc
  rcases f7 with e1 | e1 | e1 <;> rcases f8 with e2 | e2 | e2 <;> omega
theorem end_hi {a1 a2 b1 b2 c1 c2 La Ha Lb Hb Lc Hc : Int} (la : La = max (max 0 a1) (20 - b2 - c2)) (ha : Ha = min (min 20 a2) (20 - b1 - c1)) (lb : Lb = max (max 0 b1) (20 - a2 - c2)) (hb : Hb = min (min 20 b2) (20 - a1 - c1)) (lc : Lc = max (max 0 c1) (20 - a2 - b2)) (hc : Hc = min (min 20 c2) (20 - a1 - b1))
    (na : La ≤ Ha) (nb : Lb ≤ Hb) (nc : Lc ≤ Hc) (wb : 0 ≤ b1 ∨ a2 + c1 ≤ 20) (wc : 0 ≤ c1 ∨ a2 + b1 ≤ 20) : Ha + Lb + Lc ≤ 20 := by
  obtain ⟨f1, f2, f3, _⟩ := max3 la
  obtain ⟨h1, h2, h3, _⟩ := min3 ha
  obtain ⟨g1, g2, _, f7⟩ := max3 lb
  obtain ⟨k1, k2, k3, _⟩ := min3 hb
  obtain ⟨g3, g4, _, f8⟩ := max3 lc
  obtain ⟨k4, k5, k6, _⟩ := min3 hc
  clear la ha lb hb lc hc
  rcases f7 with e1 | e1 | e1 <;> rcases f8 with e2 | e2 | e2 <;> omega
/-- Six ends, as tight as can be. -/
theorem six_ends {a1 a2 b1 b2 c1 c2 La Ha Lb Hb Lc Hc : Int} (la : La = max (max 0 a1) (20 - b2 - c2)) (ha : Ha = min (min 20 a2) (20 - b1 - c1)) (lb : Lb = max (max 0 b1) (20 - a2 - c2)) (hb : Hb = min (min 20 b2) (20 - a1 - c1)) (lc : Lc = max (max 0 c1) (20 - a2 - b2)) (hc : Hc = min (min 20 c2) (20 - a1 - b1))
    (na : La ≤ Ha) (nb : Lb ≤ Hb) (nc : Lc ≤ Hc) (wab : 0 ≤ b1 ∨ a2 + c1 ≤ 20) (wac : 0 ≤ c1 ∨ a2 + b1 ≤ 20) (wba : 0 ≤ a1 ∨ b2 + c1 ≤ 20) (wbc : 0 ≤ c1 ∨ b2 + a1 ≤ 20) (wca : 0 ≤ a1 ∨ c2 + b1 ≤ 20) (wcb : 0 ≤ b1 ∨ c2 + a1 ≤ 20) : Tight ((La, Ha), (Lb, Hb), (Lc, Hc)) := by
  have s1 : 20 - c2 - b2 = 20 - b2 - c2 := by omega
  have s2 : 20 - c1 - b1 = 20 - b1 - c1 := by omega
  have s3 : 20 - c2 - a2 = 20 - a2 - c2 := by omega
  have s4 : 20 - c1 - a1 = 20 - a1 - c1 := by omega
  have s5 : 20 - b2 - a2 = 20 - a2 - b2 := by omega
  have s6 : 20 - b1 - a1 = 20 - a1 - b1 := by omega
  have r1 := end_lo la ha lb hb lc hc na nb nc
  have r2 := end_lo (a1 := b1) (a2 := b2) (b1 := a1) (b2 := a2) (c1 := c1) (c2 := c2) lb hb la ha (by rw [s5]; exact lc) (by rw [s6]; exact hc) nb na nc
  have r3 := end_lo (a1 := c1) (a2 := c2) (b1 := a1) (b2 := a2) (c1 := b1) (c2 := b2) lc hc (by rw [s1]; exact la) (by rw [s2]; exact ha) (by rw [s3]; exact lb) (by rw [s4]; exact hb) nc na nb
  have t1 := end_hi la ha lb hb lc hc na nb nc wab wac
  have t2 := end_hi (a1 := b1) (a2 := b2) (b1 := a1) (b2 := a2) (c1 := c1) (c2 := c2) lb hb la ha (by rw [s5]; exact lc) (by rw [s6]; exact hc) nb na nc wba wbc
  have t3 := end_hi (a1 := c1) (a2 := c2) (b1 := a1) (b2 := a2) (c1 := b1) (c2 := b2) lc hc (by rw [s1]; exact la) (by rw [s2]; exact ha) (by rw [s3]; exact lb) (by rw [s4]; exact hb) nc na nb wca wcb
  have f1 := (max3 la).1
  have f2 := (min3 ha).1
  have f3 := (max3 lb).1
  have f4 := (min3 hb).1
  have f5 := (max3 lc).1
  have f6 := (min3 hc).1
  exact ⟨⟨f1, na, f2⟩, ⟨f3, nb, f4⟩, ⟨f5, nc, f6⟩, r1, by show 20 ≤ Ha + Lb + Hc; clear la ha lb hb lc hc; omega, by show 20 ≤ Ha + Hb + Lc; clear la ha lb hb lc hc; omega, t1, by show La + Hb + Lc ≤ 20; clear la ha lb hb lc hc; omega, by show La + Lb + Hc ≤ 20; clear la ha lb hb lc hc; omega⟩
/-- None lies below none, or what others leave does not reach there. -/
structure Pw (m : Mix3) : Prop where
  ab : 0 ≤ m.2.1.1 ∨ m.1.2 + m.2.2.1 ≤ 20
  ac : 0 ≤ m.2.2.1 ∨ m.1.2 + m.2.1.1 ≤ 20
  ba : 0 ≤ m.1.1 ∨ m.2.1.2 + m.2.2.1 ≤ 20
  bc : 0 ≤ m.2.2.1 ∨ m.2.1.2 + m.1.1 ≤ 20
  ca : 0 ≤ m.1.1 ∨ m.2.2.2 + m.2.1.1 ≤ 20
  cb : 0 ≤ m.2.1.1 ∨ m.2.2.2 + m.1.1 ≤ 20
theorem tight_good {m : Mix3} (h : Bd m) (w : Pw m) (hs : noneM (tightM m) = false) : Tight (tightM m) := by
  rw [tight_eq h] at hs ⊢
  obtain ⟨na, nb, nc⟩ := (some_iff _).1 hs
  exact six_ends rfl rfl rfl rfl rfl rfl na nb nc w.ab w.ac w.ba w.bc w.ca w.cb
theorem tight_bd {m : Mix3} (h : Bd m) (ha : m.1.1 ≤ 20 ∧ 0 ≤ m.1.2) (hb : m.2.1.1 ≤ 20 ∧ 0 ≤ m.2.1.2) (hc : m.2.2.1 ≤ 20 ∧ 0 ≤ m.2.2.2) : Bd (tightM m) := by
  rw [tight_eq h]
  obtain ⟨⟨⟨a1, a2⟩, a3, a4⟩, ⟨⟨b1, b2⟩, b3, b4⟩, ⟨c1, c2⟩, c3, c4⟩ := h
  have up : ∀ x y z : Int, x ≤ 20 → 0 ≤ y → 0 ≤ z → Bd1 (max (max 0 x) (20 - y - z)) := fun x y z _ _ _ => by unfold Bd1; omega
  have dn : ∀ x y z : Int, 0 ≤ x → y ≤ 20 → z ≤ 20 → Bd1 (min (min 20 x) (20 - y - z)) := fun x y z _ _ _ => by unfold Bd1; omega
  exact ⟨⟨up _ _ _ ha.1 hb.2 hc.2, dn _ _ _ ha.2 hb.1 hc.1⟩, ⟨up _ _ _ hb.1 ha.2 hc.2, dn _ _ _ hb.2 ha.1 hc.1⟩, ⟨up _ _ _ hc.1 ha.2 hb.2, dn _ _ _ hc.2 ha.1 hb.1⟩⟩
/-! ### what two boxes have in common -/
theorem meet_mem (m o : Mix3) (x : T3) : Mem (meetM m o) x ↔ Mem m x ∧ Mem o x := by
  unfold Mem meetM bothM In
  dsimp only
  constructor
  · rintro ⟨h0, h1, h2, h3⟩
    exact ⟨⟨h0, by omega, by omega, by omega⟩, h0, by omega, by omega, by omega⟩
  · rintro ⟨⟨h0, h1, h2, h3⟩, _, h4, h5, h6⟩
    exact ⟨h0, by omega, by omega, by omega⟩
theorem meet_bd {m o : Mix3} (h : Bd m) (k : Bd o) : Bd (meetM m o) := by
  obtain ⟨ha, hb, hc⟩ := h
  obtain ⟨ka, kb, kc⟩ := k
  unfold Bd1 at *
  constructor <;> unfold meetM bothM Bd1 <;> dsimp only <;> omega
theorem and_mem {m o : Mix3} (h : Good m) (k : Bd o) (x : T3) : Mem (andM m o) x ↔ Mem m x ∧ Mem o x := by
  unfold andM
  by_cases hc : meetM m o = m ∨ noneM (meetM m o) = true
  · rw [if_pos hc]; exact meet_mem m o x
  · rw [if_neg hc, tight_mem (meet_bd h.bd k), meet_mem]
    exact ⟨fun hx => hx.1, fun hx => ⟨hx, hx.1.ok3 h⟩⟩
theorem and_good {m o : Mix3} (h : Good m) (k : Bd o) : Good (andM m o) := by
  unfold andM
  by_cases hc : meetM m o = m ∨ noneM (meetM m o) = true
  · rw [if_pos hc]
    rcases hc with hc | hc
    · rw [hc]; exact h
    · exact .inl ⟨hc, meet_bd h.bd k⟩
  · rw [if_neg hc]
    have hb := meet_bd h.bd k
    have hs : noneM (meetM m o) = false := by simpa using fun h => hc (.inr h)
    -- its spans lie within those of a box that is tight
    obtain ⟨h1, h2, h3⟩ := (some_iff _).1 hs
    have b1 : (meetM m o).1.1 ≤ (meetM m o).1.2 ∧ (meetM m o).1.2 ≤ m.1.2 ∧ m.1.1 ≤ (meetM m o).1.1 := ⟨h1, by unfold meetM bothM; dsimp only; omega, by unfold meetM bothM; dsimp only; omega⟩
    have b2 : (meetM m o).2.1.1 ≤ (meetM m o).2.1.2 ∧ (meetM m o).2.1.2 ≤ m.2.1.2 ∧ m.2.1.1 ≤ (meetM m o).2.1.1 := ⟨h2, by unfold meetM bothM; dsimp only; omega, by unfold meetM bothM; dsimp only; omega⟩
    have b3 : (meetM m o).2.2.1 ≤ (meetM m o).2.2.2 ∧ (meetM m o).2.2.2 ≤ m.2.2.2 ∧ m.2.2.1 ≤ (meetM m o).2.2.1 := ⟨h3, by unfold meetM bothM; dsimp only; omega, by unfold meetM bothM; dsimp only; omega⟩
    have hm : noneM m = false := (some_iff m).2 ⟨by omega, by omega, by omega⟩
    have t := h.tight hm
    have ta := t.a
    have tb := t.b
    have tc := t.c
    cases hn : noneM (tightM (meetM m o)) with
    | false => exact .inr (tight_good hb ⟨.inl (by omega), .inl (by omega), .inl (by omega), .inl (by omega), .inl (by omega), .inl (by omega)⟩ hn)
    | true => exact .inl ⟨hn, tight_bd hb ⟨by omega, by omega⟩ ⟨by omega, by omega⟩ ⟨by omega, by omega⟩⟩
/-! ### what the next place can have -/
def Near (c : Int) (x y : T3) : Prop := (x.1 - y.1 ≤ c ∧ y.1 - x.1 ≤ c) ∧ (x.2.1 - y.2.1 ≤ c ∧ y.2.1 - x.2.1 ≤ c) ∧ (x.2.2 - y.2.2 ≤ c ∧ y.2.2 - x.2.2 ≤ c)
theorem Near.symm {c : Int} {x y : T3} (h : Near c x y) : Near c y x := ⟨h.1.symm, h.2.1.symm, h.2.2.symm⟩
theorem wide_eq {s : Span} {c : Int} (hs : 0 ≤ s.1 ∧ s.2 ≤ 20) (h2 : s.1 ≤ 20 ∧ 0 ≤ s.2) (hc : 0 ≤ c ∧ c ≤ 20) : wideM s c = (s.1 - c, s.2 + c) := by
  unfold wideM
  rw [show W (s.1 - c) = s.1 - c from wrap_id (by omega) (by omega), show W (s.2 + c) = s.2 + c from wrap_id (by omega) (by omega)]
theorem next_eq {m : Mix3} (h : Tight m) {c : Int} (hc : 0 ≤ c ∧ c ≤ 20) : nextM m c = tightM ((m.1.1 - c, m.1.2 + c), (m.2.1.1 - c, m.2.1.2 + c), (m.2.2.1 - c, m.2.2.2 + c)) := by
  have ta := h.a
  have tb := h.b
  have tc := h.c
  unfold nextM
  rw [h.some, if_neg (by decide), wide_eq ⟨by omega, by omega⟩ ⟨by omega, by omega⟩ hc, wide_eq ⟨by omega, by omega⟩ ⟨by omega, by omega⟩ hc, wide_eq ⟨by omega, by omega⟩ ⟨by omega, by omega⟩ hc]
theorem next_bd {m : Mix3} (h : Tight m) {c : Int} (hc : 0 ≤ c ∧ c ≤ 20) : Bd ((m.1.1 - c, m.1.2 + c), (m.2.1.1 - c, m.2.1.2 + c), (m.2.2.1 - c, m.2.2.2 + c)) := by
  have ta := h.a
  have tb := h.b
  have tc := h.c
  constructor <;> unfold Bd1 <;> dsimp only <;> omega
theorem cut2 {l h y c : Int} (h0 : l ≤ h) (h1 : l - c ≤ y) (h2 : y ≤ h + c) (hc : 0 ≤ c) : ∃ p q : Int, l ≤ p ∧ y - c ≤ p ∧ q ≤ h ∧ q ≤ y + c ∧ (p = l ∨ p = y - c) ∧ (q = h ∨ q = y + c) ∧ p ≤ q := ⟨max l (y - c), min h (y + c), by omega, by omega, by omega, by omega, by omega, by omega, by omega⟩
theorem next_mem {m : Mix3} (h : Good m) {c : Int} (hc : 0 ≤ c ∧ c ≤ 20) (y : T3) : Mem (nextM m c) y ↔ Ok3 y ∧ ∃ x, Mem m x ∧ Near c x y := by
  cases hs : noneM m with
  | true =>
    have e : nextM m c = m := by unfold nextM; rw [hs]; rfl
    rw [e]
    constructor
    · intro hy; have := hy.some; rw [hs] at this; cases this
    · rintro ⟨_, x, hx, _⟩; have := hx.some; rw [hs] at this; cases this
  | false =>
    have t := h.tight hs
    rw [next_eq t hc, tight_mem (next_bd t hc)]
    constructor
    · rintro ⟨⟨h0, ⟨h1, h2⟩, ⟨h3, h4⟩, h5, h6⟩, hy⟩
      refine ⟨hy, ?_⟩
      dsimp only at h1 h2 h3 h4 h5 h6
      obtain ⟨ta, tb, tc, la, lb, lc, ka, kb, kc⟩ := t
      obtain ⟨p1, q1, a1, a2, a3, a4, g1, k1, r1⟩ := cut2 (y := y.1) ta.2.1 h1 h2 hc.1
      obtain ⟨p2, q2, b1, b2, b3, b4, g2, k2, r2⟩ := cut2 (y := y.2.1) tb.2.1 h3 h4 hc.1
      obtain ⟨p3, q3, c1, c2, c3, c4, g3, k3, r3⟩ := cut2 (y := y.2.2) tc.2.1 h5 h6 hc.1
      have hy1 := hy.1
      have rl : p1 + p2 + p3 ≤ 20 := by
        clear k1 k2 k3 r1 r2 r3 a1 a2 a3 a4 b1 b2 b3 b4 c1 c2 c3 c4
        rcases g1 with g1 | g1 <;> rcases g2 with g2 | g2 <;> rcases g3 with g3 | g3 <;> omega
      have rh : 20 ≤ q1 + q2 + q3 := by
        clear g1 g2 g3 r1 r2 r3 rl a1 a2 a3 a4 b1 b2 b3 b4 c1 c2 c3 c4
        rcases k1 with k1 | k1 <;> rcases k2 with k2 | k2 <;> rcases k3 with k3 | k3 <;> omega
      obtain ⟨x, x0, ⟨x1, x2⟩, ⟨x3, x4⟩, x5, x6⟩ := pt3 r1 r2 r3 rl rh
      dsimp only at x1 x2 x3 x4 x5 x6
      exact ⟨x, ⟨x0, ⟨by omega, by omega⟩, ⟨by omega, by omega⟩, by omega, by omega⟩, ⟨by omega, by omega⟩, ⟨by omega, by omega⟩, by omega, by omega⟩
    · rintro ⟨hy, x, ⟨x0, ⟨x1, x2⟩, ⟨x3, x4⟩, x5, x6⟩, ⟨n1, n2⟩, ⟨n3, n4⟩, n5, n6⟩
      exact ⟨⟨hy.1, ⟨by dsimp only; omega, by dsimp only; omega⟩, ⟨by dsimp only; omega, by dsimp only; omega⟩, by dsimp only; omega, by dsimp only; omega⟩, hy⟩
theorem next_good {m : Mix3} (h : Good m) {c : Int} (hc : 0 ≤ c ∧ c ≤ 20) : Good (nextM m c) := by
  cases hs : noneM m with
  | true =>
    have e : nextM m c = m := by unfold nextM; rw [hs]; rfl
    rw [e]; exact h
  | false =>
    have t := h.tight hs
    obtain ⟨x, hx⟩ := t.ex
    have hm := (next_mem h hc x).2 ⟨hx.ok3 h, x, hx, ⟨by omega, by omega⟩, ⟨by omega, by omega⟩, by omega, by omega⟩
    have hn := hm.some
    rw [next_eq t hc] at hn ⊢
    obtain ⟨ta, tb, tc, la, lb, lc, ka, kb, kc⟩ := t
    exact .inr (tight_good (next_bd (h.tight hs) hc) ⟨.inr (by dsimp only; omega), .inr (by dsimp only; omega), .inr (by dsimp only; omega), .inr (by dsimp only; omega), .inr (by dsimp only; omega), .inr (by dsimp only; omega)⟩ hn)
theorem next_bd' {m : Mix3} (h : Good m) {c : Int} (hc : 0 ≤ c ∧ c ≤ 20) : Bd (nextM m c) := (next_good h hc).bd
end AE.Soil

namespace AE.Soil
open Go AE Go.Proofs

/-- A mix that all that is told at a place lets in. -/
def Al (g : GroundT) (k : Nat) (x : T3) : Prop := Ok3 x ∧ ∀ p ∈ g.pits, p.1 = (k : Int) → In p.2.2.1 x.1 ∧ In p.2.2.2.1 x.2.1 ∧ In p.2.2.2.2 x.2.2
theorem any_tight : Tight anyM := ⟨by decide, by decide, by decide, by decide, by decide, by decide, by decide, by decide, by decide⟩
theorem any_mem (x : T3) : Mem anyM x ↔ Ok3 x := by
  unfold Mem Ok3 In anyM
  dsimp only
  constructor
  · rintro ⟨h0, h1, h2, h3⟩; exact ⟨h0, h1.1, h2.1, h3.1⟩
  · rintro ⟨h0, h1, h2, h3⟩; exact ⟨h0, ⟨h1, by omega⟩, ⟨h2, by omega⟩, h3, by omega⟩
theorem pit_bd {n : Int} {p : PitT} (h : PitOk n p) : Bd p.2.2 := by
  obtain ⟨_, _, h1, h2, h3⟩ := h
  unfold SpOk at h1 h2 h3
  constructor <;> unfold Bd1 <;> omega
theorem pit_uniq {l : List PitT} (h : l.Pairwise fun p q => p.1 < q.1) {p q : PitT} (hp : p ∈ l) (hq : q ∈ l) (e : p.1 = q.1) : p = q := by
  obtain ⟨i, hi, rfl⟩ := List.getElem_of_mem hp
  obtain ⟨j, hj, rfl⟩ := List.getElem_of_mem hq
  rcases Nat.lt_trichotomy i j with hlt | rfl | hlt
  · have := List.pairwise_iff_getElem.1 h i j hi hj hlt; omega
  · rfl
  · have := List.pairwise_iff_getElem.1 h j i hj hi hlt; omega
theorem mixAt_ok {g : GroundT} (hg : GOk g) (k : Nat) : Good (mixAtM (pmapM g.pits) (k : Int)) ∧ ∀ x, Mem (mixAtM (pmapM g.pits) (k : Int)) x ↔ Al g k x := by
  cases hf : mfind UU MM.pits [(k : Int)] (pmapM g.pits) with
  | none =>
    have e : mixAtM (pmapM g.pits) (k : Int) = anyM := mixAt_no (by unfold mhasM; rw [hf]; rfl)
    rw [e]
    refine ⟨.inr any_tight, fun x => ?_⟩
    rw [any_mem]
    refine ⟨fun h => ⟨h, fun p hp hk => ?_⟩, fun h => h.1⟩
    have hn := List.find?_eq_none.1 hf (p.1, p.2.2) (List.mem_map.2 ⟨p, hp, rfl⟩)
    exact absurd (by rw [← hk]; exact decide_eq_true rfl) hn
  | some v =>
    have hm := List.mem_of_find?_eq_some hf
    have hk : [(k : Int)] = UU.mkey MM.pits v := of_decide_eq_true (List.find?_some (p := fun e => decide ([(k : Int)] = UU.mkey MM.pits e)) hf)
    obtain ⟨p, hp, hpe⟩ := List.mem_map.1 (show v ∈ g.pits.map (fun p => (p.1, p.2.2)) from hm)
    have hpk : p.1 = (k : Int) := by
      have h1 : [(k : Int)] = [v.1] := hk
      rw [← hpe] at h1
      exact (List.cons.inj h1).1.symm
    have e : mixAtM (pmapM g.pits) (k : Int) = andM anyM p.2.2 := by
      rw [mixAt_yes (by unfold mhasM; rw [hf]; rfl)]
      unfold mgetM
      rw [hf, ← hpe]; rfl
    rw [e]
    have hb := pit_bd (hg.pits p hp)
    refine ⟨and_good (.inr any_tight) hb, fun x => ?_⟩
    rw [and_mem (.inr any_tight) hb, any_mem]
    constructor
    · rintro ⟨h1, h2⟩
      refine ⟨h1, fun q hq hqk => ?_⟩
      rw [pit_uniq hg.inc hq hp (by rw [hqk, hpk])]
      exact h2.2
    · rintro ⟨h1, h2⟩
      exact ⟨h1, h1.1, h2 p hp hpk⟩
/-! ### chains -/
def Ch (A : Nat → T3 → Prop) (c : Int) : Nat → T3 → Prop
  | 0, x => A 0 x
  | k + 1, x => A (k + 1) x ∧ ∃ y, Ch A c k y ∧ Near c y x
theorem Ch.head {A : Nat → T3 → Prop} {c : Int} : ∀ {k : Nat} {x : T3}, Ch A c k x → A k x
  | 0, _, h => h
  | _ + 1, _, h => h.1
theorem ch_ex {A : Nat → T3 → Prop} {c : Int} : ∀ {k : Nat} {x : T3}, Ch A c k x → ∃ m : Nat → T3, m k = x ∧ (∀ i, i ≤ k → Ch A c i (m i)) ∧ ∀ i, i < k → Near c (m i) (m (i + 1))
  | 0, x, h => ⟨fun _ => x, rfl, fun i hi => by rw [Nat.le_zero.1 hi]; exact h, fun i hi => absurd hi (Nat.not_lt_zero i)⟩
  | k + 1, x, h => by
    obtain ⟨ha, y, hy, hn⟩ := h
    obtain ⟨m, hm, h1, h2⟩ := ch_ex hy
    refine ⟨fun i => if i ≤ k then m i else x, if_neg (by omega), fun i hi => ?_, fun i hi => ?_⟩
    · show Ch A c i (if i ≤ k then m i else x)
      by_cases hc : i ≤ k
      · rw [if_pos hc]; exact h1 i hc
      · rw [if_neg hc]
        have : i = k + 1 := by omega
        subst this
        exact ⟨ha, y, hy, hn⟩
    · show Near c (if i ≤ k then m i else x) (if i + 1 ≤ k then m (i + 1) else x)
      rw [if_pos (by omega : i ≤ k)]
      by_cases hc : i + 1 ≤ k
      · rw [if_pos hc]; exact h2 i (by omega)
      · rw [if_neg hc]
        have : i = k := by omega
        subst this
        rw [hm]; exact hn
theorem ch_of {A : Nat → T3 → Prop} {c : Int} {m : Nat → T3} : ∀ {k : Nat}, (∀ i, i ≤ k → A i (m i)) → (∀ i, i < k → Near c (m i) (m (i + 1))) → Ch A c k (m k)
  | 0, h, _ => h 0 (Nat.le_refl 0)
  | k + 1, h, hn => ⟨h _ (Nat.le_refl _), m k, ch_of (fun i hi => h i (by omega)) (fun i hi => hn i (by omega)), hn k (by omega)⟩
theorem ch_iff {A B : Nat → T3 → Prop} {c : Int} : ∀ {k : Nat} {x : T3}, (∀ i, i ≤ k → ∀ x, A i x ↔ B i x) → (Ch A c k x ↔ Ch B c k x)
  | 0, x, h => h 0 (Nat.le_refl 0) x
  | k + 1, x, h => by
    unfold Ch
    rw [h (k + 1) (Nat.le_refl _) x]
    constructor
    · rintro ⟨h1, y, h2, h3⟩; exact ⟨h1, y, (ch_iff fun i hi => h i (by omega)).1 h2, h3⟩
    · rintro ⟨h1, y, h2, h3⟩; exact ⟨h1, y, (ch_iff fun i hi => h i (by omega)).2 h2, h3⟩
theorem acc_ok {l : List Mix3} {b : Bool} {c : Int} (hc : 0 ≤ c ∧ c ≤ 20) (hl : ∀ j, j < l.length → Good (l.getD j m0)) : ∀ k, k < l.length → Good (accM l b c k) ∧ ∀ x, Mem (accM l b c k) x ↔ Ch (fun i x => Mem (l.getD (idxM l.length b i) m0) x) c k x
  | 0, hk => ⟨hl _ (idx_lt b hk), fun x => Iff.rfl⟩
  | k + 1, hk => by
    obtain ⟨h1, h2⟩ := acc_ok hc hl k (by omega)
    have hg := hl _ (idx_lt b hk)
    refine ⟨and_good hg (next_bd' h1 hc), fun x => ?_⟩
    show Mem (andM (l.getD (idxM l.length b (k + 1)) m0) (nextM (accM l b c k) c)) x ↔ _
    rw [and_mem hg (next_bd' h1 hc), next_mem h1 hc]
    constructor
    · rintro ⟨h3, _, y, h4, h5⟩; exact ⟨h3, y, (h2 y).1 h4, h5⟩
    · rintro ⟨h3, y, h4, h5⟩; exact ⟨h3, h3.ok3 hg, y, (h2 y).2 h4, h5⟩
theorem pass_at {l : List Mix3} {b : Bool} {c : Int} {j : Nat} (hj : j < l.length) : (passM l b c l.length).getD j m0 = accM l b c (idxM l.length b j) := by
  unfold passM
  rw [map_get _ _ _ _ hj, if_pos (idx_lt b hj)]
theorem stage0 {g : GroundT} (hg : GOk g) {j : Nat} (hj : j < nM g) : Good ((stageM g 0).getD j m0) ∧ ∀ x, Mem ((stageM g 0).getD j m0) x ↔ Al g j x := by
  have e : (stageM g 0).getD j m0 = mixAtM (pmapM g.pits) (j : Int) := by
    unfold stageM mixesM
    rw [map_get _ _ _ _ hj, if_pos hj]
  rw [e]; exact mixAt_ok hg j
theorem stage1 {g : GroundT} (hg : GOk g) {j : Nat} (hj : j < nM g) : Good ((stageM g 1).getD j m0) ∧ ∀ x, Mem ((stageM g 1).getD j m0) x ↔ Ch (Al g) g.change j x := by
  have hlen := stage_len g 0
  have e : (stageM g 1).getD j m0 = accM (stageM g 0) false g.change j := by
    have := pass_at (l := stageM g 0) (b := false) (c := g.change) (j := j) (by omega)
    rw [hlen] at this; exact this
  rw [e]
  obtain ⟨h1, h2⟩ := acc_ok (l := stageM g 0) (b := false) hg.change (fun i hi => (stage0 hg (by omega)).1) j (by omega)
  refine ⟨h1, fun x => ?_⟩
  rw [h2]
  exact ch_iff fun i hi x => (stage0 hg (by show (idxM _ false i) < _; unfold idxM; rw [if_neg (by decide)]; omega)).2 x
theorem stage2 {g : GroundT} (hg : GOk g) {j : Nat} (hj : j < nM g) : Good ((boxesM g).getD j m0) ∧ ∀ x, Mem ((boxesM g).getD j m0) x ↔ Ch (fun i => Ch (Al g) g.change (nM g - 1 - i)) g.change (nM g - 1 - j) x := by
  have hlen := stage_len g 1
  have e : (boxesM g).getD j m0 = accM (stageM g 1) true g.change (nM g - 1 - j) := by
    have := pass_at (l := stageM g 1) (b := true) (c := g.change) (j := j) (by omega)
    rw [hlen] at this; exact this
  rw [e]
  obtain ⟨h1, h2⟩ := acc_ok (l := stageM g 1) (b := true) hg.change (fun i hi => (stage1 hg (by omega)).1) (nM g - 1 - j) (by omega)
  refine ⟨h1, fun x => ?_⟩
  rw [h2, hlen]
  exact ch_iff fun i hi x => (stage1 hg (by unfold idxM; rw [if_pos rfl]; omega)).2 x
/-! ### truths of mixes -/
structure MTr (g : GroundT) (m : Nat → T3) : Prop where
  al : ∀ k, k < nM g → Al g k (m k)
  near : ∀ k, k + 1 < nM g → Near g.change (m k) (m (k + 1))
/-- What both sides of a place let in it has in some truth. -/
theorem both_truth {g : GroundT} {j : Nat} (hj : j < nM g) {x : T3} (h1 : Ch (Al g) g.change j x) (h2 : Ch (fun i => Al g (nM g - 1 - i)) g.change (nM g - 1 - j) x) : ∃ m, MTr g m ∧ m j = x := by
  obtain ⟨l, hl, l1, l2⟩ := ch_ex h1
  obtain ⟨r, hr, r1, r2⟩ := ch_ex h2
  refine ⟨fun i => if i ≤ j then l i else r (nM g - 1 - i), ⟨fun k hk => ?_, fun k hk => ?_⟩, by show (if j ≤ j then l j else _) = x; rw [if_pos (Nat.le_refl j)]; exact hl⟩
  · show Al g k (if k ≤ j then l k else r (nM g - 1 - k))
    by_cases hc : k ≤ j
    · rw [if_pos hc]; exact (l1 k hc).head
    · rw [if_neg hc]
      have := (r1 (nM g - 1 - k) (by omega)).head
      rwa [show nM g - 1 - (nM g - 1 - k) = k by omega] at this
  · show Near g.change (if k ≤ j then l k else r (nM g - 1 - k)) (if k + 1 ≤ j then l (k + 1) else r (nM g - 1 - (k + 1)))
    by_cases hc : k + 1 ≤ j
    · rw [if_pos hc, if_pos (by omega)]; exact l2 k (by omega)
    · rw [if_neg hc]
      have hn := r2 (nM g - 1 - (k + 1)) (by omega)
      rw [show nM g - 1 - (k + 1) + 1 = nM g - 1 - k by omega] at hn
      by_cases hc2 : k ≤ j
      · rw [if_pos hc2]
        have : k = j := by omega
        subst this
        rw [hl, ← hr]; exact hn.symm
      · rw [if_neg hc2]; exact hn.symm
theorem MTr.fwd {g : GroundT} {m : Nat → T3} (t : MTr g m) {j : Nat} (hj : j < nM g) : Ch (Al g) g.change j (m j) := ch_of (fun i hi => t.al i (by omega)) (fun i hi => t.near i (by omega))
theorem MTr.bwd {g : GroundT} {m : Nat → T3} (t : MTr g m) {j : Nat} (hj : j < nM g) : Ch (fun i => Al g (nM g - 1 - i)) g.change (nM g - 1 - j) (m j) := by
  have := ch_of (A := fun i => Al g (nM g - 1 - i)) (c := g.change) (m := fun i => m (nM g - 1 - i)) (k := nM g - 1 - j) (fun i hi => t.al _ (by omega)) (fun i hi => by
    have := t.near (nM g - 1 - (i + 1)) (by omega)
    rw [show nM g - 1 - (i + 1) + 1 = nM g - 1 - i by omega] at this
    exact this.symm)
  rwa [show nM g - 1 - (nM g - 1 - j) = j by omega] at this
theorem box_truth {g : GroundT} (hg : GOk g) {j : Nat} (hj : j < nM g) (x : T3) : Mem ((boxesM g).getD j m0) x ↔ ∃ m, MTr g m ∧ m j = x := by
  rw [(stage2 hg hj).2]
  constructor
  · intro h
    obtain ⟨r, hr, r1, _⟩ := ch_ex h
    have h1 := (r1 (nM g - 1 - j) (Nat.le_refl _)).head
    rw [hr, show nM g - 1 - (nM g - 1 - j) = j by omega] at h1
    refine both_truth hj h1 ?_
    obtain ⟨r, rfl, r1, r2⟩ := ch_ex h
    exact ch_of (fun i hi => (r1 i hi).head.head) r2
  · rintro ⟨m, t, rfl⟩
    have := ch_of (A := fun i => Ch (Al g) g.change (nM g - 1 - i)) (c := g.change) (m := fun i => m (nM g - 1 - i)) (k := nM g - 1 - j) (fun i hi => t.fwd (by omega)) (fun i hi => by
      have := t.near (nM g - 1 - (i + 1)) (by omega)
      rw [show nM g - 1 - (i + 1) + 1 = nM g - 1 - i by omega] at this
      exact this.symm)
    rwa [show nM g - 1 - (nM g - 1 - j) = j by omega] at this
theorem box_some {g : GroundT} (hg : GOk g) {j : Nat} (hj : j < nM g) : noneM ((boxesM g).getD j m0) = false ↔ ∃ m, MTr g m := by
  rw [(stage2 hg hj).1.ex_iff]
  constructor
  · rintro ⟨x, hx⟩
    obtain ⟨m, t, _⟩ := (box_truth hg hj x).1 hx
    exact ⟨m, t⟩
  · rintro ⟨m, t⟩
    exact ⟨m j, (box_truth hg hj _).2 ⟨m, t, rfl⟩⟩
/-- A ground has a truth just if nothing that is looked at is empty. -/
theorem look_truth {g : GroundT} (hg : GOk g) : lookM g = true ↔ (∃ h, HTr g h) ∧ ∃ m, MTr g m := by
  rw [look_iff]
  obtain ⟨n0, n1, n2⟩ := n_ok hg
  constructor
  · intro h
    refine ⟨(hok_iff hg).1 fun k hk => ?_, (box_some hg n1).1 (h 0 n1).2⟩
    obtain ⟨j, rfl, hj⟩ := place_of hg hk
    exact (h j hj).1
  · rintro ⟨⟨h, t⟩, hm⟩ j hj
    exact ⟨t.ok hg _ (pl_of hg hj), (box_some hg hj).2 hm⟩
theorem box_tight {g : GroundT} (hg : GOk g) (hl : lookM g = true) {j : Nat} (hj : j < nM g) : Tight ((boxesM g).getD j m0) := (stage2 hg hj).1.tight ((look_iff g).1 hl j hj).2
/-! ### classes -/
/-- The class of a mix. -/
def clsM (x : T3) : Int := if 8 ≤ x.2.2 then 3 else if 14 ≤ x.1 then 1 else if 12 ≤ x.2.1 then 2 else 0
def bitsM (c3 c1 c2 c0 : Bool) : Int := (if c3 then 8 else 0) + (if c1 then 2 else 0) + (if c2 then 4 else 0) + (if c0 then 1 else 0)
theorem half_bd : Bd (ptM .p0 anyM (fromM 8)) ∧ Bd (ptM .p0 anyM (belowM 8)) ∧ Bd (ptM .p1 anyM (fromM 14)) ∧ Bd (ptM .p1 anyM (belowM 14)) ∧ Bd (ptM .p2 anyM (fromM 12)) ∧ Bd (ptM .p2 anyM (belowM 12)) := by
  refine ⟨?_, ?_, ?_, ?_, ?_, ?_⟩ <;> (constructor <;> unfold Bd1 <;> decide)
theorem half_mem {x : T3} (h : Ok3 x) : (Mem (ptM .p0 anyM (fromM 8)) x ↔ 8 ≤ x.2.2) ∧ (Mem (ptM .p0 anyM (belowM 8)) x ↔ ¬ 8 ≤ x.2.2) ∧ (Mem (ptM .p1 anyM (fromM 14)) x ↔ 14 ≤ x.1) ∧ (Mem (ptM .p1 anyM (belowM 14)) x ↔ ¬ 14 ≤ x.1) ∧ (Mem (ptM .p2 anyM (fromM 12)) x ↔ 12 ≤ x.2.1) ∧ (Mem (ptM .p2 anyM (belowM 12)) x ↔ ¬ 12 ≤ x.2.1) := by
  obtain ⟨h0, h1, h2, h3⟩ := h
  have w8 : W (8 - 1) = 7 := by decide
  have w14 : W (14 - 1) = 13 := by decide
  have w12 : W (12 - 1) = 11 := by decide
  simp only [Mem, In, ptM, of0M, of1M, of2M, fromM, belowM, anyM, w8, w14, w12]
  refine ⟨?_, ?_, ?_, ?_, ?_, ?_⟩ <;> constructor <;> intro k <;> first | omega | exact ⟨h0, by omega, by omega, by omega⟩
theorem class_bits {m : Mix3} (h : Good m) : ∃ c3 c1 c2 c0 : Bool, classesM m = bitsM c3 c1 c2 c0 ∧ (c3 = true ↔ ∃ x, Mem m x ∧ clsM x = 3) ∧ (c1 = true ↔ ∃ x, Mem m x ∧ clsM x = 1) ∧ (c2 = true ↔ ∃ x, Mem m x ∧ clsM x = 2) ∧ (c0 = true ↔ ∃ x, Mem m x ∧ clsM x = 0) := by
  obtain ⟨b1, b2, b3, b4, b5, b6⟩ := half_bd
  have g1 : Good (leftM m 1) := and_good h b2
  have g2 : Good (leftM m 2) := and_good g1 b4
  have g3 : Good (leftM m 3) := and_good g2 b6
  have k3 : Good (andM m (ptM .p0 anyM (fromM 8))) := and_good h b1
  have k1 : Good (andM (leftM m 1) (ptM .p1 anyM (fromM 14))) := and_good g1 b3
  have k2 : Good (andM (leftM m 2) (ptM .p2 anyM (fromM 12))) := and_good g2 b5
  have m1 : ∀ x, Mem (leftM m 1) x ↔ Mem m x ∧ ¬ 8 ≤ x.2.2 := fun x => by
    rw [show leftM m 1 = andM m (ptM .p0 anyM (belowM 8)) from rfl, and_mem h b2]
    exact ⟨fun ⟨p, q⟩ => ⟨p, (half_mem (p.ok3 h)).2.1.1 q⟩, fun ⟨p, q⟩ => ⟨p, (half_mem (p.ok3 h)).2.1.2 q⟩⟩
  have m2 : ∀ x, Mem (leftM m 2) x ↔ (Mem m x ∧ ¬ 8 ≤ x.2.2) ∧ ¬ 14 ≤ x.1 := fun x => by
    rw [show leftM m 2 = andM (leftM m 1) (ptM .p1 anyM (belowM 14)) from rfl, and_mem g1 b4, m1]
    exact ⟨fun ⟨p, q⟩ => ⟨p, (half_mem (p.1.ok3 h)).2.2.2.1.1 q⟩, fun ⟨p, q⟩ => ⟨p, (half_mem (p.1.ok3 h)).2.2.2.1.2 q⟩⟩
  have m3 : ∀ x, Mem (leftM m 3) x ↔ ((Mem m x ∧ ¬ 8 ≤ x.2.2) ∧ ¬ 14 ≤ x.1) ∧ ¬ 12 ≤ x.2.1 := fun x => by
    rw [show leftM m 3 = andM (leftM m 2) (ptM .p2 anyM (belowM 12)) from rfl, and_mem g2 b6, m2]
    exact ⟨fun ⟨p, q⟩ => ⟨p, (half_mem (p.1.1.ok3 h)).2.2.2.2.2.1 q⟩, fun ⟨p, q⟩ => ⟨p, (half_mem (p.1.1.ok3 h)).2.2.2.2.2.2 q⟩⟩
  have n3 : ∀ x, Mem (andM m (ptM .p0 anyM (fromM 8))) x ↔ Mem m x ∧ 8 ≤ x.2.2 := fun x => by
    rw [and_mem h b1]
    exact ⟨fun ⟨p, q⟩ => ⟨p, (half_mem (p.ok3 h)).1.1 q⟩, fun ⟨p, q⟩ => ⟨p, (half_mem (p.ok3 h)).1.2 q⟩⟩
  have n1 : ∀ x, Mem (andM (leftM m 1) (ptM .p1 anyM (fromM 14))) x ↔ (Mem m x ∧ ¬ 8 ≤ x.2.2) ∧ 14 ≤ x.1 := fun x => by
    rw [and_mem g1 b3, m1]
    exact ⟨fun ⟨p, q⟩ => ⟨p, (half_mem (p.1.ok3 h)).2.2.1.1 q⟩, fun ⟨p, q⟩ => ⟨p, (half_mem (p.1.ok3 h)).2.2.1.2 q⟩⟩
  have n2 : ∀ x, Mem (andM (leftM m 2) (ptM .p2 anyM (fromM 12))) x ↔ ((Mem m x ∧ ¬ 8 ≤ x.2.2) ∧ ¬ 14 ≤ x.1) ∧ 12 ≤ x.2.1 := fun x => by
    rw [and_mem g2 b5, m2]
    exact ⟨fun ⟨p, q⟩ => ⟨p, (half_mem (p.1.1.ok3 h)).2.2.2.2.1.1 q⟩, fun ⟨p, q⟩ => ⟨p, (half_mem (p.1.1.ok3 h)).2.2.2.2.1.2 q⟩⟩
  have e3 := k3.ex_iff
  have e1 := k1.ex_iff
  have e2 := k2.ex_iff
  have e0 := g3.ex_iff
  have l1 : noneM (leftM m 1) = true → noneM (andM (leftM m 1) (ptM .p1 anyM (fromM 14))) = true ∧ noneM (andM (leftM m 2) (ptM .p2 anyM (fromM 12))) = true ∧ noneM (leftM m 3) = true := fun hn => by
    have no : ∀ x, ¬ (Mem m x ∧ ¬ 8 ≤ x.2.2) := fun x hx => by have := ((m1 x).2 hx).some; rw [hn] at this; cases this
    refine ⟨?_, ?_, ?_⟩
    · cases hh : noneM (andM (leftM m 1) (ptM .p1 anyM (fromM 14))) with
      | true => rfl
      | false => obtain ⟨x, hx⟩ := e1.1 hh; exact absurd ((n1 x).1 hx).1 (no x)
    · cases hh : noneM (andM (leftM m 2) (ptM .p2 anyM (fromM 12))) with
      | true => rfl
      | false => obtain ⟨x, hx⟩ := e2.1 hh; exact absurd ((n2 x).1 hx).1.1 (no x)
    · cases hh : noneM (leftM m 3) with
      | true => rfl
      | false => obtain ⟨x, hx⟩ := e0.1 hh; exact absurd ((m3 x).1 hx).1.1 (no x)
  have l2 : noneM (leftM m 2) = true → noneM (andM (leftM m 2) (ptM .p2 anyM (fromM 12))) = true ∧ noneM (leftM m 3) = true := fun hn => by
    have no : ∀ x, ¬ ((Mem m x ∧ ¬ 8 ≤ x.2.2) ∧ ¬ 14 ≤ x.1) := fun x hx => by have := ((m2 x).2 hx).some; rw [hn] at this; cases this
    refine ⟨?_, ?_⟩
    · cases hh : noneM (andM (leftM m 2) (ptM .p2 anyM (fromM 12))) with
      | true => rfl
      | false => obtain ⟨x, hx⟩ := e2.1 hh; exact absurd ((n2 x).1 hx).1 (no x)
    · cases hh : noneM (leftM m 3) with
      | true => rfl
      | false => obtain ⟨x, hx⟩ := e0.1 hh; exact absurd ((m3 x).1 hx).1 (no x)
  refine ⟨!noneM (andM m (ptM .p0 anyM (fromM 8))), !noneM (andM (leftM m 1) (ptM .p1 anyM (fromM 14))), !noneM (andM (leftM m 2) (ptM .p2 anyM (fromM 12))), !noneM (leftM m 3), ?_, ?_, ?_, ?_, ?_⟩
  · have f1 := @set1f m
    have t1 := @set1t m
    have f2 := @set2f m
    have t2 := @set2t m
    have f3 := @set3f m
    have t3 := @set3t m
    have c1 := @cls1 m
    have c2 := @cls2 m
    have c3 := @cls3 m
    have c4 := @cls4 m
    clear e3 e1 e2 e0 n3 n1 n2 m1 m2 m3 g1 g2 g3 k1 k2 k3
    revert f1 t1 f2 t2 f3 t3 c1 c2 c3 c4 l1 l2
    generalize classesM m = c
    generalize setM m 1 = s1
    generalize setM m 2 = s2
    generalize setM m 3 = s3
    generalize noneM (andM m (ptM .p0 anyM (fromM 8))) = n0
    generalize noneM (andM (leftM m 1) (ptM .p1 anyM (fromM 14))) = n1
    generalize noneM (andM (leftM m 2) (ptM .p2 anyM (fromM 12))) = n2
    generalize noneM (leftM m 1) = q1
    generalize noneM (leftM m 2) = q2
    generalize noneM (leftM m 3) = q3
    intro l1 l2 f1 t1 f2 t2 f3 t3 c1 c2 c3 c4
    cases q1 <;> cases q2 <;> cases q3 <;> cases n0 <;> cases n1 <;> cases n2 <;> first
      | (have := (l1 rfl).1; cases this; done)
      | (have := (l1 rfl).2.1; cases this; done)
      | (have := (l1 rfl).2.2; cases this; done)
      | (have := (l2 rfl).1; cases this; done)
      | (have := (l2 rfl).2; cases this; done)
      | (rw [c1 rfl]; first | rw [f1 rfl]; decide | rw [t1 rfl]; decide)
      | (rw [c2 rfl rfl]; first | rw [f2 rfl] | rw [t2 rfl]) <;> (first | rw [f1 rfl]; decide | rw [t1 rfl]; decide)
      | (rw [c3 rfl rfl rfl]; first | rw [f3 rfl] | rw [t3 rfl]) <;> (first | rw [f2 rfl] | rw [t2 rfl]) <;> (first | rw [f1 rfl]; decide | rw [t1 rfl]; decide)
      | (rw [c4 rfl rfl rfl]; first | rw [f3 rfl] | rw [t3 rfl]) <;> (first | rw [f2 rfl] | rw [t2 rfl]) <;> (first | rw [f1 rfl]; decide | rw [t1 rfl]; decide)
  · rw [Bool.not_eq_true', e3]
    refine exists_congr fun x => ?_
    rw [n3]
    refine and_congr_right fun _ => ?_
    unfold clsM
    split
    · simp [*]
    · split
      · simp [*]
      · split <;> simp [*]
  · rw [Bool.not_eq_true', e1]
    refine exists_congr fun x => ?_
    rw [n1, and_assoc]
    refine and_congr_right fun _ => ?_
    unfold clsM
    split
    · simp [*]
    · split
      · simp [*]
      · split <;> simp [*]
  · rw [Bool.not_eq_true', e2]
    refine exists_congr fun x => ?_
    rw [n2, and_assoc, and_assoc]
    refine and_congr_right fun _ => ?_
    unfold clsM
    split
    · simp [*]
    · split
      · simp [*]
      · split <;> simp [*]
  · rw [Bool.not_eq_true', e0]
    refine exists_congr fun x => ?_
    rw [m3, and_assoc, and_assoc]
    refine and_congr_right fun _ => ?_
    unfold clsM
    split
    · simp [*]
    · split
      · simp [*]
      · split <;> simp [*]
end AE.Soil
