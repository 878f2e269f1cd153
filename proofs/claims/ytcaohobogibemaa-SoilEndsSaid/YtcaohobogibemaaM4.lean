/- An own symbolic executor for the model's code, and what the functions beneath the law compute, joined out of: SoM, SoN, SoO, SoP, SoQ, SoR, SoS, SoT, SoV, SoW, SoX, SoZ0, SoZ1, SoEA, SoEB. No condition. -/
import Derived.Test.YtcaohobogibemaaM3

set_option linter.unusedSimpArgs false
set_option linter.unusedVariables false
namespace AE.Soil
open Go AE Go.Proofs

def orM (a b : Int) : Int := W (BitVec.ofInt 64 a ||| BitVec.ofInt 64 b).toNat
/-- The classes but the last: number, least share, part. -/
def kindM : Nat → Int × Int × Pt
  | 0 => (3, 8, .p0)
  | 1 => (1, 14, .p1)
  | _ => (2, 12, .p2)
def hasM (m : Mix3) (j : Nat) : Mix3 := andM m (ptM (kindM j).2.2 anyM (fromM (kindM j).2.1))
def hasntM (m : Mix3) (j : Nat) : Mix3 := andM m (ptM (kindM j).2.2 anyM (belowM (kindM j).2.1))
def leftM (m : Mix3) : Nat → Mix3
  | 0 => m
  | j + 1 => hasntM (leftM m j) j
def setM (m : Mix3) : Nat → Int
  | 0 => 0
  | j + 1 => if noneM (hasM (leftM m j) j) then setM m j else orM (setM m j) (W (1 * 2 ^ (kindM j).1.toNat))
def classesM (m : Mix3) : Int := if noneM (leftM m 1) then setM m 1 else if noneM (leftM m 2) then setM m 2 else if noneM (leftM m 3) then setM m 3 else orM (setM m 3) 1
def classSt (m : Mix3) (s : Int) (i : Nat) : Fr := [(4, .i s), (5, .ptr 2 0 0 0), (15, .agg (vKind 3 7 3 4 6 ++ vKind 1 9 3 4 8 ++ vKind 2 11 3 4 10)), (16, .i i)]
def classH (l : List Mix3) (m : Mix3) : Heap UU := [.one (.ro .mix l), .one (.rc [.junk, .junk, .junk, .junk, .junk, .sl 0 0 0 l.length] 71), .one (.cells (cMix m) 80), .one cFrom, .one cBelow, .one (.cells (cMix anyM) 80), .one (cInt 8), .one (cOf .p0 5), .one (cInt 14), .one (cOf .p1 5), .one (cInt 12), .one (cOf .p2 5)]
def avMixes (H : Heap UU) : AV → Option (List Mix3)
  | .ptr i 0 0 0 => match blkAt H i 0 with
    | some (.cells [_, _, _, _, _, a] _) => sliceAt .mix H a
    | some (.rc [_, _, _, _, _, a] _) => sliceAt .mix H a
    | _ => none
  | _ => none
def classesS : FSpec UU where
  X := List Mix3 × Int
  pick := fun args H => match args with
    | [g, a] => match avMixes H g, avInt a with
      | some l, some a => some (l, a)
      | _, _ => none
    | _ => none
  args := fun x => [.ptr 1 0 0 0, .i x.2]
  H := fun x => [.one (.ro .mix x.1), .one (.rc [.junk, .junk, .junk, .junk, .junk, .sl 0 0 0 x.1.length] 71)]
  R := fun x => .val ⟨.i (classesM (x.1.getD x.2.toNat m0)), [], [], []⟩
  pre := fun x => 0 ≤ x.2 ∧ x.2 < x.1.length ∧ x.1.length < 1000
def Tclasses : Tab UU := [(59, kindsS.con), (60, isNoneS.con), (79, (partS 73 fromM).con), (80, (partS 74 belowM).con)]
theorem Tclasses_ok : Tclasses.Sound Try.prog := .cons kinds_sound (.cons isNone_sound (.cons can_sound (.cons cannot_sound .nil)))
theorem set1t {m : Mix3} (h : noneM (andM m (ptM .p0 anyM (fromM 8))) = true) : setM m 1 = 0 := by
  show (if noneM (andM m (ptM .p0 anyM (fromM 8))) then setM m 0 else _) = _
  rw [h]; exact if_pos rfl
theorem set1f {m : Mix3} (h : noneM (andM m (ptM .p0 anyM (fromM 8))) = false) : setM m 1 = W 8 := by
  show (if noneM (andM m (ptM .p0 anyM (fromM 8))) then setM m 0 else orM (setM m 0) (W (1 * 2 ^ 3))) = _
  rw [h]; exact (if_neg (by decide)).trans (show orM 0 (W (1 * 2 ^ 3)) = W 8 by decide)
theorem set2t {m : Mix3} (h : noneM (andM (leftM m 1) (ptM .p1 anyM (fromM 14))) = true) : setM m 2 = setM m 1 := by
  show (if noneM (andM (leftM m 1) (ptM .p1 anyM (fromM 14))) then setM m 1 else _) = _
  rw [h]; exact if_pos rfl
theorem set2f {m : Mix3} (h : noneM (andM (leftM m 1) (ptM .p1 anyM (fromM 14))) = false) : setM m 2 = orM (setM m 1) (W (1 * 2 ^ 1)) := by
  show (if noneM (andM (leftM m 1) (ptM .p1 anyM (fromM 14))) then setM m 1 else orM (setM m 1) (W (1 * 2 ^ 1))) = _
  rw [h]; exact if_neg (by decide)
theorem set3t {m : Mix3} (h : noneM (andM (leftM m 2) (ptM .p2 anyM (fromM 12))) = true) : setM m 3 = setM m 2 := by
  show (if noneM (andM (leftM m 2) (ptM .p2 anyM (fromM 12))) then setM m 2 else _) = _
  rw [h]; exact if_pos rfl
theorem set3f {m : Mix3} (h : noneM (andM (leftM m 2) (ptM .p2 anyM (fromM 12))) = false) : setM m 3 = orM (setM m 2) (W (1 * 2 ^ 2)) := by
  show (if noneM (andM (leftM m 2) (ptM .p2 anyM (fromM 12))) then setM m 2 else orM (setM m 2) (W (1 * 2 ^ 2))) = _
  rw [h]; exact if_neg (by decide)
theorem cls1 {m : Mix3} (h : noneM (leftM m 1) = true) : classesM m = setM m 1 := by unfold classesM; rw [h]; rfl
theorem cls2 {m : Mix3} (h1 : noneM (leftM m 1) = false) (h : noneM (leftM m 2) = true) : classesM m = setM m 2 := by unfold classesM; rw [h1, h]; rfl
theorem cls3 {m : Mix3} (h1 : noneM (leftM m 1) = false) (h2 : noneM (leftM m 2) = false) (h : noneM (leftM m 3) = true) : classesM m = setM m 3 := by unfold classesM; rw [h1, h2, h]; rfl
theorem cls4 {m : Mix3} (h1 : noneM (leftM m 1) = false) (h2 : noneM (leftM m 2) = false) (h : noneM (leftM m 3) = false) : classesM m = orM (setM m 3) 1 := by unfold classesM; rw [h1, h2, h]; rfl
theorem left1 (m : Mix3) : andM m (ptM .p0 anyM (belowM 8)) = leftM m 1 := rfl
theorem left2 (m : Mix3) : andM (leftM m 1) (ptM .p1 anyM (belowM 14)) = leftM m 2 := rfl
theorem left3 (m : Mix3) : andM (leftM m 2) (ptM .p2 anyM (belowM 12)) = leftM m 3 := rfl
section
set_option maxHeartbeats 0 in
set_option maxRecDepth 100000 in
theorem classes_ok : ∀ x, classesS.pre x → FunOk Try.prog 40 (classesS.args x) (classesS.H x) (classesS.R x) := by
  rintro ⟨l, at_⟩ hx
  refine fun_of (T := Tclasses) (L := fun _ => some (.steps [(classSt (l.getD at_.toNat m0) 0 0, classH l (l.getD at_.toNat m0)), (classSt (l.getD at_.toNat m0) (setM (l.getD at_.toNat m0) 1) 1, classH l (leftM (l.getD at_.toNat m0) 1)), (classSt (l.getD at_.toNat m0) (setM (l.getD at_.toNat m0) 2) 2, classH l (leftM (l.getD at_.toNat m0) 2)), (classSt (l.getD at_.toNat m0) (setM (l.getD at_.toNat m0) 3) 3, classH l (leftM (l.getD at_.toNat m0) 3))])) (hs := fun _ => []) hmix Tclasses_ok Try.func40 (by kernel_rfl) (by kernel_rfl) ?_
  refine Eq.mp (α :=
      let Z0 := Int.toNat at_; let Z1 := True ∧ True; let Z2 := List.length l; let Z3 := (↑(nat_lit 0) : Int); let Z4 := nat_lit 0 = nat_lit 0 ∧ nat_lit 0 = nat_lit 0; let Z5 := (↑(nat_lit 3) : Int); let Z6 := (↑(nat_lit 1) : Int); let Z7 := (↑(nat_lit 8) : Int); let Z8 := (↑(nat_lit 2) : Int); let Z9 := (0 : Int); let Z10 := (8 : Int); let Z11 := (3 : Int); let Z12 := (1 : Int); let Z13 := (2 : Int); let Z14 := Fn.func (nat_lit 76) = Fn.func (nat_lit 76); let Z15 := Fn.func (nat_lit 75) = Fn.func (nat_lit 75); let Z16 := Fn.func (nat_lit 77) = Fn.func (nat_lit 77); let Z17 := (12 : Int); let Z18 := (14 : Int); let Z19 := (79 : FuncId); let Z20 := (73 : FuncId); let Z21 := (80 : FuncId); let Z22 := l = l; let Z23 := (74 : FuncId); let Z24 := fromM Z10; let Z25 := belowM Z10; let Z26 := fromM Z18; let Z27 := fromM Z17; let Z28 := belowM Z18; let Z29 := belowM Z17; let Z30 := nat_lit 0 = nat_lit 0 ∧ Z4; let Z31 := Fn.func Z20; let Z32 := Fn.func Z23; let Z33 := Fn.func Z19; let Z34 := Fn.func Z21; let Z35 := BitVec.ofInt (nat_lit 64) Z12; let Z36 := Value.int IntKind.i64 Z6; let Z37 := Value.int IntKind.i64 Z8; let Z38 := Value.int IntKind.i64 Z5; let Z39 := Value.int IntKind.i64 Z10; let Z40 := Value.int IntKind.i64 Z11; let Z41 := Prod.fst anyM; let Z42 := Prod.snd anyM; let Z43 := Value.int IntKind.i64 Z12; let Z44 := Value.int IntKind.i64 Z9; let Z45 := Value.int IntKind.i64 Z13; let Z46 := IntKind.wrap IntKind.i64 Z7; let Z47 := Value.int IntKind.i64 Z18; let Z48 := Value.int IntKind.i64 Z17; let Z49 := Z30 ∧ True; let Z50 := Z2 = Z2; let Z51 := nat_lit 0 + Z0; let Z52 := True ∧ Z49; let Z53 := Z32 = Fn.func (nat_lit 74); let Z54 := Z31 = Fn.func (nat_lit 73); let Z55 := ptM Pt.p0 anyM Z24; let Z56 := ptM Pt.p0 anyM Z25; let Z57 := ptM Pt.p1 anyM Z26; let Z58 := ptM Pt.p2 anyM Z27; let Z59 := Prod.snd Z41; let Z60 := ptM Pt.p1 anyM Z28; let Z61 := ptM Pt.p2 anyM Z29; let Z62 := Prod.fst Z41; let Z63 := nat_lit 0 = nat_lit 0 ∧ Z50; let Z64 := Value.int IntKind.i64 Z46; let Z65 := (Z9, Z9); let Z66 := Prod.snd Z42; let Z67 := Prod.fst Z42; let Z68 := Z8 < Z5; let Z69 := Z6 < Z5; let Z70 := Z5 < Z5; let Z71 := Z3 < Z11; let Z72 := Z9 ≤ Z5; let Z73 := Z5 < Z11; let Z74 := Z8 < Z11; let Z75 := Z9 ≤ Z8; let Z76 := Z9 ≤ Z6; let Z77 := Z6 < Z11; let Z78 := Z9 ≤ Z13; let Z79 := Z9 ≤ Z12; let Z80 := Z54 ∧ Z1; let Z81 := Z53 ∧ Z1; let Z82 := Value.int IntKind.i64 Z62; let Z83 := nat_lit 0 = nat_lit 0 ∧ Z63; let Z84 := Value.int IntKind.i64 Z59; let Z85 := Z80 ∧ True; let Z86 := Z81 ∧ True; let Z87 := Prod.snd Z66; let Z88 := Prod.snd Z67; let Z89 := Prod.fst Z66; let Z90 := Prod.fst Z67; let Z91 := Z13 ^ nat_lit 2; let Z92 := Z13 ^ nat_lit 1; let Z93 := Z34 = Z34; let Z94 := Z83 ∧ True; let Z95 := Z32 = Z32; let Z96 := Z31 = Z31; let Z97 := Z33 = Z33; let Z98 := Z15 ∧ Z52; let Z99 := Z16 ∧ Z52; let Z100 := Z14 ∧ Z52; let Z101 := Z3 + Z12; let Z102 := Z6 + Z12; let Z103 := Z8 + Z12; let Z104 := Z30 ∧ Z49; let Z105 := True ∧ Z94; let Z106 := Z98 ∧ True; let Z107 := Z100 ∧ True; let Z108 := Z99 ∧ True; let Z109 := Z39 = Z39; let Z110 := Z45 = Z45; let Z111 := Z40 = Z40; let Z112 := Z43 = Z43; let Z113 := Z48 = Z48; let Z114 := Z47 = Z47; let Z115 := Value.int IntKind.i64 Z87; let Z116 := Value.int IntKind.i64 Z88; let Z117 := Value.int IntKind.i64 Z90; let Z118 := Value.int IntKind.i64 Z89; let Z119 := Z95 ∧ Z1; let Z120 := True ∧ Z105; let Z121 := Z96 ∧ Z1; let Z122 := Z108 ∧ True; let Z123 := Z109 ∧ True; let Z124 := Z113 ∧ True; let Z125 := Z114 ∧ True; let Z126 := IntKind.wrap IntKind.i64 Z103; let Z127 := IntKind.wrap IntKind.i64 Z102; let Z128 := IntKind.wrap IntKind.i64 Z101; let Z129 := True ∧ Z120; let Z130 := Z119 ∧ True; let Z131 := Z121 ∧ True; let Z132 := True ∧ Z129; let Z133 := True ∧ Z132; let Z134 := Value.int IntKind.i64 Z126; let Z135 := Value.int IntKind.i64 Z127; let Z136 := Value.int IntKind.i64 Z128; let Z137 := Z30 ∧ Z104; let Z138 := Z133 ∧ True; let Z139 := True ∧ Z137; let Z140 := Z76 ∧ Z69; let Z141 := Z72 ∧ Z70; let Z142 := Z75 ∧ Z68; let Z143 := Z12 * Z92; let Z144 := Z12 * Z91; let Z145 := Z141 ∧ False; let Z146 := (Z65, Z65); let Z147 := Z84 = Z84; let Z148 := Z82 = Z82; let Z149 := IntKind.wrap IntKind.i64 Z143; let Z150 := IntKind.wrap IntKind.i64 Z144; let Z151 := decide Z71; let Z152 := decide Z77; let Z153 := decide Z73; let Z154 := decide Z74; let Z155 := Z22 ∧ Z138; let Z156 := Z135 = Z37; let Z157 := Z134 = Z38; let Z158 := Z136 = Z36; let Z159 := True ∧ Z155; let Z160 := BitVec.ofInt (nat_lit 64) Z149; let Z161 := BitVec.ofInt (nat_lit 64) Z150; let Z162 := Z153 = true; let Z163 := Z152 = true; let Z164 := Z154 = true; let Z165 := Z153 = false; let Z166 := Z152 = false; let Z167 := Z154 = false; let Z168 := Z158 ∧ True; let Z169 := Z157 ∧ True; let Z170 := Z156 ∧ True; let Z171 := Z117 = Z117; let Z172 := Z118 = Z118; let Z173 := Z116 = Z116; let Z174 := Z115 = Z115; let Z175 := Z124 ∧ Z122; let Z176 := Z174 ∧ True; let Z177 := Z97 ∧ Z139; let Z178 := Z93 ∧ Z139; let Z179 := Z178 ∧ True; let Z180 := (Z65, Z146); let Z181 := List.getD l Z0 Z180; let Z182 := setM Z181 (nat_lit 1); let Z183 := setM Z181 (nat_lit 3); let Z184 := setM Z181 (nat_lit 2); let Z185 := leftM Z181 (nat_lit 1); let Z186 := leftM Z181 (nat_lit 3); let Z187 := leftM Z181 (nat_lit 2); let Z188 := classesM Z181; let Z189 := BitVec.ofInt (nat_lit 64) Z182; let Z190 := BitVec.ofInt (nat_lit 64) Z183; let Z191 := BitVec.ofInt (nat_lit 64) Z184; let Z192 := Value.int IntKind.i64 Z184; let Z193 := Value.int IntKind.i64 Z182; let Z194 := Value.int IntKind.i64 Z183; let Z195 := Z107 ∧ Z175; let Z196 := Value.int IntKind.i64 Z188; let Z197 := Prod.snd Z181; let Z198 := Prod.fst Z181; let Z199 := Prod.snd Z187; let Z200 := Prod.snd Z185; let Z201 := Prod.fst Z186; let Z202 := Prod.fst Z187; let Z203 := Prod.snd Z186; let Z204 := Prod.fst Z185; let Z205 := List.getD l Z51 Z180; let Z206 := Prod.snd Z198; let Z207 := Prod.fst Z198; let Z208 := Z162 → Z145; let Z209 := Prod.snd Z197; let Z210 := Prod.fst Z197; let Z211 := Prod.fst Z201; let Z212 := Prod.fst Z202; let Z213 := Prod.fst Z204; let Z214 := Prod.snd Z201; let Z215 := Prod.snd Z202; let Z216 := Prod.snd Z204; let Z217 := andM Z181 Z55; let Z218 := andM Z181 Z56; let Z219 := Value.int IntKind.i64 Z207; let Z220 := Value.int IntKind.i64 Z206; let Z221 := Prod.fst Z200; let Z222 := Prod.snd Z200; let Z223 := Prod.fst Z203; let Z224 := Prod.fst Z199; let Z225 := Prod.snd Z203; let Z226 := Prod.snd Z199; let Z227 := Prod.snd Z210; let Z228 := Prod.snd Z209; let Z229 := Prod.fst Z209; let Z230 := Prod.fst Z210; let Z231 := noneM Z217; let Z232 := noneM Z218; let Z233 := andM Z185 Z57; let Z234 := andM Z187 Z58; let Z235 := andM Z187 Z61; let Z236 := andM Z185 Z60; let Z237 := Value.int IntKind.i64 Z212; let Z238 := Value.int IntKind.i64 Z213; let Z239 := Value.int IntKind.i64 Z211; let Z240 := Value.int IntKind.i64 Z215; let Z241 := Value.int IntKind.i64 Z216; let Z242 := Value.int IntKind.i64 Z214; let Z243 := !Z231; let Z244 := Prod.snd Z226; let Z245 := Prod.snd Z224; let Z246 := Prod.fst Z221; let Z247 := Prod.snd Z221; let Z248 := Prod.fst Z222; let Z249 := Prod.snd Z222; let Z250 := Prod.fst Z224; let Z251 := Prod.snd Z223; let Z252 := Prod.fst Z223; let Z253 := Prod.fst Z226; let Z254 := Prod.fst Z225; let Z255 := Prod.snd Z225; let Z256 := Prod.fst Z205; let Z257 := Prod.snd Z205; let Z258 := noneM Z234; let Z259 := noneM Z233; let Z260 := noneM Z236; let Z261 := noneM Z235; let Z262 := Z232 = true; let Z263 := Z232 = false; let Z264 := Value.int IntKind.i64 Z230; let Z265 := Value.int IntKind.i64 Z228; let Z266 := Value.int IntKind.i64 Z227; let Z267 := Value.int IntKind.i64 Z229; let Z268 := !Z258; let Z269 := !Z259; let Z270 := Prod.snd Z217; let Z271 := Prod.fst Z217; let Z272 := Prod.snd Z218; let Z273 := Prod.fst Z218; let Z274 := Value.int IntKind.i64 Z247; let Z275 := Value.int IntKind.i64 Z253; let Z276 := Value.int IntKind.i64 Z250; let Z277 := Value.int IntKind.i64 Z246; let Z278 := Value.int IntKind.i64 Z254; let Z279 := Value.int IntKind.i64 Z244; let Z280 := Z260 = true; let Z281 := Value.int IntKind.i64 Z249; let Z282 := Value.int IntKind.i64 Z252; let Z283 := Value.int IntKind.i64 Z251; let Z284 := Value.int IntKind.i64 Z245; let Z285 := Value.int IntKind.i64 Z255; let Z286 := Value.int IntKind.i64 Z248; let Z287 := Z261 = true; let Z288 := Z261 = false; let Z289 := Z260 = false; let Z290 := Prod.fst Z257; let Z291 := Prod.snd Z257; let Z292 := Z268 = true; let Z293 := Z269 = true; let Z294 := Z269 = false; let Z295 := Z268 = false; let Z296 := Prod.snd Z234; let Z297 := Prod.snd Z233; let Z298 := Prod.fst Z233; let Z299 := Prod.fst Z234; let Z300 := Prod.fst Z236; let Z301 := Prod.fst Z235; let Z302 := Prod.snd Z236; let Z303 := Prod.snd Z235; let Z304 := Prod.fst Z271; let Z305 := Prod.snd Z271; let Z306 := Prod.snd Z273; let Z307 := Prod.fst Z273; let Z308 := Prod.snd Z270; let Z309 := Prod.fst Z270; let Z310 := Prod.snd Z272; let Z311 := Prod.fst Z272; let Z312 := Prod.snd Z299; let Z313 := Prod.snd Z298; let Z314 := Prod.fst Z298; let Z315 := Prod.fst Z299; let Z316 := Prod.snd Z300; let Z317 := Prod.fst Z300; let Z318 := Prod.fst Z301; let Z319 := Prod.snd Z301; let Z320 := Value.int IntKind.i64 Z305; let Z321 := Value.int IntKind.i64 Z304; let Z322 := Value.int IntKind.i64 Z307; let Z323 := Value.int IntKind.i64 Z306; let Z324 := Prod.fst Z296; let Z325 := Prod.snd Z297; let Z326 := Prod.snd Z296; let Z327 := Prod.fst Z297; let Z328 := Prod.snd Z302; let Z329 := Prod.fst Z303; let Z330 := Prod.fst Z302; let Z331 := Prod.snd Z303; let Z332 := Prod.fst Z309; let Z333 := Prod.snd Z308; let Z334 := Prod.fst Z308; let Z335 := Prod.snd Z309; let Z336 := Prod.fst Z311; let Z337 := Prod.snd Z311; let Z338 := Prod.fst Z310; let Z339 := Prod.snd Z310; let Z340 := Z125 ∧ Z195; let Z341 := Z172 ∧ Z176; let Z342 := Value.int IntKind.i64 Z312; let Z343 := Value.int IntKind.i64 Z314; let Z344 := Value.int IntKind.i64 Z313; let Z345 := Value.int IntKind.i64 Z315; let Z346 := Value.int IntKind.i64 Z319; let Z347 := Value.int IntKind.i64 Z317; let Z348 := Value.int IntKind.i64 Z316; let Z349 := Value.int IntKind.i64 Z318; let Z350 := Prod.snd Z327; let Z351 := Prod.fst Z326; let Z352 := Prod.fst Z327; let Z353 := Prod.fst Z325; let Z354 := Prod.fst Z324; let Z355 := Prod.snd Z326; let Z356 := Prod.snd Z325; let Z357 := Prod.snd Z324; let Z358 := Prod.fst Z329; let Z359 := Prod.fst Z328; let Z360 := Prod.fst Z331; let Z361 := Prod.snd Z328; let Z362 := Prod.snd Z331; let Z363 := Prod.fst Z330; let Z364 := Prod.snd Z329; let Z365 := Prod.snd Z330; let Z366 := Value.int IntKind.i64 Z332; let Z367 := Value.int IntKind.i64 Z333; let Z368 := Value.int IntKind.i64 Z334; let Z369 := Value.int IntKind.i64 Z335; let Z370 := Value.int IntKind.i64 Z337; let Z371 := Value.int IntKind.i64 Z338; let Z372 := Value.int IntKind.i64 Z339; let Z373 := Value.int IntKind.i64 Z336; let Z374 := Value.int IntKind.i64 Z355; let Z375 := Value.int IntKind.i64 Z356; let Z376 := Value.int IntKind.i64 Z352; let Z377 := Value.int IntKind.i64 Z354; let Z378 := Value.int IntKind.i64 Z350; let Z379 := Value.int IntKind.i64 Z357; let Z380 := Value.int IntKind.i64 Z353; let Z381 := Value.int IntKind.i64 Z351; let Z382 := Value.int IntKind.i64 Z358; let Z383 := Value.int IntKind.i64 Z360; let Z384 := Value.int IntKind.i64 Z359; let Z385 := Value.int IntKind.i64 Z365; let Z386 := Value.int IntKind.i64 Z362; let Z387 := Value.int IntKind.i64 Z364; let Z388 := Value.int IntKind.i64 Z363; let Z389 := Value.int IntKind.i64 Z361; let Z390 := Z177 ∧ Z179; let Z391 := Z189 ||| Z35; let Z392 := Z191 ||| Z35; let Z393 := Z190 ||| Z35; let Z394 := Z106 ∧ Z340; let Z395 := BitVec.toNat Z392; let Z396 := BitVec.toNat Z391; let Z397 := BitVec.toNat Z393; let Z398 := (↑Z395 : Int); let Z399 := (↑Z397 : Int); let Z400 := (↑Z396 : Int); let Z401 := IntKind.wrap IntKind.i64 Z398; let Z402 := IntKind.wrap IntKind.i64 Z399; let Z403 := IntKind.wrap IntKind.i64 Z400; let Z404 := Z110 ∧ Z390; let Z405 := Value.int IntKind.i64 Z401; let Z406 := Value.int IntKind.i64 Z402; let Z407 := Value.int IntKind.i64 Z403; let Z408 := Z123 ∧ Z394; let Z409 := Z192 = Z194; let Z410 := Z193 = Z192; let Z411 := Z193 = Z196; let Z412 := Z192 = Z196; let Z413 := Z173 ∧ Z341; let Z414 := Z412 ∧ True; let Z415 := Z411 ∧ True; let Z416 := Z189 ||| Z160; let Z417 := Z191 ||| Z161; let Z418 := BitVec.toNat Z416; let Z419 := BitVec.toNat Z417; let Z420 := (↑Z419 : Int); let Z421 := (↑Z418 : Int); let Z422 := IntKind.wrap IntKind.i64 Z420; let Z423 := IntKind.wrap IntKind.i64 Z421; let Z424 := Z220 = Z220; let Z425 := Z219 = Z219; let Z426 := Value.int IntKind.i64 Z423; let Z427 := Value.int IntKind.i64 Z422; let Z428 := Z238 = Z238; let Z429 := Z237 = Z237; let Z430 := Z241 = Z241; let Z431 := Z240 = Z240; let Z432 := Z264 = Z264; let Z433 := Z265 = Z265; let Z434 := Z266 = Z266; let Z435 := Z267 = Z267; let Z436 := Z433 ∧ True; let Z437 := Z275 = Z275; let Z438 := Z281 = Z281; let Z439 := Z279 = Z279; let Z440 := Z277 = Z277; let Z441 := Z274 = Z274; let Z442 := Z276 = Z276; let Z443 := Z286 = Z286; let Z444 := Z284 = Z284; let Z445 := Z323 = Z241; let Z446 := Z322 = Z238; let Z447 := Z439 ∧ True; let Z448 := Z438 ∧ True; let Z449 := Z347 = Z237; let Z450 := Z349 = Z239; let Z451 := Z346 = Z242; let Z452 := Z348 = Z240; let Z453 := Z178 ∧ Z404; let Z454 := Z414 ∧ Z159; let Z455 := Z415 ∧ Z159; let Z456 := True ∧ Z454; let Z457 := True ∧ Z455; let Z458 := Z370 = Z274; let Z459 := Z373 = Z277; let Z460 := Z372 = Z281; let Z461 := Z371 = Z286; let Z462 := Z322 = Z322; let Z463 := Z323 = Z323; let Z464 := Z460 ∧ True; let Z465 := Z388 = Z276; let Z466 := Z385 = Z284; let Z467 := Z384 = Z275; let Z468 := Z383 = Z278; let Z469 := Z389 = Z279; let Z470 := Z387 = Z283; let Z471 := Z386 = Z285; let Z472 := Z382 = Z282; let Z473 := Z171 ∧ Z413; let Z474 := Z469 ∧ True; let Z475 := Z471 ∧ True; let Z476 := Z344 = Z344; let Z477 := Z343 = Z343; let Z478 := Z342 = Z342; let Z479 := Z345 = Z345; let Z480 := Z347 = Z347; let Z481 := Z349 = Z349; let Z482 := Z346 = Z346; let Z483 := Z348 = Z348; let Z484 := Z370 = Z370; let Z485 := Z372 = Z372; let Z486 := Z373 = Z373; let Z487 := Z371 = Z371; let Z488 := Z485 ∧ True; let Z489 := Z406 = Z196; let Z490 := Z405 = Z196; let Z491 := Z407 = Z196; let Z492 := Z491 ∧ True; let Z493 := Z490 ∧ True; let Z494 := Z489 ∧ True; let Z495 := Z375 = Z375; let Z496 := Z378 = Z378; let Z497 := Z381 = Z381; let Z498 := Z377 = Z377; let Z499 := Z374 = Z374; let Z500 := Z380 = Z380; let Z501 := Z379 = Z379; let Z502 := Z376 = Z376; let Z503 := Z383 = Z383; let Z504 := Z382 = Z382; let Z505 := Z388 = Z388; let Z506 := Z389 = Z389; let Z507 := Z387 = Z387; let Z508 := Z385 = Z385; let Z509 := Z386 = Z386; let Z510 := Z384 = Z384; let Z511 := Z495 ∧ True; let Z512 := Z499 ∧ True; let Z513 := Z506 ∧ True; let Z514 := Z509 ∧ True; let Z515 := Z147 ∧ Z473; let Z516 := Z177 ∧ Z453; let Z517 := Z427 = Z194; let Z518 := Z426 = Z192; let Z519 := Z426 = Z196; let Z520 := Z427 = Z196; let Z521 := Z520 ∧ True; let Z522 := Z519 ∧ True; let Z523 := Z493 ∧ Z159; let Z524 := Z494 ∧ Z159; let Z525 := Z492 ∧ Z159; let Z526 := True ∧ Z523; let Z527 := True ∧ Z524; let Z528 := True ∧ Z525; let Z529 := Z112 ∧ Z516; let Z530 := Z148 ∧ Z515; let Z531 := Z530 ∧ True; let Z532 := Z287 → Z456; let Z533 := Z280 → Z457; let Z534 := Z522 ∧ Z159; let Z535 := Z521 ∧ Z159; let Z536 := True ∧ Z534; let Z537 := True ∧ Z535; let Z538 := Z165 → Z527; let Z539 := Z166 → Z528; let Z540 := Z167 → Z526; let Z541 := Z123 ∧ Z531; let Z542 := Z124 ∧ Z531; let Z543 := Z125 ∧ Z531; let Z544 := Z178 ∧ Z529; let Z545 := Z86 ∧ Z541; let Z546 := Z85 ∧ Z542; let Z547 := Z85 ∧ Z543; let Z548 := Z86 ∧ Z543; let Z549 := Z86 ∧ Z542; let Z550 := Z106 ∧ Z545; let Z551 := Z108 ∧ Z549; let Z552 := Z107 ∧ Z548; let Z553 := Z108 ∧ Z546; let Z554 := Z107 ∧ Z547; let Z555 := Z435 ∧ Z436; let Z556 := Z437 ∧ Z447; let Z557 := Z443 ∧ Z448; let Z558 := Z177 ∧ Z544; let Z559 := Z208 ∧ Z538; let Z560 := Z280 → Z536; let Z561 := Z287 → Z537; let Z562 := Z461 ∧ Z464; let Z563 := Z468 ∧ Z475; let Z564 := Z467 ∧ Z474; let Z565 := Z111 ∧ Z558; let Z566 := Z487 ∧ Z488; let Z567 := Z530 ∧ Z408; let Z568 := Z497 ∧ Z512; let Z569 := Z500 ∧ Z511; let Z570 := Z503 ∧ Z514; let Z571 := Z510 ∧ Z513; let Z572 := Z565 ∧ Z170; let Z573 := Z565 ∧ Z169; let Z574 := Z565 ∧ Z168; let Z575 := Z130 ∧ Z567; let Z576 := Z30 ∧ Z574; let Z577 := Z30 ∧ Z572; let Z578 := Z30 ∧ Z573; let Z579 := Z131 ∧ Z575; let Z580 := Z434 ∧ Z555; let Z581 := Z441 ∧ Z557; let Z582 := Z444 ∧ Z556; let Z583 := Z458 ∧ Z562; let Z584 := Z470 ∧ Z563; let Z585 := Z466 ∧ Z564; let Z586 := Z410 ∧ Z577; let Z587 := Z409 ∧ Z578; let Z588 := Z484 ∧ Z566; let Z589 := Z496 ∧ Z569; let Z590 := Z501 ∧ Z568; let Z591 := Z507 ∧ Z570; let Z592 := Z508 ∧ Z571; let Z593 := Z518 ∧ Z577; let Z594 := Z517 ∧ Z578; let Z595 := Z432 ∧ Z580; let Z596 := Z440 ∧ Z581; let Z597 := Z442 ∧ Z582; let Z598 := Z459 ∧ Z583; let Z599 := Z465 ∧ Z585; let Z600 := Z472 ∧ Z584; let Z601 := Z486 ∧ Z588; let Z602 := Z502 ∧ Z589; let Z603 := Z498 ∧ Z590; let Z604 := Z504 ∧ Z591; let Z605 := Z505 ∧ Z592; let Z606 := Z424 ∧ Z595; let Z607 := Z430 ∧ Z596; let Z608 := Z431 ∧ Z597; let Z609 := Z445 ∧ Z598; let Z610 := Z452 ∧ Z599; let Z611 := Z451 ∧ Z600; let Z612 := Z463 ∧ Z601; let Z613 := Z425 ∧ Z606; let Z614 := Z478 ∧ Z603; let Z615 := Z476 ∧ Z602; let Z616 := Z482 ∧ Z604; let Z617 := Z483 ∧ Z605; let Z618 := Z429 ∧ Z608; let Z619 := Z428 ∧ Z607; let Z620 := Z613 ∧ Z137; let Z621 := Z618 ∧ Z137; let Z622 := Z619 ∧ Z137; let Z623 := Z446 ∧ Z609; let Z624 := Z449 ∧ Z610; let Z625 := Z450 ∧ Z611; let Z626 := Z462 ∧ Z612; let Z627 := Z626 ∧ True; let Z628 := Z479 ∧ Z614; let Z629 := Z477 ∧ Z615; let Z630 := Z628 ∧ True; let Z631 := Z629 ∧ True; let Z632 := Z480 ∧ Z617; let Z633 := Z481 ∧ Z616; let Z634 := Z633 ∧ True; let Z635 := Z632 ∧ True; let Z636 := Z623 ∧ Z579; let Z637 := Z624 ∧ Z579; let Z638 := Z625 ∧ Z579; let Z639 := Z133 ∧ Z636; let Z640 := Z22 ∧ Z639; let Z641 := True ∧ Z640; let Z642 := Z133 ∧ Z638; let Z643 := Z133 ∧ Z637; let Z644 := Z22 ∧ Z642; let Z645 := Z22 ∧ Z643; let Z646 := True ∧ Z644; let Z647 := True ∧ Z645; let Z648 := Z587 ∧ Z646; let Z649 := Z586 ∧ Z647; let Z650 := Z594 ∧ Z646; let Z651 := Z593 ∧ Z647; let Z652 := Z648 ∧ Z559; let Z682 := (Z164 → Z142 ∧ True ∧ Z621 ∧ Z553 ∧ True ∧ Z630 ∧ True ∧ (Z292 → Z78 ∧ True ∧ Z621 ∧ Z551 ∧ True ∧ Z634 ∧ True ∧ Z561 ∧ (Z288 → Z650 ∧ Z559)) ∧ (Z295 → True ∧ Z621 ∧ Z551 ∧ True ∧ Z634 ∧ True ∧ Z532 ∧ (Z288 → Z652))) ∧ Z540; (Z9 ≤ at_ ∧ at_ < (↑Z2 : Int)) ∧ Z51 < List.length l ∧ True ∧ True ∧ True ∧ ((Z44 = Z44 ∧ Z30 ∧ Z565 ∧ Z44 = Value.int IntKind.i64 Z3 ∧ True) ∧ True ∧ Z22 ∧ Z133 ∧ (Value.int IntKind.i64 (Prod.fst Z256) = Z219 ∧ Value.int IntKind.i64 (Prod.snd Z256) = Z220 ∧ Value.int IntKind.i64 (Prod.fst Z290) = Z264 ∧ Value.int IntKind.i64 (Prod.snd Z290) = Z266 ∧ Value.int IntKind.i64 (Prod.fst Z291) = Z267 ∧ Value.int IntKind.i64 (Prod.snd Z291) = Z265 ∧ True) ∧ Z579) ∧ (Z151 = true → (Z9 ≤ Z3 ∧ Z3 < Z5) ∧ True ∧ Z620 ∧ (Z106 ∧ Z85 ∧ Z541) ∧ True ∧ ((Z321 = Z321 ∧ Z320 = Z320 ∧ Z366 = Z366 ∧ Z369 = Z369 ∧ Z368 = Z368 ∧ Z367 = Z367 ∧ True) ∧ True) ∧ True ∧ (Z243 = true → Z9 ≤ Z11 ∧ True ∧ Z620 ∧ Z550 ∧ True ∧ Z627 ∧ True ∧ (Z262 → True ∧ (Z64 = Z196 ∧ True) ∧ Z159) ∧ (Z263 → ((Z64 = Z193 ∧ Z576) ∧ Z641) ∧ (Z163 → Z140 ∧ True ∧ Z622 ∧ Z554 ∧ True ∧ Z631 ∧ True ∧ (Z293 → Z79 ∧ True ∧ Z622 ∧ Z552 ∧ True ∧ Z635 ∧ True ∧ Z560 ∧ (Z289 → Z651 ∧ Z682)) ∧ (Z294 → True ∧ Z622 ∧ Z552 ∧ True ∧ Z635 ∧ True ∧ Z533 ∧ (Z289 → Z649 ∧ Z682))) ∧ Z539)) ∧ (Z243 = false → True ∧ Z620 ∧ Z550 ∧ True ∧ Z627 ∧ True ∧ (Z262 → True ∧ (Z44 = Z196 ∧ True) ∧ Z159) ∧ (Z263 → ((Z44 = Z193 ∧ Z576) ∧ Z641) ∧ (Z163 → Z140 ∧ True ∧ Z622 ∧ Z554 ∧ True ∧ Z631 ∧ True ∧ (Z293 → Z79 ∧ True ∧ Z622 ∧ Z552 ∧ True ∧ Z635 ∧ True ∧ Z560 ∧ (Z289 → Z651 ∧ Z682)) ∧ (Z294 → True ∧ Z622 ∧ Z552 ∧ True ∧ Z635 ∧ True ∧ Z533 ∧ (Z289 → Z649 ∧ Z682))) ∧ Z539))) ∧ (Z151 = false → True ∧ (Value.int IntKind.i64 (IntKind.wrap IntKind.i64 Z6) = Z196 ∧ True) ∧ Z159))
    (by kernel_rfl) ?_
  simp only [eq_self, true_and, and_true, Int.toNat_natCast, Nat.zero_add, Nat.sub_zero, Value.int.injEq, Value.bool.injEq, decide_eq_true_eq, decide_eq_false_iff_not]
  obtain ⟨h0, h1, h2⟩ := hx
  have h0' : 0 ≤ at_ := h0
  have h1' : at_ < (l.length : Int) := h1
  refine ⟨⟨h0', h1'⟩, by omega, ?_⟩
  generalize l.getD at_.toNat ((0, 0), (0, 0), 0, 0) = m
  have e1 := left1 m
  have e2 := left2 m
  have e3 := left3 m
  have i1 : IntKind.i64.wrap (((0 : Nat) : Int) + 1) = ((1 : Nat) : Int) := by decide
  have i2 : IntKind.i64.wrap (((1 : Nat) : Int) + 1) = ((2 : Nat) : Int) := by decide
  have i3 : IntKind.i64.wrap (((2 : Nat) : Int) + 1) = ((3 : Nat) : Int) := by decide
  have l0 : ((0 : Nat) : Int) < 3 := by decide
  have l1 : ((1 : Nat) : Int) < 3 := by decide
  have l2 : ((2 : Nat) : Int) < 3 := by decide
  have l3 : ¬ ((3 : Nat) : Int) < 3 := by decide
  simp only [e1, e2, e3, i1, i2, i3, l0, l1, l2, l3, eq_self, true_and, and_true, not_true, not_false_iff, false_implies, true_implies, Bool.not_eq_true', Bool.not_eq_false']
  have f1 := @set1f m
  have g1 := @set1t m
  have f2 := @set2f m
  have g2 := @set2t m
  have f3 := @set3f m
  have g3 := @set3t m
  have c1 := @cls1 m
  have c2 := @cls2 m
  have c3 := @cls3 m
  have c4 := @cls4 m
  clear e1 e2 e3 i1 i2 i3
  revert f1 g1 f2 g2 f3 g3 c1 c2 c3 c4
  generalize classesM m = c
  generalize setM m 1 = s1
  generalize setM m 2 = s2
  generalize setM m 3 = s3
  generalize noneM (andM m (ptM .p0 anyM (fromM 8))) = n0
  generalize noneM (andM (leftM m 1) (ptM .p1 anyM (fromM 14))) = n1
  generalize noneM (andM (leftM m 2) (ptM .p2 anyM (fromM 12))) = n2
  generalize noneM (leftM m 1) = q1
  generalize noneM (leftM m 2) = q2
  generalize noneM (leftM m 3) = q3
  intro f1 g1 f2 g2 f3 g3 c1 c2 c3 c4
  repeat' (first | refine And.intro ?_ ?_ | intro _)
  all_goals first
    | decide
    | refine Eq.symm ?_; first
      | exact f1 (by assumption)
      | exact g1 (by assumption)
      | exact f2 (by assumption)
      | exact g2 (by assumption)
      | exact f3 (by assumption)
      | exact g3 (by assumption)
      | exact (c1 (by assumption)).trans (f1 (by assumption))
      | exact (c1 (by assumption)).trans (g1 (by assumption))
      | exact (c2 (by assumption) (by assumption)).trans (f2 (by assumption))
      | exact (c2 (by assumption) (by assumption)).trans (g2 (by assumption))
      | exact (c3 (by assumption) (by assumption) (by assumption)).trans (f3 (by assumption))
      | exact (c3 (by assumption) (by assumption) (by assumption)).trans (g3 (by assumption))
      | exact c4 (by assumption) (by assumption) (by assumption)

end
theorem classes_sound : Sound Try.prog 40 classesS.con := FSpec.sound _ (enter_of Try.func40 (by kernel_rfl) (by kernel_rfl)) classes_ok
end AE.Soil

namespace AE.Soil
open Go AE Go.Proofs

def classOM (g : GroundT) (at_ : Int) : Int × Int := if openErrM g .place [at_] == 0 then (classesM ((boxesM g).getD at_.toNat m0), 0) else (0, openErrM g .place [at_])
def Tclass : Tab UU := [(33, isPlaceS.con), (32, openAS.con), (40, classesS.con)]
theorem Tclass_ok : Tclass.Sound Try.prog := .cons isPlace_sound (.cons openA_sound (.cons classes_sound .nil))
def classOS : FSpec UU where
  X := GroundT × Int
  pick := fun args H => match args with
    | [a, b] => match avGround H a, avInt b with
      | some a, some b => some (a, b)
      | _, _ => none
    | _ => none
  args := fun x => [vGround x.1 0, .i x.2]
  H := fun x => [.one (.ro .pit x.1.pits)]
  R := fun x => .val ⟨.tup [.i (classOM x.1 x.2).1, .i (classOM x.1 x.2).2], [], [], []⟩
  pre := fun x => x.1.pits.length < 1000000
set_option maxHeartbeats 0 in
set_option maxRecDepth 100000 in
theorem classO_ok : ∀ x, classOS.pre x → FunOk Try.prog 13 (classOS.args x) (classOS.H x) (classOS.R x) := by
  rintro ⟨⟨long, rise, change, ps⟩, at_⟩ hx
  refine fun_ofT (T := Tclass) (L := fun _ => none) (hs := fun _ => []) (sp := fun _ => none) hmix Tclass_ok (tdAt_ok told_ok) (it := fun _ => none) (fun _ _ h => by cases h) Try.func13 (by kernel_rfl) (by kernel_rfl) ?_
  refine Eq.mp (α :=
      let Z0 := GroundT.mk long rise change ps; let Z1 := List.length ps; let Z2 := Value.int IntKind.i64 long; let Z3 := Value.int IntKind.i64 rise; let Z4 := Value.int IntKind.i64 at_; let Z5 := Value.int IntKind.i64 change; let Z7 := nat_lit 0 = nat_lit 0 ∧ nat_lit 1 = nat_lit 1; let Z9 := (0 : Int); let Z11 := (4 : Nat); let Z12 : List Mix3 := boxesM Z0; let Z14 := ps = ps; let Z17 := nat_lit 0 = nat_lit 0 ∧ nat_lit 0 = nat_lit 0 ∧ nat_lit 0 = nat_lit 0; let Z18 := Fn.func (56 : FuncId); let Z20 := Value.int IntKind.i64 Z9; let Z25 := List.length Z12; let Z31 : List Int := [at_]; let Z34 := Value.int IntKind.i64 (Prod.fst (classOM Z0 at_)); let Z35 := (Z9, Z9); let Z36 := Value.int IntKind.i64 (Prod.snd (classOM Z0 at_)); let Z40 := openErrM Z0 Ask.place Z31; let Z44 := Z31 = Z31; let Z47 := Z40 == Z9; let Z49 := Z2 = Z2 ∧ Z3 = Z3 ∧ Z5 = Z5 ∧ (nat_lit 0 = nat_lit 0 ∧ nat_lit 0 = nat_lit 0 ∧ Z1 = Z1) ∧ True; True ∧ (Z49 ∧ True) ∧ (Z14 ∧ True) ∧ (nat_lit 1 = nat_lit 1 ∧ AV.v Z4 = AV.v Z4 ∧ True) ∧ (Z1 < nat_lit 1000000 ∧ nat_lit 1 < nat_lit 1000) ∧ (Z47 = true → (Z49 ∧ (Z18 = Z18 ∧ True ∧ Z17 ∧ True) ∧ (Z11 = Z11 ∧ nat_lit 0 = nat_lit 0 ∧ Z7) ∧ True) ∧ (Z14 ∧ Z49 ∧ Z44 ∧ True) ∧ (Z9 ≤ at_ ∧ at_ < (↑Z25 : Int) ∧ Z25 < nat_lit 1000) ∧ (Z17 ∧ Z4 = Z4 ∧ True) ∧ (Z12 = Z12 ∧ (True ∧ True ∧ True ∧ True ∧ True ∧ (nat_lit 6 = nat_lit 6 ∧ nat_lit 0 = nat_lit 0 ∧ nat_lit 0 = nat_lit 0 ∧ List.length Z12 = Z25) ∧ True) ∧ True) ∧ (true = true → True ∧ True ∧ ((Value.int IntKind.i64 (classesM (List.getD Z12 (Int.toNat at_) (Z35, Z35, Z35))) = Z34 ∧ Z20 = Z36 ∧ True) ∧ True) ∧ True ∧ Z14 ∧ True) ∧ (true = false → False)) ∧ (Z47 = false → (Z49 ∧ (Z18 = Z18 ∧ True ∧ Z17 ∧ True) ∧ (Z11 = Z11 ∧ nat_lit 0 = nat_lit 0 ∧ Z7) ∧ True) ∧ (Z14 ∧ Z49 ∧ Z44 ∧ True) ∧ True ∧ True ∧ ((Z20 = Z34 ∧ Value.int IntKind.i64 Z40 = Z36 ∧ True) ∧ True) ∧ True ∧ Z14 ∧ True))
    (by kernel_rfl) ?_
  simp only [eq_self, true_and, and_true, Int.toNat_natCast, Nat.zero_add, Nat.sub_zero, Value.int.injEq, Value.bool.injEq, decide_eq_true_eq, decide_eq_false_iff_not]
  refine ⟨⟨hx, by decide⟩, fun h => ?_, fun h => ?_⟩
  · obtain ⟨k, rfl, hk⟩ := place_nat h
    have hl : (boxesM ⟨long, rise, change, ps⟩).length = nM ⟨long, rise, change, ps⟩ := stage_len _ 2
    have hn := n_ok (ground_ok (open_ok h).1)
    have e : classOM ⟨long, rise, change, ps⟩ (k : Int) = (classesM ((boxesM ⟨long, rise, change, ps⟩).getD k m0), 0) := by unfold classOM; rw [h]; rfl
    rw [Int.toNat_natCast, e]
    exact ⟨⟨Int.natCast_nonneg _, by omega, by omega⟩, fun _ => ⟨rfl, rfl⟩, fun h => absurd h (by decide)⟩
  · have e : classOM ⟨long, rise, change, ps⟩ at_ = (0, openErrM ⟨long, rise, change, ps⟩ .place [at_]) := by unfold classOM; rw [h]; rfl
    rw [e]; exact ⟨rfl, rfl⟩

theorem classO_sound : Sound Try.prog 13 classOS.con := FSpec.sound _ (enter_of Try.func13 (by kernel_rfl) (by kernel_rfl)) classO_ok
end AE.Soil

namespace AE.Soil
open Go AE Go.Proofs

def openBL (g : GroundT) (l : List Int) : LSpec UU where
  T := { i : Nat // i ≤ l.length ∧ (l.take i).all (askM .cls g.long) = true }
  fr := fun i => [(1, .fn (.func 47) [] []), (3, .ptr 2 0 0 0), (14, .sl 1 0 0 l.length), (15, .i l.length), (16, .i i.1)]
  H := fun _ => [.one (.ro .pit g.pits), .one (.ro .int l), .one (.cells (cGround g 0) 24)]
  mu := fun i => l.length - i.1
def openBS : FSpec2 UU where
  X := GroundT × List Int
  pick := fun args H => match args with
    | [a, .fn (.func 47) [] [], l] => match avGround H a, sliceAt .int H l with
      | some a, some l => some (a, l)
      | _, _ => none
    | _ => none
  args := fun x => [vGround x.1 0, .fn (.func 47) [] [], .sl 1 0 0 x.2.length]
  H := fun x => [.one (.ro .pit x.1.pits), .one (.ro .int x.2)]
  c := fun x => openErrM x.1 .cls x.2 == 0
  R := fun x => .val ⟨.ptr 4 0 0 0, [], [], [.row .span (hardsM x.1 (nM x.1)) 28, .row .mix (boxesM x.1) 80, .cells [.i x.1.long, .i x.1.rise, .i x.1.change, .sl 0 0 0 x.1.pits.length, .gs 2 0, .gs 3 0] 71]⟩
  R' := fun x => .panic (failV (openErrM x.1 .cls x.2))
  pre := fun x => x.1.pits.length < 1000000 ∧ x.2.length < 1000
set_option maxHeartbeats 0 in
set_option maxRecDepth 100000 in
theorem openB_ok : ∀ x, openBS.pre x → (openBS.c x = true → FunOk Try.prog 32 (openBS.args x) (openBS.H x) (openBS.R x)) ∧ (openBS.c x = false → FunOk Try.prog 32 (openBS.args x) (openBS.H x) (openBS.R' x)) := by
  rintro ⟨⟨long, rise, change, ps⟩, l⟩ hx
  refine fun_of2 (T := Topen) (L := fun _ => some (.inv (openBL ⟨long, rise, change, ps⟩ l))) (hs := fun _ => []) (sp := fun _ => none) hmix Topen_ok (td := fun _ => none) (fun _ _ h => by cases h) (it := fun _ => none) (fun _ _ h => by cases h) Try.func32 (by kernel_rfl) (by kernel_rfl) ?_
  refine Eq.mp (α :=
      let Z0 := List.length l; let Z1 := Value.bool true; let Z2 := Value.bool false; let Z3 := GroundT.mk long rise change ps; let Z4 := List.length ps; let Z5 := Value.int IntKind.i64 change; let Z6 := Value.int IntKind.i64 long; let Z7 := Value.int IntKind.i64 rise; let Z9 := (0 : Int); let Z10 := (1 : Int); let Z17 := groundM Z3; let Z19 := l = l; let Z20 := (28 : TypeId); let Z21 := ps = ps; let Z22 := (47 : FuncId); let Z23 := (80 : TypeId); let Z24 := (104 : TypeId); let Z27 := nat_lit 0 = nat_lit 0 ∧ nat_lit 0 = nat_lit 0 ∧ nat_lit 0 = nat_lit 0; let Z28 := (↑Z0 : Int); let Z29 := openErrM Z3 Ask.cls l; let Z32 := Value.bool Z17; let Z34 := Value.int IntKind.i64 Z10; let Z35 := Value.int IntKind.i64 (2 : Int); let Z37 := Value.int IntKind.i64 (10 : Int); let Z45 := Value.int IntKind.i64 Z28; let Z46 := Value.int IntKind.i64 Z29; let Z50 := Z24 = Z24; let Z59 := Fn.func Z22 = Fn.func Z22 ∧ True ∧ True; let Z62 := Z37 = Z37 ∧ True; let Z63 := Z29 == Z9; let Z67 := Z63 = true; let Z68 := Z63 = false; let Z70 := Z67 → False; let Z73 : Type := { i : Nat // i ≤ Z0 ∧ List.all (List.take i l) (askM Ask.cls (GroundT.long Z3)) = true }; let Z74 := fun (x : Z73) => Subtype.val x; let Z77 := fun (x : Z73) => (↑(Z74 x) : Int); let Z83 := fun (x : Z73) => Z0 - Z74 x; let Z85 := fun (t : Z73) => nat_lit 0 + Int.toNat (Z77 t); let Z88 := (Z6 = Z6 ∧ Z7 = Z7 ∧ Z5 = Z5 ∧ (nat_lit 0 = nat_lit 0 ∧ nat_lit 0 = nat_lit 0 ∧ Z4 = Z4) ∧ True) ∧ True; let Z89 := fun (t : Z73) => List.getD l (Z85 t) Z9; let Z95 := fun (t : Z73) => inM (Z89 t) Z9 (3 : Int); let Z96 := fun (t : Z73) => Value.bool (Z95 t); let Z97 := fun (t : Z73) => decide (Z77 t < Z28); Z4 < nat_lit 1000000 ∧ Z88 ∧ (Z21 ∧ True) ∧ True ∧ (Z17 = true → (Z32 = Z32 ∧ Z34 = Z34 ∧ True) ∧ True ∧ (∃ (x : Z73), (Z59 ∧ Z27 ∧ (nat_lit 0 = nat_lit 0 ∧ nat_lit 0 = nat_lit 0 ∧ Z0 = Z0) ∧ Z45 = Z45 ∧ Value.int IntKind.i64 Z9 = Value.int IntKind.i64 (Z77 x) ∧ True) ∧ True ∧ Z21 ∧ Z19 ∧ Z88) ∧ ∀ (t : Z73), (Z97 t = true → (Z9 ≤ Z77 t ∧ Z77 t < Z28) ∧ Z85 t < List.length l ∧ True ∧ (Value.int IntKind.i64 (Z89 t) = Value.int IntKind.i64 (Z89 t) ∧ True) ∧ True ∧ True ∧ (Z95 t = true → (Z96 t = Z96 t ∧ Z35 = Z35 ∧ True) ∧ True ∧ True ∧ ∃ (x : Z73), ((Z59 ∧ Z27 ∧ (nat_lit 0 = nat_lit 0 ∧ nat_lit 0 = nat_lit 0 ∧ Z0 = Z0) ∧ Z45 = Z45 ∧ Value.int IntKind.i64 (IntKind.wrap IntKind.i64 (Z77 t + Z10)) = Value.int IntKind.i64 (Z77 x) ∧ True) ∧ True ∧ Z21 ∧ Z19 ∧ Z88) ∧ Z83 x < Z83 t) ∧ (Z95 t = false → (Z96 t = Z96 t ∧ Z35 = Z35 ∧ True) ∧ True ∧ Z70 ∧ (Z68 → True ∧ Z50 ∧ Z35 = Z46 ∧ True))) ∧ (Z97 t = false → Z17 = true ∧ (lookM Z3 = true → Z88 ∧ (Z21 ∧ True) ∧ True ∧ (true = true → (Z1 = Z1 ∧ Z62) ∧ True ∧ (Z67 → True ∧ (Z27 ∧ True) ∧ True ∧ Z21 ∧ Z19 ∧ (Z20 = Z20 ∧ hardsM Z3 (nM Z3) = hardsM Z3 (nM Z3)) ∧ (Z23 = Z23 ∧ boxesM Z3 = boxesM Z3) ∧ (Z6 = Z6 ∧ Z7 = Z7 ∧ Z5 = Z5 ∧ (nat_lit 0 = nat_lit 0 ∧ nat_lit 0 = nat_lit 0 ∧ Z4 = Z4) ∧ nat_lit 0 = nat_lit 0 ∧ nat_lit 0 = nat_lit 0 ∧ True) ∧ True) ∧ (Z68 → False)) ∧ (true = false → (Z1 = Z1 ∧ Z62) ∧ True ∧ Z70 ∧ (Z68 → True ∧ Z50 ∧ Z37 = Z46 ∧ True))) ∧ (lookM Z3 = false → Z88 ∧ (Z21 ∧ True) ∧ True ∧ (false = true → (Z2 = Z2 ∧ Z62) ∧ True ∧ (Z67 → True ∧ (False ∧ True) ∧ True ∧ Z21 ∧ Z19 ∧ False ∧ False ∧ False ∧ True) ∧ (Z68 → False)) ∧ (false = false → (Z2 = Z2 ∧ Z62) ∧ True ∧ Z70 ∧ (Z68 → True ∧ Z50 ∧ Z37 = Z46 ∧ True))))) ∧ (Z17 = false → (Z32 = Z32 ∧ Z34 = Z34 ∧ True) ∧ True ∧ Z70 ∧ (Z68 → True ∧ Z50 ∧ Z34 = Z46 ∧ True)))
    (by kernel_rfl) ?_
  simp only [eq_self, true_and, and_true, Int.toNat_natCast, Nat.zero_add, Nat.sub_zero, Value.int.injEq, Value.bool.injEq, decide_eq_true_eq, decide_eq_false_iff_not]
  obtain ⟨hl1, hl2⟩ := hx
  have hl2' : l.length < 1000 := hl2
  refine ⟨hl1, fun hg => ⟨⟨⟨0, Nat.zero_le _, rfl⟩, rfl⟩, fun t => ⟨fun ht => ?_, fun ht => ⟨hg, fun hk => ?_, fun hk => ?_⟩⟩⟩, fun hg => ?_⟩
  · obtain ⟨i, hi, ha⟩ := t
    have hlt : i < l.length := by have h0 : (i : Int) < (l.length : Int) := ht; omega
    refine ⟨⟨Int.natCast_nonneg _, ht⟩, hlt, fun h => ⟨⟨i + 1, hlt, ask_suc hlt ha h⟩, sucI i (by omega), dec1 hlt⟩, fun h => ?_⟩
    rw [open_range (a := .cls) hg hlt h]
    exact ⟨fun h => absurd h (by decide), fun _ => rfl⟩
  · obtain ⟨i, hi, ha⟩ := t
    have hie : i = l.length := by have h0 : ¬ (i : Int) < (l.length : Int) := ht; omega
    rw [hie, List.take_length] at ha
    rw [open_look (a := .cls) hg ha, hk]
    exact ⟨fun _ => ⟨fun _ => trivial, fun h => absurd h (by decide)⟩, fun h => absurd h (by decide)⟩
  · obtain ⟨i, hi, ha⟩ := t
    have hie : i = l.length := by have h0 : ¬ (i : Int) < (l.length : Int) := ht; omega
    rw [hie, List.take_length] at ha
    rw [open_look (a := .cls) hg ha, hk]
    exact ⟨fun h => absurd h (by decide), fun _ => ⟨fun h => absurd h (by decide), fun _ => rfl⟩⟩
  · rw [open_arg hg]
    exact ⟨fun h => absurd h (by decide), fun _ => rfl⟩

theorem openB_sound : Sound Try.prog 32 openBS.con := FSpec2.sound _ (enter_of Try.func32 (by kernel_rfl) (by kernel_rfl)) openB_ok
end AE.Soil

namespace AE.Soil
open Go AE Go.Proofs

structure WQ where
  n : Int
  long : Int
  rise : Int
  change : Int
  from_ : Int
  to : Int
def avTri (H : Heap UU) : AV → Option (Int × Int × Int)
  | .fn (.func 56) [] [.ptr id k 0 0] => match blkAt H id k with
    | some (.cells [b, c, d, _] _) => match avInt b, avInt c, avInt d with
      | some b, some c, some d => some (b, c, d)
      | _, _, _ => none
    | some (.rc [b, c, d, _] _) => match avInt b, avInt c, avInt d with
      | some b, some c, some d => some (b, c, d)
      | _, _, _ => none
    | _ => none
  | _ => none
def spanOkM (a b : Int) : Bool := decide (a ≤ b)
def workS : FSpec UU where
  X := WQ
  pick := fun args H => match args with
    | [n, p, a, b] => match avInt n, avCell H p, avCell H a, avCell H b with
      | some n, some p, some a, some b => match avTri H p, avInt a, avInt b with
        | some (l, r, c), some a, some b => some ⟨n, l, r, c, a, b⟩
        | _, _, _ => none
      | _, _, _, _ => none
    | _ => none
  args := fun x => [.i x.n, .ptr 0 0 0 0, .ptr 1 0 0 0, .ptr 2 0 0 0]
  H := fun x => [.one (.rc [.fn (.func 56) [] [.ptr 3 0 0 0]] 74), .one (.rc [.i x.from_] 3), .one (.rc [.i x.to] 3), .one (.rc [.i x.long, .i x.rise, .i x.change, .junk] 24)]
  R := fun x => .val ⟨.b (inM x.n 0 x.long && spanOkM x.from_ x.to), [], [], []⟩
def Twork1 : Tab UU := [(56, placeS.con)]
theorem Twork1_ok : Twork1.Sound Try.prog := .cons place_sound .nil
set_option maxRecDepth 100000 in
theorem work1_ok : ∀ x, workS.pre x → FunOk Try.prog 42 (workS.args x) (workS.H x) (workS.R x) := by
  rintro ⟨n, l, r, c, a, b⟩ _
  refine fun_of (T := Twork1) (L := fun _ => none) (hs := fun _ => []) hmix Twork1_ok Try.func42 (by kernel_rfl) (by kernel_rfl) ?_
  refine Eq.mp (α :=
      let Z0 := Value.int IntKind.i64 c; let Z1 := Value.int IntKind.i64 r; let Z2 := Value.int IntKind.i64 l; let Z3 := Value.int IntKind.i64 b; let Z4 := Value.int IntKind.i64 a; let Z8 := nat_lit 0 = nat_lit 0 ∧ nat_lit 0 = nat_lit 0 ∧ nat_lit 0 = nat_lit 0; let Z9 := inM n (0 : Int) l; let Z10 := Fn.func (56 : FuncId); let Z13 := Z2 = Z2; let Z16 := Z1 = Z1; let Z20 := Z9 && spanOkM a b; let Z21 := Z0 = Z0 ∧ True ∧ True; True ∧ (Value.int IntKind.i64 n = Value.int IntKind.i64 n ∧ Z8 ∧ True) ∧ ((Z13 ∧ Z16 ∧ Z21) ∧ True) ∧ (Z9 = true → True ∧ (Value.bool (decide (a ≤ b)) = Value.bool Z20 ∧ True) ∧ True ∧ ((Z10 = Z10 ∧ True ∧ Z8 ∧ True) ∧ True) ∧ (Z4 = Z4 ∧ True) ∧ (Z3 = Z3 ∧ True) ∧ (Z13 ∧ Z16 ∧ Z21) ∧ True) ∧ (Z9 = false → True ∧ (Value.bool Z20 = Value.bool false ∧ True) ∧ True ∧ ((Z10 = Z10 ∧ True ∧ Z8 ∧ True) ∧ True) ∧ (Z4 = Z4 ∧ True) ∧ (Z3 = Z3 ∧ True) ∧ (Z13 ∧ Z16 ∧ Z21) ∧ True))
    (by kernel_rfl) ?_
  simp [spanOkM]
  exact ⟨fun h _ => h, fun h h' => by rw [h] at h'; cases h'⟩

theorem work1_sound : Sound Try.prog 42 workS.con := FSpec.sound _ (enter_of Try.func42 (by kernel_rfl) (by kernel_rfl)) work1_ok
end AE.Soil

namespace AE.Soil
open Go AE Go.Proofs

structure OC where
  g : GroundT
  l : List Int
  f : Int
  t : Int
def openCL (g : GroundT) (l : List Int) (f t : Int) : LSpec UU where
  T := { i : Nat // i ≤ l.length ∧ (l.take i).all (askM (.span (spanOkM f t)) g.long) = true }
  fr := fun i => [(1, .fn (.func 42) [] [.ptr 2 0 0 0, .ptr 3 0 0 0, .ptr 4 0 0 0]), (3, .ptr 6 0 0 0), (14, .sl 5 0 0 l.length), (15, .i l.length), (16, .i i.1)]
  H := fun _ => [.one (.ro .pit g.pits), .one (.rc (cGround g 0) 24), .one (.rc [.fn (.func 56) [] [.ptr 1 0 0 0]] 74), .one (.rc [.i f] 3), .one (.rc [.i t] 3), .one (.ro .int l), .one (.cells (cGround g 0) 24)]
  mu := fun i => l.length - i.1
def openCS : FSpec2 UU where
  X := OC
  pick := fun args H => match args with
    | [a, .fn (.func 42) [] [_, f, t], l] => match avGround H a, sliceAt .int H l, avCell H f, avCell H t with
      | some a, some l, some f, some t => match avInt f, avInt t with
        | some f, some t => some ⟨a, l, f, t⟩
        | _, _ => none
      | _, _, _, _ => none
    | _ => none
  args := fun x => [vGround x.g 0, .fn (.func 42) [] [.ptr 2 0 0 0, .ptr 3 0 0 0, .ptr 4 0 0 0], .sl 5 0 0 x.l.length]
  H := fun x => [.one (.ro .pit x.g.pits), .one (.rc (cGround x.g 0) 24), .one (.rc [.fn (.func 56) [] [.ptr 1 0 0 0]] 74), .one (.rc [.i x.f] 3), .one (.rc [.i x.t] 3), .one (.ro .int x.l)]
  c := fun x => openErrM x.g (.span (spanOkM x.f x.t)) x.l == 0
  R := fun x => .val ⟨.ptr 8 0 0 0, [], [], [.row .span (hardsM x.g (nM x.g)) 28, .row .mix (boxesM x.g) 80, .cells [.i x.g.long, .i x.g.rise, .i x.g.change, .sl 0 0 0 x.g.pits.length, .gs 6 0, .gs 7 0] 71]⟩
  R' := fun x => .panic (failV (openErrM x.g (.span (spanOkM x.f x.t)) x.l))
  pre := fun x => x.g.pits.length < 1000000 ∧ x.l.length < 1000
def TopenC : Tab UU := [(51, isGroundS.con), (50, mustS.con), (52, lookS.con), (42, workS.con)]
theorem TopenC_ok : TopenC.Sound Try.prog := .cons isGround_sound (.cons must_sound (.cons look_sound (.cons work1_sound .nil)))
set_option maxHeartbeats 0 in
set_option maxRecDepth 100000 in
theorem openC_ok : ∀ x, openCS.pre x → (openCS.c x = true → FunOk Try.prog 32 (openCS.args x) (openCS.H x) (openCS.R x)) ∧ (openCS.c x = false → FunOk Try.prog 32 (openCS.args x) (openCS.H x) (openCS.R' x)) := by
  rintro ⟨⟨long, rise, change, ps⟩, l, f, t⟩ hx
  refine fun_of2 (T := TopenC) (L := fun _ => some (.inv (openCL ⟨long, rise, change, ps⟩ l f t))) (hs := fun _ => []) (sp := fun _ => none) hmix TopenC_ok (td := fun _ => none) (fun _ _ h => by cases h) (it := fun _ => none) (fun _ _ h => by cases h) Try.func32 (by kernel_rfl) (by kernel_rfl) ?_
  refine Eq.mp (α :=
      let Z0 := spanOkM f t; let Z1 := List.length l; let Z2 := Value.bool true; let Z3 := Value.bool false; let Z4 := GroundT.mk long rise change ps; let Z5 := List.length ps; let Z6 := Value.int IntKind.i64 change; let Z7 := Value.int IntKind.i64 f; let Z8 := Value.int IntKind.i64 rise; let Z9 := Value.int IntKind.i64 t; let Z10 := Value.int IntKind.i64 long; let Z11 := Ask.span Z0; let Z12 := nat_lit 0 = nat_lit 0 ∧ nat_lit 0 = nat_lit 0; let Z13 := (0 : Int); let Z14 := (2 : Int); let Z15 := (1 : Int); let Z16 := nM Z4; let Z17 := (10 : Int); let Z18 := lookM Z4; let Z19 : List Mix3 := boxesM Z4; let Z20 := GroundT.long Z4; let Z21 := groundM Z4; let Z22 := (56 : FuncId); let Z23 := l = l; let Z24 := (28 : TypeId); let Z25 := (42 : FuncId); let Z26 := (80 : TypeId); let Z27 := ps = ps; let Z28 := (104 : TypeId); let Z29 := fun (i : Nat) => i ≤ Z1; let Z31 := nat_lit 0 = nat_lit 0 ∧ Z12; let Z32 := (↑Z1 : Int); let Z33 := Fn.func Z25; let Z35 := Value.bool Z21; let Z38 := Value.int IntKind.i64 Z15; let Z39 := Value.int IntKind.i64 Z14; let Z41 := Value.int IntKind.i64 Z17; let Z43 := Z31 ∧ True; let Z45 := Z8 = Z8; let Z47 := Z10 = Z10; let Z49 := Z6 = Z6; let Z53 := Value.int IntKind.i64 Z32; let Z54 := Z9 = Z9 ∧ True; let Z55 := openErrM Z4 Z11 l; let Z56 := Z7 = Z7 ∧ True; let Z59 := Value.int IntKind.i64 Z55; let Z60 := Z28 = Z28; let Z74 := Z41 = Z41 ∧ True; let Z76 := Z55 == Z13; let Z82 := Z76 = true; let Z84 := Z76 = false; let Z86 := (Fn.func Z22 = Fn.func Z22 ∧ True ∧ Z43) ∧ True; let Z87 := Z82 → False; let Z91 : Type := { i : Nat // Z29 i ∧ List.all (List.take i l) (askM Z11 Z20) = true }; let Z92 := fun (x : Z91) => Subtype.val x; let Z94 := fun (x : Z91) => (↑(Z92 x) : Int); let Z99 := fun (x : Z91) => Z1 - Z92 x; let Z102 := fun (t : Z91) => nat_lit 0 + Int.toNat (Z94 t); let Z103 := Z47 ∧ Z45 ∧ Z49 ∧ (nat_lit 0 = nat_lit 0 ∧ nat_lit 0 = nat_lit 0 ∧ Z5 = Z5) ∧ True; let Z105 := Z103 ∧ True; let Z107 := fun (t : Z91) => List.getD l (Z102 t) Z13; let Z109 := fun (t : Z91) => inM (Z107 t) Z13 long; let Z112 := fun (t : Z91) => Value.bool (Z109 t && Z0); let Z115 := fun (t_1 : Z91) => decide (Z94 t_1 < Z32); Z5 < nat_lit 1000000 ∧ Z105 ∧ (Z27 ∧ True) ∧ True ∧ (Z21 = true → (Z35 = Z35 ∧ Z38 = Z38 ∧ True) ∧ True ∧ (∃ (x : Z91), ((Z33 = Z33 ∧ True ∧ Z31 ∧ Z31 ∧ Z43) ∧ Z31 ∧ (nat_lit 0 = nat_lit 0 ∧ nat_lit 0 = nat_lit 0 ∧ Z1 = Z1) ∧ Z53 = Z53 ∧ Value.int IntKind.i64 Z13 = Value.int IntKind.i64 (Z94 x) ∧ True) ∧ True ∧ Z27 ∧ Z103 ∧ Z86 ∧ Z56 ∧ Z54 ∧ Z23 ∧ Z105) ∧ ∀ (t_1 : Z91), (Z115 t_1 = true → (Z13 ≤ Z94 t_1 ∧ Z94 t_1 < Z32) ∧ Z102 t_1 < List.length l ∧ True ∧ (Value.int IntKind.i64 (Z107 t_1) = Value.int IntKind.i64 (Z107 t_1) ∧ Z31 ∧ Z31 ∧ Z43) ∧ (Z86 ∧ Z56 ∧ Z54 ∧ (Z47 ∧ Z45 ∧ Z49 ∧ True ∧ True) ∧ True) ∧ True ∧ ((Z109 t_1 && Z0) = true → (Z112 t_1 = Z112 t_1 ∧ Z39 = Z39 ∧ True) ∧ True ∧ True ∧ ∃ (x : Z91), (((Z33 = Z33 ∧ True ∧ Z31 ∧ Z31 ∧ Z43) ∧ Z31 ∧ (nat_lit 0 = nat_lit 0 ∧ nat_lit 0 = nat_lit 0 ∧ Z1 = Z1) ∧ Z53 = Z53 ∧ Value.int IntKind.i64 (IntKind.wrap IntKind.i64 (Z94 t_1 + Z15)) = Value.int IntKind.i64 (Z94 x) ∧ True) ∧ True ∧ Z27 ∧ Z103 ∧ Z86 ∧ Z56 ∧ Z54 ∧ Z23 ∧ Z105) ∧ Z99 x < Z99 t_1) ∧ ((Z109 t_1 && Z0) = false → (Z112 t_1 = Z112 t_1 ∧ Z39 = Z39 ∧ True) ∧ True ∧ Z87 ∧ (Z84 → True ∧ Z60 ∧ Z39 = Z59 ∧ True))) ∧ (Z115 t_1 = false → Z21 = true ∧ (Z18 = true → Z105 ∧ (Z27 ∧ True) ∧ True ∧ (true = true → (Z2 = Z2 ∧ Z74) ∧ True ∧ (Z82 → True ∧ Z43 ∧ True ∧ Z27 ∧ Z103 ∧ Z86 ∧ Z56 ∧ Z54 ∧ Z23 ∧ (Z24 = Z24 ∧ hardsM Z4 Z16 = hardsM Z4 Z16) ∧ (Z26 = Z26 ∧ Z19 = Z19) ∧ (Z47 ∧ Z45 ∧ Z49 ∧ (nat_lit 0 = nat_lit 0 ∧ nat_lit 0 = nat_lit 0 ∧ Z5 = Z5) ∧ nat_lit 0 = nat_lit 0 ∧ nat_lit 0 = nat_lit 0 ∧ True) ∧ True) ∧ (Z84 → False)) ∧ (true = false → (Z2 = Z2 ∧ Z74) ∧ True ∧ Z87 ∧ (Z84 → True ∧ Z60 ∧ Z41 = Z59 ∧ True))) ∧ (Z18 = false → Z105 ∧ (Z27 ∧ True) ∧ True ∧ (false = true → (Z3 = Z3 ∧ Z74) ∧ True ∧ (Z82 → True ∧ (False ∧ True) ∧ True ∧ Z27 ∧ Z103 ∧ Z86 ∧ Z56 ∧ Z54 ∧ Z23 ∧ False ∧ False ∧ False ∧ True) ∧ (Z84 → False)) ∧ (false = false → (Z3 = Z3 ∧ Z74) ∧ True ∧ Z87 ∧ (Z84 → True ∧ Z60 ∧ Z41 = Z59 ∧ True))))) ∧ (Z21 = false → (Z35 = Z35 ∧ Z38 = Z38 ∧ True) ∧ True ∧ Z87 ∧ (Z84 → True ∧ Z60 ∧ Z38 = Z59 ∧ True)))
    (by kernel_rfl) ?_
  simp only [eq_self, true_and, and_true, Int.toNat_natCast, Nat.zero_add, Nat.sub_zero, Value.int.injEq, Value.bool.injEq, decide_eq_true_eq, decide_eq_false_iff_not]
  obtain ⟨hl1, hl2⟩ := hx
  have hl2' : l.length < 1000 := hl2
  refine ⟨hl1, fun hg => ⟨⟨⟨0, Nat.zero_le _, rfl⟩, rfl⟩, fun tt => ⟨fun ht => ?_, fun ht => ⟨hg, fun hk => ?_, fun hk => ?_⟩⟩⟩, fun hg => ?_⟩
  · obtain ⟨i, hi, ha⟩ := tt
    have hlt : i < l.length := by have h0 : (i : Int) < (l.length : Int) := ht; omega
    refine ⟨⟨Int.natCast_nonneg _, ht⟩, hlt, fun h => ⟨⟨i + 1, hlt, ask_suc hlt ha h⟩, sucI i (by omega), dec1 hlt⟩, fun h => ?_⟩
    rw [open_range (a := .span (spanOkM f t)) hg hlt h]
    exact ⟨fun h => absurd h (by decide), fun _ => rfl⟩
  · obtain ⟨i, hi, ha⟩ := tt
    have hie : i = l.length := by have h0 : ¬ (i : Int) < (l.length : Int) := ht; omega
    rw [hie, List.take_length] at ha
    rw [open_look (a := .span (spanOkM f t)) hg ha, hk]
    exact ⟨fun _ => ⟨fun _ => trivial, fun h => absurd h (by decide)⟩, fun h => absurd h (by decide)⟩
  · obtain ⟨i, hi, ha⟩ := tt
    have hie : i = l.length := by have h0 : ¬ (i : Int) < (l.length : Int) := ht; omega
    rw [hie, List.take_length] at ha
    rw [open_look (a := .span (spanOkM f t)) hg ha, hk]
    exact ⟨fun h => absurd h (by decide), fun _ => ⟨fun h => absurd h (by decide), fun _ => rfl⟩⟩
  · rw [open_arg hg]
    exact ⟨fun h => absurd h (by decide), fun _ => rfl⟩

theorem openC_sound : Sound Try.prog 32 openCS.con := FSpec2.sound _ (enter_of Try.func32 (by kernel_rfl) (by kernel_rfl)) openC_ok
end AE.Soil

namespace AE.Soil
open Go AE Go.Proofs

def workNM (a b : Int) : Nat := (W (b + 1)).toNat - a.toNat
def workAtM (g : GroundT) (a : Int) : Nat → Span
  | 0 => (0, 0)
  | i + 1 => (W ((workAtM g a i).1 + ((hardsM g (nM g)).getD (a.toNat + i) (0, 0)).1), W ((workAtM g a i).2 + ((hardsM g (nM g)).getD (a.toNat + i) (0, 0)).2))
def workErrM (g : GroundT) (a b : Int) : Int := openErrM g (.span (spanOkM a b)) [a, b]
def workOM (g : GroundT) (a b : Int) : Span × Int := if workErrM g a b == 0 then (workAtM g a (workNM a b), 0) else ((0, 0), workErrM g a b)
def workL (g : GroundT) (a b : Int) : LSpec UU where
  T := { i : Nat // i ≤ workNM a b }
  fr := fun i => [(6, .ptr 4 0 0 0), (7, .ptr 5 0 0 0), (27, .sl 9 0 a.toNat (workNM a b)), (28, .i (workNM a b : Nat)), (29, .i i.1)]
  H := fun i => [.one (.ro .pit g.pits), .none, .none, .none, .one (.cells [.i (workAtM g a i.1).1, .i (workAtM g a i.1).2] 28), .one (.cells [.i 0] 29), .none, .none, .none, .one (.row .span (hardsM g (nM g)) 28)]
  mu := fun i => workNM a b - i.1
def Twork : Tab UU := [(33, isPlaceS.con), (32, openCS.con)]
theorem Twork_ok : Twork.Sound Try.prog := .cons isPlace_sound (.cons openC_sound .nil)
def workOS : FSpec UU where
  X := GroundT × Int × Int
  pick := fun args H => match args with
    | [a, b, c] => match avGround H a, avInt b, avInt c with
      | some a, some b, some c => some (a, b, c)
      | _, _, _ => none
    | _ => none
  args := fun x => [vGround x.1 0, .i x.2.1, .i x.2.2]
  H := fun x => [.one (.ro .pit x.1.pits)]
  R := fun x => .val ⟨.tup [vSpan (workOM x.1 x.2.1 x.2.2).1, .i (workOM x.1 x.2.1 x.2.2).2], [], [], []⟩
  pre := fun x => x.1.pits.length < 1000000
set_option maxHeartbeats 0 in
set_option maxRecDepth 100000 in
theorem workO_ok : ∀ x, workOS.pre x → FunOk Try.prog 15 (workOS.args x) (workOS.H x) (workOS.R x) := by
  rintro ⟨⟨long, rise, change, ps⟩, a, b⟩ hx
  refine fun_ofT (T := Twork) (L := fun _ => some (.inv (workL ⟨long, rise, change, ps⟩ a b))) (hs := fun _ => []) (sp := fun _ => none) hmix Twork_ok (tdAt_ok told_ok) (it := fun _ => none) (fun _ _ h => by cases h) Try.func15 (by kernel_rfl) (by kernel_rfl) ?_
  refine Eq.mp (α :=
      let Z0 := Int.toNat a; let Z1 := workNM a b; let Z2 := spanOkM a b; let Z3 := GroundT.mk long rise change ps; let Z4 := Value.int IntKind.i64 a; let Z5 := List.length ps; let Z6 := Value.int IntKind.i64 long; let Z7 := Value.int IntKind.i64 b; let Z8 := Value.int IntKind.i64 rise; let Z9 := Value.int IntKind.i64 change; let Z10 := Ask.span Z2; let Z11 := nat_lit 0 = nat_lit 0 ∧ nat_lit 2 = nat_lit 2; let Z12 := nat_lit 0 = nat_lit 0 ∧ nat_lit 0 = nat_lit 0; let Z13 := (0 : Int); let Z14 := (1 : Int); let Z15 := AV.v Z7; let Z16 := AV.v Z4; let Z17 := nM Z3; let Z18 : List Int := []; let Z19 := (8 : Nat); let Z20 := (5 : Nat); let Z21 := (42 : FuncId); let Z22 := (28 : TypeId); let Z23 := ps = ps; let Z24 := (56 : FuncId); let Z25 := fun (i : Nat) => i ≤ Z1; let Z26 := workOM Z3 a b; let Z27 := (↑Z1 : Int); let Z28 := nat_lit 0 = nat_lit 0 ∧ Z12; let Z29 := nat_lit 0 = nat_lit 0 ∧ Z11; let Z30 := AV.ptr Z20 (nat_lit 0) (nat_lit 0) (nat_lit 0); let Z31 := Fn.func Z24; let Z34 := Value.int IntKind.i64 Z13; let Z35 := Z28 ∧ True; let Z43 : Type := { i : Nat // Z25 i }; let Z45 := Prod.fst Z26; let Z46 := Fn.func (nat_lit 42) = Fn.func Z21; let Z49 := Value.int IntKind.i64 Z27; let Z51 : List Span := hardsM Z3 Z17; let Z54 := fun (x : Z43) => Subtype.val x; let Z63 := Value.int IntKind.i64 (Prod.snd Z26); let Z66 := fun (x : Z43) => (↑(Z54 x) : Int); let Z69 := List.length Z51; let Z70 := Value.int IntKind.i64 (Prod.snd Z45); let Z71 : List Int := a :: b :: Z18; let Z72 := Value.int IntKind.i64 (Prod.fst Z45); let Z73 := IntKind.wrap IntKind.i64 (b + Z14); let Z77 := fun (x : Z43) => workAtM Z3 a (Z54 x); let Z85 := fun (x : Z43) => Z1 - Z54 x; let Z86 : List DfE := [DfE.call (Fn.func (nat_lit 31)) [] [Z30]]; let Z88 := fun (x : Z43) => Value.int IntKind.i64 (Prod.snd (Z77 x)); let Z89 := fun (x : Z43) => Value.int IntKind.i64 (Prod.fst (Z77 x)); let Z93 := fun (t : Z43) => Z0 + Int.toNat (Z66 t); let Z94 := Z51 = Z51; let Z95 := openErrM Z3 Z10 Z71; let Z98 := Int.toNat Z73 - Z0; let Z101 := Z71 = Z71; let Z104 := Z95 == Z13; let Z109 := Z6 = Z6 ∧ Z8 = Z8 ∧ Z9 = Z9 ∧ (nat_lit 0 = nat_lit 0 ∧ nat_lit 0 = nat_lit 0 ∧ Z5 = Z5) ∧ True; let Z112 := fun (t : Z43) => decide (Z66 t < Z27); let Z113 := fun (t : Z43) => List.getD Z51 (Z93 t) (Z13, Z13); True ∧ (Z109 ∧ True) ∧ (Z23 ∧ True) ∧ (nat_lit 2 = nat_lit 2 ∧ Z16 = Z16 ∧ Z15 = Z15 ∧ True) ∧ (Z5 < nat_lit 1000000 ∧ nat_lit 2 < nat_lit 1000) ∧ (Z104 = true → (Z109 ∧ (Z46 ∧ True ∧ Z28 ∧ Z28 ∧ Z35) ∧ (Z19 = Z19 ∧ Z29) ∧ True) ∧ (Z23 ∧ Z109 ∧ ((Z31 = Z31 ∧ True ∧ Z35) ∧ True) ∧ (Z4 = Z4 ∧ True) ∧ (Z7 = Z7 ∧ True) ∧ Z101 ∧ True) ∧ (Z13 ≤ a ∧ a ≤ Z73 ∧ Z73 ≤ (↑Z69 : Int)) ∧ (∃ (x : Z43), (Z28 ∧ Z28 ∧ (nat_lit 0 = nat_lit 0 ∧ nat_lit 0 + Z0 = Z0 ∧ Z98 = Z1) ∧ Value.int IntKind.i64 (↑Z98 : Int) = Z49 ∧ Z34 = Value.int IntKind.i64 (Z66 x) ∧ True) ∧ (True ∧ Z35 ∧ True) ∧ Z23 ∧ True ∧ True ∧ True ∧ (Z34 = Z89 x ∧ Z34 = Z88 x ∧ True) ∧ (Z34 = Z34 ∧ True) ∧ True ∧ True ∧ True ∧ (Z22 = Z22 ∧ Z94) ∧ True) ∧ ∀ (t : Z43), (Z112 t = true → (Z13 ≤ Z66 t ∧ Z66 t < Z27) ∧ Z93 t < Z69 ∧ Z86 = Z86 ∧ ∃ (x : Z43), ((Z28 ∧ Z28 ∧ (nat_lit 0 = nat_lit 0 ∧ Z0 = Z0 ∧ Z1 = Z1) ∧ Z49 = Z49 ∧ Value.int IntKind.i64 (IntKind.wrap IntKind.i64 (Z66 t + Z14)) = Value.int IntKind.i64 (Z66 x) ∧ True) ∧ (True ∧ Z35 ∧ True) ∧ Z23 ∧ True ∧ True ∧ True ∧ (Value.int IntKind.i64 (IntKind.wrap IntKind.i64 (Prod.fst (Z77 t) + Prod.fst (Z113 t))) = Z89 x ∧ Value.int IntKind.i64 (IntKind.wrap IntKind.i64 (Prod.snd (Z77 t) + Prod.snd (Z113 t))) = Z88 x ∧ True) ∧ (Z34 = Z34 ∧ True) ∧ True ∧ True ∧ True ∧ (Z22 = Z22 ∧ Z94) ∧ True) ∧ Z85 x < Z85 t) ∧ (Z112 t = false → (true = true → True ∧ True ∧ (((Z89 t = Z72 ∧ Z88 t = Z70 ∧ True) ∧ Z34 = Z63 ∧ True) ∧ True) ∧ True ∧ Z23 ∧ True) ∧ (true = false → False))) ∧ (Z104 = false → (Z109 ∧ (Z46 ∧ True ∧ Z28 ∧ Z28 ∧ Z35) ∧ (Z19 = Z19 ∧ Z29) ∧ True) ∧ (Z23 ∧ Z109 ∧ ((Z31 = Z31 ∧ True ∧ Z35) ∧ True) ∧ (Z4 = Z4 ∧ True) ∧ (Z7 = Z7 ∧ True) ∧ Z101 ∧ True) ∧ True ∧ True ∧ (((Z34 = Z72 ∧ Z34 = Z70 ∧ True) ∧ Value.int IntKind.i64 Z95 = Z63 ∧ True) ∧ True) ∧ True ∧ Z23 ∧ True))
    (by kernel_rfl) ?_
  simp only [eq_self, true_and, and_true, Int.toNat_natCast, Nat.zero_add, Nat.sub_zero, Value.int.injEq, Value.bool.injEq, decide_eq_true_eq, decide_eq_false_iff_not]
  refine ⟨⟨hx, by decide⟩, fun h => ?_, fun h => ?_⟩
  · obtain ⟨hg, ha, _⟩ := open_ok h
    obtain ⟨n0, n1, n2⟩ := n_ok (ground_ok hg)
    have hl := hards_len ⟨long, rise, change, ps⟩ (nM ⟨long, rise, change, ps⟩)
    simp only [List.all_cons, List.all_nil, Bool.and_true, Bool.and_eq_true, askM, inM_iff, spanOkM, decide_eq_true_eq] at ha
    obtain ⟨⟨⟨a0, a1⟩, a2⟩, ⟨b0, b1⟩, _⟩ := ha
    have n0' : ((nM ⟨long, rise, change, ps⟩ : Nat) : Int) = long + 1 := n0
    have b1' : b ≤ long := b1
    have hw : IntKind.i64.wrap (b + 1) = b + 1 := wrap_id (by omega) (by omega)
    have hn : workNM a b = (b + 1).toNat - a.toNat := by unfold workNM; rw [show W (b + 1) = b + 1 from hw]
    have e : workOM ⟨long, rise, change, ps⟩ a b = (workAtM ⟨long, rise, change, ps⟩ a (workNM a b), 0) := by unfold workOM workErrM; rw [h]; rfl
    simp only [hw, e]
    refine ⟨⟨a0, by omega, by omega⟩, ⟨⟨0, Nat.zero_le _⟩, ⟨hn.symm, by rw [hn], rfl⟩, rfl, rfl⟩, fun t => ⟨fun ht => ?_, fun ht => ?_⟩⟩
    · obtain ⟨i, hi⟩ := t
      have hlt : i < workNM a b := by have h0 : (i : Int) < (workNM a b : Int) := ht; omega
      exact ⟨⟨Int.natCast_nonneg _, ht⟩, by show a.toNat + i < _; omega, ⟨i + 1, hlt⟩, ⟨sucI i (by omega), rfl, rfl⟩, dec1 hlt⟩
    · obtain ⟨i, hi⟩ := t
      have hie : i = workNM a b := by have h0 : ¬ (i : Int) < (workNM a b : Int) := ht; omega
      subst hie
      exact ⟨fun _ => ⟨⟨rfl, rfl⟩, trivial⟩, fun h => absurd h (by decide)⟩
  · have e : workOM ⟨long, rise, change, ps⟩ a b = ((0, 0), workErrM ⟨long, rise, change, ps⟩ a b) := by unfold workOM workErrM; rw [h]; rfl
    rw [e]; exact ⟨⟨rfl, rfl⟩, rfl⟩

theorem workO_sound : Sound Try.prog 15 workOS.con := FSpec.sound _ (enter_of Try.func15 (by kernel_rfl) (by kernel_rfl)) workO_ok
end AE.Soil

namespace AE.Soil
open Go AE Go.Proofs

def digStepM (i : Int) (s : Span) (p : Int × Int) : Int × Int := if W (s.2 - s.1) > p.2 then (i, W (s.2 - s.1)) else p
def digAtM (l : List Span) : Nat → Int × Int
  | 0 => (0, -1)
  | i + 1 => digStepM i (l.getD i (0, 0)) (digAtM l i)
theorem dig_yes {l : List Span} {i : Nat} (h : W ((l.getD i (0, 0)).2 - (l.getD i (0, 0)).1) > (digAtM l i).2) : digAtM l (i + 1) = ((i : Int), W ((l.getD i (0, 0)).2 - (l.getD i (0, 0)).1)) := if_pos h
theorem dig_no {l : List Span} {i : Nat} (h : ¬ W ((l.getD i (0, 0)).2 - (l.getD i (0, 0)).1) > (digAtM l i).2) : digAtM l (i + 1) = digAtM l i := if_neg h
def digErrM (g : GroundT) : Int := openErrM g .place []
def digOM (g : GroundT) : Int × Int × Int := if digErrM g == 0 then ((digAtM (hardsM g (nM g)) (nM g)).1, (digAtM (hardsM g (nM g)) (nM g)).2, 0) else (0, 0, digErrM g)
def digL (g : GroundT) : LSpec UU where
  T := { i : Nat // i ≤ nM g }
  fr := fun i => [(2, .i (digAtM (hardsM g (nM g)) i.1).1), (3, .i (digAtM (hardsM g (nM g)) i.1).2), (4, .ptr 2 0 0 0), (15, .gs 4 0), (16, .i (nM g : Nat)), (17, .i i.1)]
  H := fun _ => [.one (.ro .pit g.pits), .none, .one (.cells [.i 0] 29), .none, .one (.row .span (hardsM g (nM g)) 28)]
  mu := fun i => nM g - i.1
def digOS : FSpec UU where
  X := GroundT
  pick := fun args H => match args with
    | [a] => avGround H a
    | _ => none
  args := fun (x : GroundT) => [vGround x 0]
  H := fun (x : GroundT) => [.one (.ro .pit x.pits)]
  R := fun (x : GroundT) => .val ⟨.tup [.i (digOM x).1, .i (digOM x).2.1, .i (digOM x).2.2], [], [], []⟩
  pre := fun (x : GroundT) => x.pits.length < 1000000
set_option maxHeartbeats 0 in
set_option maxRecDepth 100000 in
theorem digO_ok : ∀ x, digOS.pre x → FunOk Try.prog 29 (digOS.args x) (digOS.H x) (digOS.R x) := by
  rintro ⟨long, rise, change, ps⟩ hx
  refine fun_ofT (T := Tq) (L := fun _ => some (.inv (digL ⟨long, rise, change, ps⟩))) (hs := fun _ => []) (sp := fun _ => none) hmix Tq_ok (tdAt_ok told_ok) (it := fun _ => none) (fun _ _ h => by cases h) Try.func29 (by kernel_rfl) (by kernel_rfl) ?_
  refine Eq.mp (α :=
      let Z0 : List DfE := []; let Z1 := True ∧ True; let Z2 := nat_lit 0 = nat_lit 0 ∧ True; let Z3 := GroundT.mk long rise change ps; let Z4 : List (CC.ty CC.int) := []; let Z5 := True ∧ Z1; let Z6 := Value.int IntKind.i64 change; let Z7 := Value.int IntKind.i64 long; let Z8 := Value.int IntKind.i64 rise; let Z9 := List.length ps; let Z10 := nat_lit 0 = nat_lit 0 ∧ nat_lit 0 = nat_lit 0; let Z11 := (0 : Int); let Z12 := (1 : Int); let Z13 := nM Z3; let Z14 : List Int := []; let Z15 := (2 : Nat); let Z16 := digOM Z3; let Z17 := True ∧ Z5; let Z18 := ps = ps; let Z20 := (28 : TypeId); let Z21 := True ∧ Z17; let Z22 := nat_lit 0 = nat_lit 0 ∧ Z10; let Z24 := Fn.func (56 : FuncId); let Z27 := Value.int IntKind.i64 Z11; let Z29 := Z22 ∧ True; let Z34 := (↑Z13 : Int); let Z37 := Prod.snd Z16; let Z40 : List Span := hardsM Z3 Z13; let Z41 := openErrM Z3 Ask.place Z4; let Z45 : Type := { i : Nat // i ≤ Z13 }; let Z49 := Value.int IntKind.i64 Z34; let Z50 := fun (x : Z45) => Subtype.val x; let Z51 := Value.int IntKind.i64 (Prod.fst Z16); let Z52 := Z20 = Z20; let Z53 := Z4 = Z14; let Z56 := Value.int IntKind.i64 (Prod.snd Z37); let Z57 := Value.int IntKind.i64 (Prod.fst Z37); let Z61 := List.length Z40; let Z63 := fun (x : Z45) => (↑(Z50 x) : Int); let Z64 := Z27 = Z27; let Z67 := (↑Z61 : Int); let Z68 := fun (x : Z45) => Value.int IntKind.i64 (Z63 x); let Z69 : List DfE := DfE.call (Fn.func (nat_lit 31)) [] [AV.ptr Z15 (nat_lit 0) (nat_lit 0) (nat_lit 0)] :: Z0; let Z71 := Z41 == Z11; let Z73 := fun (x : Z45) => Z13 - Z50 x; let Z74 := fun (x : Z45) => digAtM Z40 (Z50 x); let Z76 := Z40 = Z40; let Z77 := fun (t : Z45) => nat_lit 0 + Int.toNat (Z63 t); let Z82 := fun (t : Z45) => Z63 t + Z12; let Z85 := fun (x : Z45) => Value.int IntKind.i64 (Prod.snd (Z74 x)); let Z86 := fun (x : Z45) => Value.int IntKind.i64 (Prod.fst (Z74 x)); let Z94 := Z7 = Z7 ∧ Z8 = Z8 ∧ Z6 = Z6 ∧ (nat_lit 0 = nat_lit 0 ∧ nat_lit 0 = nat_lit 0 ∧ Z9 = Z9) ∧ True; let Z97 := fun (t : Z45) => List.getD Z40 (Z77 t) (Z11, Z11); let Z103 := fun (t : Z45) => decide (Z63 t < Z34); let Z112 := fun (t : Z45) => Prod.snd (Z97 t) - Prod.fst (Z97 t); let Z115 := fun (t : Z45) => decide (IntKind.wrap IntKind.i64 (Z112 t) > Prod.snd (Z74 t)); True ∧ (Z94 ∧ True) ∧ (Z18 ∧ True) ∧ (Z9 < nat_lit 1000000 ∧ nat_lit 0 < nat_lit 1000) ∧ (Z71 = true → (Z21 ∧ Z5 ∧ Z2) ∧ (True ∧ Z21 ∧ Z53 ∧ True) ∧ (Z94 ∧ (Z24 = Z24 ∧ True ∧ Z29) ∧ Z2) ∧ (Z18 ∧ Z94 ∧ Z1) ∧ (∃ (x : Z45), (Z27 = Z86 x ∧ Value.int IntKind.i64 (-Z12) = Z85 x ∧ Z22 ∧ nat_lit 0 = nat_lit 0 ∧ Value.int IntKind.i64 Z67 = Z49 ∧ Z27 = Z68 x ∧ True) ∧ (True ∧ Z29 ∧ True) ∧ Z18 ∧ True ∧ (Z64 ∧ True) ∧ True ∧ (Z52 ∧ Z76) ∧ True) ∧ ∀ (t : Z45), (Z103 t = true → (Z11 ≤ Z63 t ∧ Z63 t < Z67) ∧ Z77 t < Z61 ∧ (Z115 t = true → Z69 = Z69 ∧ ∃ (x : Z45), ((Z68 t = Z86 x ∧ Value.int IntKind.i64 (IntKind.wrap IntKind.i64 (Z112 t)) = Z85 x ∧ Z22 ∧ nat_lit 0 = nat_lit 0 ∧ Z49 = Z49 ∧ Value.int IntKind.i64 (IntKind.wrap IntKind.i64 (Z82 t)) = Z68 x ∧ True) ∧ (True ∧ Z29 ∧ True) ∧ Z18 ∧ True ∧ (Z64 ∧ True) ∧ True ∧ (Z52 ∧ Z76) ∧ True) ∧ Z73 x < Z73 t) ∧ (Z115 t = false → Z69 = Z69 ∧ ∃ (x : Z45), ((Z86 t = Z86 x ∧ Z85 t = Z85 x ∧ Z22 ∧ nat_lit 0 = nat_lit 0 ∧ Z49 = Z49 ∧ Value.int IntKind.i64 (IntKind.wrap IntKind.i64 (Z82 t)) = Z68 x ∧ True) ∧ (True ∧ Z29 ∧ True) ∧ Z18 ∧ True ∧ (Z64 ∧ True) ∧ True ∧ (Z52 ∧ Z76) ∧ True) ∧ Z73 x < Z73 t)) ∧ (Z103 t = false → (true = true → True ∧ True ∧ ((Z86 t = Z51 ∧ Z85 t = Z57 ∧ Z27 = Z56 ∧ True) ∧ True) ∧ True ∧ Z18 ∧ True) ∧ (true = false → False))) ∧ (Z71 = false → (Z21 ∧ Z5 ∧ Z2) ∧ (True ∧ Z21 ∧ Z53 ∧ True) ∧ (true && true && true) = true ∧ (Z94 ∧ (Z24 = Z24 ∧ True ∧ Z29) ∧ Z2) ∧ (Z18 ∧ Z94 ∧ Z1) ∧ True ∧ True ∧ ((Z27 = Z51 ∧ Z27 = Z57 ∧ Value.int IntKind.i64 Z41 = Z56 ∧ True) ∧ True) ∧ True ∧ Z18 ∧ True))
    (by kernel_rfl) ?_
  simp only [eq_self, true_and, and_true, Int.toNat_natCast, Nat.zero_add, Nat.sub_zero, Value.int.injEq, Value.bool.injEq, decide_eq_true_eq, decide_eq_false_iff_not]
  refine ⟨⟨hx, by decide⟩, fun h => ?_, fun h => ?_⟩
  · obtain ⟨n0, n1, n2⟩ := n_ok (ground_ok (open_ok h).1)
    have hl := hards_len ⟨long, rise, change, ps⟩ (nM ⟨long, rise, change, ps⟩)
    have e : digOM ⟨long, rise, change, ps⟩ = ((digAtM (hardsM ⟨long, rise, change, ps⟩ (nM ⟨long, rise, change, ps⟩)) (nM ⟨long, rise, change, ps⟩)).1, (digAtM (hardsM ⟨long, rise, change, ps⟩ (nM ⟨long, rise, change, ps⟩)) (nM ⟨long, rise, change, ps⟩)).2, 0) := by
      have h' : (digErrM ⟨long, rise, change, ps⟩ == 0) = true := h
      unfold digOM; rw [h']; rfl
    rw [e, hl]
    clear e hx h
    revert hl
    generalize hardsM ⟨long, rise, change, ps⟩ (nM ⟨long, rise, change, ps⟩) = l
    revert n0 n1 n2
    generalize nM ⟨long, rise, change, ps⟩ = n
    intro n0 n1 n2 hl
    refine ⟨rfl, ⟨⟨0, Nat.zero_le _⟩, rfl, rfl, rfl, rfl⟩, fun t => ⟨fun ht => ?_, fun ht => ?_⟩⟩
    · obtain ⟨i, hi⟩ := t
      have hlt : i < n := by have h0 : (i : Int) < (n : Int) := ht; omega
      refine ⟨⟨Int.natCast_nonneg _, ht⟩, by show i < n; omega, fun hy => ⟨⟨i + 1, hlt⟩, ?_, dec1 hlt⟩, fun hy => ⟨⟨i + 1, hlt⟩, ?_, dec1 hlt⟩⟩
      · have := dig_yes (l := l) (i := i) hy
        refine ⟨?_, ?_, sucI i (by omega)⟩
        · exact (congrArg Prod.fst this).symm
        · exact (congrArg Prod.snd this).symm
      · have := dig_no (l := l) (i := i) hy
        refine ⟨?_, ?_, sucI i (by omega)⟩
        · exact (congrArg Prod.fst this).symm
        · exact (congrArg Prod.snd this).symm
    · obtain ⟨i, hi⟩ := t
      have hie : i = n := by have h0 : ¬ (i : Int) < (n : Int) := ht; omega
      subst hie
      exact ⟨fun _ => ⟨rfl, rfl, rfl⟩, fun h => absurd h (by decide)⟩
  · have e : digOM ⟨long, rise, change, ps⟩ = (0, 0, digErrM ⟨long, rise, change, ps⟩) := by
      have h' : (digErrM ⟨long, rise, change, ps⟩ == 0) = false := h
      unfold digOM; rw [h']; rfl
    rw [e]; exact ⟨rfl, rfl, rfl, rfl, rfl⟩

theorem digO_sound : Sound Try.prog 29 digOS.con := FSpec.sound _ (enter_of Try.func29 (by kernel_rfl) (by kernel_rfl)) digO_ok
end AE.Soil

namespace AE.Soil
open Go AE Go.Proofs

def strStepM (c n : Int) (k : Int) (p : Int × Int × Int) : Int × Int × Int := if c = W (1 * 2 ^ n.toNat) then (if W (k - p.2.2) > W (p.2.1 - p.1) then (p.2.2, k, p.2.2) else p) else (p.1, p.2.1, W (k + 1))
def strAtM (l : List Mix3) (n : Int) : Nat → Int × Int × Int
  | 0 => (0, -1, 0)
  | k + 1 => strStepM (classesM (l.getD k m0)) n k (strAtM l n k)
theorem str_no {l : List Mix3} {n : Int} {k : Nat} (h : ¬ classesM (l.getD k m0) = W (1 * 2 ^ n.toNat)) : strAtM l n (k + 1) = ((strAtM l n k).1, (strAtM l n k).2.1, W ((k : Int) + 1)) := if_neg h
theorem str_new {l : List Mix3} {n : Int} {k : Nat} (h : classesM (l.getD k m0) = W (1 * 2 ^ n.toNat)) (h2 : W ((k : Int) - (strAtM l n k).2.2) > W ((strAtM l n k).2.1 - (strAtM l n k).1)) : strAtM l n (k + 1) = ((strAtM l n k).2.2, (k : Int), (strAtM l n k).2.2) := (if_pos h).trans (if_pos h2)
theorem str_old {l : List Mix3} {n : Int} {k : Nat} (h : classesM (l.getD k m0) = W (1 * 2 ^ n.toNat)) (h2 : ¬ W ((k : Int) - (strAtM l n k).2.2) > W ((strAtM l n k).2.1 - (strAtM l n k).1)) : strAtM l n (k + 1) = strAtM l n k := (if_pos h).trans (if_neg h2)
def strErrM (g : GroundT) (n : Int) : Int := openErrM g .cls [n]
def strEndM (l : List Mix3) (n : Int) (k : Nat) : Int × Int × Int := if (strAtM l n k).2.1 ≥ 0 then ((strAtM l n k).1, (strAtM l n k).2.1, 0) else (0, 0, 4)
def strOM (g : GroundT) (n : Int) : Int × Int × Int := if strErrM g n == 0 then strEndM (boxesM g) n (nM g) else (0, 0, strErrM g n)
def strI (g : GroundT) (n : Int) (l : Nat) : LSpec UU where
  T := { k : Nat // k ≤ nM g }
  fr := fun k => itFr l 12 13 ++ [(10, .i (nM g : Nat)), (11, .i k.1)]
  H := fun k => [.one (.ro .pit g.pits), .none, .one (.cells [.i n] 3), .one (.cells [.i 0] 29), .none, .one (.row .span (hardsM g (nM g)) 28), .one (.row .mix (boxesM g) 80), .one (.cells [.i g.long, .i g.rise, .i g.change, .sl 0 0 0 g.pits.length, .gs 5 0, .gs 6 0] 71), .one (.cells [.ptr 7 0 0 0] 72), .one (.cells [.i (strAtM (boxesM g) n k.1).1] 3), .one (.cells [.i (strAtM (boxesM g) n k.1).2.1] 3), .one (.cells [.i (strAtM (boxesM g) n k.1).2.2] 3), .one (.cells [.ptr 7 0 0 0] 72), ffCell]
  mu := fun k => nM g - k.1
def Tstr : Tab UU := [(32, openBS.con), (49, placesS.con), (40, classesS.con), (50, mustS.con)]
theorem Tstr_ok : Tstr.Sound Try.prog := .cons openB_sound (.cons places_sound (.cons classes_sound (.cons must_sound .nil)))
def strOS : FSpec UU where
  X := GroundT × Int
  pick := fun args H => match args with
    | [a, b] => match avGround H a, avInt b with
      | some a, some b => some (a, b)
      | _, _ => none
    | _ => none
  args := fun x => [vGround x.1 0, .i x.2]
  H := fun x => [.one (.ro .pit x.1.pits)]
  R := fun x => .val ⟨.tup [.i (strOM x.1 x.2).1, .i (strOM x.1 x.2).2.1, .i (strOM x.1 x.2).2.2], [], [], []⟩
  pre := fun x => x.1.pits.length < 1000000
set_option maxHeartbeats 0 in
set_option maxRecDepth 100000 in
theorem strO_ok : ∀ x, strOS.pre x → FunOk Try.prog 21 (strOS.args x) (strOS.H x) (strOS.R x) := by
  rintro ⟨⟨long, rise, change, ps⟩, n⟩ hx
  refine fun_ofT (T := Tstr) (L := fun _ => none) (hs := fun _ => []) (sp := fun _ => none) hmix Tstr_ok (tdAt_ok told_ok) (it := onlyAt 7 (itOf Try.prog [] 63 Try.f63 fun l _ => some (.inv (strI ⟨long, rise, change, ps⟩ n l)))) (onlyAt_ok it_ok) Try.func21 (by kernel_rfl) (by kernel_rfl) ?_
  refine Eq.mp (α :=
      let Z0 := True ∧ True; let Z1 := Value.bool false; let Z2 := nat_lit 0 = nat_lit 0 ∧ True; let Z3 := GroundT.mk long rise change ps; let Z4 := Value.int IntKind.i64 change; let Z5 := Value.int IntKind.i64 long; let Z6 := Value.int IntKind.i64 n; let Z7 := Value.int IntKind.i64 rise; let Z8 := List.length ps; let Z9 := Z0 ∧ True; let Z10 := nat_lit 0 = nat_lit 0 ∧ nat_lit 0 = nat_lit 0; let Z11 := nat_lit 0 = nat_lit 0 ∧ nat_lit 1 = nat_lit 1; let Z12 := AV.v Z6; let Z13 := (2 : Int); let Z14 := (0 : Int); let Z15 := (1 : Int); let Z16 := (4 : Int); let Z17 : List Int := []; let Z18 := nM Z3; let Z19 := fun (l : Nat) => Fn.yield l = Fn.yield l; let Z20 := (4 : Nat); let Z21 : List Mix3 := boxesM Z3; let Z22 := strOM Z3 n; let Z23 := (28 : TypeId); let Z24 := (47 : FuncId); let Z25 := (80 : TypeId); let Z26 := ps = ps; let Z27 := nat_lit 0 = nat_lit 0 ∧ Z2; let Z28 := min (Int.toNat n) (nat_lit 64); let Z29 := nat_lit 0 = nat_lit 0 ∧ Z11; let Z30 := nat_lit 0 = nat_lit 0 ∧ Z10; let Z31 := Fn.func Z24; let Z32 := Z26 ∧ True; let Z33 := Value.int IntKind.i64 Z14; let Z34 := Value.int IntKind.i64 Z16; let Z35 := fun (l : Nat) => Z19 l ∧ Z0; let Z36 := Z1 = Z1; let Z37 := fun (k : Nat) => k ≤ Z18; let Z38 := Z30 ∧ True; let Z39 := List.length Z21; let Z40 := Z8 = Z8; let Z41 := True ∧ Z32; let Z42 := (↑Z18 : Int); let Z43 := Z4 = Z4; let Z44 := Z7 = Z7; let Z45 := Z5 = Z5; let Z46 := Z6 = Z6; let Z47 := Z36 ∧ True; let Z48 := Prod.fst Z22; let Z49 := Prod.snd Z22; let Z50 := Fn.func (nat_lit 47) = Z31; let Z51 : List Int := n :: Z17; let Z52 : List Span := hardsM Z3 Z18; let Z53 := Z46 ∧ True; let Z54 := nat_lit 0 = nat_lit 0 ∧ Z40; let Z56 : Type := { k : Nat // Z37 k }; let Z57 := (Z14, Z14); let Z58 := Value.int IntKind.i64 Z42; let Z61 := fun (x : Z56) => Subtype.val x; let Z64 := Value.int IntKind.i64 Z48; let Z67 := nat_lit 0 = nat_lit 0 ∧ Z54; let Z69 := Value.int IntKind.i64 (Prod.fst Z49); let Z70 := Z21 = Z21; let Z71 := Value.int IntKind.i64 (Prod.snd Z49); let Z72 := fun (x : Z56) => (↑(Z61 x) : Int); let Z73 := openErrM Z3 Ask.cls Z51; let Z78 := Z33 = Z33 ∧ True; let Z80 := fun (x : Z56) => Value.int IntKind.i64 (Z72 x); let Z86 := fun (x : Z56) => Z18 - Z61 x; let Z87 := fun (x : Z56) => Prod.snd (strAtM Z21 n (Z61 x)); let Z88 := fun (x : Z56) => Prod.fst (strAtM Z21 n (Z61 x)); let Z91 := Z51 = Z51; let Z93 := Z58 = Z58; let Z96 := fun (x : Z56) => Prod.fst (Z87 x); let Z98 := fun (x : Z56) => Value.int IntKind.i64 (Z88 x); let Z101 := Z25 = Z25 ∧ Z70; let Z102 := Z73 == Z14; let Z103 := fun (x : Z56) => Value.int IntKind.i64 (Prod.snd (Z87 x)); let Z104 := fun (x : Z56) => Value.int IntKind.i64 (Z96 x); let Z112 := fun (t : Z56) => Value.int IntKind.i64 (IntKind.wrap IntKind.i64 (Z72 t + Z15)); let Z114 := Z23 = Z23 ∧ Z52 = Z52; let Z118 := Z45 ∧ Z44 ∧ Z43 ∧ Z67 ∧ Z27; let Z120 := fun (x t : Z56) => Z86 x < Z86 t; let Z127 := fun (t : Z56) => decide (Z72 t < Z42); let Z133 := fun (t : Z56) => decide (Z96 t ≥ Z14); let Z135 := fun (t : Z56) => Value.bool (Z133 t); let Z143 := fun (t : Z56) => classesM (List.getD Z21 (Int.toNat (Z72 t)) (Z57, Z57, Z57)) != IntKind.wrap IntKind.i64 (Z15 * Z13 ^ Z28); let Z147 := fun (t : Z56) => decide (IntKind.wrap IntKind.i64 (Z72 t - Prod.snd (Z87 t)) > IntKind.wrap IntKind.i64 (Z96 t - Z88 t)); (nat_lit 1 = nat_lit 1 ∧ Z12 = Z12 ∧ True) ∧ (Z8 < nat_lit 1000000 ∧ nat_lit 1 < nat_lit 1000) ∧ (Z102 = true → ((Z45 ∧ Z44 ∧ Z43 ∧ Z67 ∧ True) ∧ (Z50 ∧ Z0) ∧ (Z20 = Z20 ∧ Z29) ∧ True) ∧ (Z26 ∧ Z91 ∧ True) ∧ True ∧ (Z30 ∧ Z47) ∧ ((True ∧ True ∧ True ∧ True ∧ True ∧ Z0) ∧ True) ∧ ∀ (l : Nat), (∃ (x : Z56), (Z35 l ∧ Z30 ∧ Z30 ∧ Value.int IntKind.i64 (IntKind.wrap IntKind.i64 (long + Z15)) = Z58 ∧ Z33 = Z80 x ∧ True) ∧ True ∧ Z26 ∧ True ∧ Z53 ∧ Z78 ∧ True ∧ Z114 ∧ Z101 ∧ Z118 ∧ Z38 ∧ (Z33 = Z98 x ∧ True) ∧ (Value.int IntKind.i64 (-Z15) = Z104 x ∧ True) ∧ (Z33 = Z103 x ∧ True) ∧ Z38 ∧ Z47 ∧ True) ∧ ∀ (t : Z56), (Z127 t = true → l = l ∧ True ∧ (Z14 ≤ Z72 t ∧ Z72 t < (↑Z39 : Int) ∧ Z39 < nat_lit 1000) ∧ (Z30 ∧ Z80 t = Z80 t ∧ True) ∧ (Z70 ∧ (True ∧ True ∧ True ∧ True ∧ True ∧ (nat_lit 6 = nat_lit 6 ∧ nat_lit 0 = nat_lit 0 ∧ nat_lit 0 = nat_lit 0 ∧ List.length Z21 = Z39) ∧ True) ∧ True) ∧ Z14 ≤ n ∧ (Z143 t = true → True ∧ True ∧ ∃ (x : Z56), ((Z35 l ∧ Z30 ∧ Z30 ∧ Z93 ∧ Z112 t = Z80 x ∧ True) ∧ True ∧ Z26 ∧ True ∧ Z53 ∧ Z78 ∧ True ∧ Z114 ∧ Z101 ∧ Z118 ∧ Z38 ∧ (Z98 t = Z98 x ∧ True) ∧ (Z104 t = Z104 x ∧ True) ∧ (Z112 t = Z103 x ∧ True) ∧ Z38 ∧ Z9) ∧ Z120 x t) ∧ (Z143 t = false → (Z147 t = true → True ∧ True ∧ ∃ (x : Z56), ((Z35 l ∧ Z30 ∧ Z30 ∧ Z93 ∧ Z112 t = Z80 x ∧ True) ∧ True ∧ Z26 ∧ True ∧ Z53 ∧ Z78 ∧ True ∧ Z114 ∧ Z101 ∧ Z118 ∧ Z38 ∧ (Z103 t = Z98 x ∧ True) ∧ (Z80 t = Z104 x ∧ True) ∧ (Z103 t = Z103 x ∧ True) ∧ Z38 ∧ Z9) ∧ Z120 x t) ∧ (Z147 t = false → True ∧ True ∧ ∃ (x : Z56), ((Z35 l ∧ Z30 ∧ Z30 ∧ Z93 ∧ Z112 t = Z80 x ∧ True) ∧ True ∧ Z26 ∧ True ∧ Z53 ∧ Z78 ∧ True ∧ Z114 ∧ Z101 ∧ Z118 ∧ Z38 ∧ (Z98 t = Z98 x ∧ True) ∧ (Z104 t = Z104 x ∧ True) ∧ (Z103 t = Z103 x ∧ True) ∧ Z38 ∧ Z9) ∧ Z120 x t))) ∧ (Z127 t = false → True ∧ (Z133 t = true → (Z135 t = Z135 t ∧ Z34 = Z34 ∧ True) ∧ True ∧ (true = true → True ∧ True ∧ ((Z98 t = Z64 ∧ Z104 t = Z69 ∧ Z33 = Z71 ∧ True) ∧ True) ∧ Z41) ∧ (true = false → False)) ∧ (Z133 t = false → (Z135 t = Z135 t ∧ Z34 = Z34 ∧ True) ∧ True ∧ True ∧ True ∧ ((Z33 = Z64 ∧ Z33 = Z69 ∧ Z34 = Z71 ∧ True) ∧ True) ∧ Z41))) ∧ (Z102 = false → ((Z45 ∧ Z44 ∧ Z43 ∧ Z67 ∧ True) ∧ (Z50 ∧ Z0) ∧ (Z20 = Z20 ∧ Z29) ∧ True) ∧ (Z26 ∧ Z91 ∧ True) ∧ True ∧ True ∧ ((Z33 = Z64 ∧ Z33 = Z69 ∧ Value.int IntKind.i64 Z73 = Z71 ∧ True) ∧ True) ∧ Z41))
    (by kernel_rfl) ?_
  simp only [eq_self, true_and, and_true, Int.toNat_natCast, Nat.zero_add, Nat.sub_zero, Value.int.injEq, Value.bool.injEq, decide_eq_true_eq, decide_eq_false_iff_not]
  refine ⟨⟨hx, by decide⟩, fun h => ?_, fun h => ?_⟩
  · obtain ⟨hg, ha, _⟩ := open_ok h
    obtain ⟨n0, n1, n2⟩ := n_ok (ground_ok hg)
    have n0' : ((nM ⟨long, rise, change, ps⟩ : Nat) : Int) = long + 1 := n0
    simp only [List.all_cons, List.all_nil, Bool.and_true, askM, inM_iff] at ha
    obtain ⟨a0, a1⟩ := ha
    have hmin : min n.toNat 64 = n.toNat := by omega
    have hW : IntKind.i64.wrap (long + 1) = ((nM ⟨long, rise, change, ps⟩ : Nat) : Int) := by rw [wrap_id (by omega) (by omega)]; omega
    have hl : (boxesM ⟨long, rise, change, ps⟩).length = nM ⟨long, rise, change, ps⟩ := stage_len _ 2
    have e : strOM ⟨long, rise, change, ps⟩ n = strEndM (boxesM ⟨long, rise, change, ps⟩) n (nM ⟨long, rise, change, ps⟩) := by
      have h' : (strErrM ⟨long, rise, change, ps⟩ n == 0) = true := h
      unfold strOM; rw [h']; rfl
    rw [e, hW, hmin]
    clear e hx h hW hg n0
    revert hl n0'
    generalize boxesM ⟨long, rise, change, ps⟩ = l
    generalize nM ⟨long, rise, change, ps⟩ = N at *
    intro hl n0'
    refine fun _ => ⟨⟨⟨0, Nat.zero_le _⟩, ⟨rfl, rfl⟩, rfl, rfl, rfl⟩, fun t => ⟨fun ht => ?_, fun ht => ?_⟩⟩
    · obtain ⟨k, hk⟩ := t
      have hlt : k < N := by have h0 : (k : Int) < (N : Int) := ht; omega
      refine ⟨⟨Int.natCast_nonneg _, by show (k : Int) < _; omega, by omega⟩, a0, fun hy => ⟨⟨k + 1, hlt⟩, ?_, dec1 hlt⟩, fun hy => ⟨fun hz => ⟨⟨k + 1, hlt⟩, ?_, dec1 hlt⟩, fun hz => ⟨⟨k + 1, hlt⟩, ?_, dec1 hlt⟩⟩⟩
      · have hy' : ¬ classesM (l.getD k m0) = W (1 * 2 ^ n.toNat) := by simpa [bne_iff_ne] using hy
        have e := str_no hy'
        exact ⟨sucI k (by omega), (congrArg (fun p => p.1) e).symm, (congrArg (fun p => p.2.1) e).symm, (congrArg (fun p => p.2.2) e).symm⟩
      · have hy' : classesM (l.getD k m0) = W (1 * 2 ^ n.toNat) := by simpa using hy
        have e := str_new hy' hz
        exact ⟨sucI k (by omega), (congrArg (fun p => p.1) e).symm, (congrArg (fun p => p.2.1) e).symm, (congrArg (fun p => p.2.2) e).symm⟩
      · have hy' : classesM (l.getD k m0) = W (1 * 2 ^ n.toNat) := by simpa using hy
        have e := str_old hy' hz
        exact ⟨sucI k (by omega), (congrArg (fun p => p.1) e).symm, (congrArg (fun p => p.2.1) e).symm, (congrArg (fun p => p.2.2) e).symm⟩
    · obtain ⟨k, hk⟩ := t
      have hke : k = N := by have h0 : ¬ (k : Int) < (N : Int) := ht; omega
      subst hke
      refine ⟨fun hz => ⟨fun _ => ?_, fun h => absurd h (by decide)⟩, fun hz => ?_⟩
      · have e : strEndM l n k = ((strAtM l n k).1, (strAtM l n k).2.1, 0) := if_pos hz
        rw [e]; exact ⟨rfl, rfl, rfl⟩
      · have e : strEndM l n k = (0, 0, 4) := if_neg hz
        rw [e]; exact ⟨rfl, rfl, rfl⟩
  · have e : strOM ⟨long, rise, change, ps⟩ n = (0, 0, strErrM ⟨long, rise, change, ps⟩ n) := by
      have h' : (strErrM ⟨long, rise, change, ps⟩ n == 0) = false := h
      unfold strOM; rw [h']; rfl
    rw [e]; exact ⟨rfl, rfl, rfl⟩

theorem strO_sound : Sound Try.prog 21 strOS.con := FSpec.sound _ (enter_of Try.func21 (by kernel_rfl) (by kernel_rfl)) strO_ok
end AE.Soil

namespace AE.Soil
open Go AE Go.Proofs

/-- A ground without one of its pits. -/
def lessM (g : GroundT) (i : Nat) : GroundT := ⟨g.long, g.rise, g.change, g.pits.take i ++ g.pits.drop (i + 1)⟩
def oddAtM (g : GroundT) : Nat → Int
  | 0 => 0
  | i + 1 => if lookM (lessM g i) then orM (oddAtM g i) (W (1 * 2 ^ i)) else oddAtM g i
theorem odd_yes {g : GroundT} {i : Nat} (h : lookM (lessM g i) = true) : oddAtM g (i + 1) = orM (oddAtM g i) (W (1 * 2 ^ i)) := if_pos h
theorem odd_no {g : GroundT} {i : Nat} (h : lookM (lessM g i) = false) : oddAtM g (i + 1) = oddAtM g i := if_neg (by rw [h]; decide)
theorem pits_of {long : Int} (hl : long ≤ 40) : ∀ (l : List PitT) (b : Int), -1 ≤ b → b ≤ 40 → (∀ p ∈ l, b < p.1 ∧ PitOk long p) → (l.Pairwise fun p q => p.1 < q.1) → pitsM long b l = true
  | [], b, _, _, _, _ => rfl
  | q :: l, b, h1, h2, h, hp => by
    obtain ⟨hb, ok⟩ := h q List.mem_cons_self
    obtain ⟨hp1, hp2⟩ := List.pairwise_cons.1 hp
    have hw : W (b + 1) = b + 1 := wrap_id (by omega) (by omega)
    have := pits_of hl l q.1 (by have := ok.at_; omega) (by have := ok.at_; omega) (fun p hp => ⟨hp1 p hp, (h p (List.mem_cons_of_mem _ hp)).2⟩) hp2
    simp only [pitsM, okPitM, Bool.and_eq_true, inM_iff, spanM_iff, hw]
    exact ⟨⟨⟨⟨⟨⟨by omega, ok.at_.2⟩, ok.hard⟩, ok.sand⟩, ok.silt⟩, ok.clay⟩, this⟩
theorem ground_of {g : GroundT} (h : GOk g) : groundM g = true := by
  have := pits_of h.long.2 g.pits (-1) (by omega) (by omega) (fun p hp => ⟨by have := (h.pits p hp).at_; omega, h.pits p hp⟩) h.inc
  have hl := h.len
  simp only [groundM, Bool.and_eq_true, inM_iff, decide_eq_true_eq]
  exact ⟨⟨⟨⟨h.long, h.rise⟩, h.change⟩, by omega⟩, this⟩
theorem less_sub (l : List PitT) (i : Nat) : (l.take i ++ l.drop (i + 1)).Sublist l := by
  have : l.drop (i + 1) = (l.drop i).drop 1 := by rw [List.drop_drop]
  rw [this]
  calc (l.take i ++ (l.drop i).drop 1).Sublist (l.take i ++ l.drop i) := (List.Sublist.refl _).append (List.drop_sublist _ _)
    _ = l := List.take_append_drop i l
theorem less_ok {g : GroundT} (h : GOk g) (i : Nat) : GOk (lessM g i) where
  long := h.long
  rise := h.rise
  change := h.change
  len := Nat.le_trans (less_sub g.pits i).length_le h.len
  pits := fun p hp => h.pits p ((less_sub g.pits i).subset hp)
  inc := h.inc.sublist (less_sub g.pits i)
def oddErrM (g : GroundT) : Int := if groundM g then (if lookM g then 4 else 0) else 1
def oddOM (g : GroundT) : Int × Int := if oddErrM g == 0 then (oddAtM g g.pits.length, 0) else (0, oddErrM g)
def oddL (g : GroundT) : LSpec UU where
  T := { i : Nat // i ≤ g.pits.length }
  fr := fun i => [(1, .ptr 1 0 0 0), (2, .i (oddAtM g i.1)), (3, .ptr 2 0 0 0), (23, .i g.pits.length), (24, .i i.1)]
  H := fun i => [.one (.ro .pit g.pits), .one (.cells (cGround g 0) 24), .one (.cells [.i 0] 29)]
  mu := fun i => g.pits.length - i.1
def Todd : Tab UU := [(51, isGroundS.con), (50, mustS.con), (52, lookS.con)]
theorem Todd_ok : Todd.Sound Try.prog := .cons isGround_sound (.cons must_sound (.cons look_sound .nil))
def oddOS : FSpec UU where
  X := GroundT
  pick := fun args H => match args with
    | [a] => avGround H a
    | _ => none
  args := fun (x : GroundT) => [vGround x 0]
  H := fun (x : GroundT) => [.one (.ro .pit x.pits)]
  R := fun (x : GroundT) => .val ⟨.tup [.i (oddOM x).1, .i (oddOM x).2], [], [], []⟩
  pre := fun (x : GroundT) => x.pits.length < 1000000
set_option maxHeartbeats 0 in
set_option maxRecDepth 100000 in
theorem oddO_ok : ∀ x, oddOS.pre x → FunOk Try.prog 22 (oddOS.args x) (oddOS.H x) (oddOS.R x) := by
  rintro ⟨long, rise, change, ps⟩ hx
  refine fun_ofT (T := Todd) (L := fun _ => some (.inv (oddL ⟨long, rise, change, ps⟩))) (hs := fun _ => []) (sp := fun _ => none) hmix Todd_ok (tdAt_ok told_ok) (it := fun _ => none) (fun _ _ h => by cases h) Try.func22 (by kernel_rfl) (by kernel_rfl) ?_
  refine Eq.mp (α :=
      let Z0 : List DfE := []; let Z1 := !true; let Z2 := !false; let Z3 := GroundT.mk long rise change ps; let Z4 := List.length ps; let Z5 := Value.int IntKind.i64 change; let Z6 := Value.int IntKind.i64 long; let Z7 := Value.int IntKind.i64 rise; let Z8 := true = true; let Z9 := false = true; let Z10 := true = false; let Z11 := nat_lit 0 = nat_lit 0 ∧ nat_lit 0 = nat_lit 0; let Z12 := false = false; let Z13 := (0 : Int); let Z14 := Value.bool Z1; let Z15 := (4 : Int); let Z16 := (1 : Int); let Z17 := (2 : Int); let Z18 := Value.bool Z2; let Z19 := (0 : Nat); let Z20 := (5 : Nat); let Z21 := (2 : Nat); let Z22 := lookM Z3; let Z23 := oddOM Z3; let Z24 : List PitT := GroundT.pits Z3; let Z25 := groundM Z3; let Z26 : List (Int × Span × Span × Span × Span) := List.drop (nat_lit 0) ps; let Z27 := List.length ps; let Z28 := Z10 → False; let Z29 := ps = ps; let Z30 := nat_lit 0 = nat_lit 0 ∧ Z11; let Z31 := AV.ptr Z21 (nat_lit 0) (nat_lit 0) (nat_lit 0); let Z32 := Value.bool Z25; let Z33 := Z29 ∧ True; let Z34 := (↑Z4 : Int); let Z35 := Prod.snd Z23; let Z36 := Prod.fst Z23; let Z37 := Value.int IntKind.i64 Z13; let Z38 := Value.int IntKind.i64 Z15; let Z39 := Value.int IntKind.i64 Z16; let Z40 := Z25 = true; let Z41 := Z30 ∧ True; let Z42 := Z4 = Z4; let Z43 := List.length Z24; let Z44 := True ∧ Z33; let Z45 := Z5 = Z5; let Z46 := Z7 = Z7; let Z47 := Z6 = Z6; let Z48 := Int.toNat Z34; let Z49 := Z41 ∧ True; let Z50 : List (Int × Span × Span × Span × Span) := List.drop Z19 ps; let Z51 := Z14 = Z14; let Z52 := Value.int IntKind.i64 Z36; let Z53 : List AV := [Z31]; let Z54 := Value.int IntKind.i64 Z34; let Z55 := Value.int IntKind.i64 Z35; let Z56 := Z18 = Z18; let Z57 := nat_lit 0 = nat_lit 0 ∧ Z42; let Z58 := Z20 = Z20; let Z59 := True ∧ Z49; let Z60 := fun (i : Nat) => i ≤ Z43; let Z61 := Z13 ≤ Z13; let Z62 := nat_lit 0 = nat_lit 0 ∧ Z57; let Z63 := Z62 ∧ True; let Z64 : Type := { i : Nat // Z60 i }; let Z65 := Z32 = Z32; let Z66 := DfE.call (Fn.func (nat_lit 31)) [] Z53; let Z67 := fun (x : Z64) => Subtype.val x; let Z68 := Z38 = Z38; let Z69 := Z39 = Z39; let Z70 := Z37 = Z37; let Z71 := Z69 ∧ True; let Z72 := Z68 ∧ True; let Z73 := Z70 ∧ True; let Z74 := Z34 ≤ Z34; let Z75 := Z73 ∧ True; let Z76 : List DfE := Z66 :: Z0; let Z77 := Z37 = Z55; let Z78 := Z38 = Z55; let Z79 := Z37 = Z52; let Z80 := fun (x : Z64) => (↑(Z67 x) : Int); let Z81 := fun (x : Z64) => oddAtM Z3 (Z67 x); let Z82 := Z78 ∧ True; let Z83 := Z77 ∧ True; let Z84 := fun (t : Z64) => Int.toNat (Z80 t); let Z85 := Z54 = Z54; let Z86 := fun (x : Z64) => Value.int IntKind.i64 (Z80 x); let Z87 := fun (t : Z64) => BitVec.ofInt (nat_lit 64) (Z81 t); let Z88 := Z45 ∧ Z63; let Z89 := fun (x : Z64) => Value.int IntKind.i64 (Z81 x); let Z90 := fun (t : Z64) => min (Z84 t) (nat_lit 64); let Z91 := fun (x : Z64) => Z4 - Z67 x; let Z92 := fun (t : Z64) => Z13 ≤ Z80 t; let Z93 := fun (t : Z64) => Z84 t - nat_lit 0; let Z94 := Z51 ∧ Z72; let Z95 := Z56 ∧ Z72; let Z96 := fun (t : Z64) => Z80 t < Z34; let Z97 := fun (t : Z64) => Z80 t ≤ Z34; let Z98 := fun (t : Z64) => Z80 t + Z16; let Z99 := fun (x : Z64) => Z37 = Z86 x; let Z100 := fun (t : Z64) => Z84 t - Z19; let Z101 := fun (x : Z64) => Z37 = Z89 x; let Z102 := Z46 ∧ Z88; let Z103 := fun (x : Z64) => Z99 x ∧ True; let Z104 := Z65 ∧ Z71; let Z105 := fun (t : Z64) => IntKind.wrap IntKind.i64 (Z98 t); let Z106 := fun (t : Z64) => nat_lit 0 + Z93 t; let Z107 := fun (t : Z64) => Int.toNat (Z105 t); let Z108 := fun (t : Z64) => Z89 t = Z52; let Z109 := fun (t : Z64) => Value.int IntKind.i64 (Z105 t); let Z110 := fun (t : Z64) => List.take (Z93 t) Z26; let Z111 := fun (t : Z64) => Z17 ^ Z90 t; let Z112 := Z76 = Z76; let Z113 := Z79 ∧ Z82; let Z114 := fun (t : Z64) => Z13 ≤ Z105 t; let Z115 := Z47 ∧ Z102; let Z116 := fun (t : Z64) => nat_lit 0 + Z107 t; let Z117 := Z113 ∧ True; let Z118 := fun (t : Z64) => List.length (Z110 t); let Z119 := fun (t : Z64) => Z106 t ≤ Z27; let Z120 := Z115 ∧ True; let Z121 := fun (t : Z64) => Z105 t ≤ Z34; let Z122 := fun (t : Z64) => Z19 + Z107 t; let Z123 := fun (t : Z64) => List.take (Z100 t) Z50; let Z124 := fun (t : Z64) => List.drop (Z116 t) ps; let Z125 := fun (t : Z64) => Z118 t ≤ nat_lit 1099511627776; let Z126 := fun (t x : Z64) => Z89 t = Z89 x; let Z127 := fun (t : Z64) => Z16 * Z111 t; let Z128 := fun (t : Z64) => Z48 - Z107 t; let Z129 := Z117 ∧ Z44; let Z130 := fun (t : Z64) => List.drop (Z122 t) ps; let Z131 := True ∧ Z129; let Z132 := fun (t : Z64) => IntKind.wrap IntKind.i64 (Z127 t); let Z133 := fun (x t : Z64) => Z91 x < Z91 t; let Z134 := True ∧ Z131; let Z135 := fun (t : Z64) => BitVec.ofInt (nat_lit 64) (Z132 t); let Z136 := True ∧ Z134; let Z137 := fun (x : Z64) => Z85 ∧ Z103 x; let Z138 := fun (t : Z64) => Z108 t ∧ Z83; let Z139 := fun (t : Z64) => Z92 t ∧ Z97 t; let Z140 := fun (t : Z64) => Z138 t ∧ True; let Z141 := fun (t x : Z64) => Z109 t = Z86 x; let Z142 := Z115 ∧ Z75; let Z143 := fun (t x : Z64) => Z141 t x ∧ True; let Z144 := fun (x : Z64) => Z30 ∧ Z137 x; let Z145 := fun (t : Z64) => Z121 t ∧ Z74; let Z146 := fun (t : Z64) => decide (Z96 t); let Z147 := fun (t : Z64) => Z140 t ∧ Z44; let Z148 := Z29 ∧ Z142; let Z149 := fun (t : Z64) => Z146 t = true; let Z150 := fun (t : Z64) => Z146 t = false; let Z151 := fun (t : Z64) => True ∧ Z147 t; let Z152 := fun (t : Z64) => True ∧ Z151 t; let Z153 := fun (t : Z64) => Z61 ∧ Z139 t; let Z154 := fun (t : Z64) => Z8 → Z152 t; let Z155 := Z59 ∧ Z148; let Z156 := fun (t : Z64) => Z154 t ∧ Z28; let Z157 := fun (t x : Z64) => Z85 ∧ Z143 t x; let Z158 := fun (t x : Z64) => Z30 ∧ Z157 t x; let Z159 := fun (x : Z64) => Z101 x ∧ Z144 x; let Z160 := fun (t : Z64) => Z116 t + Z128 t; let Z161 := fun (t : Z64) => List.take (Z128 t) (Z124 t); let Z162 := fun (x : Z64) => Z30 ∧ Z159 x; let Z163 := fun (t : Z64) => Z114 t ∧ Z145 t; let Z164 := fun (t : Z64) => Z87 t ||| Z135 t; let Z165 := fun (t : Z64) => List.take (Z128 t) (Z130 t); let Z166 := fun (t : Z64) => List.length (Z161 t); let Z177 := fun (t : Z64) => Z118 t + Z166 t ≤ nat_lit 1099511627776; let Z178 := fun (t : Z64) => Z110 t ++ Z161 t; let Z181 := fun (t : Z64) => Z123 t ++ Z165 t; let Z182 := fun (t : Z64) => GroundT.mk long rise change (Z181 t); let Z184 := fun (t : Z64) => lookM (Z182 t); let Z189 := ∃ (x : Z64), Z162 x ∧ Z155; let Z194 := fun (t : Z64) => ∃ (x : Z64), ((Z30 ∧ Z126 t x ∧ Z158 t x) ∧ Z155) ∧ Z133 x t; let Z200 := fun (t : Z64) => Z181 t = Z178 t ∧ True; let Z210 := fun (t : Z64) => (Z47 ∧ Z46 ∧ Z45 ∧ (Z58 ∧ nat_lit 0 = nat_lit 0 ∧ nat_lit 0 = nat_lit 0 ∧ List.length (Z178 t) = List.length (Z178 t)) ∧ True) ∧ True; let Z213 := fun (t : Z64) => Z92 t ∧ Z112 ∧ ∃ (x : Z64), ((Z30 ∧ Value.int IntKind.i64 (IntKind.wrap IntKind.i64 (↑(BitVec.toNat (Z164 t)) : Int)) = Z89 x ∧ Z158 t x) ∧ Z155) ∧ Z133 x t; Z4 < nat_lit 1000000 ∧ Z120 ∧ Z33 ∧ True ∧ (Z40 → Z104 ∧ True ∧ Z40 ∧ (Z22 = true → Z120 ∧ Z33 ∧ True ∧ (Z9 → Z94 ∧ True ∧ Z189 ∧ ∀ (t : Z64), (Z149 t → Z153 t ∧ Z119 t ∧ Z125 t ∧ Z163 t ∧ Z160 t ≤ Z27 ∧ Z177 t ∧ groundM (Z182 t) = true ∧ (Z184 t = true → Z210 t ∧ Z200 t ∧ (Z8 → Z213 t) ∧ (Z10 → Z112 ∧ Z194 t)) ∧ (Z184 t = false → Z210 t ∧ Z200 t ∧ (Z9 → Z213 t) ∧ (Z12 → Z112 ∧ Z194 t))) ∧ (Z150 t → Z156 t)) ∧ (Z12 → Z94 ∧ Z136)) ∧ (Z22 = false → Z120 ∧ Z33 ∧ True ∧ (Z8 → Z95 ∧ True ∧ Z189 ∧ ∀ (t : Z64), (Z149 t → Z153 t ∧ Z119 t ∧ Z125 t ∧ Z163 t ∧ Z160 t ≤ Z27 ∧ Z177 t ∧ groundM (Z182 t) = true ∧ (Z184 t = true → Z210 t ∧ Z200 t ∧ (Z8 → Z213 t) ∧ (Z10 → Z112 ∧ Z194 t)) ∧ (Z184 t = false → Z210 t ∧ Z200 t ∧ (Z9 → Z213 t) ∧ (Z12 → Z112 ∧ Z194 t))) ∧ (Z150 t → Z156 t)) ∧ (Z10 → Z95 ∧ Z136))) ∧ (Z25 = false → Z104 ∧ True ∧ True ∧ True ∧ ((Z79 ∧ Z39 = Z55 ∧ True) ∧ True) ∧ Z44))
    (by kernel_rfl) ?_
  simp only [eq_self, true_and, and_true, Int.toNat_natCast, Nat.zero_add, Nat.sub_zero, Value.int.injEq, Value.bool.injEq, decide_eq_true_eq, decide_eq_false_iff_not]
  refine ⟨hx, fun hg => ⟨hg, fun hl => ⟨fun h => absurd h (by decide), fun _ => ?_⟩, fun hl => ⟨fun _ => ⟨⟨⟨0, Nat.zero_le _⟩, rfl, rfl⟩, fun t => ⟨fun ht => ?_, fun ht => ?_⟩⟩, fun h => absurd h (by decide)⟩⟩, fun hg => ?_⟩
  · have e : oddOM ⟨long, rise, change, ps⟩ = (0, 4) := by unfold oddOM oddErrM; rw [hg, hl]; rfl
    rw [e]; exact ⟨rfl, rfl⟩
  · obtain ⟨i, hi⟩ := t
    have hlt : i < ps.length := by have h0 : (i : Int) < (ps.length : Int) := ht; omega
    have hok := ground_ok hg
    have h8 : ps.length ≤ 8 := hok.len
    have hs := sucI i (by omega)
    have hmin : min i 64 = i := by omega
    have hd : (ps.drop (i + 1)).take (ps.length - (i + 1)) = ps.drop (i + 1) := List.take_of_length_le (by rw [List.length_drop]; omega)
    have hless : groundM (lessM ⟨long, rise, change, ps⟩ i) = true := ground_of (less_ok hok i)
    simp only [hs, Int.toNat_natCast, List.drop_zero, hmin, hd]
    have hlen1 : (ps.take i).length ≤ 1099511627776 := by rw [List.length_take]; omega
    have hlen2 : (ps.take i).length + (ps.drop (i + 1)).length ≤ 1099511627776 := by rw [List.length_take, List.length_drop]; omega
    refine ⟨⟨Int.le_refl _, Int.natCast_nonneg _, by omega⟩, by omega, hlen1, ⟨Int.natCast_nonneg _, by omega, Int.le_refl _⟩, by omega, hlen2, hless, fun hk => ⟨fun _ => ⟨Int.natCast_nonneg _, ⟨i + 1, hlt⟩, ⟨?_, rfl⟩, dec1 hlt⟩, fun h => absurd h (by decide)⟩, fun hk => ⟨fun h => absurd h (by decide), fun _ => ⟨⟨i + 1, hlt⟩, ⟨?_, rfl⟩, dec1 hlt⟩⟩⟩
    · exact (odd_yes (g := ⟨long, rise, change, ps⟩) hk).symm
    · exact (odd_no (g := ⟨long, rise, change, ps⟩) hk).symm
  · obtain ⟨i, hi⟩ := t
    have hie : i = ps.length := by have h0 : ¬ (i : Int) < (ps.length : Int) := ht; omega
    subst hie
    have e : oddOM ⟨long, rise, change, ps⟩ = (oddAtM ⟨long, rise, change, ps⟩ ps.length, 0) := by unfold oddOM oddErrM; rw [hg, hl]; rfl
    rw [e]; exact ⟨fun _ => ⟨rfl, rfl⟩, fun h => absurd h (by decide)⟩
  · have e : oddOM ⟨long, rise, change, ps⟩ = (0, 1) := by unfold oddOM oddErrM; rw [hg]; rfl
    rw [e]; exact ⟨rfl, rfl⟩

theorem oddO_sound : Sound Try.prog 22 oddOS.con := FSpec.sound _ (enter_of Try.func22 (by kernel_rfl) (by kernel_rfl)) oddO_ok
end AE.Soil

namespace AE.Soil
open Go AE Go.Proofs

abbrev pA : PitT := (2, (300, 320), (10, 12), (4, 6), 4, 5)
abbrev pB : PitT := (8, (500, 520), (5, 6), (3, 5), 9, 11)
abbrev pC : PitT := (5, (900, 900), (0, 20), (0, 20), 0, 20)
def sampleS : FSpec UU where
  X := Unit
  pick := fun args _ => match args with
    | [] => some ()
    | _ => none
  args := fun _ => []
  H := fun _ => []
  R := fun _ => .val ⟨.agg [.i 10, .i 50, .i 2, .gs 0 0], [], [], [.row .pit [pA, pB] 54]⟩
def Tsample : Tab UU := [(28, lpitS.con)]
theorem Tsample_ok : Tsample.Sound Try.prog := .cons lpit_sound .nil
set_option maxRecDepth 100000 in
theorem sample_ok : ∀ x, sampleS.pre x → FunOk Try.prog 30 (sampleS.args x) (sampleS.H x) (sampleS.R x) := by
  intro x _
  refine fun_of (T := Tsample) (L := fun _ => none) (hs := fun _ => []) hmix Tsample_ok Try.func30 (by kernel_rfl) (by kernel_rfl) ?_
  refine Eq.mp (α :=
      let Z0 := (6 : Int); let Z1 := (5 : Int); let Z2 := (2 : Int); let Z3 := (4 : Int); let Z4 := (3 : Int); let Z5 := (8 : Int); let Z6 := (9 : Int); let Z8 := (10 : Int); let Z9 := (12 : Int); let Z10 := (11 : Int); let Z12 := (500 : Int); let Z13 := (320 : Int); let Z14 := (300 : Int); let Z15 := (520 : Int); let Z16 := Value.int IntKind.i64 Z0; let Z17 := Value.int IntKind.i64 Z6; let Z18 := Value.int IntKind.i64 Z4; let Z19 := Value.int IntKind.i64 Z5; let Z20 := Value.int IntKind.i64 Z1; let Z21 := Value.int IntKind.i64 Z2; let Z22 := Value.int IntKind.i64 Z3; let Z23 := Value.int IntKind.i64 Z8; let Z24 := Value.int IntKind.i64 Z9; let Z25 := Value.int IntKind.i64 Z10; let Z26 := Value.int IntKind.i64 (50 : Int); let Z27 := Value.int IntKind.i64 Z13; let Z28 := Value.int IntKind.i64 Z15; let Z29 := Value.int IntKind.i64 Z12; let Z30 := Value.int IntKind.i64 Z14; let Z35 := AV.v Z20; let Z55 := Z20 = Z20; let Z70 : List (Int × Span × Span × Span × Span) := [(Z2, (Z14, Z13), (Z8, Z9), (Z3, Z0), Z3, Z1), (Z5, (Z12, Z15), (Z1, Z0), (Z4, Z1), Z6, Z10)]; True ∧ (Z21 = Z21 ∧ Z30 = Z30 ∧ Z27 = Z27 ∧ Z23 = Z23 ∧ Z24 = Z24 ∧ Z22 = Z22 ∧ Z16 = Z16 ∧ Z22 = Z22 ∧ Z55 ∧ True) ∧ True ∧ True ∧ (Z19 = Z19 ∧ Z29 = Z29 ∧ Z28 = Z28 ∧ Z55 ∧ Z16 = Z16 ∧ Z18 = Z18 ∧ Z55 ∧ Z17 = Z17 ∧ Z25 = Z25 ∧ True) ∧ True ∧ (nat_lit 2 = nat_lit 2 ∧ AV.v Z21 = AV.v Z21 ∧ AV.v Z30 = AV.v Z30 ∧ AV.v Z27 = AV.v Z27 ∧ AV.v Z23 = AV.v Z23 ∧ AV.v Z24 = AV.v Z24 ∧ AV.v Z22 = AV.v Z22 ∧ AV.v Z16 = AV.v Z16 ∧ AV.v Z22 = AV.v Z22 ∧ Z35 = Z35 ∧ AV.v Z19 = AV.v Z19 ∧ AV.v Z29 = AV.v Z29 ∧ AV.v Z28 = AV.v Z28 ∧ Z35 = Z35 ∧ AV.v Z16 = AV.v Z16 ∧ AV.v Z18 = AV.v Z18 ∧ Z35 = Z35 ∧ AV.v Z17 = AV.v Z17 ∧ AV.v Z25 = AV.v Z25 ∧ True) ∧ True ∧ ((Z23 = Z23 ∧ Z26 = Z26 ∧ Z21 = Z21 ∧ nat_lit 0 = nat_lit 0 ∧ True) ∧ True) ∧ True ∧ (nat_lit 54 = (54 : TypeId) ∧ Z70 = Z70) ∧ True)
    (by kernel_rfl) ?_
  simp

theorem sample_sound : Sound Try.prog 30 sampleS.con := FSpec.sound _ (enter_of Try.func30 (by kernel_rfl) (by kernel_rfl)) sample_ok
theorem c1 : hardOM ⟨10, 50, 2, [pA, pB]⟩ 5 = ((350, 470), 0) := by decide +kernel
theorem c2 : partsOM ⟨10, 50, 2, [pA, pB]⟩ 5 = (((4, 12), (0, 11), 3, 11), 0) := by decide +kernel
theorem c3 : classOM ⟨10, 50, 2, [pA, pB]⟩ 3 = (3, 0) := by decide +kernel
theorem c4 : strOM ⟨10, 50, 2, [pA, pB]⟩ 3 = (8, 8, 0) := by decide +kernel
theorem c5 : workOM ⟨10, 50, 2, [pA, pB]⟩ 4 6 = ((1050, 1410), 0) := by decide +kernel
theorem c6 : digOM ⟨10, 50, 2, [pA, pB]⟩ = (0, 220, 0) := by decide +kernel
theorem c7 : oddOM ⟨10, 50, 2, [pA, pC, pB]⟩ = (2, 0) := by decide +kernel
def awakeS : FSpec UU where
  X := Unit
  pick := fun args _ => match args with
    | [] => some ()
    | _ => none
  args := fun _ => []
  H := fun _ => []
  R := fun _ => .val ⟨.b true, [], [], []⟩
def Tawake : Tab UU := [(30, sampleS.con), (28, lpitS.con), (23, lspanS.con), (9, hardOS.con), (11, partsOS.con), (13, classOS.con), (21, strOS.con), (15, workOS.con), (29, digOS.con), (22, oddOS.con)]
theorem Tawake_ok : Tawake.Sound Try.prog := .cons sample_sound (.cons lpit_sound (.cons lspan_sound (.cons hardO_sound (.cons partsO_sound (.cons classO_sound (.cons strO_sound (.cons workO_sound (.cons digO_sound (.cons oddO_sound .nil)))))))))
set_option maxHeartbeats 0 in
set_option maxRecDepth 100000 in
theorem awake_ok : ∀ x, awakeS.pre x → FunOk Try.prog 8 (awakeS.args x) (awakeS.H x) (awakeS.R x) := by
  intro x _
  refine fun_of (T := Tawake) (L := fun _ => none) (hs := fun _ => []) hmix Tawake_ok Try.func8 (by kernel_rfl) (by kernel_rfl) ?_
  refine Eq.mp (α :=
      let Z0 := True ∧ True; let Z1 := Value.bool true; let Z2 := Value.bool false; let Z3 := nat_lit 2 < nat_lit 1000000; let Z4 := (↑(nat_lit 2) : Int); let Z5 := nat_lit 0 = nat_lit 0 ∧ nat_lit 2 = nat_lit 2; let Z6 := (0 : Int); let Z7 := (6 : Int); let Z8 := (9 : Int); let Z9 := (2 : Int); let Z10 := (5 : Int); let Z11 := (4 : Int); let Z12 := (3 : Int); let Z13 := (1 : Int); let Z14 := (8 : Int); let Z15 : List (Int × Span × Span × Span × Span) := []; let Z16 := (50 : Int); let Z17 := (11 : Int); let Z18 := (12 : Int); let Z19 := (10 : Int); let Z20 := (20 : Int); let Z21 := (1 : Nat); let Z22 := (0 : Nat); let Z23 := (900 : Int); let Z24 := (350 : Int); let Z25 := (320 : Int); let Z26 := (500 : Int); let Z27 := (520 : Int); let Z28 := (470 : Int); let Z29 := (300 : Int); let Z30 := (220 : Int); let Z31 := (13 : Nat); let Z32 := (1050 : Int); let Z33 := (1410 : Int); let Z34 := nat_lit 0 = nat_lit 0 ∧ Z5; let Z35 := Value.int IntKind.i64 Z11; let Z36 := Value.int IntKind.i64 Z10; let Z37 := Value.int IntKind.i64 Z9; let Z38 := Value.int IntKind.i64 Z12; let Z39 := Value.int IntKind.i64 Z6; let Z40 := Value.int IntKind.i64 Z7; let Z41 := Z1 = Z2; let Z42 := Value.int IntKind.i64 Z20; let Z43 := Value.int IntKind.i64 Z19; let Z44 := Value.int IntKind.i64 Z16; let Z45 := Value.int IntKind.i64 Z17; let Z46 := Value.int IntKind.i64 Z18; let Z47 := Value.int IntKind.i64 Z28; let Z48 := Value.int IntKind.i64 Z23; let Z49 := Value.int IntKind.i64 Z24; let Z50 := Value.int IntKind.i64 Z32; let Z51 := Value.int IntKind.i64 Z33; let Z52 := AV.v Z39; let Z53 := AV.v Z36; let Z54 := AV.v Z42; let Z55 := AV.v Z48; let Z56 := Z41 ∧ True; let Z57 := (Z6, Z6); let Z58 := (Z11, Z7); let Z59 := (Z11, Z10); let Z60 := (Z12, Z10); let Z61 := (Z10, Z7); let Z62 := (Z6, Z20); let Z63 := (Z8, Z17); let Z64 := (Z19, Z18); let Z65 := Z56 ∧ Z0; let Z66 := (Z29, Z25); let Z67 := (Z23, Z23); let Z68 := (Z26, Z27); let Z69 := True ∧ Z65; let Z70 := Z36 = Z36; let Z71 := Z37 = Z37; let Z72 := Z39 = Z39; let Z73 := Z35 = Z35; let Z74 := Z38 = Z38; let Z75 := Z45 = Z45; let Z76 := Z44 = Z44; let Z77 := Z42 = Z42; let Z78 := Z43 = Z43; let Z79 := Z48 = Z48; let Z80 := Z74 ∧ True; let Z81 := Z52 = Z52; let Z82 := Z70 ∧ True; let Z83 := Z54 = Z54; let Z84 := Z75 ∧ True; let Z85 := Z55 = Z55; let Z86 := (Z58, Z59); let Z87 := (Z57, Z57); let Z88 := (Z60, Z63); let Z89 := (Z62, Z62); let Z90 := (Z57, Z87); let Z91 := (Z61, Z88); let Z92 := (Z64, Z86); let Z93 := (Z62, Z89); let Z94 := (Z57, Z90); let Z95 := (Z68, Z91); let Z96 := (Z66, Z92); let Z97 := (Z67, Z93); let Z98 := (Z6, Z94); let Z99 := (Z14, Z95); let Z100 := (Z9, Z96); let Z101 := (Z10, Z97); let Z102 : List (Int × Span × Span × Span × Span) := Z99 :: Z15; let Z103 : List (Int × Span × Span × Span × Span) := Z100 :: Z102; let Z104 := GroundT.mk Z19 Z16 Z9 Z103; let Z105 := digOM Z104; let Z106 := Prod.fst Z105; let Z107 := Prod.snd Z105; let Z108 := strOM Z104 Z12; let Z109 := hardOM Z104 Z10; let Z110 := partsOM Z104 Z10; let Z111 := classOM Z104 Z12; let Z112 := Prod.fst Z107; let Z113 := Prod.snd Z107; let Z114 := Prod.fst Z111; let Z115 := Prod.snd Z111; let Z116 := Prod.snd Z109; let Z117 := Prod.fst Z109; let Z118 := Prod.snd Z110; let Z119 := Prod.fst Z110; let Z120 := Prod.snd Z108; let Z121 := Prod.fst Z108; let Z122 := workOM Z104 Z11 Z7; let Z123 := Prod.snd Z117; let Z124 := Prod.fst Z117; let Z125 := Prod.fst Z120; let Z126 := Prod.snd Z120; let Z127 := Prod.fst Z122; let Z128 := Prod.snd Z122; let Z129 := Prod.snd Z119; let Z130 := Prod.fst Z119; let Z131 := Prod.fst Z127; let Z132 := Prod.snd Z127; let Z133 := Z106 == Z6; let Z134 := Prod.fst Z130; let Z135 := Prod.snd Z130; let Z136 := Prod.snd Z129; let Z137 := Prod.fst Z129; let Z138 := Z113 == Z6; let Z139 := Z114 != Z12; let Z140 := Z115 != Z6; let Z141 := Z112 == Z30; let Z142 := Z116 != Z6; let Z143 := Z118 != Z6; let Z144 := Z121 != Z14; let Z145 := Prod.snd Z137; let Z146 := Prod.snd Z136; let Z147 := Prod.fst Z136; let Z149 := Z125 != Z14; let Z150 := Z126 != Z6; let Z151 := Z124 == Z24; let Z153 := Z128 == Z6; let Z154 := Z123 == Z28 && true; let Z155 := Z131 == Z32; let Z157 := Z134 == Z11; let Z159 := Z132 == Z33 && true; let Z160 := Z135 == Z18 && true; let Z161 := Prod.fst Z137 == Z6; let Z162 := Z147 == Z12; let Z165 := Z145 == Z17 && true; let Z166 := Z146 == Z17 && true; let Z167 := List.getD Z103 (nat_lit 0) Z98; let Z168 := List.getD Z103 (nat_lit 1) Z98; let Z169 := List.getD Z103 Z21 Z98; let Z170 := List.getD Z103 Z22 Z98; let Z171 := Prod.snd Z167; let Z172 := Prod.snd Z168; let Z173 := Prod.fst Z170; let Z174 := Prod.fst Z169; let Z175 := Prod.snd Z169; let Z176 := Prod.snd Z170; let Z177 := Prod.fst Z172; let Z178 := Prod.fst Z171; let Z179 := Prod.snd Z172; let Z180 := Prod.snd Z171; let Z183 := Prod.snd Z175; let Z184 := Prod.fst Z176; let Z185 := Prod.snd Z176; let Z186 := Prod.fst Z175; let Z187 := Value.int IntKind.i64 (Prod.fst Z177); let Z188 := Value.int IntKind.i64 (Prod.fst Z178); let Z189 := Prod.fst Z180; let Z190 := Prod.snd Z179; let Z191 := Prod.snd Z180; let Z192 := Prod.fst Z179; let Z199 := Prod.snd Z190; let Z200 := Prod.snd Z191; let Z201 := Prod.fst Z191; let Z202 := Prod.fst Z190; let Z203 := Prod.snd Z183; let Z204 := Prod.fst Z183; let Z205 := Prod.snd Z185; let Z206 := Prod.fst Z185; let Z207 := Value.int IntKind.i64 (Prod.fst Z189); let Z208 := Value.int IntKind.i64 (Prod.fst Z192); let Z217 := Prod.snd Z205; let Z218 := Prod.fst Z205; let Z219 := Prod.fst Z203; let Z220 := Prod.snd Z203; let Z221 := Value.int IntKind.i64 (Prod.fst Z202); let Z222 := Value.int IntKind.i64 (Prod.fst Z200); let Z223 := Value.int IntKind.i64 (Prod.fst Z199); let Z224 := Value.int IntKind.i64 (Prod.fst Z201); let Z234 := Z103 = Z103 ∧ True; let Z262 : List (Int × Span × Span × Span × Span) := (Z173, (Prod.fst Z178, Prod.snd Z184), (Prod.fst Z189, Prod.snd Z206), (Prod.fst Z201, Prod.snd Z218), Prod.fst Z200, Prod.snd Z217) :: Z101 :: (Z174, (Prod.fst Z177, Prod.snd Z186), (Prod.fst Z192, Prod.snd Z204), (Prod.fst Z202, Prod.snd Z219), Prod.fst Z199, Prod.snd Z220) :: Z15; let Z263 := GroundT.mk Z19 Z16 Z9 Z262; let Z266 := Prod.fst (oddOM Z263) == Z9; True ∧ True ∧ True ∧ Z3 ∧ ((Z78 ∧ Z76 ∧ Z71 ∧ (nat_lit 0 = nat_lit 0 ∧ Z34) ∧ True) ∧ Z82) ∧ Z234 ∧ True ∧ True ∧ True ∧ Z3 ∧ ((Z78 ∧ Z76 ∧ Z71 ∧ (nat_lit 2 = nat_lit 2 ∧ Z34) ∧ True) ∧ Z82) ∧ Z234 ∧ True ∧ True ∧ True ∧ Z3 ∧ ((Z78 ∧ Z76 ∧ Z71 ∧ (nat_lit 6 = nat_lit 6 ∧ Z34) ∧ True) ∧ Z80) ∧ Z234 ∧ True ∧ True ∧ True ∧ Z3 ∧ ((Z78 ∧ Z76 ∧ Z71 ∧ (nat_lit 7 = nat_lit 7 ∧ Z34) ∧ True) ∧ Z80) ∧ Z234 ∧ True ∧ True ∧ True ∧ Z3 ∧ ((Z78 ∧ Z76 ∧ Z71 ∧ (nat_lit 8 = nat_lit 8 ∧ Z34) ∧ True) ∧ Z73 ∧ Z40 = Z40 ∧ True) ∧ Z234 ∧ True ∧ True ∧ True ∧ Z3 ∧ ((Z78 ∧ Z76 ∧ Z71 ∧ (nat_lit 10 = nat_lit 10 ∧ Z34) ∧ True) ∧ True) ∧ Z234 ∧ True ∧ True ∧ True ∧ (Z6 ≤ Z6 ∧ Z6 < Z4) ∧ nat_lit 0 < nat_lit 2 ∧ True ∧ (Z70 ∧ Z79 ∧ Z79 ∧ Z72 ∧ Z77 ∧ Z72 ∧ Z77 ∧ Z72 ∧ Z77 ∧ True) ∧ True ∧ (Z6 ≤ Z13 ∧ Z13 < Z4) ∧ nat_lit 1 < nat_lit 2 ∧ (nat_lit 3 = nat_lit 3 ∧ AV.v (Value.int IntKind.i64 (Prod.fst Z167)) = AV.v (Value.int IntKind.i64 Z173) ∧ AV.v Z188 = AV.v Z188 ∧ AV.v (Value.int IntKind.i64 (Prod.snd Z178)) = AV.v (Value.int IntKind.i64 (Prod.snd Z184)) ∧ AV.v Z207 = AV.v Z207 ∧ AV.v (Value.int IntKind.i64 (Prod.snd Z189)) = AV.v (Value.int IntKind.i64 (Prod.snd Z206)) ∧ AV.v Z224 = AV.v Z224 ∧ AV.v (Value.int IntKind.i64 (Prod.snd Z201)) = AV.v (Value.int IntKind.i64 (Prod.snd Z218)) ∧ AV.v Z222 = AV.v Z222 ∧ AV.v (Value.int IntKind.i64 (Prod.snd Z200)) = AV.v (Value.int IntKind.i64 (Prod.snd Z217)) ∧ Z53 = Z53 ∧ Z85 ∧ Z85 ∧ Z81 ∧ Z83 ∧ Z81 ∧ Z83 ∧ Z81 ∧ Z83 ∧ AV.v (Value.int IntKind.i64 (Prod.fst Z168)) = AV.v (Value.int IntKind.i64 Z174) ∧ AV.v Z187 = AV.v Z187 ∧ AV.v (Value.int IntKind.i64 (Prod.snd Z177)) = AV.v (Value.int IntKind.i64 (Prod.snd Z186)) ∧ AV.v Z208 = AV.v Z208 ∧ AV.v (Value.int IntKind.i64 (Prod.snd Z192)) = AV.v (Value.int IntKind.i64 (Prod.snd Z204)) ∧ AV.v Z221 = AV.v Z221 ∧ AV.v (Value.int IntKind.i64 (Prod.snd Z202)) = AV.v (Value.int IntKind.i64 (Prod.snd Z219)) ∧ AV.v Z223 = AV.v Z223 ∧ AV.v (Value.int IntKind.i64 (Prod.snd Z199)) = AV.v (Value.int IntKind.i64 (Prod.snd Z220)) ∧ True) ∧ nat_lit 3 < nat_lit 1000000 ∧ ((Z78 ∧ Z76 ∧ Z71 ∧ (Z31 = Z31 ∧ nat_lit 0 = nat_lit 0 ∧ nat_lit 0 = nat_lit 0 ∧ nat_lit 3 = nat_lit 3) ∧ True) ∧ True) ∧ (Z262 = Z262 ∧ True) ∧ True ∧ (Z49 = Z49 ∧ Z47 = Z47 ∧ True) ∧ True ∧ ((!(Z151 && Z154)) = true → Z69) ∧ ((!(Z151 && Z154)) = false → (Z142 = true → Z69) ∧ (Z142 = false → True ∧ (Z73 ∧ Z46 = Z46 ∧ True) ∧ True ∧ ((!(Z157 && Z160)) = true → Z69) ∧ ((!(Z157 && Z160)) = false → True ∧ (Z72 ∧ Z84) ∧ True ∧ ((!(Z161 && Z165)) = true → Z69) ∧ ((!(Z161 && Z165)) = false → True ∧ (Z74 ∧ Z84) ∧ True ∧ ((!(Z162 && Z166)) = true → Z69) ∧ ((!(Z162 && Z166)) = false → (Z143 = true → Z69) ∧ (Z143 = false → (Z139 = true → Z69) ∧ (Z139 = false → (Z140 = true → Z69) ∧ (Z140 = false → (Z144 = true → Z69) ∧ (Z144 = false → (Z149 = true → Z69) ∧ (Z149 = false → (Z150 = true → Z69) ∧ (Z150 = false → True ∧ (Z50 = Z50 ∧ Z51 = Z51 ∧ True) ∧ True ∧ ((Z155 && Z159) = true → (Z153 = true → (Z133 = true → (Z141 = true → (Z138 = true → (Z266 = true → True ∧ (Value.bool (Prod.snd (oddOM Z263) == Z6) = Z1 ∧ True) ∧ Z0) ∧ (Z266 = false → Z69)) ∧ (Z138 = false → Z69)) ∧ (Z141 = false → Z69)) ∧ (Z133 = false → Z69)) ∧ (Z153 = false → Z69)) ∧ ((Z155 && Z159) = false → Z69)))))))))))))
    (by kernel_rfl) ?_
  simp only [eq_self, true_and, and_true, Int.toNat_natCast, Nat.zero_add, Nat.sub_zero, Value.int.injEq, Value.bool.injEq, decide_eq_true_eq, decide_eq_false_iff_not]
  simp only [c1, c2, c3, c4, c5, c6]
  simp
  exact ⟨fun _ => congrArg Prod.snd c7, congrArg Prod.fst c7⟩

theorem awake_sound : Sound Try.prog 8 awakeS.con := FSpec.sound _ (enter_of Try.func8 (by kernel_rfl) (by kernel_rfl)) awake_ok
end AE.Soil

namespace AE.Soil
open Go AE Go.Proofs

/-- How far a place is from another one. -/
def D (p k : Int) : Int := max (k - p) (p - k)
theorem D_nonneg (p k : Int) : 0 ≤ D p k := by unfold D; omega
theorem D_self (p : Int) : D p p = 0 := by unfold D; omega
theorem D_comm (p k : Int) : D p k = D k p := by unfold D; omega
theorem D_tri (p j k : Int) : D p k ≤ D p j + D j k := by unfold D; omega
theorem D_le {p k n : Int} (h1 : 0 ≤ p) (h2 : p ≤ n) (h3 : 0 ≤ k) (h4 : k ≤ n) : D p k ≤ n := by unfold D; omega
theorem D_suc (k : Int) : D k (k + 1) = 1 := by unfold D; omega
theorem D_pre (k : Int) : D (k + 1) k = 1 := by unfold D; omega
theorem DR_tri (p j k r : Int) (hr : 0 ≤ r) : D p k * r ≤ D p j * r + D j k * r := by
  rw [← Int.add_mul]; exact Int.mul_le_mul_of_nonneg_right (D_tri p j k) hr
theorem DR_nonneg (p k r : Int) (hr : 0 ≤ r) : 0 ≤ D p k * r := Int.mul_nonneg (D_nonneg p k) hr
theorem DR_le {p k n r m : Int} (h : D p k ≤ n) (hr : 0 ≤ r) (hm : r ≤ m) (hn : 0 ≤ n) : D p k * r ≤ n * m := Int.mul_le_mul h hm hr hn

def Pl (g : GroundT) (k : Int) : Prop := 0 ≤ k ∧ k ≤ g.long
theorem far_eq {g : GroundT} (hg : GOk g) {p : PitT} (hp : PitOk g.long p) {k : Int} (hk : Pl g k) : farM p k g.rise = D p.1 k * g.rise ∧ 0 ≤ D p.1 k * g.rise ∧ D p.1 k * g.rise ≤ 40000 := by
  have h1 := hp.at_
  have h2 := hg.long
  have h3 := hg.rise
  have h4 : D p.1 k ≤ 40 := D_le h1.1 (by omega) hk.1 (by have := hk.2; omega)
  have h5 := DR_nonneg p.1 k g.rise h3.1
  have h6 : D p.1 k * g.rise ≤ 40000 := DR_le h4 h3.1 h3.2 (by omega)
  have hk1 := hk.1
  have hk2 := hk.2
  refine ⟨?_, h5, h6⟩
  unfold farM
  rw [show W (k - p.1) = k - p.1 from wrap_id (by omega) (by omega), show W (p.1 - k) = p.1 - k from wrap_id (by omega) (by omega)]
  exact wrap_id (by show _ ≤ D p.1 k * g.rise; omega) (by show D p.1 k * g.rise ≤ _; omega)
theorem dug_eq {g : GroundT} (hg : GOk g) {p : PitT} (hp : PitOk g.long p) {k : Int} (hk : Pl g k) : dugM p k g.rise = (p.2.1.1 - D p.1 k * g.rise, p.2.1.2 + D p.1 k * g.rise) := by
  obtain ⟨h1, h2, h3⟩ := far_eq hg hp hk
  have h4 : 0 ≤ p.2.1.1 ∧ p.2.1.1 ≤ p.2.1.2 ∧ p.2.1.2 ≤ 1000 := hp.hard
  unfold dugM
  rw [h1]
  rw [show W (p.2.1.1 - D p.1 k * g.rise) = p.2.1.1 - D p.1 k * g.rise from wrap_id (by omega) (by omega), show W (p.2.1.2 + D p.1 k * g.rise) = p.2.1.2 + D p.1 k * g.rise from wrap_id (by omega) (by omega)]
theorem fold_lo {α : Type} (f : α → Span) (v : Int) : ∀ (l : List α) (s : Span), (l.foldl (fun s t => bothM s (f t)) s).1 ≤ v ↔ s.1 ≤ v ∧ ∀ t ∈ l, (f t).1 ≤ v
  | [], s => by simp
  | x :: l, s => by
    rw [List.foldl_cons, fold_lo f v l]
    simp only [bothM, List.forall_mem_cons]
    constructor
    · rintro ⟨h1, h2⟩; exact ⟨by omega, by omega, h2⟩
    · rintro ⟨h1, h2, h3⟩; exact ⟨by omega, h3⟩
theorem fold_hi {α : Type} (f : α → Span) (v : Int) : ∀ (l : List α) (s : Span), v ≤ (l.foldl (fun s t => bothM s (f t)) s).2 ↔ v ≤ s.2 ∧ ∀ t ∈ l, v ≤ (f t).2
  | [], s => by simp
  | x :: l, s => by
    rw [List.foldl_cons, fold_hi f v l]
    simp only [bothM, List.forall_mem_cons]
    constructor
    · rintro ⟨h1, h2⟩; exact ⟨by omega, by omega, h2⟩
    · rintro ⟨h1, h2, h3⟩; exact ⟨by omega, h3⟩
theorem hard_lo {g : GroundT} (hg : GOk g) {k : Int} (hk : Pl g k) (v : Int) : (hardM g k).1 ≤ v ↔ 0 ≤ v ∧ ∀ p ∈ g.pits, p.2.1.1 - D p.1 k * g.rise ≤ v := by
  unfold hardM hardTM
  rw [fold_lo (fun t => tellM t k g.rise), tells_eq]
  simp only [List.forall_mem_cons, List.forall_mem_map, tellM, if_true]
  constructor
  · rintro ⟨h1, _, h3⟩
    refine ⟨h1, fun p hp => ?_⟩
    have := h3 p hp
    simp only [Bool.false_eq_true, if_false] at this
    rw [dug_eq hg (hg.pits p hp) hk] at this; exact this
  · rintro ⟨h1, h3⟩
    refine ⟨h1, h1, fun p hp => ?_⟩
    simp only [Bool.false_eq_true, if_false]
    rw [dug_eq hg (hg.pits p hp) hk]; exact h3 p hp
theorem hard_hi {g : GroundT} (hg : GOk g) {k : Int} (hk : Pl g k) (v : Int) : v ≤ (hardM g k).2 ↔ v ≤ 1000 ∧ ∀ p ∈ g.pits, v ≤ p.2.1.2 + D p.1 k * g.rise := by
  unfold hardM hardTM
  rw [fold_hi (fun t => tellM t k g.rise), tells_eq]
  simp only [List.forall_mem_cons, List.forall_mem_map, tellM, if_true]
  constructor
  · rintro ⟨h1, _, h3⟩
    refine ⟨h1, fun p hp => ?_⟩
    have := h3 p hp
    simp only [Bool.false_eq_true, if_false] at this
    rw [dug_eq hg (hg.pits p hp) hk] at this; exact this
  · rintro ⟨h1, h3⟩
    refine ⟨h1, h1, fun p hp => ?_⟩
    simp only [Bool.false_eq_true, if_false]
    rw [dug_eq hg (hg.pits p hp) hk]; exact h3 p hp
theorem hard_ge0 {g : GroundT} (hg : GOk g) {k : Int} (hk : Pl g k) : 0 ≤ (hardM g k).1 := ((hard_lo hg hk _).1 (Int.le_refl _)).1
theorem hard_le1000 {g : GroundT} (hg : GOk g) {k : Int} (hk : Pl g k) : (hardM g k).2 ≤ 1000 := ((hard_hi hg hk _).1 (Int.le_refl _)).1
/-- Neither end changes faster than it can. -/
theorem lip_lo {g : GroundT} (hg : GOk g) {j k : Int} (hj : Pl g j) (hk : Pl g k) : (hardM g j).1 ≤ (hardM g k).1 + D j k * g.rise := by
  obtain ⟨h1, h2⟩ := (hard_lo hg hk _).1 (Int.le_refl _)
  refine (hard_lo hg hj _).2 ⟨by have := DR_nonneg j k g.rise hg.rise.1; omega, fun p hp => ?_⟩
  have := h2 p hp
  have := DR_tri p.1 j k g.rise hg.rise.1
  omega
theorem lip_hi {g : GroundT} (hg : GOk g) {j k : Int} (hj : Pl g j) (hk : Pl g k) : (hardM g k).2 ≤ (hardM g j).2 + D j k * g.rise := by
  obtain ⟨h1, h2⟩ := (hard_hi hg hk _).1 (Int.le_refl _)
  have : (hardM g k).2 - D j k * g.rise ≤ (hardM g j).2 := by
    refine (hard_hi hg hj _).2 ⟨by have := DR_nonneg j k g.rise hg.rise.1; omega, fun p hp => ?_⟩
    have := h2 p hp
    have := DR_tri p.1 j k g.rise hg.rise.1
    omega
  omega
/-! ### truths of hardness -/
structure HTr (g : GroundT) (h : Int → Int) : Prop where
  bound : ∀ k, Pl g k → 0 ≤ h k ∧ h k ≤ 1000
  step : ∀ k, Pl g k → Pl g (k + 1) → h (k + 1) ≤ h k + g.rise ∧ h k ≤ h (k + 1) + g.rise
  pits : ∀ p ∈ g.pits, p.2.1.1 ≤ h p.1 ∧ h p.1 ≤ p.2.1.2
theorem HTr.up {g : GroundT} {h : Int → Int} (t : HTr g h) {k : Int} (hk : Pl g k) : ∀ n : Nat, Pl g (k + n) → h (k + n) ≤ h k + n * g.rise ∧ h k ≤ h (k + n) + n * g.rise
  | 0, _ => by simp
  | n + 1, hn => by
    have hk1 := hk.1
    have hk2 := hk.2
    have hn1 : 0 ≤ k + ((n + 1 : Nat) : Int) := hn.1
    have hn2 : k + ((n + 1 : Nat) : Int) ≤ g.long := hn.2
    have hp : Pl g (k + n) := ⟨by omega, by omega⟩
    obtain ⟨i1, i2⟩ := t.up hk n hp
    have he : k + ((n + 1 : Nat) : Int) = k + n + 1 := by omega
    obtain ⟨s1, s2⟩ := t.step (k + n) hp (by rw [← he]; exact hn)
    have hm : ((n + 1 : Nat) : Int) * g.rise = n * g.rise + g.rise := by rw [Int.natCast_succ, Int.add_mul, Int.one_mul]
    rw [he, hm]
    exact ⟨by omega, by omega⟩
theorem HTr.lip {g : GroundT} {h : Int → Int} (t : HTr g h) {j k : Int} (hj : Pl g j) (hk : Pl g k) : h j ≤ h k + D j k * g.rise ∧ h k ≤ h j + D j k * g.rise := by
  rcases Int.le_total j k with hl | hl
  · obtain ⟨n, hn⟩ := Int.eq_ofNat_of_zero_le (show 0 ≤ k - j by omega)
    have he : k = j + n := by omega
    subst he
    have := t.up hj n hk
    have hd : D j (j + n) = n := by unfold D; omega
    rw [hd]; omega
  · obtain ⟨n, hn⟩ := Int.eq_ofNat_of_zero_le (show 0 ≤ j - k by omega)
    have he : j = k + n := by omega
    subst he
    have := t.up hk n hj
    have hd : D (k + n) k = n := by unfold D; omega
    rw [hd]; omega
theorem HTr.inside {g : GroundT} (hg : GOk g) {h : Int → Int} (t : HTr g h) {k : Int} (hk : Pl g k) : (hardM g k).1 ≤ h k ∧ h k ≤ (hardM g k).2 := by
  obtain ⟨b1, b2⟩ := t.bound k hk
  refine ⟨(hard_lo hg hk _).2 ⟨b1, fun p hp => ?_⟩, (hard_hi hg hk _).2 ⟨b2, fun p hp => ?_⟩⟩
  · have := t.lip (hg.pits p hp).at_ hk
    have := t.pits p hp
    omega
  · have := t.lip (hg.pits p hp).at_ hk
    have := t.pits p hp
    omega
/-- All that is told of hardness can be so. -/
def HOk (g : GroundT) : Prop := ∀ k, Pl g k → (hardM g k).1 ≤ (hardM g k).2
theorem hard_pit {g : GroundT} (hg : GOk g) {p : PitT} (hp : p ∈ g.pits) : p.2.1.1 ≤ (hardM g p.1).1 ∧ (hardM g p.1).2 ≤ p.2.1.2 := by
  have hk : Pl g p.1 := (hg.pits p hp).at_
  have h1 := ((hard_lo hg hk _).1 (Int.le_refl _)).2 p hp
  have h2 := ((hard_hi hg hk _).1 (Int.le_refl _)).2 p hp
  rw [D_self] at h1 h2
  omega
theorem HOk.low {g : GroundT} (hg : GOk g) (h : HOk g) : HTr g fun k => (hardM g k).1 where
  bound := fun k hk => ⟨hard_ge0 hg hk, Int.le_trans (h k hk) (hard_le1000 hg hk)⟩
  step := fun k hk hk1 => by
    have h1 := lip_lo hg hk1 hk
    have h2 := lip_lo hg hk hk1
    rw [D_pre, Int.one_mul] at h1
    rw [D_suc, Int.one_mul] at h2
    exact ⟨h1, h2⟩
  pits := fun p hp => by
    have h1 := hard_pit hg hp
    have h2 := h p.1 (hg.pits p hp).at_
    exact ⟨h1.1, by omega⟩
theorem HTr.ok {g : GroundT} (hg : GOk g) {h : Int → Int} (t : HTr g h) : HOk g := fun k hk => by
  have := t.inside hg hk
  omega
theorem hok_iff {g : GroundT} (hg : GOk g) : HOk g ↔ ∃ h, HTr g h := ⟨fun h => ⟨_, h.low hg⟩, fun ⟨_, t⟩ => t.ok hg⟩
/-- Each number that is told is that of a truth. -/
theorem hard_any {g : GroundT} (hg : GOk g) (h : HOk g) {a n : Int} (ha : Pl g a) (h1 : (hardM g a).1 ≤ n) (h2 : n ≤ (hardM g a).2) : HTr g fun k => max (hardM g k).1 (n - D a k * g.rise) where
  bound := fun k hk => by
    have := hard_ge0 hg hk
    have := h k hk
    have := hard_le1000 hg hk
    have := hard_le1000 hg ha
    have := DR_nonneg a k g.rise hg.rise.1
    omega
  step := fun k hk hk1 => by
    have h3 := lip_lo hg hk1 hk
    have h4 := lip_lo hg hk hk1
    rw [D_pre, Int.one_mul] at h3
    rw [D_suc, Int.one_mul] at h4
    have h5 := DR_tri a k (k + 1) g.rise hg.rise.1
    have h6 := DR_tri a (k + 1) k g.rise hg.rise.1
    rw [D_suc, Int.one_mul] at h5
    rw [D_pre, Int.one_mul] at h6
    show max _ _ ≤ max _ _ + _ ∧ max _ _ ≤ max _ _ + _
    constructor <;> omega
  pits := fun p hp => by
    have h3 := hard_pit hg hp
    have h4 := h p.1 (hg.pits p hp).at_
    have h5 := lip_hi hg (hg.pits p hp).at_ ha
    rw [D_comm] at h5
    show _ ≤ max _ _ ∧ max _ _ ≤ _
    constructor <;> omega
theorem hard_any_at {g : GroundT} {a n : Int} (h1 : (hardM g a).1 ≤ n) : max (hardM g a).1 (n - D a a * g.rise) = n := by rw [D_self]; omega

/-! ### what is told or not -/
theorem place_of {g : GroundT} (hg : GOk g) {k : Int} (hk : Pl g k) : ∃ j : Nat, k = (j : Int) ∧ j < nM g := by
  obtain ⟨h0, h1, h2⟩ := n_ok hg
  obtain ⟨j, rfl⟩ := Int.eq_ofNat_of_zero_le hk.1
  exact ⟨j, rfl, by have := hk.2; omega⟩
theorem pl_of {g : GroundT} (hg : GOk g) {j : Nat} (h : j < nM g) : Pl g (j : Int) := by
  obtain ⟨h0, h1, h2⟩ := n_ok hg
  exact ⟨by omega, by omega⟩
theorem look_iff (g : GroundT) : lookM g = true ↔ ∀ j, j < nM g → (hardM g (j : Int)).1 ≤ (hardM g (j : Int)).2 ∧ noneM ((boxesM g).getD j m0) = false := by
  unfold lookM
  rw [List.all_eq_true]
  simp only [List.mem_range]
  constructor
  · intro h j hj
    have h' := h j hj
    unfold badM at h'
    simp only [Bool.not_or, Bool.and_eq_true, Bool.not_eq_true', decide_eq_false_iff_not] at h'
    exact ⟨by omega, h'.2⟩
  · intro h j hj
    have h' := h j hj
    unfold badM
    simp only [Bool.not_or, Bool.and_eq_true, Bool.not_eq_true', decide_eq_false_iff_not]
    exact ⟨by omega, h'.2⟩
theorem look_hok {g : GroundT} (hg : GOk g) (h : lookM g = true) : HOk g := fun k hk => by
  obtain ⟨j, rfl, hj⟩ := place_of hg hk
  exact ((look_iff g).1 h j hj).1
theorem err_of {g : GroundT} (hg : groundM g = true) {a : Ask} {l : List Int} (ha : l.all (askM a g.long) = true) : openErrM g a l = if lookM g then 0 else 10 := open_look hg ha
theorem err_range {g : GroundT} (hg : groundM g = true) {a : Ask} {l : List Int} (ha : l.all (askM a g.long) = false) : openErrM g a l = 2 := by unfold openErrM; rw [hg, ha]; rfl
theorem hard_told {g : GroundT} (hg : groundM g = true) {k : Int} (hk : Pl g k) : hardOM g k = if lookM g then (hardM g k, 0) else ((0, 0), 10) := by
  have ha : [k].all (askM .place g.long) = true := by simp [askM, inM]; exact hk
  unfold hardOM
  rw [err_of hg ha]
  cases lookM g <;> rfl
theorem parts_told {g : GroundT} (hg : groundM g = true) {k : Int} (hk : Pl g k) : partsOM g k = if lookM g then ((boxesM g).getD k.toNat m0, 0) else (m0, 10) := by
  have ha : [k].all (askM .place g.long) = true := by simp [askM, inM]; exact hk
  unfold partsOM
  rw [err_of hg ha]
  cases lookM g <;> rfl
theorem class_told {g : GroundT} (hg : groundM g = true) {k : Int} (hk : Pl g k) : classOM g k = if lookM g then (classesM ((boxesM g).getD k.toNat m0), 0) else (0, 10) := by
  have ha : [k].all (askM .place g.long) = true := by simp [askM, inM]; exact hk
  unfold classOM
  rw [err_of hg ha]
  cases lookM g <;> rfl
/-! ### sums -/
def sumM (g : GroundT) (a : Nat) : Nat → Span
  | 0 => (0, 0)
  | i + 1 => ((sumM g a i).1 + (hardM g ((a + i : Nat) : Int)).1, (sumM g a i).2 + (hardM g ((a + i : Nat) : Int)).2)
theorem sum_add (g : GroundT) (a m : Nat) : ∀ n, sumM g a (m + n) = ((sumM g a m).1 + (sumM g (a + m) n).1, (sumM g a m).2 + (sumM g (a + m) n).2)
  | 0 => by simp [sumM]
  | n + 1 => by
    rw [← Nat.add_assoc, sumM, sum_add g a m n, sumM, Nat.add_assoc a m n, Int.add_assoc, Int.add_assoc]
theorem sum_bound {g : GroundT} (hg : GOk g) (h : HOk g) (a : Nat) : ∀ i, a + i ≤ nM g → 0 ≤ (sumM g a i).1 ∧ (sumM g a i).1 ≤ (sumM g a i).2 ∧ (sumM g a i).2 ≤ 1000 * i
  | 0, _ => by simp [sumM]
  | i + 1, hi => by
    obtain ⟨h1, h2, h3⟩ := sum_bound hg h a i (by omega)
    have hk := pl_of hg (show a + i < nM g by omega)
    have := hard_ge0 hg hk
    have := h _ hk
    have := hard_le1000 hg hk
    simp only [sumM]
    omega
theorem workAt_eq {g : GroundT} (hg : GOk g) (h : HOk g) (a : Int) : ∀ i, a.toNat + i ≤ nM g → workAtM g a i = sumM g a.toNat i
  | 0, _ => rfl
  | i + 1, hi => by
    have e := workAt_eq hg h a i (by omega)
    obtain ⟨h1, h2, h3⟩ := sum_bound hg h a.toNat i (by omega)
    have hn := (n_ok hg).2.2
    have hk := pl_of hg (show a.toNat + i < nM g by omega)
    have := hard_ge0 hg hk
    have := h _ hk
    have := hard_le1000 hg hk
    rw [workAtM, e, hards_get (by omega), sumM, show W ((sumM g a.toNat i).1 + (hardM g ((a.toNat + i : Nat) : Int)).1) = _ from wrap_id (by omega) (by omega), show W ((sumM g a.toNat i).2 + (hardM g ((a.toNat + i : Nat) : Int)).2) = _ from wrap_id (by omega) (by omega)]
theorem work_told {g : GroundT} (hg : groundM g = true) {a b : Int} (ha : Pl g a) (hb : Pl g b) (hab : a ≤ b) : workOM g a b = if lookM g then (sumM g a.toNat (b.toNat + 1 - a.toNat), 0) else ((0, 0), 10) := by
  have hs : [a, b].all (askM (.span (spanOkM a b)) g.long) = true := by simp [askM, inM, spanOkM]; exact ⟨⟨ha, hab⟩, hb, hab⟩
  have hok := ground_ok hg
  have hn := n_ok hok
  have hb2 := hb.2
  have hb1 := hb.1
  have ha1 := ha.1
  unfold workOM workErrM
  rw [err_of hg hs]
  cases hl : lookM g with
  | false => rfl
  | true =>
    have hw : W (b + 1) = b + 1 := wrap_id (by omega) (by omega)
    have e : workNM a b = b.toNat + 1 - a.toNat := by unfold workNM; rw [hw]; omega
    show (workAtM g a (workNM a b), (0 : Int)) = _
    rw [e, workAt_eq hok (look_hok hok hl) a _ (by omega)]; rfl
theorem work_range {g : GroundT} (hg : groundM g = true) {a b : Int} (hab : ¬ (Pl g a ∧ Pl g b ∧ a ≤ b)) : workOM g a b = ((0, 0), 2) := by
  have hs : [a, b].all (askM (.span (spanOkM a b)) g.long) = false := by
    have : ¬ [a, b].all (askM (.span (spanOkM a b)) g.long) = true := by
      simp [askM, inM, spanOkM]
      intro h1 h2 h3 h4 h5
      exact absurd ⟨⟨h1, h2⟩, ⟨h4, h5⟩, h3⟩ hab
    simpa using this
  unfold workOM workErrM
  rw [err_range hg hs]; rfl
/-! ### where to dig -/
theorem dig_at {g : GroundT} (hg : GOk g) (h : HOk g) : ∀ i, i ≤ nM g → (i = 0 → digAtM (hardsM g (nM g)) i = (0, -1)) ∧ (0 < i → ∃ a : Nat, a < i ∧ digAtM (hardsM g (nM g)) i = ((a : Int), (hardM g (a : Int)).2 - (hardM g (a : Int)).1) ∧ ∀ k : Nat, k < i → (hardM g (k : Int)).2 - (hardM g (k : Int)).1 ≤ (hardM g (a : Int)).2 - (hardM g (a : Int)).1 ∧ (k < a → (hardM g (k : Int)).2 - (hardM g (k : Int)).1 < (hardM g (a : Int)).2 - (hardM g (a : Int)).1))
  | 0, _ => ⟨fun _ => rfl, fun h => absurd h (Nat.lt_irrefl _)⟩
  | i + 1, hi => by
    refine ⟨fun h => absurd h (by omega), fun _ => ?_⟩
    obtain ⟨i1, i2⟩ := dig_at hg h i (by omega)
    have hk := pl_of hg (show i < nM g by omega)
    have b1 := hard_ge0 hg hk
    have b2 := h _ hk
    have b3 := hard_le1000 hg hk
    have hW : W ((hardM g (i : Int)).2 - (hardM g (i : Int)).1) = (hardM g (i : Int)).2 - (hardM g (i : Int)).1 := wrap_id (by omega) (by omega)
    have e : digAtM (hardsM g (nM g)) (i + 1) = digStepM i (hardM g (i : Int)) (digAtM (hardsM g (nM g)) i) := by rw [digAtM, hards_get (by omega)]
    rw [e]
    unfold digStepM
    rw [hW]
    by_cases h0 : i = 0
    · subst h0
      rw [i1 rfl, if_pos (by show _ > (-1 : Int); omega)]
      refine ⟨0, by omega, rfl, fun k hk => ?_⟩
      have : k = 0 := by omega
      subst this
      exact ⟨Int.le_refl _, fun h => absurd h (Nat.lt_irrefl _)⟩
    · obtain ⟨a, ha, he, hall⟩ := i2 (by omega)
      rw [he]
      by_cases hc : (hardM g (i : Int)).2 - (hardM g (i : Int)).1 > (hardM g (a : Int)).2 - (hardM g (a : Int)).1
      · rw [if_pos hc]
        refine ⟨i, by omega, rfl, fun k hk => ?_⟩
        rcases Nat.lt_or_eq_of_le (Nat.le_of_lt_succ hk) with hlt | rfl
        · have := (hall k hlt).1
          exact ⟨by omega, fun _ => by omega⟩
        · exact ⟨Int.le_refl _, fun h => absurd h (Nat.lt_irrefl _)⟩
      · rw [if_neg hc]
        refine ⟨a, by omega, rfl, fun k hk => ?_⟩
        rcases Nat.lt_or_eq_of_le (Nat.le_of_lt_succ hk) with hlt | rfl
        · exact hall k hlt
        · exact ⟨by omega, fun _ => by omega⟩
theorem dig_told {g : GroundT} (hg : groundM g = true) (hl : lookM g = true) : ∃ a : Nat, a < nM g ∧ digOM g = ((a : Int), (hardM g (a : Int)).2 - (hardM g (a : Int)).1, 0) ∧ ∀ k : Nat, k < nM g → (hardM g (k : Int)).2 - (hardM g (k : Int)).1 ≤ (hardM g (a : Int)).2 - (hardM g (a : Int)).1 ∧ (k < a → (hardM g (k : Int)).2 - (hardM g (k : Int)).1 < (hardM g (a : Int)).2 - (hardM g (a : Int)).1) := by
  have hok := ground_ok hg
  obtain ⟨_, h2⟩ := dig_at hok (look_hok hok hl) (nM g) (Nat.le_refl _)
  obtain ⟨a, ha, he, hall⟩ := h2 (n_ok hok).2.1
  refine ⟨a, ha, ?_, hall⟩
  unfold digOM digErrM
  rw [err_of hg (by rfl), hl]
  show ((digAtM (hardsM g (nM g)) (nM g)).1, (digAtM (hardsM g (nM g)) (nM g)).2, (0 : Int)) = _
  rw [he]
theorem dig_clash {g : GroundT} (hg : groundM g = true) (hl : lookM g = false) : digOM g = (0, 0, 10) := by
  unfold digOM digErrM
  rw [err_of hg (by rfl), hl]; rfl
end AE.Soil

namespace AE.Soil
open Go AE Go.Proofs

abbrev T3 := Int × Int × Int
/-- Three parts that are all there is. -/
def Ok3 (x : T3) : Prop := x.1 + x.2.1 + x.2.2 = 20 ∧ 0 ≤ x.1 ∧ 0 ≤ x.2.1 ∧ 0 ≤ x.2.2
def In (s : Span) (n : Int) : Prop := s.1 ≤ n ∧ n ≤ s.2
/-- A mix that a box holds. -/
def Mem (m : Mix3) (x : T3) : Prop := x.1 + x.2.1 + x.2.2 = 20 ∧ In m.1 x.1 ∧ In m.2.1 x.2.1 ∧ In m.2.2 x.2.2
structure Tight (m : Mix3) : Prop where
  a : 0 ≤ m.1.1 ∧ m.1.1 ≤ m.1.2 ∧ m.1.2 ≤ 20
  b : 0 ≤ m.2.1.1 ∧ m.2.1.1 ≤ m.2.1.2 ∧ m.2.1.2 ≤ 20
  c : 0 ≤ m.2.2.1 ∧ m.2.2.1 ≤ m.2.2.2 ∧ m.2.2.2 ≤ 20
  la : 20 ≤ m.1.1 + m.2.1.2 + m.2.2.2
  lb : 20 ≤ m.1.2 + m.2.1.1 + m.2.2.2
  lc : 20 ≤ m.1.2 + m.2.1.2 + m.2.2.1
  ha : m.1.2 + m.2.1.1 + m.2.2.1 ≤ 20
  hb : m.1.1 + m.2.1.2 + m.2.2.1 ≤ 20
  hc : m.1.1 + m.2.1.1 + m.2.2.2 ≤ 20
def Bd1 (n : Int) : Prop := -60 ≤ n ∧ n ≤ 60
structure Bd (m : Mix3) : Prop where
  a : Bd1 m.1.1 ∧ Bd1 m.1.2
  b : Bd1 m.2.1.1 ∧ Bd1 m.2.1.2
  c : Bd1 m.2.2.1 ∧ Bd1 m.2.2.2
def Good (m : Mix3) : Prop := (noneM m = true ∧ Bd m) ∨ Tight m
theorem none_iff (m : Mix3) : noneM m = true ↔ (m.1.1 > m.1.2 ∨ m.2.1.1 > m.2.1.2) ∨ m.2.2.1 > m.2.2.2 := by simp [noneM]
theorem some_iff (m : Mix3) : noneM m = false ↔ m.1.1 ≤ m.1.2 ∧ m.2.1.1 ≤ m.2.1.2 ∧ m.2.2.1 ≤ m.2.2.2 := by
  cases h : noneM m with
  | true => rw [none_iff] at h; constructor <;> intro h2 <;> first | (cases h2; done) | omega
  | false =>
    have : ¬ noneM m = true := by rw [h]; decide
    rw [none_iff] at this
    exact ⟨fun _ => by omega, fun _ => rfl⟩
theorem Tight.some {m : Mix3} (h : Tight m) : noneM m = false := (some_iff m).2 ⟨h.a.2.1, h.b.2.1, h.c.2.1⟩
theorem Tight.bd {m : Mix3} (h : Tight m) : Bd m where
  a := by have := h.a; unfold Bd1; omega
  b := by have := h.b; unfold Bd1; omega
  c := by have := h.c; unfold Bd1; omega
theorem Good.bd {m : Mix3} (h : Good m) : Bd m := by
  rcases h with h | h
  · exact h.2
  · exact h.bd
theorem Good.tight {m : Mix3} (h : Good m) (hs : noneM m = false) : Tight m := by
  rcases h with h | h
  · rw [h.1] at hs; cases hs
  · exact h
/-- Three spans hold numbers that are so much together. -/
theorem pt3 {p1 q1 p2 q2 p3 q3 s : Int} (h1 : p1 ≤ q1) (h2 : p2 ≤ q2) (h3 : p3 ≤ q3) (hl : p1 + p2 + p3 ≤ s) (hh : s ≤ q1 + q2 + q3) : ∃ x : T3, x.1 + x.2.1 + x.2.2 = s ∧ In (p1, q1) x.1 ∧ In (p2, q2) x.2.1 ∧ In (p3, q3) x.2.2 := by
  obtain ⟨a, ha⟩ : ∃ a, a = max p1 (s - q2 - q3) := ⟨_, rfl⟩
  obtain ⟨b, hb⟩ : ∃ b, b = max p2 (s - a - q3) := ⟨_, rfl⟩
  refine ⟨(a, b, s - a - b), ?_, ⟨?_, ?_⟩, ⟨?_, ?_⟩, ?_, ?_⟩ <;> dsimp only <;> omega
theorem Tight.lowA {m : Mix3} (h : Tight m) {v : Int} (hv : In m.1 v) : ∃ x, Mem m x ∧ x.1 = v := by
  obtain ⟨ha, hb, hc, la, lb, lc, ka, kb, kc⟩ := h
  obtain ⟨v1, v2⟩ := hv
  obtain ⟨x, h1, h2, h3, h4⟩ := pt3 (p1 := v) (q1 := v) (p2 := m.2.1.1) (q2 := m.2.1.2) (p3 := m.2.2.1) (q3 := m.2.2.2) (s := 20) (Int.le_refl _) hb.2.1 hc.2.1 (by omega) (by omega)
  have e : x.1 = v := by have := h2.1; have := h2.2; dsimp only at *; omega
  exact ⟨x, ⟨h1, by rw [e]; exact ⟨v1, v2⟩, h3, h4⟩, e⟩
theorem Tight.lowB {m : Mix3} (h : Tight m) {v : Int} (hv : In m.2.1 v) : ∃ x, Mem m x ∧ x.2.1 = v := by
  obtain ⟨ha, hb, hc, la, lb, lc, ka, kb, kc⟩ := h
  obtain ⟨v1, v2⟩ := hv
  obtain ⟨x, h1, h2, h3, h4⟩ := pt3 (p2 := v) (q2 := v) (p1 := m.1.1) (q1 := m.1.2) (p3 := m.2.2.1) (q3 := m.2.2.2) (s := 20) ha.2.1 (Int.le_refl _) hc.2.1 (by omega) (by omega)
  have e : x.2.1 = v := by have := h3.1; have := h3.2; dsimp only at *; omega
  exact ⟨x, ⟨h1, h2, by rw [e]; exact ⟨v1, v2⟩, h4⟩, e⟩
theorem Tight.lowC {m : Mix3} (h : Tight m) {v : Int} (hv : In m.2.2 v) : ∃ x, Mem m x ∧ x.2.2 = v := by
  obtain ⟨ha, hb, hc, la, lb, lc, ka, kb, kc⟩ := h
  obtain ⟨v1, v2⟩ := hv
  obtain ⟨x, h1, h2, h3, h4⟩ := pt3 (p3 := v) (q3 := v) (p1 := m.1.1) (q1 := m.1.2) (p2 := m.2.1.1) (q2 := m.2.1.2) (s := 20) ha.2.1 hb.2.1 (Int.le_refl _) (by omega) (by omega)
  have e : x.2.2 = v := by have := h4.1; have := h4.2; dsimp only at *; omega
  exact ⟨x, ⟨h1, h2, h3, by rw [e]; exact ⟨v1, v2⟩⟩, e⟩
theorem Tight.ex {m : Mix3} (h : Tight m) : ∃ x, Mem m x := by
  obtain ⟨x, hx, _⟩ := h.lowA ⟨Int.le_refl _, h.a.2.1⟩
  exact ⟨x, hx⟩
theorem Mem.some {m : Mix3} {x : T3} (h : Mem m x) : noneM m = false := by
  obtain ⟨_, h1, h2, h3⟩ := h
  exact (some_iff m).2 ⟨Int.le_trans h1.1 h1.2, Int.le_trans h2.1 h2.2, Int.le_trans h3.1 h3.2⟩
theorem Good.ex_iff {m : Mix3} (h : Good m) : noneM m = false ↔ ∃ x, Mem m x := ⟨fun hs => (h.tight hs).ex, fun ⟨_, hx⟩ => hx.some⟩
theorem Mem.ok3 {m : Mix3} (h : Good m) {x : T3} (hx : Mem m x) : Ok3 x := by
  have t := h.tight hx.some
  obtain ⟨h0, h1, h2, h3⟩ := hx
  exact ⟨h0, Int.le_trans t.a.1 h1.1, Int.le_trans t.b.1 h2.1, Int.le_trans t.c.1 h3.1⟩
/-! ### as tight as can be -/
theorem one_eq {a b c : Span} (hb : Bd1 b.1 ∧ Bd1 b.2) (hc : Bd1 c.1 ∧ Bd1 c.2) : oneM a b c = (max (max 0 a.1) (20 - b.2 - c.2), min (min 20 a.2) (20 - b.1 - c.1)) := by
  obtain ⟨⟨b1, b2⟩, b3, b4⟩ := hb
  obtain ⟨⟨c1, c2⟩, c3, c4⟩ := hc
  unfold oneM
  rw [show W (20 - b.2) = 20 - b.2 from wrap_id (by omega) (by omega), show W (20 - b.1) = 20 - b.1 from wrap_id (by omega) (by omega), show W (20 - b.2 - c.2) = 20 - b.2 - c.2 from wrap_id (by omega) (by omega), show W (20 - b.1 - c.1) = 20 - b.1 - c.1 from wrap_id (by omega) (by omega)]
theorem tight_eq {m : Mix3} (h : Bd m) : tightM m = ((max (max 0 m.1.1) (20 - m.2.1.2 - m.2.2.2), min (min 20 m.1.2) (20 - m.2.1.1 - m.2.2.1)), (max (max 0 m.2.1.1) (20 - m.1.2 - m.2.2.2), min (min 20 m.2.1.2) (20 - m.1.1 - m.2.2.1)), (max (max 0 m.2.2.1) (20 - m.1.2 - m.2.1.2), min (min 20 m.2.2.2) (20 - m.1.1 - m.2.1.1))) := by
  unfold tightM
  rw [one_eq h.b h.c, one_eq h.a h.c, one_eq h.a h.b]
theorem max3 {L a b c : Int} (h : L = max (max a b) c) : a ≤ L ∧ b ≤ L ∧ c ≤ L ∧ (L = a ∨ L = b ∨ L = c) := by omega
theorem min3 {L a b c : Int} (h : L = min (min a b) c) : L ≤ a ∧ L ≤ b ∧ L ≤ c ∧ (L = a ∨ L = b ∨ L = c) := by omega
theorem tight_mem {m : Mix3} (h : Bd m) (x : T3) : Mem (tightM m) x ↔ Mem m x ∧ Ok3 x := by
  rw [tight_eq h]
  unfold Mem Ok3 In
  dsimp only
  simp only [Int.max_le, Int.le_min]
  constructor
  · rintro ⟨h0, h1, h2, h3⟩
    exact ⟨⟨h0, ⟨h1.1.1.2, h1.2.1.2⟩, ⟨h2.1.1.2, h2.2.1.2⟩, ⟨h3.1.1.2, h3.2.1.2⟩⟩, h0, h1.1.1.1, h2.1.1.1, h3.1.1.1⟩
  · rintro ⟨⟨h0, h1, h2, h3⟩, _, h4, h5, h6⟩
    refine ⟨h0, ⟨⟨⟨h4, h1.1⟩, ?_⟩, ⟨?_, h1.2⟩, ?_⟩, ⟨⟨⟨h5, h2.1⟩, ?_⟩, ⟨?_, h2.2⟩, ?_⟩, ⟨⟨h6, h3.1⟩, ?_⟩, ⟨?_, h3.2⟩, ?_⟩ <;> omega
/-- An end of one span, and the others' other ends. -/
theorem end_lo {a1 a2 b1 b2 c1 c2 La Ha Lb Hb Lc Hc : Int} (la : La = max (max 0 a1) (20 - b2 - c2)) (ha : Ha = min (min 20 a2) (20 - b1 - c1)) (lb : Lb = max (max 0 b1) (20 - a2 - c2)) (hb : Hb = min (min 20 b2) (20 - a1 - c1)) (lc : Lc = max (max 0 c1) (20 - a2 - b2)) (hc : Hc = min (min 20 c2) (20 - a1 - b1))
    (na : La ≤ Ha) (nb : Lb ≤ Hb) (nc : Lc ≤ Hc) : 20 ≤ La + Hb + Hc := by
  obtain ⟨f1, f2, f3, _⟩ := max3 la
  obtain ⟨_, _, f6, _⟩ := min3 ha
  obtain ⟨g1, g2, _, _⟩ := max3 lb
  obtain ⟨_, f9, _, f7⟩ := min3 hb
  obtain ⟨g3, g4, _, _⟩ := max3 lc
  obtain ⟨_, f10, _, f8⟩ := min3 hc
  clear la ha lb hb lc hc
  rcases f7 with e1 | e1 | e1 <;> rcases f8 with e2 | e2 | e2 <;> omega
theorem end_hi {a1 a2 b1 b2 c1 c2 La Ha Lb Hb Lc Hc : Int} (la : La = max (max 0 a1) (20 - b2 - c2)) (ha : Ha = min (min 20 a2) (20 - b1 - c1)) (lb : Lb = max (max 0 b1) (20 - a2 - c2)) (hb : Hb = min (min 20 b2) (20 - a1 - c1)) (lc : Lc = max (max 0 c1) (20 - a2 - b2)) (hc : Hc = min (min 20 c2) (20 - a1 - b1))
    (na : La ≤ Ha) (nb : Lb ≤ Hb) (nc : Lc ≤ Hc) (wb : 0 ≤ b1 ∨ a2 + c1 ≤ 20) (wc : 0 ≤ c1 ∨ a2 + b1 ≤ 20) : Ha + Lb + Lc ≤ 20 := by
  obtain ⟨f1, f2, f3, _⟩ := max3 la
  obtain ⟨h1, h2, h3, _⟩ := min3 ha
  obtain ⟨g1, g2, _, f7⟩ := max3 lb
  obtain ⟨k1, k2, k3, _⟩ := min3 hb
  obtain ⟨g3, g4, _, f8⟩ := max3 lc
  obtain ⟨k4, k5, k6, _⟩ := min3 hc
  clear la ha lb hb lc hc
  rcases f7 with e1 | e1 | e1 <;> rcases f8 with e2 | e2 | e2 <;> omega
/-- Six ends, as tight as can be. -/
theorem six_ends {a1 a2 b1 b2 c1 c2 La Ha Lb Hb Lc Hc : Int} (la : La = max (max 0 a1) (20 - b2 - c2)) (ha : Ha = min (min 20 a2) (20 - b1 - c1)) (lb : Lb = max (max 0 b1) (20 - a2 - c2)) (hb : Hb = min (min 20 b2) (20 - a1 - c1)) (lc : Lc = max (max 0 c1) (20 - a2 - b2)) (hc : Hc = min (min 20 c2) (20 - a1 - b1))
    (na : La ≤ Ha) (nb : Lb ≤ Hb) (nc : Lc ≤ Hc) (wab : 0 ≤ b1 ∨ a2 + c1 ≤ 20) (wac : 0 ≤ c1 ∨ a2 + b1 ≤ 20) (wba : 0 ≤ a1 ∨ b2 + c1 ≤ 20) (wbc : 0 ≤ c1 ∨ b2 + a1 ≤ 20) (wca : 0 ≤ a1 ∨ c2 + b1 ≤ 20) (wcb : 0 ≤ b1 ∨ c2 + a1 ≤ 20) : Tight ((La, Ha), (Lb, Hb), (Lc, Hc)) := by
  have s1 : 20 - c2 - b2 = 20 - b2 - c2 := by omega
  have s2 : 20 - c1 - b1 = 20 - b1 - c1 := by omega
  have s3 : 20 - c2 - a2 = 20 - a2 - c2 := by omega
  have s4 : 20 - c1 - a1 = 20 - a1 - c1 := by omega
  have s5 : 20 - b2 - a2 = 20 - a2 - b2 := by omega
  have s6 : 20 - b1 - a1 = 20 - a1 - b1 := by omega
  have r1 := end_lo la ha lb hb lc hc na nb nc
  have r2 := end_lo (a1 := b1) (a2 := b2) (b1 := a1) (b2 := a2) (c1 := c1) (c2 := c2) lb hb la ha (by rw [s5]; exact lc) (by rw [s6]; exact hc) nb na nc
  have r3 := end_lo (a1 := c1) (a2 := c2) (b1 := a1) (b2 := a2) (c1 := b1) (c2 := b2) lc hc (by rw [s1]; exact la) (by rw [s2]; exact ha) (by rw [s3]; exact lb) (by rw [s4]; exact hb) nc na nb
  have t1 := end_hi la ha lb hb lc hc na nb nc wab wac
  have t2 := end_hi (a1 := b1) (a2 := b2) (b1 := a1) (b2 := a2) (c1 := c1) (c2 := c2) lb hb la ha (by rw [s5]; exact lc) (by rw [s6]; exact hc) nb na nc wba wbc
  have t3 := end_hi (a1 := c1) (a2 := c2) (b1 := a1) (b2 := a2) (c1 := b1) (c2 := b2) lc hc (by rw [s1]; exact la) (by rw [s2]; exact ha) (by rw [s3]; exact lb) (by rw [s4]; exact hb) nc na nb wca wcb
  have f1 := (max3 la).1
  have f2 := (min3 ha).1
  have f3 := (max3 lb).1
  have f4 := (min3 hb).1
  have f5 := (max3 lc).1
  have f6 := (min3 hc).1
  exact ⟨⟨f1, na, f2⟩, ⟨f3, nb, f4⟩, ⟨f5, nc, f6⟩, r1, by show 20 ≤ Ha + Lb + Hc; clear la ha lb hb lc hc; omega, by show 20 ≤ Ha + Hb + Lc; clear la ha lb hb lc hc; omega, t1, by show La + Hb + Lc ≤ 20; clear la ha lb hb lc hc; omega, by show La + Lb + Hc ≤ 20; clear la ha lb hb lc hc; omega⟩
/-- None lies below none, or what others leave does not reach there. -/
structure Pw (m : Mix3) : Prop where
  ab : 0 ≤ m.2.1.1 ∨ m.1.2 + m.2.2.1 ≤ 20
  ac : 0 ≤ m.2.2.1 ∨ m.1.2 + m.2.1.1 ≤ 20
  ba : 0 ≤ m.1.1 ∨ m.2.1.2 + m.2.2.1 ≤ 20
  bc : 0 ≤ m.2.2.1 ∨ m.2.1.2 + m.1.1 ≤ 20
  ca : 0 ≤ m.1.1 ∨ m.2.2.2 + m.2.1.1 ≤ 20
  cb : 0 ≤ m.2.1.1 ∨ m.2.2.2 + m.1.1 ≤ 20
theorem tight_good {m : Mix3} (h : Bd m) (w : Pw m) (hs : noneM (tightM m) = false) : Tight (tightM m) := by
  rw [tight_eq h] at hs ⊢
  obtain ⟨na, nb, nc⟩ := (some_iff _).1 hs
  exact six_ends rfl rfl rfl rfl rfl rfl na nb nc w.ab w.ac w.ba w.bc w.ca w.cb
theorem tight_bd {m : Mix3} (h : Bd m) (ha : m.1.1 ≤ 20 ∧ 0 ≤ m.1.2) (hb : m.2.1.1 ≤ 20 ∧ 0 ≤ m.2.1.2) (hc : m.2.2.1 ≤ 20 ∧ 0 ≤ m.2.2.2) : Bd (tightM m) := by
  rw [tight_eq h]
  obtain ⟨⟨⟨a1, a2⟩, a3, a4⟩, ⟨⟨b1, b2⟩, b3, b4⟩, ⟨c1, c2⟩, c3, c4⟩ := h
  have up : ∀ x y z : Int, x ≤ 20 → 0 ≤ y → 0 ≤ z → Bd1 (max (max 0 x) (20 - y - z)) := fun x y z _ _ _ => by unfold Bd1; omega
  have dn : ∀ x y z : Int, 0 ≤ x → y ≤ 20 → z ≤ 20 → Bd1 (min (min 20 x) (20 - y - z)) := fun x y z _ _ _ => by unfold Bd1; omega
  exact ⟨⟨up _ _ _ ha.1 hb.2 hc.2, dn _ _ _ ha.2 hb.1 hc.1⟩, ⟨up _ _ _ hb.1 ha.2 hc.2, dn _ _ _ hb.2 ha.1 hc.1⟩, ⟨up _ _ _ hc.1 ha.2 hb.2, dn _ _ _ hc.2 ha.1 hb.1⟩⟩
/-! ### what two boxes have in common -/
theorem meet_mem (m o : Mix3) (x : T3) : Mem (meetM m o) x ↔ Mem m x ∧ Mem o x := by
  unfold Mem meetM bothM In
  dsimp only
  constructor
  · rintro ⟨h0, h1, h2, h3⟩
    exact ⟨⟨h0, by omega, by omega, by omega⟩, h0, by omega, by omega, by omega⟩
  · rintro ⟨⟨h0, h1, h2, h3⟩, _, h4, h5, h6⟩
    exact ⟨h0, by omega, by omega, by omega⟩
theorem meet_bd {m o : Mix3} (h : Bd m) (k : Bd o) : Bd (meetM m o) := by
  obtain ⟨ha, hb, hc⟩ := h
  obtain ⟨ka, kb, kc⟩ := k
  unfold Bd1 at *
  constructor <;> unfold meetM bothM Bd1 <;> dsimp only <;> omega
theorem and_mem {m o : Mix3} (h : Good m) (k : Bd o) (x : T3) : Mem (andM m o) x ↔ Mem m x ∧ Mem o x := by
  unfold andM
  by_cases hc : meetM m o = m ∨ noneM (meetM m o) = true
  · rw [if_pos hc]; exact meet_mem m o x
  · rw [if_neg hc, tight_mem (meet_bd h.bd k), meet_mem]
    exact ⟨fun hx => hx.1, fun hx => ⟨hx, hx.1.ok3 h⟩⟩
theorem and_good {m o : Mix3} (h : Good m) (k : Bd o) : Good (andM m o) := by
  unfold andM
  by_cases hc : meetM m o = m ∨ noneM (meetM m o) = true
  · rw [if_pos hc]
    rcases hc with hc | hc
    · rw [hc]; exact h
    · exact .inl ⟨hc, meet_bd h.bd k⟩
  · rw [if_neg hc]
    have hb := meet_bd h.bd k
    have hs : noneM (meetM m o) = false := by simpa using fun h => hc (.inr h)
    -- its spans lie within those of a box that is tight
    obtain ⟨h1, h2, h3⟩ := (some_iff _).1 hs
    have b1 : (meetM m o).1.1 ≤ (meetM m o).1.2 ∧ (meetM m o).1.2 ≤ m.1.2 ∧ m.1.1 ≤ (meetM m o).1.1 := ⟨h1, by unfold meetM bothM; dsimp only; omega, by unfold meetM bothM; dsimp only; omega⟩
    have b2 : (meetM m o).2.1.1 ≤ (meetM m o).2.1.2 ∧ (meetM m o).2.1.2 ≤ m.2.1.2 ∧ m.2.1.1 ≤ (meetM m o).2.1.1 := ⟨h2, by unfold meetM bothM; dsimp only; omega, by unfold meetM bothM; dsimp only; omega⟩
    have b3 : (meetM m o).2.2.1 ≤ (meetM m o).2.2.2 ∧ (meetM m o).2.2.2 ≤ m.2.2.2 ∧ m.2.2.1 ≤ (meetM m o).2.2.1 := ⟨h3, by unfold meetM bothM; dsimp only; omega, by unfold meetM bothM; dsimp only; omega⟩
    have hm : noneM m = false := (some_iff m).2 ⟨by omega, by omega, by omega⟩
    have t := h.tight hm
    have ta := t.a
    have tb := t.b
    have tc := t.c
    cases hn : noneM (tightM (meetM m o)) with
    | false => exact .inr (tight_good hb ⟨.inl (by omega), .inl (by omega), .inl (by omega), .inl (by omega), .inl (by omega), .inl (by omega)⟩ hn)
    | true => exact .inl ⟨hn, tight_bd hb ⟨by omega, by omega⟩ ⟨by omega, by omega⟩ ⟨by omega, by omega⟩⟩
/-! ### what the next place can have -/
def Near (c : Int) (x y : T3) : Prop := (x.1 - y.1 ≤ c ∧ y.1 - x.1 ≤ c) ∧ (x.2.1 - y.2.1 ≤ c ∧ y.2.1 - x.2.1 ≤ c) ∧ (x.2.2 - y.2.2 ≤ c ∧ y.2.2 - x.2.2 ≤ c)
theorem Near.symm {c : Int} {x y : T3} (h : Near c x y) : Near c y x := ⟨h.1.symm, h.2.1.symm, h.2.2.symm⟩
theorem wide_eq {s : Span} {c : Int} (hs : 0 ≤ s.1 ∧ s.2 ≤ 20) (h2 : s.1 ≤ 20 ∧ 0 ≤ s.2) (hc : 0 ≤ c ∧ c ≤ 20) : wideM s c = (s.1 - c, s.2 + c) := by
  unfold wideM
  rw [show W (s.1 - c) = s.1 - c from wrap_id (by omega) (by omega), show W (s.2 + c) = s.2 + c from wrap_id (by omega) (by omega)]
theorem next_eq {m : Mix3} (h : Tight m) {c : Int} (hc : 0 ≤ c ∧ c ≤ 20) : nextM m c = tightM ((m.1.1 - c, m.1.2 + c), (m.2.1.1 - c, m.2.1.2 + c), (m.2.2.1 - c, m.2.2.2 + c)) := by
  have ta := h.a
  have tb := h.b
  have tc := h.c
  unfold nextM
  rw [h.some, if_neg (by decide), wide_eq ⟨by omega, by omega⟩ ⟨by omega, by omega⟩ hc, wide_eq ⟨by omega, by omega⟩ ⟨by omega, by omega⟩ hc, wide_eq ⟨by omega, by omega⟩ ⟨by omega, by omega⟩ hc]
theorem next_bd {m : Mix3} (h : Tight m) {c : Int} (hc : 0 ≤ c ∧ c ≤ 20) : Bd ((m.1.1 - c, m.1.2 + c), (m.2.1.1 - c, m.2.1.2 + c), (m.2.2.1 - c, m.2.2.2 + c)) := by
  have ta := h.a
  have tb := h.b
  have tc := h.c
  constructor <;> unfold Bd1 <;> dsimp only <;> omega
theorem cut2 {l h y c : Int} (h0 : l ≤ h) (h1 : l - c ≤ y) (h2 : y ≤ h + c) (hc : 0 ≤ c) : ∃ p q : Int, l ≤ p ∧ y - c ≤ p ∧ q ≤ h ∧ q ≤ y + c ∧ (p = l ∨ p = y - c) ∧ (q = h ∨ q = y + c) ∧ p ≤ q := ⟨max l (y - c), min h (y + c), by omega, by omega, by omega, by omega, by omega, by omega, by omega⟩
theorem next_mem {m : Mix3} (h : Good m) {c : Int} (hc : 0 ≤ c ∧ c ≤ 20) (y : T3) : Mem (nextM m c) y ↔ Ok3 y ∧ ∃ x, Mem m x ∧ Near c x y := by
  cases hs : noneM m with
  | true =>
    have e : nextM m c = m := by unfold nextM; rw [hs]; rfl
    rw [e]
    constructor
    · intro hy; have := hy.some; rw [hs] at this; cases this
    · rintro ⟨_, x, hx, _⟩; have := hx.some; rw [hs] at this; cases this
  | false =>
    have t := h.tight hs
    rw [next_eq t hc, tight_mem (next_bd t hc)]
    constructor
    · rintro ⟨⟨h0, ⟨h1, h2⟩, ⟨h3, h4⟩, h5, h6⟩, hy⟩
      refine ⟨hy, ?_⟩
      dsimp only at h1 h2 h3 h4 h5 h6
      obtain ⟨ta, tb, tc, la, lb, lc, ka, kb, kc⟩ := t
      obtain ⟨p1, q1, a1, a2, a3, a4, g1, k1, r1⟩ := cut2 (y := y.1) ta.2.1 h1 h2 hc.1
      obtain ⟨p2, q2, b1, b2, b3, b4, g2, k2, r2⟩ := cut2 (y := y.2.1) tb.2.1 h3 h4 hc.1
      obtain ⟨p3, q3, c1, c2, c3, c4, g3, k3, r3⟩ := cut2 (y := y.2.2) tc.2.1 h5 h6 hc.1
      have hy1 := hy.1
      have rl : p1 + p2 + p3 ≤ 20 := by
        clear k1 k2 k3 r1 r2 r3 a1 a2 a3 a4 b1 b2 b3 b4 c1 c2 c3 c4
        rcases g1 with g1 | g1 <;> rcases g2 with g2 | g2 <;> rcases g3 with g3 | g3 <;> omega
      have rh : 20 ≤ q1 + q2 + q3 := by
        clear g1 g2 g3 r1 r2 r3 rl a1 a2 a3 a4 b1 b2 b3 b4 c1 c2 c3 c4
        rcases k1 with k1 | k1 <;> rcases k2 with k2 | k2 <;> rcases k3 with k3 | k3 <;> omega
      obtain ⟨x, x0, ⟨x1, x2⟩, ⟨x3, x4⟩, x5, x6⟩ := pt3 r1 r2 r3 rl rh
      dsimp only at x1 x2 x3 x4 x5 x6
      exact ⟨x, ⟨x0, ⟨by omega, by omega⟩, ⟨by omega, by omega⟩, by omega, by omega⟩, ⟨by omega, by omega⟩, ⟨by omega, by omega⟩, by omega, by omega⟩
    · rintro ⟨hy, x, ⟨x0, ⟨x1, x2⟩, ⟨x3, x4⟩, x5, x6⟩, ⟨n1, n2⟩, ⟨n3, n4⟩, n5, n6⟩
      exact ⟨⟨hy.1, ⟨by dsimp only; omega, by dsimp only; omega⟩, ⟨by dsimp only; omega, by dsimp only; omega⟩, by dsimp only; omega, by dsimp only; omega⟩, hy⟩
theorem next_good {m : Mix3} (h : Good m) {c : Int} (hc : 0 ≤ c ∧ c ≤ 20) : Good (nextM m c) := by
  cases hs : noneM m with
  | true =>
    have e : nextM m c = m := by unfold nextM; rw [hs]; rfl
    rw [e]; exact h
  | false =>
    have t := h.tight hs
    obtain ⟨x, hx⟩ := t.ex
    have hm := (next_mem h hc x).2 ⟨hx.ok3 h, x, hx, ⟨by omega, by omega⟩, ⟨by omega, by omega⟩, by omega, by omega⟩
    have hn := hm.some
    rw [next_eq t hc] at hn ⊢
    obtain ⟨ta, tb, tc, la, lb, lc, ka, kb, kc⟩ := t
    exact .inr (tight_good (next_bd (h.tight hs) hc) ⟨.inr (by dsimp only; omega), .inr (by dsimp only; omega), .inr (by dsimp only; omega), .inr (by dsimp only; omega), .inr (by dsimp only; omega), .inr (by dsimp only; omega)⟩ hn)
theorem next_bd' {m : Mix3} (h : Good m) {c : Int} (hc : 0 ≤ c ∧ c ≤ 20) : Bd (nextM m c) := (next_good h hc).bd
end AE.Soil

namespace AE.Soil
open Go AE Go.Proofs

/-- A mix that all that is told at a place lets in. -/
def Al (g : GroundT) (k : Nat) (x : T3) : Prop := Ok3 x ∧ ∀ p ∈ g.pits, p.1 = (k : Int) → In p.2.2.1 x.1 ∧ In p.2.2.2.1 x.2.1 ∧ In p.2.2.2.2 x.2.2
theorem any_tight : Tight anyM := ⟨by decide, by decide, by decide, by decide, by decide, by decide, by decide, by decide, by decide⟩
theorem any_mem (x : T3) : Mem anyM x ↔ Ok3 x := by
  unfold Mem Ok3 In anyM
  dsimp only
  constructor
  · rintro ⟨h0, h1, h2, h3⟩; exact ⟨h0, h1.1, h2.1, h3.1⟩
  · rintro ⟨h0, h1, h2, h3⟩; exact ⟨h0, ⟨h1, by omega⟩, ⟨h2, by omega⟩, h3, by omega⟩
theorem pit_bd {n : Int} {p : PitT} (h : PitOk n p) : Bd p.2.2 := by
  obtain ⟨_, _, h1, h2, h3⟩ := h
  unfold SpOk at h1 h2 h3
  constructor <;> unfold Bd1 <;> omega
theorem pit_uniq {l : List PitT} (h : l.Pairwise fun p q => p.1 < q.1) {p q : PitT} (hp : p ∈ l) (hq : q ∈ l) (e : p.1 = q.1) : p = q := by
  obtain ⟨i, hi, rfl⟩ := List.getElem_of_mem hp
  obtain ⟨j, hj, rfl⟩ := List.getElem_of_mem hq
  rcases Nat.lt_trichotomy i j with hlt | rfl | hlt
  · have := List.pairwise_iff_getElem.1 h i j hi hj hlt; omega
  · rfl
  · have := List.pairwise_iff_getElem.1 h j i hj hi hlt; omega
theorem mixAt_ok {g : GroundT} (hg : GOk g) (k : Nat) : Good (mixAtM (pmapM g.pits) (k : Int)) ∧ ∀ x, Mem (mixAtM (pmapM g.pits) (k : Int)) x ↔ Al g k x := by
  cases hf : mfind UU MM.pits [(k : Int)] (pmapM g.pits) with
  | none =>
    have e : mixAtM (pmapM g.pits) (k : Int) = anyM := mixAt_no (by unfold mhasM; rw [hf]; rfl)
    rw [e]
    refine ⟨.inr any_tight, fun x => ?_⟩
    rw [any_mem]
    refine ⟨fun h => ⟨h, fun p hp hk => ?_⟩, fun h => h.1⟩
    have hn := List.find?_eq_none.1 hf (p.1, p.2.2) (List.mem_map.2 ⟨p, hp, rfl⟩)
    exact absurd (by rw [← hk]; exact decide_eq_true rfl) hn
  | some v =>
    have hm := List.mem_of_find?_eq_some hf
    have hk : [(k : Int)] = UU.mkey MM.pits v := of_decide_eq_true (List.find?_some (p := fun e => decide ([(k : Int)] = UU.mkey MM.pits e)) hf)
    obtain ⟨p, hp, hpe⟩ := List.mem_map.1 (show v ∈ g.pits.map (fun p => (p.1, p.2.2)) from hm)
    have hpk : p.1 = (k : Int) := by
      have h1 : [(k : Int)] = [v.1] := hk
      rw [← hpe] at h1
      exact (List.cons.inj h1).1.symm
    have e : mixAtM (pmapM g.pits) (k : Int) = andM anyM p.2.2 := by
      rw [mixAt_yes (by unfold mhasM; rw [hf]; rfl)]
      unfold mgetM
      rw [hf, ← hpe]; rfl
    rw [e]
    have hb := pit_bd (hg.pits p hp)
    refine ⟨and_good (.inr any_tight) hb, fun x => ?_⟩
    rw [and_mem (.inr any_tight) hb, any_mem]
    constructor
    · rintro ⟨h1, h2⟩
      refine ⟨h1, fun q hq hqk => ?_⟩
      rw [pit_uniq hg.inc hq hp (by rw [hqk, hpk])]
      exact h2.2
    · rintro ⟨h1, h2⟩
      exact ⟨h1, h1.1, h2 p hp hpk⟩
/-! ### chains -/
def Ch (A : Nat → T3 → Prop) (c : Int) : Nat → T3 → Prop
  | 0, x => A 0 x
  | k + 1, x => A (k + 1) x ∧ ∃ y, Ch A c k y ∧ Near c y x
theorem Ch.head {A : Nat → T3 → Prop} {c : Int} : ∀ {k : Nat} {x : T3}, Ch A c k x → A k x
  | 0, _, h => h
  | _ + 1, _, h => h.1
theorem ch_ex {A : Nat → T3 → Prop} {c : Int} : ∀ {k : Nat} {x : T3}, Ch A c k x → ∃ m : Nat → T3, m k = x ∧ (∀ i, i ≤ k → Ch A c i (m i)) ∧ ∀ i, i < k → Near c (m i) (m (i + 1))
  | 0, x, h => ⟨fun _ => x, rfl, fun i hi => by rw [Nat.le_zero.1 hi]; exact h, fun i hi => absurd hi (Nat.not_lt_zero i)⟩
  | k + 1, x, h => by
    obtain ⟨ha, y, hy, hn⟩ := h
    obtain ⟨m, hm, h1, h2⟩ := ch_ex hy
    refine ⟨fun i => if i ≤ k then m i else x, if_neg (by omega), fun i hi => ?_, fun i hi => ?_⟩
    · show Ch A c i (if i ≤ k then m i else x)
      by_cases hc : i ≤ k
      · rw [if_pos hc]; exact h1 i hc
      · rw [if_neg hc]
        have : i = k + 1 := by omega
        subst this
        exact ⟨ha, y, hy, hn⟩
    · show Near c (if i ≤ k then m i else x) (if i + 1 ≤ k then m (i + 1) else x)
      rw [if_pos (by omega : i ≤ k)]
      by_cases hc : i + 1 ≤ k
      · rw [if_pos hc]; exact h2 i (by omega)
      · rw [if_neg hc]
        have : i = k := by omega
        subst this
        rw [hm]; exact hn
theorem ch_of {A : Nat → T3 → Prop} {c : Int} {m : Nat → T3} : ∀ {k : Nat}, (∀ i, i ≤ k → A i (m i)) → (∀ i, i < k → Near c (m i) (m (i + 1))) → Ch A c k (m k)
  | 0, h, _ => h 0 (Nat.le_refl 0)
  | k + 1, h, hn => ⟨h _ (Nat.le_refl _), m k, ch_of (fun i hi => h i (by omega)) (fun i hi => hn i (by omega)), hn k (by omega)⟩
theorem ch_iff {A B : Nat → T3 → Prop} {c : Int} : ∀ {k : Nat} {x : T3}, (∀ i, i ≤ k → ∀ x, A i x ↔ B i x) → (Ch A c k x ↔ Ch B c k x)
  | 0, x, h => h 0 (Nat.le_refl 0) x
  | k + 1, x, h => by
    unfold Ch
    rw [h (k + 1) (Nat.le_refl _) x]
    constructor
    · rintro ⟨h1, y, h2, h3⟩; exact ⟨h1, y, (ch_iff fun i hi => h i (by omega)).1 h2, h3⟩
    · rintro ⟨h1, y, h2, h3⟩; exact ⟨h1, y, (ch_iff fun i hi => h i (by omega)).2 h2, h3⟩
theorem acc_ok {l : List Mix3} {b : Bool} {c : Int} (hc : 0 ≤ c ∧ c ≤ 20) (hl : ∀ j, j < l.length → Good (l.getD j m0)) : ∀ k, k < l.length → Good (accM l b c k) ∧ ∀ x, Mem (accM l b c k) x ↔ Ch (fun i x => Mem (l.getD (idxM l.length b i) m0) x) c k x
  | 0, hk => ⟨hl _ (idx_lt b hk), fun x => Iff.rfl⟩
  | k + 1, hk => by
    obtain ⟨h1, h2⟩ := acc_ok hc hl k (by omega)
    have hg := hl _ (idx_lt b hk)
    refine ⟨and_good hg (next_bd' h1 hc), fun x => ?_⟩
    show Mem (andM (l.getD (idxM l.length b (k + 1)) m0) (nextM (accM l b c k) c)) x ↔ _
    rw [and_mem hg (next_bd' h1 hc), next_mem h1 hc]
    constructor
    · rintro ⟨h3, _, y, h4, h5⟩; exact ⟨h3, y, (h2 y).1 h4, h5⟩
    · rintro ⟨h3, y, h4, h5⟩; exact ⟨h3, h3.ok3 hg, y, (h2 y).2 h4, h5⟩
theorem pass_at {l : List Mix3} {b : Bool} {c : Int} {j : Nat} (hj : j < l.length) : (passM l b c l.length).getD j m0 = accM l b c (idxM l.length b j) := by
  unfold passM
  rw [map_get _ _ _ _ hj, if_pos (idx_lt b hj)]
theorem stage0 {g : GroundT} (hg : GOk g) {j : Nat} (hj : j < nM g) : Good ((stageM g 0).getD j m0) ∧ ∀ x, Mem ((stageM g 0).getD j m0) x ↔ Al g j x := by
  have e : (stageM g 0).getD j m0 = mixAtM (pmapM g.pits) (j : Int) := by
    unfold stageM mixesM
    rw [map_get _ _ _ _ hj, if_pos hj]
  rw [e]; exact mixAt_ok hg j
theorem stage1 {g : GroundT} (hg : GOk g) {j : Nat} (hj : j < nM g) : Good ((stageM g 1).getD j m0) ∧ ∀ x, Mem ((stageM g 1).getD j m0) x ↔ Ch (Al g) g.change j x := by
  have hlen := stage_len g 0
  have e : (stageM g 1).getD j m0 = accM (stageM g 0) false g.change j := by
    have := pass_at (l := stageM g 0) (b := false) (c := g.change) (j := j) (by omega)
    rw [hlen] at this; exact this
  rw [e]
  obtain ⟨h1, h2⟩ := acc_ok (l := stageM g 0) (b := false) hg.change (fun i hi => (stage0 hg (by omega)).1) j (by omega)
  refine ⟨h1, fun x => ?_⟩
  rw [h2]
  exact ch_iff fun i hi x => (stage0 hg (by show (idxM _ false i) < _; unfold idxM; rw [if_neg (by decide)]; omega)).2 x
theorem stage2 {g : GroundT} (hg : GOk g) {j : Nat} (hj : j < nM g) : Good ((boxesM g).getD j m0) ∧ ∀ x, Mem ((boxesM g).getD j m0) x ↔ Ch (fun i => Ch (Al g) g.change (nM g - 1 - i)) g.change (nM g - 1 - j) x := by
  have hlen := stage_len g 1
  have e : (boxesM g).getD j m0 = accM (stageM g 1) true g.change (nM g - 1 - j) := by
    have := pass_at (l := stageM g 1) (b := true) (c := g.change) (j := j) (by omega)
    rw [hlen] at this; exact this
  rw [e]
  obtain ⟨h1, h2⟩ := acc_ok (l := stageM g 1) (b := true) hg.change (fun i hi => (stage1 hg (by omega)).1) (nM g - 1 - j) (by omega)
  refine ⟨h1, fun x => ?_⟩
  rw [h2, hlen]
  exact ch_iff fun i hi x => (stage1 hg (by unfold idxM; rw [if_pos rfl]; omega)).2 x
/-! ### truths of mixes -/
structure MTr (g : GroundT) (m : Nat → T3) : Prop where
  al : ∀ k, k < nM g → Al g k (m k)
  near : ∀ k, k + 1 < nM g → Near g.change (m k) (m (k + 1))
/-- What both sides of a place let in it has in some truth. -/
theorem both_truth {g : GroundT} {j : Nat} (hj : j < nM g) {x : T3} (h1 : Ch (Al g) g.change j x) (h2 : Ch (fun i => Al g (nM g - 1 - i)) g.change (nM g - 1 - j) x) : ∃ m, MTr g m ∧ m j = x := by
  obtain ⟨l, hl, l1, l2⟩ := ch_ex h1
  obtain ⟨r, hr, r1, r2⟩ := ch_ex h2
  refine ⟨fun i => if i ≤ j then l i else r (nM g - 1 - i), ⟨fun k hk => ?_, fun k hk => ?_⟩, by show (if j ≤ j then l j else _) = x; rw [if_pos (Nat.le_refl j)]; exact hl⟩
  · show Al g k (if k ≤ j then l k else r (nM g - 1 - k))
    by_cases hc : k ≤ j
    · rw [if_pos hc]; exact (l1 k hc).head
    · rw [if_neg hc]
      have := (r1 (nM g - 1 - k) (by omega)).head
      rwa [show nM g - 1 - (nM g - 1 - k) = k by omega] at this
  · show Near g.change (if k ≤ j then l k else r (nM g - 1 - k)) (if k + 1 ≤ j then l (k + 1) else r (nM g - 1 - (k + 1)))
    by_cases hc : k + 1 ≤ j
    · rw [if_pos hc, if_pos (by omega)]; exact l2 k (by omega)
    · rw [if_neg hc]
      have hn := r2 (nM g - 1 - (k + 1)) (by omega)
      rw [show nM g - 1 - (k + 1) + 1 = nM g - 1 - k by omega] at hn
      by_cases hc2 : k ≤ j
      · rw [if_pos hc2]
        have : k = j := by omega
        subst this
        rw [hl, ← hr]; exact hn.symm
      · rw [if_neg hc2]; exact hn.symm
theorem MTr.fwd {g : GroundT} {m : Nat → T3} (t : MTr g m) {j : Nat} (hj : j < nM g) : Ch (Al g) g.change j (m j) := ch_of (fun i hi => t.al i (by omega)) (fun i hi => t.near i (by omega))
theorem MTr.bwd {g : GroundT} {m : Nat → T3} (t : MTr g m) {j : Nat} (hj : j < nM g) : Ch (fun i => Al g (nM g - 1 - i)) g.change (nM g - 1 - j) (m j) := by
  have := ch_of (A := fun i => Al g (nM g - 1 - i)) (c := g.change) (m := fun i => m (nM g - 1 - i)) (k := nM g - 1 - j) (fun i hi => t.al _ (by omega)) (fun i hi => by
    have := t.near (nM g - 1 - (i + 1)) (by omega)
    rw [show nM g - 1 - (i + 1) + 1 = nM g - 1 - i by omega] at this
    exact this.symm)
  rwa [show nM g - 1 - (nM g - 1 - j) = j by omega] at this
theorem box_truth {g : GroundT} (hg : GOk g) {j : Nat} (hj : j < nM g) (x : T3) : Mem ((boxesM g).getD j m0) x ↔ ∃ m, MTr g m ∧ m j = x := by
  rw [(stage2 hg hj).2]
  constructor
  · intro h
    obtain ⟨r, hr, r1, _⟩ := ch_ex h
    have h1 := (r1 (nM g - 1 - j) (Nat.le_refl _)).head
    rw [hr, show nM g - 1 - (nM g - 1 - j) = j by omega] at h1
    refine both_truth hj h1 ?_
    obtain ⟨r, rfl, r1, r2⟩ := ch_ex h
    exact ch_of (fun i hi => (r1 i hi).head.head) r2
  · rintro ⟨m, t, rfl⟩
    have := ch_of (A := fun i => Ch (Al g) g.change (nM g - 1 - i)) (c := g.change) (m := fun i => m (nM g - 1 - i)) (k := nM g - 1 - j) (fun i hi => t.fwd (by omega)) (fun i hi => by
      have := t.near (nM g - 1 - (i + 1)) (by omega)
      rw [show nM g - 1 - (i + 1) + 1 = nM g - 1 - i by omega] at this
      exact this.symm)
    rwa [show nM g - 1 - (nM g - 1 - j) = j by omega] at this
theorem box_some {g : GroundT} (hg : GOk g) {j : Nat} (hj : j < nM g) : noneM ((boxesM g).getD j m0) = false ↔ ∃ m, MTr g m := by
  rw [(stage2 hg hj).1.ex_iff]
  constructor
  · rintro ⟨x, hx⟩
    obtain ⟨m, t, _⟩ := (box_truth hg hj x).1 hx
    exact ⟨m, t⟩
  · rintro ⟨m, t⟩
    exact ⟨m j, (box_truth hg hj _).2 ⟨m, t, rfl⟩⟩
/-- A ground has a truth just if nothing that is looked at is empty. -/
theorem look_truth {g : GroundT} (hg : GOk g) : lookM g = true ↔ (∃ h, HTr g h) ∧ ∃ m, MTr g m := by
  rw [look_iff]
  obtain ⟨n0, n1, n2⟩ := n_ok hg
  constructor
  · intro h
    refine ⟨(hok_iff hg).1 fun k hk => ?_, (box_some hg n1).1 (h 0 n1).2⟩
    obtain ⟨j, rfl, hj⟩ := place_of hg hk
    exact (h j hj).1
  · rintro ⟨⟨h, t⟩, hm⟩ j hj
    exact ⟨t.ok hg _ (pl_of hg hj), (box_some hg hj).2 hm⟩
theorem box_tight {g : GroundT} (hg : GOk g) (hl : lookM g = true) {j : Nat} (hj : j < nM g) : Tight ((boxesM g).getD j m0) := (stage2 hg hj).1.tight ((look_iff g).1 hl j hj).2
/-! ### classes -/
/-- The class of a mix. -/
def clsM (x : T3) : Int := if 8 ≤ x.2.2 then 3 else if 14 ≤ x.1 then 1 else if 12 ≤ x.2.1 then 2 else 0
def bitsM (c3 c1 c2 c0 : Bool) : Int := (if c3 then 8 else 0) + (if c1 then 2 else 0) + (if c2 then 4 else 0) + (if c0 then 1 else 0)
theorem half_bd : Bd (ptM .p0 anyM (fromM 8)) ∧ Bd (ptM .p0 anyM (belowM 8)) ∧ Bd (ptM .p1 anyM (fromM 14)) ∧ Bd (ptM .p1 anyM (belowM 14)) ∧ Bd (ptM .p2 anyM (fromM 12)) ∧ Bd (ptM .p2 anyM (belowM 12)) := by
  refine ⟨?_, ?_, ?_, ?_, ?_, ?_⟩ <;> (constructor <;> unfold Bd1 <;> decide)
theorem half_mem {x : T3} (h : Ok3 x) : (Mem (ptM .p0 anyM (fromM 8)) x ↔ 8 ≤ x.2.2) ∧ (Mem (ptM .p0 anyM (belowM 8)) x ↔ ¬ 8 ≤ x.2.2) ∧ (Mem (ptM .p1 anyM (fromM 14)) x ↔ 14 ≤ x.1) ∧ (Mem (ptM .p1 anyM (belowM 14)) x ↔ ¬ 14 ≤ x.1) ∧ (Mem (ptM .p2 anyM (fromM 12)) x ↔ 12 ≤ x.2.1) ∧ (Mem (ptM .p2 anyM (belowM 12)) x ↔ ¬ 12 ≤ x.2.1) := by
  obtain ⟨h0, h1, h2, h3⟩ := h
  have w8 : W (8 - 1) = 7 := by decide
  have w14 : W (14 - 1) = 13 := by decide
  have w12 : W (12 - 1) = 11 := by decide
  simp only [Mem, In, ptM, of0M, of1M, of2M, fromM, belowM, anyM, w8, w14, w12]
  refine ⟨?_, ?_, ?_, ?_, ?_, ?_⟩ <;> constructor <;> intro k <;> first | omega | exact ⟨h0, by omega, by omega, by omega⟩
theorem class_bits {m : Mix3} (h : Good m) : ∃ c3 c1 c2 c0 : Bool, classesM m = bitsM c3 c1 c2 c0 ∧ (c3 = true ↔ ∃ x, Mem m x ∧ clsM x = 3) ∧ (c1 = true ↔ ∃ x, Mem m x ∧ clsM x = 1) ∧ (c2 = true ↔ ∃ x, Mem m x ∧ clsM x = 2) ∧ (c0 = true ↔ ∃ x, Mem m x ∧ clsM x = 0) := by
  obtain ⟨b1, b2, b3, b4, b5, b6⟩ := half_bd
  have g1 : Good (leftM m 1) := and_good h b2
  have g2 : Good (leftM m 2) := and_good g1 b4
  have g3 : Good (leftM m 3) := and_good g2 b6
  have k3 : Good (andM m (ptM .p0 anyM (fromM 8))) := and_good h b1
  have k1 : Good (andM (leftM m 1) (ptM .p1 anyM (fromM 14))) := and_good g1 b3
  have k2 : Good (andM (leftM m 2) (ptM .p2 anyM (fromM 12))) := and_good g2 b5
  have m1 : ∀ x, Mem (leftM m 1) x ↔ Mem m x ∧ ¬ 8 ≤ x.2.2 := fun x => by
    rw [show leftM m 1 = andM m (ptM .p0 anyM (belowM 8)) from rfl, and_mem h b2]
    exact ⟨fun ⟨p, q⟩ => ⟨p, (half_mem (p.ok3 h)).2.1.1 q⟩, fun ⟨p, q⟩ => ⟨p, (half_mem (p.ok3 h)).2.1.2 q⟩⟩
  have m2 : ∀ x, Mem (leftM m 2) x ↔ (Mem m x ∧ ¬ 8 ≤ x.2.2) ∧ ¬ 14 ≤ x.1 := fun x => by
    rw [show leftM m 2 = andM (leftM m 1) (ptM .p1 anyM (belowM 14)) from rfl, and_mem g1 b4, m1]
    exact ⟨fun ⟨p, q⟩ => ⟨p, (half_mem (p.1.ok3 h)).2.2.2.1.1 q⟩, fun ⟨p, q⟩ => ⟨p, (half_mem (p.1.ok3 h)).2.2.2.1.2 q⟩⟩
  have m3 : ∀ x, Mem (leftM m 3) x ↔ ((Mem m x ∧ ¬ 8 ≤ x.2.2) ∧ ¬ 14 ≤ x.1) ∧ ¬ 12 ≤ x.2.1 := fun x => by
    rw [show leftM m 3 = andM (leftM m 2) (ptM .p2 anyM (belowM 12)) from rfl, and_mem g2 b6, m2]
    exact ⟨fun ⟨p, q⟩ => ⟨p, (half_mem (p.1.1.ok3 h)).2.2.2.2.2.1 q⟩, fun ⟨p, q⟩ => ⟨p, (half_mem (p.1.1.ok3 h)).2.2.2.2.2.2 q⟩⟩
  have n3 : ∀ x, Mem (andM m (ptM .p0 anyM (fromM 8))) x ↔ Mem m x ∧ 8 ≤ x.2.2 := fun x => by
    rw [and_mem h b1]
    exact ⟨fun ⟨p, q⟩ => ⟨p, (half_mem (p.ok3 h)).1.1 q⟩, fun ⟨p, q⟩ => ⟨p, (half_mem (p.ok3 h)).1.2 q⟩⟩
  have n1 : ∀ x, Mem (andM (leftM m 1) (ptM .p1 anyM (fromM 14))) x ↔ (Mem m x ∧ ¬ 8 ≤ x.2.2) ∧ 14 ≤ x.1 := fun x => by
    rw [and_mem g1 b3, m1]
    exact ⟨fun ⟨p, q⟩ => ⟨p, (half_mem (p.1.ok3 h)).2.2.1.1 q⟩, fun ⟨p, q⟩ => ⟨p, (half_mem (p.1.ok3 h)).2.2.1.2 q⟩⟩
  have n2 : ∀ x, Mem (andM (leftM m 2) (ptM .p2 anyM (fromM 12))) x ↔ ((Mem m x ∧ ¬ 8 ≤ x.2.2) ∧ ¬ 14 ≤ x.1) ∧ 12 ≤ x.2.1 := fun x => by
    rw [and_mem g2 b5, m2]
    exact ⟨fun ⟨p, q⟩ => ⟨p, (half_mem (p.1.1.ok3 h)).2.2.2.2.1.1 q⟩, fun ⟨p, q⟩ => ⟨p, (half_mem (p.1.1.ok3 h)).2.2.2.2.1.2 q⟩⟩
  have e3 := k3.ex_iff
  have e1 := k1.ex_iff
  have e2 := k2.ex_iff
  have e0 := g3.ex_iff
  have l1 : noneM (leftM m 1) = true → noneM (andM (leftM m 1) (ptM .p1 anyM (fromM 14))) = true ∧ noneM (andM (leftM m 2) (ptM .p2 anyM (fromM 12))) = true ∧ noneM (leftM m 3) = true := fun hn => by
    have no : ∀ x, ¬ (Mem m x ∧ ¬ 8 ≤ x.2.2) := fun x hx => by have := ((m1 x).2 hx).some; rw [hn] at this; cases this
    refine ⟨?_, ?_, ?_⟩
    · cases hh : noneM (andM (leftM m 1) (ptM .p1 anyM (fromM 14))) with
      | true => rfl
      | false => obtain ⟨x, hx⟩ := e1.1 hh; exact absurd ((n1 x).1 hx).1 (no x)
    · cases hh : noneM (andM (leftM m 2) (ptM .p2 anyM (fromM 12))) with
      | true => rfl
      | false => obtain ⟨x, hx⟩ := e2.1 hh; exact absurd ((n2 x).1 hx).1.1 (no x)
    · cases hh : noneM (leftM m 3) with
      | true => rfl
      | false => obtain ⟨x, hx⟩ := e0.1 hh; exact absurd ((m3 x).1 hx).1.1 (no x)
  have l2 : noneM (leftM m 2) = true → noneM (andM (leftM m 2) (ptM .p2 anyM (fromM 12))) = true ∧ noneM (leftM m 3) = true := fun hn => by
    have no : ∀ x, ¬ ((Mem m x ∧ ¬ 8 ≤ x.2.2) ∧ ¬ 14 ≤ x.1) := fun x hx => by have := ((m2 x).2 hx).some; rw [hn] at this; cases this
    refine ⟨?_, ?_⟩
    · cases hh : noneM (andM (leftM m 2) (ptM .p2 anyM (fromM 12))) with
      | true => rfl
      | false => obtain ⟨x, hx⟩ := e2.1 hh; exact absurd ((n2 x).1 hx).1 (no x)
    · cases hh : noneM (leftM m 3) with
      | true => rfl
      | false => obtain ⟨x, hx⟩ := e0.1 hh; exact absurd ((m3 x).1 hx).1 (no x)
  refine ⟨!noneM (andM m (ptM .p0 anyM (fromM 8))), !noneM (andM (leftM m 1) (ptM .p1 anyM (fromM 14))), !noneM (andM (leftM m 2) (ptM .p2 anyM (fromM 12))), !noneM (leftM m 3), ?_, ?_, ?_, ?_, ?_⟩
  · have f1 := @set1f m
    have t1 := @set1t m
    have f2 := @set2f m
    have t2 := @set2t m
    have f3 := @set3f m
    have t3 := @set3t m
    have c1 := @cls1 m
    have c2 := @cls2 m
    have c3 := @cls3 m
    have c4 := @cls4 m
    clear e3 e1 e2 e0 n3 n1 n2 m1 m2 m3 g1 g2 g3 k1 k2 k3
    revert f1 t1 f2 t2 f3 t3 c1 c2 c3 c4 l1 l2
    generalize classesM m = c
    generalize setM m 1 = s1
    generalize setM m 2 = s2
    generalize setM m 3 = s3
    generalize noneM (andM m (ptM .p0 anyM (fromM 8))) = n0
    generalize noneM (andM (leftM m 1) (ptM .p1 anyM (fromM 14))) = n1
    generalize noneM (andM (leftM m 2) (ptM .p2 anyM (fromM 12))) = n2
    generalize noneM (leftM m 1) = q1
    generalize noneM (leftM m 2) = q2
    generalize noneM (leftM m 3) = q3
    intro l1 l2 f1 t1 f2 t2 f3 t3 c1 c2 c3 c4
    cases q1 <;> cases q2 <;> cases q3 <;> cases n0 <;> cases n1 <;> cases n2 <;> first
      | (have := (l1 rfl).1; cases this; done)
      | (have := (l1 rfl).2.1; cases this; done)
      | (have := (l1 rfl).2.2; cases this; done)
      | (have := (l2 rfl).1; cases this; done)
      | (have := (l2 rfl).2; cases this; done)
      | (rw [c1 rfl]; first | rw [f1 rfl]; decide | rw [t1 rfl]; decide)
      | (rw [c2 rfl rfl]; first | rw [f2 rfl] | rw [t2 rfl]) <;> (first | rw [f1 rfl]; decide | rw [t1 rfl]; decide)
      | (rw [c3 rfl rfl rfl]; first | rw [f3 rfl] | rw [t3 rfl]) <;> (first | rw [f2 rfl] | rw [t2 rfl]) <;> (first | rw [f1 rfl]; decide | rw [t1 rfl]; decide)
      | (rw [c4 rfl rfl rfl]; first | rw [f3 rfl] | rw [t3 rfl]) <;> (first | rw [f2 rfl] | rw [t2 rfl]) <;> (first | rw [f1 rfl]; decide | rw [t1 rfl]; decide)
  · rw [Bool.not_eq_true', e3]
    refine exists_congr fun x => ?_
    rw [n3]
    refine and_congr_right fun _ => ?_
    unfold clsM
    split
    · simp [*]
    · split
      · simp [*]
      · split <;> simp [*]
  · rw [Bool.not_eq_true', e1]
    refine exists_congr fun x => ?_
    rw [n1, and_assoc]
    refine and_congr_right fun _ => ?_
    unfold clsM
    split
    · simp [*]
    · split
      · simp [*]
      · split <;> simp [*]
  · rw [Bool.not_eq_true', e2]
    refine exists_congr fun x => ?_
    rw [n2, and_assoc, and_assoc]
    refine and_congr_right fun _ => ?_
    unfold clsM
    split
    · simp [*]
    · split
      · simp [*]
      · split <;> simp [*]
  · rw [Bool.not_eq_true', e0]
    refine exists_congr fun x => ?_
    rw [m3, and_assoc, and_assoc]
    refine and_congr_right fun _ => ?_
    unfold clsM
    split
    · simp [*]
    · split
      · simp [*]
      · split <;> simp [*]
end AE.Soil

namespace AE.Soil
open Go AE Go.Proofs

def avSpan2 : AV → Option Span
  | .agg [a, b] => match avInt a, avInt b with
    | some a, some b => some (a, b)
    | _, _ => none
  | _ => none
def with1S : FSpec UU where
  X := Span × Span
  pick := fun args _ => match args with
    | [a, b] => match avSpan2 a, avSpan2 b with
      | some a, some b => some (a, b)
      | _, _ => none
    | _ => none
  args := fun x => [vSpan x.1, vSpan x.2]
  H := fun _ => []
  R := fun x => .val ⟨vSpan (bothM x.1 x.2), [], [], []⟩
def Tspan1 : Tab UU := [(23, lspanS.con)]
theorem Tspan1_ok : Tspan1.Sound Try.prog := .cons lspan_sound .nil
set_option maxRecDepth 100000 in
theorem with1_ok : ∀ x, with1S.pre x → FunOk Try.prog 69 (with1S.args x) (with1S.H x) (with1S.R x) := by
  rintro ⟨⟨a, b⟩, ⟨c, d⟩⟩ _
  refine fun_of (T := Tspan1) (L := fun _ => none) (hs := fun _ => []) hmix Tspan1_ok Try.func69 (by kernel_rfl) (by kernel_rfl) ?_
  refine Eq.mp (α :=
      let Z2 := Value.int IntKind.i64 (min b d); let Z3 := Value.int IntKind.i64 (max a c); let Z4 := bothM (a, b) (c, d); True ∧ (Z3 = Z3 ∧ Z2 = Z2 ∧ True) ∧ True ∧ True ∧ ((Z3 = Value.int IntKind.i64 (Prod.fst Z4) ∧ Z2 = Value.int IntKind.i64 (Prod.snd Z4) ∧ True) ∧ True) ∧ True ∧ True)
    (by kernel_rfl) ?_
  simp only [eq_self, true_and, and_true, Int.toNat_natCast, Nat.zero_add, Nat.sub_zero, Value.int.injEq, Value.bool.injEq, decide_eq_true_eq, decide_eq_false_iff_not]
  simp [bothM]

theorem with1_sound : Sound Try.prog 69 with1S.con := FSpec.sound _ (enter_of Try.func69 (by kernel_rfl) (by kernel_rfl)) with1_ok
/-! ### with -/
def mergeM (o p : PitT) : PitT := (o.1, bothM o.2.1 p.2.1, bothM o.2.2.1 p.2.2.1, bothM o.2.2.2.1 p.2.2.2.1, bothM o.2.2.2.2 p.2.2.2.2)
def wstepM (p o : PitT) (r : List PitT × Bool) : List PitT × Bool :=
  if !r.2 && decide (o.1 > p.1) then (if o.1 = p.1 then ((r.1 ++ [p]) ++ [mergeM o p], true) else ((r.1 ++ [p]) ++ [o], true)) else (if o.1 = p.1 then (r.1 ++ [mergeM o p], true) else (r.1 ++ [o], r.2))
def wAtM (l : List PitT) (p : PitT) : Nat → List PitT × Bool
  | 0 => ([], false)
  | i + 1 => wstepM p (l.getD i pit0) (wAtM l p i)
def withM (l : List PitT) (p : PitT) : List PitT := if (wAtM l p l.length).2 then (wAtM l p l.length).1 else (wAtM l p l.length).1 ++ [p]
theorem w_ny {l : List PitT} {p : PitT} {i : Nat} (h : (wAtM l p i).2 = false) (h1 : (l.getD i pit0).1 > p.1) (h2 : ¬ (l.getD i pit0).1 = p.1) : wAtM l p (i + 1) = (((wAtM l p i).1 ++ [p]) ++ [l.getD i pit0], true) := by
  show wstepM _ _ _ = _
  unfold wstepM
  rw [h, decide_eq_true h1, if_pos (by decide), if_neg h2]
theorem w_m {l : List PitT} {p : PitT} {i : Nat} (h : (!(wAtM l p i).2 && decide ((l.getD i pit0).1 > p.1)) = false) (h2 : (l.getD i pit0).1 = p.1) : wAtM l p (i + 1) = ((wAtM l p i).1 ++ [mergeM (l.getD i pit0) p], true) := by
  show wstepM _ _ _ = _
  unfold wstepM
  rw [h, if_neg (by decide), if_pos h2]
theorem w_n {l : List PitT} {p : PitT} {i : Nat} (h : (!(wAtM l p i).2 && decide ((l.getD i pit0).1 > p.1)) = false) (h2 : ¬ (l.getD i pit0).1 = p.1) : wAtM l p (i + 1) = ((wAtM l p i).1 ++ [l.getD i pit0], (wAtM l p i).2) := by
  show wstepM _ _ _ = _
  unfold wstepM
  rw [h, if_neg (by decide), if_neg h2]
theorem w_len (l : List PitT) (p : PitT) : ∀ i, (wAtM l p i).1.length ≤ 2 * i
  | 0 => Nat.le_refl 0
  | i + 1 => by
    have := w_len l p i
    show (wstepM _ _ _).1.length ≤ _
    unfold wstepM
    split <;> split <;> simp <;> omega
def wL (g : GroundT) (p : PitT) : LSpec UU where
  T := { i : Nat // i ≤ g.pits.length }
  fr := fun i => [(2, .ptr 1 0 0 0), (3, .ptr 2 0 0 0), (4, .ptr 3 0 0 0), (6, .fn (.func 69) [] []), (7, .ptr 4 0 0 0), (8, .b (wAtM g.pits p i.1).2), (14, .sl 0 0 0 g.pits.length), (15, .i g.pits.length), (16, .i i.1)]
  H := fun i => [.one (.ro .pit g.pits), .one (.cells (cGround g 0) 24), .one (.cells (CC.enc .pit p) 54), .one (.cells [.i 0, .i 0, .i 0, .v (.slice none 0 0)] 24), .one (.cells [.i g.long, .i g.rise, .i g.change, .gs 5 0] 24), .one (.row .pit (wAtM g.pits p i.1).1 54)]
  mu := fun i => g.pits.length - i.1
def Twith : Tab UU := [(69, with1S.con), (24, isGroundS.con)]
theorem Twith_ok : Twith.Sound Try.prog := .cons with1_sound (.cons rGround_sound .nil)
def withGM (g : GroundT) (p : PitT) : GroundT := ⟨g.long, g.rise, g.change, withM g.pits p⟩
def withS : FSpec UU where
  X := GroundT × PitT
  pick := fun args H => match args with
    | [a, b] => match avGround H a, avPit b with
      | some a, some b => some (a, b)
      | _, _ => none
    | _ => none
  args := fun x => [vGround x.1 0, vPit x.2]
  H := fun x => [.one (.ro .pit x.1.pits)]
  R := fun x => .val ⟨.tup [.agg [.i x.1.long, .i x.1.rise, .i x.1.change, .gs 1 0], .b (groundM (withGM x.1 x.2))], [], [], [.row .pit (withM x.1.pits x.2) 54]⟩
  pre := fun x => x.1.pits.length < 1000
set_option maxHeartbeats 0 in
set_option maxRecDepth 100000 in
theorem with_ok : ∀ x, withS.pre x → FunOk Try.prog 55 (withS.args x) (withS.H x) (withS.R x) := by
  rintro ⟨⟨long, rise, change, ps⟩, p⟩ hx
  obtain ⟨pa, ⟨ph, ph2⟩, ⟨ps1, ps2⟩, ⟨pi1, pi2⟩, pc1, pc2⟩ := p
  refine fun_of (T := Twith) (L := fun _ => some (.inv (wL ⟨long, rise, change, ps⟩ (pa, (ph, ph2), (ps1, ps2), (pi1, pi2), pc1, pc2)))) (hs := fun _ => []) hmix Twith_ok Try.func55 (by kernel_rfl) (by kernel_rfl) ?_
  refine Eq.mp (α :=
      let Z0 := True ∧ True; let Z1 : Option Addr := none; let Z2 := Value.bool true; let Z3 := (ps1, ps2); let Z4 := (ph, ph2); let Z5 := (pi1, pi2); let Z6 := (pc1, pc2); let Z7 := nat_lit 0 = nat_lit 0 ∧ True; let Z8 := GroundT.mk long rise change ps; let Z9 := nat_lit 1 ≤ nat_lit 1; let Z10 := Value.int IntKind.i64 change; let Z11 := Value.int IntKind.i64 ps2; let Z12 := Value.int IntKind.i64 pc2; let Z13 := Value.int IntKind.i64 ph; let Z14 := Value.int IntKind.i64 ph2; let Z15 := Value.int IntKind.i64 pi2; let Z16 := List.length ps; let Z17 := Value.int IntKind.i64 long; let Z18 := Value.int IntKind.i64 rise; let Z19 := Value.int IntKind.i64 pa; let Z20 := Value.int IntKind.i64 pi1; let Z21 := Value.int IntKind.i64 ps1; let Z22 := Value.int IntKind.i64 pc1; let Z23 := True ∧ Z0; let Z24 := nat_lit 0 = nat_lit 0 ∧ nat_lit 0 = nat_lit 0; let Z25 := AV.v Z19; let Z26 := (0 : Int); let Z27 := AV.v Z15; let Z28 := AV.v Z22; let Z29 := AV.v Z13; let Z30 := AV.v Z14; let Z31 := AV.v Z21; let Z32 := AV.v Z11; let Z33 := AV.v Z12; let Z34 := AV.v Z20; let Z35 := (1 : Int); let Z36 : List (Int × Span × Span × Span × Span) := []; let Z37 := Value.slice Z1 (nat_lit 0) (nat_lit 0); let Z38 := (0 : Nat); let Z39 := (1 : Nat); let Z40 := (7 : Nat); let Z41 := True ∧ Z23; let Z42 : List PitT := GroundT.pits Z8; let Z43 := ps = ps; let Z44 := (54 : TypeId); let Z45 := (69 : FuncId); let Z46 := True ∧ Z41; let Z47 := nat_lit 0 = nat_lit 0 ∧ Z24; let Z48 := Fn.func Z45; let Z49 := (↑Z16 : Int); let Z50 := nat_lit 54 = Z44; let Z51 := Value.int IntKind.i64 Z26; let Z52 := True ∧ Z46; let Z53 := Z16 = Z16; let Z54 := List.length Z42; let Z55 := Z20 = Z20; let Z56 := Z11 = Z11; let Z57 := Z19 = Z19; let Z58 := Z13 = Z13; let Z59 := Z14 = Z14; let Z60 := Z17 = Z17; let Z61 := Z21 = Z21; let Z62 := Z22 = Z22; let Z63 := Z18 = Z18; let Z64 := Z15 = Z15; let Z65 := Z10 = Z10; let Z66 := Z12 = Z12; let Z67 := Z27 = Z27; let Z68 := Z34 = Z34; let Z69 := Z29 = Z29; let Z70 := Z56 ∧ True; let Z71 := Z64 ∧ True; let Z72 := Z28 = Z28; let Z73 := Z33 = Z33; let Z74 := Z30 = Z30; let Z75 := Z59 ∧ True; let Z76 := Z32 = Z32; let Z77 := Z31 = Z31; let Z78 := Z25 = Z25; let Z79 := Z66 ∧ True; let Z80 := (Z5, Z6); let Z81 := Value.int IntKind.i64 Z49; let Z82 := nat_lit 0 = nat_lit 0 ∧ Z53; let Z83 := Z37 = Z37; let Z84 := (Z26, Z26); let Z85 := Z73 ∧ True; let Z86 := fun (i : Nat) => i ≤ Z54; let Z87 := Z65 ∧ Z7; let Z88 := Z83 ∧ True; let Z89 := nat_lit 0 = nat_lit 0 ∧ Z82; let Z90 := Z48 = Z48; let Z91 := Z89 ∧ True; let Z92 : Type := { i : Nat // Z86 i }; let Z93 := fun (x : Z92) => Subtype.val x; let Z94 := Z51 = Z51; let Z95 := Z90 ∧ Z0; let Z96 := Z58 ∧ Z75; let Z97 := Z62 ∧ Z79; let Z98 := Z55 ∧ Z71; let Z99 := Z61 ∧ Z70; let Z100 := (Z3, Z80); let Z101 := fun (x : Z92) => (↑(Z93 x) : Int); let Z102 := Z98 ∧ True; let Z103 := Z97 ∧ True; let Z104 := Z96 ∧ True; let Z105 := Z99 ∧ True; let Z106 := fun (t : Z92) => Int.toNat (Z101 t); let Z107 := Z63 ∧ Z87; let Z108 := Z72 ∧ Z85; let Z109 := Z81 = Z81; let Z110 := fun (x : Z92) => Value.int IntKind.i64 (Z101 x); let Z111 := Z65 ∧ Z91; let Z112 := fun (x : Z92) => Z16 - Z93 x; let Z113 := (Z84, Z84); let Z114 := fun (t : Z92) => nat_lit 0 + Z106 t; let Z115 := Z64 ∧ Z97; let Z116 := Z94 ∧ Z88; let Z117 := fun (t : Z92) => Z101 t < Z49; let Z118 := fun (t : Z92) => Z101 t + Z35; let Z119 := (Z4, Z100); let Z120 := Z60 ∧ Z107; let Z121 := fun (t : Z92) => Z38 + Z106 t; let Z122 := Z67 ∧ Z108; let Z123 := Z63 ∧ Z111; let Z124 := fun (t : Z92) => IntKind.wrap IntKind.i64 (Z118 t); let Z125 := fun (t : Z92) => Value.int IntKind.i64 (Z124 t); let Z126 := Z55 ∧ Z115; let Z127 := (pa, Z119); let Z128 := Z60 ∧ Z123; let Z129 : List PitT := withM ps Z127; let Z130 := Z68 ∧ Z122; let Z131 := (Z84, Z113); let Z132 := withGM Z8 Z127; let Z133 := Z56 ∧ Z126; let Z134 := Z94 ∧ Z116; let Z135 := groundM Z132; let Z136 := Value.bool Z135; let Z137 : List (Int × Span × Span × Span × Span) := Z127 :: Z36; let Z138 := Z76 ∧ Z130; let Z139 := fun (x t : Z92) => Z112 x < Z112 t; let Z140 : List (Int × Span × Span × Span × Span) := List.drop (nat_lit 0) Z137; let Z141 := Z61 ∧ Z133; let Z142 := fun (x : Z92) => wAtM ps Z127 (Z93 x); let Z143 : List (Int × Span × Span × Span × Span) := List.drop Z38 Z137; let Z144 : List (Int × Span × Span × Span × Span) := List.take (nat_lit 1) Z140; let Z145 := fun (t x : Z92) => Z125 t = Z110 x; let Z146 := fun (x : Z92) => Prod.snd (Z142 x); let Z147 := fun (x : Z92) => Prod.fst (Z142 x); let Z148 := fun (t x : Z92) => Z145 t x ∧ True; let Z149 := (Z84, Z131); let Z150 := fun (t : Z92) => !Z146 t; let Z151 := Z94 ∧ Z134; let Z152 := Z77 ∧ Z138; let Z153 := fun (x : Z92) => Value.bool (Z146 x); let Z154 := Z59 ∧ Z141; let Z155 := fun (t : Z92) => List.length (Z147 t); let Z156 := fun (t : Z92) => decide (Z117 t); let Z157 := fun (t : Z92) => Z150 t = true; let Z158 := fun (t : Z92) => Z150 t = false; let Z159 := fun (t : Z92) => List.length (Z147 t); let Z160 := fun (x : Z92) => Z153 x = Z2; let Z161 : List (Int × Span × Span × Span × Span) := List.take Z39 Z143; let Z162 := Z58 ∧ Z154; let Z163 := fun (t : Z92) => Z159 t + nat_lit 1; let Z164 := Z74 ∧ Z152; let Z165 := (Z26, Z149); let Z166 := fun (t : Z92) => Z163 t ≤ nat_lit 1099511627776; let Z167 := Z57 ∧ Z162; let Z168 := Z69 ∧ Z164; let Z169 := fun (t x : Z92) => Z109 ∧ Z148 t x; let Z170 := Z78 ∧ Z168; let Z171 := nat_lit 1 = nat_lit 1 ∧ Z170; let Z172 := fun (t x : Z92) => Z89 ∧ Z169 t x; let Z173 := fun (t : Z92) => List.getD ps (Z114 t) Z165; let Z174 := fun (t : Z92) => List.getD ps (Z121 t) Z165; let Z175 := fun (t : Z92) => Prod.snd (Z173 t); let Z176 := fun (t : Z92) => Prod.fst (Z173 t); let Z177 := fun (t : Z92) => Value.int IntKind.i64 (Z176 t); let Z178 := fun (t : Z92) => Z176 t > pa; let Z179 := fun (t : Z92) => AV.v (Z177 t); let Z180 := fun (t : Z92) => Prod.snd (Z174 t); let Z181 := fun (t : Z92) => Prod.fst (Z174 t); let Z182 := fun (t : Z92) => Value.int IntKind.i64 (Z181 t); let Z183 := fun (t : Z92) => Z176 t == pa; let Z184 := fun (t : Z92) => Prod.snd (Z175 t); let Z185 := fun (t : Z92) => Prod.fst (Z175 t); let Z186 := fun (t : Z92) => AV.v (Z182 t); let Z187 := fun (t x : Z92) => Z153 t = Z153 x; let Z188 := fun (t : Z92) => Prod.snd (Z185 t); let Z189 := fun (t : Z92) => Z183 t = true; let Z190 := fun (t : Z92) => Prod.fst (Z185 t); let Z191 := fun (t : Z92) => Z183 t = false; let Z192 := fun (t : Z92) => Prod.snd (Z180 t); let Z193 := fun (t : Z92) => Prod.fst (Z180 t); let Z194 := fun (t : Z92) => bothM (Z185 t) Z4; let Z195 := fun (t : Z92) => Value.int IntKind.i64 (Z190 t); let Z196 := fun (t : Z92) => Value.int IntKind.i64 (Z188 t); let Z197 := fun (t : Z92) => Prod.snd (Z184 t); let Z198 := fun (t : Z92) => Prod.fst (Z184 t); let Z199 := fun (t : Z92) => AV.v (Z195 t); let Z200 := fun (t : Z92) => AV.v (Z196 t); let Z201 := fun (t : Z92) => Prod.snd (Z193 t); let Z202 := fun (t : Z92) => Prod.fst (Z193 t); let Z203 := fun (t : Z92) => Prod.fst (Z194 t); let Z204 := fun (t : Z92) => Prod.snd (Z194 t); let Z205 := fun (t : Z92) => Prod.snd (Z198 t); let Z206 := fun (t : Z92) => Prod.fst (Z198 t); let Z207 := fun (t : Z92) => bothM (Z193 t) Z4; let Z208 := fun (t : Z92) => Value.int IntKind.i64 (Z201 t); let Z209 := fun (t : Z92) => Prod.fst (Z197 t); let Z210 := fun (t : Z92) => Prod.snd (Z197 t); let Z211 := fun (t : Z92) => Value.int IntKind.i64 (Z204 t); let Z212 := fun (t : Z92) => Value.int IntKind.i64 (Z203 t); let Z213 := fun (t : Z92) => Prod.snd (Z192 t); let Z214 := fun (t : Z92) => Prod.fst (Z192 t); let Z215 := fun (t : Z92) => bothM (Z198 t) Z3; let Z216 := fun (t : Z92) => AV.v (Z208 t); let Z217 := fun (t : Z92) => AV.v (Z212 t); let Z218 := fun (t : Z92) => AV.v (Z211 t); let Z219 := fun (t : Z92) => Value.int IntKind.i64 (Z205 t); let Z220 := fun (t : Z92) => Value.int IntKind.i64 (Z206 t); let Z221 := fun (t : Z92) => Prod.snd (Z207 t); let Z222 := fun (t : Z92) => Prod.fst (Z207 t); let Z223 := fun (t : Z92) => AV.v (Z219 t); let Z224 := fun (t : Z92) => AV.v (Z220 t); let Z225 := fun (t : Z92) => Prod.snd (Z210 t); let Z226 := fun (t : Z92) => Prod.snd (Z209 t); let Z227 := fun (t : Z92) => Prod.fst (Z210 t); let Z228 := fun (t : Z92) => Prod.fst (Z209 t); let Z229 := fun (t : Z92) => Prod.snd (Z214 t); let Z230 := fun (t : Z92) => Prod.fst (Z214 t); let Z231 := fun (t : Z92) => Prod.fst (Z215 t); let Z232 := fun (t : Z92) => Prod.snd (Z215 t); let Z233 := fun (t : Z92) => Prod.snd (Z213 t); let Z234 := fun (t : Z92) => Prod.fst (Z213 t); let Z235 := fun (t : Z92) => Value.int IntKind.i64 (Z221 t); let Z236 := fun (t : Z92) => bothM (Z210 t) Z6; let Z237 := fun (t : Z92) => bothM (Z209 t) Z5; let Z238 := fun (t : Z92) => bothM (Z214 t) Z3; let Z239 := fun (t : Z92) => Value.int IntKind.i64 (Z225 t); let Z240 := fun (t : Z92) => Value.int IntKind.i64 (Z228 t); let Z241 := fun (t : Z92) => AV.v (Z235 t); let Z242 := fun (t : Z92) => Value.int IntKind.i64 (Z227 t); let Z243 := fun (t : Z92) => Value.int IntKind.i64 (Z226 t); let Z244 := fun (t : Z92) => Value.int IntKind.i64 (Z229 t); let Z245 := fun (t : Z92) => Value.int IntKind.i64 (Z231 t); let Z246 := fun (t : Z92) => Value.int IntKind.i64 (Z232 t); let Z247 := fun (t : Z92) => AV.v (Z240 t); let Z248 := fun (t : Z92) => AV.v (Z242 t); let Z249 := fun (t : Z92) => AV.v (Z243 t); let Z250 := fun (t : Z92) => AV.v (Z239 t); let Z251 := fun (t : Z92) => Prod.snd (Z233 t); let Z252 := fun (t : Z92) => Prod.snd (Z234 t); let Z253 := fun (t : Z92) => Prod.fst (Z233 t); let Z254 := fun (t : Z92) => Prod.fst (Z234 t); let Z255 := fun (t : Z92) => AV.v (Z244 t); let Z256 := fun (t : Z92) => Prod.fst (Z237 t); let Z257 := fun (t : Z92) => Prod.fst (Z236 t); let Z258 := fun (t : Z92) => AV.v (Z245 t); let Z259 := fun (t : Z92) => AV.v (Z246 t); let Z260 := fun (t : Z92) => Prod.snd (Z237 t); let Z261 := fun (t : Z92) => Prod.snd (Z236 t); let Z262 := fun (t : Z92) => Prod.snd (Z238 t); let Z263 := fun (t : Z92) => Prod.fst (Z238 t); let Z264 := fun (t : Z92) => bothM (Z233 t) Z6; let Z265 := fun (t : Z92) => bothM (Z234 t) Z5; let Z266 := fun (t : Z92) => Value.int IntKind.i64 (Z251 t); let Z267 := fun (t : Z92) => Value.int IntKind.i64 (Z252 t); let Z268 := fun (t : Z92) => Value.int IntKind.i64 (Z261 t); let Z269 := fun (t : Z92) => Value.int IntKind.i64 (Z260 t); let Z270 := fun (t : Z92) => Value.int IntKind.i64 (Z256 t); let Z271 := fun (t : Z92) => Value.int IntKind.i64 (Z257 t); let Z272 := fun (t : Z92) => Z147 t ++ Z144; let Z273 := fun (t : Z92) => Value.int IntKind.i64 (Z262 t); let Z274 := fun (t : Z92) => AV.v (Z266 t); let Z275 := fun (t : Z92) => AV.v (Z267 t); let Z276 := fun (t : Z92) => AV.v (Z270 t); let Z277 := fun (t : Z92) => AV.v (Z269 t); let Z278 := fun (t : Z92) => AV.v (Z271 t); let Z279 := fun (t : Z92) => AV.v (Z268 t); let Z280 := fun (t : Z92) => Prod.fst (Z265 t); let Z281 := fun (t : Z92) => Prod.snd (Z264 t); let Z282 := fun (t : Z92) => Prod.fst (Z264 t); let Z283 := fun (t : Z92) => Prod.snd (Z265 t); let Z284 := fun (t : Z92) => AV.v (Z273 t); let Z285 := fun (t : Z92) => List.length (Z272 t); let Z286 := fun (t : Z92) => Value.int IntKind.i64 (Z281 t); let Z287 := fun (t : Z92) => Value.int IntKind.i64 (Z283 t); let Z288 := fun (t : Z92) => List.length (Z272 t); let Z289 := fun (t : Z92) => AV.v (Z287 t); let Z290 := fun (t : Z92) => AV.v (Z286 t); let Z291 := fun (t : Z92) => Z147 t ++ Z161; let Z292 := fun (t : Z92) => Z288 t + nat_lit 1; let Z293 := fun (t : Z92) => Z292 t ≤ nat_lit 1099511627776; let Z294 := fun (x t : Z92) => Z160 x ∧ Z172 t x; let Z295 := fun (x t : Z92) => Z47 ∧ Z294 x t; let Z296 := fun (x t : Z92) => Z95 ∧ Z295 x t; let Z297 := fun (x t : Z92) => Z47 ∧ Z296 x t; let Z298 := fun (x t : Z92) => Z47 ∧ Z297 x t; let Z299 := fun (x t : Z92) => Z47 ∧ Z298 x t; let Z300 := fun (t x : Z92) => Z187 t x ∧ Z172 t x; let Z301 := fun (t : Z92) => decide (Z178 t); let Z302 := fun (t x : Z92) => Z47 ∧ Z300 t x; let Z303 := fun (t : Z92) => Z179 t = Z186 t; let Z304 := fun (t x : Z92) => Z95 ∧ Z302 t x; let Z305 := fun (t x : Z92) => Z47 ∧ Z304 t x; let Z306 := fun (t : Z92) => (Z202 t, Z188 t); let Z307 := fun (t : Z92) => Z196 t = Z196 t; let Z308 := fun (t : Z92) => Z195 t = Z195 t; let Z309 := fun (t : Z92) => Z199 t = Z199 t; let Z310 := fun (t : Z92) => Z307 t ∧ True; let Z311 := fun (t x : Z92) => Z47 ∧ Z305 t x; let Z312 := fun (t : Z92) => Z200 t = Z216 t; let Z313 := fun (t : Z92) => (Z222 t, Z204 t); let Z314 := fun (t x : Z92) => Z47 ∧ Z311 t x; let Z315 := fun (t : Z92) => Z217 t = Z217 t; let Z316 := fun (t : Z92) => (Z230 t, Z205 t); let Z317 := fun (t : Z92) => Z219 t = Z219 t; let Z318 := fun (t : Z92) => Z220 t = Z220 t; let Z319 := fun (t : Z92) => Z317 t ∧ True; let Z320 := fun (t : Z92) => Z224 t = Z224 t; let Z321 := fun (t : Z92) => Z218 t = Z241 t; let Z322 := fun (t : Z92) => Z223 t = Z255 t; let Z323 := fun (t : Z92) => (Z253 t, Z225 t); let Z324 := fun (t : Z92) => (Z254 t, Z226 t); let Z325 := fun (t : Z92) => Z242 t = Z242 t; let Z326 := fun (t : Z92) => Z240 t = Z240 t; let Z327 := fun (t : Z92) => Z243 t = Z243 t; let Z328 := fun (t : Z92) => Z239 t = Z239 t; let Z329 := fun (t : Z92) => (Z263 t, Z232 t); let Z330 := fun (t : Z92) => Z248 t = Z248 t; let Z331 := fun (t : Z92) => Z247 t = Z247 t; let Z332 := fun (t : Z92) => Z328 t ∧ True; let Z333 := fun (t : Z92) => Z327 t ∧ True; let Z334 := fun (t : Z92) => Z258 t = Z258 t; let Z335 := fun (t : Z92) => Z250 t = Z274 t; let Z336 := fun (t : Z92) => Z249 t = Z275 t; let Z337 := fun (t : Z92) => Z335 t ∧ True; let Z338 := fun (t : Z92) => Z259 t = Z284 t; let Z339 := fun (t : Z92) => (Z280 t, Z260 t); let Z340 := fun (t : Z92) => (Z282 t, Z261 t); let Z341 := fun (t : Z92) => Z278 t = Z278 t; let Z342 := fun (t : Z92) => Z276 t = Z276 t; let Z343 := fun (t : Z92) => Z279 t = Z290 t; let Z344 := fun (t : Z92) => Z277 t = Z289 t; let Z345 := fun (t : Z92) => Z343 t ∧ True; let Z346 := fun (t : Z92) => Z308 t ∧ Z310 t; let Z347 := fun (t : Z92) => Z346 t ∧ Z104; let Z348 := fun (t : Z92) => Z318 t ∧ Z319 t; let Z349 := fun (t : Z92) => Z326 t ∧ Z333 t; let Z350 := fun (t : Z92) => Z325 t ∧ Z332 t; let Z351 := fun (t : Z92) => (Z324 t, Z323 t); let Z352 := fun (t : Z92) => Z348 t ∧ Z105; let Z353 := fun (t : Z92) => Z330 t ∧ Z337 t; let Z354 := fun (t : Z92) => (Z339 t, Z340 t); let Z355 := fun (t : Z92) => Z350 t ∧ Z103; let Z356 := fun (t : Z92) => Z349 t ∧ Z102; let Z357 := fun (t : Z92) => Z341 t ∧ Z345 t; let Z358 := fun (t : Z92) => (Z316 t, Z351 t); let Z359 := fun (t : Z92) => Z336 t ∧ Z353 t; let Z360 := fun (t : Z92) => (Z329 t, Z354 t); let Z361 := fun (t : Z92) => Z344 t ∧ Z357 t; let Z362 := fun (t : Z92) => (Z306 t, Z358 t); let Z363 := fun (t : Z92) => Z331 t ∧ Z359 t; let Z364 := fun (t : Z92) => (Z313 t, Z360 t); let Z365 := fun (t : Z92) => Z342 t ∧ Z361 t; let Z366 := fun (t : Z92) => (Z176 t, Z362 t); let Z367 := fun (t : Z92) => Z366 t :: Z36; let Z368 := fun (t : Z92) => List.drop Z38 (Z367 t); let Z369 := fun (t : Z92) => List.take Z39 (Z368 t); let Z373 := fun (t : Z92) => List.take Z39 (List.drop Z38 ((Z176 t, Z364 t) :: Z36)); let Z403 := fun (t : Z92) => ∃ (x : Z92), (Z299 x t ∧ True ∧ Z43 ∧ Z128 ∧ Z167 ∧ Z151 ∧ Z120 ∧ (Z50 ∧ Z147 t ++ Z373 t = Z147 x) ∧ True) ∧ Z139 x t; let Z405 := fun (t : Z92) => ∃ (x : Z92), (Z314 t x ∧ True ∧ Z43 ∧ Z128 ∧ Z167 ∧ Z151 ∧ Z120 ∧ (Z50 ∧ Z147 t ++ Z369 t = Z147 x) ∧ True) ∧ Z139 x t; let Z415 := fun (t : Z92) => nat_lit 1 = nat_lit 1 ∧ Z303 t ∧ Z309 t ∧ Z312 t ∧ Z320 t ∧ Z322 t ∧ Z363 t; let Z417 := fun (t : Z92) => nat_lit 1 = nat_lit 1 ∧ Z303 t ∧ Z315 t ∧ Z321 t ∧ Z334 t ∧ Z338 t ∧ Z365 t; (∃ (x : Z92), (True ∧ True ∧ True ∧ Z0 ∧ Z52) ∧ (True ∧ Z46 ∧ (True ∧ True ∧ True ∧ True ∧ Z52) ∧ Z46 ∧ (True ∧ True ∧ True ∧ Z7) ∧ Z147 x = Z36 ∧ True) ∧ (Z47 ∧ Z47 ∧ Z47 ∧ (Fn.func (nat_lit 69) = Z48 ∧ Z0) ∧ Z47 ∧ Z153 x = Value.bool false ∧ Z89 ∧ Z109 ∧ Z51 = Z110 x ∧ True) ∧ True ∧ Z43 ∧ Z128 ∧ Z167 ∧ Z151 ∧ (Z60 ∧ Z63 ∧ Z65 ∧ Z88) ∧ Z0) ∧ ∀ (t : Z92), (Z156 t = true → (Z26 ≤ Z101 t ∧ Z117 t) ∧ Z114 t < List.length ps ∧ (Z157 t → (Z301 t = true → Z171 ∧ Z9 ∧ Z166 t ∧ (Z189 t → True ∧ Z347 t ∧ True ∧ True ∧ Z352 t ∧ True ∧ True ∧ Z356 t ∧ True ∧ True ∧ Z355 t ∧ True ∧ Z417 t ∧ Z9 ∧ Z293 t ∧ True ∧ ∃ (x : Z92), (Z299 x t ∧ True ∧ Z43 ∧ Z128 ∧ Z167 ∧ Z151 ∧ Z120 ∧ (Z50 ∧ Z291 t ++ Z373 t = Z147 x) ∧ True) ∧ Z139 x t) ∧ (Z191 t → Z415 t ∧ Z9 ∧ Z293 t ∧ True ∧ ∃ (x : Z92), (Z299 x t ∧ True ∧ Z43 ∧ Z128 ∧ Z167 ∧ Z151 ∧ Z120 ∧ (Z50 ∧ Z291 t ++ Z369 t = Z147 x) ∧ True) ∧ Z139 x t)) ∧ (Z301 t = false → (Z189 t → True ∧ Z347 t ∧ True ∧ True ∧ Z352 t ∧ True ∧ True ∧ Z356 t ∧ True ∧ True ∧ Z355 t ∧ True ∧ Z417 t ∧ Z9 ∧ Z166 t ∧ True ∧ Z403 t) ∧ (Z191 t → Z415 t ∧ Z9 ∧ Z166 t ∧ True ∧ Z405 t))) ∧ (Z158 t → (Z189 t → True ∧ Z347 t ∧ True ∧ True ∧ Z352 t ∧ True ∧ True ∧ Z356 t ∧ True ∧ True ∧ Z355 t ∧ True ∧ Z417 t ∧ Z9 ∧ Z166 t ∧ True ∧ Z403 t) ∧ (Z191 t → Z415 t ∧ Z9 ∧ Z166 t ∧ True ∧ Z405 t))) ∧ (Z156 t = false → (Z157 t → Z171 ∧ Z9 ∧ Z166 t ∧ Z285 t < nat_lit 1000000 ∧ ((Z60 ∧ Z63 ∧ Z65 ∧ (Z40 = Z40 ∧ nat_lit 0 = nat_lit 0 ∧ nat_lit 0 = nat_lit 0 ∧ Z288 t = Z285 t) ∧ True) ∧ True) ∧ (Z291 t = Z272 t ∧ True) ∧ True ∧ ((Z120 ∧ Value.bool (groundM (GroundT.mk long rise change (Z291 t))) = Z136 ∧ True) ∧ True) ∧ True ∧ Z43 ∧ (Z50 ∧ Z291 t = Z129) ∧ True) ∧ (Z158 t → Z155 t < nat_lit 1000000 ∧ ((Z60 ∧ Z63 ∧ Z65 ∧ (nat_lit 5 = nat_lit 5 ∧ nat_lit 0 = nat_lit 0 ∧ nat_lit 0 = nat_lit 0 ∧ Z159 t = Z155 t) ∧ True) ∧ True) ∧ (Z147 t = Z147 t ∧ True) ∧ True ∧ ((Z120 ∧ Value.bool (groundM (GroundT.mk long rise change (Z147 t))) = Z136 ∧ True) ∧ True) ∧ True ∧ Z43 ∧ (Z44 = Z44 ∧ Z147 t = Z129) ∧ True)))
    (by kernel_rfl) ?_
  simp only [eq_self, true_and, and_true, Int.toNat_natCast, Nat.zero_add, Nat.sub_zero, Value.int.injEq, Value.bool.injEq, decide_eq_true_eq, decide_eq_false_iff_not]
  obtain ⟨p, hpe⟩ : ∃ p : PitT, p = (pa, (ph, ph2), (ps1, ps2), (pi1, pi2), pc1, pc2) := ⟨_, rfl⟩
  have hpa : pa = p.1 := by rw [hpe]
  have hxl : ps.length < 1000 := hx
  have hs : ∀ x : PitT, List.take 1 (List.drop 0 [x]) = [x] := fun _ => rfl
  have e1 : (ph, ph2) = p.2.1 := by rw [hpe]
  have e2 : (ps1, ps2) = p.2.2.1 := by rw [hpe]
  have e3 : (pi1, pi2) = p.2.2.2.1 := by rw [hpe]
  have e4 : (pc1, pc2) = p.2.2.2.2 := by rw [hpe]
  simp only [hs]
  rw [← hpe]
  simp only [e1, e2, e3, e4, hpa]
  clear e1 e2 e3 e4 hpa hpe hx
  refine ⟨⟨⟨0, Nat.zero_le _⟩, rfl, rfl, rfl⟩, fun t => ⟨fun ht => ?_, fun ht => ?_⟩⟩
  · obtain ⟨i, hi⟩ := t
    have hlt : i < ps.length := by have h0 : (i : Int) < (ps.length : Int) := ht; omega
    have hwl := w_len ps p i
    have hsu := sucI i (by omega)
    have hb : (wAtM ps p i).1.length + 1 ≤ 1099511627776 := by omega
    have hb2 : ((wAtM ps p i).1 ++ [p]).length + 1 ≤ 1099511627776 := by simp; omega
    have cy := @w_ny ps p i
    have cm := @w_m ps p i
    have cn := @w_n ps p i
    refine ⟨⟨Int.natCast_nonneg _, ht⟩, hlt, fun hput => ⟨fun hgt => ⟨Nat.le_refl _, hb, fun he => ?_, fun hne => ⟨Nat.le_refl _, hb2, ⟨i + 1, hlt⟩, ?_, dec1 hlt⟩⟩, fun hgt => ⟨fun he => ⟨Nat.le_refl _, hb, ⟨i + 1, hlt⟩, ?_, dec1 hlt⟩, fun hne => ⟨Nat.le_refl _, hb, ⟨i + 1, hlt⟩, ?_, dec1 hlt⟩⟩⟩, fun hput => ⟨fun he => ⟨Nat.le_refl _, hb, ⟨i + 1, hlt⟩, ?_, dec1 hlt⟩, fun hne => ⟨Nat.le_refl _, hb, ⟨i + 1, hlt⟩, ?_, dec1 hlt⟩⟩⟩
    · have he' : (ps.getD i pit0).1 = p.1 := by simpa using he
      have hgt' : (ps.getD i pit0).1 > p.1 := hgt
      omega
    · have hne' : ¬ (ps.getD i pit0).1 = p.1 := by simpa using hne
      have hp' : (wAtM ps p i).2 = false := by simpa using hput
      rw [cy hp' hgt hne']
      exact ⟨⟨rfl, hsu⟩, rfl⟩
    · have he' : (ps.getD i pit0).1 = p.1 := by simpa using he
      have hc : (!(wAtM ps p i).2 && decide ((ps.getD i pit0).1 > p.1)) = false := by rw [decide_eq_false (by omega), Bool.and_false]
      rw [cm hc he']
      exact ⟨⟨rfl, hsu⟩, rfl⟩
    · have hne' : ¬ (ps.getD i pit0).1 = p.1 := by simpa using hne
      have hc : (!(wAtM ps p i).2 && decide ((ps.getD i pit0).1 > p.1)) = false := by rw [decide_eq_false hgt, Bool.and_false]
      rw [cn hc hne']
      exact ⟨⟨rfl, hsu⟩, rfl⟩
    · have he' : (ps.getD i pit0).1 = p.1 := by simpa using he
      have hc : (!(wAtM ps p i).2 && decide ((ps.getD i pit0).1 > p.1)) = false := by rw [hput, Bool.false_and]
      rw [cm hc he']
      exact ⟨⟨rfl, hsu⟩, rfl⟩
    · have hne' : ¬ (ps.getD i pit0).1 = p.1 := by simpa using hne
      have hc : (!(wAtM ps p i).2 && decide ((ps.getD i pit0).1 > p.1)) = false := by rw [hput, Bool.false_and]
      rw [cn hc hne']
      exact ⟨⟨rfl, hsu⟩, rfl⟩
  · obtain ⟨i, hi⟩ := t
    have hie : i = ps.length := by have h0 : ¬ (i : Int) < (ps.length : Int) := ht; omega
    subst hie
    have hwl := w_len ps p ps.length
    have b1 : (wAtM ps p ps.length).1.length + 1 ≤ 1099511627776 := by omega
    have b2 : (wAtM ps p ps.length).1.length < 1000000 := by omega
    have b3 : ((wAtM ps p ps.length).1 ++ [p]).length < 1000000 := by simp; omega
    refine ⟨fun hput => ?_, fun hput => ?_⟩
    · have hp' : (wAtM ps p ps.length).2 = false := by simpa using hput
      have e : withM ps p = (wAtM ps p ps.length).1 ++ [p] := by unfold withM; rw [hp']; rfl
      exact ⟨Nat.le_refl _, b1, b3, by unfold withGM; rw [e], e.symm⟩
    · have hp' : (wAtM ps p ps.length).2 = true := by simpa using hput
      have e : withM ps p = (wAtM ps p ps.length).1 := by unfold withM; rw [hp']; rfl
      exact ⟨b2, by unfold withGM; rw [e], e.symm⟩

theorem with_sound : Sound Try.prog 55 withS.con := FSpec.sound _ (enter_of Try.func55 (by kernel_rfl) (by kernel_rfl)) with_ok

/-! ### a pit that tells nothing, or of one number of a kind -/
def anyPM (at_ : Int) : PitT := (at_, (0, 1000), (0, 20), (0, 20), 0, 20)
def lanyS : FSpec UU where
  X := Int
  pick := fun args _ => match args with
    | [a] => avInt a
    | _ => none
  args := fun (x : Int) => [.i x]
  H := fun _ => []
  R := fun (x : Int) => .val ⟨.agg [.i x, .i 0, .i 1000, .i 0, .i 20, .i 0, .i 20, .i 0, .i 20], [], [], []⟩
def Tpit1 : Tab UU := [(28, lpitS.con)]
theorem Tpit1_ok : Tpit1.Sound Try.prog := .cons lpit_sound .nil
set_option maxRecDepth 100000 in
theorem lany_ok : ∀ x, lanyS.pre x → FunOk Try.prog 26 (lanyS.args x) (lanyS.H x) (lanyS.R x) := by
  intro (x : Int) _
  refine fun_of (T := Tpit1) (L := fun _ => none) (hs := fun _ => []) hmix Tpit1_ok Try.func26 (by kernel_rfl) (by kernel_rfl) ?_
  refine Eq.mp (α :=
      let Z0 := Value.int IntKind.i64 x; let Z4 := Value.int IntKind.i64 (0 : Int); let Z5 := Value.int IntKind.i64 (20 : Int); let Z6 := Value.int IntKind.i64 (1000 : Int); let Z8 := Z4 = Z4; let Z9 := Z5 = Z5; True ∧ (Z0 = Z0 ∧ Z8 ∧ Z6 = Z6 ∧ Z8 ∧ Z9 ∧ Z8 ∧ Z9 ∧ Z8 ∧ Z9 ∧ True) ∧ True ∧ True ∧ ((Z0 = Z0 ∧ Z8 ∧ Z6 = Z6 ∧ Z8 ∧ Z9 ∧ Z8 ∧ Z9 ∧ Z8 ∧ Z9 ∧ True) ∧ True) ∧ True ∧ True)
    (by kernel_rfl) ?_
  simp only [eq_self, true_and, and_true, Int.toNat_natCast, Nat.zero_add, Nat.sub_zero, Value.int.injEq, Value.bool.injEq, decide_eq_true_eq, decide_eq_false_iff_not]

theorem lany_sound : Sound Try.prog 26 lanyS.con := FSpec.sound _ (enter_of Try.func26 (by kernel_rfl) (by kernel_rfl)) lany_ok
def toldPM : Nat → Int → Int → PitT
  | 0, a, n => (a, (n, n), (0, 20), (0, 20), 0, 20)
  | 1, a, n => (a, (0, 1000), (n, n), (0, 20), 0, 20)
  | 2, a, n => (a, (0, 1000), (0, 20), (n, n), 0, 20)
  | _, a, n => (a, (0, 1000), (0, 20), (0, 20), n, n)
def toldS : FSpec UU where
  X := Nat × Int × Int
  pick := fun args H => match args with
    | [n, a, k] => match avInt n, avCell H a, avCell H k with
      | some n, some a, some k => match avInt a, avInt k with
        | some a, some k => some (k.toNat, a, n)
        | _, _ => none
      | _, _, _ => none
    | _ => none
  args := fun x => [.i x.2.2, .ptr 0 0 0 0, .ptr 1 0 0 0]
  H := fun x => [.one (.rc [.i x.2.1] 3), .one (.rc [.i (x.1 : Nat)] 3)]
  R := fun x => .val ⟨vPit (toldPM x.1 x.2.1 x.2.2), [], [], []⟩
  pre := fun x => x.1 < 4
def Ttold : Tab UU := [(26, lanyS.con), (23, lspanS.con)]
theorem Ttold_ok : Ttold.Sound Try.prog := .cons lany_sound (.cons lspan_sound .nil)
set_option maxRecDepth 100000 in
theorem told0_ok (a n : Int) : FunOk Try.prog 25 [.i n, .ptr 0 0 0 0, .ptr 1 0 0 0] [.one (.rc (U := UU) [.i a] 3), .one (.rc [.i 0] 3)] (.val ⟨.agg [.i a, .i n, .i n, .i 0, .i 20, .i 0, .i 20, .i 0, .i 20], [], [], []⟩) := by
  refine fun_of (T := Ttold) (L := fun _ => none) (hs := fun _ => []) hmix Ttold_ok Try.func25 (by kernel_rfl) (by kernel_rfl) ?_
  refine Eq.mp (α :=
      let Z0 := Value.int IntKind.i64 n; let Z1 := Value.int IntKind.i64 a; let Z2 := (0 : Int); let Z4 := (3 : Nat); let Z5 := Value.int IntKind.i64 Z2; let Z6 := Value.int IntKind.i64 (20 : Int); let Z7 := Z0 = Z0; let Z8 := Z1 = Z1; let Z10 := Z5 = Z5; let Z11 := Z6 = Z6; True ∧ (Z8 ∧ True) ∧ True ∧ (nat_lit 4 = nat_lit 4 ∧ AV.ptr Z4 (nat_lit 0) (nat_lit 0) (nat_lit 1) = AV.ptr (nat_lit 3) (nat_lit 0) (nat_lit 0) (nat_lit 1) ∧ AV.ptr Z4 (nat_lit 0) (nat_lit 0) (nat_lit 3) = AV.ptr (nat_lit 3) (nat_lit 0) (nat_lit 0) (nat_lit 3) ∧ AV.ptr Z4 (nat_lit 0) (nat_lit 0) (nat_lit 5) = AV.ptr (nat_lit 3) (nat_lit 0) (nat_lit 0) (nat_lit 5) ∧ AV.ptr Z4 (nat_lit 0) (nat_lit 0) (nat_lit 7) = AV.ptr (nat_lit 3) (nat_lit 0) (nat_lit 0) (nat_lit 7) ∧ True) ∧ (Z2 ≤ Z2 ∧ Z2 < (↑(nat_lit 4) : Int)) ∧ nat_lit 0 < nat_lit 4 ∧ True ∧ (Z7 ∧ Z7 ∧ True) ∧ True ∧ True ∧ ((Z8 ∧ Z7 ∧ Z7 ∧ Z10 ∧ Z11 ∧ Z10 ∧ Z11 ∧ Z10 ∧ Z11 ∧ True) ∧ True) ∧ True ∧ (Z8 ∧ True) ∧ (Z10 ∧ True) ∧ True)
    (by kernel_rfl) ?_
  simp only [eq_self, true_and, and_true, Int.toNat_natCast, Nat.zero_add, Nat.sub_zero, Value.int.injEq, Value.bool.injEq, decide_eq_true_eq, decide_eq_false_iff_not]
  decide

set_option maxRecDepth 100000 in
theorem told1_ok (a n : Int) : FunOk Try.prog 25 [.i n, .ptr 0 0 0 0, .ptr 1 0 0 0] [.one (.rc (U := UU) [.i a] 3), .one (.rc [.i 1] 3)] (.val ⟨.agg [.i a, .i 0, .i 1000, .i n, .i n, .i 0, .i 20, .i 0, .i 20], [], [], []⟩) := by
  refine fun_of (T := Ttold) (L := fun _ => none) (hs := fun _ => []) hmix Ttold_ok Try.func25 (by kernel_rfl) (by kernel_rfl) ?_
  refine Eq.mp (α :=
      let Z0 := Value.int IntKind.i64 a; let Z1 := Value.int IntKind.i64 n; let Z2 := (0 : Int); let Z3 := (1 : Int); let Z5 := (3 : Nat); let Z7 := Value.int IntKind.i64 Z3; let Z8 := Value.int IntKind.i64 Z2; let Z9 := Value.int IntKind.i64 (20 : Int); let Z10 := Value.int IntKind.i64 (1000 : Int); let Z11 := Z0 = Z0; let Z12 := Z1 = Z1; let Z14 := Z8 = Z8; True ∧ (Z11 ∧ True) ∧ True ∧ (nat_lit 4 = nat_lit 4 ∧ AV.ptr Z5 (nat_lit 0) (nat_lit 0) (nat_lit 1) = AV.ptr (nat_lit 3) (nat_lit 0) (nat_lit 0) (nat_lit 1) ∧ AV.ptr Z5 (nat_lit 0) (nat_lit 0) (nat_lit 3) = AV.ptr (nat_lit 3) (nat_lit 0) (nat_lit 0) (nat_lit 3) ∧ AV.ptr Z5 (nat_lit 0) (nat_lit 0) (nat_lit 5) = AV.ptr (nat_lit 3) (nat_lit 0) (nat_lit 0) (nat_lit 5) ∧ AV.ptr Z5 (nat_lit 0) (nat_lit 0) (nat_lit 7) = AV.ptr (nat_lit 3) (nat_lit 0) (nat_lit 0) (nat_lit 7) ∧ True) ∧ (Z2 ≤ Z3 ∧ Z3 < (↑(nat_lit 4) : Int)) ∧ nat_lit 1 < nat_lit 4 ∧ True ∧ (Z12 ∧ Z12 ∧ True) ∧ True ∧ True ∧ ((Z11 ∧ Z14 ∧ Z10 = Z10 ∧ Z12 ∧ Z12 ∧ Z14 ∧ Z9 = Z9 ∧ Z14 ∧ Z9 = Z9 ∧ True) ∧ True) ∧ True ∧ (Z11 ∧ True) ∧ (Z7 = Z7 ∧ True) ∧ True)
    (by kernel_rfl) ?_
  simp only [eq_self, true_and, and_true, Int.toNat_natCast, Nat.zero_add, Nat.sub_zero, Value.int.injEq, Value.bool.injEq, decide_eq_true_eq, decide_eq_false_iff_not]
  decide

set_option maxRecDepth 100000 in
theorem told2_ok (a n : Int) : FunOk Try.prog 25 [.i n, .ptr 0 0 0 0, .ptr 1 0 0 0] [.one (.rc (U := UU) [.i a] 3), .one (.rc [.i 2] 3)] (.val ⟨.agg [.i a, .i 0, .i 1000, .i 0, .i 20, .i n, .i n, .i 0, .i 20], [], [], []⟩) := by
  refine fun_of (T := Ttold) (L := fun _ => none) (hs := fun _ => []) hmix Ttold_ok Try.func25 (by kernel_rfl) (by kernel_rfl) ?_
  refine Eq.mp (α :=
      let Z0 := Value.int IntKind.i64 a; let Z1 := Value.int IntKind.i64 n; let Z2 := (0 : Int); let Z3 := (2 : Int); let Z5 := (3 : Nat); let Z7 := Value.int IntKind.i64 Z3; let Z8 := Value.int IntKind.i64 Z2; let Z9 := Value.int IntKind.i64 (20 : Int); let Z10 := Value.int IntKind.i64 (1000 : Int); let Z11 := Z0 = Z0; let Z12 := Z1 = Z1; let Z14 := Z8 = Z8; True ∧ (Z11 ∧ True) ∧ True ∧ (nat_lit 4 = nat_lit 4 ∧ AV.ptr Z5 (nat_lit 0) (nat_lit 0) (nat_lit 1) = AV.ptr (nat_lit 3) (nat_lit 0) (nat_lit 0) (nat_lit 1) ∧ AV.ptr Z5 (nat_lit 0) (nat_lit 0) (nat_lit 3) = AV.ptr (nat_lit 3) (nat_lit 0) (nat_lit 0) (nat_lit 3) ∧ AV.ptr Z5 (nat_lit 0) (nat_lit 0) (nat_lit 5) = AV.ptr (nat_lit 3) (nat_lit 0) (nat_lit 0) (nat_lit 5) ∧ AV.ptr Z5 (nat_lit 0) (nat_lit 0) (nat_lit 7) = AV.ptr (nat_lit 3) (nat_lit 0) (nat_lit 0) (nat_lit 7) ∧ True) ∧ (Z2 ≤ Z3 ∧ Z3 < (↑(nat_lit 4) : Int)) ∧ nat_lit 2 < nat_lit 4 ∧ True ∧ (Z12 ∧ Z12 ∧ True) ∧ True ∧ True ∧ ((Z11 ∧ Z14 ∧ Z10 = Z10 ∧ Z14 ∧ Z9 = Z9 ∧ Z12 ∧ Z12 ∧ Z14 ∧ Z9 = Z9 ∧ True) ∧ True) ∧ True ∧ (Z11 ∧ True) ∧ (Z7 = Z7 ∧ True) ∧ True)
    (by kernel_rfl) ?_
  simp only [eq_self, true_and, and_true, Int.toNat_natCast, Nat.zero_add, Nat.sub_zero, Value.int.injEq, Value.bool.injEq, decide_eq_true_eq, decide_eq_false_iff_not]
  decide

set_option maxRecDepth 100000 in
theorem told3_ok (a n : Int) : FunOk Try.prog 25 [.i n, .ptr 0 0 0 0, .ptr 1 0 0 0] [.one (.rc (U := UU) [.i a] 3), .one (.rc [.i 3] 3)] (.val ⟨.agg [.i a, .i 0, .i 1000, .i 0, .i 20, .i 0, .i 20, .i n, .i n], [], [], []⟩) := by
  refine fun_of (T := Ttold) (L := fun _ => none) (hs := fun _ => []) hmix Ttold_ok Try.func25 (by kernel_rfl) (by kernel_rfl) ?_
  refine Eq.mp (α :=
      let Z0 := Value.int IntKind.i64 a; let Z1 := Value.int IntKind.i64 n; let Z2 := (0 : Int); let Z3 := (3 : Int); let Z5 := (3 : Nat); let Z7 := Value.int IntKind.i64 Z3; let Z8 := Value.int IntKind.i64 Z2; let Z9 := Value.int IntKind.i64 (20 : Int); let Z10 := Value.int IntKind.i64 (1000 : Int); let Z11 := Z1 = Z1; let Z12 := Z0 = Z0; let Z15 := Z8 = Z8; True ∧ (Z12 ∧ True) ∧ True ∧ (nat_lit 4 = nat_lit 4 ∧ AV.ptr Z5 (nat_lit 0) (nat_lit 0) (nat_lit 1) = AV.ptr (nat_lit 3) (nat_lit 0) (nat_lit 0) (nat_lit 1) ∧ AV.ptr Z5 (nat_lit 0) (nat_lit 0) (nat_lit 3) = AV.ptr (nat_lit 3) (nat_lit 0) (nat_lit 0) (nat_lit 3) ∧ AV.ptr Z5 (nat_lit 0) (nat_lit 0) (nat_lit 5) = AV.ptr (nat_lit 3) (nat_lit 0) (nat_lit 0) (nat_lit 5) ∧ AV.ptr Z5 (nat_lit 0) (nat_lit 0) (nat_lit 7) = AV.ptr (nat_lit 3) (nat_lit 0) (nat_lit 0) (nat_lit 7) ∧ True) ∧ (Z2 ≤ Z3 ∧ Z3 < (↑(nat_lit 4) : Int)) ∧ nat_lit 3 < nat_lit 4 ∧ True ∧ (Z11 ∧ Z11 ∧ True) ∧ True ∧ True ∧ ((Z12 ∧ Z15 ∧ Z10 = Z10 ∧ Z15 ∧ Z9 = Z9 ∧ Z15 ∧ Z9 = Z9 ∧ Z11 ∧ Z11 ∧ True) ∧ True) ∧ True ∧ (Z12 ∧ True) ∧ (Z7 = Z7 ∧ True) ∧ True)
    (by kernel_rfl) ?_
  simp only [eq_self, true_and, and_true, Int.toNat_natCast, Nat.zero_add, Nat.sub_zero, Value.int.injEq, Value.bool.injEq, decide_eq_true_eq, decide_eq_false_iff_not]
  decide

theorem toldP_ok : ∀ x, toldS.pre x → FunOk Try.prog 25 (toldS.args x) (toldS.H x) (toldS.R x) := by
  rintro ⟨k, a, n⟩ hk
  have hk' : k < 4 := hk
  match k, hk' with
  | 0, _ => exact told0_ok a n
  | 1, _ => exact told1_ok a n
  | 2, _ => exact told2_ok a n
  | 3, _ => exact told3_ok a n
  | k + 4, h => exact absurd h (by omega)
theorem toldP_sound : Sound Try.prog 25 toldS.con := FSpec.sound _ (enter_of Try.func25 (by kernel_rfl) (by kernel_rfl)) toldP_ok
/-! ### is there a truth with a pit more? -/
def canM (g : GroundT) (p : PitT) : Bool := groundM (withGM g p) && ((hardOM (withGM g p) 0).2 == 0)
def canS : FSpec UU where
  X := GroundT × PitT
  pick := fun args H => match args with
    | [a, b] => match avGround H a, avPit b with
      | some a, some b => some (a, b)
      | _, _ => none
    | _ => none
  args := fun x => [vGround x.1 0, vPit x.2]
  H := fun x => [.one (.ro .pit x.1.pits)]
  R := fun x => .val ⟨.b (canM x.1 x.2), [], [], []⟩
  pre := fun x => x.1.pits.length < 1000
def Tcan : Tab UU := [(55, withS.con), (9, hardOS.con)]
theorem Tcan_ok : Tcan.Sound Try.prog := .cons with_sound (.cons hardO_sound .nil)
theorem with_len (l : List PitT) (p : PitT) : (withM l p).length ≤ 2 * l.length + 1 := by
  have := w_len l p l.length
  unfold withM
  split
  · omega
  · simp; omega
set_option maxHeartbeats 0 in
set_option maxRecDepth 100000 in
theorem lcan_ok : ∀ x, canS.pre x → FunOk Try.prog 27 (canS.args x) (canS.H x) (canS.R x) := by
  rintro ⟨⟨long, rise, change, ps⟩, p⟩ hx
  obtain ⟨pa, ⟨ph, ph2⟩, ⟨ps1, ps2⟩, ⟨pi1, pi2⟩, pc1, pc2⟩ := p
  refine fun_of (T := Tcan) (L := fun _ => none) (hs := fun _ => []) hmix Tcan_ok Try.func27 (by kernel_rfl) (by kernel_rfl) ?_
  refine Eq.mp (α :=
      let Z4 := GroundT.mk long rise change ps; let Z5 := List.length ps; let Z6 := Value.int IntKind.i64 long; let Z7 := Value.int IntKind.i64 rise; let Z8 := Value.int IntKind.i64 change; let Z9 := (0 : Int); let Z10 := ps = ps; let Z12 := Value.int IntKind.i64 Z9; let Z20 := (pa, (ph, ph2), (ps1, ps2), (pi1, pi2), pc1, pc2); let Z21 : List PitT := withM ps Z20; let Z24 := List.length Z21; Z5 < nat_lit 1000 ∧ ((Z6 = Z6 ∧ Z7 = Z7 ∧ Z8 = Z8 ∧ (nat_lit 0 = nat_lit 0 ∧ nat_lit 0 = nat_lit 0 ∧ Z5 = Z5) ∧ True) ∧ (Value.int IntKind.i64 pa = Value.int IntKind.i64 pa ∧ Value.int IntKind.i64 ph = Value.int IntKind.i64 ph ∧ Value.int IntKind.i64 ph2 = Value.int IntKind.i64 ph2 ∧ Value.int IntKind.i64 ps1 = Value.int IntKind.i64 ps1 ∧ Value.int IntKind.i64 ps2 = Value.int IntKind.i64 ps2 ∧ Value.int IntKind.i64 pi1 = Value.int IntKind.i64 pi1 ∧ Value.int IntKind.i64 pi2 = Value.int IntKind.i64 pi2 ∧ Value.int IntKind.i64 pc1 = Value.int IntKind.i64 pc1 ∧ Value.int IntKind.i64 pc2 = Value.int IntKind.i64 pc2 ∧ True) ∧ True) ∧ (Z10 ∧ True) ∧ ((!groundM (withGM Z4 Z20)) = true → True ∧ (Value.bool (canM Z4 Z20) = Value.bool false ∧ True) ∧ True ∧ Z10 ∧ True) ∧ ((!groundM (withGM Z4 Z20)) = false → Z24 < nat_lit 1000000 ∧ ((Z6 = Z6 ∧ Z7 = Z7 ∧ Z8 = Z8 ∧ (nat_lit 3 = nat_lit 3 ∧ nat_lit 0 = nat_lit 0 ∧ nat_lit 0 = nat_lit 0 ∧ List.length Z21 = Z24) ∧ True) ∧ Z12 = Z12 ∧ True) ∧ (Z21 = Z21 ∧ True) ∧ True ∧ (Value.bool (Prod.snd (hardOM (GroundT.mk long rise change Z21) Z9) == Z9) = Value.bool (canM Z4 Z20) ∧ True) ∧ True ∧ Z10 ∧ True))
    (by kernel_rfl) ?_
  simp only [eq_self, true_and, and_true, Int.toNat_natCast, Nat.zero_add, Nat.sub_zero, Value.int.injEq, Value.bool.injEq, decide_eq_true_eq, decide_eq_false_iff_not]
  have hxl : ps.length < 1000 := hx
  have hw := with_len ps (pa, (ph, ph2), (ps1, ps2), (pi1, pi2), pc1, pc2)
  refine ⟨hxl, fun h => ?_, fun h => ⟨by omega, ?_⟩⟩
  · have h' : groundM (withGM ⟨long, rise, change, ps⟩ (pa, (ph, ph2), (ps1, ps2), (pi1, pi2), pc1, pc2)) = false := by simpa using h
    unfold canM; rw [h', Bool.false_and]
  · have h' : groundM (withGM ⟨long, rise, change, ps⟩ (pa, (ph, ph2), (ps1, ps2), (pi1, pi2), pc1, pc2)) = true := by simpa using h
    unfold canM; rw [h', Bool.true_and]; rfl

theorem lcan_sound : Sound Try.prog 27 canS.con := FSpec.sound _ (enter_of Try.func27 (by kernel_rfl) (by kernel_rfl)) lcan_ok
end AE.Soil

namespace AE.Soil
open Go AE Go.Proofs

/-- A row of pits with one more, or with what it tells besides. -/
def insM : List PitT → PitT → List PitT
  | [], p => [p]
  | o :: l, p => if o.1 > p.1 then p :: o :: l else if o.1 = p.1 then mergeM o p :: l else o :: insM l p
theorem wAt_fold (l : List PitT) (p : PitT) : ∀ i, i ≤ l.length → wAtM l p i = (l.take i).foldl (fun r o => wstepM p o r) ([], false)
  | 0, _ => rfl
  | i + 1, h => by
    rw [take_snoc l i (by omega) pit0, List.foldl_append, ← wAt_fold l p i (by omega)]; rfl
theorem fold_put (p : PitT) : ∀ (l : List PitT) (a : List PitT), (∀ o ∈ l, p.1 < o.1) → l.foldl (fun r o => wstepM p o r) (a, true) = (a ++ l, true)
  | [], a, _ => by simp
  | o :: l, a, h => by
    have h1 := h o List.mem_cons_self
    rw [List.foldl_cons]
    have e : wstepM p o (a, true) = (a ++ [o], true) := by
      unfold wstepM
      rw [if_neg (by simp), if_neg (by omega)]
    rw [e, fold_put p l _ fun o ho => h o (List.mem_cons_of_mem _ ho), List.append_assoc]; rfl
def finM (r : List PitT × Bool) (p : PitT) : List PitT := if r.2 then r.1 else r.1 ++ [p]
theorem fold_ins (p : PitT) : ∀ (l : List PitT) (a : List PitT), (l.Pairwise fun p q => p.1 < q.1) → finM (l.foldl (fun r o => wstepM p o r) (a, false)) p = a ++ insM l p
  | [], a, _ => rfl
  | o :: l, a, h => by
    obtain ⟨h1, h2⟩ := List.pairwise_cons.1 h
    rw [List.foldl_cons]
    unfold insM
    by_cases c1 : o.1 > p.1
    · have e : wstepM p o (a, false) = ((a ++ [p]) ++ [o], true) := by
        unfold wstepM
        rw [decide_eq_true c1, if_pos (by rfl), if_neg (by omega)]
      rw [e, if_pos c1, fold_put p l _ fun q hq => by have := h1 q hq; omega]
      show (a ++ [p]) ++ [o] ++ l = _
      simp
    · rw [if_neg c1]
      by_cases c2 : o.1 = p.1
      · have e : wstepM p o (a, false) = (a ++ [mergeM o p], true) := by
          unfold wstepM
          rw [decide_eq_false c1, if_neg (by simp), if_pos c2]
        rw [e, if_pos c2, fold_put p l _ fun q hq => by have := h1 q hq; omega]
        show a ++ [mergeM o p] ++ l = _
        simp
      · have e : wstepM p o (a, false) = (a ++ [o], false) := by
          unfold wstepM
          rw [decide_eq_false c1, if_neg (by simp), if_neg c2]
        rw [e, if_neg c2, fold_ins p l _ h2]
        simp
theorem with_ins {l : List PitT} (p : PitT) (h : l.Pairwise fun p q => p.1 < q.1) : withM l p = insM l p := by
  have e := wAt_fold l p l.length (Nat.le_refl _)
  rw [List.take_length] at e
  have := fold_ins p l [] h
  unfold withM
  rw [e]
  simpa [finM] using this
theorem ins_mem (p : PitT) : ∀ {l : List PitT}, (l.Pairwise fun p q => p.1 < q.1) → ∀ q, q ∈ insM l p ↔ (q ∈ l ∧ q.1 ≠ p.1) ∨ (∃ o ∈ l, o.1 = p.1 ∧ q = mergeM o p) ∨ ((∀ o ∈ l, o.1 ≠ p.1) ∧ q = p)
  | [], _, q => by simp [insM]
  | o :: l, h, q => by
    obtain ⟨h1, h2⟩ := List.pairwise_cons.1 h
    unfold insM
    by_cases c1 : o.1 > p.1
    · rw [if_pos c1]
      have hne : ∀ r ∈ o :: l, r.1 ≠ p.1 := fun r hr => by
        rcases List.mem_cons.1 hr with rfl | hr
        · omega
        · have := h1 r hr; omega
      constructor
      · intro hq
        rcases List.mem_cons.1 hq with rfl | hq
        · exact .inr (.inr ⟨hne, rfl⟩)
        · exact .inl ⟨hq, hne q hq⟩
      · rintro (⟨hq, _⟩ | ⟨r, hr, he, _⟩ | ⟨_, rfl⟩)
        · exact List.mem_cons_of_mem _ hq
        · exact absurd he (hne r hr)
        · exact List.mem_cons_self
    · rw [if_neg c1]
      by_cases c2 : o.1 = p.1
      · rw [if_pos c2]
        constructor
        · intro hq
          rcases List.mem_cons.1 hq with rfl | hq
          · exact .inr (.inl ⟨o, List.mem_cons_self, c2, rfl⟩)
          · exact .inl ⟨List.mem_cons_of_mem _ hq, by have := h1 q hq; omega⟩
        · rintro (⟨hq, hne⟩ | ⟨r, hr, he, rfl⟩ | ⟨hall, _⟩)
          · rcases List.mem_cons.1 hq with rfl | hq
            · exact absurd c2 hne
            · exact List.mem_cons_of_mem _ hq
          · rcases List.mem_cons.1 hr with rfl | hr
            · exact List.mem_cons_self
            · have := h1 r hr; omega
          · exact absurd c2 (hall o List.mem_cons_self)
      · rw [if_neg c2, List.mem_cons, ins_mem p h2 q]
        constructor
        · rintro (rfl | ⟨hq, hne⟩ | ⟨r, hr, he, rfl⟩ | ⟨hall, rfl⟩)
          · exact .inl ⟨List.mem_cons_self, c2⟩
          · exact .inl ⟨List.mem_cons_of_mem _ hq, hne⟩
          · exact .inr (.inl ⟨r, List.mem_cons_of_mem _ hr, he, rfl⟩)
          · exact .inr (.inr ⟨fun r hr => by
              rcases List.mem_cons.1 hr with rfl | hr
              · exact c2
              · exact hall r hr, rfl⟩)
        · rintro (⟨hq, hne⟩ | ⟨r, hr, he, rfl⟩ | ⟨hall, rfl⟩)
          · rcases List.mem_cons.1 hq with rfl | hq
            · exact .inl rfl
            · exact .inr (.inl ⟨hq, hne⟩)
          · rcases List.mem_cons.1 hr with rfl | hr
            · exact absurd he c2
            · exact .inr (.inr (.inl ⟨r, hr, he, rfl⟩))
          · exact .inr (.inr (.inr ⟨fun r hr => hall r (List.mem_cons_of_mem _ hr), rfl⟩))
theorem ins_inc (p : PitT) : ∀ {l : List PitT}, (l.Pairwise fun p q => p.1 < q.1) → (insM l p).Pairwise fun p q => p.1 < q.1
  | [], _ => by simp [insM]
  | o :: l, h => by
    obtain ⟨h1, h2⟩ := List.pairwise_cons.1 h
    unfold insM
    by_cases c1 : o.1 > p.1
    · rw [if_pos c1]
      refine List.pairwise_cons.2 ⟨fun q hq => ?_, h⟩
      rcases List.mem_cons.1 hq with rfl | hq
      · exact c1
      · have := h1 q hq; omega
    · rw [if_neg c1]
      by_cases c2 : o.1 = p.1
      · rw [if_pos c2]
        exact List.pairwise_cons.2 ⟨fun q hq => h1 q hq, h2⟩
      · rw [if_neg c2]
        refine List.pairwise_cons.2 ⟨fun q hq => ?_, ins_inc p h2⟩
        rcases (ins_mem p h2 q).1 hq with ⟨hq, _⟩ | ⟨r, hr, _, rfl⟩ | ⟨_, rfl⟩
        · exact h1 q hq
        · exact h1 r hr
        · omega
theorem ins_len (p : PitT) : ∀ l : List PitT, (insM l p).length ≤ l.length + 1
  | [] => Nat.le_refl _
  | o :: l => by
    have := ins_len p l
    unfold insM
    split
    · simp
    · split <;> simp
      omega
theorem both_in {a b : Span} {v : Int} : In (bothM a b) v ↔ In a v ∧ In b v := by
  unfold In bothM
  dsimp only
  constructor
  · rintro ⟨h1, h2⟩; exact ⟨⟨by omega, by omega⟩, by omega, by omega⟩
  · rintro ⟨⟨h1, h2⟩, h3, h4⟩; exact ⟨by omega, by omega⟩
/-- What all pits tell, told of a row with one more. -/
theorem ins_all {l : List PitT} (hl : l.Pairwise fun p q => p.1 < q.1) (p : PitT) (F : PitT → Prop) (hF : ∀ o, o.1 = p.1 → (F (mergeM o p) ↔ F o ∧ F p)) : (∀ q ∈ insM l p, F q) ↔ (∀ q ∈ l, F q) ∧ F p := by
  constructor
  · intro h
    by_cases hc : ∃ o ∈ l, o.1 = p.1
    · obtain ⟨o, ho, he⟩ := hc
      have hm := (hF o he).1 (h _ ((ins_mem p hl _).2 (.inr (.inl ⟨o, ho, he, rfl⟩))))
      refine ⟨fun q hq => ?_, hm.2⟩
      by_cases hq2 : q.1 = p.1
      · rw [pit_uniq hl hq ho (by omega)]; exact hm.1
      · exact h q ((ins_mem p hl _).2 (.inl ⟨hq, hq2⟩))
    · have hall : ∀ o ∈ l, o.1 ≠ p.1 := fun o ho he => hc ⟨o, ho, he⟩
      exact ⟨fun q hq => h q ((ins_mem p hl _).2 (.inl ⟨hq, hall q hq⟩)), h p ((ins_mem p hl _).2 (.inr (.inr ⟨hall, rfl⟩)))⟩
  · rintro ⟨h1, h2⟩ q hq
    rcases (ins_mem p hl _).1 hq with ⟨hq, _⟩ | ⟨o, ho, he, rfl⟩ | ⟨_, rfl⟩
    · exact h1 q hq
    · exact (hF o he).2 ⟨h1 o ho, h2⟩
    · exact h2
theorem htr_with {g : GroundT} (hg : GOk g) (p : PitT) (h : Int → Int) : HTr (withGM g p) h ↔ HTr g h ∧ In p.2.1 (h p.1) := by
  have hi := ins_all hg.inc p (fun q => q.2.1.1 ≤ h q.1 ∧ h q.1 ≤ q.2.1.2) fun o he => by
    show In (bothM o.2.1 p.2.1) (h o.1) ↔ In o.2.1 (h o.1) ∧ In p.2.1 (h p.1)
    rw [both_in, he]
  rw [← with_ins p hg.inc] at hi
  constructor
  · rintro ⟨h1, h2, h3⟩
    obtain ⟨h4, h5⟩ := hi.1 h3
    exact ⟨⟨h1, h2, h4⟩, h5⟩
  · rintro ⟨⟨h1, h2, h3⟩, h4⟩
    exact ⟨h1, h2, hi.2 ⟨h3, h4⟩⟩
/-- A mix that a pit lets in. -/
def Fit (p : PitT) (x : T3) : Prop := In p.2.2.1 x.1 ∧ In p.2.2.2.1 x.2.1 ∧ In p.2.2.2.2 x.2.2
theorem merge_fit (o p : PitT) (x : T3) : Fit (mergeM o p) x ↔ Fit o x ∧ Fit p x := by
  unfold Fit mergeM
  dsimp only
  rw [both_in, both_in, both_in]
  constructor
  · rintro ⟨⟨h1, h2⟩, ⟨h3, h4⟩, h5, h6⟩; exact ⟨⟨h1, h3, h5⟩, h2, h4, h6⟩
  · rintro ⟨⟨h1, h3, h5⟩, h2, h4, h6⟩; exact ⟨⟨h1, h2⟩, ⟨h3, h4⟩, h5, h6⟩
theorem al_with {g : GroundT} (hg : GOk g) (p : PitT) (k : Nat) (x : T3) : Al (withGM g p) k x ↔ Al g k x ∧ (p.1 = (k : Int) → Fit p x) := by
  have hi := ins_all hg.inc p (fun q => q.1 = (k : Int) → Fit q x) fun o he => by
    show (o.1 = (k : Int) → Fit (mergeM o p) x) ↔ _
    rw [merge_fit, he]
    exact ⟨fun h => ⟨fun e => (h e).1, fun e => (h e).2⟩, fun h e => ⟨h.1 e, h.2 e⟩⟩
  rw [← with_ins p hg.inc] at hi
  constructor
  · rintro ⟨h1, h2⟩
    obtain ⟨h3, h4⟩ := hi.1 h2
    exact ⟨⟨h1, h3⟩, h4⟩
  · rintro ⟨⟨h1, h2⟩, h3⟩
    exact ⟨h1, hi.2 ⟨h2, h3⟩⟩
theorem mtr_with {g : GroundT} (hg : GOk g) (p : PitT) {a : Nat} (ha : p.1 = (a : Int)) (hn : a < nM g) (m : Nat → T3) : MTr (withGM g p) m ↔ MTr g m ∧ Fit p (m a) := by
  constructor
  · rintro ⟨h1, h2⟩
    exact ⟨⟨fun k hk => ((al_with hg p k _).1 (h1 k hk)).1, h2⟩, ((al_with hg p a _).1 (h1 a hn)).2 ha⟩
  · rintro ⟨⟨h1, h2⟩, h3⟩
    exact ⟨fun k hk => (al_with hg p k _).2 ⟨h1 k hk, fun e => by rwa [show k = a by omega]⟩, h2⟩
/-- A span that is valid, or of one number. -/
def SpOne (s : Span) (n : Int) : Prop := SpOk s n ∨ s.1 = s.2
structure POne (p : PitT) : Prop where
  hard : SpOne p.2.1 1000
  sand : SpOne p.2.2.1 20
  silt : SpOne p.2.2.2.1 20
  clay : SpOne p.2.2.2.2 20
theorem sp_one {s : Span} {n v : Int} (h : SpOne s n) (hv : In s v) (h0 : 0 ≤ v ∧ v ≤ n) : SpOk s n := by
  rcases h with h | h
  · exact h
  · obtain ⟨h1, h2⟩ := hv
    exact ⟨by omega, by omega, by omega⟩
theorem sp_both {a b : Span} {n v : Int} (h : SpOk a n) (ha : In a v) (hb : In b v) : SpOk (bothM a b) n := by
  obtain ⟨h1, h2, h3⟩ := h
  obtain ⟨h4, h5⟩ := ha
  obtain ⟨h6, h7⟩ := hb
  unfold SpOk bothM
  dsimp only
  exact ⟨by omega, by omega, by omega⟩
theorem with_gok {g : GroundT} (hg : GOk g) (h7 : g.pits.length ≤ 7) {p : PitT} (hp : POne p) (hpl : Pl g p.1) {h : Int → Int} {m : Nat → T3} {a : Nat} (ha : p.1 = (a : Int)) (hn : a < nM g) (th : HTr g h) (tm : MTr g m) (f1 : In p.2.1 (h p.1)) (f2 : Fit p (m a)) : GOk (withGM g p) where
  long := hg.long
  rise := hg.rise
  change := hg.change
  len := by
    show (withM g.pits p).length ≤ 8
    rw [with_ins p hg.inc]
    have := ins_len p g.pits
    omega
  inc := by
    show (withM g.pits p).Pairwise _
    rw [with_ins p hg.inc]; exact ins_inc p hg.inc
  pits := fun q hq => by
    have hq' : q ∈ insM g.pits p := by rw [← with_ins p hg.inc]; exact hq
    obtain ⟨⟨x0, x1, x2, x3⟩, xp⟩ := tm.al a hn
    obtain ⟨k1, k2, k3⟩ := f2
    rcases (ins_mem p hg.inc q).1 hq' with ⟨hq, _⟩ | ⟨o, ho, he, rfl⟩ | ⟨_, rfl⟩
    · exact hg.pits q hq
    · have ok := hg.pits o ho
      have hh := th.pits o ho
      obtain ⟨j1, j2, j3⟩ := xp o ho (by omega)
      rw [he] at hh
      exact ⟨ok.at_, sp_both ok.hard hh f1, sp_both ok.sand j1 k1, sp_both ok.silt j2 k2, sp_both ok.clay j3 k3⟩
    · exact ⟨hpl, sp_one hp.hard f1 (th.bound _ hpl), sp_one hp.sand k1 ⟨x1, by omega⟩, sp_one hp.silt k2 ⟨x2, by omega⟩, sp_one hp.clay k3 ⟨x3, by omega⟩⟩
theorem can_iff {g : GroundT} (hg : GOk g) (h7 : g.pits.length ≤ 7) {p : PitT} (hp : POne p) {a : Nat} (ha : p.1 = (a : Int)) (hn : a < nM g) : canM g p = true ↔ ∃ h m, HTr g h ∧ MTr g m ∧ In p.2.1 (h p.1) ∧ Fit p (m a) := by
  have hpl : Pl g p.1 := by rw [ha]; exact pl_of hg hn
  unfold canM
  rw [Bool.and_eq_true]
  constructor
  · rintro ⟨h1, h2⟩
    have ok := ground_ok h1
    have hl : lookM (withGM g p) = true := by
      have e := hard_told h1 (k := 0) ⟨Int.le_refl _, ok.long.1⟩
      rw [e] at h2
      cases hc : lookM (withGM g p) with
      | true => rfl
      | false => rw [hc] at h2; exact absurd h2 (by simp)
    obtain ⟨⟨h, th⟩, m, tm⟩ := (look_truth ok).1 hl
    obtain ⟨t1, t2⟩ := (htr_with hg p h).1 th
    obtain ⟨t3, t4⟩ := (mtr_with hg p ha hn m).1 tm
    exact ⟨h, m, t1, t3, t2, t4⟩
  · rintro ⟨h, m, th, tm, f1, f2⟩
    have ok := with_gok hg h7 hp hpl ha hn th tm f1 f2
    have h1 := ground_of ok
    have hl := (look_truth ok).2 ⟨⟨h, (htr_with hg p h).2 ⟨th, f1⟩⟩, m, (mtr_with hg p ha hn m).2 ⟨tm, f2⟩⟩
    refine ⟨h1, ?_⟩
    rw [hard_told h1 (k := 0) ⟨Int.le_refl _, ok.long.1⟩, hl]; rfl
/-! ### the ends -/
theorem all_sp (n : Int) (h : 0 ≤ n) : SpOk (0, n) n := ⟨Int.le_refl _, h, Int.le_refl _⟩
theorem all_in {g : GroundT} {m : Nat → T3} (t : MTr g m) {a : Nat} (hn : a < nM g) : In (0, 20) (m a).1 ∧ In (0, 20) (m a).2.1 ∧ In (0, 20) (m a).2.2 := by
  obtain ⟨⟨x0, x1, x2, x3⟩, _⟩ := t.al a hn
  unfold In
  dsimp only
  exact ⟨⟨x1, by omega⟩, ⟨x2, by omega⟩, x3, by omega⟩
theorem can_hard {g : GroundT} (hg : GOk g) (h7 : g.pits.length ≤ 7) (hl : lookM g = true) {a : Nat} (hn : a < nM g) (n : Int) : canM g (toldPM 0 (a : Int) n) = true ↔ In (hardM g (a : Int)) n := by
  have hp : POne (toldPM 0 (a : Int) n) := ⟨.inr rfl, .inl (all_sp 20 (by decide)), .inl (all_sp 20 (by decide)), .inl (all_sp 20 (by decide))⟩
  rw [can_iff hg h7 hp (a := a) rfl hn]
  constructor
  · rintro ⟨h, m, th, tm, ⟨f1, f2⟩, f3⟩
    have e : h (a : Int) = n := by
      have f1' : n ≤ h (a : Int) := f1
      have f2' : h (a : Int) ≤ n := f2
      omega
    rw [← e]
    exact th.inside hg (pl_of hg hn)
  · rintro ⟨h1, h2⟩
    obtain ⟨_, m, tm⟩ := (look_truth hg).1 hl
    have th := hard_any hg (look_hok hg hl) (pl_of hg hn) h1 h2
    have e := hard_any_at (g := g) (a := (a : Int)) (n := n) h1
    refine ⟨_, m, th, tm, ?_, all_in tm hn⟩
    show n ≤ max (hardM g (a : Int)).1 (n - D (a : Int) (a : Int) * g.rise) ∧ max (hardM g (a : Int)).1 (n - D (a : Int) (a : Int) * g.rise) ≤ n
    rw [e]; exact ⟨Int.le_refl _, Int.le_refl _⟩
theorem hard_in {g : GroundT} {h : Int → Int} (t : HTr g h) {a : Int} (ha : Pl g a) : In (0, 1000) (h a) := t.bound a ha
/-- A pit that tells of mixes alone. -/
theorem can_mix {g : GroundT} (hg : GOk g) (h7 : g.pits.length ≤ 7) (hl : lookM g = true) {p : PitT} (hp : POne p) (h0 : p.2.1 = (0, 1000)) {a : Nat} (ha : p.1 = (a : Int)) (hn : a < nM g) : canM g p = true ↔ ∃ x, Mem ((boxesM g).getD a m0) x ∧ Fit p x := by
  rw [can_iff hg h7 hp ha hn]
  constructor
  · rintro ⟨h, m, th, tm, f1, f2⟩
    exact ⟨m a, (box_truth hg hn _).2 ⟨m, tm, rfl⟩, f2⟩
  · rintro ⟨x, hx, hf⟩
    obtain ⟨m, tm, rfl⟩ := (box_truth hg hn x).1 hx
    obtain ⟨⟨h, th⟩, _⟩ := (look_truth hg).1 hl
    exact ⟨h, m, th, tm, by rw [h0]; exact hard_in th (by rw [ha]; exact pl_of hg hn), hf⟩
theorem mem_all {m : Mix3} (h : Good m) {x : T3} (hx : Mem m x) : In (0, 20) x.1 ∧ In (0, 20) x.2.1 ∧ In (0, 20) x.2.2 := by
  obtain ⟨h0, h1, h2, h3⟩ := hx.ok3 h
  exact ⟨⟨h1, by show x.1 ≤ 20; omega⟩, ⟨h2, by show x.2.1 ≤ 20; omega⟩, h3, by show x.2.2 ≤ 20; omega⟩
theorem can_sand {g : GroundT} (hg : GOk g) (h7 : g.pits.length ≤ 7) (hl : lookM g = true) {a : Nat} (hn : a < nM g) (n : Int) : canM g (toldPM 1 (a : Int) n) = true ↔ In ((boxesM g).getD a m0).1 n := by
  have hp : POne (toldPM 1 (a : Int) n) := ⟨.inl (all_sp 1000 (by decide)), .inr rfl, .inl (all_sp 20 (by decide)), .inl (all_sp 20 (by decide))⟩
  rw [can_mix hg h7 hl hp rfl (a := a) rfl hn]
  have hgd := (stage2 hg hn).1
  constructor
  · rintro ⟨x, hx, ⟨f1, f2⟩, _⟩
    have f1' : n ≤ x.1 := f1
    have f2' : x.1 ≤ n := f2
    rw [show n = x.1 by omega]; exact hx.2.1
  · intro h
    obtain ⟨x, hx, rfl⟩ := (box_tight hg hl hn).lowA h
    obtain ⟨_, k2, k3⟩ := mem_all hgd hx
    exact ⟨x, hx, ⟨Int.le_refl _, Int.le_refl _⟩, k2, k3⟩
theorem can_silt {g : GroundT} (hg : GOk g) (h7 : g.pits.length ≤ 7) (hl : lookM g = true) {a : Nat} (hn : a < nM g) (n : Int) : canM g (toldPM 2 (a : Int) n) = true ↔ In ((boxesM g).getD a m0).2.1 n := by
  have hp : POne (toldPM 2 (a : Int) n) := ⟨.inl (all_sp 1000 (by decide)), .inl (all_sp 20 (by decide)), .inr rfl, .inl (all_sp 20 (by decide))⟩
  rw [can_mix hg h7 hl hp rfl (a := a) rfl hn]
  have hgd := (stage2 hg hn).1
  constructor
  · rintro ⟨x, hx, _, ⟨f1, f2⟩, _⟩
    have f1' : n ≤ x.2.1 := f1
    have f2' : x.2.1 ≤ n := f2
    rw [show n = x.2.1 by omega]; exact hx.2.2.1
  · intro h
    obtain ⟨x, hx, rfl⟩ := (box_tight hg hl hn).lowB h
    obtain ⟨k1, _, k3⟩ := mem_all hgd hx
    exact ⟨x, hx, k1, ⟨Int.le_refl _, Int.le_refl _⟩, k3⟩
theorem can_clay {g : GroundT} (hg : GOk g) (h7 : g.pits.length ≤ 7) (hl : lookM g = true) {a : Nat} (hn : a < nM g) (n : Int) : canM g (toldPM 3 (a : Int) n) = true ↔ In ((boxesM g).getD a m0).2.2 n := by
  have hp : POne (toldPM 3 (a : Int) n) := ⟨.inl (all_sp 1000 (by decide)), .inl (all_sp 20 (by decide)), .inl (all_sp 20 (by decide)), .inr rfl⟩
  rw [can_mix hg h7 hl hp rfl (a := a) rfl hn]
  have hgd := (stage2 hg hn).1
  constructor
  · rintro ⟨x, hx, _, _, f1, f2⟩
    have f1' : n ≤ x.2.2 := f1
    have f2' : x.2.2 ≤ n := f2
    rw [show n = x.2.2 by omega]; exact hx.2.2.2
  · intro h
    obtain ⟨x, hx, rfl⟩ := (box_tight hg hl hn).lowC h
    obtain ⟨k1, k2, _⟩ := mem_all hgd hx
    exact ⟨x, hx, k1, k2, Int.le_refl _, Int.le_refl _⟩
theorem spc (lo hi n : Int) (h : (decide (0 ≤ lo) && decide (lo ≤ hi) && decide (hi ≤ n)) = true) : SpOk (lo, hi) n := by
  simp only [Bool.and_eq_true, decide_eq_true_eq] at h
  exact ⟨h.1.1, h.1.2, h.2⟩
/-- The pits that tell of a class. -/
def clsPM : Nat → Int → PitT
  | 0, a => (a, (0, 1000), (0, 13), (0, 11), 0, 7)
  | 1, a => (a, (0, 1000), (14, 20), (0, 20), 0, 7)
  | 2, a => (a, (0, 1000), (0, 13), (12, 20), 0, 7)
  | _, a => (a, (0, 1000), (0, 20), (0, 20), 8, 20)
theorem cls_fit {x : T3} (h : Ok3 x) (a : Int) : (Fit (clsPM 0 a) x ↔ clsM x = 0) ∧ (Fit (clsPM 1 a) x ↔ clsM x = 1) ∧ (Fit (clsPM 2 a) x ↔ clsM x = 2) ∧ (Fit (clsPM 3 a) x ↔ clsM x = 3) := by
  obtain ⟨h0, h1, h2, h3⟩ := h
  simp only [Fit, clsPM, In, clsM]
  refine ⟨?_, ?_, ?_, ?_⟩ <;> split <;> (try split) <;> (try split) <;> constructor <;> intro k <;> first | (exact ⟨⟨by omega, by omega⟩, ⟨by omega, by omega⟩, by omega, by omega⟩) | omega
theorem can_cls {g : GroundT} (hg : GOk g) (h7 : g.pits.length ≤ 7) (hl : lookM g = true) {a : Nat} (hn : a < nM g) : ∃ c3 c1 c2 c0 : Bool, classesM ((boxesM g).getD a m0) = bitsM c3 c1 c2 c0 ∧ canM g (clsPM 0 (a : Int)) = c0 ∧ canM g (clsPM 1 (a : Int)) = c1 ∧ canM g (clsPM 2 (a : Int)) = c2 ∧ canM g (clsPM 3 (a : Int)) = c3 ∧ (c3 || c1 || c2 || c0) = true := by
  have hgd := (stage2 hg hn).1
  obtain ⟨c3, c1, c2, c0, e, i3, i1, i2, i0⟩ := class_bits hgd
  have hb : ∀ b c : Bool, (b = true ↔ c = true) → b = c := by decide
  have a20 := all_sp 20 (by decide)
  have a1000 := all_sp 1000 (by decide)
  refine ⟨c3, c1, c2, c0, e, hb _ _ ?_, hb _ _ ?_, hb _ _ ?_, hb _ _ ?_, ?_⟩
  · rw [can_mix hg h7 hl (p := clsPM 0 (a : Int)) ⟨.inl a1000, .inl (spc 0 13 20 (by decide)), .inl (spc 0 11 20 (by decide)), .inl (spc 0 7 20 (by decide))⟩ rfl (a := a) rfl hn, i0]
    exact exists_congr fun x => ⟨fun ⟨p, q⟩ => ⟨p, (cls_fit (p.ok3 hgd) _).1.1 q⟩, fun ⟨p, q⟩ => ⟨p, (cls_fit (p.ok3 hgd) _).1.2 q⟩⟩
  · rw [can_mix hg h7 hl (p := clsPM 1 (a : Int)) ⟨.inl a1000, .inl (spc 14 20 20 (by decide)), .inl (spc 0 20 20 (by decide)), .inl (spc 0 7 20 (by decide))⟩ rfl (a := a) rfl hn, i1]
    exact exists_congr fun x => ⟨fun ⟨p, q⟩ => ⟨p, (cls_fit (p.ok3 hgd) _).2.1.1 q⟩, fun ⟨p, q⟩ => ⟨p, (cls_fit (p.ok3 hgd) _).2.1.2 q⟩⟩
  · rw [can_mix hg h7 hl (p := clsPM 2 (a : Int)) ⟨.inl a1000, .inl (spc 0 13 20 (by decide)), .inl (spc 12 20 20 (by decide)), .inl (spc 0 7 20 (by decide))⟩ rfl (a := a) rfl hn, i2]
    exact exists_congr fun x => ⟨fun ⟨p, q⟩ => ⟨p, (cls_fit (p.ok3 hgd) _).2.2.1.1 q⟩, fun ⟨p, q⟩ => ⟨p, (cls_fit (p.ok3 hgd) _).2.2.1.2 q⟩⟩
  · rw [can_mix hg h7 hl (p := clsPM 3 (a : Int)) ⟨.inl a1000, .inl (spc 0 20 20 (by decide)), .inl (spc 0 20 20 (by decide)), .inl (spc 8 20 20 (by decide))⟩ rfl (a := a) rfl hn, i3]
    exact exists_congr fun x => ⟨fun ⟨p, q⟩ => ⟨p, (cls_fit (p.ok3 hgd) _).2.2.2.1 q⟩, fun ⟨p, q⟩ => ⟨p, (cls_fit (p.ok3 hgd) _).2.2.2.2 q⟩⟩
  · obtain ⟨x, hx⟩ := (box_tight hg hl hn).ex
    have hcases : clsM x = 3 ∨ clsM x = 1 ∨ clsM x = 2 ∨ clsM x = 0 := by unfold clsM; split <;> (try split) <;> (try split) <;> simp
    rcases hcases with h | h | h | h
    · rw [i3.2 ⟨x, hx, h⟩]; rfl
    · rw [i1.2 ⟨x, hx, h⟩]; cases c3 <;> rfl
    · rw [i2.2 ⟨x, hx, h⟩]; cases c3 <;> cases c1 <;> rfl
    · rw [i0.2 ⟨x, hx, h⟩]; cases c3 <;> cases c1 <;> cases c2 <;> rfl
end AE.Soil
