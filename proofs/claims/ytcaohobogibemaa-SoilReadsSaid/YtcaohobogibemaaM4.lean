/- An own symbolic executor for the model's code, and what the functions beneath the law compute, joined out of: SoM, SoN, SoO, SoP, SoQ, SoR, SoS, SoT, SoV, SoW, SoTA, SoRA, SoRB, SoX, SoZ0, SoZ1, SoRC. No condition. -/
import Derived.Test.YtcaohobogibemaaM3

set_option linter.unusedSimpArgs false
set_option linter.unusedVariables false
namespace AE.Soil
open Go AE Go.Proofs

def orM (a b : Int) : Int := W (BitVec.ofInt 64 a ||| BitVec.ofInt 64 b).toNat
/-- The classes but the last: number, least share, part. -/
def kindM : Nat → Int × Int × Pt
  | 0 => (3, 8, .p0)
  | 1 => (1, 14, .p1)
  | _ => (2, 12, .p2)
def hasM (m : Mix3) (j : Nat) : Mix3 := andM m (ptM (kindM j).2.2 anyM (fromM (kindM j).2.1))
def hasntM (m : Mix3) (j : Nat) : Mix3 := andM m (ptM (kindM j).2.2 anyM (belowM (kindM j).2.1))
def leftM (m : Mix3) : Nat → Mix3
  | 0 => m
  | j + 1 => hasntM (leftM m j) j
def setM (m : Mix3) : Nat → Int
  | 0 => 0
  | j + 1 => if noneM (hasM (leftM m j) j) then setM m j else orM (setM m j) (W (1 * 2 ^ (kindM j).1.toNat))
def classesM (m : Mix3) : Int := if noneM (leftM m 1) then setM m 1 else if noneM (leftM m 2) then setM m 2 else if noneM (leftM m 3) then setM m 3 else orM (setM m 3) 1
def classSt (m : Mix3) (s : Int) (i : Nat) : Fr := [(4, .i s), (5, .ptr 2 0 0 0), (15, .agg (vKind 3 7 3 4 6 ++ vKind 1 9 3 4 8 ++ vKind 2 11 3 4 10)), (16, .i i)]
def classH (l : List Mix3) (m : Mix3) : Heap UU := [.one (.ro .mix l), .one (.rc [.junk, .junk, .junk, .junk, .junk, .sl 0 0 0 l.length] 71), .one (.cells (cMix m) 80), .one cFrom, .one cBelow, .one (.cells (cMix anyM) 80), .one (cInt 8), .one (cOf .p0 5), .one (cInt 14), .one (cOf .p1 5), .one (cInt 12), .one (cOf .p2 5)]
def avMixes (H : Heap UU) : AV → Option (List Mix3)
  | .ptr i 0 0 0 => match blkAt H i 0 with
    | some (.cells [_, _, _, _, _, a] _) => sliceAt .mix H a
    | some (.rc [_, _, _, _, _, a] _) => sliceAt .mix H a
    | _ => none
  | _ => none
def classesS : FSpec UU where
  X := List Mix3 × Int
  pick := fun args H => match args with
    | [g, a] => match avMixes H g, avInt a with
      | some l, some a => some (l, a)
      | _, _ => none
    | _ => none
  args := fun x => [.ptr 1 0 0 0, .i x.2]
  H := fun x => [.one (.ro .mix x.1), .one (.rc [.junk, .junk, .junk, .junk, .junk, .sl 0 0 0 x.1.length] 71)]
  R := fun x => .val ⟨.i (classesM (x.1.getD x.2.toNat m0)), [], [], []⟩
  pre := fun x => 0 ≤ x.2 ∧ x.2 < x.1.length ∧ x.1.length < 1000
def Tclasses : Tab UU := [(59, kindsS.con), (60, isNoneS.con), (79, (partS 73 fromM).con), (80, (partS 74 belowM).con)]
theorem Tclasses_ok : Tclasses.Sound Try.prog := .cons kinds_sound (.cons isNone_sound (.cons can_sound (.cons cannot_sound .nil)))
theorem set1t {m : Mix3} (h : noneM (andM m (ptM .p0 anyM (fromM 8))) = true) : setM m 1 = 0 := by
  show (if noneM (andM m (ptM .p0 anyM (fromM 8))) then setM m 0 else _) = _
  rw [h]; exact if_pos rfl
theorem set1f {m : Mix3} (h : noneM (andM m (ptM .p0 anyM (fromM 8))) = false) : setM m 1 = W 8 := by
  show (if noneM (andM m (ptM .p0 anyM (fromM 8))) then setM m 0 else orM (setM m 0) (W (1 * 2 ^ 3))) = _
  rw [h]; exact (if_neg (by decide)).trans (show orM 0 (W (1 * 2 ^ 3)) = W 8 by decide)
theorem set2t {m : Mix3} (h : noneM (andM (leftM m 1) (ptM .p1 anyM (fromM 14))) = true) : setM m 2 = setM m 1 := by
  show (if noneM (andM (leftM m 1) (ptM .p1 anyM (fromM 14))) then setM m 1 else _) = _
  rw [h]; exact if_pos rfl
theorem set2f {m : Mix3} (h : noneM (andM (leftM m 1) (ptM .p1 anyM (fromM 14))) = false) : setM m 2 = orM (setM m 1) (W (1 * 2 ^ 1)) := by
  show (if noneM (andM (leftM m 1) (ptM .p1 anyM (fromM 14))) then setM m 1 else orM (setM m 1) (W (1 * 2 ^ 1))) = _
  rw [h]; exact if_neg (by decide)
theorem set3t {m : Mix3} (h : noneM (andM (leftM m 2) (ptM .p2 anyM (fromM 12))) = true) : setM m 3 = setM m 2 := by
  show (if noneM (andM (leftM m 2) (ptM .p2 anyM (fromM 12))) then setM m 2 else _) = _
  rw [h]; exact if_pos rfl
theorem set3f {m : Mix3} (h : noneM (andM (leftM m 2) (ptM .p2 anyM (fromM 12))) = false) : setM m 3 = orM (setM m 2) (W (1 * 2 ^ 2)) := by
  show (if noneM (andM (leftM m 2) (ptM .p2 anyM (fromM 12))) then setM m 2 else orM (setM m 2) (W (1 * 2 ^ 2))) = _
  rw [h]; exact if_neg (by decide)
theorem cls1 {m : Mix3} (h : noneM (leftM m 1) = true) : classesM m = setM m 1 := by unfold classesM; rw [h]; rfl
theorem cls2 {m : Mix3} (h1 : noneM (leftM m 1) = false) (h : noneM (leftM m 2) = true) : classesM m = setM m 2 := by unfold classesM; rw [h1, h]; rfl
theorem cls3 {m : Mix3} (h1 : noneM (leftM m 1) = false) (h2 : noneM (leftM m 2) = false) (h : noneM (leftM m 3) = true) : classesM m = setM m 3 := by unfold classesM; rw [h1, h2, h]; rfl
theorem cls4 {m : Mix3} (h1 : noneM (leftM m 1) = false) (h2 : noneM (leftM m 2) = false) (h : noneM (leftM m 3) = false) : classesM m = orM (setM m 3) 1 := by unfold classesM; rw [h1, h2, h]; rfl
theorem left1 (m : Mix3) : andM m (ptM .p0 anyM (belowM 8)) = leftM m 1 := rfl
theorem left2 (m : Mix3) : andM (leftM m 1) (ptM .p1 anyM (belowM 14)) = leftM m 2 := rfl
theorem left3 (m : Mix3) : andM (leftM m 2) (ptM .p2 anyM (belowM 12)) = leftM m 3 := rfl
section
set_option maxHeartbeats 0 in
set_option maxRecDepth 100000 in
theorem classes_ok : ∀ x, classesS.pre x → FunOk Try.prog 40 (classesS.args x) (classesS.H x) (classesS.R x) := by
  rintro ⟨l, at_⟩ hx
  refine fun_of (T := Tclasses) (L := fun _ => some (.steps [(classSt (l.getD at_.toNat m0) 0 0, classH l (l.getD at_.toNat m0)), (classSt (l.getD at_.toNat m0) (setM (l.getD at_.toNat m0) 1) 1, classH l (leftM (l.getD at_.toNat m0) 1)), (classSt (l.getD at_.toNat m0) (setM (l.getD at_.toNat m0) 2) 2, classH l (leftM (l.getD at_.toNat m0) 2)), (classSt (l.getD at_.toNat m0) (setM (l.getD at_.toNat m0) 3) 3, classH l (leftM (l.getD at_.toNat m0) 3))])) (hs := fun _ => []) hmix Tclasses_ok Try.func40 (by kernel_rfl) (by kernel_rfl) ?_
  refine Eq.mp (α :=
      let Z0 := Int.toNat at_; let Z1 := True ∧ True; let Z2 := List.length l; let Z3 := (↑(nat_lit 0) : Int); let Z4 := nat_lit 0 = nat_lit 0 ∧ nat_lit 0 = nat_lit 0; let Z5 := (↑(nat_lit 3) : Int); let Z6 := (↑(nat_lit 1) : Int); let Z7 := (↑(nat_lit 8) : Int); let Z8 := (↑(nat_lit 2) : Int); let Z9 := (0 : Int); let Z10 := (8 : Int); let Z11 := (3 : Int); let Z12 := (1 : Int); let Z13 := (2 : Int); let Z14 := Fn.func (nat_lit 76) = Fn.func (nat_lit 76); let Z15 := Fn.func (nat_lit 75) = Fn.func (nat_lit 75); let Z16 := Fn.func (nat_lit 77) = Fn.func (nat_lit 77); let Z17 := (12 : Int); let Z18 := (14 : Int); let Z19 := (79 : FuncId); let Z20 := (73 : FuncId); let Z21 := (80 : FuncId); let Z22 := l = l; let Z23 := (74 : FuncId); let Z24 := fromM Z10; let Z25 := belowM Z10; let Z26 := fromM Z18; let Z27 := fromM Z17; let Z28 := belowM Z18; let Z29 := belowM Z17; let Z30 := nat_lit 0 = nat_lit 0 ∧ Z4; let Z31 := Fn.func Z20; let Z32 := Fn.func Z23; let Z33 := Fn.func Z19; let Z34 := Fn.func Z21; let Z35 := BitVec.ofInt (nat_lit 64) Z12; let Z36 := Value.int IntKind.i64 Z6; let Z37 := Value.int IntKind.i64 Z8; let Z38 := Value.int IntKind.i64 Z5; let Z39 := Value.int IntKind.i64 Z10; let Z40 := Value.int IntKind.i64 Z11; let Z41 := Prod.fst anyM; let Z42 := Prod.snd anyM; let Z43 := Value.int IntKind.i64 Z12; let Z44 := Value.int IntKind.i64 Z9; let Z45 := Value.int IntKind.i64 Z13; let Z46 := IntKind.wrap IntKind.i64 Z7; let Z47 := Value.int IntKind.i64 Z18; let Z48 := Value.int IntKind.i64 Z17; let Z49 := Z30 ∧ True; let Z50 := Z2 = Z2; let Z51 := nat_lit 0 + Z0; let Z52 := True ∧ Z49; let Z53 := Z32 = Fn.func (nat_lit 74); let Z54 := Z31 = Fn.func (nat_lit 73); let Z55 := ptM Pt.p0 anyM Z24; let Z56 := ptM Pt.p0 anyM Z25; let Z57 := ptM Pt.p1 anyM Z26; let Z58 := ptM Pt.p2 anyM Z27; let Z59 := Prod.snd Z41; let Z60 := ptM Pt.p1 anyM Z28; let Z61 := ptM Pt.p2 anyM Z29; let Z62 := Prod.fst Z41; let Z63 := nat_lit 0 = nat_lit 0 ∧ Z50; let Z64 := Value.int IntKind.i64 Z46; let Z65 := (Z9, Z9); let Z66 := Prod.snd Z42; let Z67 := Prod.fst Z42; let Z68 := Z8 < Z5; let Z69 := Z6 < Z5; let Z70 := Z5 < Z5; let Z71 := Z3 < Z11; let Z72 := Z9 ≤ Z5; let Z73 := Z5 < Z11; let Z74 := Z8 < Z11; let Z75 := Z9 ≤ Z8; let Z76 := Z9 ≤ Z6; let Z77 := Z6 < Z11; let Z78 := Z9 ≤ Z13; let Z79 := Z9 ≤ Z12; let Z80 := Z54 ∧ Z1; let Z81 := Z53 ∧ Z1; let Z82 := Value.int IntKind.i64 Z62; let Z83 := nat_lit 0 = nat_lit 0 ∧ Z63; let Z84 := Value.int IntKind.i64 Z59; let Z85 := Z80 ∧ True; let Z86 := Z81 ∧ True; let Z87 := Prod.snd Z66; let Z88 := Prod.snd Z67; let Z89 := Prod.fst Z66; let Z90 := Prod.fst Z67; let Z91 := Z13 ^ nat_lit 2; let Z92 := Z13 ^ nat_lit 1; let Z93 := Z34 = Z34; let Z94 := Z83 ∧ True; let Z95 := Z32 = Z32; let Z96 := Z31 = Z31; let Z97 := Z33 = Z33; let Z98 := Z15 ∧ Z52; let Z99 := Z16 ∧ Z52; let Z100 := Z14 ∧ Z52; let Z101 := Z3 + Z12; let Z102 := Z6 + Z12; let Z103 := Z8 + Z12; let Z104 := Z30 ∧ Z49; let Z105 := True ∧ Z94; let Z106 := Z98 ∧ True; let Z107 := Z100 ∧ True; let Z108 := Z99 ∧ True; let Z109 := Z39 = Z39; let Z110 := Z45 = Z45; let Z111 := Z40 = Z40; let Z112 := Z43 = Z43; let Z113 := Z48 = Z48; let Z114 := Z47 = Z47; let Z115 := Value.int IntKind.i64 Z87; let Z116 := Value.int IntKind.i64 Z88; let Z117 := Value.int IntKind.i64 Z90; let Z118 := Value.int IntKind.i64 Z89; let Z119 := Z95 ∧ Z1; let Z120 := True ∧ Z105; let Z121 := Z96 ∧ Z1; let Z122 := Z108 ∧ True; let Z123 := Z109 ∧ True; let Z124 := Z113 ∧ True; let Z125 := Z114 ∧ True; let Z126 := IntKind.wrap IntKind.i64 Z103; let Z127 := IntKind.wrap IntKind.i64 Z102; let Z128 := IntKind.wrap IntKind.i64 Z101; let Z129 := True ∧ Z120; let Z130 := Z119 ∧ True; let Z131 := Z121 ∧ True; let Z132 := True ∧ Z129; let Z133 := True ∧ Z132; let Z134 := Value.int IntKind.i64 Z126; let Z135 := Value.int IntKind.i64 Z127; let Z136 := Value.int IntKind.i64 Z128; let Z137 := Z30 ∧ Z104; let Z138 := Z133 ∧ True; let Z139 := True ∧ Z137; let Z140 := Z76 ∧ Z69; let Z141 := Z72 ∧ Z70; let Z142 := Z75 ∧ Z68; let Z143 := Z12 * Z92; let Z144 := Z12 * Z91; let Z145 := Z141 ∧ False; let Z146 := (Z65, Z65); let Z147 := Z84 = Z84; let Z148 := Z82 = Z82; let Z149 := IntKind.wrap IntKind.i64 Z143; let Z150 := IntKind.wrap IntKind.i64 Z144; let Z151 := decide Z71; let Z152 := decide Z77; let Z153 := decide Z73; let Z154 := decide Z74; let Z155 := Z22 ∧ Z138; let Z156 := Z135 = Z37; let Z157 := Z134 = Z38; let Z158 := Z136 = Z36; let Z159 := True ∧ Z155; let Z160 := BitVec.ofInt (nat_lit 64) Z149; let Z161 := BitVec.ofInt (nat_lit 64) Z150; let Z162 := Z153 = true; let Z163 := Z152 = true; let Z164 := Z154 = true; let Z165 := Z153 = false; let Z166 := Z152 = false; let Z167 := Z154 = false; let Z168 := Z158 ∧ True; let Z169 := Z157 ∧ True; let Z170 := Z156 ∧ True; let Z171 := Z117 = Z117; let Z172 := Z118 = Z118; let Z173 := Z116 = Z116; let Z174 := Z115 = Z115; let Z175 := Z124 ∧ Z122; let Z176 := Z174 ∧ True; let Z177 := Z97 ∧ Z139; let Z178 := Z93 ∧ Z139; let Z179 := Z178 ∧ True; let Z180 := (Z65, Z146); let Z181 := List.getD l Z0 Z180; let Z182 := setM Z181 (nat_lit 1); let Z183 := setM Z181 (nat_lit 3); let Z184 := setM Z181 (nat_lit 2); let Z185 := leftM Z181 (nat_lit 1); let Z186 := leftM Z181 (nat_lit 3); let Z187 := leftM Z181 (nat_lit 2); let Z188 := classesM Z181; let Z189 := BitVec.ofInt (nat_lit 64) Z182; let Z190 := BitVec.ofInt (nat_lit 64) Z183; let Z191 := BitVec.ofInt (nat_lit 64) Z184; let Z192 := Value.int IntKind.i64 Z184; let Z193 := Value.int IntKind.i64 Z182; let Z194 := Value.int IntKind.i64 Z183; let Z195 := Z107 ∧ Z175; let Z196 := Value.int IntKind.i64 Z188; let Z197 := Prod.snd Z181; let Z198 := Prod.fst Z181; let Z199 := Prod.snd Z187; let Z200 := Prod.snd Z185; let Z201 := Prod.fst Z186; let Z202 := Prod.fst Z187; let Z203 := Prod.snd Z186; let Z204 := Prod.fst Z185; let Z205 := List.getD l Z51 Z180; let Z206 := Prod.snd Z198; let Z207 := Prod.fst Z198; let Z208 := Z162 → Z145; let Z209 := Prod.snd Z197; let Z210 := Prod.fst Z197; let Z211 := Prod.fst Z201; let Z212 := Prod.fst Z202; let Z213 := Prod.fst Z204; let Z214 := Prod.snd Z201; let Z215 := Prod.snd Z202; let Z216 := Prod.snd Z204; let Z217 := andM Z181 Z55; let Z218 := andM Z181 Z56; let Z219 := Value.int IntKind.i64 Z207; let Z220 := Value.int IntKind.i64 Z206; let Z221 := Prod.fst Z200; let Z222 := Prod.snd Z200; let Z223 := Prod.fst Z203; let Z224 := Prod.fst Z199; let Z225 := Prod.snd Z203; let Z226 := Prod.snd Z199; let Z227 := Prod.snd Z210; let Z228 := Prod.snd Z209; let Z229 := Prod.fst Z209; let Z230 := Prod.fst Z210; let Z231 := noneM Z217; let Z232 := noneM Z218; let Z233 := andM Z185 Z57; let Z234 := andM Z187 Z58; let Z235 := andM Z187 Z61; let Z236 := andM Z185 Z60; let Z237 := Value.int IntKind.i64 Z212; let Z238 := Value.int IntKind.i64 Z213; let Z239 := Value.int IntKind.i64 Z211; let Z240 := Value.int IntKind.i64 Z215; let Z241 := Value.int IntKind.i64 Z216; let Z242 := Value.int IntKind.i64 Z214; let Z243 := !Z231; let Z244 := Prod.snd Z226; let Z245 := Prod.snd Z224; let Z246 := Prod.fst Z221; let Z247 := Prod.snd Z221; let Z248 := Prod.fst Z222; let Z249 := Prod.snd Z222; let Z250 := Prod.fst Z224; let Z251 := Prod.snd Z223; let Z252 := Prod.fst Z223; let Z253 := Prod.fst Z226; let Z254 := Prod.fst Z225; let Z255 := Prod.snd Z225; let Z256 := Prod.fst Z205; let Z257 := Prod.snd Z205; let Z258 := noneM Z234; let Z259 := noneM Z233; let Z260 := noneM Z236; let Z261 := noneM Z235; let Z262 := Z232 = true; let Z263 := Z232 = false; let Z264 := Value.int IntKind.i64 Z230; let Z265 := Value.int IntKind.i64 Z228; let Z266 := Value.int IntKind.i64 Z227; let Z267 := Value.int IntKind.i64 Z229; let Z268 := !Z258; let Z269 := !Z259; let Z270 := Prod.snd Z217; let Z271 := Prod.fst Z217; let Z272 := Prod.snd Z218; let Z273 := Prod.fst Z218; let Z274 := Value.int IntKind.i64 Z247; let Z275 := Value.int IntKind.i64 Z253; let Z276 := Value.int IntKind.i64 Z250; let Z277 := Value.int IntKind.i64 Z246; let Z278 := Value.int IntKind.i64 Z254; let Z279 := Value.int IntKind.i64 Z244; let Z280 := Z260 = true; let Z281 := Value.int IntKind.i64 Z249; let Z282 := Value.int IntKind.i64 Z252; let Z283 := Value.int IntKind.i64 Z251; let Z284 := Value.int IntKind.i64 Z245; let Z285 := Value.int IntKind.i64 Z255; let Z286 := Value.int IntKind.i64 Z248; let Z287 := Z261 = true; let Z288 := Z261 = false; let Z289 := Z260 = false; let Z290 := Prod.fst Z257; let Z291 := Prod.snd Z257; let Z292 := Z268 = true; let Z293 := Z269 = true; let Z294 := Z269 = false; let Z295 := Z268 = false; let Z296 := Prod.snd Z234; let Z297 := Prod.snd Z233; let Z298 := Prod.fst Z233; let Z299 := Prod.fst Z234; let Z300 := Prod.fst Z236; let Z301 := Prod.fst Z235; let Z302 := Prod.snd Z236; let Z303 := Prod.snd Z235; let Z304 := Prod.fst Z271; let Z305 := Prod.snd Z271; let Z306 := Prod.snd Z273; let Z307 := Prod.fst Z273; let Z308 := Prod.snd Z270; let Z309 := Prod.fst Z270; let Z310 := Prod.snd Z272; let Z311 := Prod.fst Z272; let Z312 := Prod.snd Z299; let Z313 := Prod.snd Z298; let Z314 := Prod.fst Z298; let Z315 := Prod.fst Z299; let Z316 := Prod.snd Z300; let Z317 := Prod.fst Z300; let Z318 := Prod.fst Z301; let Z319 := Prod.snd Z301; let Z320 := Value.int IntKind.i64 Z305; let Z321 := Value.int IntKind.i64 Z304; let Z322 := Value.int IntKind.i64 Z307; let Z323 := Value.int IntKind.i64 Z306; let Z324 := Prod.fst Z296; let Z325 := Prod.snd Z297; let Z326 := Prod.snd Z296; let Z327 := Prod.fst Z297; let Z328 := Prod.snd Z302; let Z329 := Prod.fst Z303; let Z330 := Prod.fst Z302; let Z331 := Prod.snd Z303; let Z332 := Prod.fst Z309; let Z333 := Prod.snd Z308; let Z334 := Prod.fst Z308; let Z335 := Prod.snd Z309; let Z336 := Prod.fst Z311; let Z337 := Prod.snd Z311; let Z338 := Prod.fst Z310; let Z339 := Prod.snd Z310; let Z340 := Z125 ∧ Z195; let Z341 := Z172 ∧ Z176; let Z342 := Value.int IntKind.i64 Z312; let Z343 := Value.int IntKind.i64 Z314; let Z344 := Value.int IntKind.i64 Z313; let Z345 := Value.int IntKind.i64 Z315; let Z346 := Value.int IntKind.i64 Z319; let Z347 := Value.int IntKind.i64 Z317; let Z348 := Value.int IntKind.i64 Z316; let Z349 := Value.int IntKind.i64 Z318; let Z350 := Prod.snd Z327; let Z351 := Prod.fst Z326; let Z352 := Prod.fst Z327; let Z353 := Prod.fst Z325; let Z354 := Prod.fst Z324; let Z355 := Prod.snd Z326; let Z356 := Prod.snd Z325; let Z357 := Prod.snd Z324; let Z358 := Prod.fst Z329; let Z359 := Prod.fst Z328; let Z360 := Prod.fst Z331; let Z361 := Prod.snd Z328; let Z362 := Prod.snd Z331; let Z363 := Prod.fst Z330; let Z364 := Prod.snd Z329; let Z365 := Prod.snd Z330; let Z366 := Value.int IntKind.i64 Z332; let Z367 := Value.int IntKind.i64 Z333; let Z368 := Value.int IntKind.i64 Z334; let Z369 := Value.int IntKind.i64 Z335; let Z370 := Value.int IntKind.i64 Z337; let Z371 := Value.int IntKind.i64 Z338; let Z372 := Value.int IntKind.i64 Z339; let Z373 := Value.int IntKind.i64 Z336; let Z374 := Value.int IntKind.i64 Z355; let Z375 := Value.int IntKind.i64 Z356; let Z376 := Value.int IntKind.i64 Z352; let Z377 := Value.int IntKind.i64 Z354; let Z378 := Value.int IntKind.i64 Z350; let Z379 := Value.int IntKind.i64 Z357; let Z380 := Value.int IntKind.i64 Z353; let Z381 := Value.int IntKind.i64 Z351; let Z382 := Value.int IntKind.i64 Z358; let Z383 := Value.int IntKind.i64 Z360; let Z384 := Value.int IntKind.i64 Z359; let Z385 := Value.int IntKind.i64 Z365; let Z386 := Value.int IntKind.i64 Z362; let Z387 := Value.int IntKind.i64 Z364; let Z388 := Value.int IntKind.i64 Z363; let Z389 := Value.int IntKind.i64 Z361; let Z390 := Z177 ∧ Z179; let Z391 := Z189 ||| Z35; let Z392 := Z191 ||| Z35; let Z393 := Z190 ||| Z35; let Z394 := Z106 ∧ Z340; let Z395 := BitVec.toNat Z392; let Z396 := BitVec.toNat Z391; let Z397 := BitVec.toNat Z393; let Z398 := (↑Z395 : Int); let Z399 := (↑Z397 : Int); let Z400 := (↑Z396 : Int); let Z401 := IntKind.wrap IntKind.i64 Z398; let Z402 := IntKind.wrap IntKind.i64 Z399; let Z403 := IntKind.wrap IntKind.i64 Z400; let Z404 := Z110 ∧ Z390; let Z405 := Value.int IntKind.i64 Z401; let Z406 := Value.int IntKind.i64 Z402; let Z407 := Value.int IntKind.i64 Z403; let Z408 := Z123 ∧ Z394; let Z409 := Z192 = Z194; let Z410 := Z193 = Z192; let Z411 := Z193 = Z196; let Z412 := Z192 = Z196; let Z413 := Z173 ∧ Z341; let Z414 := Z412 ∧ True; let Z415 := Z411 ∧ True; let Z416 := Z189 ||| Z160; let Z417 := Z191 ||| Z161; let Z418 := BitVec.toNat Z416; let Z419 := BitVec.toNat Z417; let Z420 := (↑Z419 : Int); let Z421 := (↑Z418 : Int); let Z422 := IntKind.wrap IntKind.i64 Z420; let Z423 := IntKind.wrap IntKind.i64 Z421; let Z424 := Z220 = Z220; let Z425 := Z219 = Z219; let Z426 := Value.int IntKind.i64 Z423; let Z427 := Value.int IntKind.i64 Z422; let Z428 := Z238 = Z238; let Z429 := Z237 = Z237; let Z430 := Z241 = Z241; let Z431 := Z240 = Z240; let Z432 := Z264 = Z264; let Z433 := Z265 = Z265; let Z434 := Z266 = Z266; let Z435 := Z267 = Z267; let Z436 := Z433 ∧ True; let Z437 := Z275 = Z275; let Z438 := Z281 = Z281; let Z439 := Z279 = Z279; let Z440 := Z277 = Z277; let Z441 := Z274 = Z274; let Z442 := Z276 = Z276; let Z443 := Z286 = Z286; let Z444 := Z284 = Z284; let Z445 := Z323 = Z241; let Z446 := Z322 = Z238; let Z447 := Z439 ∧ True; let Z448 := Z438 ∧ True; let Z449 := Z347 = Z237; let Z450 := Z349 = Z239; let Z451 := Z346 = Z242; let Z452 := Z348 = Z240; let Z453 := Z178 ∧ Z404; let Z454 := Z414 ∧ Z159; let Z455 := Z415 ∧ Z159; let Z456 := True ∧ Z454; let Z457 := True ∧ Z455; let Z458 := Z370 = Z274; let Z459 := Z373 = Z277; let Z460 := Z372 = Z281; let Z461 := Z371 = Z286; let Z462 := Z322 = Z322; let Z463 := Z323 = Z323; let Z464 := Z460 ∧ True; let Z465 := Z388 = Z276; let Z466 := Z385 = Z284; let Z467 := Z384 = Z275; let Z468 := Z383 = Z278; let Z469 := Z389 = Z279; let Z470 := Z387 = Z283; let Z471 := Z386 = Z285; let Z472 := Z382 = Z282; let Z473 := Z171 ∧ Z413; let Z474 := Z469 ∧ True; let Z475 := Z471 ∧ True; let Z476 := Z344 = Z344; let Z477 := Z343 = Z343; let Z478 := Z342 = Z342; let Z479 := Z345 = Z345; let Z480 := Z347 = Z347; let Z481 := Z349 = Z349; let Z482 := Z346 = Z346; let Z483 := Z348 = Z348; let Z484 := Z370 = Z370; let Z485 := Z372 = Z372; let Z486 := Z373 = Z373; let Z487 := Z371 = Z371; let Z488 := Z485 ∧ True; let Z489 := Z406 = Z196; let Z490 := Z405 = Z196; let Z491 := Z407 = Z196; let Z492 := Z491 ∧ True; let Z493 := Z490 ∧ True; let Z494 := Z489 ∧ True; let Z495 := Z375 = Z375; let Z496 := Z378 = Z378; let Z497 := Z381 = Z381; let Z498 := Z377 = Z377; let Z499 := Z374 = Z374; let Z500 := Z380 = Z380; let Z501 := Z379 = Z379; let Z502 := Z376 = Z376; let Z503 := Z383 = Z383; let Z504 := Z382 = Z382; let Z505 := Z388 = Z388; let Z506 := Z389 = Z389; let Z507 := Z387 = Z387; let Z508 := Z385 = Z385; let Z509 := Z386 = Z386; let Z510 := Z384 = Z384; let Z511 := Z495 ∧ True; let Z512 := Z499 ∧ True; let Z513 := Z506 ∧ True; let Z514 := Z509 ∧ True; let Z515 := Z147 ∧ Z473; let Z516 := Z177 ∧ Z453; let Z517 := Z427 = Z194; let Z518 := Z426 = Z192; let Z519 := Z426 = Z196; let Z520 := Z427 = Z196; let Z521 := Z520 ∧ True; let Z522 := Z519 ∧ True; let Z523 := Z493 ∧ Z159; let Z524 := Z494 ∧ Z159; let Z525 := Z492 ∧ Z159; let Z526 := True ∧ Z523; let Z527 := True ∧ Z524; let Z528 := True ∧ Z525; let Z529 := Z112 ∧ Z516; let Z530 := Z148 ∧ Z515; let Z531 := Z530 ∧ True; let Z532 := Z287 → Z456; let Z533 := Z280 → Z457; let Z534 := Z522 ∧ Z159; let Z535 := Z521 ∧ Z159; let Z536 := True ∧ Z534; let Z537 := True ∧ Z535; let Z538 := Z165 → Z527; let Z539 := Z166 → Z528; let Z540 := Z167 → Z526; let Z541 := Z123 ∧ Z531; let Z542 := Z124 ∧ Z531; let Z543 := Z125 ∧ Z531; let Z544 := Z178 ∧ Z529; let Z545 := Z86 ∧ Z541; let Z546 := Z85 ∧ Z542; let Z547 := Z85 ∧ Z543; let Z548 := Z86 ∧ Z543; let Z549 := Z86 ∧ Z542; let Z550 := Z106 ∧ Z545; let Z551 := Z108 ∧ Z549; let Z552 := Z107 ∧ Z548; let Z553 := Z108 ∧ Z546; let Z554 := Z107 ∧ Z547; let Z555 := Z435 ∧ Z436; let Z556 := Z437 ∧ Z447; let Z557 := Z443 ∧ Z448; let Z558 := Z177 ∧ Z544; let Z559 := Z208 ∧ Z538; let Z560 := Z280 → Z536; let Z561 := Z287 → Z537; let Z562 := Z461 ∧ Z464; let Z563 := Z468 ∧ Z475; let Z564 := Z467 ∧ Z474; let Z565 := Z111 ∧ Z558; let Z566 := Z487 ∧ Z488; let Z567 := Z530 ∧ Z408; let Z568 := Z497 ∧ Z512; let Z569 := Z500 ∧ Z511; let Z570 := Z503 ∧ Z514; let Z571 := Z510 ∧ Z513; let Z572 := Z565 ∧ Z170; let Z573 := Z565 ∧ Z169; let Z574 := Z565 ∧ Z168; let Z575 := Z130 ∧ Z567; let Z576 := Z30 ∧ Z574; let Z577 := Z30 ∧ Z572; let Z578 := Z30 ∧ Z573; let Z579 := Z131 ∧ Z575; let Z580 := Z434 ∧ Z555; let Z581 := Z441 ∧ Z557; let Z582 := Z444 ∧ Z556; let Z583 := Z458 ∧ Z562; let Z584 := Z470 ∧ Z563; let Z585 := Z466 ∧ Z564; let Z586 := Z410 ∧ Z577; let Z587 := Z409 ∧ Z578; let Z588 := Z484 ∧ Z566; let Z589 := Z496 ∧ Z569; let Z590 := Z501 ∧ Z568; let Z591 := Z507 ∧ Z570; let Z592 := Z508 ∧ Z571; let Z593 := Z518 ∧ Z577; let Z594 := Z517 ∧ Z578; let Z595 := Z432 ∧ Z580; let Z596 := Z440 ∧ Z581; let Z597 := Z442 ∧ Z582; let Z598 := Z459 ∧ Z583; let Z599 := Z465 ∧ Z585; let Z600 := Z472 ∧ Z584; let Z601 := Z486 ∧ Z588; let Z602 := Z502 ∧ Z589; let Z603 := Z498 ∧ Z590; let Z604 := Z504 ∧ Z591; let Z605 := Z505 ∧ Z592; let Z606 := Z424 ∧ Z595; let Z607 := Z430 ∧ Z596; let Z608 := Z431 ∧ Z597; let Z609 := Z445 ∧ Z598; let Z610 := Z452 ∧ Z599; let Z611 := Z451 ∧ Z600; let Z612 := Z463 ∧ Z601; let Z613 := Z425 ∧ Z606; let Z614 := Z478 ∧ Z603; let Z615 := Z476 ∧ Z602; let Z616 := Z482 ∧ Z604; let Z617 := Z483 ∧ Z605; let Z618 := Z429 ∧ Z608; let Z619 := Z428 ∧ Z607; let Z620 := Z613 ∧ Z137; let Z621 := Z618 ∧ Z137; let Z622 := Z619 ∧ Z137; let Z623 := Z446 ∧ Z609; let Z624 := Z449 ∧ Z610; let Z625 := Z450 ∧ Z611; let Z626 := Z462 ∧ Z612; let Z627 := Z626 ∧ True; let Z628 := Z479 ∧ Z614; let Z629 := Z477 ∧ Z615; let Z630 := Z628 ∧ True; let Z631 := Z629 ∧ True; let Z632 := Z480 ∧ Z617; let Z633 := Z481 ∧ Z616; let Z634 := Z633 ∧ True; let Z635 := Z632 ∧ True; let Z636 := Z623 ∧ Z579; let Z637 := Z624 ∧ Z579; let Z638 := Z625 ∧ Z579; let Z639 := Z133 ∧ Z636; let Z640 := Z22 ∧ Z639; let Z641 := True ∧ Z640; let Z642 := Z133 ∧ Z638; let Z643 := Z133 ∧ Z637; let Z644 := Z22 ∧ Z642; let Z645 := Z22 ∧ Z643; let Z646 := True ∧ Z644; let Z647 := True ∧ Z645; let Z648 := Z587 ∧ Z646; let Z649 := Z586 ∧ Z647; let Z650 := Z594 ∧ Z646; let Z651 := Z593 ∧ Z647; let Z652 := Z648 ∧ Z559; let Z682 := (Z164 → Z142 ∧ True ∧ Z621 ∧ Z553 ∧ True ∧ Z630 ∧ True ∧ (Z292 → Z78 ∧ True ∧ Z621 ∧ Z551 ∧ True ∧ Z634 ∧ True ∧ Z561 ∧ (Z288 → Z650 ∧ Z559)) ∧ (Z295 → True ∧ Z621 ∧ Z551 ∧ True ∧ Z634 ∧ True ∧ Z532 ∧ (Z288 → Z652))) ∧ Z540; (Z9 ≤ at_ ∧ at_ < (↑Z2 : Int)) ∧ Z51 < List.length l ∧ True ∧ True ∧ True ∧ ((Z44 = Z44 ∧ Z30 ∧ Z565 ∧ Z44 = Value.int IntKind.i64 Z3 ∧ True) ∧ True ∧ Z22 ∧ Z133 ∧ (Value.int IntKind.i64 (Prod.fst Z256) = Z219 ∧ Value.int IntKind.i64 (Prod.snd Z256) = Z220 ∧ Value.int IntKind.i64 (Prod.fst Z290) = Z264 ∧ Value.int IntKind.i64 (Prod.snd Z290) = Z266 ∧ Value.int IntKind.i64 (Prod.fst Z291) = Z267 ∧ Value.int IntKind.i64 (Prod.snd Z291) = Z265 ∧ True) ∧ Z579) ∧ (Z151 = true → (Z9 ≤ Z3 ∧ Z3 < Z5) ∧ True ∧ Z620 ∧ (Z106 ∧ Z85 ∧ Z541) ∧ True ∧ ((Z321 = Z321 ∧ Z320 = Z320 ∧ Z366 = Z366 ∧ Z369 = Z369 ∧ Z368 = Z368 ∧ Z367 = Z367 ∧ True) ∧ True) ∧ True ∧ (Z243 = true → Z9 ≤ Z11 ∧ True ∧ Z620 ∧ Z550 ∧ True ∧ Z627 ∧ True ∧ (Z262 → True ∧ (Z64 = Z196 ∧ True) ∧ Z159) ∧ (Z263 → ((Z64 = Z193 ∧ Z576) ∧ Z641) ∧ (Z163 → Z140 ∧ True ∧ Z622 ∧ Z554 ∧ True ∧ Z631 ∧ True ∧ (Z293 → Z79 ∧ True ∧ Z622 ∧ Z552 ∧ True ∧ Z635 ∧ True ∧ Z560 ∧ (Z289 → Z651 ∧ Z682)) ∧ (Z294 → True ∧ Z622 ∧ Z552 ∧ True ∧ Z635 ∧ True ∧ Z533 ∧ (Z289 → Z649 ∧ Z682))) ∧ Z539)) ∧ (Z243 = false → True ∧ Z620 ∧ Z550 ∧ True ∧ Z627 ∧ True ∧ (Z262 → True ∧ (Z44 = Z196 ∧ True) ∧ Z159) ∧ (Z263 → ((Z44 = Z193 ∧ Z576) ∧ Z641) ∧ (Z163 → Z140 ∧ True ∧ Z622 ∧ Z554 ∧ True ∧ Z631 ∧ True ∧ (Z293 → Z79 ∧ True ∧ Z622 ∧ Z552 ∧ True ∧ Z635 ∧ True ∧ Z560 ∧ (Z289 → Z651 ∧ Z682)) ∧ (Z294 → True ∧ Z622 ∧ Z552 ∧ True ∧ Z635 ∧ True ∧ Z533 ∧ (Z289 → Z649 ∧ Z682))) ∧ Z539))) ∧ (Z151 = false → True ∧ (Value.int IntKind.i64 (IntKind.wrap IntKind.i64 Z6) = Z196 ∧ True) ∧ Z159))
    (by kernel_rfl) ?_
  simp only [eq_self, true_and, and_true, Int.toNat_natCast, Nat.zero_add, Nat.sub_zero, Value.int.injEq, Value.bool.injEq, decide_eq_true_eq, decide_eq_false_iff_not]
  obtain ⟨h0, h1, h2⟩ := hx
  have h0' : 0 ≤ at_ := h0
  have h1' : at_ < (l.length : Int) := h1
  refine ⟨⟨h0', h1'⟩, by omega, ?_⟩
  generalize l.getD at_.toNat ((0, 0), (0, 0), 0, 0) = m
  have e1 := left1 m
  have e2 := left2 m
  have e3 := left3 m
  have i1 : IntKind.i64.wrap (((0 : Nat) : Int) + 1) = ((1 : Nat) : Int) := by decide
  have i2 : IntKind.i64.wrap (((1 : Nat) : Int) + 1) = ((2 : Nat) : Int) := by decide
  have i3 : IntKind.i64.wrap (((2 : Nat) : Int) + 1) = ((3 : Nat) : Int) := by decide
  have l0 : ((0 : Nat) : Int) < 3 := by decide
  have l1 : ((1 : Nat) : Int) < 3 := by decide
  have l2 : ((2 : Nat) : Int) < 3 := by decide
  have l3 : ¬ ((3 : Nat) : Int) < 3 := by decide
  simp only [e1, e2, e3, i1, i2, i3, l0, l1, l2, l3, eq_self, true_and, and_true, not_true, not_false_iff, false_implies, true_implies, Bool.not_eq_true', Bool.not_eq_false']
  have f1 := @set1f m
  have g1 := @set1t m
  have f2 := @set2f m
  have g2 := @set2t m
  have f3 := @set3f m
  have g3 := @set3t m
  have c1 := @cls1 m
  have c2 := @cls2 m
  have c3 := @cls3 m
  have c4 := @cls4 m
  clear e1 e2 e3 i1 i2 i3
  revert f1 g1 f2 g2 f3 g3 c1 c2 c3 c4
  generalize classesM m = c
  generalize setM m 1 = s1
  generalize setM m 2 = s2
  generalize setM m 3 = s3
  generalize noneM (andM m (ptM .p0 anyM (fromM 8))) = n0
  generalize noneM (andM (leftM m 1) (ptM .p1 anyM (fromM 14))) = n1
  generalize noneM (andM (leftM m 2) (ptM .p2 anyM (fromM 12))) = n2
  generalize noneM (leftM m 1) = q1
  generalize noneM (leftM m 2) = q2
  generalize noneM (leftM m 3) = q3
  intro f1 g1 f2 g2 f3 g3 c1 c2 c3 c4
  repeat' (first | refine And.intro ?_ ?_ | intro _)
  all_goals first
    | decide
    | refine Eq.symm ?_; first
      | exact f1 (by assumption)
      | exact g1 (by assumption)
      | exact f2 (by assumption)
      | exact g2 (by assumption)
      | exact f3 (by assumption)
      | exact g3 (by assumption)
      | exact (c1 (by assumption)).trans (f1 (by assumption))
      | exact (c1 (by assumption)).trans (g1 (by assumption))
      | exact (c2 (by assumption) (by assumption)).trans (f2 (by assumption))
      | exact (c2 (by assumption) (by assumption)).trans (g2 (by assumption))
      | exact (c3 (by assumption) (by assumption) (by assumption)).trans (f3 (by assumption))
      | exact (c3 (by assumption) (by assumption) (by assumption)).trans (g3 (by assumption))
      | exact c4 (by assumption) (by assumption) (by assumption)

end
theorem classes_sound : Sound Try.prog 40 classesS.con := FSpec.sound _ (enter_of Try.func40 (by kernel_rfl) (by kernel_rfl)) classes_ok
end AE.Soil

namespace AE.Soil
open Go AE Go.Proofs

def classOM (g : GroundT) (at_ : Int) : Int × Int := if openErrM g .place [at_] == 0 then (classesM ((boxesM g).getD at_.toNat m0), 0) else (0, openErrM g .place [at_])
def Tclass : Tab UU := [(33, isPlaceS.con), (32, openAS.con), (40, classesS.con)]
theorem Tclass_ok : Tclass.Sound Try.prog := .cons isPlace_sound (.cons openA_sound (.cons classes_sound .nil))
def classOS : FSpec UU where
  X := GroundT × Int
  pick := fun args H => match args with
    | [a, b] => match avGround H a, avInt b with
      | some a, some b => some (a, b)
      | _, _ => none
    | _ => none
  args := fun x => [vGround x.1 0, .i x.2]
  H := fun x => [.one (.ro .pit x.1.pits)]
  R := fun x => .val ⟨.tup [.i (classOM x.1 x.2).1, .i (classOM x.1 x.2).2], [], [], []⟩
  pre := fun x => x.1.pits.length < 1000000
set_option maxHeartbeats 0 in
set_option maxRecDepth 100000 in
theorem classO_ok : ∀ x, classOS.pre x → FunOk Try.prog 13 (classOS.args x) (classOS.H x) (classOS.R x) := by
  rintro ⟨⟨long, rise, change, ps⟩, at_⟩ hx
  refine fun_ofT (T := Tclass) (L := fun _ => none) (hs := fun _ => []) (sp := fun _ => none) hmix Tclass_ok (tdAt_ok told_ok) (it := fun _ => none) (fun _ _ h => by cases h) Try.func13 (by kernel_rfl) (by kernel_rfl) ?_
  refine Eq.mp (α :=
      let Z0 := GroundT.mk long rise change ps; let Z1 := List.length ps; let Z2 := Value.int IntKind.i64 long; let Z3 := Value.int IntKind.i64 rise; let Z4 := Value.int IntKind.i64 at_; let Z5 := Value.int IntKind.i64 change; let Z7 := nat_lit 0 = nat_lit 0 ∧ nat_lit 1 = nat_lit 1; let Z9 := (0 : Int); let Z11 := (4 : Nat); let Z12 : List Mix3 := boxesM Z0; let Z14 := ps = ps; let Z17 := nat_lit 0 = nat_lit 0 ∧ nat_lit 0 = nat_lit 0 ∧ nat_lit 0 = nat_lit 0; let Z18 := Fn.func (56 : FuncId); let Z20 := Value.int IntKind.i64 Z9; let Z25 := List.length Z12; let Z31 : List Int := [at_]; let Z34 := Value.int IntKind.i64 (Prod.fst (classOM Z0 at_)); let Z35 := (Z9, Z9); let Z36 := Value.int IntKind.i64 (Prod.snd (classOM Z0 at_)); let Z40 := openErrM Z0 Ask.place Z31; let Z44 := Z31 = Z31; let Z47 := Z40 == Z9; let Z49 := Z2 = Z2 ∧ Z3 = Z3 ∧ Z5 = Z5 ∧ (nat_lit 0 = nat_lit 0 ∧ nat_lit 0 = nat_lit 0 ∧ Z1 = Z1) ∧ True; True ∧ (Z49 ∧ True) ∧ (Z14 ∧ True) ∧ (nat_lit 1 = nat_lit 1 ∧ AV.v Z4 = AV.v Z4 ∧ True) ∧ (Z1 < nat_lit 1000000 ∧ nat_lit 1 < nat_lit 1000) ∧ (Z47 = true → (Z49 ∧ (Z18 = Z18 ∧ True ∧ Z17 ∧ True) ∧ (Z11 = Z11 ∧ nat_lit 0 = nat_lit 0 ∧ Z7) ∧ True) ∧ (Z14 ∧ Z49 ∧ Z44 ∧ True) ∧ (Z9 ≤ at_ ∧ at_ < (↑Z25 : Int) ∧ Z25 < nat_lit 1000) ∧ (Z17 ∧ Z4 = Z4 ∧ True) ∧ (Z12 = Z12 ∧ (True ∧ True ∧ True ∧ True ∧ True ∧ (nat_lit 6 = nat_lit 6 ∧ nat_lit 0 = nat_lit 0 ∧ nat_lit 0 = nat_lit 0 ∧ List.length Z12 = Z25) ∧ True) ∧ True) ∧ (true = true → True ∧ True ∧ ((Value.int IntKind.i64 (classesM (List.getD Z12 (Int.toNat at_) (Z35, Z35, Z35))) = Z34 ∧ Z20 = Z36 ∧ True) ∧ True) ∧ True ∧ Z14 ∧ True) ∧ (true = false → False)) ∧ (Z47 = false → (Z49 ∧ (Z18 = Z18 ∧ True ∧ Z17 ∧ True) ∧ (Z11 = Z11 ∧ nat_lit 0 = nat_lit 0 ∧ Z7) ∧ True) ∧ (Z14 ∧ Z49 ∧ Z44 ∧ True) ∧ True ∧ True ∧ ((Z20 = Z34 ∧ Value.int IntKind.i64 Z40 = Z36 ∧ True) ∧ True) ∧ True ∧ Z14 ∧ True))
    (by kernel_rfl) ?_
  simp only [eq_self, true_and, and_true, Int.toNat_natCast, Nat.zero_add, Nat.sub_zero, Value.int.injEq, Value.bool.injEq, decide_eq_true_eq, decide_eq_false_iff_not]
  refine ⟨⟨hx, by decide⟩, fun h => ?_, fun h => ?_⟩
  · obtain ⟨k, rfl, hk⟩ := place_nat h
    have hl : (boxesM ⟨long, rise, change, ps⟩).length = nM ⟨long, rise, change, ps⟩ := stage_len _ 2
    have hn := n_ok (ground_ok (open_ok h).1)
    have e : classOM ⟨long, rise, change, ps⟩ (k : Int) = (classesM ((boxesM ⟨long, rise, change, ps⟩).getD k m0), 0) := by unfold classOM; rw [h]; rfl
    rw [Int.toNat_natCast, e]
    exact ⟨⟨Int.natCast_nonneg _, by omega, by omega⟩, fun _ => ⟨rfl, rfl⟩, fun h => absurd h (by decide)⟩
  · have e : classOM ⟨long, rise, change, ps⟩ at_ = (0, openErrM ⟨long, rise, change, ps⟩ .place [at_]) := by unfold classOM; rw [h]; rfl
    rw [e]; exact ⟨rfl, rfl⟩

theorem classO_sound : Sound Try.prog 13 classOS.con := FSpec.sound _ (enter_of Try.func13 (by kernel_rfl) (by kernel_rfl)) classO_ok
end AE.Soil

namespace AE.Soil
open Go AE Go.Proofs

def openBL (g : GroundT) (l : List Int) : LSpec UU where
  T := { i : Nat // i ≤ l.length ∧ (l.take i).all (askM .cls g.long) = true }
  fr := fun i => [(1, .fn (.func 47) [] []), (3, .ptr 2 0 0 0), (14, .sl 1 0 0 l.length), (15, .i l.length), (16, .i i.1)]
  H := fun _ => [.one (.ro .pit g.pits), .one (.ro .int l), .one (.cells (cGround g 0) 24)]
  mu := fun i => l.length - i.1
def openBS : FSpec2 UU where
  X := GroundT × List Int
  pick := fun args H => match args with
    | [a, .fn (.func 47) [] [], l] => match avGround H a, sliceAt .int H l with
      | some a, some l => some (a, l)
      | _, _ => none
    | _ => none
  args := fun x => [vGround x.1 0, .fn (.func 47) [] [], .sl 1 0 0 x.2.length]
  H := fun x => [.one (.ro .pit x.1.pits), .one (.ro .int x.2)]
  c := fun x => openErrM x.1 .cls x.2 == 0
  R := fun x => .val ⟨.ptr 4 0 0 0, [], [], [.row .span (hardsM x.1 (nM x.1)) 28, .row .mix (boxesM x.1) 80, .cells [.i x.1.long, .i x.1.rise, .i x.1.change, .sl 0 0 0 x.1.pits.length, .gs 2 0, .gs 3 0] 71]⟩
  R' := fun x => .panic (failV (openErrM x.1 .cls x.2))
  pre := fun x => x.1.pits.length < 1000000 ∧ x.2.length < 1000
set_option maxHeartbeats 0 in
set_option maxRecDepth 100000 in
theorem openB_ok : ∀ x, openBS.pre x → (openBS.c x = true → FunOk Try.prog 32 (openBS.args x) (openBS.H x) (openBS.R x)) ∧ (openBS.c x = false → FunOk Try.prog 32 (openBS.args x) (openBS.H x) (openBS.R' x)) := by
  rintro ⟨⟨long, rise, change, ps⟩, l⟩ hx
  refine fun_of2 (T := Topen) (L := fun _ => some (.inv (openBL ⟨long, rise, change, ps⟩ l))) (hs := fun _ => []) (sp := fun _ => none) hmix Topen_ok (td := fun _ => none) (fun _ _ h => by cases h) (it := fun _ => none) (fun _ _ h => by cases h) Try.func32 (by kernel_rfl) (by kernel_rfl) ?_
  refine Eq.mp (α :=
      let Z0 := List.length l; let Z1 := Value.bool true; let Z2 := Value.bool false; let Z3 := GroundT.mk long rise change ps; let Z4 := List.length ps; let Z5 := Value.int IntKind.i64 change; let Z6 := Value.int IntKind.i64 long; let Z7 := Value.int IntKind.i64 rise; let Z9 := (0 : Int); let Z10 := (1 : Int); let Z17 := groundM Z3; let Z19 := l = l; let Z20 := (28 : TypeId); let Z21 := ps = ps; let Z22 := (47 : FuncId); let Z23 := (80 : TypeId); let Z24 := (104 : TypeId); let Z27 := nat_lit 0 = nat_lit 0 ∧ nat_lit 0 = nat_lit 0 ∧ nat_lit 0 = nat_lit 0; let Z28 := (↑Z0 : Int); let Z29 := openErrM Z3 Ask.cls l; let Z32 := Value.bool Z17; let Z34 := Value.int IntKind.i64 Z10; let Z35 := Value.int IntKind.i64 (2 : Int); let Z37 := Value.int IntKind.i64 (10 : Int); let Z45 := Value.int IntKind.i64 Z28; let Z46 := Value.int IntKind.i64 Z29; let Z50 := Z24 = Z24; let Z59 := Fn.func Z22 = Fn.func Z22 ∧ True ∧ True; let Z62 := Z37 = Z37 ∧ True; let Z63 := Z29 == Z9; let Z67 := Z63 = true; let Z68 := Z63 = false; let Z70 := Z67 → False; let Z73 : Type := { i : Nat // i ≤ Z0 ∧ List.all (List.take i l) (askM Ask.cls (GroundT.long Z3)) = true }; let Z74 := fun (x : Z73) => Subtype.val x; let Z77 := fun (x : Z73) => (↑(Z74 x) : Int); let Z83 := fun (x : Z73) => Z0 - Z74 x; let Z85 := fun (t : Z73) => nat_lit 0 + Int.toNat (Z77 t); let Z88 := (Z6 = Z6 ∧ Z7 = Z7 ∧ Z5 = Z5 ∧ (nat_lit 0 = nat_lit 0 ∧ nat_lit 0 = nat_lit 0 ∧ Z4 = Z4) ∧ True) ∧ True; let Z89 := fun (t : Z73) => List.getD l (Z85 t) Z9; let Z95 := fun (t : Z73) => inM (Z89 t) Z9 (3 : Int); let Z96 := fun (t : Z73) => Value.bool (Z95 t); let Z97 := fun (t : Z73) => decide (Z77 t < Z28); Z4 < nat_lit 1000000 ∧ Z88 ∧ (Z21 ∧ True) ∧ True ∧ (Z17 = true → (Z32 = Z32 ∧ Z34 = Z34 ∧ True) ∧ True ∧ (∃ (x : Z73), (Z59 ∧ Z27 ∧ (nat_lit 0 = nat_lit 0 ∧ nat_lit 0 = nat_lit 0 ∧ Z0 = Z0) ∧ Z45 = Z45 ∧ Value.int IntKind.i64 Z9 = Value.int IntKind.i64 (Z77 x) ∧ True) ∧ True ∧ Z21 ∧ Z19 ∧ Z88) ∧ ∀ (t : Z73), (Z97 t = true → (Z9 ≤ Z77 t ∧ Z77 t < Z28) ∧ Z85 t < List.length l ∧ True ∧ (Value.int IntKind.i64 (Z89 t) = Value.int IntKind.i64 (Z89 t) ∧ True) ∧ True ∧ True ∧ (Z95 t = true → (Z96 t = Z96 t ∧ Z35 = Z35 ∧ True) ∧ True ∧ True ∧ ∃ (x : Z73), ((Z59 ∧ Z27 ∧ (nat_lit 0 = nat_lit 0 ∧ nat_lit 0 = nat_lit 0 ∧ Z0 = Z0) ∧ Z45 = Z45 ∧ Value.int IntKind.i64 (IntKind.wrap IntKind.i64 (Z77 t + Z10)) = Value.int IntKind.i64 (Z77 x) ∧ True) ∧ True ∧ Z21 ∧ Z19 ∧ Z88) ∧ Z83 x < Z83 t) ∧ (Z95 t = false → (Z96 t = Z96 t ∧ Z35 = Z35 ∧ True) ∧ True ∧ Z70 ∧ (Z68 → True ∧ Z50 ∧ Z35 = Z46 ∧ True))) ∧ (Z97 t = false → Z17 = true ∧ (lookM Z3 = true → Z88 ∧ (Z21 ∧ True) ∧ True ∧ (true = true → (Z1 = Z1 ∧ Z62) ∧ True ∧ (Z67 → True ∧ (Z27 ∧ True) ∧ True ∧ Z21 ∧ Z19 ∧ (Z20 = Z20 ∧ hardsM Z3 (nM Z3) = hardsM Z3 (nM Z3)) ∧ (Z23 = Z23 ∧ boxesM Z3 = boxesM Z3) ∧ (Z6 = Z6 ∧ Z7 = Z7 ∧ Z5 = Z5 ∧ (nat_lit 0 = nat_lit 0 ∧ nat_lit 0 = nat_lit 0 ∧ Z4 = Z4) ∧ nat_lit 0 = nat_lit 0 ∧ nat_lit 0 = nat_lit 0 ∧ True) ∧ True) ∧ (Z68 → False)) ∧ (true = false → (Z1 = Z1 ∧ Z62) ∧ True ∧ Z70 ∧ (Z68 → True ∧ Z50 ∧ Z37 = Z46 ∧ True))) ∧ (lookM Z3 = false → Z88 ∧ (Z21 ∧ True) ∧ True ∧ (false = true → (Z2 = Z2 ∧ Z62) ∧ True ∧ (Z67 → True ∧ (False ∧ True) ∧ True ∧ Z21 ∧ Z19 ∧ False ∧ False ∧ False ∧ True) ∧ (Z68 → False)) ∧ (false = false → (Z2 = Z2 ∧ Z62) ∧ True ∧ Z70 ∧ (Z68 → True ∧ Z50 ∧ Z37 = Z46 ∧ True))))) ∧ (Z17 = false → (Z32 = Z32 ∧ Z34 = Z34 ∧ True) ∧ True ∧ Z70 ∧ (Z68 → True ∧ Z50 ∧ Z34 = Z46 ∧ True)))
    (by kernel_rfl) ?_
  simp only [eq_self, true_and, and_true, Int.toNat_natCast, Nat.zero_add, Nat.sub_zero, Value.int.injEq, Value.bool.injEq, decide_eq_true_eq, decide_eq_false_iff_not]
  obtain ⟨hl1, hl2⟩ := hx
  have hl2' : l.length < 1000 := hl2
  refine ⟨hl1, fun hg => ⟨⟨⟨0, Nat.zero_le _, rfl⟩, rfl⟩, fun t => ⟨fun ht => ?_, fun ht => ⟨hg, fun hk => ?_, fun hk => ?_⟩⟩⟩, fun hg => ?_⟩
  · obtain ⟨i, hi, ha⟩ := t
    have hlt : i < l.length := by have h0 : (i : Int) < (l.length : Int) := ht; omega
    refine ⟨⟨Int.natCast_nonneg _, ht⟩, hlt, fun h => ⟨⟨i + 1, hlt, ask_suc hlt ha h⟩, sucI i (by omega), dec1 hlt⟩, fun h => ?_⟩
    rw [open_range (a := .cls) hg hlt h]
    exact ⟨fun h => absurd h (by decide), fun _ => rfl⟩
  · obtain ⟨i, hi, ha⟩ := t
    have hie : i = l.length := by have h0 : ¬ (i : Int) < (l.length : Int) := ht; omega
    rw [hie, List.take_length] at ha
    rw [open_look (a := .cls) hg ha, hk]
    exact ⟨fun _ => ⟨fun _ => trivial, fun h => absurd h (by decide)⟩, fun h => absurd h (by decide)⟩
  · obtain ⟨i, hi, ha⟩ := t
    have hie : i = l.length := by have h0 : ¬ (i : Int) < (l.length : Int) := ht; omega
    rw [hie, List.take_length] at ha
    rw [open_look (a := .cls) hg ha, hk]
    exact ⟨fun h => absurd h (by decide), fun _ => ⟨fun h => absurd h (by decide), fun _ => rfl⟩⟩
  · rw [open_arg hg]
    exact ⟨fun h => absurd h (by decide), fun _ => rfl⟩

theorem openB_sound : Sound Try.prog 32 openBS.con := FSpec2.sound _ (enter_of Try.func32 (by kernel_rfl) (by kernel_rfl)) openB_ok
end AE.Soil

namespace AE.Soil
open Go AE Go.Proofs

structure WQ where
  n : Int
  long : Int
  rise : Int
  change : Int
  from_ : Int
  to : Int
def avTri (H : Heap UU) : AV → Option (Int × Int × Int)
  | .fn (.func 56) [] [.ptr id k 0 0] => match blkAt H id k with
    | some (.cells [b, c, d, _] _) => match avInt b, avInt c, avInt d with
      | some b, some c, some d => some (b, c, d)
      | _, _, _ => none
    | some (.rc [b, c, d, _] _) => match avInt b, avInt c, avInt d with
      | some b, some c, some d => some (b, c, d)
      | _, _, _ => none
    | _ => none
  | _ => none
def spanOkM (a b : Int) : Bool := decide (a ≤ b)
def workS : FSpec UU where
  X := WQ
  pick := fun args H => match args with
    | [n, p, a, b] => match avInt n, avCell H p, avCell H a, avCell H b with
      | some n, some p, some a, some b => match avTri H p, avInt a, avInt b with
        | some (l, r, c), some a, some b => some ⟨n, l, r, c, a, b⟩
        | _, _, _ => none
      | _, _, _, _ => none
    | _ => none
  args := fun x => [.i x.n, .ptr 0 0 0 0, .ptr 1 0 0 0, .ptr 2 0 0 0]
  H := fun x => [.one (.rc [.fn (.func 56) [] [.ptr 3 0 0 0]] 74), .one (.rc [.i x.from_] 3), .one (.rc [.i x.to] 3), .one (.rc [.i x.long, .i x.rise, .i x.change, .junk] 24)]
  R := fun x => .val ⟨.b (inM x.n 0 x.long && spanOkM x.from_ x.to), [], [], []⟩
def Twork1 : Tab UU := [(56, placeS.con)]
theorem Twork1_ok : Twork1.Sound Try.prog := .cons place_sound .nil
set_option maxRecDepth 100000 in
theorem work1_ok : ∀ x, workS.pre x → FunOk Try.prog 42 (workS.args x) (workS.H x) (workS.R x) := by
  rintro ⟨n, l, r, c, a, b⟩ _
  refine fun_of (T := Twork1) (L := fun _ => none) (hs := fun _ => []) hmix Twork1_ok Try.func42 (by kernel_rfl) (by kernel_rfl) ?_
  refine Eq.mp (α :=
      let Z0 := Value.int IntKind.i64 c; let Z1 := Value.int IntKind.i64 r; let Z2 := Value.int IntKind.i64 l; let Z3 := Value.int IntKind.i64 b; let Z4 := Value.int IntKind.i64 a; let Z8 := nat_lit 0 = nat_lit 0 ∧ nat_lit 0 = nat_lit 0 ∧ nat_lit 0 = nat_lit 0; let Z9 := inM n (0 : Int) l; let Z10 := Fn.func (56 : FuncId); let Z13 := Z2 = Z2; let Z16 := Z1 = Z1; let Z20 := Z9 && spanOkM a b; let Z21 := Z0 = Z0 ∧ True ∧ True; True ∧ (Value.int IntKind.i64 n = Value.int IntKind.i64 n ∧ Z8 ∧ True) ∧ ((Z13 ∧ Z16 ∧ Z21) ∧ True) ∧ (Z9 = true → True ∧ (Value.bool (decide (a ≤ b)) = Value.bool Z20 ∧ True) ∧ True ∧ ((Z10 = Z10 ∧ True ∧ Z8 ∧ True) ∧ True) ∧ (Z4 = Z4 ∧ True) ∧ (Z3 = Z3 ∧ True) ∧ (Z13 ∧ Z16 ∧ Z21) ∧ True) ∧ (Z9 = false → True ∧ (Value.bool Z20 = Value.bool false ∧ True) ∧ True ∧ ((Z10 = Z10 ∧ True ∧ Z8 ∧ True) ∧ True) ∧ (Z4 = Z4 ∧ True) ∧ (Z3 = Z3 ∧ True) ∧ (Z13 ∧ Z16 ∧ Z21) ∧ True))
    (by kernel_rfl) ?_
  simp [spanOkM]
  exact ⟨fun h _ => h, fun h h' => by rw [h] at h'; cases h'⟩

theorem work1_sound : Sound Try.prog 42 workS.con := FSpec.sound _ (enter_of Try.func42 (by kernel_rfl) (by kernel_rfl)) work1_ok
end AE.Soil

namespace AE.Soil
open Go AE Go.Proofs

structure OC where
  g : GroundT
  l : List Int
  f : Int
  t : Int
def openCL (g : GroundT) (l : List Int) (f t : Int) : LSpec UU where
  T := { i : Nat // i ≤ l.length ∧ (l.take i).all (askM (.span (spanOkM f t)) g.long) = true }
  fr := fun i => [(1, .fn (.func 42) [] [.ptr 2 0 0 0, .ptr 3 0 0 0, .ptr 4 0 0 0]), (3, .ptr 6 0 0 0), (14, .sl 5 0 0 l.length), (15, .i l.length), (16, .i i.1)]
  H := fun _ => [.one (.ro .pit g.pits), .one (.rc (cGround g 0) 24), .one (.rc [.fn (.func 56) [] [.ptr 1 0 0 0]] 74), .one (.rc [.i f] 3), .one (.rc [.i t] 3), .one (.ro .int l), .one (.cells (cGround g 0) 24)]
  mu := fun i => l.length - i.1
def openCS : FSpec2 UU where
  X := OC
  pick := fun args H => match args with
    | [a, .fn (.func 42) [] [_, f, t], l] => match avGround H a, sliceAt .int H l, avCell H f, avCell H t with
      | some a, some l, some f, some t => match avInt f, avInt t with
        | some f, some t => some ⟨a, l, f, t⟩
        | _, _ => none
      | _, _, _, _ => none
    | _ => none
  args := fun x => [vGround x.g 0, .fn (.func 42) [] [.ptr 2 0 0 0, .ptr 3 0 0 0, .ptr 4 0 0 0], .sl 5 0 0 x.l.length]
  H := fun x => [.one (.ro .pit x.g.pits), .one (.rc (cGround x.g 0) 24), .one (.rc [.fn (.func 56) [] [.ptr 1 0 0 0]] 74), .one (.rc [.i x.f] 3), .one (.rc [.i x.t] 3), .one (.ro .int x.l)]
  c := fun x => openErrM x.g (.span (spanOkM x.f x.t)) x.l == 0
  R := fun x => .val ⟨.ptr 8 0 0 0, [], [], [.row .span (hardsM x.g (nM x.g)) 28, .row .mix (boxesM x.g) 80, .cells [.i x.g.long, .i x.g.rise, .i x.g.change, .sl 0 0 0 x.g.pits.length, .gs 6 0, .gs 7 0] 71]⟩
  R' := fun x => .panic (failV (openErrM x.g (.span (spanOkM x.f x.t)) x.l))
  pre := fun x => x.g.pits.length < 1000000 ∧ x.l.length < 1000
def TopenC : Tab UU := [(51, isGroundS.con), (50, mustS.con), (52, lookS.con), (42, workS.con)]
theorem TopenC_ok : TopenC.Sound Try.prog := .cons isGround_sound (.cons must_sound (.cons look_sound (.cons work1_sound .nil)))
set_option maxHeartbeats 0 in
set_option maxRecDepth 100000 in
theorem openC_ok : ∀ x, openCS.pre x → (openCS.c x = true → FunOk Try.prog 32 (openCS.args x) (openCS.H x) (openCS.R x)) ∧ (openCS.c x = false → FunOk Try.prog 32 (openCS.args x) (openCS.H x) (openCS.R' x)) := by
  rintro ⟨⟨long, rise, change, ps⟩, l, f, t⟩ hx
  refine fun_of2 (T := TopenC) (L := fun _ => some (.inv (openCL ⟨long, rise, change, ps⟩ l f t))) (hs := fun _ => []) (sp := fun _ => none) hmix TopenC_ok (td := fun _ => none) (fun _ _ h => by cases h) (it := fun _ => none) (fun _ _ h => by cases h) Try.func32 (by kernel_rfl) (by kernel_rfl) ?_
  refine Eq.mp (α :=
      let Z0 := spanOkM f t; let Z1 := List.length l; let Z2 := Value.bool true; let Z3 := Value.bool false; let Z4 := GroundT.mk long rise change ps; let Z5 := List.length ps; let Z6 := Value.int IntKind.i64 change; let Z7 := Value.int IntKind.i64 f; let Z8 := Value.int IntKind.i64 rise; let Z9 := Value.int IntKind.i64 t; let Z10 := Value.int IntKind.i64 long; let Z11 := Ask.span Z0; let Z12 := nat_lit 0 = nat_lit 0 ∧ nat_lit 0 = nat_lit 0; let Z13 := (0 : Int); let Z14 := (2 : Int); let Z15 := (1 : Int); let Z16 := nM Z4; let Z17 := (10 : Int); let Z18 := lookM Z4; let Z19 : List Mix3 := boxesM Z4; let Z20 := GroundT.long Z4; let Z21 := groundM Z4; let Z22 := (56 : FuncId); let Z23 := l = l; let Z24 := (28 : TypeId); let Z25 := (42 : FuncId); let Z26 := (80 : TypeId); let Z27 := ps = ps; let Z28 := (104 : TypeId); let Z29 := fun (i : Nat) => i ≤ Z1; let Z31 := nat_lit 0 = nat_lit 0 ∧ Z12; let Z32 := (↑Z1 : Int); let Z33 := Fn.func Z25; let Z35 := Value.bool Z21; let Z38 := Value.int IntKind.i64 Z15; let Z39 := Value.int IntKind.i64 Z14; let Z41 := Value.int IntKind.i64 Z17; let Z43 := Z31 ∧ True; let Z45 := Z8 = Z8; let Z47 := Z10 = Z10; let Z49 := Z6 = Z6; let Z53 := Value.int IntKind.i64 Z32; let Z54 := Z9 = Z9 ∧ True; let Z55 := openErrM Z4 Z11 l; let Z56 := Z7 = Z7 ∧ True; let Z59 := Value.int IntKind.i64 Z55; let Z60 := Z28 = Z28; let Z74 := Z41 = Z41 ∧ True; let Z76 := Z55 == Z13; let Z82 := Z76 = true; let Z84 := Z76 = false; let Z86 := (Fn.func Z22 = Fn.func Z22 ∧ True ∧ Z43) ∧ True; let Z87 := Z82 → False; let Z91 : Type := { i : Nat // Z29 i ∧ List.all (List.take i l) (askM Z11 Z20) = true }; let Z92 := fun (x : Z91) => Subtype.val x; let Z94 := fun (x : Z91) => (↑(Z92 x) : Int); let Z99 := fun (x : Z91) => Z1 - Z92 x; let Z102 := fun (t : Z91) => nat_lit 0 + Int.toNat (Z94 t); let Z103 := Z47 ∧ Z45 ∧ Z49 ∧ (nat_lit 0 = nat_lit 0 ∧ nat_lit 0 = nat_lit 0 ∧ Z5 = Z5) ∧ True; let Z105 := Z103 ∧ True; let Z107 := fun (t : Z91) => List.getD l (Z102 t) Z13; let Z109 := fun (t : Z91) => inM (Z107 t) Z13 long; let Z112 := fun (t : Z91) => Value.bool (Z109 t && Z0); let Z115 := fun (t_1 : Z91) => decide (Z94 t_1 < Z32); Z5 < nat_lit 1000000 ∧ Z105 ∧ (Z27 ∧ True) ∧ True ∧ (Z21 = true → (Z35 = Z35 ∧ Z38 = Z38 ∧ True) ∧ True ∧ (∃ (x : Z91), ((Z33 = Z33 ∧ True ∧ Z31 ∧ Z31 ∧ Z43) ∧ Z31 ∧ (nat_lit 0 = nat_lit 0 ∧ nat_lit 0 = nat_lit 0 ∧ Z1 = Z1) ∧ Z53 = Z53 ∧ Value.int IntKind.i64 Z13 = Value.int IntKind.i64 (Z94 x) ∧ True) ∧ True ∧ Z27 ∧ Z103 ∧ Z86 ∧ Z56 ∧ Z54 ∧ Z23 ∧ Z105) ∧ ∀ (t_1 : Z91), (Z115 t_1 = true → (Z13 ≤ Z94 t_1 ∧ Z94 t_1 < Z32) ∧ Z102 t_1 < List.length l ∧ True ∧ (Value.int IntKind.i64 (Z107 t_1) = Value.int IntKind.i64 (Z107 t_1) ∧ Z31 ∧ Z31 ∧ Z43) ∧ (Z86 ∧ Z56 ∧ Z54 ∧ (Z47 ∧ Z45 ∧ Z49 ∧ True ∧ True) ∧ True) ∧ True ∧ ((Z109 t_1 && Z0) = true → (Z112 t_1 = Z112 t_1 ∧ Z39 = Z39 ∧ True) ∧ True ∧ True ∧ ∃ (x : Z91), (((Z33 = Z33 ∧ True ∧ Z31 ∧ Z31 ∧ Z43) ∧ Z31 ∧ (nat_lit 0 = nat_lit 0 ∧ nat_lit 0 = nat_lit 0 ∧ Z1 = Z1) ∧ Z53 = Z53 ∧ Value.int IntKind.i64 (IntKind.wrap IntKind.i64 (Z94 t_1 + Z15)) = Value.int IntKind.i64 (Z94 x) ∧ True) ∧ True ∧ Z27 ∧ Z103 ∧ Z86 ∧ Z56 ∧ Z54 ∧ Z23 ∧ Z105) ∧ Z99 x < Z99 t_1) ∧ ((Z109 t_1 && Z0) = false → (Z112 t_1 = Z112 t_1 ∧ Z39 = Z39 ∧ True) ∧ True ∧ Z87 ∧ (Z84 → True ∧ Z60 ∧ Z39 = Z59 ∧ True))) ∧ (Z115 t_1 = false → Z21 = true ∧ (Z18 = true → Z105 ∧ (Z27 ∧ True) ∧ True ∧ (true = true → (Z2 = Z2 ∧ Z74) ∧ True ∧ (Z82 → True ∧ Z43 ∧ True ∧ Z27 ∧ Z103 ∧ Z86 ∧ Z56 ∧ Z54 ∧ Z23 ∧ (Z24 = Z24 ∧ hardsM Z4 Z16 = hardsM Z4 Z16) ∧ (Z26 = Z26 ∧ Z19 = Z19) ∧ (Z47 ∧ Z45 ∧ Z49 ∧ (nat_lit 0 = nat_lit 0 ∧ nat_lit 0 = nat_lit 0 ∧ Z5 = Z5) ∧ nat_lit 0 = nat_lit 0 ∧ nat_lit 0 = nat_lit 0 ∧ True) ∧ True) ∧ (Z84 → False)) ∧ (true = false → (Z2 = Z2 ∧ Z74) ∧ True ∧ Z87 ∧ (Z84 → True ∧ Z60 ∧ Z41 = Z59 ∧ True))) ∧ (Z18 = false → Z105 ∧ (Z27 ∧ True) ∧ True ∧ (false = true → (Z3 = Z3 ∧ Z74) ∧ True ∧ (Z82 → True ∧ (False ∧ True) ∧ True ∧ Z27 ∧ Z103 ∧ Z86 ∧ Z56 ∧ Z54 ∧ Z23 ∧ False ∧ False ∧ False ∧ True) ∧ (Z84 → False)) ∧ (false = false → (Z3 = Z3 ∧ Z74) ∧ True ∧ Z87 ∧ (Z84 → True ∧ Z60 ∧ Z41 = Z59 ∧ True))))) ∧ (Z21 = false → (Z35 = Z35 ∧ Z38 = Z38 ∧ True) ∧ True ∧ Z87 ∧ (Z84 → True ∧ Z60 ∧ Z38 = Z59 ∧ True)))
    (by kernel_rfl) ?_
  simp only [eq_self, true_and, and_true, Int.toNat_natCast, Nat.zero_add, Nat.sub_zero, Value.int.injEq, Value.bool.injEq, decide_eq_true_eq, decide_eq_false_iff_not]
  obtain ⟨hl1, hl2⟩ := hx
  have hl2' : l.length < 1000 := hl2
  refine ⟨hl1, fun hg => ⟨⟨⟨0, Nat.zero_le _, rfl⟩, rfl⟩, fun tt => ⟨fun ht => ?_, fun ht => ⟨hg, fun hk => ?_, fun hk => ?_⟩⟩⟩, fun hg => ?_⟩
  · obtain ⟨i, hi, ha⟩ := tt
    have hlt : i < l.length := by have h0 : (i : Int) < (l.length : Int) := ht; omega
    refine ⟨⟨Int.natCast_nonneg _, ht⟩, hlt, fun h => ⟨⟨i + 1, hlt, ask_suc hlt ha h⟩, sucI i (by omega), dec1 hlt⟩, fun h => ?_⟩
    rw [open_range (a := .span (spanOkM f t)) hg hlt h]
    exact ⟨fun h => absurd h (by decide), fun _ => rfl⟩
  · obtain ⟨i, hi, ha⟩ := tt
    have hie : i = l.length := by have h0 : ¬ (i : Int) < (l.length : Int) := ht; omega
    rw [hie, List.take_length] at ha
    rw [open_look (a := .span (spanOkM f t)) hg ha, hk]
    exact ⟨fun _ => ⟨fun _ => trivial, fun h => absurd h (by decide)⟩, fun h => absurd h (by decide)⟩
  · obtain ⟨i, hi, ha⟩ := tt
    have hie : i = l.length := by have h0 : ¬ (i : Int) < (l.length : Int) := ht; omega
    rw [hie, List.take_length] at ha
    rw [open_look (a := .span (spanOkM f t)) hg ha, hk]
    exact ⟨fun h => absurd h (by decide), fun _ => ⟨fun h => absurd h (by decide), fun _ => rfl⟩⟩
  · rw [open_arg hg]
    exact ⟨fun h => absurd h (by decide), fun _ => rfl⟩

theorem openC_sound : Sound Try.prog 32 openCS.con := FSpec2.sound _ (enter_of Try.func32 (by kernel_rfl) (by kernel_rfl)) openC_ok
end AE.Soil

namespace AE.Soil
open Go AE Go.Proofs

def workNM (a b : Int) : Nat := (W (b + 1)).toNat - a.toNat
def workAtM (g : GroundT) (a : Int) : Nat → Span
  | 0 => (0, 0)
  | i + 1 => (W ((workAtM g a i).1 + ((hardsM g (nM g)).getD (a.toNat + i) (0, 0)).1), W ((workAtM g a i).2 + ((hardsM g (nM g)).getD (a.toNat + i) (0, 0)).2))
def workErrM (g : GroundT) (a b : Int) : Int := openErrM g (.span (spanOkM a b)) [a, b]
def workOM (g : GroundT) (a b : Int) : Span × Int := if workErrM g a b == 0 then (workAtM g a (workNM a b), 0) else ((0, 0), workErrM g a b)
def workL (g : GroundT) (a b : Int) : LSpec UU where
  T := { i : Nat // i ≤ workNM a b }
  fr := fun i => [(6, .ptr 4 0 0 0), (7, .ptr 5 0 0 0), (27, .sl 9 0 a.toNat (workNM a b)), (28, .i (workNM a b : Nat)), (29, .i i.1)]
  H := fun i => [.one (.ro .pit g.pits), .none, .none, .none, .one (.cells [.i (workAtM g a i.1).1, .i (workAtM g a i.1).2] 28), .one (.cells [.i 0] 29), .none, .none, .none, .one (.row .span (hardsM g (nM g)) 28)]
  mu := fun i => workNM a b - i.1
def Twork : Tab UU := [(33, isPlaceS.con), (32, openCS.con)]
theorem Twork_ok : Twork.Sound Try.prog := .cons isPlace_sound (.cons openC_sound .nil)
def workOS : FSpec UU where
  X := GroundT × Int × Int
  pick := fun args H => match args with
    | [a, b, c] => match avGround H a, avInt b, avInt c with
      | some a, some b, some c => some (a, b, c)
      | _, _, _ => none
    | _ => none
  args := fun x => [vGround x.1 0, .i x.2.1, .i x.2.2]
  H := fun x => [.one (.ro .pit x.1.pits)]
  R := fun x => .val ⟨.tup [vSpan (workOM x.1 x.2.1 x.2.2).1, .i (workOM x.1 x.2.1 x.2.2).2], [], [], []⟩
  pre := fun x => x.1.pits.length < 1000000
set_option maxHeartbeats 0 in
set_option maxRecDepth 100000 in
theorem workO_ok : ∀ x, workOS.pre x → FunOk Try.prog 15 (workOS.args x) (workOS.H x) (workOS.R x) := by
  rintro ⟨⟨long, rise, change, ps⟩, a, b⟩ hx
  refine fun_ofT (T := Twork) (L := fun _ => some (.inv (workL ⟨long, rise, change, ps⟩ a b))) (hs := fun _ => []) (sp := fun _ => none) hmix Twork_ok (tdAt_ok told_ok) (it := fun _ => none) (fun _ _ h => by cases h) Try.func15 (by kernel_rfl) (by kernel_rfl) ?_
  refine Eq.mp (α :=
      let Z0 := Int.toNat a; let Z1 := workNM a b; let Z2 := spanOkM a b; let Z3 := GroundT.mk long rise change ps; let Z4 := Value.int IntKind.i64 a; let Z5 := List.length ps; let Z6 := Value.int IntKind.i64 long; let Z7 := Value.int IntKind.i64 b; let Z8 := Value.int IntKind.i64 rise; let Z9 := Value.int IntKind.i64 change; let Z10 := Ask.span Z2; let Z11 := nat_lit 0 = nat_lit 0 ∧ nat_lit 2 = nat_lit 2; let Z12 := nat_lit 0 = nat_lit 0 ∧ nat_lit 0 = nat_lit 0; let Z13 := (0 : Int); let Z14 := (1 : Int); let Z15 := AV.v Z7; let Z16 := AV.v Z4; let Z17 := nM Z3; let Z18 : List Int := []; let Z19 := (8 : Nat); let Z20 := (5 : Nat); let Z21 := (42 : FuncId); let Z22 := (28 : TypeId); let Z23 := ps = ps; let Z24 := (56 : FuncId); let Z25 := fun (i : Nat) => i ≤ Z1; let Z26 := workOM Z3 a b; let Z27 := (↑Z1 : Int); let Z28 := nat_lit 0 = nat_lit 0 ∧ Z12; let Z29 := nat_lit 0 = nat_lit 0 ∧ Z11; let Z30 := AV.ptr Z20 (nat_lit 0) (nat_lit 0) (nat_lit 0); let Z31 := Fn.func Z24; let Z34 := Value.int IntKind.i64 Z13; let Z35 := Z28 ∧ True; let Z43 : Type := { i : Nat // Z25 i }; let Z45 := Prod.fst Z26; let Z46 := Fn.func (nat_lit 42) = Fn.func Z21; let Z49 := Value.int IntKind.i64 Z27; let Z51 : List Span := hardsM Z3 Z17; let Z54 := fun (x : Z43) => Subtype.val x; let Z63 := Value.int IntKind.i64 (Prod.snd Z26); let Z66 := fun (x : Z43) => (↑(Z54 x) : Int); let Z69 := List.length Z51; let Z70 := Value.int IntKind.i64 (Prod.snd Z45); let Z71 : List Int := a :: b :: Z18; let Z72 := Value.int IntKind.i64 (Prod.fst Z45); let Z73 := IntKind.wrap IntKind.i64 (b + Z14); let Z77 := fun (x : Z43) => workAtM Z3 a (Z54 x); let Z85 := fun (x : Z43) => Z1 - Z54 x; let Z86 : List DfE := [DfE.call (Fn.func (nat_lit 31)) [] [Z30]]; let Z88 := fun (x : Z43) => Value.int IntKind.i64 (Prod.snd (Z77 x)); let Z89 := fun (x : Z43) => Value.int IntKind.i64 (Prod.fst (Z77 x)); let Z93 := fun (t : Z43) => Z0 + Int.toNat (Z66 t); let Z94 := Z51 = Z51; let Z95 := openErrM Z3 Z10 Z71; let Z98 := Int.toNat Z73 - Z0; let Z101 := Z71 = Z71; let Z104 := Z95 == Z13; let Z109 := Z6 = Z6 ∧ Z8 = Z8 ∧ Z9 = Z9 ∧ (nat_lit 0 = nat_lit 0 ∧ nat_lit 0 = nat_lit 0 ∧ Z5 = Z5) ∧ True; let Z112 := fun (t : Z43) => decide (Z66 t < Z27); let Z113 := fun (t : Z43) => List.getD Z51 (Z93 t) (Z13, Z13); True ∧ (Z109 ∧ True) ∧ (Z23 ∧ True) ∧ (nat_lit 2 = nat_lit 2 ∧ Z16 = Z16 ∧ Z15 = Z15 ∧ True) ∧ (Z5 < nat_lit 1000000 ∧ nat_lit 2 < nat_lit 1000) ∧ (Z104 = true → (Z109 ∧ (Z46 ∧ True ∧ Z28 ∧ Z28 ∧ Z35) ∧ (Z19 = Z19 ∧ Z29) ∧ True) ∧ (Z23 ∧ Z109 ∧ ((Z31 = Z31 ∧ True ∧ Z35) ∧ True) ∧ (Z4 = Z4 ∧ True) ∧ (Z7 = Z7 ∧ True) ∧ Z101 ∧ True) ∧ (Z13 ≤ a ∧ a ≤ Z73 ∧ Z73 ≤ (↑Z69 : Int)) ∧ (∃ (x : Z43), (Z28 ∧ Z28 ∧ (nat_lit 0 = nat_lit 0 ∧ nat_lit 0 + Z0 = Z0 ∧ Z98 = Z1) ∧ Value.int IntKind.i64 (↑Z98 : Int) = Z49 ∧ Z34 = Value.int IntKind.i64 (Z66 x) ∧ True) ∧ (True ∧ Z35 ∧ True) ∧ Z23 ∧ True ∧ True ∧ True ∧ (Z34 = Z89 x ∧ Z34 = Z88 x ∧ True) ∧ (Z34 = Z34 ∧ True) ∧ True ∧ True ∧ True ∧ (Z22 = Z22 ∧ Z94) ∧ True) ∧ ∀ (t : Z43), (Z112 t = true → (Z13 ≤ Z66 t ∧ Z66 t < Z27) ∧ Z93 t < Z69 ∧ Z86 = Z86 ∧ ∃ (x : Z43), ((Z28 ∧ Z28 ∧ (nat_lit 0 = nat_lit 0 ∧ Z0 = Z0 ∧ Z1 = Z1) ∧ Z49 = Z49 ∧ Value.int IntKind.i64 (IntKind.wrap IntKind.i64 (Z66 t + Z14)) = Value.int IntKind.i64 (Z66 x) ∧ True) ∧ (True ∧ Z35 ∧ True) ∧ Z23 ∧ True ∧ True ∧ True ∧ (Value.int IntKind.i64 (IntKind.wrap IntKind.i64 (Prod.fst (Z77 t) + Prod.fst (Z113 t))) = Z89 x ∧ Value.int IntKind.i64 (IntKind.wrap IntKind.i64 (Prod.snd (Z77 t) + Prod.snd (Z113 t))) = Z88 x ∧ True) ∧ (Z34 = Z34 ∧ True) ∧ True ∧ True ∧ True ∧ (Z22 = Z22 ∧ Z94) ∧ True) ∧ Z85 x < Z85 t) ∧ (Z112 t = false → (true = true → True ∧ True ∧ (((Z89 t = Z72 ∧ Z88 t = Z70 ∧ True) ∧ Z34 = Z63 ∧ True) ∧ True) ∧ True ∧ Z23 ∧ True) ∧ (true = false → False))) ∧ (Z104 = false → (Z109 ∧ (Z46 ∧ True ∧ Z28 ∧ Z28 ∧ Z35) ∧ (Z19 = Z19 ∧ Z29) ∧ True) ∧ (Z23 ∧ Z109 ∧ ((Z31 = Z31 ∧ True ∧ Z35) ∧ True) ∧ (Z4 = Z4 ∧ True) ∧ (Z7 = Z7 ∧ True) ∧ Z101 ∧ True) ∧ True ∧ True ∧ (((Z34 = Z72 ∧ Z34 = Z70 ∧ True) ∧ Value.int IntKind.i64 Z95 = Z63 ∧ True) ∧ True) ∧ True ∧ Z23 ∧ True))
    (by kernel_rfl) ?_
  simp only [eq_self, true_and, and_true, Int.toNat_natCast, Nat.zero_add, Nat.sub_zero, Value.int.injEq, Value.bool.injEq, decide_eq_true_eq, decide_eq_false_iff_not]
  refine ⟨⟨hx, by decide⟩, fun h => ?_, fun h => ?_⟩
  · obtain ⟨hg, ha, _⟩ := open_ok h
    obtain ⟨n0, n1, n2⟩ := n_ok (ground_ok hg)
    have hl := hards_len ⟨long, rise, change, ps⟩ (nM ⟨long, rise, change, ps⟩)
    simp only [List.all_cons, List.all_nil, Bool.and_true, Bool.and_eq_true, askM, inM_iff, spanOkM, decide_eq_true_eq] at ha
    obtain ⟨⟨⟨a0, a1⟩, a2⟩, ⟨b0, b1⟩, _⟩ := ha
    have n0' : ((nM ⟨long, rise, change, ps⟩ : Nat) : Int) = long + 1 := n0
    have b1' : b ≤ long := b1
    have hw : IntKind.i64.wrap (b + 1) = b + 1 := wrap_id (by omega) (by omega)
    have hn : workNM a b = (b + 1).toNat - a.toNat := by unfold workNM; rw [show W (b + 1) = b + 1 from hw]
    have e : workOM ⟨long, rise, change, ps⟩ a b = (workAtM ⟨long, rise, change, ps⟩ a (workNM a b), 0) := by unfold workOM workErrM; rw [h]; rfl
    simp only [hw, e]
    refine ⟨⟨a0, by omega, by omega⟩, ⟨⟨0, Nat.zero_le _⟩, ⟨hn.symm, by rw [hn], rfl⟩, rfl, rfl⟩, fun t => ⟨fun ht => ?_, fun ht => ?_⟩⟩
    · obtain ⟨i, hi⟩ := t
      have hlt : i < workNM a b := by have h0 : (i : Int) < (workNM a b : Int) := ht; omega
      exact ⟨⟨Int.natCast_nonneg _, ht⟩, by show a.toNat + i < _; omega, ⟨i + 1, hlt⟩, ⟨sucI i (by omega), rfl, rfl⟩, dec1 hlt⟩
    · obtain ⟨i, hi⟩ := t
      have hie : i = workNM a b := by have h0 : ¬ (i : Int) < (workNM a b : Int) := ht; omega
      subst hie
      exact ⟨fun _ => ⟨⟨rfl, rfl⟩, trivial⟩, fun h => absurd h (by decide)⟩
  · have e : workOM ⟨long, rise, change, ps⟩ a b = ((0, 0), workErrM ⟨long, rise, change, ps⟩ a b) := by unfold workOM workErrM; rw [h]; rfl
    rw [e]; exact ⟨⟨rfl, rfl⟩, rfl⟩

theorem workO_sound : Sound Try.prog 15 workOS.con := FSpec.sound _ (enter_of Try.func15 (by kernel_rfl) (by kernel_rfl)) workO_ok
end AE.Soil

namespace AE.Soil
open Go AE Go.Proofs

def digStepM (i : Int) (s : Span) (p : Int × Int) : Int × Int := if W (s.2 - s.1) > p.2 then (i, W (s.2 - s.1)) else p
def digAtM (l : List Span) : Nat → Int × Int
  | 0 => (0, -1)
  | i + 1 => digStepM i (l.getD i (0, 0)) (digAtM l i)
theorem dig_yes {l : List Span} {i : Nat} (h : W ((l.getD i (0, 0)).2 - (l.getD i (0, 0)).1) > (digAtM l i).2) : digAtM l (i + 1) = ((i : Int), W ((l.getD i (0, 0)).2 - (l.getD i (0, 0)).1)) := if_pos h
theorem dig_no {l : List Span} {i : Nat} (h : ¬ W ((l.getD i (0, 0)).2 - (l.getD i (0, 0)).1) > (digAtM l i).2) : digAtM l (i + 1) = digAtM l i := if_neg h
def digErrM (g : GroundT) : Int := openErrM g .place []
def digOM (g : GroundT) : Int × Int × Int := if digErrM g == 0 then ((digAtM (hardsM g (nM g)) (nM g)).1, (digAtM (hardsM g (nM g)) (nM g)).2, 0) else (0, 0, digErrM g)
def digL (g : GroundT) : LSpec UU where
  T := { i : Nat // i ≤ nM g }
  fr := fun i => [(2, .i (digAtM (hardsM g (nM g)) i.1).1), (3, .i (digAtM (hardsM g (nM g)) i.1).2), (4, .ptr 2 0 0 0), (15, .gs 4 0), (16, .i (nM g : Nat)), (17, .i i.1)]
  H := fun _ => [.one (.ro .pit g.pits), .none, .one (.cells [.i 0] 29), .none, .one (.row .span (hardsM g (nM g)) 28)]
  mu := fun i => nM g - i.1
def digOS : FSpec UU where
  X := GroundT
  pick := fun args H => match args with
    | [a] => avGround H a
    | _ => none
  args := fun (x : GroundT) => [vGround x 0]
  H := fun (x : GroundT) => [.one (.ro .pit x.pits)]
  R := fun (x : GroundT) => .val ⟨.tup [.i (digOM x).1, .i (digOM x).2.1, .i (digOM x).2.2], [], [], []⟩
  pre := fun (x : GroundT) => x.pits.length < 1000000
set_option maxHeartbeats 0 in
set_option maxRecDepth 100000 in
theorem digO_ok : ∀ x, digOS.pre x → FunOk Try.prog 29 (digOS.args x) (digOS.H x) (digOS.R x) := by
  rintro ⟨long, rise, change, ps⟩ hx
  refine fun_ofT (T := Tq) (L := fun _ => some (.inv (digL ⟨long, rise, change, ps⟩))) (hs := fun _ => []) (sp := fun _ => none) hmix Tq_ok (tdAt_ok told_ok) (it := fun _ => none) (fun _ _ h => by cases h) Try.func29 (by kernel_rfl) (by kernel_rfl) ?_
  refine Eq.mp (α :=
      let Z0 : List DfE := []; let Z1 := True ∧ True; let Z2 := nat_lit 0 = nat_lit 0 ∧ True; let Z3 := GroundT.mk long rise change ps; let Z4 : List (CC.ty CC.int) := []; let Z5 := True ∧ Z1; let Z6 := Value.int IntKind.i64 change; let Z7 := Value.int IntKind.i64 long; let Z8 := Value.int IntKind.i64 rise; let Z9 := List.length ps; let Z10 := nat_lit 0 = nat_lit 0 ∧ nat_lit 0 = nat_lit 0; let Z11 := (0 : Int); let Z12 := (1 : Int); let Z13 := nM Z3; let Z14 : List Int := []; let Z15 := (2 : Nat); let Z16 := digOM Z3; let Z17 := True ∧ Z5; let Z18 := ps = ps; let Z20 := (28 : TypeId); let Z21 := True ∧ Z17; let Z22 := nat_lit 0 = nat_lit 0 ∧ Z10; let Z24 := Fn.func (56 : FuncId); let Z27 := Value.int IntKind.i64 Z11; let Z29 := Z22 ∧ True; let Z34 := (↑Z13 : Int); let Z37 := Prod.snd Z16; let Z40 : List Span := hardsM Z3 Z13; let Z41 := openErrM Z3 Ask.place Z4; let Z45 : Type := { i : Nat // i ≤ Z13 }; let Z49 := Value.int IntKind.i64 Z34; let Z50 := fun (x : Z45) => Subtype.val x; let Z51 := Value.int IntKind.i64 (Prod.fst Z16); let Z52 := Z20 = Z20; let Z53 := Z4 = Z14; let Z56 := Value.int IntKind.i64 (Prod.snd Z37); let Z57 := Value.int IntKind.i64 (Prod.fst Z37); let Z61 := List.length Z40; let Z63 := fun (x : Z45) => (↑(Z50 x) : Int); let Z64 := Z27 = Z27; let Z67 := (↑Z61 : Int); let Z68 := fun (x : Z45) => Value.int IntKind.i64 (Z63 x); let Z69 : List DfE := DfE.call (Fn.func (nat_lit 31)) [] [AV.ptr Z15 (nat_lit 0) (nat_lit 0) (nat_lit 0)] :: Z0; let Z71 := Z41 == Z11; let Z73 := fun (x : Z45) => Z13 - Z50 x; let Z74 := fun (x : Z45) => digAtM Z40 (Z50 x); let Z76 := Z40 = Z40; let Z77 := fun (t : Z45) => nat_lit 0 + Int.toNat (Z63 t); let Z82 := fun (t : Z45) => Z63 t + Z12; let Z85 := fun (x : Z45) => Value.int IntKind.i64 (Prod.snd (Z74 x)); let Z86 := fun (x : Z45) => Value.int IntKind.i64 (Prod.fst (Z74 x)); let Z94 := Z7 = Z7 ∧ Z8 = Z8 ∧ Z6 = Z6 ∧ (nat_lit 0 = nat_lit 0 ∧ nat_lit 0 = nat_lit 0 ∧ Z9 = Z9) ∧ True; let Z97 := fun (t : Z45) => List.getD Z40 (Z77 t) (Z11, Z11); let Z103 := fun (t : Z45) => decide (Z63 t < Z34); let Z112 := fun (t : Z45) => Prod.snd (Z97 t) - Prod.fst (Z97 t); let Z115 := fun (t : Z45) => decide (IntKind.wrap IntKind.i64 (Z112 t) > Prod.snd (Z74 t)); True ∧ (Z94 ∧ True) ∧ (Z18 ∧ True) ∧ (Z9 < nat_lit 1000000 ∧ nat_lit 0 < nat_lit 1000) ∧ (Z71 = true → (Z21 ∧ Z5 ∧ Z2) ∧ (True ∧ Z21 ∧ Z53 ∧ True) ∧ (Z94 ∧ (Z24 = Z24 ∧ True ∧ Z29) ∧ Z2) ∧ (Z18 ∧ Z94 ∧ Z1) ∧ (∃ (x : Z45), (Z27 = Z86 x ∧ Value.int IntKind.i64 (-Z12) = Z85 x ∧ Z22 ∧ nat_lit 0 = nat_lit 0 ∧ Value.int IntKind.i64 Z67 = Z49 ∧ Z27 = Z68 x ∧ True) ∧ (True ∧ Z29 ∧ True) ∧ Z18 ∧ True ∧ (Z64 ∧ True) ∧ True ∧ (Z52 ∧ Z76) ∧ True) ∧ ∀ (t : Z45), (Z103 t = true → (Z11 ≤ Z63 t ∧ Z63 t < Z67) ∧ Z77 t < Z61 ∧ (Z115 t = true → Z69 = Z69 ∧ ∃ (x : Z45), ((Z68 t = Z86 x ∧ Value.int IntKind.i64 (IntKind.wrap IntKind.i64 (Z112 t)) = Z85 x ∧ Z22 ∧ nat_lit 0 = nat_lit 0 ∧ Z49 = Z49 ∧ Value.int IntKind.i64 (IntKind.wrap IntKind.i64 (Z82 t)) = Z68 x ∧ True) ∧ (True ∧ Z29 ∧ True) ∧ Z18 ∧ True ∧ (Z64 ∧ True) ∧ True ∧ (Z52 ∧ Z76) ∧ True) ∧ Z73 x < Z73 t) ∧ (Z115 t = false → Z69 = Z69 ∧ ∃ (x : Z45), ((Z86 t = Z86 x ∧ Z85 t = Z85 x ∧ Z22 ∧ nat_lit 0 = nat_lit 0 ∧ Z49 = Z49 ∧ Value.int IntKind.i64 (IntKind.wrap IntKind.i64 (Z82 t)) = Z68 x ∧ True) ∧ (True ∧ Z29 ∧ True) ∧ Z18 ∧ True ∧ (Z64 ∧ True) ∧ True ∧ (Z52 ∧ Z76) ∧ True) ∧ Z73 x < Z73 t)) ∧ (Z103 t = false → (true = true → True ∧ True ∧ ((Z86 t = Z51 ∧ Z85 t = Z57 ∧ Z27 = Z56 ∧ True) ∧ True) ∧ True ∧ Z18 ∧ True) ∧ (true = false → False))) ∧ (Z71 = false → (Z21 ∧ Z5 ∧ Z2) ∧ (True ∧ Z21 ∧ Z53 ∧ True) ∧ (true && true && true) = true ∧ (Z94 ∧ (Z24 = Z24 ∧ True ∧ Z29) ∧ Z2) ∧ (Z18 ∧ Z94 ∧ Z1) ∧ True ∧ True ∧ ((Z27 = Z51 ∧ Z27 = Z57 ∧ Value.int IntKind.i64 Z41 = Z56 ∧ True) ∧ True) ∧ True ∧ Z18 ∧ True))
    (by kernel_rfl) ?_
  simp only [eq_self, true_and, and_true, Int.toNat_natCast, Nat.zero_add, Nat.sub_zero, Value.int.injEq, Value.bool.injEq, decide_eq_true_eq, decide_eq_false_iff_not]
  refine ⟨⟨hx, by decide⟩, fun h => ?_, fun h => ?_⟩
  · obtain ⟨n0, n1, n2⟩ := n_ok (ground_ok (open_ok h).1)
    have hl := hards_len ⟨long, rise, change, ps⟩ (nM ⟨long, rise, change, ps⟩)
    have e : digOM ⟨long, rise, change, ps⟩ = ((digAtM (hardsM ⟨long, rise, change, ps⟩ (nM ⟨long, rise, change, ps⟩)) (nM ⟨long, rise, change, ps⟩)).1, (digAtM (hardsM ⟨long, rise, change, ps⟩ (nM ⟨long, rise, change, ps⟩)) (nM ⟨long, rise, change, ps⟩)).2, 0) := by
      have h' : (digErrM ⟨long, rise, change, ps⟩ == 0) = true := h
      unfold digOM; rw [h']; rfl
    rw [e, hl]
    clear e hx h
    revert hl
    generalize hardsM ⟨long, rise, change, ps⟩ (nM ⟨long, rise, change, ps⟩) = l
    revert n0 n1 n2
    generalize nM ⟨long, rise, change, ps⟩ = n
    intro n0 n1 n2 hl
    refine ⟨rfl, ⟨⟨0, Nat.zero_le _⟩, rfl, rfl, rfl, rfl⟩, fun t => ⟨fun ht => ?_, fun ht => ?_⟩⟩
    · obtain ⟨i, hi⟩ := t
      have hlt : i < n := by have h0 : (i : Int) < (n : Int) := ht; omega
      refine ⟨⟨Int.natCast_nonneg _, ht⟩, by show i < n; omega, fun hy => ⟨⟨i + 1, hlt⟩, ?_, dec1 hlt⟩, fun hy => ⟨⟨i + 1, hlt⟩, ?_, dec1 hlt⟩⟩
      · have := dig_yes (l := l) (i := i) hy
        refine ⟨?_, ?_, sucI i (by omega)⟩
        · exact (congrArg Prod.fst this).symm
        · exact (congrArg Prod.snd this).symm
      · have := dig_no (l := l) (i := i) hy
        refine ⟨?_, ?_, sucI i (by omega)⟩
        · exact (congrArg Prod.fst this).symm
        · exact (congrArg Prod.snd this).symm
    · obtain ⟨i, hi⟩ := t
      have hie : i = n := by have h0 : ¬ (i : Int) < (n : Int) := ht; omega
      subst hie
      exact ⟨fun _ => ⟨rfl, rfl, rfl⟩, fun h => absurd h (by decide)⟩
  · have e : digOM ⟨long, rise, change, ps⟩ = (0, 0, digErrM ⟨long, rise, change, ps⟩) := by
      have h' : (digErrM ⟨long, rise, change, ps⟩ == 0) = false := h
      unfold digOM; rw [h']; rfl
    rw [e]; exact ⟨rfl, rfl, rfl, rfl, rfl⟩

theorem digO_sound : Sound Try.prog 29 digOS.con := FSpec.sound _ (enter_of Try.func29 (by kernel_rfl) (by kernel_rfl)) digO_ok
end AE.Soil

namespace AE.Soil
open Go AE Go.Proofs

def strStepM (c n : Int) (k : Int) (p : Int × Int × Int) : Int × Int × Int := if c = W (1 * 2 ^ n.toNat) then (if W (k - p.2.2) > W (p.2.1 - p.1) then (p.2.2, k, p.2.2) else p) else (p.1, p.2.1, W (k + 1))
def strAtM (l : List Mix3) (n : Int) : Nat → Int × Int × Int
  | 0 => (0, -1, 0)
  | k + 1 => strStepM (classesM (l.getD k m0)) n k (strAtM l n k)
theorem str_no {l : List Mix3} {n : Int} {k : Nat} (h : ¬ classesM (l.getD k m0) = W (1 * 2 ^ n.toNat)) : strAtM l n (k + 1) = ((strAtM l n k).1, (strAtM l n k).2.1, W ((k : Int) + 1)) := if_neg h
theorem str_new {l : List Mix3} {n : Int} {k : Nat} (h : classesM (l.getD k m0) = W (1 * 2 ^ n.toNat)) (h2 : W ((k : Int) - (strAtM l n k).2.2) > W ((strAtM l n k).2.1 - (strAtM l n k).1)) : strAtM l n (k + 1) = ((strAtM l n k).2.2, (k : Int), (strAtM l n k).2.2) := (if_pos h).trans (if_pos h2)
theorem str_old {l : List Mix3} {n : Int} {k : Nat} (h : classesM (l.getD k m0) = W (1 * 2 ^ n.toNat)) (h2 : ¬ W ((k : Int) - (strAtM l n k).2.2) > W ((strAtM l n k).2.1 - (strAtM l n k).1)) : strAtM l n (k + 1) = strAtM l n k := (if_pos h).trans (if_neg h2)
def strErrM (g : GroundT) (n : Int) : Int := openErrM g .cls [n]
def strEndM (l : List Mix3) (n : Int) (k : Nat) : Int × Int × Int := if (strAtM l n k).2.1 ≥ 0 then ((strAtM l n k).1, (strAtM l n k).2.1, 0) else (0, 0, 4)
def strOM (g : GroundT) (n : Int) : Int × Int × Int := if strErrM g n == 0 then strEndM (boxesM g) n (nM g) else (0, 0, strErrM g n)
def strI (g : GroundT) (n : Int) (l : Nat) : LSpec UU where
  T := { k : Nat // k ≤ nM g }
  fr := fun k => itFr l 12 13 ++ [(10, .i (nM g : Nat)), (11, .i k.1)]
  H := fun k => [.one (.ro .pit g.pits), .none, .one (.cells [.i n] 3), .one (.cells [.i 0] 29), .none, .one (.row .span (hardsM g (nM g)) 28), .one (.row .mix (boxesM g) 80), .one (.cells [.i g.long, .i g.rise, .i g.change, .sl 0 0 0 g.pits.length, .gs 5 0, .gs 6 0] 71), .one (.cells [.ptr 7 0 0 0] 72), .one (.cells [.i (strAtM (boxesM g) n k.1).1] 3), .one (.cells [.i (strAtM (boxesM g) n k.1).2.1] 3), .one (.cells [.i (strAtM (boxesM g) n k.1).2.2] 3), .one (.cells [.ptr 7 0 0 0] 72), ffCell]
  mu := fun k => nM g - k.1
def Tstr : Tab UU := [(32, openBS.con), (49, placesS.con), (40, classesS.con), (50, mustS.con)]
theorem Tstr_ok : Tstr.Sound Try.prog := .cons openB_sound (.cons places_sound (.cons classes_sound (.cons must_sound .nil)))
def strOS : FSpec UU where
  X := GroundT × Int
  pick := fun args H => match args with
    | [a, b] => match avGround H a, avInt b with
      | some a, some b => some (a, b)
      | _, _ => none
    | _ => none
  args := fun x => [vGround x.1 0, .i x.2]
  H := fun x => [.one (.ro .pit x.1.pits)]
  R := fun x => .val ⟨.tup [.i (strOM x.1 x.2).1, .i (strOM x.1 x.2).2.1, .i (strOM x.1 x.2).2.2], [], [], []⟩
  pre := fun x => x.1.pits.length < 1000000
set_option maxHeartbeats 0 in
set_option maxRecDepth 100000 in
theorem strO_ok : ∀ x, strOS.pre x → FunOk Try.prog 21 (strOS.args x) (strOS.H x) (strOS.R x) := by
  rintro ⟨⟨long, rise, change, ps⟩, n⟩ hx
  refine fun_ofT (T := Tstr) (L := fun _ => none) (hs := fun _ => []) (sp := fun _ => none) hmix Tstr_ok (tdAt_ok told_ok) (it := onlyAt 7 (itOf Try.prog [] 63 Try.f63 fun l _ => some (.inv (strI ⟨long, rise, change, ps⟩ n l)))) (onlyAt_ok it_ok) Try.func21 (by kernel_rfl) (by kernel_rfl) ?_
  refine Eq.mp (α :=
      let Z0 := True ∧ True; let Z1 := Value.bool false; let Z2 := nat_lit 0 = nat_lit 0 ∧ True; let Z3 := GroundT.mk long rise change ps; let Z4 := Value.int IntKind.i64 change; let Z5 := Value.int IntKind.i64 long; let Z6 := Value.int IntKind.i64 n; let Z7 := Value.int IntKind.i64 rise; let Z8 := List.length ps; let Z9 := Z0 ∧ True; let Z10 := nat_lit 0 = nat_lit 0 ∧ nat_lit 0 = nat_lit 0; let Z11 := nat_lit 0 = nat_lit 0 ∧ nat_lit 1 = nat_lit 1; let Z12 := AV.v Z6; let Z13 := (2 : Int); let Z14 := (0 : Int); let Z15 := (1 : Int); let Z16 := (4 : Int); let Z17 : List Int := []; let Z18 := nM Z3; let Z19 := fun (l : Nat) => Fn.yield l = Fn.yield l; let Z20 := (4 : Nat); let Z21 : List Mix3 := boxesM Z3; let Z22 := strOM Z3 n; let Z23 := (28 : TypeId); let Z24 := (47 : FuncId); let Z25 := (80 : TypeId); let Z26 := ps = ps; let Z27 := nat_lit 0 = nat_lit 0 ∧ Z2; let Z28 := min (Int.toNat n) (nat_lit 64); let Z29 := nat_lit 0 = nat_lit 0 ∧ Z11; let Z30 := nat_lit 0 = nat_lit 0 ∧ Z10; let Z31 := Fn.func Z24; let Z32 := Z26 ∧ True; let Z33 := Value.int IntKind.i64 Z14; let Z34 := Value.int IntKind.i64 Z16; let Z35 := fun (l : Nat) => Z19 l ∧ Z0; let Z36 := Z1 = Z1; let Z37 := fun (k : Nat) => k ≤ Z18; let Z38 := Z30 ∧ True; let Z39 := List.length Z21; let Z40 := Z8 = Z8; let Z41 := True ∧ Z32; let Z42 := (↑Z18 : Int); let Z43 := Z4 = Z4; let Z44 := Z7 = Z7; let Z45 := Z5 = Z5; let Z46 := Z6 = Z6; let Z47 := Z36 ∧ True; let Z48 := Prod.fst Z22; let Z49 := Prod.snd Z22; let Z50 := Fn.func (nat_lit 47) = Z31; let Z51 : List Int := n :: Z17; let Z52 : List Span := hardsM Z3 Z18; let Z53 := Z46 ∧ True; let Z54 := nat_lit 0 = nat_lit 0 ∧ Z40; let Z56 : Type := { k : Nat // Z37 k }; let Z57 := (Z14, Z14); let Z58 := Value.int IntKind.i64 Z42; let Z61 := fun (x : Z56) => Subtype.val x; let Z64 := Value.int IntKind.i64 Z48; let Z67 := nat_lit 0 = nat_lit 0 ∧ Z54; let Z69 := Value.int IntKind.i64 (Prod.fst Z49); let Z70 := Z21 = Z21; let Z71 := Value.int IntKind.i64 (Prod.snd Z49); let Z72 := fun (x : Z56) => (↑(Z61 x) : Int); let Z73 := openErrM Z3 Ask.cls Z51; let Z78 := Z33 = Z33 ∧ True; let Z80 := fun (x : Z56) => Value.int IntKind.i64 (Z72 x); let Z86 := fun (x : Z56) => Z18 - Z61 x; let Z87 := fun (x : Z56) => Prod.snd (strAtM Z21 n (Z61 x)); let Z88 := fun (x : Z56) => Prod.fst (strAtM Z21 n (Z61 x)); let Z91 := Z51 = Z51; let Z93 := Z58 = Z58; let Z96 := fun (x : Z56) => Prod.fst (Z87 x); let Z98 := fun (x : Z56) => Value.int IntKind.i64 (Z88 x); let Z101 := Z25 = Z25 ∧ Z70; let Z102 := Z73 == Z14; let Z103 := fun (x : Z56) => Value.int IntKind.i64 (Prod.snd (Z87 x)); let Z104 := fun (x : Z56) => Value.int IntKind.i64 (Z96 x); let Z112 := fun (t : Z56) => Value.int IntKind.i64 (IntKind.wrap IntKind.i64 (Z72 t + Z15)); let Z114 := Z23 = Z23 ∧ Z52 = Z52; let Z118 := Z45 ∧ Z44 ∧ Z43 ∧ Z67 ∧ Z27; let Z120 := fun (x t : Z56) => Z86 x < Z86 t; let Z127 := fun (t : Z56) => decide (Z72 t < Z42); let Z133 := fun (t : Z56) => decide (Z96 t ≥ Z14); let Z135 := fun (t : Z56) => Value.bool (Z133 t); let Z143 := fun (t : Z56) => classesM (List.getD Z21 (Int.toNat (Z72 t)) (Z57, Z57, Z57)) != IntKind.wrap IntKind.i64 (Z15 * Z13 ^ Z28); let Z147 := fun (t : Z56) => decide (IntKind.wrap IntKind.i64 (Z72 t - Prod.snd (Z87 t)) > IntKind.wrap IntKind.i64 (Z96 t - Z88 t)); (nat_lit 1 = nat_lit 1 ∧ Z12 = Z12 ∧ True) ∧ (Z8 < nat_lit 1000000 ∧ nat_lit 1 < nat_lit 1000) ∧ (Z102 = true → ((Z45 ∧ Z44 ∧ Z43 ∧ Z67 ∧ True) ∧ (Z50 ∧ Z0) ∧ (Z20 = Z20 ∧ Z29) ∧ True) ∧ (Z26 ∧ Z91 ∧ True) ∧ True ∧ (Z30 ∧ Z47) ∧ ((True ∧ True ∧ True ∧ True ∧ True ∧ Z0) ∧ True) ∧ ∀ (l : Nat), (∃ (x : Z56), (Z35 l ∧ Z30 ∧ Z30 ∧ Value.int IntKind.i64 (IntKind.wrap IntKind.i64 (long + Z15)) = Z58 ∧ Z33 = Z80 x ∧ True) ∧ True ∧ Z26 ∧ True ∧ Z53 ∧ Z78 ∧ True ∧ Z114 ∧ Z101 ∧ Z118 ∧ Z38 ∧ (Z33 = Z98 x ∧ True) ∧ (Value.int IntKind.i64 (-Z15) = Z104 x ∧ True) ∧ (Z33 = Z103 x ∧ True) ∧ Z38 ∧ Z47 ∧ True) ∧ ∀ (t : Z56), (Z127 t = true → l = l ∧ True ∧ (Z14 ≤ Z72 t ∧ Z72 t < (↑Z39 : Int) ∧ Z39 < nat_lit 1000) ∧ (Z30 ∧ Z80 t = Z80 t ∧ True) ∧ (Z70 ∧ (True ∧ True ∧ True ∧ True ∧ True ∧ (nat_lit 6 = nat_lit 6 ∧ nat_lit 0 = nat_lit 0 ∧ nat_lit 0 = nat_lit 0 ∧ List.length Z21 = Z39) ∧ True) ∧ True) ∧ Z14 ≤ n ∧ (Z143 t = true → True ∧ True ∧ ∃ (x : Z56), ((Z35 l ∧ Z30 ∧ Z30 ∧ Z93 ∧ Z112 t = Z80 x ∧ True) ∧ True ∧ Z26 ∧ True ∧ Z53 ∧ Z78 ∧ True ∧ Z114 ∧ Z101 ∧ Z118 ∧ Z38 ∧ (Z98 t = Z98 x ∧ True) ∧ (Z104 t = Z104 x ∧ True) ∧ (Z112 t = Z103 x ∧ True) ∧ Z38 ∧ Z9) ∧ Z120 x t) ∧ (Z143 t = false → (Z147 t = true → True ∧ True ∧ ∃ (x : Z56), ((Z35 l ∧ Z30 ∧ Z30 ∧ Z93 ∧ Z112 t = Z80 x ∧ True) ∧ True ∧ Z26 ∧ True ∧ Z53 ∧ Z78 ∧ True ∧ Z114 ∧ Z101 ∧ Z118 ∧ Z38 ∧ (Z103 t = Z98 x ∧ True) ∧ (Z80 t = Z104 x ∧ True) ∧ (Z103 t = Z103 x ∧ True) ∧ Z38 ∧ Z9) ∧ Z120 x t) ∧ (Z147 t = false → True ∧ True ∧ ∃ (x : Z56), ((Z35 l ∧ Z30 ∧ Z30 ∧ Z93 ∧ Z112 t = Z80 x ∧ True) ∧ True ∧ Z26 ∧ True ∧ Z53 ∧ Z78 ∧ True ∧ Z114 ∧ Z101 ∧ Z118 ∧ Z38 ∧ (Z98 t = Z98 x ∧ True) ∧ (Z104 t = Z104 x ∧ True) ∧ (Z103 t = Z103 x ∧ True) ∧ Z38 ∧ Z9) ∧ Z120 x t))) ∧ (Z127 t = false → True ∧ (Z133 t = true → (Z135 t = Z135 t ∧ Z34 = Z34 ∧ True) ∧ True ∧ (true = true → True ∧ True ∧ ((Z98 t = Z64 ∧ Z104 t = Z69 ∧ Z33 = Z71 ∧ True) ∧ True) ∧ Z41) ∧ (true = false → False)) ∧ (Z133 t = false → (Z135 t = Z135 t ∧ Z34 = Z34 ∧ True) ∧ True ∧ True ∧ True ∧ ((Z33 = Z64 ∧ Z33 = Z69 ∧ Z34 = Z71 ∧ True) ∧ True) ∧ Z41))) ∧ (Z102 = false → ((Z45 ∧ Z44 ∧ Z43 ∧ Z67 ∧ True) ∧ (Z50 ∧ Z0) ∧ (Z20 = Z20 ∧ Z29) ∧ True) ∧ (Z26 ∧ Z91 ∧ True) ∧ True ∧ True ∧ ((Z33 = Z64 ∧ Z33 = Z69 ∧ Value.int IntKind.i64 Z73 = Z71 ∧ True) ∧ True) ∧ Z41))
    (by kernel_rfl) ?_
  simp only [eq_self, true_and, and_true, Int.toNat_natCast, Nat.zero_add, Nat.sub_zero, Value.int.injEq, Value.bool.injEq, decide_eq_true_eq, decide_eq_false_iff_not]
  refine ⟨⟨hx, by decide⟩, fun h => ?_, fun h => ?_⟩
  · obtain ⟨hg, ha, _⟩ := open_ok h
    obtain ⟨n0, n1, n2⟩ := n_ok (ground_ok hg)
    have n0' : ((nM ⟨long, rise, change, ps⟩ : Nat) : Int) = long + 1 := n0
    simp only [List.all_cons, List.all_nil, Bool.and_true, askM, inM_iff] at ha
    obtain ⟨a0, a1⟩ := ha
    have hmin : min n.toNat 64 = n.toNat := by omega
    have hW : IntKind.i64.wrap (long + 1) = ((nM ⟨long, rise, change, ps⟩ : Nat) : Int) := by rw [wrap_id (by omega) (by omega)]; omega
    have hl : (boxesM ⟨long, rise, change, ps⟩).length = nM ⟨long, rise, change, ps⟩ := stage_len _ 2
    have e : strOM ⟨long, rise, change, ps⟩ n = strEndM (boxesM ⟨long, rise, change, ps⟩) n (nM ⟨long, rise, change, ps⟩) := by
      have h' : (strErrM ⟨long, rise, change, ps⟩ n == 0) = true := h
      unfold strOM; rw [h']; rfl
    rw [e, hW, hmin]
    clear e hx h hW hg n0
    revert hl n0'
    generalize boxesM ⟨long, rise, change, ps⟩ = l
    generalize nM ⟨long, rise, change, ps⟩ = N at *
    intro hl n0'
    refine fun _ => ⟨⟨⟨0, Nat.zero_le _⟩, ⟨rfl, rfl⟩, rfl, rfl, rfl⟩, fun t => ⟨fun ht => ?_, fun ht => ?_⟩⟩
    · obtain ⟨k, hk⟩ := t
      have hlt : k < N := by have h0 : (k : Int) < (N : Int) := ht; omega
      refine ⟨⟨Int.natCast_nonneg _, by show (k : Int) < _; omega, by omega⟩, a0, fun hy => ⟨⟨k + 1, hlt⟩, ?_, dec1 hlt⟩, fun hy => ⟨fun hz => ⟨⟨k + 1, hlt⟩, ?_, dec1 hlt⟩, fun hz => ⟨⟨k + 1, hlt⟩, ?_, dec1 hlt⟩⟩⟩
      · have hy' : ¬ classesM (l.getD k m0) = W (1 * 2 ^ n.toNat) := by simpa [bne_iff_ne] using hy
        have e := str_no hy'
        exact ⟨sucI k (by omega), (congrArg (fun p => p.1) e).symm, (congrArg (fun p => p.2.1) e).symm, (congrArg (fun p => p.2.2) e).symm⟩
      · have hy' : classesM (l.getD k m0) = W (1 * 2 ^ n.toNat) := by simpa using hy
        have e := str_new hy' hz
        exact ⟨sucI k (by omega), (congrArg (fun p => p.1) e).symm, (congrArg (fun p => p.2.1) e).symm, (congrArg (fun p => p.2.2) e).symm⟩
      · have hy' : classesM (l.getD k m0) = W (1 * 2 ^ n.toNat) := by simpa using hy
        have e := str_old hy' hz
        exact ⟨sucI k (by omega), (congrArg (fun p => p.1) e).symm, (congrArg (fun p => p.2.1) e).symm, (congrArg (fun p => p.2.2) e).symm⟩
    · obtain ⟨k, hk⟩ := t
      have hke : k = N := by have h0 : ¬ (k : Int) < (N : Int) := ht; omega
      subst hke
      refine ⟨fun hz => ⟨fun _ => ?_, fun h => absurd h (by decide)⟩, fun hz => ?_⟩
      · have e : strEndM l n k = ((strAtM l n k).1, (strAtM l n k).2.1, 0) := if_pos hz
        rw [e]; exact ⟨rfl, rfl, rfl⟩
      · have e : strEndM l n k = (0, 0, 4) := if_neg hz
        rw [e]; exact ⟨rfl, rfl, rfl⟩
  · have e : strOM ⟨long, rise, change, ps⟩ n = (0, 0, strErrM ⟨long, rise, change, ps⟩ n) := by
      have h' : (strErrM ⟨long, rise, change, ps⟩ n == 0) = false := h
      unfold strOM; rw [h']; rfl
    rw [e]; exact ⟨rfl, rfl, rfl⟩

theorem strO_sound : Sound Try.prog 21 strOS.con := FSpec.sound _ (enter_of Try.func21 (by kernel_rfl) (by kernel_rfl)) strO_ok
end AE.Soil

namespace AE.Soil
open Go AE Go.Proofs

/-- A ground without one of its pits. -/
def lessM (g : GroundT) (i : Nat) : GroundT := ⟨g.long, g.rise, g.change, g.pits.take i ++ g.pits.drop (i + 1)⟩
def oddAtM (g : GroundT) : Nat → Int
  | 0 => 0
  | i + 1 => if lookM (lessM g i) then orM (oddAtM g i) (W (1 * 2 ^ i)) else oddAtM g i
theorem odd_yes {g : GroundT} {i : Nat} (h : lookM (lessM g i) = true) : oddAtM g (i + 1) = orM (oddAtM g i) (W (1 * 2 ^ i)) := if_pos h
theorem odd_no {g : GroundT} {i : Nat} (h : lookM (lessM g i) = false) : oddAtM g (i + 1) = oddAtM g i := if_neg (by rw [h]; decide)
theorem pits_of {long : Int} (hl : long ≤ 40) : ∀ (l : List PitT) (b : Int), -1 ≤ b → b ≤ 40 → (∀ p ∈ l, b < p.1 ∧ PitOk long p) → (l.Pairwise fun p q => p.1 < q.1) → pitsM long b l = true
  | [], b, _, _, _, _ => rfl
  | q :: l, b, h1, h2, h, hp => by
    obtain ⟨hb, ok⟩ := h q List.mem_cons_self
    obtain ⟨hp1, hp2⟩ := List.pairwise_cons.1 hp
    have hw : W (b + 1) = b + 1 := wrap_id (by omega) (by omega)
    have := pits_of hl l q.1 (by have := ok.at_; omega) (by have := ok.at_; omega) (fun p hp => ⟨hp1 p hp, (h p (List.mem_cons_of_mem _ hp)).2⟩) hp2
    simp only [pitsM, okPitM, Bool.and_eq_true, inM_iff, spanM_iff, hw]
    exact ⟨⟨⟨⟨⟨⟨by omega, ok.at_.2⟩, ok.hard⟩, ok.sand⟩, ok.silt⟩, ok.clay⟩, this⟩
theorem ground_of {g : GroundT} (h : GOk g) : groundM g = true := by
  have := pits_of h.long.2 g.pits (-1) (by omega) (by omega) (fun p hp => ⟨by have := (h.pits p hp).at_; omega, h.pits p hp⟩) h.inc
  have hl := h.len
  simp only [groundM, Bool.and_eq_true, inM_iff, decide_eq_true_eq]
  exact ⟨⟨⟨⟨h.long, h.rise⟩, h.change⟩, by omega⟩, this⟩
theorem less_sub (l : List PitT) (i : Nat) : (l.take i ++ l.drop (i + 1)).Sublist l := by
  have : l.drop (i + 1) = (l.drop i).drop 1 := by rw [List.drop_drop]
  rw [this]
  calc (l.take i ++ (l.drop i).drop 1).Sublist (l.take i ++ l.drop i) := (List.Sublist.refl _).append (List.drop_sublist _ _)
    _ = l := List.take_append_drop i l
theorem less_ok {g : GroundT} (h : GOk g) (i : Nat) : GOk (lessM g i) where
  long := h.long
  rise := h.rise
  change := h.change
  len := Nat.le_trans (less_sub g.pits i).length_le h.len
  pits := fun p hp => h.pits p ((less_sub g.pits i).subset hp)
  inc := h.inc.sublist (less_sub g.pits i)
def oddErrM (g : GroundT) : Int := if groundM g then (if lookM g then 4 else 0) else 1
def oddOM (g : GroundT) : Int × Int := if oddErrM g == 0 then (oddAtM g g.pits.length, 0) else (0, oddErrM g)
def oddL (g : GroundT) : LSpec UU where
  T := { i : Nat // i ≤ g.pits.length }
  fr := fun i => [(1, .ptr 1 0 0 0), (2, .i (oddAtM g i.1)), (3, .ptr 2 0 0 0), (23, .i g.pits.length), (24, .i i.1)]
  H := fun i => [.one (.ro .pit g.pits), .one (.cells (cGround g 0) 24), .one (.cells [.i 0] 29)]
  mu := fun i => g.pits.length - i.1
def Todd : Tab UU := [(51, isGroundS.con), (50, mustS.con), (52, lookS.con)]
theorem Todd_ok : Todd.Sound Try.prog := .cons isGround_sound (.cons must_sound (.cons look_sound .nil))
def oddOS : FSpec UU where
  X := GroundT
  pick := fun args H => match args with
    | [a] => avGround H a
    | _ => none
  args := fun (x : GroundT) => [vGround x 0]
  H := fun (x : GroundT) => [.one (.ro .pit x.pits)]
  R := fun (x : GroundT) => .val ⟨.tup [.i (oddOM x).1, .i (oddOM x).2], [], [], []⟩
  pre := fun (x : GroundT) => x.pits.length < 1000000
set_option maxHeartbeats 0 in
set_option maxRecDepth 100000 in
theorem oddO_ok : ∀ x, oddOS.pre x → FunOk Try.prog 22 (oddOS.args x) (oddOS.H x) (oddOS.R x) := by
  rintro ⟨long, rise, change, ps⟩ hx
  refine fun_ofT (T := Todd) (L := fun _ => some (.inv (oddL ⟨long, rise, change, ps⟩))) (hs := fun _ => []) (sp := fun _ => none) hmix Todd_ok (tdAt_ok told_ok) (it := fun _ => none) (fun _ _ h => by cases h) Try.func22 (by kernel_rfl) (by kernel_rfl) ?_
  refine Eq.mp (α :=
      let Z0 : List DfE := []; let Z1 := !true; let Z2 := !false; let Z3 := GroundT.mk long rise change ps; let Z4 := List.length ps; let Z5 := Value.int IntKind.i64 change; let Z6 := Value.int IntKind.i64 long; let Z7 := Value.int IntKind.i64 rise; let Z8 := true = true; let Z9 := false = true; let Z10 := true = false; let Z11 := nat_lit 0 = nat_lit 0 ∧ nat_lit 0 = nat_lit 0; let Z12 := false = false; let Z13 := (0 : Int); let Z14 := Value.bool Z1; let Z15 := (4 : Int); let Z16 := (1 : Int); let Z17 := (2 : Int); let Z18 := Value.bool Z2; let Z19 := (0 : Nat); let Z20 := (5 : Nat); let Z21 := (2 : Nat); let Z22 := lookM Z3; let Z23 := oddOM Z3; let Z24 : List PitT := GroundT.pits Z3; let Z25 := groundM Z3; let Z26 : List (Int × Span × Span × Span × Span) := List.drop (nat_lit 0) ps; let Z27 := List.length ps; let Z28 := Z10 → False; let Z29 := ps = ps; let Z30 := nat_lit 0 = nat_lit 0 ∧ Z11; let Z31 := AV.ptr Z21 (nat_lit 0) (nat_lit 0) (nat_lit 0); let Z32 := Value.bool Z25; let Z33 := Z29 ∧ True; let Z34 := (↑Z4 : Int); let Z35 := Prod.snd Z23; let Z36 := Prod.fst Z23; let Z37 := Value.int IntKind.i64 Z13; let Z38 := Value.int IntKind.i64 Z15; let Z39 := Value.int IntKind.i64 Z16; let Z40 := Z25 = true; let Z41 := Z30 ∧ True; let Z42 := Z4 = Z4; let Z43 := List.length Z24; let Z44 := True ∧ Z33; let Z45 := Z5 = Z5; let Z46 := Z7 = Z7; let Z47 := Z6 = Z6; let Z48 := Int.toNat Z34; let Z49 := Z41 ∧ True; let Z50 : List (Int × Span × Span × Span × Span) := List.drop Z19 ps; let Z51 := Z14 = Z14; let Z52 := Value.int IntKind.i64 Z36; let Z53 : List AV := [Z31]; let Z54 := Value.int IntKind.i64 Z34; let Z55 := Value.int IntKind.i64 Z35; let Z56 := Z18 = Z18; let Z57 := nat_lit 0 = nat_lit 0 ∧ Z42; let Z58 := Z20 = Z20; let Z59 := True ∧ Z49; let Z60 := fun (i : Nat) => i ≤ Z43; let Z61 := Z13 ≤ Z13; let Z62 := nat_lit 0 = nat_lit 0 ∧ Z57; let Z63 := Z62 ∧ True; let Z64 : Type := { i : Nat // Z60 i }; let Z65 := Z32 = Z32; let Z66 := DfE.call (Fn.func (nat_lit 31)) [] Z53; let Z67 := fun (x : Z64) => Subtype.val x; let Z68 := Z38 = Z38; let Z69 := Z39 = Z39; let Z70 := Z37 = Z37; let Z71 := Z69 ∧ True; let Z72 := Z68 ∧ True; let Z73 := Z70 ∧ True; let Z74 := Z34 ≤ Z34; let Z75 := Z73 ∧ True; let Z76 : List DfE := Z66 :: Z0; let Z77 := Z37 = Z55; let Z78 := Z38 = Z55; let Z79 := Z37 = Z52; let Z80 := fun (x : Z64) => (↑(Z67 x) : Int); let Z81 := fun (x : Z64) => oddAtM Z3 (Z67 x); let Z82 := Z78 ∧ True; let Z83 := Z77 ∧ True; let Z84 := fun (t : Z64) => Int.toNat (Z80 t); let Z85 := Z54 = Z54; let Z86 := fun (x : Z64) => Value.int IntKind.i64 (Z80 x); let Z87 := fun (t : Z64) => BitVec.ofInt (nat_lit 64) (Z81 t); let Z88 := Z45 ∧ Z63; let Z89 := fun (x : Z64) => Value.int IntKind.i64 (Z81 x); let Z90 := fun (t : Z64) => min (Z84 t) (nat_lit 64); let Z91 := fun (x : Z64) => Z4 - Z67 x; let Z92 := fun (t : Z64) => Z13 ≤ Z80 t; let Z93 := fun (t : Z64) => Z84 t - nat_lit 0; let Z94 := Z51 ∧ Z72; let Z95 := Z56 ∧ Z72; let Z96 := fun (t : Z64) => Z80 t < Z34; let Z97 := fun (t : Z64) => Z80 t ≤ Z34; let Z98 := fun (t : Z64) => Z80 t + Z16; let Z99 := fun (x : Z64) => Z37 = Z86 x; let Z100 := fun (t : Z64) => Z84 t - Z19; let Z101 := fun (x : Z64) => Z37 = Z89 x; let Z102 := Z46 ∧ Z88; let Z103 := fun (x : Z64) => Z99 x ∧ True; let Z104 := Z65 ∧ Z71; let Z105 := fun (t : Z64) => IntKind.wrap IntKind.i64 (Z98 t); let Z106 := fun (t : Z64) => nat_lit 0 + Z93 t; let Z107 := fun (t : Z64) => Int.toNat (Z105 t); let Z108 := fun (t : Z64) => Z89 t = Z52; let Z109 := fun (t : Z64) => Value.int IntKind.i64 (Z105 t); let Z110 := fun (t : Z64) => List.take (Z93 t) Z26; let Z111 := fun (t : Z64) => Z17 ^ Z90 t; let Z112 := Z76 = Z76; let Z113 := Z79 ∧ Z82; let Z114 := fun (t : Z64) => Z13 ≤ Z105 t; let Z115 := Z47 ∧ Z102; let Z116 := fun (t : Z64) => nat_lit 0 + Z107 t; let Z117 := Z113 ∧ True; let Z118 := fun (t : Z64) => List.length (Z110 t); let Z119 := fun (t : Z64) => Z106 t ≤ Z27; let Z120 := Z115 ∧ True; let Z121 := fun (t : Z64) => Z105 t ≤ Z34; let Z122 := fun (t : Z64) => Z19 + Z107 t; let Z123 := fun (t : Z64) => List.take (Z100 t) Z50; let Z124 := fun (t : Z64) => List.drop (Z116 t) ps; let Z125 := fun (t : Z64) => Z118 t ≤ nat_lit 1099511627776; let Z126 := fun (t x : Z64) => Z89 t = Z89 x; let Z127 := fun (t : Z64) => Z16 * Z111 t; let Z128 := fun (t : Z64) => Z48 - Z107 t; let Z129 := Z117 ∧ Z44; let Z130 := fun (t : Z64) => List.drop (Z122 t) ps; let Z131 := True ∧ Z129; let Z132 := fun (t : Z64) => IntKind.wrap IntKind.i64 (Z127 t); let Z133 := fun (x t : Z64) => Z91 x < Z91 t; let Z134 := True ∧ Z131; let Z135 := fun (t : Z64) => BitVec.ofInt (nat_lit 64) (Z132 t); let Z136 := True ∧ Z134; let Z137 := fun (x : Z64) => Z85 ∧ Z103 x; let Z138 := fun (t : Z64) => Z108 t ∧ Z83; let Z139 := fun (t : Z64) => Z92 t ∧ Z97 t; let Z140 := fun (t : Z64) => Z138 t ∧ True; let Z141 := fun (t x : Z64) => Z109 t = Z86 x; let Z142 := Z115 ∧ Z75; let Z143 := fun (t x : Z64) => Z141 t x ∧ True; let Z144 := fun (x : Z64) => Z30 ∧ Z137 x; let Z145 := fun (t : Z64) => Z121 t ∧ Z74; let Z146 := fun (t : Z64) => decide (Z96 t); let Z147 := fun (t : Z64) => Z140 t ∧ Z44; let Z148 := Z29 ∧ Z142; let Z149 := fun (t : Z64) => Z146 t = true; let Z150 := fun (t : Z64) => Z146 t = false; let Z151 := fun (t : Z64) => True ∧ Z147 t; let Z152 := fun (t : Z64) => True ∧ Z151 t; let Z153 := fun (t : Z64) => Z61 ∧ Z139 t; let Z154 := fun (t : Z64) => Z8 → Z152 t; let Z155 := Z59 ∧ Z148; let Z156 := fun (t : Z64) => Z154 t ∧ Z28; let Z157 := fun (t x : Z64) => Z85 ∧ Z143 t x; let Z158 := fun (t x : Z64) => Z30 ∧ Z157 t x; let Z159 := fun (x : Z64) => Z101 x ∧ Z144 x; let Z160 := fun (t : Z64) => Z116 t + Z128 t; let Z161 := fun (t : Z64) => List.take (Z128 t) (Z124 t); let Z162 := fun (x : Z64) => Z30 ∧ Z159 x; let Z163 := fun (t : Z64) => Z114 t ∧ Z145 t; let Z164 := fun (t : Z64) => Z87 t ||| Z135 t; let Z165 := fun (t : Z64) => List.take (Z128 t) (Z130 t); let Z166 := fun (t : Z64) => List.length (Z161 t); let Z177 := fun (t : Z64) => Z118 t + Z166 t ≤ nat_lit 1099511627776; let Z178 := fun (t : Z64) => Z110 t ++ Z161 t; let Z181 := fun (t : Z64) => Z123 t ++ Z165 t; let Z182 := fun (t : Z64) => GroundT.mk long rise change (Z181 t); let Z184 := fun (t : Z64) => lookM (Z182 t); let Z189 := ∃ (x : Z64), Z162 x ∧ Z155; let Z194 := fun (t : Z64) => ∃ (x : Z64), ((Z30 ∧ Z126 t x ∧ Z158 t x) ∧ Z155) ∧ Z133 x t; let Z200 := fun (t : Z64) => Z181 t = Z178 t ∧ True; let Z210 := fun (t : Z64) => (Z47 ∧ Z46 ∧ Z45 ∧ (Z58 ∧ nat_lit 0 = nat_lit 0 ∧ nat_lit 0 = nat_lit 0 ∧ List.length (Z178 t) = List.length (Z178 t)) ∧ True) ∧ True; let Z213 := fun (t : Z64) => Z92 t ∧ Z112 ∧ ∃ (x : Z64), ((Z30 ∧ Value.int IntKind.i64 (IntKind.wrap IntKind.i64 (↑(BitVec.toNat (Z164 t)) : Int)) = Z89 x ∧ Z158 t x) ∧ Z155) ∧ Z133 x t; Z4 < nat_lit 1000000 ∧ Z120 ∧ Z33 ∧ True ∧ (Z40 → Z104 ∧ True ∧ Z40 ∧ (Z22 = true → Z120 ∧ Z33 ∧ True ∧ (Z9 → Z94 ∧ True ∧ Z189 ∧ ∀ (t : Z64), (Z149 t → Z153 t ∧ Z119 t ∧ Z125 t ∧ Z163 t ∧ Z160 t ≤ Z27 ∧ Z177 t ∧ groundM (Z182 t) = true ∧ (Z184 t = true → Z210 t ∧ Z200 t ∧ (Z8 → Z213 t) ∧ (Z10 → Z112 ∧ Z194 t)) ∧ (Z184 t = false → Z210 t ∧ Z200 t ∧ (Z9 → Z213 t) ∧ (Z12 → Z112 ∧ Z194 t))) ∧ (Z150 t → Z156 t)) ∧ (Z12 → Z94 ∧ Z136)) ∧ (Z22 = false → Z120 ∧ Z33 ∧ True ∧ (Z8 → Z95 ∧ True ∧ Z189 ∧ ∀ (t : Z64), (Z149 t → Z153 t ∧ Z119 t ∧ Z125 t ∧ Z163 t ∧ Z160 t ≤ Z27 ∧ Z177 t ∧ groundM (Z182 t) = true ∧ (Z184 t = true → Z210 t ∧ Z200 t ∧ (Z8 → Z213 t) ∧ (Z10 → Z112 ∧ Z194 t)) ∧ (Z184 t = false → Z210 t ∧ Z200 t ∧ (Z9 → Z213 t) ∧ (Z12 → Z112 ∧ Z194 t))) ∧ (Z150 t → Z156 t)) ∧ (Z10 → Z95 ∧ Z136))) ∧ (Z25 = false → Z104 ∧ True ∧ True ∧ True ∧ ((Z79 ∧ Z39 = Z55 ∧ True) ∧ True) ∧ Z44))
    (by kernel_rfl) ?_
  simp only [eq_self, true_and, and_true, Int.toNat_natCast, Nat.zero_add, Nat.sub_zero, Value.int.injEq, Value.bool.injEq, decide_eq_true_eq, decide_eq_false_iff_not]
  refine ⟨hx, fun hg => ⟨hg, fun hl => ⟨fun h => absurd h (by decide), fun _ => ?_⟩, fun hl => ⟨fun _ => ⟨⟨⟨0, Nat.zero_le _⟩, rfl, rfl⟩, fun t => ⟨fun ht => ?_, fun ht => ?_⟩⟩, fun h => absurd h (by decide)⟩⟩, fun hg => ?_⟩
  · have e : oddOM ⟨long, rise, change, ps⟩ = (0, 4) := by unfold oddOM oddErrM; rw [hg, hl]; rfl
    rw [e]; exact ⟨rfl, rfl⟩
  · obtain ⟨i, hi⟩ := t
    have hlt : i < ps.length := by have h0 : (i : Int) < (ps.length : Int) := ht; omega
    have hok := ground_ok hg
    have h8 : ps.length ≤ 8 := hok.len
    have hs := sucI i (by omega)
    have hmin : min i 64 = i := by omega
    have hd : (ps.drop (i + 1)).take (ps.length - (i + 1)) = ps.drop (i + 1) := List.take_of_length_le (by rw [List.length_drop]; omega)
    have hless : groundM (lessM ⟨long, rise, change, ps⟩ i) = true := ground_of (less_ok hok i)
    simp only [hs, Int.toNat_natCast, List.drop_zero, hmin, hd]
    have hlen1 : (ps.take i).length ≤ 1099511627776 := by rw [List.length_take]; omega
    have hlen2 : (ps.take i).length + (ps.drop (i + 1)).length ≤ 1099511627776 := by rw [List.length_take, List.length_drop]; omega
    refine ⟨⟨Int.le_refl _, Int.natCast_nonneg _, by omega⟩, by omega, hlen1, ⟨Int.natCast_nonneg _, by omega, Int.le_refl _⟩, by omega, hlen2, hless, fun hk => ⟨fun _ => ⟨Int.natCast_nonneg _, ⟨i + 1, hlt⟩, ⟨?_, rfl⟩, dec1 hlt⟩, fun h => absurd h (by decide)⟩, fun hk => ⟨fun h => absurd h (by decide), fun _ => ⟨⟨i + 1, hlt⟩, ⟨?_, rfl⟩, dec1 hlt⟩⟩⟩
    · exact (odd_yes (g := ⟨long, rise, change, ps⟩) hk).symm
    · exact (odd_no (g := ⟨long, rise, change, ps⟩) hk).symm
  · obtain ⟨i, hi⟩ := t
    have hie : i = ps.length := by have h0 : ¬ (i : Int) < (ps.length : Int) := ht; omega
    subst hie
    have e : oddOM ⟨long, rise, change, ps⟩ = (oddAtM ⟨long, rise, change, ps⟩ ps.length, 0) := by unfold oddOM oddErrM; rw [hg, hl]; rfl
    rw [e]; exact ⟨fun _ => ⟨rfl, rfl⟩, fun h => absurd h (by decide)⟩
  · have e : oddOM ⟨long, rise, change, ps⟩ = (0, 1) := by unfold oddOM oddErrM; rw [hg]; rfl
    rw [e]; exact ⟨rfl, rfl⟩

theorem oddO_sound : Sound Try.prog 22 oddOS.con := FSpec.sound _ (enter_of Try.func22 (by kernel_rfl) (by kernel_rfl)) oddO_ok
end AE.Soil

namespace AE.Soil
open Go AE Go.Proofs

abbrev pA : PitT := (2, (300, 320), (10, 12), (4, 6), 4, 5)
abbrev pB : PitT := (8, (500, 520), (5, 6), (3, 5), 9, 11)
abbrev pC : PitT := (5, (900, 900), (0, 20), (0, 20), 0, 20)
def sampleS : FSpec UU where
  X := Unit
  pick := fun args _ => match args with
    | [] => some ()
    | _ => none
  args := fun _ => []
  H := fun _ => []
  R := fun _ => .val ⟨.agg [.i 10, .i 50, .i 2, .gs 0 0], [], [], [.row .pit [pA, pB] 54]⟩
def Tsample : Tab UU := [(28, lpitS.con)]
theorem Tsample_ok : Tsample.Sound Try.prog := .cons lpit_sound .nil
set_option maxRecDepth 100000 in
theorem sample_ok : ∀ x, sampleS.pre x → FunOk Try.prog 30 (sampleS.args x) (sampleS.H x) (sampleS.R x) := by
  intro x _
  refine fun_of (T := Tsample) (L := fun _ => none) (hs := fun _ => []) hmix Tsample_ok Try.func30 (by kernel_rfl) (by kernel_rfl) ?_
  refine Eq.mp (α :=
      let Z0 := (6 : Int); let Z1 := (5 : Int); let Z2 := (2 : Int); let Z3 := (4 : Int); let Z4 := (3 : Int); let Z5 := (8 : Int); let Z6 := (9 : Int); let Z8 := (10 : Int); let Z9 := (12 : Int); let Z10 := (11 : Int); let Z12 := (500 : Int); let Z13 := (320 : Int); let Z14 := (300 : Int); let Z15 := (520 : Int); let Z16 := Value.int IntKind.i64 Z0; let Z17 := Value.int IntKind.i64 Z6; let Z18 := Value.int IntKind.i64 Z4; let Z19 := Value.int IntKind.i64 Z5; let Z20 := Value.int IntKind.i64 Z1; let Z21 := Value.int IntKind.i64 Z2; let Z22 := Value.int IntKind.i64 Z3; let Z23 := Value.int IntKind.i64 Z8; let Z24 := Value.int IntKind.i64 Z9; let Z25 := Value.int IntKind.i64 Z10; let Z26 := Value.int IntKind.i64 (50 : Int); let Z27 := Value.int IntKind.i64 Z13; let Z28 := Value.int IntKind.i64 Z15; let Z29 := Value.int IntKind.i64 Z12; let Z30 := Value.int IntKind.i64 Z14; let Z35 := AV.v Z20; let Z55 := Z20 = Z20; let Z70 : List (Int × Span × Span × Span × Span) := [(Z2, (Z14, Z13), (Z8, Z9), (Z3, Z0), Z3, Z1), (Z5, (Z12, Z15), (Z1, Z0), (Z4, Z1), Z6, Z10)]; True ∧ (Z21 = Z21 ∧ Z30 = Z30 ∧ Z27 = Z27 ∧ Z23 = Z23 ∧ Z24 = Z24 ∧ Z22 = Z22 ∧ Z16 = Z16 ∧ Z22 = Z22 ∧ Z55 ∧ True) ∧ True ∧ True ∧ (Z19 = Z19 ∧ Z29 = Z29 ∧ Z28 = Z28 ∧ Z55 ∧ Z16 = Z16 ∧ Z18 = Z18 ∧ Z55 ∧ Z17 = Z17 ∧ Z25 = Z25 ∧ True) ∧ True ∧ (nat_lit 2 = nat_lit 2 ∧ AV.v Z21 = AV.v Z21 ∧ AV.v Z30 = AV.v Z30 ∧ AV.v Z27 = AV.v Z27 ∧ AV.v Z23 = AV.v Z23 ∧ AV.v Z24 = AV.v Z24 ∧ AV.v Z22 = AV.v Z22 ∧ AV.v Z16 = AV.v Z16 ∧ AV.v Z22 = AV.v Z22 ∧ Z35 = Z35 ∧ AV.v Z19 = AV.v Z19 ∧ AV.v Z29 = AV.v Z29 ∧ AV.v Z28 = AV.v Z28 ∧ Z35 = Z35 ∧ AV.v Z16 = AV.v Z16 ∧ AV.v Z18 = AV.v Z18 ∧ Z35 = Z35 ∧ AV.v Z17 = AV.v Z17 ∧ AV.v Z25 = AV.v Z25 ∧ True) ∧ True ∧ ((Z23 = Z23 ∧ Z26 = Z26 ∧ Z21 = Z21 ∧ nat_lit 0 = nat_lit 0 ∧ True) ∧ True) ∧ True ∧ (nat_lit 54 = (54 : TypeId) ∧ Z70 = Z70) ∧ True)
    (by kernel_rfl) ?_
  simp

theorem sample_sound : Sound Try.prog 30 sampleS.con := FSpec.sound _ (enter_of Try.func30 (by kernel_rfl) (by kernel_rfl)) sample_ok
theorem c1 : hardOM ⟨10, 50, 2, [pA, pB]⟩ 5 = ((350, 470), 0) := by decide +kernel
theorem c2 : partsOM ⟨10, 50, 2, [pA, pB]⟩ 5 = (((4, 12), (0, 11), 3, 11), 0) := by decide +kernel
theorem c3 : classOM ⟨10, 50, 2, [pA, pB]⟩ 3 = (3, 0) := by decide +kernel
theorem c4 : strOM ⟨10, 50, 2, [pA, pB]⟩ 3 = (8, 8, 0) := by decide +kernel
theorem c5 : workOM ⟨10, 50, 2, [pA, pB]⟩ 4 6 = ((1050, 1410), 0) := by decide +kernel
theorem c6 : digOM ⟨10, 50, 2, [pA, pB]⟩ = (0, 220, 0) := by decide +kernel
theorem c7 : oddOM ⟨10, 50, 2, [pA, pC, pB]⟩ = (2, 0) := by decide +kernel
def awakeS : FSpec UU where
  X := Unit
  pick := fun args _ => match args with
    | [] => some ()
    | _ => none
  args := fun _ => []
  H := fun _ => []
  R := fun _ => .val ⟨.b true, [], [], []⟩
def Tawake : Tab UU := [(30, sampleS.con), (28, lpitS.con), (23, lspanS.con), (9, hardOS.con), (11, partsOS.con), (13, classOS.con), (21, strOS.con), (15, workOS.con), (29, digOS.con), (22, oddOS.con)]
theorem Tawake_ok : Tawake.Sound Try.prog := .cons sample_sound (.cons lpit_sound (.cons lspan_sound (.cons hardO_sound (.cons partsO_sound (.cons classO_sound (.cons strO_sound (.cons workO_sound (.cons digO_sound (.cons oddO_sound .nil)))))))))
set_option maxHeartbeats 0 in
set_option maxRecDepth 100000 in
theorem awake_ok : ∀ x, awakeS.pre x → FunOk Try.prog 8 (awakeS.args x) (awakeS.H x) (awakeS.R x) := by
  intro x _
  refine fun_of (T := Tawake) (L := fun _ => none) (hs := fun _ => []) hmix Tawake_ok Try.func8 (by kernel_rfl) (by kernel_rfl) ?_
  refine Eq.mp (α :=
      let Z0 := True ∧ True; let Z1 := Value.bool true; let Z2 := Value.bool false; let Z3 := nat_lit 2 < nat_lit 1000000; let Z4 := (↑(nat_lit 2) : Int); let Z5 := nat_lit 0 = nat_lit 0 ∧ nat_lit 2 = nat_lit 2; let Z6 := (0 : Int); let Z7 := (6 : Int); let Z8 := (9 : Int); let Z9 := (2 : Int); let Z10 := (5 : Int); let Z11 := (4 : Int); let Z12 := (3 : Int); let Z13 := (1 : Int); let Z14 := (8 : Int); let Z15 : List (Int × Span × Span × Span × Span) := []; let Z16 := (50 : Int); let Z17 := (11 : Int); let Z18 := (12 : Int); let Z19 := (10 : Int); let Z20 := (20 : Int); let Z21 := (1 : Nat); let Z22 := (0 : Nat); let Z23 := (900 : Int); let Z24 := (350 : Int); let Z25 := (320 : Int); let Z26 := (500 : Int); let Z27 := (520 : Int); let Z28 := (470 : Int); let Z29 := (300 : Int); let Z30 := (220 : Int); let Z31 := (13 : Nat); let Z32 := (1050 : Int); let Z33 := (1410 : Int); let Z34 := nat_lit 0 = nat_lit 0 ∧ Z5; let Z35 := Value.int IntKind.i64 Z11; let Z36 := Value.int IntKind.i64 Z10; let Z37 := Value.int IntKind.i64 Z9; let Z38 := Value.int IntKind.i64 Z12; let Z39 := Value.int IntKind.i64 Z6; let Z40 := Value.int IntKind.i64 Z7; let Z41 := Z1 = Z2; let Z42 := Value.int IntKind.i64 Z20; let Z43 := Value.int IntKind.i64 Z19; let Z44 := Value.int IntKind.i64 Z16; let Z45 := Value.int IntKind.i64 Z17; let Z46 := Value.int IntKind.i64 Z18; let Z47 := Value.int IntKind.i64 Z28; let Z48 := Value.int IntKind.i64 Z23; let Z49 := Value.int IntKind.i64 Z24; let Z50 := Value.int IntKind.i64 Z32; let Z51 := Value.int IntKind.i64 Z33; let Z52 := AV.v Z39; let Z53 := AV.v Z36; let Z54 := AV.v Z42; let Z55 := AV.v Z48; let Z56 := Z41 ∧ True; let Z57 := (Z6, Z6); let Z58 := (Z11, Z7); let Z59 := (Z11, Z10); let Z60 := (Z12, Z10); let Z61 := (Z10, Z7); let Z62 := (Z6, Z20); let Z63 := (Z8, Z17); let Z64 := (Z19, Z18); let Z65 := Z56 ∧ Z0; let Z66 := (Z29, Z25); let Z67 := (Z23, Z23); let Z68 := (Z26, Z27); let Z69 := True ∧ Z65; let Z70 := Z36 = Z36; let Z71 := Z37 = Z37; let Z72 := Z39 = Z39; let Z73 := Z35 = Z35; let Z74 := Z38 = Z38; let Z75 := Z45 = Z45; let Z76 := Z44 = Z44; let Z77 := Z42 = Z42; let Z78 := Z43 = Z43; let Z79 := Z48 = Z48; let Z80 := Z74 ∧ True; let Z81 := Z52 = Z52; let Z82 := Z70 ∧ True; let Z83 := Z54 = Z54; let Z84 := Z75 ∧ True; let Z85 := Z55 = Z55; let Z86 := (Z58, Z59); let Z87 := (Z57, Z57); let Z88 := (Z60, Z63); let Z89 := (Z62, Z62); let Z90 := (Z57, Z87); let Z91 := (Z61, Z88); let Z92 := (Z64, Z86); let Z93 := (Z62, Z89); let Z94 := (Z57, Z90); let Z95 := (Z68, Z91); let Z96 := (Z66, Z92); let Z97 := (Z67, Z93); let Z98 := (Z6, Z94); let Z99 := (Z14, Z95); let Z100 := (Z9, Z96); let Z101 := (Z10, Z97); let Z102 : List (Int × Span × Span × Span × Span) := Z99 :: Z15; let Z103 : List (Int × Span × Span × Span × Span) := Z100 :: Z102; let Z104 := GroundT.mk Z19 Z16 Z9 Z103; let Z105 := digOM Z104; let Z106 := Prod.fst Z105; let Z107 := Prod.snd Z105; let Z108 := strOM Z104 Z12; let Z109 := hardOM Z104 Z10; let Z110 := partsOM Z104 Z10; let Z111 := classOM Z104 Z12; let Z112 := Prod.fst Z107; let Z113 := Prod.snd Z107; let Z114 := Prod.fst Z111; let Z115 := Prod.snd Z111; let Z116 := Prod.snd Z109; let Z117 := Prod.fst Z109; let Z118 := Prod.snd Z110; let Z119 := Prod.fst Z110; let Z120 := Prod.snd Z108; let Z121 := Prod.fst Z108; let Z122 := workOM Z104 Z11 Z7; let Z123 := Prod.snd Z117; let Z124 := Prod.fst Z117; let Z125 := Prod.fst Z120; let Z126 := Prod.snd Z120; let Z127 := Prod.fst Z122; let Z128 := Prod.snd Z122; let Z129 := Prod.snd Z119; let Z130 := Prod.fst Z119; let Z131 := Prod.fst Z127; let Z132 := Prod.snd Z127; let Z133 := Z106 == Z6; let Z134 := Prod.fst Z130; let Z135 := Prod.snd Z130; let Z136 := Prod.snd Z129; let Z137 := Prod.fst Z129; let Z138 := Z113 == Z6; let Z139 := Z114 != Z12; let Z140 := Z115 != Z6; let Z141 := Z112 == Z30; let Z142 := Z116 != Z6; let Z143 := Z118 != Z6; let Z144 := Z121 != Z14; let Z145 := Prod.snd Z137; let Z146 := Prod.snd Z136; let Z147 := Prod.fst Z136; let Z149 := Z125 != Z14; let Z150 := Z126 != Z6; let Z151 := Z124 == Z24; let Z153 := Z128 == Z6; let Z154 := Z123 == Z28 && true; let Z155 := Z131 == Z32; let Z157 := Z134 == Z11; let Z159 := Z132 == Z33 && true; let Z160 := Z135 == Z18 && true; let Z161 := Prod.fst Z137 == Z6; let Z162 := Z147 == Z12; let Z165 := Z145 == Z17 && true; let Z166 := Z146 == Z17 && true; let Z167 := List.getD Z103 (nat_lit 0) Z98; let Z168 := List.getD Z103 (nat_lit 1) Z98; let Z169 := List.getD Z103 Z21 Z98; let Z170 := List.getD Z103 Z22 Z98; let Z171 := Prod.snd Z167; let Z172 := Prod.snd Z168; let Z173 := Prod.fst Z170; let Z174 := Prod.fst Z169; let Z175 := Prod.snd Z169; let Z176 := Prod.snd Z170; let Z177 := Prod.fst Z172; let Z178 := Prod.fst Z171; let Z179 := Prod.snd Z172; let Z180 := Prod.snd Z171; let Z183 := Prod.snd Z175; let Z184 := Prod.fst Z176; let Z185 := Prod.snd Z176; let Z186 := Prod.fst Z175; let Z187 := Value.int IntKind.i64 (Prod.fst Z177); let Z188 := Value.int IntKind.i64 (Prod.fst Z178); let Z189 := Prod.fst Z180; let Z190 := Prod.snd Z179; let Z191 := Prod.snd Z180; let Z192 := Prod.fst Z179; let Z199 := Prod.snd Z190; let Z200 := Prod.snd Z191; let Z201 := Prod.fst Z191; let Z202 := Prod.fst Z190; let Z203 := Prod.snd Z183; let Z204 := Prod.fst Z183; let Z205 := Prod.snd Z185; let Z206 := Prod.fst Z185; let Z207 := Value.int IntKind.i64 (Prod.fst Z189); let Z208 := Value.int IntKind.i64 (Prod.fst Z192); let Z217 := Prod.snd Z205; let Z218 := Prod.fst Z205; let Z219 := Prod.fst Z203; let Z220 := Prod.snd Z203; let Z221 := Value.int IntKind.i64 (Prod.fst Z202); let Z222 := Value.int IntKind.i64 (Prod.fst Z200); let Z223 := Value.int IntKind.i64 (Prod.fst Z199); let Z224 := Value.int IntKind.i64 (Prod.fst Z201); let Z234 := Z103 = Z103 ∧ True; let Z262 : List (Int × Span × Span × Span × Span) := (Z173, (Prod.fst Z178, Prod.snd Z184), (Prod.fst Z189, Prod.snd Z206), (Prod.fst Z201, Prod.snd Z218), Prod.fst Z200, Prod.snd Z217) :: Z101 :: (Z174, (Prod.fst Z177, Prod.snd Z186), (Prod.fst Z192, Prod.snd Z204), (Prod.fst Z202, Prod.snd Z219), Prod.fst Z199, Prod.snd Z220) :: Z15; let Z263 := GroundT.mk Z19 Z16 Z9 Z262; let Z266 := Prod.fst (oddOM Z263) == Z9; True ∧ True ∧ True ∧ Z3 ∧ ((Z78 ∧ Z76 ∧ Z71 ∧ (nat_lit 0 = nat_lit 0 ∧ Z34) ∧ True) ∧ Z82) ∧ Z234 ∧ True ∧ True ∧ True ∧ Z3 ∧ ((Z78 ∧ Z76 ∧ Z71 ∧ (nat_lit 2 = nat_lit 2 ∧ Z34) ∧ True) ∧ Z82) ∧ Z234 ∧ True ∧ True ∧ True ∧ Z3 ∧ ((Z78 ∧ Z76 ∧ Z71 ∧ (nat_lit 6 = nat_lit 6 ∧ Z34) ∧ True) ∧ Z80) ∧ Z234 ∧ True ∧ True ∧ True ∧ Z3 ∧ ((Z78 ∧ Z76 ∧ Z71 ∧ (nat_lit 7 = nat_lit 7 ∧ Z34) ∧ True) ∧ Z80) ∧ Z234 ∧ True ∧ True ∧ True ∧ Z3 ∧ ((Z78 ∧ Z76 ∧ Z71 ∧ (nat_lit 8 = nat_lit 8 ∧ Z34) ∧ True) ∧ Z73 ∧ Z40 = Z40 ∧ True) ∧ Z234 ∧ True ∧ True ∧ True ∧ Z3 ∧ ((Z78 ∧ Z76 ∧ Z71 ∧ (nat_lit 10 = nat_lit 10 ∧ Z34) ∧ True) ∧ True) ∧ Z234 ∧ True ∧ True ∧ True ∧ (Z6 ≤ Z6 ∧ Z6 < Z4) ∧ nat_lit 0 < nat_lit 2 ∧ True ∧ (Z70 ∧ Z79 ∧ Z79 ∧ Z72 ∧ Z77 ∧ Z72 ∧ Z77 ∧ Z72 ∧ Z77 ∧ True) ∧ True ∧ (Z6 ≤ Z13 ∧ Z13 < Z4) ∧ nat_lit 1 < nat_lit 2 ∧ (nat_lit 3 = nat_lit 3 ∧ AV.v (Value.int IntKind.i64 (Prod.fst Z167)) = AV.v (Value.int IntKind.i64 Z173) ∧ AV.v Z188 = AV.v Z188 ∧ AV.v (Value.int IntKind.i64 (Prod.snd Z178)) = AV.v (Value.int IntKind.i64 (Prod.snd Z184)) ∧ AV.v Z207 = AV.v Z207 ∧ AV.v (Value.int IntKind.i64 (Prod.snd Z189)) = AV.v (Value.int IntKind.i64 (Prod.snd Z206)) ∧ AV.v Z224 = AV.v Z224 ∧ AV.v (Value.int IntKind.i64 (Prod.snd Z201)) = AV.v (Value.int IntKind.i64 (Prod.snd Z218)) ∧ AV.v Z222 = AV.v Z222 ∧ AV.v (Value.int IntKind.i64 (Prod.snd Z200)) = AV.v (Value.int IntKind.i64 (Prod.snd Z217)) ∧ Z53 = Z53 ∧ Z85 ∧ Z85 ∧ Z81 ∧ Z83 ∧ Z81 ∧ Z83 ∧ Z81 ∧ Z83 ∧ AV.v (Value.int IntKind.i64 (Prod.fst Z168)) = AV.v (Value.int IntKind.i64 Z174) ∧ AV.v Z187 = AV.v Z187 ∧ AV.v (Value.int IntKind.i64 (Prod.snd Z177)) = AV.v (Value.int IntKind.i64 (Prod.snd Z186)) ∧ AV.v Z208 = AV.v Z208 ∧ AV.v (Value.int IntKind.i64 (Prod.snd Z192)) = AV.v (Value.int IntKind.i64 (Prod.snd Z204)) ∧ AV.v Z221 = AV.v Z221 ∧ AV.v (Value.int IntKind.i64 (Prod.snd Z202)) = AV.v (Value.int IntKind.i64 (Prod.snd Z219)) ∧ AV.v Z223 = AV.v Z223 ∧ AV.v (Value.int IntKind.i64 (Prod.snd Z199)) = AV.v (Value.int IntKind.i64 (Prod.snd Z220)) ∧ True) ∧ nat_lit 3 < nat_lit 1000000 ∧ ((Z78 ∧ Z76 ∧ Z71 ∧ (Z31 = Z31 ∧ nat_lit 0 = nat_lit 0 ∧ nat_lit 0 = nat_lit 0 ∧ nat_lit 3 = nat_lit 3) ∧ True) ∧ True) ∧ (Z262 = Z262 ∧ True) ∧ True ∧ (Z49 = Z49 ∧ Z47 = Z47 ∧ True) ∧ True ∧ ((!(Z151 && Z154)) = true → Z69) ∧ ((!(Z151 && Z154)) = false → (Z142 = true → Z69) ∧ (Z142 = false → True ∧ (Z73 ∧ Z46 = Z46 ∧ True) ∧ True ∧ ((!(Z157 && Z160)) = true → Z69) ∧ ((!(Z157 && Z160)) = false → True ∧ (Z72 ∧ Z84) ∧ True ∧ ((!(Z161 && Z165)) = true → Z69) ∧ ((!(Z161 && Z165)) = false → True ∧ (Z74 ∧ Z84) ∧ True ∧ ((!(Z162 && Z166)) = true → Z69) ∧ ((!(Z162 && Z166)) = false → (Z143 = true → Z69) ∧ (Z143 = false → (Z139 = true → Z69) ∧ (Z139 = false → (Z140 = true → Z69) ∧ (Z140 = false → (Z144 = true → Z69) ∧ (Z144 = false → (Z149 = true → Z69) ∧ (Z149 = false → (Z150 = true → Z69) ∧ (Z150 = false → True ∧ (Z50 = Z50 ∧ Z51 = Z51 ∧ True) ∧ True ∧ ((Z155 && Z159) = true → (Z153 = true → (Z133 = true → (Z141 = true → (Z138 = true → (Z266 = true → True ∧ (Value.bool (Prod.snd (oddOM Z263) == Z6) = Z1 ∧ True) ∧ Z0) ∧ (Z266 = false → Z69)) ∧ (Z138 = false → Z69)) ∧ (Z141 = false → Z69)) ∧ (Z133 = false → Z69)) ∧ (Z153 = false → Z69)) ∧ ((Z155 && Z159) = false → Z69)))))))))))))
    (by kernel_rfl) ?_
  simp only [eq_self, true_and, and_true, Int.toNat_natCast, Nat.zero_add, Nat.sub_zero, Value.int.injEq, Value.bool.injEq, decide_eq_true_eq, decide_eq_false_iff_not]
  simp only [c1, c2, c3, c4, c5, c6]
  simp
  exact ⟨fun _ => congrArg Prod.snd c7, congrArg Prod.fst c7⟩

theorem awake_sound : Sound Try.prog 8 awakeS.con := FSpec.sound _ (enter_of Try.func8 (by kernel_rfl) (by kernel_rfl)) awake_ok
end AE.Soil

namespace AE.Soil
open Go AE Go.Proofs

theorem getD_mem {α : Type} {l : List α} {i : Nat} (d : α) (h : i < l.length) : l.getD i d ∈ l := by
  rw [List.getD_eq_getElem?_getD, List.getElem?_eq_getElem h]; exact List.getElem_mem h
def drawM (by' : List Int) (at' n : Int) : Int := (by'.getD ((at' + 1) % (by'.length : Int)).toNat 0 + 53 * (at' + 1)) % n
def okBy (l : List Int) : Prop := (0 < l.length ∧ l.length < 9223372036854775808) ∧ ∀ x ∈ l, 0 ≤ x ∧ x ≤ 65535
def avBy (H : Heap UU) (id : Nat) : Option (List Int) := match blkAt H id 0 with
  | some (.cells [a] _) => sliceAt .u16 H a
  | some (.rc [a] _) => sliceAt .u16 H a
  | _ => none
def avAt (H : Heap UU) (id : Nat) : Option Int := match blkAt H id 0 with
  | some (.cells [a] _) => avInt a
  | _ => none
def drawS : FSpec UU where
  X := Int × Int × List Int
  pick := fun args H => match args with
    | [n, .ptr i 0 0 0, .ptr j 0 0 0] => match avInt n, avAt H i, avBy H j with
      | some n, some a, some l => some (n, a, l)
      | _, _, _ => none
    | _ => none
  args := fun x => [.i x.1, .ptr 0 0 0 0, .ptr 1 0 0 0]
  H := fun x => [.one (.cells [.i x.2.1] 3), .one (.rc [.sl 2 0 0 x.2.2.length] 38), .one (.ro .u16 x.2.2)]
  R := fun x => .val ⟨.i (drawM x.2.2 x.2.1 x.1), [(0, 0, .cells [.i (x.2.1 + 1)] 3)], [], []⟩
  pre := fun x => (0 < x.1 ∧ x.1 < 100000) ∧ (0 ≤ x.2.1 ∧ x.2.1 < 1000000) ∧ okBy x.2.2
set_option maxHeartbeats 0 in
set_option maxRecDepth 100000 in
theorem draw_ok : ∀ x, drawS.pre x → FunOk Try.prog 45 (drawS.args x) (drawS.H x) (drawS.R x) := by
  rintro ⟨n, a, l⟩ hx
  refine fun_of (T := []) (L := fun _ => none) (hs := fun _ => []) hmix .nil Try.func45 (by kernel_rfl) (by kernel_rfl) ?_
  refine Eq.mp (α :=
      let Z0 := List.length l; let Z1 := (0 : Int); let Z3 := (↑Z0 : Int); let Z4 := a + (1 : Int); let Z5 := IntKind.wrap IntKind.i64 Z4; let Z6 := Int.tmod Z5 Z3; let Z8 := nat_lit 0 + Int.toNat Z6; Z3 ≠ Z1 ∧ (Z1 ≤ Z6 ∧ Z6 < Z3) ∧ Z8 < List.length l ∧ n ≠ Z1 ∧ True ∧ (Value.int IntKind.i64 (Int.tmod (IntKind.wrap IntKind.i64 (IntKind.wrap IntKind.i64 (List.getD l Z8 Z1) + IntKind.wrap IntKind.i64 ((53 : Int) * Z5))) n) = Value.int IntKind.i64 (drawM l a n) ∧ True) ∧ True ∧ (Value.int IntKind.i64 Z5 = Value.int IntKind.i64 Z4 ∧ True) ∧ ((nat_lit 0 = nat_lit 0 ∧ nat_lit 0 = nat_lit 0 ∧ Z0 = Z0) ∧ True) ∧ l = l ∧ True)
    (by kernel_rfl) ?_
  simp only [eq_self, true_and, and_true, Int.toNat_natCast, Nat.zero_add, Nat.sub_zero, Value.int.injEq, Value.bool.injEq, decide_eq_true_eq, decide_eq_false_iff_not]
  obtain ⟨⟨hn0, hn1⟩, ⟨ha0, ha1⟩, ⟨hl0, hl1⟩, hv⟩ := hx
  have hn0' : 0 < n := hn0
  have hn1' : n < 100000 := hn1
  have ha0' : 0 ≤ a := ha0
  have ha1' : a < 1000000 := ha1
  have hl0' : 0 < l.length := hl0
  have e1 : IntKind.i64.wrap (a + 1) = a + 1 := wrap_id (by omega) (by omega)
  have e2 : (a + 1).tmod (l.length : Int) = (a + 1) % (l.length : Int) := Int.tmod_eq_emod_of_nonneg (by omega)
  have hm0 := Int.emod_nonneg (a + 1) (show ((l.length : Nat) : Int) ≠ 0 by omega)
  have hm1 := Int.emod_lt_of_pos (a + 1) (show (0 : Int) < ((l.length : Nat) : Int) by omega)
  have hlt : ((a + 1) % (l.length : Int)).toNat < l.length := by omega
  have hx := hv _ (getD_mem 0 hlt)
  have hx0 : 0 ≤ l.getD ((a + 1) % (l.length : Int)).toNat 0 ∧ l.getD ((a + 1) % (l.length : Int)).toNat 0 ≤ 65535 := hx
  rw [e1, e2]
  refine ⟨by omega, ⟨hm0, hm1⟩, hlt, by omega, ?_, rfl⟩
  unfold drawM
  generalize l.getD ((a + 1) % (l.length : Int)).toNat 0 = v at *
  rw [wrap_id (x := 53 * (a + 1)) (by omega) (by omega), wrap_id (x := v) (by omega) (by omega), wrap_id (by omega) (by omega)]
  exact Int.tmod_eq_emod_of_nonneg (by omega)

theorem draw_sound : Sound Try.prog 45 drawS.con := FSpec.sound _ (enter_of Try.func45 (by kernel_rfl) (by kernel_rfl)) draw_ok
theorem drawM_lt (l : List Int) (a : Int) {n : Int} (h : 0 < n) : 0 ≤ drawM l a n ∧ drawM l a n < n := ⟨Int.emod_nonneg _ (by omega), Int.emod_lt_of_pos _ h⟩
def drawsS : FSpec UU where
  X := List Int
  pick := fun args H => match args with
    | [a] => sliceAt .u16 H a
    | _ => none
  args := fun (x : List Int) => [.sl 0 0 0 x.length]
  H := fun x => [.one (.ro .u16 x)]
  R := fun (x : List Int) => .val ⟨.fn (.func 45) [] [.ptr 2 0 0 0, .ptr 1 0 0 0], [], [], [.cells [.sl 0 0 0 x.length] 38, .cells [.i 0] 3]⟩
set_option maxRecDepth 100000 in
theorem draws_ok : ∀ x, drawsS.pre x → FunOk Try.prog 18 (drawsS.args x) (drawsS.H x) (drawsS.R x) := by
  intro (x : List Int) _
  refine fun_of (T := []) (L := fun _ => none) (hs := fun _ => []) hmix .nil Try.func18 (by kernel_rfl) (by kernel_rfl) ?_
  refine Eq.mp (α :=
      let Z0 := nat_lit 0 = nat_lit 0 ∧ nat_lit 0 = nat_lit 0; let Z3 := Value.int IntKind.i64 (0 : Int); True ∧ ((Fn.func (nat_lit 45) = Fn.func (45 : FuncId) ∧ True ∧ (nat_lit 0 = nat_lit 0 ∧ Z0) ∧ (nat_lit 0 = nat_lit 0 ∧ Z0) ∧ True) ∧ True) ∧ True ∧ x = x ∧ ((nat_lit 0 = nat_lit 0 ∧ nat_lit 0 = nat_lit 0 ∧ List.length x = List.length x) ∧ True) ∧ (Z3 = Z3 ∧ True) ∧ True)
    (by kernel_rfl) ?_
  simp

theorem draws_sound : Sound Try.prog 18 drawsS.con := FSpec.sound _ (enter_of Try.func18 (by kernel_rfl) (by kernel_rfl)) draws_ok
/-! ### a span around a number -/
def aroundM (l : List Int) (a n wide high : Int) : Span := (max 0 (n - drawM l a wide), min high (n + drawM l (a + 1) wide))
def avDr (H : Heap UU) (id : Nat) : Option (Int × List Int) := match blkAt H id 0 with
  | some (.cells [.fn (.func 45) [] [.ptr i 0 0 0, .ptr j 0 0 0]] _) => match avAt H i, avBy H j with
    | some a, some l => some (a, l)
    | _, _ => none
  | some (.rc [.fn (.func 45) [] [.ptr i 0 0 0, .ptr j 0 0 0]] _) => match avAt H i, avBy H j with
    | some a, some l => some (a, l)
    | _, _ => none
  | _ => none
structure AQ where
  n : Int
  wide : Int
  high : Int
  a : Int
  l : List Int
def aroundS : FSpec UU where
  X := AQ
  pick := fun args H => match args with
    | [n, w, h, .ptr i 0 0 0] => match avInt n, avInt w, avInt h, avDr H i with
      | some n, some w, some h, some (a, l) => some ⟨n, w, h, a, l⟩
      | _, _, _, _ => none
    | _ => none
  args := fun x => [.i x.n, .i x.wide, .i x.high, .ptr 0 0 0 0]
  H := fun x => [.one (.rc [.fn (.func 45) [] [.ptr 1 0 0 0, .ptr 2 0 0 0]] 43), .one (.cells [.i x.a] 3), .one (.rc [.sl 3 0 0 x.l.length] 38), .one (.ro .u16 x.l)]
  R := fun x => .val ⟨vSpan (aroundM x.l x.a x.n x.wide x.high), [(1, 0, .cells [.i (x.a + 2)] 3)], [], []⟩
  pre := fun x => ((0 < x.wide ∧ x.wide < 100) ∧ (0 ≤ x.n ∧ x.n ≤ 1000)) ∧ (0 ≤ x.a ∧ x.a < 900000) ∧ okBy x.l
def Taround : Tab UU := [(45, drawS.con), (23, lspanS.con)]
theorem Taround_ok : Taround.Sound Try.prog := .cons draw_sound (.cons lspan_sound .nil)
set_option maxHeartbeats 0 in
set_option maxRecDepth 100000 in
theorem around_ok : ∀ x, aroundS.pre x → FunOk Try.prog 44 (aroundS.args x) (aroundS.H x) (aroundS.R x) := by
  rintro ⟨n, w, h, a, l⟩ hx
  refine fun_of (T := Taround) (L := fun _ => none) (hs := fun _ => [1]) hmix Taround_ok Try.func44 (by kernel_rfl) (by kernel_rfl) ?_
  refine Eq.mp (α :=
      let Z0 := List.length l; let Z2 := Value.int IntKind.i64 w; let Z3 := aroundM l a n w h; let Z5 := (1 : Int); let Z6 := (0 : Int); let Z7 := (45 : FuncId); let Z8 := (65535 : Int); let Z9 := l = l; let Z11 := nat_lit 0 < Z0; let Z12 := (1000000 : Int); let Z14 := nat_lit 0 = nat_lit 0 ∧ nat_lit 0 = nat_lit 0 ∧ nat_lit 0 = nat_lit 0; let Z19 := Z6 < w; let Z20 := Z0 < nat_lit 9223372036854775808; let Z21 := fun (x : Int) => x ∈ l; let Z25 := w < (100000 : Int); let Z27 := a + Z5; let Z28 := nat_lit 0 = nat_lit 0 ∧ nat_lit 0 = nat_lit 0 ∧ Z0 = Z0; let Z32 := Value.int IntKind.i64 Z27; let Z40 := Value.int IntKind.i64 (max Z6 (IntKind.wrap IntKind.i64 (n - drawM l a w))); let Z46 := Value.int IntKind.i64 (min h (IntKind.wrap IntKind.i64 (n + drawM l Z27 w))); ((Z19 ∧ Z25) ∧ (Z6 ≤ a ∧ a < Z12) ∧ (Z11 ∧ Z20) ∧ ∀ (x : Int), Z21 x → Z6 ≤ x ∧ x ≤ Z8) ∧ (Z2 = Z2 ∧ Z14 ∧ Z14 ∧ True) ∧ ((Value.int IntKind.i64 a = Value.int IntKind.i64 a ∧ True) ∧ (Z28 ∧ True) ∧ Z9 ∧ True) ∧ ((Z19 ∧ Z25) ∧ (Z6 ≤ Z27 ∧ Z27 < Z12) ∧ (Z11 ∧ Z20) ∧ ∀ (x : Int), Z21 x → Z6 ≤ x ∧ x ≤ Z8) ∧ (Z2 = Z2 ∧ Z14 ∧ Z14 ∧ True) ∧ ((Z32 = Z32 ∧ True) ∧ (Z28 ∧ True) ∧ Z9 ∧ True) ∧ True ∧ (Z40 = Z40 ∧ Z46 = Z46 ∧ True) ∧ True ∧ True ∧ ((Z40 = Value.int IntKind.i64 (Prod.fst Z3) ∧ Z46 = Value.int IntKind.i64 (Prod.snd Z3) ∧ True) ∧ True) ∧ True ∧ ((Fn.func Z7 = Fn.func Z7 ∧ True ∧ Z14 ∧ Z14 ∧ True) ∧ True) ∧ (Value.int IntKind.i64 (Z27 + Z5) = Value.int IntKind.i64 (a + (2 : Int)) ∧ True) ∧ (Z28 ∧ True) ∧ Z9 ∧ True)
    (by kernel_rfl) ?_
  simp only [eq_self, true_and, and_true, Int.toNat_natCast, Nat.zero_add, Nat.sub_zero, Value.int.injEq, Value.bool.injEq, decide_eq_true_eq, decide_eq_false_iff_not]
  obtain ⟨⟨⟨w0, w1⟩, n0, n1⟩, ⟨a0, a1⟩, hby⟩ := hx
  have w0' : 0 < w := w0
  have w1' : w < 100 := w1
  have n0' : 0 ≤ n := n0
  have n1' : n ≤ 1000 := n1
  have a0' : 0 ≤ a := a0
  have a1' : a < 900000 := a1
  have d1 := drawM_lt l a w0'
  have d2 := drawM_lt l (a + 1) w0'
  rw [show IntKind.i64.wrap (n - drawM l a w) = n - drawM l a w from wrap_id (by omega) (by omega), show IntKind.i64.wrap (n + drawM l (a + 1) w) = n + drawM l (a + 1) w from wrap_id (by omega) (by omega)]
  exact ⟨⟨⟨w0', by omega⟩, ⟨a0', by omega⟩, hby⟩, ⟨⟨w0', by omega⟩, ⟨by omega, by omega⟩, hby⟩, ⟨rfl, rfl⟩, by omega⟩

theorem around_sound : Sound Try.prog 44 aroundS.con := FSpec.sound _ (enter_of Try.func44 (by kernel_rfl) (by kernel_rfl)) around_ok
/-! ### inside -/
def insideM (s : Span) (n : Int) : Bool := decide (s.1 ≤ n) && decide (n ≤ s.2)
def insideS : FSpec UU where
  X := Span × Int
  pick := fun args _ => match args with
    | [.agg [a, b], n] => match avInt a, avInt b, avInt n with
      | some a, some b, some n => some ((a, b), n)
      | _, _, _ => none
    | _ => none
  args := fun x => [vSpan x.1, .i x.2]
  H := fun _ => []
  R := fun x => .val ⟨.b (insideM x.1 x.2), [], [], []⟩
set_option maxRecDepth 100000 in
theorem inside_ok : ∀ x, insideS.pre x → FunOk Try.prog 19 (insideS.args x) (insideS.H x) (insideS.R x) := by
  rintro ⟨⟨a, b⟩, n⟩ _
  refine fun_of (T := []) (L := fun _ => none) (hs := fun _ => []) hmix .nil Try.func19 (by kernel_rfl) (by kernel_rfl) ?_
  refine Eq.mp (α :=
      let Z1 := insideM (a, b) n; let Z3 := decide (a ≤ n); (Z3 = true → True ∧ (Value.bool (decide (n ≤ b)) = Value.bool Z1 ∧ True) ∧ True ∧ True) ∧ (Z3 = false → True ∧ (Value.bool Z1 = Value.bool false ∧ True) ∧ True ∧ True))
    (by kernel_rfl) ?_
  simp [insideM]
  exact ⟨fun h _ => h, fun h1 h2 => absurd h2 (by omega)⟩

theorem inside_sound : Sound Try.prog 19 insideS.con := FSpec.sound _ (enter_of Try.func19 (by kernel_rfl) (by kernel_rfl)) inside_ok
/-! ### the class of a mix -/
def rclayM (m : Int × Int) : Int := W (W (20 - m.1) - m.2)
def rclayS : FSpec UU where
  X := Int × Int
  pick := fun args _ => match args with
    | [.agg [a, b]] => match avInt a, avInt b with
      | some a, some b => some (a, b)
      | _, _ => none
    | _ => none
  args := fun x => [.agg [.i x.1, .i x.2]]
  H := fun _ => []
  R := fun x => .val ⟨.i (rclayM x), [], [], []⟩
set_option maxRecDepth 100000 in
theorem rclay_ok : ∀ x, rclayS.pre x → FunOk Try.prog 38 (rclayS.args x) (rclayS.H x) (rclayS.R x) := by
  rintro ⟨a, b⟩ _
  refine fun_of (T := []) (L := fun _ => none) (hs := fun _ => []) hmix .nil Try.func38 (by kernel_rfl) (by kernel_rfl) ?_
  refine Eq.mp (α :=
      True ∧ (Value.int IntKind.i64 (IntKind.wrap IntKind.i64 (IntKind.wrap IntKind.i64 ((20 : Int) - a) - b)) = Value.int IntKind.i64 (rclayM (a, b)) ∧ True) ∧ True ∧ True)
    (by kernel_rfl) ?_
  simp [rclayM]

theorem rclay_sound : Sound Try.prog 38 rclayS.con := FSpec.sound _ (enter_of Try.func38 (by kernel_rfl) (by kernel_rfl)) rclay_ok
def rofM (m : Int × Int) : Int := if rclayM m ≥ 8 then 3 else if m.1 ≥ 14 then 1 else if m.2 ≥ 12 then 2 else 0
def rofS : FSpec UU where
  X := Int × Int
  pick := fun args _ => match args with
    | [.agg [a, b]] => match avInt a, avInt b with
      | some a, some b => some (a, b)
      | _, _ => none
    | _ => none
  args := fun x => [.agg [.i x.1, .i x.2]]
  H := fun _ => []
  R := fun x => .val ⟨.i (rofM x), [], [], []⟩
def Trof : Tab UU := [(38, rclayS.con)]
theorem Trof_ok : Trof.Sound Try.prog := .cons rclay_sound .nil
set_option maxRecDepth 100000 in
theorem rof_ok : ∀ x, rofS.pre x → FunOk Try.prog 46 (rofS.args x) (rofS.H x) (rofS.R x) := by
  rintro ⟨a, b⟩ _
  refine fun_of (T := Trof) (L := fun _ => none) (hs := fun _ => []) hmix Trof_ok Try.func46 (by kernel_rfl) (by kernel_rfl) ?_
  refine Eq.mp (α :=
      let Z0 := True ∧ True; let Z1 := (a, b); let Z7 := Value.int IntKind.i64 (rofM Z1); let Z11 := decide (a ≥ (14 : Int)); let Z12 := decide (b ≥ (12 : Int)); let Z13 := decide (rclayM Z1 ≥ (8 : Int)); True ∧ ((Value.int IntKind.i64 a = Value.int IntKind.i64 a ∧ Value.int IntKind.i64 b = Value.int IntKind.i64 b ∧ True) ∧ True) ∧ True ∧ (Z13 = true → True ∧ (Value.int IntKind.i64 (3 : Int) = Z7 ∧ True) ∧ Z0) ∧ (Z13 = false → (Z11 = true → True ∧ (Value.int IntKind.i64 (1 : Int) = Z7 ∧ True) ∧ Z0) ∧ (Z11 = false → (Z12 = true → True ∧ (Value.int IntKind.i64 (2 : Int) = Z7 ∧ True) ∧ Z0) ∧ (Z12 = false → True ∧ (Value.int IntKind.i64 (0 : Int) = Z7 ∧ True) ∧ Z0))))
    (by kernel_rfl) ?_
  simp only [eq_self, true_and, and_true, Int.toNat_natCast, Nat.zero_add, Nat.sub_zero, Value.int.injEq, Value.bool.injEq, decide_eq_true_eq, decide_eq_false_iff_not]
  unfold rofM
  refine ⟨fun h => (if_pos h).symm, fun h => ⟨fun h1 => ?_, fun h1 => ⟨fun h2 => ?_, fun h2 => ?_⟩⟩⟩
  · rw [if_neg h, if_pos h1]
  · rw [if_neg h, if_neg h1, if_pos h2]
  · rw [if_neg h, if_neg h1, if_neg h2]

theorem rof_sound : Sound Try.prog 46 rofS.con := FSpec.sound _ (enter_of Try.func46 (by kernel_rfl) (by kernel_rfl)) rof_ok
abbrev Pl4 := Int × Int × Int × Int
def vPlace (p : Pl4) : AV := .agg [.i p.1, .i p.2.1, .i p.2.2.1, .i p.2.2.2]
def pclassS : FSpec UU where
  X := Pl4
  pick := fun args _ => match args with
    | [.agg [a, b, c, d]] => match avInt a, avInt b, avInt c, avInt d with
      | some a, some b, some c, some d => some (a, b, c, d)
      | _, _, _, _ => none
    | _ => none
  args := fun x => [vPlace x]
  H := fun _ => []
  R := fun x => .val ⟨.i (rofM (x.2.1, x.2.2.1)), [], [], []⟩
def Tpclass : Tab UU := [(46, rofS.con)]
theorem Tpclass_ok : Tpclass.Sound Try.prog := .cons rof_sound .nil
set_option maxRecDepth 100000 in
theorem pclass_ok : ∀ x, pclassS.pre x → FunOk Try.prog 20 (pclassS.args x) (pclassS.H x) (pclassS.R x) := by
  rintro ⟨a, b, c, d⟩ _
  refine fun_of (T := Tpclass) (L := fun _ => none) (hs := fun _ => []) hmix Tpclass_ok Try.func20 (by kernel_rfl) (by kernel_rfl) ?_
  refine Eq.mp (α :=
      let Z1 := Value.int IntKind.i64 (rofM (b, c)); True ∧ ((Value.int IntKind.i64 b = Value.int IntKind.i64 b ∧ Value.int IntKind.i64 c = Value.int IntKind.i64 c ∧ True) ∧ True) ∧ True ∧ True ∧ (Z1 = Z1 ∧ True) ∧ True ∧ True)
    (by kernel_rfl) ?_
  simp only [eq_self, true_and, and_true, Int.toNat_natCast, Nat.zero_add, Nat.sub_zero, Value.int.injEq, Value.bool.injEq, decide_eq_true_eq, decide_eq_false_iff_not]

theorem pclass_sound : Sound Try.prog 20 pclassS.con := FSpec.sound _ (enter_of Try.func20 (by kernel_rfl) (by kernel_rfl)) pclass_ok
end AE.Soil

namespace AE.Soil
open Go AE Go.Proofs

def avGr2 (H : Heap UU) : List AV → Option (GroundT × Int)
  | [a, b] => match avGround H a, avInt b with
    | some a, some b => some (a, b)
    | _, _ => none
  | _ => none
def rAtS : FSpec UU where
  X := GroundT × Int
  pick := fun args H => avGr2 H args
  args := fun x => [vGround x.1 0, .i x.2]
  H := fun x => [.one (.ro .pit x.1.pits)]
  R := fun x => .val ⟨.b (inM x.2 0 x.1.long), [], [], []⟩
def Trin : Tab UU := [(53, withinS.con)]
theorem Trin_ok : Trin.Sound Try.prog := .cons rin_sound .nil
set_option maxRecDepth 100000 in
theorem rAt_ok : ∀ x, rAtS.pre x → FunOk Try.prog 35 (rAtS.args x) (rAtS.H x) (rAtS.R x) := by
  rintro ⟨⟨long, rise, change, ps⟩, n⟩ _
  refine fun_of (T := Trin) (L := fun _ => none) (hs := fun _ => []) hmix Trin_ok Try.func35 (by kernel_rfl) (by kernel_rfl) ?_
  refine Eq.mp (α :=
      let Z0 := (0 : Int); let Z2 := Value.int IntKind.i64 Z0; True ∧ (Value.int IntKind.i64 n = Value.int IntKind.i64 n ∧ Z2 = Z2 ∧ Value.int IntKind.i64 long = Value.int IntKind.i64 long ∧ True) ∧ True ∧ True ∧ (Value.bool (inM n Z0 long) = Value.bool (inM n Z0 long) ∧ True) ∧ True ∧ ps = ps ∧ True)
    (by kernel_rfl) ?_
  simp only [eq_self, true_and, and_true, Int.toNat_natCast, Nat.zero_add, Nat.sub_zero, Value.int.injEq, Value.bool.injEq, decide_eq_true_eq, decide_eq_false_iff_not]

theorem rAt_sound : Sound Try.prog 35 rAtS.con := FSpec.sound _ (enter_of Try.func35 (by kernel_rfl) (by kernel_rfl)) rAt_ok
/-! ### powers of two, sets -/
def powL (n : Nat) : LSpec UU where
  T := { i : Nat // i ≤ n }
  fr := fun i => [(0, .i n), (3, .i ((2 ^ i.1 : Nat) : Int)), (4, .i i.1)]
  H := fun _ => []
  mu := fun i => n - i.1
def powS : FSpec UU where
  X := Nat
  pick := fun args _ => match args with
    | [a] => match avInt a with
      | some a => some a.toNat
      | none => none
    | _ => none
  args := fun (n : Nat) => [.i n]
  H := fun _ => []
  R := fun (n : Nat) => .val ⟨.i ((2 ^ n : Nat) : Int), [], [], []⟩
  pre := fun (n : Nat) => n ≤ 3
set_option maxRecDepth 100000 in
theorem pow_ok : ∀ x, powS.pre x → FunOk Try.prog 62 (powS.args x) (powS.H x) (powS.R x) := by
  intro (n : Nat) hn
  refine fun_of (T := []) (L := fun _ => some (.inv (powL n))) (hs := fun _ => []) hmix .nil Try.func62 (by kernel_rfl) (by kernel_rfl) ?_
  refine Eq.mp (α :=
      let Z1 := (↑n : Int); let Z2 := (1 : Int); let Z3 : Type := { i : Nat // i ≤ n }; let Z4 := Value.int IntKind.i64 Z1; let Z5 := fun (x : Z3) => Subtype.val x; let Z6 := fun (x : Z3) => (↑(Z5 x) : Int); let Z7 := fun (x : Z3) => n - Z5 x; let Z12 := fun (x : Z3) => (↑(nat_lit 2 ^ Z5 x) : Int); let Z13 := fun (x : Z3) => Value.int IntKind.i64 (Z12 x); let Z14 := fun (t : Z3) => decide (Z6 t < Z1); (∃ (x : Z3), (Z4 = Z4 ∧ Value.int IntKind.i64 Z2 = Z13 x ∧ Value.int IntKind.i64 (0 : Int) = Value.int IntKind.i64 (Z6 x) ∧ True) ∧ True ∧ True) ∧ ∀ (t : Z3), (Z14 t = true → True ∧ ∃ (x : Z3), ((Z4 = Z4 ∧ Value.int IntKind.i64 (IntKind.wrap IntKind.i64 ((2 : Int) * Z12 t)) = Z13 x ∧ Value.int IntKind.i64 (IntKind.wrap IntKind.i64 (Z6 t + Z2)) = Value.int IntKind.i64 (Z6 x) ∧ True) ∧ True ∧ True) ∧ Z7 x < Z7 t) ∧ (Z14 t = false → True ∧ (Z13 t = Value.int IntKind.i64 (↑(nat_lit 2 ^ n) : Int) ∧ True) ∧ True ∧ True))
    (by kernel_rfl) ?_
  simp only [eq_self, true_and, and_true, Int.toNat_natCast, Nat.zero_add, Nat.sub_zero, Value.int.injEq, Value.bool.injEq, decide_eq_true_eq, decide_eq_false_iff_not]
  have hn' : n ≤ 3 := hn
  refine ⟨⟨⟨0, Nat.zero_le _⟩, rfl, rfl⟩, fun t => ⟨fun ht => ?_, fun ht => ?_⟩⟩
  · obtain ⟨i, hi⟩ := t
    have hlt : i < n := by have h0 : (i : Int) < (n : Int) := ht; omega
    have hp : 2 ^ i ≤ 2 ^ 3 := Nat.pow_le_pow_right (by decide) (by omega)
    refine ⟨⟨i + 1, hlt⟩, ⟨?_, sucI i (by omega)⟩, dec1 hlt⟩
    show W (2 * ((2 ^ i : Nat) : Int)) = ((2 ^ (i + 1) : Nat) : Int)
    rw [Nat.pow_succ]
    revert hp
    generalize 2 ^ i = q
    intro hp
    rw [show W (2 * (q : Int)) = 2 * (q : Int) from wrap_id (by omega) (by omega)]; omega
  · obtain ⟨i, hi⟩ := t
    have hie : i = n := by have h0 : ¬ (i : Int) < (n : Int) := ht; omega
    subst hie; rfl

theorem pow_sound : Sound Try.prog 62 powS.con := FSpec.sound _ (enter_of Try.func62 (by kernel_rfl) (by kernel_rfl)) pow_ok
def rhasM (s : Int) (n : Nat) : Bool := Int.tmod (W (Int.tdiv s ((2 ^ n : Nat) : Int))) 2 == 1
def rhasS : FSpec UU where
  X := Int × Nat
  pick := fun args _ => match args with
    | [a, b] => match avInt a, avInt b with
      | some a, some b => some (a, b.toNat)
      | _, _ => none
    | _ => none
  args := fun x => [.i x.1, .i (x.2 : Nat)]
  H := fun _ => []
  R := fun x => .val ⟨.b (rhasM x.1 x.2), [], [], []⟩
  pre := fun x => x.2 ≤ 3 ∧ 0 ≤ x.1 ∧ x.1 ≤ 100
def Tpow : Tab UU := [(62, powS.con)]
theorem Tpow_ok : Tpow.Sound Try.prog := .cons pow_sound .nil
set_option maxRecDepth 100000 in
theorem rhas_ok : ∀ x, rhasS.pre x → FunOk Try.prog 61 (rhasS.args x) (rhasS.H x) (rhasS.R x) := by
  rintro ⟨s, n⟩ hx
  refine fun_of (T := Tpow) (L := fun _ => none) (hs := fun _ => []) hmix Tpow_ok Try.func61 (by kernel_rfl) (by kernel_rfl) ?_
  refine Eq.mp (α :=
      let Z0 := (↑n : Int); let Z1 := (2 : Int); let Z2 := (0 : Int); let Z3 := Int.toNat Z0; let Z5 := (↑(nat_lit 2 ^ Z3) : Int); Z3 ≤ nat_lit 3 ∧ (Value.int IntKind.i64 Z0 = Value.int IntKind.i64 (↑Z3 : Int) ∧ True) ∧ True ∧ Z5 ≠ Z2 ∧ Z1 ≠ Z2 ∧ True ∧ (Value.bool (Int.tmod (IntKind.wrap IntKind.i64 (Int.tdiv s Z5)) Z1 == (1 : Int)) = Value.bool (rhasM s n) ∧ True) ∧ True ∧ True)
    (by kernel_rfl) ?_
  simp only [eq_self, true_and, and_true, Int.toNat_natCast, Nat.zero_add, Nat.sub_zero, Value.int.injEq, Value.bool.injEq, decide_eq_true_eq, decide_eq_false_iff_not]
  obtain ⟨h1, h2, h3⟩ := hx
  have hp := Nat.pow_pos (n := n) (show 0 < 2 by decide)
  exact ⟨h1, by omega, by decide, rfl⟩

theorem rhas_sound : Sound Try.prog 61 rhasS.con := FSpec.sound _ (enter_of Try.func61 (by kernel_rfl) (by kernel_rfl)) rhas_ok
def joinM (s : Span) (n : Int) : Span := (min s.1 n, max s.2 n)
def joinS : FSpec UU where
  X := Span × Int
  pick := fun args _ => match args with
    | [.agg [a, b], n] => match avInt a, avInt b, avInt n with
      | some a, some b, some n => some ((a, b), n)
      | _, _, _ => none
    | _ => none
  args := fun x => [vSpan x.1, .i x.2]
  H := fun _ => []
  R := fun x => .val ⟨vSpan (joinM x.1 x.2), [], [], []⟩
set_option maxRecDepth 100000 in
theorem join_ok : ∀ x, joinS.pre x → FunOk Try.prog 39 (joinS.args x) (joinS.H x) (joinS.R x) := by
  rintro ⟨⟨a, b⟩, n⟩ _
  refine fun_of (T := []) (L := fun _ => none) (hs := fun _ => []) hmix .nil Try.func39 (by kernel_rfl) (by kernel_rfl) ?_
  refine Eq.mp (α :=
      let Z0 := joinM (a, b) n; True ∧ ((Value.int IntKind.i64 (min a n) = Value.int IntKind.i64 (Prod.fst Z0) ∧ Value.int IntKind.i64 (max b n) = Value.int IntKind.i64 (Prod.snd Z0) ∧ True) ∧ True) ∧ True ∧ True)
    (by kernel_rfl) ?_
  simp only [eq_self, true_and, and_true, Int.toNat_natCast, Nat.zero_add, Nat.sub_zero, Value.int.injEq, Value.bool.injEq, decide_eq_true_eq, decide_eq_false_iff_not]
  simp [joinM]

theorem join_sound : Sound Try.prog 39 joinS.con := FSpec.sound _ (enter_of Try.func39 (by kernel_rfl) (by kernel_rfl)) join_ok
/-! ### near and fits -/
abbrev M2 := Int × Int
def rnearM (c : Int) (a b : M2) : Bool := inM (W (a.1 - b.1)) (W (0 - c)) c && inM (W (a.2 - b.2)) (W (0 - c)) c && inM (W (rclayM a - rclayM b)) (W (0 - c)) c
structure NQ where
  g : GroundT
  a : M2
  b : M2
def rnearS : FSpec UU where
  X := NQ
  pick := fun args H => match args with
    | [g, .agg [a, b], .agg [c, d]] => match avGround H g, avInt a, avInt b, avInt c, avInt d with
      | some g, some a, some b, some c, some d => some ⟨g, (a, b), (c, d)⟩
      | _, _, _, _, _ => none
    | _ => none
  args := fun x => [vGround x.g 0, .agg [.i x.a.1, .i x.a.2], .agg [.i x.b.1, .i x.b.2]]
  H := fun x => [.one (.ro .pit x.g.pits)]
  R := fun x => .val ⟨.b (rnearM x.g.change x.a x.b), [], [], []⟩
def Trnear : Tab UU := [(53, withinS.con), (38, rclayS.con)]
theorem Trnear_ok : Trnear.Sound Try.prog := .cons rin_sound (.cons rclay_sound .nil)
set_option maxRecDepth 100000 in
theorem rnear_ok : ∀ x, rnearS.pre x → FunOk Try.prog 71 (rnearS.args x) (rnearS.H x) (rnearS.R x) := by
  rintro ⟨⟨long, rise, change, ps⟩, ⟨a, b⟩, ⟨c, d⟩⟩ _
  refine fun_of (T := Trnear) (L := fun _ => none) (hs := fun _ => []) hmix Trnear_ok Try.func71 (by kernel_rfl) (by kernel_rfl) ?_
  refine Eq.mp (α :=
      let Z0 := (c, d); let Z1 := (a, b); let Z2 := Value.int IntKind.i64 change; let Z6 := ps = ps; let Z12 := Z2 = Z2; let Z15 := IntKind.wrap IntKind.i64 (b - d); let Z16 := IntKind.wrap IntKind.i64 (a - c); let Z18 := Value.int IntKind.i64 Z16; let Z19 := Value.int IntKind.i64 Z15; let Z20 := Value.bool (rnearM change Z1 Z0) = Value.bool false; let Z21 := IntKind.wrap IntKind.i64 ((0 : Int) - change); let Z24 := Value.int IntKind.i64 Z21; let Z25 := IntKind.wrap IntKind.i64 (rclayM Z1 - rclayM Z0); let Z26 := Value.int IntKind.i64 Z25; let Z31 := Z24 = Z24; True ∧ (Z18 = Z18 ∧ Z31 ∧ Z12 ∧ True) ∧ True ∧ (inM Z16 Z21 change = true → True ∧ (Z19 = Z19 ∧ Z31 ∧ Z12 ∧ True) ∧ True ∧ (inM Z15 Z21 change = true → True ∧ ((Value.int IntKind.i64 a = Value.int IntKind.i64 a ∧ Value.int IntKind.i64 b = Value.int IntKind.i64 b ∧ True) ∧ True) ∧ True ∧ True ∧ ((Value.int IntKind.i64 c = Value.int IntKind.i64 c ∧ Value.int IntKind.i64 d = Value.int IntKind.i64 d ∧ True) ∧ True) ∧ True ∧ True ∧ (Z26 = Z26 ∧ Z31 ∧ Z12 ∧ True) ∧ True ∧ True ∧ (Value.bool (inM Z25 Z21 change) = Value.bool (rnearM change Z1 Z0) ∧ True) ∧ True ∧ Z6 ∧ True) ∧ (inM Z15 Z21 change = false → True ∧ (Z20 ∧ True) ∧ True ∧ Z6 ∧ True)) ∧ (inM Z16 Z21 change = false → True ∧ (Z20 ∧ True) ∧ True ∧ Z6 ∧ True))
    (by kernel_rfl) ?_
  simp only [eq_self, true_and, and_true, Int.toNat_natCast, Nat.zero_add, Nat.sub_zero, Value.int.injEq, Value.bool.injEq, decide_eq_true_eq, decide_eq_false_iff_not]
  unfold rnearM
  dsimp only
  generalize inM (W (a - c)) (W (0 - change)) change = x
  generalize inM (W (b - d)) (W (0 - change)) change = y
  generalize inM (W (rclayM (a, b) - rclayM (c, d))) (W (0 - change)) change = z
  revert x y z; decide

theorem rnear_sound : Sound Try.prog 71 rnearS.con := FSpec.sound _ (enter_of Try.func71 (by kernel_rfl) (by kernel_rfl)) rnear_ok
def rfit1M (k : Int) (m : M2) (p : PitT) : Bool := !(p.1 == k) || (inM m.1 p.2.2.1.1 p.2.2.1.2 && inM m.2 p.2.2.2.1.1 p.2.2.2.1.2 && inM (rclayM m) p.2.2.2.2.1 p.2.2.2.2.2)
def rfitM (l : List PitT) (k : Int) (m : M2) : Bool := l.all (rfit1M k m)
def rfitL (g : GroundT) (k : Int) (m : M2) : LSpec UU where
  T := { i : Nat // i ≤ g.pits.length ∧ (g.pits.take i).all (rfit1M k m) = true }
  fr := fun i => [(1, .i k), (3, .ptr 1 0 0 0), (5, .ptr 2 0 0 0), (7, .i i.1)]
  H := fun _ => [.one (.ro .pit g.pits), .one (.cells (cGround g 0) 24), .one (.cells [.i m.1, .i m.2] 84)]
  mu := fun i => g.pits.length - i.1
structure FQ where
  g : GroundT
  k : Int
  m : M2
def rfitS : FSpec UU where
  X := FQ
  pick := fun args H => match args with
    | [g, k, .agg [a, b]] => match avGround H g, avInt k, avInt a, avInt b with
      | some g, some k, some a, some b => some ⟨g, k, (a, b)⟩
      | _, _, _, _ => none
    | _ => none
  args := fun x => [vGround x.g 0, .i x.k, .agg [.i x.m.1, .i x.m.2]]
  H := fun x => [.one (.ro .pit x.g.pits)]
  R := fun x => .val ⟨.b (rfitM x.g.pits x.k x.m), [], [], []⟩
  pre := fun x => x.g.pits.length < 1000
set_option maxHeartbeats 0 in
set_option maxRecDepth 100000 in
theorem rfit_ok : ∀ x, rfitS.pre x → FunOk Try.prog 72 (rfitS.args x) (rfitS.H x) (rfitS.R x) := by
  rintro ⟨⟨long, rise, change, ps⟩, k, ⟨a, b⟩⟩ hx
  refine fun_of (T := Trnear) (L := fun _ => some (.inv (rfitL ⟨long, rise, change, ps⟩ k (a, b)))) (hs := fun _ => []) hmix Trnear_ok Try.func72 (by kernel_rfl) (by kernel_rfl) ?_
  refine Eq.mp (α :=
      let Z0 := Value.bool false; let Z1 := (a, b); let Z2 := GroundT.mk long rise change ps; let Z3 := List.length ps; let Z4 := Value.int IntKind.i64 b; let Z5 := Value.int IntKind.i64 rise; let Z6 := Value.int IntKind.i64 k; let Z7 := Value.int IntKind.i64 long; let Z8 := Value.int IntKind.i64 a; let Z9 := Value.int IntKind.i64 change; let Z10 := nat_lit 0 = nat_lit 0 ∧ nat_lit 0 = nat_lit 0; let Z11 := (1 : Int); let Z12 := (0 : Int); let Z13 := rclayM Z1; let Z14 : List PitT := GroundT.pits Z2; let Z15 := ps = ps; let Z16 := rfitM ps k Z1; let Z17 := nat_lit 0 = nat_lit 0 ∧ Z10; let Z18 := Z15 ∧ True; let Z20 := (↑Z3 : Int); let Z21 := Value.int IntKind.i64 Z13; let Z24 := True ∧ Z18; let Z28 := Z8 = Z8; let Z31 := Z4 = Z4; let Z34 := (Z12, Z12); let Z36 := Value.bool Z16 = Z0; let Z50 : Type := { i : Nat // i ≤ List.length Z14 ∧ List.all (List.take i Z14) (rfit1M k Z1) = true }; let Z51 := fun (x : Z50) => Subtype.val x; let Z52 := fun (x : Z50) => (↑(Z51 x) : Int); let Z57 := fun (x : Z50) => Z3 - Z51 x; let Z58 := fun (t : Z50) => nat_lit 0 + Int.toNat (Z52 t); let Z71 := fun (t : Z50) => decide (Z52 t < Z20); let Z75 := fun (t : Z50) => List.getD ps (Z58 t) (Z12, Z34, Z34, Z34, Z34); let Z78 := fun (t : Z50) => Prod.fst (Z75 t) == k; let Z79 := fun (t : Z50) => Prod.snd (Prod.snd (Z75 t)); let Z80 := fun (t : Z50) => Prod.snd (Z79 t); let Z81 := fun (t : Z50) => Prod.fst (Z79 t); let Z82 := fun (t : Z50) => Prod.fst (Z81 t); let Z83 := fun (t : Z50) => Prod.snd (Z81 t); let Z84 := fun (t : Z50) => Prod.snd (Z80 t); let Z85 := fun (t : Z50) => Prod.fst (Z80 t); let Z88 := fun (t : Z50) => Prod.fst (Z85 t); let Z89 := fun (t : Z50) => Prod.fst (Z84 t); let Z90 := fun (t : Z50) => Prod.snd (Z84 t); let Z91 := fun (t : Z50) => Prod.snd (Z85 t); let Z104 := fun (t : Z50) => ∃ (x : Z50), ((Z6 = Z6 ∧ Z17 ∧ Z17 ∧ Value.int IntKind.i64 (IntKind.wrap IntKind.i64 (Z52 t + Z11)) = Value.int IntKind.i64 (Z52 x) ∧ True) ∧ True ∧ Z15 ∧ (Z7 = Z7 ∧ Z5 = Z5 ∧ Z9 = Z9 ∧ (nat_lit 0 = nat_lit 0 ∧ nat_lit 0 = nat_lit 0 ∧ Z3 = Z3) ∧ True) ∧ (Z28 ∧ Z31 ∧ True) ∧ True) ∧ Z57 x < Z57 t; (∃ (x : Z50), (Z6 = Z6 ∧ Z17 ∧ Z17 ∧ Value.int IntKind.i64 Z12 = Value.int IntKind.i64 (Z52 x) ∧ True) ∧ True ∧ Z15 ∧ (Z7 = Z7 ∧ Z5 = Z5 ∧ Z9 = Z9 ∧ (nat_lit 0 = nat_lit 0 ∧ nat_lit 0 = nat_lit 0 ∧ Z3 = Z3) ∧ True) ∧ (Z28 ∧ Z31 ∧ True) ∧ True) ∧ ∀ (t : Z50), (Z71 t = true → (Z12 ≤ Z52 t ∧ Z52 t < Z20) ∧ Z58 t < List.length ps ∧ (Z78 t = true → True ∧ (Z28 ∧ Value.int IntKind.i64 (Z82 t) = Value.int IntKind.i64 (Z82 t) ∧ Value.int IntKind.i64 (Z83 t) = Value.int IntKind.i64 (Z83 t) ∧ True) ∧ True ∧ ((!inM a (Z82 t) (Z83 t)) = true → True ∧ (Z36 ∧ True) ∧ Z24) ∧ ((!inM a (Z82 t) (Z83 t)) = false → True ∧ (Z31 ∧ Value.int IntKind.i64 (Z88 t) = Value.int IntKind.i64 (Z88 t) ∧ Value.int IntKind.i64 (Z91 t) = Value.int IntKind.i64 (Z91 t) ∧ True) ∧ True ∧ ((!inM b (Z88 t) (Z91 t)) = true → True ∧ (Z36 ∧ True) ∧ Z24) ∧ ((!inM b (Z88 t) (Z91 t)) = false → True ∧ ((Z28 ∧ Z31 ∧ True) ∧ True) ∧ True ∧ True ∧ (Z21 = Z21 ∧ Value.int IntKind.i64 (Z89 t) = Value.int IntKind.i64 (Z89 t) ∧ Value.int IntKind.i64 (Z90 t) = Value.int IntKind.i64 (Z90 t) ∧ True) ∧ True ∧ ((!inM Z13 (Z89 t) (Z90 t)) = true → True ∧ (Z36 ∧ True) ∧ Z24) ∧ ((!inM Z13 (Z89 t) (Z90 t)) = false → True ∧ Z104 t)))) ∧ (Z78 t = false → True ∧ Z104 t)) ∧ (Z71 t = false → True ∧ (Value.bool Z16 = Value.bool true ∧ True) ∧ Z24))
    (by kernel_rfl) ?_
  simp only [eq_self, true_and, and_true, Int.toNat_natCast, Nat.zero_add, Nat.sub_zero, Value.int.injEq, Value.bool.injEq, decide_eq_true_eq, decide_eq_false_iff_not]
  have hxl : ps.length < 1000 := hx
  refine ⟨⟨⟨0, Nat.zero_le _, rfl⟩, rfl⟩, fun t => ⟨fun ht => ?_, fun ht => ?_⟩⟩
  · obtain ⟨i, hi, ha⟩ := t
    have hlt : i < ps.length := by have h0 : (i : Int) < (ps.length : Int) := ht; omega
    have bad : rfit1M k (a, b) (ps.getD i pit0) = false → rfitM ps k (a, b) = false := fun h => by
      unfold rfitM
      rw [List.all_eq_false]
      exact ⟨_, getD_mem pit0 hlt, by rw [h]; decide⟩
    have good : rfit1M k (a, b) (ps.getD i pit0) = true → ∃ x : { i // i ≤ ps.length ∧ (ps.take i).all (rfit1M k (a, b)) = true }, IntKind.i64.wrap ((i : Int) + 1) = (x.1 : Int) ∧ ps.length - x.1 < ps.length - i := fun h =>
      ⟨⟨i + 1, hlt, by rw [take_snoc ps i hlt pit0, List.all_append, ha, List.all_cons, h]; rfl⟩, sucI i (by omega), dec1 hlt⟩
    have e : rfit1M k (a, b) (ps.getD i pit0) = (!((ps.getD i pit0).1 == k) || (inM a (ps.getD i pit0).2.2.1.1 (ps.getD i pit0).2.2.1.2 && inM b (ps.getD i pit0).2.2.2.1.1 (ps.getD i pit0).2.2.2.1.2 && inM (rclayM (a, b)) (ps.getD i pit0).2.2.2.2.1 (ps.getD i pit0).2.2.2.2.2)) := rfl
    refine ⟨⟨Int.natCast_nonneg _, ht⟩, hlt, ?_⟩
    rw [e] at bad good
    revert bad good
    generalize (∃ x : { i // i ≤ ps.length ∧ (ps.take i).all (rfit1M k (a, b)) = true }, IntKind.i64.wrap ((i : Int) + 1) = (x.1 : Int) ∧ ps.length - x.1 < ps.length - i) = Q
    generalize (rfitM ps k (a, b) = false) = F
    generalize ((ps.getD i pit0).1 == k) = q0
    generalize inM a (ps.getD i pit0).2.2.1.1 (ps.getD i pit0).2.2.1.2 = q1
    generalize inM b (ps.getD i pit0).2.2.2.1.1 (ps.getD i pit0).2.2.2.1.2 = q2
    generalize inM (rclayM (a, b)) (ps.getD i pit0).2.2.2.2.1 (ps.getD i pit0).2.2.2.2.2 = q3
    intro bad good
    cases q0 <;> cases q1 <;> cases q2 <;> cases q3 <;> simp at bad good ⊢ <;> first | exact bad | exact good
  · obtain ⟨i, hi, ha⟩ := t
    have hie : i = ps.length := by have h0 : ¬ (i : Int) < (ps.length : Int) := ht; omega
    subst hie
    rw [List.take_length] at ha
    exact ha

theorem rfit_sound : Sound Try.prog 72 rfitS.con := FSpec.sound _ (enter_of Try.func72 (by kernel_rfl) (by kernel_rfl)) rfit_ok
/-! ### all mixes -/
def rowM (s : Nat) (t : Nat) : List M2 := (List.range t).map fun (b : Nat) => ((s : Int), (b : Int))
def rowsM : Nat → List M2
  | 0 => []
  | s + 1 => rowsM s ++ rowM s (21 - s)
/-- All mixes; it takes what is not looked at, so that it is not reckoned out. -/
def allM (l : List PitT) : List M2 := rowsM (21 + 0 * l.length)
theorem all_rows (l : List PitT) : allM l = rowsM 21 := by unfold allM; rw [Nat.zero_mul]
def mixL1 : LSpec UU where
  T := { s : Nat // s ≤ 21 }
  fr := fun s => [(1, .gs 0 0), (2, .i s.1)]
  H := fun s => [.one (.row .rmix (rowsM s.1) 84)]
  mu := fun s => 21 - s.1
def mixL2 : LSpec UU where
  T := { p : Nat × Nat // p.1 < 21 ∧ p.2 ≤ 21 - p.1 }
  fr := fun p => [(1, .gs 0 0), (2, .i p.1.1), (3, .i p.1.2)]
  H := fun p => [.one (.row .rmix (rowsM p.1.1 ++ rowM p.1.1 p.1.2) 84)]
  mu := fun p => 21 - p.1.2
def mixLs (k : Nat) : Option (LRule UU) :=
  match k with
  | 3 => some (.inv mixL1)
  | 6 => some (.invR mixL2 fun x y => y.1.1 = x.1.1)
  | _ => none
def mixesS : FSpec UU where
  X := List PitT
  pick := fun args H => match args with
    | [] => sliceAt .pit H (.sl 0 0 0 0)
    | _ => none
  args := fun _ => []
  H := fun _ => []
  R := fun (x : List PitT) => .val ⟨.gs 0 0, [], [], [.row .rmix (allM x) 84]⟩
set_option maxHeartbeats 0 in
set_option maxRecDepth 100000 in
theorem mixes_ok : ∀ x, mixesS.pre x → FunOk Try.prog 70 (mixesS.args x) (mixesS.H x) (mixesS.R x) := by
  intro (x : List PitT) _
  refine fun_of (T := []) (L := mixLs) (hs := fun _ => []) hmix .nil Try.func70 (by kernel_rfl) (by kernel_rfl) ?_
  refine Eq.mp (α :=
      let Z2 := (1 : Int); let Z3 := (20 : Int); let Z4 : List (Int × Int) := []; let Z5 := Value.slice none (nat_lit 0) (nat_lit 0); let Z6 := (21 : Nat); let Z7 := (84 : TypeId); let Z8 := Value.int IntKind.i64 (0 : Int); let Z11 : Type := { s : Nat // s ≤ Z6 }; let Z12 := fun (x : Z11) => Subtype.val x; let Z13 := Z7 = Z7; let Z14 := fun (x : Z11) => rowsM (Z12 x); let Z16 := fun (x : Z11) => (↑(Z12 x) : Int); let Z17 := fun (x : Z11) => nat_lit 21 - Z12 x; let Z18 := fun (x : Z11) => Value.int IntKind.i64 (Z16 x); let Z22 : Type := { p : Nat × Nat // Prod.fst p < Z6 ∧ Prod.snd p ≤ Z6 - Prod.fst p }; let Z23 := fun (x : Z22) => Subtype.val x; let Z24 := fun (x : Z22) => Prod.snd (Z23 x); let Z25 := fun (x : Z22) => Prod.fst (Z23 x); let Z27 := fun (x : Z22) => (↑(Z25 x) : Int); let Z28 := fun (x : Z22) => (↑(Z24 x) : Int); let Z29 := fun (x : Z22) => nat_lit 21 - Z24 x; let Z30 := fun (x : Z22) => Value.int IntKind.i64 (Z27 x); let Z31 := fun (x : Z22) => Value.int IntKind.i64 (Z28 x); let Z34 := fun (t : Z11) => decide (Z16 t ≤ Z3); let Z40 := fun (x : Z22) => rowsM (Z25 x) ++ rowM (Z25 x) (Z24 x); let Z41 := fun (t : Z22) => decide (IntKind.wrap IntKind.i64 (Z27 t + Z28 t) ≤ Z3); (∃ (x : Z11), (nat_lit 0 = nat_lit 0 ∧ True ∧ True) ∧ (Z14 x = Z4 ∧ True) ∧ (Z5 = Z5 ∧ Z8 = Z18 x ∧ True) ∧ True ∧ True ∧ True) ∧ ∀ (t : Z11), (Z34 t = true → ∃ (x : Z22), ((nat_lit 0 = nat_lit 0 ∧ Z18 t = Z30 x ∧ Z8 = Z31 x ∧ True) ∧ True ∧ (Z13 ∧ Z14 t = Z40 x) ∧ True) ∧ Z25 x = Z25 x ∧ ∀ (t_1 : Z22), Z25 t_1 = Z25 x → (Z41 t_1 = true → (nat_lit 1 = nat_lit 1 ∧ AV.v (Z30 t_1) = AV.v (Z30 t_1) ∧ AV.v (Z31 t_1) = AV.v (Z31 t_1) ∧ True) ∧ nat_lit 1 ≤ nat_lit 1 ∧ List.length (Z40 t_1) + nat_lit 1 ≤ nat_lit 1099511627776 ∧ True ∧ ∃ (x_1 : Z22), ((nat_lit 0 = nat_lit 0 ∧ Z30 t_1 = Z30 x_1 ∧ Value.int IntKind.i64 (IntKind.wrap IntKind.i64 (Z28 t_1 + Z2)) = Z31 x_1 ∧ True) ∧ True ∧ (nat_lit 84 = Z7 ∧ Z40 t_1 ++ List.take (1 : Nat) (List.drop (0 : Nat) ((Z27 t_1, Z28 t_1) :: Z4)) = Z40 x_1) ∧ True) ∧ Z29 x_1 < Z29 t_1 ∧ Z25 x_1 = Z25 x) ∧ (Z41 t_1 = false → True ∧ ∃ (x : Z11), ((nat_lit 0 = nat_lit 0 ∧ Value.int IntKind.i64 (IntKind.wrap IntKind.i64 (Z27 t_1 + Z2)) = Z18 x ∧ True) ∧ True ∧ (Z13 ∧ Z40 t_1 = Z14 x) ∧ True) ∧ Z17 x < Z17 t)) ∧ (Z34 t = false → True ∧ (nat_lit 0 = nat_lit 0 ∧ True) ∧ True ∧ (Z13 ∧ Z14 t = allM x) ∧ True))
    (by kernel_rfl) ?_
  simp only [eq_self, true_and, and_true, Int.toNat_natCast, Nat.zero_add, Nat.sub_zero, Value.int.injEq, Value.bool.injEq, decide_eq_true_eq, decide_eq_false_iff_not]
  refine ⟨⟨⟨0, Nat.zero_le _⟩, rfl, rfl⟩, fun t => ⟨fun ht => ?_, fun ht => ?_⟩⟩
  · obtain ⟨s, hs⟩ := t
    have hs' : (s : Int) ≤ 20 := ht
    refine ⟨⟨(s, 0), by show s < 21; omega, Nat.zero_le _⟩, ⟨⟨rfl, rfl⟩, (List.append_nil _).symm⟩, fun p hp => ?_⟩
    obtain ⟨⟨s', j⟩, h1, h2⟩ := p
    have hp' : s' = s := hp
    subst hp'
    have h2' : j ≤ 21 - s' := h2
    have hw : IntKind.i64.wrap ((s' : Int) + (j : Int)) = (s' : Int) + (j : Int) := wrap_id (by omega) (by omega)
    have hlen : (rowsM s' ++ rowM s' j).length + 1 ≤ 1099511627776 := by
      have hr : ∀ s, (rowsM s).length ≤ 21 * s := fun s => by
        induction s with
        | zero => exact Nat.le_refl _
        | succ s ih => unfold rowsM; rw [List.length_append]; simp only [rowM, List.length_map, List.length_range]; omega
      have := hr s'
      rw [List.length_append]
      simp only [rowM, List.length_map, List.length_range]
      omega
    show (IntKind.i64.wrap ((s' : Int) + (j : Int)) ≤ 20 → _) ∧ _
    refine ⟨fun hj => ⟨Nat.le_refl _, hlen, ⟨(s', j + 1), h1, ?_⟩, ⟨⟨rfl, sucI j (by omega)⟩, ?_⟩, ?_, rfl⟩, fun hj => ⟨⟨s' + 1, by omega⟩, ⟨sucI s' (by omega), ?_⟩, ?_⟩⟩
    · rw [hw] at hj
      show j + 1 ≤ 21 - s'; omega
    · show rowsM s' ++ rowM s' j ++ [((s' : Int), (j : Int))] = rowsM s' ++ rowM s' (j + 1)
      rw [List.append_assoc]
      unfold rowM
      rw [List.range_succ, List.map_append]; rfl
    · rw [hw] at hj
      show 21 - (j + 1) < 21 - j; omega
    · have hj' : ¬ IntKind.i64.wrap ((s' : Int) + (j : Int)) ≤ 20 := hj
      rw [hw] at hj'
      have : j = 21 - s' := by omega
      subst this
      rfl
    · show 21 - (s' + 1) < 21 - s'; omega
  · obtain ⟨s, hs⟩ := t
    have : s = 21 := by have h0 : ¬ (s : Int) ≤ 20 := ht; omega
    subst this
    exact (all_rows x).symm

theorem mixes_sound : Sound Try.prog 70 mixesS.con := FSpec.sound _ (enter_of Try.func70 (by kernel_rfl) (by kernel_rfl)) mixes_ok
/-! ### far -/
def farGM (g : GroundT) (n : Int) : Bool := decide ((g.pits.length : Int) > 30) || (decide (g.long ≥ n) && groundM g)
def farGS : FSpec UU where
  X := GroundT × Int
  pick := fun args H => avGr2 H args
  args := fun x => [vGround x.1 0, .i x.2]
  H := fun x => [.one (.ro .pit x.1.pits)]
  R := fun x => .val ⟨.b (farGM x.1 x.2), [], [], []⟩
  pre := fun x => x.1.pits.length < 9223372036854775808
def Tfar : Tab UU := [(24, isGroundS.con)]
theorem Tfar_ok : Tfar.Sound Try.prog := .cons rGround_sound .nil
set_option maxRecDepth 100000 in
theorem farG_ok : ∀ x, farGS.pre x → FunOk Try.prog 7 (farGS.args x) (farGS.H x) (farGS.R x) := by
  rintro ⟨⟨long, rise, change, ps⟩, n⟩ hx
  refine fun_of (T := Tfar) (L := fun _ => none) (hs := fun _ => []) hmix Tfar_ok Try.func7 (by kernel_rfl) (by kernel_rfl) ?_
  refine Eq.mp (α :=
      let Z0 := GroundT.mk long rise change ps; let Z1 := List.length ps; let Z6 := ps = ps ∧ True; let Z7 := Value.bool (farGM Z0 n); let Z11 := decide (long ≥ n); let Z12 := decide ((↑Z1 : Int) > (30 : Int)); (Z12 = true → True ∧ (Z7 = Value.bool true ∧ True) ∧ True ∧ Z6) ∧ (Z12 = false → (Z11 = true → Z1 < nat_lit 1000000 ∧ ((Value.int IntKind.i64 long = Value.int IntKind.i64 long ∧ Value.int IntKind.i64 rise = Value.int IntKind.i64 rise ∧ Value.int IntKind.i64 change = Value.int IntKind.i64 change ∧ (nat_lit 0 = nat_lit 0 ∧ nat_lit 0 = nat_lit 0 ∧ Z1 = Z1) ∧ True) ∧ True) ∧ Z6 ∧ True ∧ (Value.bool (groundM Z0) = Z7 ∧ True) ∧ True ∧ Z6) ∧ (Z11 = false → True ∧ (Z7 = Value.bool false ∧ True) ∧ True ∧ Z6)))
    (by kernel_rfl) ?_
  simp only [eq_self, true_and, and_true, Int.toNat_natCast, Nat.zero_add, Nat.sub_zero, Value.int.injEq, Value.bool.injEq, decide_eq_true_eq, decide_eq_false_iff_not]
  refine ⟨fun h => ?_, fun h => ⟨fun h2 => ⟨by omega, ?_⟩, fun h2 => ?_⟩⟩
  · unfold farGM; rw [decide_eq_true h, Bool.true_or]
  · unfold farGM; rw [decide_eq_false h, Bool.false_or, decide_eq_true h2, Bool.true_and]
  · unfold farGM; rw [decide_eq_false h, Bool.false_or, decide_eq_false h2, Bool.false_and]

theorem farG_sound : Sound Try.prog 7 farGS.con := FSpec.sound _ (enter_of Try.func7 (by kernel_rfl) (by kernel_rfl)) farG_ok
end AE.Soil

namespace AE.Soil
open Go AE Go.Proofs

def canPM (c : Int) (first : Bool) (prev : List M2) (m : M2) : Bool := first || prev.any fun a => rnearM c a m
def takesM (g : GroundT) (x : Int) (first : Bool) (prev : List M2) (m : M2) : Bool := canPM g.change first prev m && rfitM g.pits x m
def stepLM (g : GroundT) (x : Int) (first : Bool) (prev : List M2) : List M2 := (allM g.pits).filter (takesM g x first prev)
def chM (g : GroundT) (e st : Int) : Nat → List M2
  | 0 => stepLM g e true []
  | k + 1 => stepLM g (e + st * ((k + 1 : Nat) : Int)) false (chM g e st k)
def prM (g : GroundT) (e st : Int) : Nat → List M2
  | 0 => []
  | k + 1 => chM g e st k
def firstM (k : Nat) : Bool := k == 0
def xAtM (e st : Int) (k : Nat) : Int := e + st * (k : Int)
theorem ch_step (g : GroundT) (e st : Int) : ∀ k, chM g e st k = stepLM g (xAtM e st k) (firstM k) (prM g e st k)
  | 0 => by unfold xAtM; simp [chM, firstM, prM]
  | k + 1 => rfl
structure AlQ where
  g : GroundT
  at_ : Int
  e : Int
  st : Int
def alN (x : AlQ) : Nat := ((x.at_ - x.e) * x.st).toNat
def someM (x : AlQ) (k i : Nat) : List M2 := ((allM x.g.pits).take i).filter (takesM x.g (xAtM x.e x.st k) (firstM k) (prM x.g x.e x.st k))
def mAtM (l : List PitT) (i : Nat) : M2 := (allM l).getD i (0, 0)
def canAtM (x : AlQ) (k i j : Nat) : Bool := canPM x.g.change (firstM k) ((prM x.g x.e x.st k).take j) (mAtM x.g.pits i)
theorem all_len (l : List PitT) : (allM l).length = 231 := by rw [all_rows]; rfl
theorem some_len (x : AlQ) (k i : Nat) : (someM x k i).length ≤ 231 := by
  have h1 : (someM x k i).length ≤ ((allM x.g.pits).take i).length := List.length_filter_le _ _
  rw [List.length_take, all_len] at h1
  omega
theorem some_yes (x : AlQ) {k i : Nat} (hi : i < (allM x.g.pits).length) (h : takesM x.g (xAtM x.e x.st k) (firstM k) (prM x.g x.e x.st k) (mAtM x.g.pits i) = true) : someM x k (i + 1) = someM x k i ++ [mAtM x.g.pits i] := by
  unfold someM
  rw [take_snoc _ i hi (0, 0), List.filter_append]
  congr 1
  exact List.filter_cons_of_pos h
theorem some_no (x : AlQ) {k i : Nat} (hi : i < (allM x.g.pits).length) (h : takesM x.g (xAtM x.e x.st k) (firstM k) (prM x.g x.e x.st k) (mAtM x.g.pits i) = false) : someM x k (i + 1) = someM x k i := by
  unfold someM
  rw [take_snoc _ i hi (0, 0), List.filter_append]
  have e : List.filter (takesM x.g (xAtM x.e x.st k) (firstM k) (prM x.g x.e x.st k)) [(allM x.g.pits).getD i (0, 0)] = [] := by
    refine List.filter_cons_of_neg ?_
    have h' : takesM x.g (xAtM x.e x.st k) (firstM k) (prM x.g x.e x.st k) ((allM x.g.pits).getD i (0, 0)) = false := h
    rw [h']; decide
  rw [e, List.append_nil]
theorem al_tail (x : AlQ) (hps : x.g.pits.length < 1000) {k i : Nat} (hk : k ≤ alN x) (hi : i < (allM x.g.pits).length) {c : Bool} (hc : c = canPM x.g.change (firstM k) (prM x.g x.e x.st k) (mAtM x.g.pits i)) :
    (c = true → (0 ≤ (i : Int) ∧ (i : Int) < ((allM x.g.pits).length : Int)) ∧ i < (allM x.g.pits).length ∧ x.g.pits.length < 1000 ∧
      (rfitM x.g.pits (xAtM x.e x.st k) ((allM x.g.pits).getD i (0, 0)) = true → (0 ≤ (i : Int) ∧ (i : Int) < ((allM x.g.pits).length : Int)) ∧ i < (allM x.g.pits).length ∧ 1 ≤ 1 ∧ (someM x k i).length + 1 ≤ 1099511627776 ∧
        ∃ y : { p : Nat × Nat // p.1 ≤ alN x ∧ p.2 ≤ (allM x.g.pits).length }, ((xAtM x.e x.st k = xAtM x.e x.st y.1.1 ∧ IntKind.i64.wrap ((i : Int) + 1) = (y.1.2 : Int)) ∧ prM x.g x.e x.st k = prM x.g x.e x.st y.1.1 ∧ someM x k i ++ List.take 1 (List.drop 0 [(((allM x.g.pits).getD i (0, 0)).1, ((allM x.g.pits).getD i (0, 0)).2)]) = someM x y.1.1 y.1.2) ∧ (allM x.g.pits).length - y.1.2 < (allM x.g.pits).length - i ∧ y.1.1 = k) ∧
      (rfitM x.g.pits (xAtM x.e x.st k) ((allM x.g.pits).getD i (0, 0)) = false → ∃ y : { p : Nat × Nat // p.1 ≤ alN x ∧ p.2 ≤ (allM x.g.pits).length }, ((xAtM x.e x.st k = xAtM x.e x.st y.1.1 ∧ IntKind.i64.wrap ((i : Int) + 1) = (y.1.2 : Int)) ∧ prM x.g x.e x.st k = prM x.g x.e x.st y.1.1 ∧ someM x k i = someM x y.1.1 y.1.2) ∧ (allM x.g.pits).length - y.1.2 < (allM x.g.pits).length - i ∧ y.1.1 = k)) ∧
    (c = false → ∃ y : { p : Nat × Nat // p.1 ≤ alN x ∧ p.2 ≤ (allM x.g.pits).length }, ((xAtM x.e x.st k = xAtM x.e x.st y.1.1 ∧ IntKind.i64.wrap ((i : Int) + 1) = (y.1.2 : Int)) ∧ prM x.g x.e x.st k = prM x.g x.e x.st y.1.1 ∧ someM x k i = someM x y.1.1 y.1.2) ∧ (allM x.g.pits).length - y.1.2 < (allM x.g.pits).length - i ∧ y.1.1 = k) := by
  have hl := all_len x.g.pits
  have hsl := some_len x k i
  have hsu := sucI i (by omega)
  refine ⟨fun h => ⟨⟨Int.natCast_nonneg _, by omega⟩, hi, hps, fun hf => ⟨⟨Int.natCast_nonneg _, by omega⟩, hi, Nat.le_refl _, by omega, ⟨(k, i + 1), hk, hi⟩, ⟨⟨rfl, hsu⟩, rfl, ?_⟩, dec1 hi, rfl⟩, fun hf => ⟨⟨(k, i + 1), hk, hi⟩, ⟨⟨rfl, hsu⟩, rfl, ?_⟩, dec1 hi, rfl⟩⟩, fun h => ⟨⟨(k, i + 1), hk, hi⟩, ⟨⟨rfl, hsu⟩, rfl, ?_⟩, dec1 hi, rfl⟩⟩
  · refine (some_yes x hi ?_).symm
    unfold takesM
    rw [← hc, h]; exact hf
  · refine (some_no x hi ?_).symm
    unfold takesM
    rw [← hc, h]; exact hf
  · refine (some_no x hi ?_).symm
    unfold takesM
    rw [← hc, h]; rfl
def alF (x : AlQ) (k : Nat) : Fr := [(1, .i x.at_), (2, .i x.e), (3, .i x.st), (4, .ptr 1 0 0 0), (9, .gs 2 0), (10, .gs 3 0), (11, .i (xAtM x.e x.st k))]
def alH (x : AlQ) (k : Nat) : Heap UU := [.one (.ro .pit x.g.pits), .one (.cells (cGround x.g 0) 24), .one (.row .rmix (allM x.g.pits) 84), .one (.row .rmix (prM x.g x.e x.st k) 84)]
def alL1 (x : AlQ) : LSpec UU where
  T := { k : Nat // k ≤ alN x }
  fr := fun k => alF x k.1
  H := fun k => alH x k.1
  mu := fun k => alN x - k.1
def alL2 (x : AlQ) : LSpec UU where
  T := { p : Nat × Nat // p.1 ≤ alN x ∧ p.2 ≤ (allM x.g.pits).length }
  fr := fun p => alF x p.1.1 ++ [(12, .gs 4 0), (13, .i p.1.2)]
  H := fun p => alH x p.1.1 ++ [.one (.row .rmix (someM x p.1.1 p.1.2) 84)]
  mu := fun p => (allM x.g.pits).length - p.1.2
def alL3 (x : AlQ) : LSpec UU where
  T := { p : Nat × Nat × Nat // p.1 ≤ alN x ∧ p.2.1 < (allM x.g.pits).length ∧ p.2.2 ≤ (prM x.g x.e x.st p.1).length }
  fr := fun p => alF x p.1.1 ++ [(12, .gs 4 0), (13, .i p.1.2.1), (14, .b (canAtM x p.1.1 p.1.2.1 p.1.2.2)), (15, .i p.1.2.2)]
  H := fun p => alH x p.1.1 ++ [.one (.row .rmix (someM x p.1.1 p.1.2.1) 84)]
  mu := fun p => (prM x.g x.e x.st p.1.1).length - p.1.2.2
def alLs (x : AlQ) (k : Nat) : Option (LRule UU) :=
  match k with
  | 5 => some (.inv (alL1 x))
  | 7 => some (.invR (alL2 x) fun a b => b.1.1 = a.1.1)
  | 11 => some (.invR (alL3 x) fun a b => b.1.1 = a.1.1 ∧ b.1.2.1 = a.1.2.1)
  | _ => none
def Talong : Tab UU := [(70, mixesS.con), (71, rnearS.con), (72, rfitS.con)]
theorem Talong_ok : Talong.Sound Try.prog := .cons mixes_sound (.cons rnear_sound (.cons rfit_sound .nil))
def alongS : FSpec UU where
  X := AlQ
  pick := fun args H => match args with
    | [g, a, b, c] => match avGround H g, avInt a, avInt b, avInt c with
      | some g, some a, some b, some c => some ⟨g, a, b, c⟩
      | _, _, _, _ => none
    | _ => none
  args := fun x => [vGround x.g 0, .i x.at_, .i x.e, .i x.st]
  H := fun x => [.one (.ro .pit x.g.pits)]
  R := fun x => .val ⟨.gs 1 0, [], [], [.row .rmix (chM x.g x.e x.st (alN x)) 84]⟩
  pre := fun x => x.g.pits.length < 1000 ∧ (0 ≤ x.e ∧ x.e ≤ 40) ∧ (0 ≤ x.at_ ∧ x.at_ ≤ 40) ∧ ((x.st = 1 ∧ x.e ≤ x.at_) ∨ (x.st = -1 ∧ x.at_ ≤ x.e))
set_option maxHeartbeats 0 in
set_option maxRecDepth 100000 in
theorem along_ok : ∀ x, alongS.pre x → FunOk Try.prog 58 (alongS.args x) (alongS.H x) (alongS.R x) := by
  rintro ⟨⟨long, rise, change, ps⟩, a, e, st⟩ hx
  refine fun_of (T := Talong) (L := alLs ⟨⟨long, rise, change, ps⟩, a, e, st⟩) (hs := fun _ => []) hmix Talong_ok Try.func58 (by kernel_rfl) (by kernel_rfl) ?_
  refine Eq.mp (α :=
      let Z0 : List M2 := allM ps; let Z1 := True ∧ True; let Z2 : Option Addr := none; let Z3 := fun (p : Nat × Nat) => Prod.snd p; let Z4 := fun (p : Nat × Nat) => Prod.fst p; let Z5 := GroundT.mk long rise change ps; let Z6 := Value.int IntKind.i64 rise; let Z7 := List.length ps; let Z8 := Value.int IntKind.i64 change; let Z9 := Value.int IntKind.i64 long; let Z10 := Value.int IntKind.i64 a; let Z11 := Value.int IntKind.i64 e; let Z12 := Value.int IntKind.i64 st; let Z13 := nat_lit 0 = nat_lit 0 ∧ nat_lit 0 = nat_lit 0; let Z14 := fun (p : Nat × Nat × Nat) => Prod.fst p; let Z15 := fun (p : Nat × Nat × Nat) => Prod.snd p; let Z16 := (0 : Int); let Z17 := (1 : Int); let Z18 := nat_lit 0 = nat_lit 0 ∧ Z1; let Z19 : List (Int × Int) := []; let Z20 := Value.slice Z2 (nat_lit 0) (nat_lit 0); let Z21 := (0 : Nat); let Z22 := (1 : Nat); let Z23 := List.length Z0; let Z24 := True ∧ True ∧ Z1; let Z25 := (84 : TypeId); let Z26 := ps = ps; let Z27 := AlQ.mk Z5 a e st; let Z28 := True ∧ Z18; let Z29 := True ∧ Z24; let Z30 := AlQ.e Z27; let Z31 := nat_lit 0 = nat_lit 0 ∧ Z13; let Z32 := AlQ.g Z27; let Z33 := fun (p : Nat × Nat × Nat) => Prod.fst (Z15 p); let Z34 := AlQ.st Z27; let Z35 := fun (p : Nat × Nat × Nat) => Prod.snd (Z15 p); let Z36 := Z26 ∧ True; let Z37 := Z7 < nat_lit 1000; let Z38 := alN Z27; let Z39 := List.length Z0; let Z40 := True ∧ Z28; let Z41 := a - e; let Z42 := nat_lit 84 = Z25; let Z43 := Value.int IntKind.i64 Z16; let Z44 := Z7 = Z7; let Z45 := Z10 = Z10; let Z46 := Z6 = Z6; let Z47 := Z9 = Z9; let Z48 := Z12 = Z12; let Z49 := Z11 = Z11; let Z50 := Z8 = Z8; let Z51 : List PitT := GroundT.pits Z32; let Z52 := Z0 = Z0; let Z53 := True ∧ Z40; let Z54 : List M2 := allM Z51; let Z55 := True ∧ Z53; let Z56 := fun (k : Nat) => k ≤ Z38; let Z57 := nat_lit 0 = nat_lit 0 ∧ Z44; let Z58 := (↑Z39 : Int); let Z59 := Z20 = Z20; let Z60 := (Z16, Z16); let Z61 := True ∧ Z55; let Z62 := Z25 = Z25; let Z63 := fun (p : Nat × Nat) => Z4 p ≤ Z38; let Z64 := List.length Z54; let Z65 := nat_lit 0 = nat_lit 0 ∧ Z57; let Z66 : Type := { k : Nat // Z56 k }; let Z67 := fun (p : Nat × Nat × Nat) => Z14 p ≤ Z38; let Z68 := fun (x : Z66) => Subtype.val x; let Z69 := Z41 * st; let Z70 := Z65 ∧ True; let Z71 := Int.toNat Z69; let Z72 := fun (x : Z66) => xAtM e st (Z68 x); let Z73 := fun (p : Nat × Nat) => Z3 p ≤ Z64; let Z74 := fun (x : Z66) => prM Z5 e st (Z68 x); let Z75 := fun (x : Z66) => Value.int IntKind.i64 (Z72 x); let Z76 := Z62 ∧ Z52; let Z77 := fun (p : Nat × Nat × Nat) => Z33 p < Z64; let Z78 := Z50 ∧ Z70; let Z79 := fun (p : Nat × Nat × Nat) => prM Z32 Z30 Z34 (Z14 p); let Z80 := fun (p : Nat × Nat × Nat) => List.length (Z79 p); let Z81 := fun (p : Nat × Nat) => Z63 p ∧ Z73 p; let Z82 := Z46 ∧ Z78; let Z83 := fun (x : Z66) => Z71 - Z68 x; let Z84 : Type := { p : Nat × Nat // Z81 p }; let Z85 := fun (p : Nat × Nat × Nat) => Z35 p ≤ Z80 p; let Z86 := fun (x : Z84) => Subtype.val x; let Z87 := fun (x : Z84) => Prod.fst (Z86 x); let Z88 := fun (x : Z84) => Prod.snd (Z86 x); let Z89 := Z47 ∧ Z82; let Z90 := fun (x : Z84) => xAtM e st (Z87 x); let Z91 := fun (x : Z84) => (↑(Z88 x) : Int); let Z92 := fun (x : Z84) => Value.int IntKind.i64 (Z90 x); let Z93 := fun (x : Z84) => prM Z5 e st (Z87 x); let Z94 := fun (x : Z84) => Value.int IntKind.i64 (Z91 x); let Z95 := fun (t : Z84) => Z90 t == a; let Z96 := fun (x : Z84) => Z23 - Z88 x; let Z97 := fun (t : Z84) => Z91 t < Z58; let Z98 := fun (p : Nat × Nat × Nat) => Z77 p ∧ Z85 p; let Z99 := fun (p : Nat × Nat × Nat) => Z67 p ∧ Z98 p; let Z100 := fun (t x : Z84) => Z87 t = Z87 x; let Z101 : Type := { p : Nat × Nat × Nat // Z99 p }; let Z102 := fun (x : Z101) => Subtype.val x; let Z103 := fun (x : Z101) => Prod.fst (Z102 x); let Z104 := fun (x : Z101) => Prod.snd (Z102 x); let Z105 := fun (x : Z84) => someM Z27 (Z87 x) (Z88 x); let Z106 := fun (x : Z101) => xAtM e st (Z103 x); let Z107 := fun (x : Z101) => Prod.fst (Z104 x); let Z108 := fun (x : Z101) => Prod.snd (Z104 x); let Z109 := fun (x : Z101) => prM Z5 e st (Z103 x); let Z110 := fun (x : Z101) => Value.int IntKind.i64 (Z106 x); let Z111 := fun (x : Z101) => (↑(Z107 x) : Int); let Z112 := fun (x : Z101) => (↑(Z108 x) : Int); let Z113 := fun (t : Z101) => Int.toNat (Z112 t); let Z114 := fun (t : Z101) => Int.toNat (Z111 t); let Z115 := fun (x : Z101) => List.length (Z109 x); let Z116 := fun (x : Z101) => Value.int IntKind.i64 (Z111 x); let Z117 := fun (x : Z101) => Value.int IntKind.i64 (Z112 x); let Z118 := fun (t : Z101) => List.length (Z109 t); let Z119 := fun (t : Z101) => Z16 ≤ Z111 t; let Z120 := fun (t : Z101) => (↑(Z118 t) : Int); let Z121 := fun (t : Z101) => nat_lit 0 + Z113 t; let Z122 := fun (t : Z101) => nat_lit 0 + Z114 t; let Z123 := fun (t : Z101) => Z111 t + Z17; let Z124 := fun (x t : Z84) => Z96 x < Z96 t; let Z125 := fun (t : Z101) => Z21 + Z114 t; let Z126 := fun (t : Z101) => Z111 t < Z58; let Z127 := fun (t : Z101) => IntKind.wrap IntKind.i64 (Z123 t); let Z128 := fun (t : Z101) => Value.int IntKind.i64 (Z127 t); let Z129 := fun (t : Z101) => Z122 t < Z39; let Z130 := fun (t : Z101) => List.getD Z0 (Z122 t) Z60; let Z131 := fun (t : Z101) => Prod.snd (Z130 t); let Z132 := fun (t : Z101) => Prod.fst (Z130 t); let Z133 := fun (t : Z101) => List.getD Z0 (Z125 t) Z60; let Z134 := fun (t : Z84) => decide (Z97 t); let Z135 := fun (t : Z101) => Value.int IntKind.i64 (Z132 t); let Z136 := fun (t : Z101) => Value.int IntKind.i64 (Z131 t); let Z137 := fun (t : Z101) => AV.v (Z135 t); let Z138 := fun (t : Z101) => AV.v (Z136 t); let Z139 := fun (t : Z101) => Prod.fst (Z133 t); let Z140 := fun (t : Z101) => Prod.snd (Z133 t); let Z141 := fun (t : Z101) => Value.int IntKind.i64 (Z139 t); let Z142 := fun (t : Z101) => AV.v (Z141 t); let Z143 := fun (t : Z101) (x : Z84) => Z110 t = Z92 x; let Z144 := fun (t : Z101) (x : Z84) => Z109 t = Z93 x; let Z145 := fun (t : Z101) (x : Z84) => Z62 ∧ Z144 t x; let Z146 := fun (t : Z101) (x : Z84) => Z128 t = Z94 x; let Z147 := fun (t : Z101) (x : Z84) => Z146 t x ∧ True; let Z148 := fun (t : Z101) (x : Z84) => nat_lit 0 = nat_lit 0 ∧ Z147 t x; let Z149 := fun (t x : Z101) => Z103 t = Z103 x; let Z150 := fun (t x : Z101) => Z107 t = Z107 x; let Z151 := fun (x : Z101) => someM Z27 (Z103 x) (Z107 x); let Z152 := fun (t : Z101) => Z110 t = Z110 t; let Z153 := fun (x t x_1 : Z84) => Z124 x t ∧ Z100 x x_1; let Z154 := fun (t : Z101) => List.length (Z151 t); let Z155 := fun (x : Z101) => Z115 x - Z108 x; let Z156 := fun (t : Z101) => Z154 t + nat_lit 1; let Z157 := fun (t : Z101) => Z112 t < Z120 t; let Z158 := fun (t : Z101) => Z156 t ≤ nat_lit 1099511627776; let Z159 := fun (t : Z101) => Z119 t ∧ Z126 t; let Z160 := fun (t : Z101) => List.getD (Z109 t) (Z121 t) Z60; let Z161 := fun (t : Z101) => rfitM ps (Z106 t) (Z130 t); let Z162 := fun (t : Z101) => Prod.snd (Z160 t); let Z163 := fun (t : Z101) => Prod.fst (Z160 t); let Z164 := fun (t : Z101) => Z161 t = true; let Z165 := fun (t : Z101) => Z161 t = false; let Z166 := fun (t : Z101) => Value.int IntKind.i64 (Z163 t); let Z167 := fun (t : Z101) => Value.int IntKind.i64 (Z162 t); let Z168 := fun (t : Z101) => (Z132 t, Z140 t); let Z169 := fun (t : Z101) => Z136 t = Z136 t; let Z170 := fun (t : Z101) => Z135 t = Z135 t; let Z171 := fun (t : Z101) => Z169 t ∧ True; let Z172 := fun (t : Z101) => Z138 t = Z138 t; let Z173 := fun (t : Z101) => Z172 t ∧ True; let Z174 := fun (t : Z101) => Z137 t = Z142 t; let Z177 := fun (x : Z101) => canAtM Z27 (Z103 x) (Z107 x) (Z108 x); let Z194 := fun (t : Z101) => decide (Z157 t); let Z217 := fun (t : Z101) (t_1 x : Z84) => ∃ (x_1 : Z84), ((Z45 ∧ Z49 ∧ Z48 ∧ Z31 ∧ nat_lit 0 = nat_lit 0 ∧ nat_lit 0 = nat_lit 0 ∧ Z143 t x_1 ∧ Z148 t x_1) ∧ True ∧ Z26 ∧ Z89 ∧ Z76 ∧ Z145 t x_1 ∧ (Z62 ∧ Z151 t = Z105 x_1) ∧ True) ∧ Z153 x_1 t_1 x; let Z223 := fun (t : Z101) (t_1 x : Z84) => ∃ (x_1 : Z84), ((Z45 ∧ Z49 ∧ Z48 ∧ Z31 ∧ nat_lit 0 = nat_lit 0 ∧ nat_lit 0 = nat_lit 0 ∧ Z143 t x_1 ∧ Z148 t x_1) ∧ True ∧ Z26 ∧ Z89 ∧ Z76 ∧ Z145 t x_1 ∧ (Z42 ∧ Z151 t ++ List.take Z22 (List.drop Z21 (Z168 t :: Z19)) = Z105 x_1) ∧ True) ∧ Z153 x_1 t_1 x; True ∧ True ∧ True ∧ (∃ (x : Z66), Z61 ∧ (True ∧ Z29 ∧ True ∧ Z74 x = Z19 ∧ True) ∧ (Z45 ∧ Z49 ∧ Z48 ∧ Z31 ∧ nat_lit 0 = nat_lit 0 ∧ Z59 ∧ Z11 = Z75 x ∧ True) ∧ True ∧ Z26 ∧ Z89 ∧ Z76 ∧ Z1) ∧ ∀ (t : Z66), ∃ (x : Z84), ((True ∧ True ∧ Z61) ∧ (True ∧ Z29 ∧ True ∧ True ∧ Z105 x = Z19 ∧ True) ∧ (Z45 ∧ Z49 ∧ Z48 ∧ Z31 ∧ nat_lit 0 = nat_lit 0 ∧ nat_lit 0 = nat_lit 0 ∧ Z75 t = Z92 x ∧ Z59 ∧ Z43 = Z94 x ∧ True) ∧ True ∧ Z26 ∧ Z89 ∧ Z76 ∧ (Z62 ∧ Z74 t = Z93 x) ∧ Z1) ∧ Z87 x = Z87 x ∧ ∀ (t_1 : Z84), Z100 t_1 x → (Z134 t_1 = true → ∃ (x_1 : Z101), ((Z45 ∧ Z49 ∧ Z48 ∧ Z31 ∧ nat_lit 0 = nat_lit 0 ∧ nat_lit 0 = nat_lit 0 ∧ Z92 t_1 = Z110 x_1 ∧ nat_lit 0 = nat_lit 0 ∧ Z94 t_1 = Z116 x_1 ∧ Value.bool (Z90 t_1 == e) = Value.bool (Z177 x_1) ∧ Z43 = Z117 x_1 ∧ True) ∧ True ∧ Z26 ∧ Z89 ∧ Z76 ∧ (Z62 ∧ Z93 t_1 = Z109 x_1) ∧ (Z62 ∧ Z105 t_1 = Z151 x_1) ∧ True) ∧ (Z103 x_1 = Z103 x_1 ∧ Z107 x_1 = Z107 x_1) ∧ ∀ (t : Z101), Z149 t x_1 ∧ Z150 t x_1 → (Z194 t = true → ((!Z177 t) = true → (Z16 ≤ Z112 t ∧ Z157 t) ∧ Z121 t < Z118 t ∧ Z159 t ∧ Z129 t ∧ True ∧ (Z89 ∧ (Z166 t = Z166 t ∧ Z167 t = Z167 t ∧ True) ∧ (Z170 t ∧ Z171 t) ∧ True) ∧ Z36 ∧ True ∧ ∃ (x : Z101), ((Z45 ∧ Z49 ∧ Z48 ∧ Z31 ∧ nat_lit 0 = nat_lit 0 ∧ nat_lit 0 = nat_lit 0 ∧ Z110 t = Z110 x ∧ nat_lit 0 = nat_lit 0 ∧ Z116 t = Z116 x ∧ Value.bool (rnearM change (Z160 t) (Z130 t)) = Value.bool (Z177 x) ∧ Value.int IntKind.i64 (IntKind.wrap IntKind.i64 (Z112 t + Z17)) = Z117 x ∧ True) ∧ True ∧ Z26 ∧ Z89 ∧ Z76 ∧ (Z62 ∧ Z109 t = Z109 x) ∧ (Z62 ∧ Z151 t = Z151 x) ∧ True) ∧ Z155 x < Z155 t ∧ Z149 x x_1 ∧ Z150 x x_1) ∧ ((!Z177 t) = false → (Z177 t = true → Z159 t ∧ Z129 t ∧ Z37 ∧ (Z89 ∧ Z152 t ∧ (Z170 t ∧ Z171 t) ∧ True) ∧ Z36 ∧ (Z164 t → Z159 t ∧ Z129 t ∧ (nat_lit 1 = nat_lit 1 ∧ Z174 t ∧ Z173 t) ∧ nat_lit 1 ≤ nat_lit 1 ∧ Z158 t ∧ True ∧ Z223 t t_1 x) ∧ (Z165 t → True ∧ Z217 t t_1 x)) ∧ (Z177 t = false → True ∧ Z217 t t_1 x))) ∧ (Z194 t = false → (Z177 t = true → Z159 t ∧ Z129 t ∧ Z37 ∧ (Z89 ∧ Z152 t ∧ (Z170 t ∧ Z171 t) ∧ True) ∧ Z36 ∧ (Z164 t → Z159 t ∧ Z129 t ∧ (nat_lit 1 = nat_lit 1 ∧ Z174 t ∧ Z173 t) ∧ nat_lit 1 ≤ nat_lit 1 ∧ Z158 t ∧ True ∧ Z223 t t_1 x) ∧ (Z165 t → True ∧ Z217 t t_1 x)) ∧ (Z177 t = false → True ∧ Z217 t t_1 x))) ∧ (Z134 t_1 = false → (Z95 t_1 = true → True ∧ (nat_lit 0 = nat_lit 0 ∧ True) ∧ True ∧ Z26 ∧ (Z62 ∧ Z105 t_1 = chM Z5 e st Z71) ∧ True) ∧ (Z95 t_1 = false → True ∧ ∃ (x : Z66), ((Z45 ∧ Z49 ∧ Z48 ∧ Z31 ∧ nat_lit 0 = nat_lit 0 ∧ nat_lit 0 = nat_lit 0 ∧ Value.int IntKind.i64 (IntKind.wrap IntKind.i64 (Z90 t_1 + st)) = Z75 x ∧ True) ∧ True ∧ Z26 ∧ Z89 ∧ Z76 ∧ (Z62 ∧ Z105 t_1 = Z74 x) ∧ True) ∧ Z83 x < Z83 t)))
    (by kernel_rfl) ?_
  simp only [eq_self, true_and, and_true, Int.toNat_natCast, Nat.zero_add, Nat.sub_zero, Value.int.injEq, Value.bool.injEq, decide_eq_true_eq, decide_eq_false_iff_not]
  obtain ⟨h1, ⟨he0, he1⟩, ⟨ha0, ha1⟩, hst⟩ := hx
  have hps : ps.length < 1000 := h1
  have he0' : 0 ≤ e := he0
  have he1' : e ≤ 40 := he1
  have ha0' : 0 ≤ a := ha0
  have ha1' : a ≤ 40 := ha1
  have hst' : (st = 1 ∧ e ≤ a) ∨ (st = -1 ∧ a ≤ e) := hst
  obtain ⟨Q, hQ⟩ : ∃ Q : AlQ, Q = ⟨⟨long, rise, change, ps⟩, a, e, st⟩ := ⟨_, rfl⟩
  have hal := all_len ps
  have hn : (alN Q : Int) = (a - e) * st := by
    rw [hQ]
    show (((a - e) * st).toNat : Int) = _
    rcases hst' with ⟨h, h'⟩ | ⟨h, h'⟩ <;> subst h <;> omega
  have hxk : ∀ k : Nat, xAtM e st k = e + st * (k : Int) := fun _ => rfl
  have hfirst : ∀ k : Nat, (xAtM e st k == e) = firstM k := fun k => by
    rw [hxk]
    unfold firstM
    rcases hst' with ⟨h, _⟩ | ⟨h, _⟩ <;> subst h
    · cases k with
      | zero => simp
      | succ k => rw [beq_eq_false_iff_ne.2 (by omega), beq_eq_false_iff_ne.2 (by omega)]
    · cases k with
      | zero => simp
      | succ k => rw [beq_eq_false_iff_ne.2 (by omega), beq_eq_false_iff_ne.2 (by omega)]
  have hn40 : alN Q ≤ 40 := by rcases hst' with ⟨h, _⟩ | ⟨h, _⟩ <;> subst h <;> omega
  have hend : ∀ k : Nat, k ≤ alN Q → ((xAtM e st k == a) = true ↔ k = alN Q) := fun k hk => by
    rw [hxk, beq_iff_eq]
    rcases hst' with ⟨h, _⟩ | ⟨h, _⟩ <;> subst h <;> omega
  have hnext : ∀ k : Nat, k ≤ 40 → IntKind.i64.wrap (xAtM e st k + st) = xAtM e st (k + 1) := fun k hk => by
    rw [hxk, hxk]
    rcases hst' with ⟨h, _⟩ | ⟨h, _⟩ <;> subst h <;> (rw [wrap_id (by omega) (by omega)]; omega)
  rw [show ((a - e) * st).toNat = alN Q by rw [hQ]; rfl]
  rw [← hQ]
  refine ⟨⟨⟨0, Nat.zero_le _⟩, rfl, by show e = e + st * ((0 : Nat) : Int); simp⟩, fun t => ?_⟩
  obtain ⟨k, hk⟩ := t
  refine ⟨⟨(k, 0), hk, Nat.zero_le _⟩, ⟨rfl, ⟨rfl, rfl⟩, rfl⟩, fun p hp => ?_⟩
  obtain ⟨⟨k', i⟩, p1, p2⟩ := p
  have hp' : k' = k := hp
  subst hp'
  refine ⟨fun hi => ?_, fun hi => ?_⟩
  · have hlt : i < (allM ps).length := by have h0 : (i : Int) < ((allM ps).length : Int) := hi; omega
    refine ⟨⟨(k', i, 0), p1, hlt, Nat.zero_le _⟩, ⟨⟨rfl, rfl, ?_, rfl⟩, rfl, rfl⟩, fun q hq => ?_⟩
    · show (xAtM e st k' == e) = (firstM k' || List.any [] _)
      rw [hfirst, List.any_nil, Bool.or_false]
    obtain ⟨⟨k2, i2, j⟩, q1, q2, q3⟩ := q
    have hq1 : k2 = k' := hq.1
    have hq2 : i2 = i := hq.2
    subst hq1 hq2
    have hcan : ∀ j, canAtM Q k2 i2 j = (firstM k2 || ((prM ⟨long, rise, change, ps⟩ e st k2).take j).any fun a => rnearM change a (mAtM ps i2)) := fun j => by rw [hQ]; rfl
    have hfull : canPM change (firstM k2) (prM ⟨long, rise, change, ps⟩ e st k2) (mAtM ps i2) = (firstM k2 || (prM ⟨long, rise, change, ps⟩ e st k2).any fun a => rnearM change a (mAtM ps i2)) := rfl
    have tail := fun (c : Bool) (hc : c = canPM change (firstM k2) (prM ⟨long, rise, change, ps⟩ e st k2) (mAtM ps i2)) => al_tail Q (by rw [hQ]; exact hps) (k := k2) (i := i2) p1 (by rw [hQ]; exact hlt) (c := c) (by rw [hQ]; exact hc)
    have hmono : canAtM Q k2 i2 j = true → canAtM Q k2 i2 j = canPM change (firstM k2) (prM ⟨long, rise, change, ps⟩ e st k2) (mAtM ps i2) := fun h => by
      rw [h, hfull]
      rw [hcan] at h
      rcases Bool.or_eq_true _ _ ▸ h with h | h
      · rw [h]; rfl
      · obtain ⟨z, hz, hn⟩ := List.any_eq_true.1 h
        have : (prM ⟨long, rise, change, ps⟩ e st k2).any (fun a => rnearM change a (mAtM ps i2)) = true := List.any_eq_true.2 ⟨z, List.mem_of_mem_take hz, hn⟩
        rw [this, Bool.or_true]
    have hle : j ≤ (prM ⟨long, rise, change, ps⟩ e st k2).length := q3
    refine ⟨fun hj => ⟨fun hc => ?_, fun hc => ?_⟩, fun hj => ?_⟩
    · have hlj : j < (prM ⟨long, rise, change, ps⟩ e st k2).length := by have h0 : (j : Int) < ((prM ⟨long, rise, change, ps⟩ e st k2).length : Int) := hj; omega
      have hc' : canAtM Q k2 i2 j = false := by
        have h0 : (!canAtM Q k2 i2 j) = true := hc
        simpa using h0
      have hj1000 : j < 1000 := by
        have : (prM ⟨long, rise, change, ps⟩ e st k2).length ≤ 231 := by
          cases k2 with
          | zero => exact Nat.zero_le _
          | succ k => 
            show (chM _ _ _ k).length ≤ 231
            rw [ch_step]
            have := List.length_filter_le (takesM ⟨long, rise, change, ps⟩ (xAtM e st k) (firstM k) (prM ⟨long, rise, change, ps⟩ e st k)) (allM ps)
            rw [hal] at this
            exact this
        omega
      refine ⟨⟨Int.natCast_nonneg _, hj⟩, hlj, ⟨Int.natCast_nonneg _, hi⟩, hlt, ⟨(k2, i2, j + 1), p1, hlt, hlj⟩, ⟨⟨rfl, rfl, ?_, sucI j (by omega)⟩, rfl, rfl⟩, ?_, rfl, rfl⟩
      · show rnearM change ((prM ⟨long, rise, change, ps⟩ e st k2).getD j (0, 0)) ((allM ps).getD i2 (0, 0)) = canAtM Q k2 i2 (j + 1)
        rw [hcan, take_snoc _ j hlj (0, 0), List.any_append, ← Bool.or_assoc, ← hcan, hc', Bool.false_or]
        simp [mAtM]
      · show (prM ⟨long, rise, change, ps⟩ e st k2).length - (j + 1) < (prM ⟨long, rise, change, ps⟩ e st k2).length - j; omega
    · have hc' : canAtM Q k2 i2 j = true := by
        have h0 : (!canAtM Q k2 i2 j) = false := hc
        simpa using h0
      have h := tail (canAtM Q k2 i2 j) (hmono hc')
      subst hQ
      exact h
    · have hlj : j = (prM ⟨long, rise, change, ps⟩ e st k2).length := by have h0 : ¬ (j : Int) < ((prM ⟨long, rise, change, ps⟩ e st k2).length : Int) := hj; omega
      have h := tail (canAtM Q k2 i2 j) (by rw [hcan, hfull, hlj, List.take_length])
      subst hQ
      exact h
  · have hie : i = (allM ps).length := by have h0 : ¬ (i : Int) < ((allM ps).length : Int) := hi; have h1 : i ≤ (allM ps).length := p2; omega
    subst hie
    have hdone : someM Q k' (allM ps).length = chM ⟨long, rise, change, ps⟩ e st k' := by
      rw [ch_step, hQ]
      show ((allM ps).take (allM ps).length).filter _ = _
      rw [List.take_length]; rfl
    refine ⟨fun h => ?_, fun h => ⟨⟨k' + 1, ?_⟩, ⟨hnext k' (by have : k' ≤ alN Q := hk; omega), hdone⟩, ?_⟩⟩
    · have := (hend k' hk).1 h
      show someM Q k' (allM ps).length = _
      rw [hdone, ← this]
    · have hne : k' ≠ alN Q := fun hc => by
        have := (hend k' hk).2 hc
        rw [show (xAtM e st k' == a) = false from h] at this; cases this
      have : k' ≤ alN Q := hk
      omega
    · have hne : k' ≠ alN Q := fun hc => by
        have := (hend k' hk).2 hc
        rw [show (xAtM e st k' == a) = false from h] at this; cases this
      have : k' ≤ alN Q := hk
      show alN Q - (k' + 1) < alN Q - k'; omega

theorem along_sound : Sound Try.prog 58 alongS.con := FSpec.sound _ (enter_of Try.func58 (by kernel_rfl) (by kernel_rfl)) along_ok
end AE.Soil

namespace AE.Soil
open Go AE Go.Proofs

/-- How far a place is from another one. -/
def D (p k : Int) : Int := max (k - p) (p - k)
theorem D_nonneg (p k : Int) : 0 ≤ D p k := by unfold D; omega
theorem D_self (p : Int) : D p p = 0 := by unfold D; omega
theorem D_comm (p k : Int) : D p k = D k p := by unfold D; omega
theorem D_tri (p j k : Int) : D p k ≤ D p j + D j k := by unfold D; omega
theorem D_le {p k n : Int} (h1 : 0 ≤ p) (h2 : p ≤ n) (h3 : 0 ≤ k) (h4 : k ≤ n) : D p k ≤ n := by unfold D; omega
theorem D_suc (k : Int) : D k (k + 1) = 1 := by unfold D; omega
theorem D_pre (k : Int) : D (k + 1) k = 1 := by unfold D; omega
theorem DR_tri (p j k r : Int) (hr : 0 ≤ r) : D p k * r ≤ D p j * r + D j k * r := by
  rw [← Int.add_mul]; exact Int.mul_le_mul_of_nonneg_right (D_tri p j k) hr
theorem DR_nonneg (p k r : Int) (hr : 0 ≤ r) : 0 ≤ D p k * r := Int.mul_nonneg (D_nonneg p k) hr
theorem DR_le {p k n r m : Int} (h : D p k ≤ n) (hr : 0 ≤ r) (hm : r ≤ m) (hn : 0 ≤ n) : D p k * r ≤ n * m := Int.mul_le_mul h hm hr hn

def Pl (g : GroundT) (k : Int) : Prop := 0 ≤ k ∧ k ≤ g.long
theorem far_eq {g : GroundT} (hg : GOk g) {p : PitT} (hp : PitOk g.long p) {k : Int} (hk : Pl g k) : farM p k g.rise = D p.1 k * g.rise ∧ 0 ≤ D p.1 k * g.rise ∧ D p.1 k * g.rise ≤ 40000 := by
  have h1 := hp.at_
  have h2 := hg.long
  have h3 := hg.rise
  have h4 : D p.1 k ≤ 40 := D_le h1.1 (by omega) hk.1 (by have := hk.2; omega)
  have h5 := DR_nonneg p.1 k g.rise h3.1
  have h6 : D p.1 k * g.rise ≤ 40000 := DR_le h4 h3.1 h3.2 (by omega)
  have hk1 := hk.1
  have hk2 := hk.2
  refine ⟨?_, h5, h6⟩
  unfold farM
  rw [show W (k - p.1) = k - p.1 from wrap_id (by omega) (by omega), show W (p.1 - k) = p.1 - k from wrap_id (by omega) (by omega)]
  exact wrap_id (by show _ ≤ D p.1 k * g.rise; omega) (by show D p.1 k * g.rise ≤ _; omega)
theorem dug_eq {g : GroundT} (hg : GOk g) {p : PitT} (hp : PitOk g.long p) {k : Int} (hk : Pl g k) : dugM p k g.rise = (p.2.1.1 - D p.1 k * g.rise, p.2.1.2 + D p.1 k * g.rise) := by
  obtain ⟨h1, h2, h3⟩ := far_eq hg hp hk
  have h4 : 0 ≤ p.2.1.1 ∧ p.2.1.1 ≤ p.2.1.2 ∧ p.2.1.2 ≤ 1000 := hp.hard
  unfold dugM
  rw [h1]
  rw [show W (p.2.1.1 - D p.1 k * g.rise) = p.2.1.1 - D p.1 k * g.rise from wrap_id (by omega) (by omega), show W (p.2.1.2 + D p.1 k * g.rise) = p.2.1.2 + D p.1 k * g.rise from wrap_id (by omega) (by omega)]
theorem fold_lo {α : Type} (f : α → Span) (v : Int) : ∀ (l : List α) (s : Span), (l.foldl (fun s t => bothM s (f t)) s).1 ≤ v ↔ s.1 ≤ v ∧ ∀ t ∈ l, (f t).1 ≤ v
  | [], s => by simp
  | x :: l, s => by
    rw [List.foldl_cons, fold_lo f v l]
    simp only [bothM, List.forall_mem_cons]
    constructor
    · rintro ⟨h1, h2⟩; exact ⟨by omega, by omega, h2⟩
    · rintro ⟨h1, h2, h3⟩; exact ⟨by omega, h3⟩
theorem fold_hi {α : Type} (f : α → Span) (v : Int) : ∀ (l : List α) (s : Span), v ≤ (l.foldl (fun s t => bothM s (f t)) s).2 ↔ v ≤ s.2 ∧ ∀ t ∈ l, v ≤ (f t).2
  | [], s => by simp
  | x :: l, s => by
    rw [List.foldl_cons, fold_hi f v l]
    simp only [bothM, List.forall_mem_cons]
    constructor
    · rintro ⟨h1, h2⟩; exact ⟨by omega, by omega, h2⟩
    · rintro ⟨h1, h2, h3⟩; exact ⟨by omega, h3⟩
theorem hard_lo {g : GroundT} (hg : GOk g) {k : Int} (hk : Pl g k) (v : Int) : (hardM g k).1 ≤ v ↔ 0 ≤ v ∧ ∀ p ∈ g.pits, p.2.1.1 - D p.1 k * g.rise ≤ v := by
  unfold hardM hardTM
  rw [fold_lo (fun t => tellM t k g.rise), tells_eq]
  simp only [List.forall_mem_cons, List.forall_mem_map, tellM, if_true]
  constructor
  · rintro ⟨h1, _, h3⟩
    refine ⟨h1, fun p hp => ?_⟩
    have := h3 p hp
    simp only [Bool.false_eq_true, if_false] at this
    rw [dug_eq hg (hg.pits p hp) hk] at this; exact this
  · rintro ⟨h1, h3⟩
    refine ⟨h1, h1, fun p hp => ?_⟩
    simp only [Bool.false_eq_true, if_false]
    rw [dug_eq hg (hg.pits p hp) hk]; exact h3 p hp
theorem hard_hi {g : GroundT} (hg : GOk g) {k : Int} (hk : Pl g k) (v : Int) : v ≤ (hardM g k).2 ↔ v ≤ 1000 ∧ ∀ p ∈ g.pits, v ≤ p.2.1.2 + D p.1 k * g.rise := by
  unfold hardM hardTM
  rw [fold_hi (fun t => tellM t k g.rise), tells_eq]
  simp only [List.forall_mem_cons, List.forall_mem_map, tellM, if_true]
  constructor
  · rintro ⟨h1, _, h3⟩
    refine ⟨h1, fun p hp => ?_⟩
    have := h3 p hp
    simp only [Bool.false_eq_true, if_false] at this
    rw [dug_eq hg (hg.pits p hp) hk] at this; exact this
  · rintro ⟨h1, h3⟩
    refine ⟨h1, h1, fun p hp => ?_⟩
    simp only [Bool.false_eq_true, if_false]
    rw [dug_eq hg (hg.pits p hp) hk]; exact h3 p hp
theorem hard_ge0 {g : GroundT} (hg : GOk g) {k : Int} (hk : Pl g k) : 0 ≤ (hardM g k).1 := ((hard_lo hg hk _).1 (Int.le_refl _)).1
theorem hard_le1000 {g : GroundT} (hg : GOk g) {k : Int} (hk : Pl g k) : (hardM g k).2 ≤ 1000 := ((hard_hi hg hk _).1 (Int.le_refl _)).1
/-- Neither end changes faster than it can. -/
theorem lip_lo {g : GroundT} (hg : GOk g) {j k : Int} (hj : Pl g j) (hk : Pl g k) : (hardM g j).1 ≤ (hardM g k).1 + D j k * g.rise := by
  obtain ⟨h1, h2⟩ := (hard_lo hg hk _).1 (Int.le_refl _)
  refine (hard_lo hg hj _).2 ⟨by have := DR_nonneg j k g.rise hg.rise.1; omega, fun p hp => ?_⟩
  have := h2 p hp
  have := DR_tri p.1 j k g.rise hg.rise.1
  omega
theorem lip_hi {g : GroundT} (hg : GOk g) {j k : Int} (hj : Pl g j) (hk : Pl g k) : (hardM g k).2 ≤ (hardM g j).2 + D j k * g.rise := by
  obtain ⟨h1, h2⟩ := (hard_hi hg hk _).1 (Int.le_refl _)
  have : (hardM g k).2 - D j k * g.rise ≤ (hardM g j).2 := by
    refine (hard_hi hg hj _).2 ⟨by have := DR_nonneg j k g.rise hg.rise.1; omega, fun p hp => ?_⟩
    have := h2 p hp
    have := DR_tri p.1 j k g.rise hg.rise.1
    omega
  omega
/-! ### truths of hardness -/
structure HTr (g : GroundT) (h : Int → Int) : Prop where
  bound : ∀ k, Pl g k → 0 ≤ h k ∧ h k ≤ 1000
  step : ∀ k, Pl g k → Pl g (k + 1) → h (k + 1) ≤ h k + g.rise ∧ h k ≤ h (k + 1) + g.rise
  pits : ∀ p ∈ g.pits, p.2.1.1 ≤ h p.1 ∧ h p.1 ≤ p.2.1.2
theorem HTr.up {g : GroundT} {h : Int → Int} (t : HTr g h) {k : Int} (hk : Pl g k) : ∀ n : Nat, Pl g (k + n) → h (k + n) ≤ h k + n * g.rise ∧ h k ≤ h (k + n) + n * g.rise
  | 0, _ => by simp
  | n + 1, hn => by
    have hk1 := hk.1
    have hk2 := hk.2
    have hn1 : 0 ≤ k + ((n + 1 : Nat) : Int) := hn.1
    have hn2 : k + ((n + 1 : Nat) : Int) ≤ g.long := hn.2
    have hp : Pl g (k + n) := ⟨by omega, by omega⟩
    obtain ⟨i1, i2⟩ := t.up hk n hp
    have he : k + ((n + 1 : Nat) : Int) = k + n + 1 := by omega
    obtain ⟨s1, s2⟩ := t.step (k + n) hp (by rw [← he]; exact hn)
    have hm : ((n + 1 : Nat) : Int) * g.rise = n * g.rise + g.rise := by rw [Int.natCast_succ, Int.add_mul, Int.one_mul]
    rw [he, hm]
    exact ⟨by omega, by omega⟩
theorem HTr.lip {g : GroundT} {h : Int → Int} (t : HTr g h) {j k : Int} (hj : Pl g j) (hk : Pl g k) : h j ≤ h k + D j k * g.rise ∧ h k ≤ h j + D j k * g.rise := by
  rcases Int.le_total j k with hl | hl
  · obtain ⟨n, hn⟩ := Int.eq_ofNat_of_zero_le (show 0 ≤ k - j by omega)
    have he : k = j + n := by omega
    subst he
    have := t.up hj n hk
    have hd : D j (j + n) = n := by unfold D; omega
    rw [hd]; omega
  · obtain ⟨n, hn⟩ := Int.eq_ofNat_of_zero_le (show 0 ≤ j - k by omega)
    have he : j = k + n := by omega
    subst he
    have := t.up hk n hj
    have hd : D (k + n) k = n := by unfold D; omega
    rw [hd]; omega
theorem HTr.inside {g : GroundT} (hg : GOk g) {h : Int → Int} (t : HTr g h) {k : Int} (hk : Pl g k) : (hardM g k).1 ≤ h k ∧ h k ≤ (hardM g k).2 := by
  obtain ⟨b1, b2⟩ := t.bound k hk
  refine ⟨(hard_lo hg hk _).2 ⟨b1, fun p hp => ?_⟩, (hard_hi hg hk _).2 ⟨b2, fun p hp => ?_⟩⟩
  · have := t.lip (hg.pits p hp).at_ hk
    have := t.pits p hp
    omega
  · have := t.lip (hg.pits p hp).at_ hk
    have := t.pits p hp
    omega
/-- All that is told of hardness can be so. -/
def HOk (g : GroundT) : Prop := ∀ k, Pl g k → (hardM g k).1 ≤ (hardM g k).2
theorem hard_pit {g : GroundT} (hg : GOk g) {p : PitT} (hp : p ∈ g.pits) : p.2.1.1 ≤ (hardM g p.1).1 ∧ (hardM g p.1).2 ≤ p.2.1.2 := by
  have hk : Pl g p.1 := (hg.pits p hp).at_
  have h1 := ((hard_lo hg hk _).1 (Int.le_refl _)).2 p hp
  have h2 := ((hard_hi hg hk _).1 (Int.le_refl _)).2 p hp
  rw [D_self] at h1 h2
  omega
theorem HOk.low {g : GroundT} (hg : GOk g) (h : HOk g) : HTr g fun k => (hardM g k).1 where
  bound := fun k hk => ⟨hard_ge0 hg hk, Int.le_trans (h k hk) (hard_le1000 hg hk)⟩
  step := fun k hk hk1 => by
    have h1 := lip_lo hg hk1 hk
    have h2 := lip_lo hg hk hk1
    rw [D_pre, Int.one_mul] at h1
    rw [D_suc, Int.one_mul] at h2
    exact ⟨h1, h2⟩
  pits := fun p hp => by
    have h1 := hard_pit hg hp
    have h2 := h p.1 (hg.pits p hp).at_
    exact ⟨h1.1, by omega⟩
theorem HTr.ok {g : GroundT} (hg : GOk g) {h : Int → Int} (t : HTr g h) : HOk g := fun k hk => by
  have := t.inside hg hk
  omega
theorem hok_iff {g : GroundT} (hg : GOk g) : HOk g ↔ ∃ h, HTr g h := ⟨fun h => ⟨_, h.low hg⟩, fun ⟨_, t⟩ => t.ok hg⟩
/-- Each number that is told is that of a truth. -/
theorem hard_any {g : GroundT} (hg : GOk g) (h : HOk g) {a n : Int} (ha : Pl g a) (h1 : (hardM g a).1 ≤ n) (h2 : n ≤ (hardM g a).2) : HTr g fun k => max (hardM g k).1 (n - D a k * g.rise) where
  bound := fun k hk => by
    have := hard_ge0 hg hk
    have := h k hk
    have := hard_le1000 hg hk
    have := hard_le1000 hg ha
    have := DR_nonneg a k g.rise hg.rise.1
    omega
  step := fun k hk hk1 => by
    have h3 := lip_lo hg hk1 hk
    have h4 := lip_lo hg hk hk1
    rw [D_pre, Int.one_mul] at h3
    rw [D_suc, Int.one_mul] at h4
    have h5 := DR_tri a k (k + 1) g.rise hg.rise.1
    have h6 := DR_tri a (k + 1) k g.rise hg.rise.1
    rw [D_suc, Int.one_mul] at h5
    rw [D_pre, Int.one_mul] at h6
    show max _ _ ≤ max _ _ + _ ∧ max _ _ ≤ max _ _ + _
    constructor <;> omega
  pits := fun p hp => by
    have h3 := hard_pit hg hp
    have h4 := h p.1 (hg.pits p hp).at_
    have h5 := lip_hi hg (hg.pits p hp).at_ ha
    rw [D_comm] at h5
    show _ ≤ max _ _ ∧ max _ _ ≤ _
    constructor <;> omega
theorem hard_any_at {g : GroundT} {a n : Int} (h1 : (hardM g a).1 ≤ n) : max (hardM g a).1 (n - D a a * g.rise) = n := by rw [D_self]; omega

/-! ### what is told or not -/
theorem place_of {g : GroundT} (hg : GOk g) {k : Int} (hk : Pl g k) : ∃ j : Nat, k = (j : Int) ∧ j < nM g := by
  obtain ⟨h0, h1, h2⟩ := n_ok hg
  obtain ⟨j, rfl⟩ := Int.eq_ofNat_of_zero_le hk.1
  exact ⟨j, rfl, by have := hk.2; omega⟩
theorem pl_of {g : GroundT} (hg : GOk g) {j : Nat} (h : j < nM g) : Pl g (j : Int) := by
  obtain ⟨h0, h1, h2⟩ := n_ok hg
  exact ⟨by omega, by omega⟩
theorem look_iff (g : GroundT) : lookM g = true ↔ ∀ j, j < nM g → (hardM g (j : Int)).1 ≤ (hardM g (j : Int)).2 ∧ noneM ((boxesM g).getD j m0) = false := by
  unfold lookM
  rw [List.all_eq_true]
  simp only [List.mem_range]
  constructor
  · intro h j hj
    have h' := h j hj
    unfold badM at h'
    simp only [Bool.not_or, Bool.and_eq_true, Bool.not_eq_true', decide_eq_false_iff_not] at h'
    exact ⟨by omega, h'.2⟩
  · intro h j hj
    have h' := h j hj
    unfold badM
    simp only [Bool.not_or, Bool.and_eq_true, Bool.not_eq_true', decide_eq_false_iff_not]
    exact ⟨by omega, h'.2⟩
theorem look_hok {g : GroundT} (hg : GOk g) (h : lookM g = true) : HOk g := fun k hk => by
  obtain ⟨j, rfl, hj⟩ := place_of hg hk
  exact ((look_iff g).1 h j hj).1
theorem err_of {g : GroundT} (hg : groundM g = true) {a : Ask} {l : List Int} (ha : l.all (askM a g.long) = true) : openErrM g a l = if lookM g then 0 else 10 := open_look hg ha
theorem err_range {g : GroundT} (hg : groundM g = true) {a : Ask} {l : List Int} (ha : l.all (askM a g.long) = false) : openErrM g a l = 2 := by unfold openErrM; rw [hg, ha]; rfl
theorem hard_told {g : GroundT} (hg : groundM g = true) {k : Int} (hk : Pl g k) : hardOM g k = if lookM g then (hardM g k, 0) else ((0, 0), 10) := by
  have ha : [k].all (askM .place g.long) = true := by simp [askM, inM]; exact hk
  unfold hardOM
  rw [err_of hg ha]
  cases lookM g <;> rfl
theorem parts_told {g : GroundT} (hg : groundM g = true) {k : Int} (hk : Pl g k) : partsOM g k = if lookM g then ((boxesM g).getD k.toNat m0, 0) else (m0, 10) := by
  have ha : [k].all (askM .place g.long) = true := by simp [askM, inM]; exact hk
  unfold partsOM
  rw [err_of hg ha]
  cases lookM g <;> rfl
theorem class_told {g : GroundT} (hg : groundM g = true) {k : Int} (hk : Pl g k) : classOM g k = if lookM g then (classesM ((boxesM g).getD k.toNat m0), 0) else (0, 10) := by
  have ha : [k].all (askM .place g.long) = true := by simp [askM, inM]; exact hk
  unfold classOM
  rw [err_of hg ha]
  cases lookM g <;> rfl
/-! ### sums -/
def sumM (g : GroundT) (a : Nat) : Nat → Span
  | 0 => (0, 0)
  | i + 1 => ((sumM g a i).1 + (hardM g ((a + i : Nat) : Int)).1, (sumM g a i).2 + (hardM g ((a + i : Nat) : Int)).2)
theorem sum_add (g : GroundT) (a m : Nat) : ∀ n, sumM g a (m + n) = ((sumM g a m).1 + (sumM g (a + m) n).1, (sumM g a m).2 + (sumM g (a + m) n).2)
  | 0 => by simp [sumM]
  | n + 1 => by
    rw [← Nat.add_assoc, sumM, sum_add g a m n, sumM, Nat.add_assoc a m n, Int.add_assoc, Int.add_assoc]
theorem sum_bound {g : GroundT} (hg : GOk g) (h : HOk g) (a : Nat) : ∀ i, a + i ≤ nM g → 0 ≤ (sumM g a i).1 ∧ (sumM g a i).1 ≤ (sumM g a i).2 ∧ (sumM g a i).2 ≤ 1000 * i
  | 0, _ => by simp [sumM]
  | i + 1, hi => by
    obtain ⟨h1, h2, h3⟩ := sum_bound hg h a i (by omega)
    have hk := pl_of hg (show a + i < nM g by omega)
    have := hard_ge0 hg hk
    have := h _ hk
    have := hard_le1000 hg hk
    simp only [sumM]
    omega
theorem workAt_eq {g : GroundT} (hg : GOk g) (h : HOk g) (a : Int) : ∀ i, a.toNat + i ≤ nM g → workAtM g a i = sumM g a.toNat i
  | 0, _ => rfl
  | i + 1, hi => by
    have e := workAt_eq hg h a i (by omega)
    obtain ⟨h1, h2, h3⟩ := sum_bound hg h a.toNat i (by omega)
    have hn := (n_ok hg).2.2
    have hk := pl_of hg (show a.toNat + i < nM g by omega)
    have := hard_ge0 hg hk
    have := h _ hk
    have := hard_le1000 hg hk
    rw [workAtM, e, hards_get (by omega), sumM, show W ((sumM g a.toNat i).1 + (hardM g ((a.toNat + i : Nat) : Int)).1) = _ from wrap_id (by omega) (by omega), show W ((sumM g a.toNat i).2 + (hardM g ((a.toNat + i : Nat) : Int)).2) = _ from wrap_id (by omega) (by omega)]
theorem work_told {g : GroundT} (hg : groundM g = true) {a b : Int} (ha : Pl g a) (hb : Pl g b) (hab : a ≤ b) : workOM g a b = if lookM g then (sumM g a.toNat (b.toNat + 1 - a.toNat), 0) else ((0, 0), 10) := by
  have hs : [a, b].all (askM (.span (spanOkM a b)) g.long) = true := by simp [askM, inM, spanOkM]; exact ⟨⟨ha, hab⟩, hb, hab⟩
  have hok := ground_ok hg
  have hn := n_ok hok
  have hb2 := hb.2
  have hb1 := hb.1
  have ha1 := ha.1
  unfold workOM workErrM
  rw [err_of hg hs]
  cases hl : lookM g with
  | false => rfl
  | true =>
    have hw : W (b + 1) = b + 1 := wrap_id (by omega) (by omega)
    have e : workNM a b = b.toNat + 1 - a.toNat := by unfold workNM; rw [hw]; omega
    show (workAtM g a (workNM a b), (0 : Int)) = _
    rw [e, workAt_eq hok (look_hok hok hl) a _ (by omega)]; rfl
theorem work_range {g : GroundT} (hg : groundM g = true) {a b : Int} (hab : ¬ (Pl g a ∧ Pl g b ∧ a ≤ b)) : workOM g a b = ((0, 0), 2) := by
  have hs : [a, b].all (askM (.span (spanOkM a b)) g.long) = false := by
    have : ¬ [a, b].all (askM (.span (spanOkM a b)) g.long) = true := by
      simp [askM, inM, spanOkM]
      intro h1 h2 h3 h4 h5
      exact absurd ⟨⟨h1, h2⟩, ⟨h4, h5⟩, h3⟩ hab
    simpa using this
  unfold workOM workErrM
  rw [err_range hg hs]; rfl
/-! ### where to dig -/
theorem dig_at {g : GroundT} (hg : GOk g) (h : HOk g) : ∀ i, i ≤ nM g → (i = 0 → digAtM (hardsM g (nM g)) i = (0, -1)) ∧ (0 < i → ∃ a : Nat, a < i ∧ digAtM (hardsM g (nM g)) i = ((a : Int), (hardM g (a : Int)).2 - (hardM g (a : Int)).1) ∧ ∀ k : Nat, k < i → (hardM g (k : Int)).2 - (hardM g (k : Int)).1 ≤ (hardM g (a : Int)).2 - (hardM g (a : Int)).1 ∧ (k < a → (hardM g (k : Int)).2 - (hardM g (k : Int)).1 < (hardM g (a : Int)).2 - (hardM g (a : Int)).1))
  | 0, _ => ⟨fun _ => rfl, fun h => absurd h (Nat.lt_irrefl _)⟩
  | i + 1, hi => by
    refine ⟨fun h => absurd h (by omega), fun _ => ?_⟩
    obtain ⟨i1, i2⟩ := dig_at hg h i (by omega)
    have hk := pl_of hg (show i < nM g by omega)
    have b1 := hard_ge0 hg hk
    have b2 := h _ hk
    have b3 := hard_le1000 hg hk
    have hW : W ((hardM g (i : Int)).2 - (hardM g (i : Int)).1) = (hardM g (i : Int)).2 - (hardM g (i : Int)).1 := wrap_id (by omega) (by omega)
    have e : digAtM (hardsM g (nM g)) (i + 1) = digStepM i (hardM g (i : Int)) (digAtM (hardsM g (nM g)) i) := by rw [digAtM, hards_get (by omega)]
    rw [e]
    unfold digStepM
    rw [hW]
    by_cases h0 : i = 0
    · subst h0
      rw [i1 rfl, if_pos (by show _ > (-1 : Int); omega)]
      refine ⟨0, by omega, rfl, fun k hk => ?_⟩
      have : k = 0 := by omega
      subst this
      exact ⟨Int.le_refl _, fun h => absurd h (Nat.lt_irrefl _)⟩
    · obtain ⟨a, ha, he, hall⟩ := i2 (by omega)
      rw [he]
      by_cases hc : (hardM g (i : Int)).2 - (hardM g (i : Int)).1 > (hardM g (a : Int)).2 - (hardM g (a : Int)).1
      · rw [if_pos hc]
        refine ⟨i, by omega, rfl, fun k hk => ?_⟩
        rcases Nat.lt_or_eq_of_le (Nat.le_of_lt_succ hk) with hlt | rfl
        · have := (hall k hlt).1
          exact ⟨by omega, fun _ => by omega⟩
        · exact ⟨Int.le_refl _, fun h => absurd h (Nat.lt_irrefl _)⟩
      · rw [if_neg hc]
        refine ⟨a, by omega, rfl, fun k hk => ?_⟩
        rcases Nat.lt_or_eq_of_le (Nat.le_of_lt_succ hk) with hlt | rfl
        · exact hall k hlt
        · exact ⟨by omega, fun _ => by omega⟩
theorem dig_told {g : GroundT} (hg : groundM g = true) (hl : lookM g = true) : ∃ a : Nat, a < nM g ∧ digOM g = ((a : Int), (hardM g (a : Int)).2 - (hardM g (a : Int)).1, 0) ∧ ∀ k : Nat, k < nM g → (hardM g (k : Int)).2 - (hardM g (k : Int)).1 ≤ (hardM g (a : Int)).2 - (hardM g (a : Int)).1 ∧ (k < a → (hardM g (k : Int)).2 - (hardM g (k : Int)).1 < (hardM g (a : Int)).2 - (hardM g (a : Int)).1) := by
  have hok := ground_ok hg
  obtain ⟨_, h2⟩ := dig_at hok (look_hok hok hl) (nM g) (Nat.le_refl _)
  obtain ⟨a, ha, he, hall⟩ := h2 (n_ok hok).2.1
  refine ⟨a, ha, ?_, hall⟩
  unfold digOM digErrM
  rw [err_of hg (by rfl), hl]
  show ((digAtM (hardsM g (nM g)) (nM g)).1, (digAtM (hardsM g (nM g)) (nM g)).2, (0 : Int)) = _
  rw [he]
theorem dig_clash {g : GroundT} (hg : groundM g = true) (hl : lookM g = false) : digOM g = (0, 0, 10) := by
  unfold digOM digErrM
  rw [err_of hg (by rfl), hl]; rfl
end AE.Soil

namespace AE.Soil
open Go AE Go.Proofs

abbrev T3 := Int × Int × Int
/-- Three parts that are all there is. -/
def Ok3 (x : T3) : Prop := x.1 + x.2.1 + x.2.2 = 20 ∧ 0 ≤ x.1 ∧ 0 ≤ x.2.1 ∧ 0 ≤ x.2.2
def In (s : Span) (n : Int) : Prop := s.1 ≤ n ∧ n ≤ s.2
/-- A mix that a box holds. -/
def Mem (m : Mix3) (x : T3) : Prop := x.1 + x.2.1 + x.2.2 = 20 ∧ In m.1 x.1 ∧ In m.2.1 x.2.1 ∧ In m.2.2 x.2.2
structure Tight (m : Mix3) : Prop where
  a : 0 ≤ m.1.1 ∧ m.1.1 ≤ m.1.2 ∧ m.1.2 ≤ 20
  b : 0 ≤ m.2.1.1 ∧ m.2.1.1 ≤ m.2.1.2 ∧ m.2.1.2 ≤ 20
  c : 0 ≤ m.2.2.1 ∧ m.2.2.1 ≤ m.2.2.2 ∧ m.2.2.2 ≤ 20
  la : 20 ≤ m.1.1 + m.2.1.2 + m.2.2.2
  lb : 20 ≤ m.1.2 + m.2.1.1 + m.2.2.2
  lc : 20 ≤ m.1.2 + m.2.1.2 + m.2.2.1
  ha : m.1.2 + m.2.1.1 + m.2.2.1 ≤ 20
  hb : m.1.1 + m.2.1.2 + m.2.2.1 ≤ 20
  hc : m.1.1 + m.2.1.1 + m.2.2.2 ≤ 20
def Bd1 (n : Int) : Prop := -60 ≤ n ∧ n ≤ 60
structure Bd (m : Mix3) : Prop where
  a : Bd1 m.1.1 ∧ Bd1 m.1.2
  b : Bd1 m.2.1.1 ∧ Bd1 m.2.1.2
  c : Bd1 m.2.2.1 ∧ Bd1 m.2.2.2
def Good (m : Mix3) : Prop := (noneM m = true ∧ Bd m) ∨ Tight m
theorem none_iff (m : Mix3) : noneM m = true ↔ (m.1.1 > m.1.2 ∨ m.2.1.1 > m.2.1.2) ∨ m.2.2.1 > m.2.2.2 := by simp [noneM]
theorem some_iff (m : Mix3) : noneM m = false ↔ m.1.1 ≤ m.1.2 ∧ m.2.1.1 ≤ m.2.1.2 ∧ m.2.2.1 ≤ m.2.2.2 := by
  cases h : noneM m with
  | true => rw [none_iff] at h; constructor <;> intro h2 <;> first | (cases h2; done) | omega
  | false =>
    have : ¬ noneM m = true := by rw [h]; decide
    rw [none_iff] at this
    exact ⟨fun _ => by omega, fun _ => rfl⟩
theorem Tight.some {m : Mix3} (h : Tight m) : noneM m = false := (some_iff m).2 ⟨h.a.2.1, h.b.2.1, h.c.2.1⟩
theorem Tight.bd {m : Mix3} (h : Tight m) : Bd m where
  a := by have := h.a; unfold Bd1; omega
  b := by have := h.b; unfold Bd1; omega
  c := by have := h.c; unfold Bd1; omega
theorem Good.bd {m : Mix3} (h : Good m) : Bd m := by
  rcases h with h | h
  · exact h.2
  · exact h.bd
theorem Good.tight {m : Mix3} (h : Good m) (hs : noneM m = false) : Tight m := by
  rcases h with h | h
  · rw [h.1] at hs; cases hs
  · exact h
/-- Three spans hold numbers that are so much together. -/
theorem pt3 {p1 q1 p2 q2 p3 q3 s : Int} (h1 : p1 ≤ q1) (h2 : p2 ≤ q2) (h3 : p3 ≤ q3) (hl : p1 + p2 + p3 ≤ s) (hh : s ≤ q1 + q2 + q3) : ∃ x : T3, x.1 + x.2.1 + x.2.2 = s ∧ In (p1, q1) x.1 ∧ In (p2, q2) x.2.1 ∧ In (p3, q3) x.2.2 := by
  obtain ⟨a, ha⟩ : ∃ a, a = max p1 (s - q2 - q3) := ⟨_, rfl⟩
  obtain ⟨b, hb⟩ : ∃ b, b = max p2 (s - a - q3) := ⟨_, rfl⟩
  refine ⟨(a, b, s - a - b), ?_, ⟨?_, ?_⟩, ⟨?_, ?_⟩, ?_, ?_⟩ <;> dsimp only <;> omega
theorem Tight.lowA {m : Mix3} (h : Tight m) {v : Int} (hv : In m.1 v) : ∃ x, Mem m x ∧ x.1 = v := by
  obtain ⟨ha, hb, hc, la, lb, lc, ka, kb, kc⟩ := h
  obtain ⟨v1, v2⟩ := hv
  obtain ⟨x, h1, h2, h3, h4⟩ := pt3 (p1 := v) (q1 := v) (p2 := m.2.1.1) (q2 := m.2.1.2) (p3 := m.2.2.1) (q3 := m.2.2.2) (s := 20) (Int.le_refl _) hb.2.1 hc.2.1 (by omega) (by omega)
  have e : x.1 = v := by have := h2.1; have := h2.2; dsimp only at *; omega
  exact ⟨x, ⟨h1, by rw [e]; exact ⟨v1, v2⟩, h3, h4⟩, e⟩
theorem Tight.lowB {m : Mix3} (h : Tight m) {v : Int} (hv : In m.2.1 v) : ∃ x, Mem m x ∧ x.2.1 = v := by
  obtain ⟨ha, hb, hc, la, lb, lc, ka, kb, kc⟩ := h
  obtain ⟨v1, v2⟩ := hv
  obtain ⟨x, h1, h2, h3, h4⟩ := pt3 (p2 := v) (q2 := v) (p1 := m.1.1) (q1 := m.1.2) (p3 := m.2.2.1) (q3 := m.2.2.2) (s := 20) ha.2.1 (Int.le_refl _) hc.2.1 (by omega) (by omega)
  have e : x.2.1 = v := by have := h3.1; have := h3.2; dsimp only at *; omega
  exact ⟨x, ⟨h1, h2, by rw [e]; exact ⟨v1, v2⟩, h4⟩, e⟩
theorem Tight.lowC {m : Mix3} (h : Tight m) {v : Int} (hv : In m.2.2 v) : ∃ x, Mem m x ∧ x.2.2 = v := by
  obtain ⟨ha, hb, hc, la, lb, lc, ka, kb, kc⟩ := h
  obtain ⟨v1, v2⟩ := hv
  obtain ⟨x, h1, h2, h3, h4⟩ := pt3 (p3 := v) (q3 := v) (p1 := m.1.1) (q1 := m.1.2) (p2 := m.2.1.1) (q2 := m.2.1.2) (s := 20) ha.2.1 hb.2.1 (Int.le_refl _) (by omega) (by omega)
  have e : x.2.2 = v := by have := h4.1; have := h4.2; dsimp only at *; omega
  exact ⟨x, ⟨h1, h2, h3, by rw [e]; exact ⟨v1, v2⟩⟩, e⟩
theorem Tight.ex {m : Mix3} (h : Tight m) : ∃ x, Mem m x := by
  obtain ⟨x, hx, _⟩ := h.lowA ⟨Int.le_refl _, h.a.2.1⟩
  exact ⟨x, hx⟩
theorem Mem.some {m : Mix3} {x : T3} (h : Mem m x) : noneM m = false := by
  obtain ⟨_, h1, h2, h3⟩ := h
  exact (some_iff m).2 ⟨Int.le_trans h1.1 h1.2, Int.le_trans h2.1 h2.2, Int.le_trans h3.1 h3.2⟩
theorem Good.ex_iff {m : Mix3} (h : Good m) : noneM m = false ↔ ∃ x, Mem m x := ⟨fun hs => (h.tight hs).ex, fun ⟨_, hx⟩ => hx.some⟩
theorem Mem.ok3 {m : Mix3} (h : Good m) {x : T3} (hx : Mem m x) : Ok3 x := by
  have t := h.tight hx.some
  obtain ⟨h0, h1, h2, h3⟩ := hx
  exact ⟨h0, Int.le_trans t.a.1 h1.1, Int.le_trans t.b.1 h2.1, Int.le_trans t.c.1 h3.1⟩
/-! ### as tight as can be -/
theorem one_eq {a b c : Span} (hb : Bd1 b.1 ∧ Bd1 b.2) (hc : Bd1 c.1 ∧ Bd1 c.2) : oneM a b c = (max (max 0 a.1) (20 - b.2 - c.2), min (min 20 a.2) (20 - b.1 - c.1)) := by
  obtain ⟨⟨b1, b2⟩, b3, b4⟩ := hb
  obtain ⟨⟨c1, c2⟩, c3, c4⟩ := hc
  unfold oneM
  rw [show W (20 - b.2) = 20 - b.2 from wrap_id (by omega) (by omega), show W (20 - b.1) = 20 - b.1 from wrap_id (by omega) (by omega), show W (20 - b.2 - c.2) = 20 - b.2 - c.2 from wrap_id (by omega) (by omega), show W (20 - b.1 - c.1) = 20 - b.1 - c.1 from wrap_id (by omega) (by omega)]
theorem tight_eq {m : Mix3} (h : Bd m) : tightM m = ((max (max 0 m.1.1) (20 - m.2.1.2 - m.2.2.2), min (min 20 m.1.2) (20 - m.2.1.1 - m.2.2.1)), (max (max 0 m.2.1.1) (20 - m.1.2 - m.2.2.2), min (min 20 m.2.1.2) (20 - m.1.1 - m.2.2.1)), (max (max 0 m.2.2.1) (20 - m.1.2 - m.2.1.2), min (min 20 m.2.2.2) (20 - m.1.1 - m.2.1.1))) := by
  unfold tightM
  rw [one_eq h.b h.c, one_eq h.a h.c, one_eq h.a h.b]
theorem max3 {L a b c : Int} (h : L = max (max a b) c) : a ≤ L ∧ b ≤ L ∧ c ≤ L ∧ (L = a ∨ L = b ∨ L = c) := by omega
theorem min3 {L a b c : Int} (h : L = min (min a b) c) : L ≤ a ∧ L ≤ b ∧ L ≤ c ∧ (L = a ∨ L = b ∨ L = c) := by omega
theorem tight_mem {m : Mix3} (h : Bd m) (x : T3) : Mem (tightM m) x ↔ Mem m x ∧ Ok3 x := by
  rw [tight_eq h]
  unfold Mem Ok3 In
  dsimp only
  simp only [Int.max_le, Int.le_min]
  constructor
  · rintro ⟨h0, h1, h2, h3⟩
    exact ⟨⟨h0, ⟨h1.1.1.2, h1.2.1.2⟩, ⟨h2.1.1.2, h2.2.1.2⟩, ⟨h3.1.1.2, h3.2.1.2⟩⟩, h0, h1.1.1.1, h2.1.1.1, h3.1.1.1⟩
  · rintro ⟨⟨h0, h1, h2, h3⟩, _, h4, h5, h6⟩
    refine ⟨h0, ⟨⟨⟨h4, h1.1⟩, ?_⟩, ⟨?_, h1.2⟩, ?_⟩, ⟨⟨⟨h5, h2.1⟩, ?_⟩, ⟨?_, h2.2⟩, ?_⟩, ⟨⟨h6, h3.1⟩, ?_⟩, ⟨?_, h3.2⟩, ?_⟩ <;> omega
/-- An end of one span, and the others' other ends. -/
theorem end_lo {a1 a2 b1 b2 c1 c2 La Ha Lb Hb Lc Hc : Int} (la : La = max (max 0 a1) (20 - b2 - c2)) (ha : Ha = min (min 20 a2) (20 - b1 - c1)) (lb : Lb = max (max 0 b1) (20 - a2 - c2)) (hb : Hb = min (min 20 b2) (20 - a1 - c1)) (lc : Lc = max (max 0 c1) (20 - a2 - b2)) (hc : Hc = min (min 20 c2) (20 - a1 - b1))
    (na : La ≤ Ha) (nb : Lb ≤ Hb) (nc : Lc ≤ Hc) : 20 ≤ La + Hb + Hc := by
  obtain ⟨f1, f2, f3, _⟩ := max3 la
  obtain ⟨_, _, f6, _⟩ := min3 ha
  obtain ⟨g1, g2, _, _⟩ := max3 lb
  obtain ⟨_, f9, _, f7⟩ := min3 hb
  obtain ⟨g3, g4, _, _⟩ := max3 lc
  obtain ⟨_, f10, _, f8⟩ := min3 hc
  clear la ha lb hb lc hc
  rcases f7 with e1 | e1 | e1 <;> rcases f8 with e2 | e2 | e2 <;> omega
theorem end_hi {a1 a2 b1 b2 c1 c2 La Ha Lb Hb Lc Hc : Int} (la : La = max (max 0 a1) (20 - b2 - c2)) (ha : Ha = min (min 20 a2) (20 - b1 - c1)) (lb : Lb = max (max 0 b1) (20 - a2 - c2)) (hb : Hb = min (min 20 b2) (20 - a1 - c1)) (lc : Lc = max (max 0 c1) (20 - a2 - b2)) (hc : Hc = min (min 20 c2) (20 - a1 - b1))
    (na : La ≤ Ha) (nb : Lb ≤ Hb) (nc : Lc ≤ Hc) (wb : 0 ≤ b1 ∨ a2 + c1 ≤ 20) (wc : 0 ≤ c1 ∨ a2 + b1 ≤ 20) : Ha + Lb + Lc ≤ 20 := by
  obtain ⟨f1, f2, f3, _⟩ := max3 la
  obtain ⟨h1, h2, h3, _⟩ := min3 ha
  obtain ⟨g1, g2, _, f7⟩ := max3 lb
  obtain ⟨k1, k2, k3, _⟩ := min3 hb
  obtain ⟨g3, g4, _, f8⟩ := max3 lc
  obtain ⟨k4, k5, k6, _⟩ := min3 hc
  clear la ha lb hb lc hc
  rcases f7 with e1 | e1 | e1 <;> rcases f8 with e2 | e2 | e2 <;> omega
/-- Six ends, as tight as can be. -/
theorem six_ends {a1 a2 b1 b2 c1 c2 La Ha Lb Hb Lc Hc : Int} (la : La = max (max 0 a1) (20 - b2 - c2)) (ha : Ha = min (min 20 a2) (20 - b1 - c1)) (lb : Lb = max (max 0 b1) (20 - a2 - c2)) (hb : Hb = min (min 20 b2) (20 - a1 - c1)) (lc : Lc = max (max 0 c1) (20 - a2 - b2)) (hc : Hc = min (min 20 c2) (20 - a1 - b1))
    (na : La ≤ Ha) (nb : Lb ≤ Hb) (nc : Lc ≤ Hc) (wab : 0 ≤ b1 ∨ a2 + c1 ≤ 20) (wac : 0 ≤ c1 ∨ a2 + b1 ≤ 20) (wba : 0 ≤ a1 ∨ b2 + c1 ≤ 20) (wbc : 0 ≤ c1 ∨ b2 + a1 ≤ 20) (wca : 0 ≤ a1 ∨ c2 + b1 ≤ 20) (wcb : 0 ≤ b1 ∨ c2 + a1 ≤ 20) : Tight ((La, Ha), (Lb, Hb), (Lc, Hc)) := by
  have s1 : 20 - c2 - b2 = 20 - b2 - c2 := by omega
  have s2 : 20 - c1 - b1 = 20 - b1 - c1 := by omega
  have s3 : 20 - c2 - a2 = 20 - a2 - c2 := by omega
  have s4 : 20 - c1 - a1 = 20 - a1 - c1 := by omega
  have s5 : 20 - b2 - a2 = 20 - a2 - b2 := by omega
  have s6 : 20 - b1 - a1 = 20 - a1 - b1 := by omega
  have r1 := end_lo la ha lb hb lc hc na nb nc
  have r2 := end_lo (a1 := b1) (a2 := b2) (b1 := a1) (b2 := a2) (c1 := c1) (c2 := c2) lb hb la ha (by rw [s5]; exact lc) (by rw [s6]; exact hc) nb na nc
  have r3 := end_lo (a1 := c1) (a2 := c2) (b1 := a1) (b2 := a2) (c1 := b1) (c2 := b2) lc hc (by rw [s1]; exact la) (by rw [s2]; exact ha) (by rw [s3]; exact lb) (by rw [s4]; exact hb) nc na nb
  have t1 := end_hi la ha lb hb lc hc na nb nc wab wac
  have t2 := end_hi (a1 := b1) (a2 := b2) (b1 := a1) (b2 := a2) (c1 := c1) (c2 := c2) lb hb la ha (by rw [s5]; exact lc) (by rw [s6]; exact hc) nb na nc wba wbc
  have t3 := end_hi (a1 := c1) (a2 := c2) (b1 := a1) (b2 := a2) (c1 := b1) (c2 := b2) lc hc (by rw [s1]; exact la) (by rw [s2]; exact ha) (by rw [s3]; exact lb) (by rw [s4]; exact hb) nc na nb wca wcb
  have f1 := (max3 la).1
  have f2 := (min3 ha).1
  have f3 := (max3 lb).1
  have f4 := (min3 hb).1
  have f5 := (max3 lc).1
  have f6 := (min3 hc).1
  exact ⟨⟨f1, na, f2⟩, ⟨f3, nb, f4⟩, ⟨f5, nc, f6⟩, r1, by show 20 ≤ Ha + Lb + Hc; clear la ha lb hb lc hc; omega, by show 20 ≤ Ha + Hb + Lc; clear la ha lb hb lc hc; omega, t1, by show La + Hb + Lc ≤ 20; clear la ha lb hb lc hc; omega, by show La + Lb + Hc ≤ 20; clear la ha lb hb lc hc; omega⟩
/-- None lies below none, or what others leave does not reach there. -/
structure Pw (m : Mix3) : Prop where
  ab : 0 ≤ m.2.1.1 ∨ m.1.2 + m.2.2.1 ≤ 20
  ac : 0 ≤ m.2.2.1 ∨ m.1.2 + m.2.1.1 ≤ 20
  ba : 0 ≤ m.1.1 ∨ m.2.1.2 + m.2.2.1 ≤ 20
  bc : 0 ≤ m.2.2.1 ∨ m.2.1.2 + m.1.1 ≤ 20
  ca : 0 ≤ m.1.1 ∨ m.2.2.2 + m.2.1.1 ≤ 20
  cb : 0 ≤ m.2.1.1 ∨ m.2.2.2 + m.1.1 ≤ 20
theorem tight_good {m : Mix3} (h : Bd m) (w : Pw m) (hs : noneM (tightM m) = false) : Tight (tightM m) := by
  rw [tight_eq h] at hs ⊢
  obtain ⟨na, nb, nc⟩ := (some_iff _).1 hs
  exact six_ends rfl rfl rfl rfl rfl rfl na nb nc w.ab w.ac w.ba w.bc w.ca w.cb
theorem tight_bd {m : Mix3} (h : Bd m) (ha : m.1.1 ≤ 20 ∧ 0 ≤ m.1.2) (hb : m.2.1.1 ≤ 20 ∧ 0 ≤ m.2.1.2) (hc : m.2.2.1 ≤ 20 ∧ 0 ≤ m.2.2.2) : Bd (tightM m) := by
  rw [tight_eq h]
  obtain ⟨⟨⟨a1, a2⟩, a3, a4⟩, ⟨⟨b1, b2⟩, b3, b4⟩, ⟨c1, c2⟩, c3, c4⟩ := h
  have up : ∀ x y z : Int, x ≤ 20 → 0 ≤ y → 0 ≤ z → Bd1 (max (max 0 x) (20 - y - z)) := fun x y z _ _ _ => by unfold Bd1; omega
  have dn : ∀ x y z : Int, 0 ≤ x → y ≤ 20 → z ≤ 20 → Bd1 (min (min 20 x) (20 - y - z)) := fun x y z _ _ _ => by unfold Bd1; omega
  exact ⟨⟨up _ _ _ ha.1 hb.2 hc.2, dn _ _ _ ha.2 hb.1 hc.1⟩, ⟨up _ _ _ hb.1 ha.2 hc.2, dn _ _ _ hb.2 ha.1 hc.1⟩, ⟨up _ _ _ hc.1 ha.2 hb.2, dn _ _ _ hc.2 ha.1 hb.1⟩⟩
/-! ### what two boxes have in common -/
theorem meet_mem (m o : Mix3) (x : T3) : Mem (meetM m o) x ↔ Mem m x ∧ Mem o x := by
  unfold Mem meetM bothM In
  dsimp only
  constructor
  · rintro ⟨h0, h1, h2, h3⟩
    exact ⟨⟨h0, by omega, by omega, by omega⟩, h0, by omega, by omega, by omega⟩
  · rintro ⟨⟨h0, h1, h2, h3⟩, _, h4, h5, h6⟩
    exact ⟨h0, by omega, by omega, by omega⟩
theorem meet_bd {m o : Mix3} (h : Bd m) (k : Bd o) : Bd (meetM m o) := by
  obtain ⟨ha, hb, hc⟩ := h
  obtain ⟨ka, kb, kc⟩ := k
  unfold Bd1 at *
  constructor <;> unfold meetM bothM Bd1 <;> dsimp only <;> omega
theorem and_mem {m o : Mix3} (h : Good m) (k : Bd o) (x : T3) : Mem (andM m o) x ↔ Mem m x ∧ Mem o x := by
  unfold andM
  by_cases hc : meetM m o = m ∨ noneM (meetM m o) = true
  · rw [if_pos hc]; exact meet_mem m o x
  · rw [if_neg hc, tight_mem (meet_bd h.bd k), meet_mem]
    exact ⟨fun hx => hx.1, fun hx => ⟨hx, hx.1.ok3 h⟩⟩
theorem and_good {m o : Mix3} (h : Good m) (k : Bd o) : Good (andM m o) := by
  unfold andM
  by_cases hc : meetM m o = m ∨ noneM (meetM m o) = true
  · rw [if_pos hc]
    rcases hc with hc | hc
    · rw [hc]; exact h
    · exact .inl ⟨hc, meet_bd h.bd k⟩
  · rw [if_neg hc]
    have hb := meet_bd h.bd k
    have hs : noneM (meetM m o) = false := by simpa using fun h => hc (.inr h)
    -- its spans lie within those of a box that is tight
    obtain ⟨h1, h2, h3⟩ := (some_iff _).1 hs
    have b1 : (meetM m o).1.1 ≤ (meetM m o).1.2 ∧ (meetM m o).1.2 ≤ m.1.2 ∧ m.1.1 ≤ (meetM m o).1.1 := ⟨h1, by unfold meetM bothM; dsimp only; omega, by unfold meetM bothM; dsimp only; omega⟩
    have b2 : (meetM m o).2.1.1 ≤ (meetM m o).2.1.2 ∧ (meetM m o).2.1.2 ≤ m.2.1.2 ∧ m.2.1.1 ≤ (meetM m o).2.1.1 := ⟨h2, by unfold meetM bothM; dsimp only; omega, by unfold meetM bothM; dsimp only; omega⟩
    have b3 : (meetM m o).2.2.1 ≤ (meetM m o).2.2.2 ∧ (meetM m o).2.2.2 ≤ m.2.2.2 ∧ m.2.2.1 ≤ (meetM m o).2.2.1 := ⟨h3, by unfold meetM bothM; dsimp only; omega, by unfold meetM bothM; dsimp only; omega⟩
    have hm : noneM m = false := (some_iff m).2 ⟨by omega, by omega, by omega⟩
    have t := h.tight hm
    have ta := t.a
    have tb := t.b
    have tc := t.c
    cases hn : noneM (tightM (meetM m o)) with
    | false => exact .inr (tight_good hb ⟨.inl (by omega), .inl (by omega), .inl (by omega), .inl (by omega), .inl (by omega), .inl (by omega)⟩ hn)
    | true => exact .inl ⟨hn, tight_bd hb ⟨by omega, by omega⟩ ⟨by omega, by omega⟩ ⟨by omega, by omega⟩⟩
/-! ### what the next place can have -/
def Near (c : Int) (x y : T3) : Prop := (x.1 - y.1 ≤ c ∧ y.1 - x.1 ≤ c) ∧ (x.2.1 - y.2.1 ≤ c ∧ y.2.1 - x.2.1 ≤ c) ∧ (x.2.2 - y.2.2 ≤ c ∧ y.2.2 - x.2.2 ≤ c)
theorem Near.symm {c : Int} {x y : T3} (h : Near c x y) : Near c y x := ⟨h.1.symm, h.2.1.symm, h.2.2.symm⟩
theorem wide_eq {s : Span} {c : Int} (hs : 0 ≤ s.1 ∧ s.2 ≤ 20) (h2 : s.1 ≤ 20 ∧ 0 ≤ s.2) (hc : 0 ≤ c ∧ c ≤ 20) : wideM s c = (s.1 - c, s.2 + c) := by
  unfold wideM
  rw [show W (s.1 - c) = s.1 - c from wrap_id (by omega) (by omega), show W (s.2 + c) = s.2 + c from wrap_id (by omega) (by omega)]
theorem next_eq {m : Mix3} (h : Tight m) {c : Int} (hc : 0 ≤ c ∧ c ≤ 20) : nextM m c = tightM ((m.1.1 - c, m.1.2 + c), (m.2.1.1 - c, m.2.1.2 + c), (m.2.2.1 - c, m.2.2.2 + c)) := by
  have ta := h.a
  have tb := h.b
  have tc := h.c
  unfold nextM
  rw [h.some, if_neg (by decide), wide_eq ⟨by omega, by omega⟩ ⟨by omega, by omega⟩ hc, wide_eq ⟨by omega, by omega⟩ ⟨by omega, by omega⟩ hc, wide_eq ⟨by omega, by omega⟩ ⟨by omega, by omega⟩ hc]
theorem next_bd {m : Mix3} (h : Tight m) {c : Int} (hc : 0 ≤ c ∧ c ≤ 20) : Bd ((m.1.1 - c, m.1.2 + c), (m.2.1.1 - c, m.2.1.2 + c), (m.2.2.1 - c, m.2.2.2 + c)) := by
  have ta := h.a
  have tb := h.b
  have tc := h.c
  constructor <;> unfold Bd1 <;> dsimp only <;> omega
theorem cut2 {l h y c : Int} (h0 : l ≤ h) (h1 : l - c ≤ y) (h2 : y ≤ h + c) (hc : 0 ≤ c) : ∃ p q : Int, l ≤ p ∧ y - c ≤ p ∧ q ≤ h ∧ q ≤ y + c ∧ (p = l ∨ p = y - c) ∧ (q = h ∨ q = y + c) ∧ p ≤ q := ⟨max l (y - c), min h (y + c), by omega, by omega, by omega, by omega, by omega, by omega, by omega⟩
theorem next_mem {m : Mix3} (h : Good m) {c : Int} (hc : 0 ≤ c ∧ c ≤ 20) (y : T3) : Mem (nextM m c) y ↔ Ok3 y ∧ ∃ x, Mem m x ∧ Near c x y := by
  cases hs : noneM m with
  | true =>
    have e : nextM m c = m := by unfold nextM; rw [hs]; rfl
    rw [e]
    constructor
    · intro hy; have := hy.some; rw [hs] at this; cases this
    · rintro ⟨_, x, hx, _⟩; have := hx.some; rw [hs] at this; cases this
  | false =>
    have t := h.tight hs
    rw [next_eq t hc, tight_mem (next_bd t hc)]
    constructor
    · rintro ⟨⟨h0, ⟨h1, h2⟩, ⟨h3, h4⟩, h5, h6⟩, hy⟩
      refine ⟨hy, ?_⟩
      dsimp only at h1 h2 h3 h4 h5 h6
      obtain ⟨ta, tb, tc, la, lb, lc, ka, kb, kc⟩ := t
      obtain ⟨p1, q1, a1, a2, a3, a4, g1, k1, r1⟩ := cut2 (y := y.1) ta.2.1 h1 h2 hc.1
      obtain ⟨p2, q2, b1, b2, b3, b4, g2, k2, r2⟩ := cut2 (y := y.2.1) tb.2.1 h3 h4 hc.1
      obtain ⟨p3, q3, c1, c2, c3, c4, g3, k3, r3⟩ := cut2 (y := y.2.2) tc.2.1 h5 h6 hc.1
      have hy1 := hy.1
      have rl : p1 + p2 + p3 ≤ 20 := by
        clear k1 k2 k3 r1 r2 r3 a1 a2 a3 a4 b1 b2 b3 b4 c1 c2 c3 c4
        rcases g1 with g1 | g1 <;> rcases g2 with g2 | g2 <;> rcases g3 with g3 | g3 <;> omega
      have rh : 20 ≤ q1 + q2 + q3 := by
        clear g1 g2 g3 r1 r2 r3 rl a1 a2 a3 a4 b1 b2 b3 b4 c1 c2 c3 c4
        rcases k1 with k1 | k1 <;> rcases k2 with k2 | k2 <;> rcases k3 with k3 | k3 <;> omega
      obtain ⟨x, x0, ⟨x1, x2⟩, ⟨x3, x4⟩, x5, x6⟩ := pt3 r1 r2 r3 rl rh
      dsimp only at x1 x2 x3 x4 x5 x6
      exact ⟨x, ⟨x0, ⟨by omega, by omega⟩, ⟨by omega, by omega⟩, by omega, by omega⟩, ⟨by omega, by omega⟩, ⟨by omega, by omega⟩, by omega, by omega⟩
    · rintro ⟨hy, x, ⟨x0, ⟨x1, x2⟩, ⟨x3, x4⟩, x5, x6⟩, ⟨n1, n2⟩, ⟨n3, n4⟩, n5, n6⟩
      exact ⟨⟨hy.1, ⟨by dsimp only; omega, by dsimp only; omega⟩, ⟨by dsimp only; omega, by dsimp only; omega⟩, by dsimp only; omega, by dsimp only; omega⟩, hy⟩
theorem next_good {m : Mix3} (h : Good m) {c : Int} (hc : 0 ≤ c ∧ c ≤ 20) : Good (nextM m c) := by
  cases hs : noneM m with
  | true =>
    have e : nextM m c = m := by unfold nextM; rw [hs]; rfl
    rw [e]; exact h
  | false =>
    have t := h.tight hs
    obtain ⟨x, hx⟩ := t.ex
    have hm := (next_mem h hc x).2 ⟨hx.ok3 h, x, hx, ⟨by omega, by omega⟩, ⟨by omega, by omega⟩, by omega, by omega⟩
    have hn := hm.some
    rw [next_eq t hc] at hn ⊢
    obtain ⟨ta, tb, tc, la, lb, lc, ka, kb, kc⟩ := t
    exact .inr (tight_good (next_bd (h.tight hs) hc) ⟨.inr (by dsimp only; omega), .inr (by dsimp only; omega), .inr (by dsimp only; omega), .inr (by dsimp only; omega), .inr (by dsimp only; omega), .inr (by dsimp only; omega)⟩ hn)
theorem next_bd' {m : Mix3} (h : Good m) {c : Int} (hc : 0 ≤ c ∧ c ≤ 20) : Bd (nextM m c) := (next_good h hc).bd
end AE.Soil

namespace AE.Soil
open Go AE Go.Proofs

/-- A mix that all that is told at a place lets in. -/
def Al (g : GroundT) (k : Nat) (x : T3) : Prop := Ok3 x ∧ ∀ p ∈ g.pits, p.1 = (k : Int) → In p.2.2.1 x.1 ∧ In p.2.2.2.1 x.2.1 ∧ In p.2.2.2.2 x.2.2
theorem any_tight : Tight anyM := ⟨by decide, by decide, by decide, by decide, by decide, by decide, by decide, by decide, by decide⟩
theorem any_mem (x : T3) : Mem anyM x ↔ Ok3 x := by
  unfold Mem Ok3 In anyM
  dsimp only
  constructor
  · rintro ⟨h0, h1, h2, h3⟩; exact ⟨h0, h1.1, h2.1, h3.1⟩
  · rintro ⟨h0, h1, h2, h3⟩; exact ⟨h0, ⟨h1, by omega⟩, ⟨h2, by omega⟩, h3, by omega⟩
theorem pit_bd {n : Int} {p : PitT} (h : PitOk n p) : Bd p.2.2 := by
  obtain ⟨_, _, h1, h2, h3⟩ := h
  unfold SpOk at h1 h2 h3
  constructor <;> unfold Bd1 <;> omega
theorem pit_uniq {l : List PitT} (h : l.Pairwise fun p q => p.1 < q.1) {p q : PitT} (hp : p ∈ l) (hq : q ∈ l) (e : p.1 = q.1) : p = q := by
  obtain ⟨i, hi, rfl⟩ := List.getElem_of_mem hp
  obtain ⟨j, hj, rfl⟩ := List.getElem_of_mem hq
  rcases Nat.lt_trichotomy i j with hlt | rfl | hlt
  · have := List.pairwise_iff_getElem.1 h i j hi hj hlt; omega
  · rfl
  · have := List.pairwise_iff_getElem.1 h j i hj hi hlt; omega
theorem mixAt_ok {g : GroundT} (hg : GOk g) (k : Nat) : Good (mixAtM (pmapM g.pits) (k : Int)) ∧ ∀ x, Mem (mixAtM (pmapM g.pits) (k : Int)) x ↔ Al g k x := by
  cases hf : mfind UU MM.pits [(k : Int)] (pmapM g.pits) with
  | none =>
    have e : mixAtM (pmapM g.pits) (k : Int) = anyM := mixAt_no (by unfold mhasM; rw [hf]; rfl)
    rw [e]
    refine ⟨.inr any_tight, fun x => ?_⟩
    rw [any_mem]
    refine ⟨fun h => ⟨h, fun p hp hk => ?_⟩, fun h => h.1⟩
    have hn := List.find?_eq_none.1 hf (p.1, p.2.2) (List.mem_map.2 ⟨p, hp, rfl⟩)
    exact absurd (by rw [← hk]; exact decide_eq_true rfl) hn
  | some v =>
    have hm := List.mem_of_find?_eq_some hf
    have hk : [(k : Int)] = UU.mkey MM.pits v := of_decide_eq_true (List.find?_some (p := fun e => decide ([(k : Int)] = UU.mkey MM.pits e)) hf)
    obtain ⟨p, hp, hpe⟩ := List.mem_map.1 (show v ∈ g.pits.map (fun p => (p.1, p.2.2)) from hm)
    have hpk : p.1 = (k : Int) := by
      have h1 : [(k : Int)] = [v.1] := hk
      rw [← hpe] at h1
      exact (List.cons.inj h1).1.symm
    have e : mixAtM (pmapM g.pits) (k : Int) = andM anyM p.2.2 := by
      rw [mixAt_yes (by unfold mhasM; rw [hf]; rfl)]
      unfold mgetM
      rw [hf, ← hpe]; rfl
    rw [e]
    have hb := pit_bd (hg.pits p hp)
    refine ⟨and_good (.inr any_tight) hb, fun x => ?_⟩
    rw [and_mem (.inr any_tight) hb, any_mem]
    constructor
    · rintro ⟨h1, h2⟩
      refine ⟨h1, fun q hq hqk => ?_⟩
      rw [pit_uniq hg.inc hq hp (by rw [hqk, hpk])]
      exact h2.2
    · rintro ⟨h1, h2⟩
      exact ⟨h1, h1.1, h2 p hp hpk⟩
/-! ### chains -/
def Ch (A : Nat → T3 → Prop) (c : Int) : Nat → T3 → Prop
  | 0, x => A 0 x
  | k + 1, x => A (k + 1) x ∧ ∃ y, Ch A c k y ∧ Near c y x
theorem Ch.head {A : Nat → T3 → Prop} {c : Int} : ∀ {k : Nat} {x : T3}, Ch A c k x → A k x
  | 0, _, h => h
  | _ + 1, _, h => h.1
theorem ch_ex {A : Nat → T3 → Prop} {c : Int} : ∀ {k : Nat} {x : T3}, Ch A c k x → ∃ m : Nat → T3, m k = x ∧ (∀ i, i ≤ k → Ch A c i (m i)) ∧ ∀ i, i < k → Near c (m i) (m (i + 1))
  | 0, x, h => ⟨fun _ => x, rfl, fun i hi => by rw [Nat.le_zero.1 hi]; exact h, fun i hi => absurd hi (Nat.not_lt_zero i)⟩
  | k + 1, x, h => by
    obtain ⟨ha, y, hy, hn⟩ := h
    obtain ⟨m, hm, h1, h2⟩ := ch_ex hy
    refine ⟨fun i => if i ≤ k then m i else x, if_neg (by omega), fun i hi => ?_, fun i hi => ?_⟩
    · show Ch A c i (if i ≤ k then m i else x)
      by_cases hc : i ≤ k
      · rw [if_pos hc]; exact h1 i hc
      · rw [if_neg hc]
        have : i = k + 1 := by omega
        subst this
        exact ⟨ha, y, hy, hn⟩
    · show Near c (if i ≤ k then m i else x) (if i + 1 ≤ k then m (i + 1) else x)
      rw [if_pos (by omega : i ≤ k)]
      by_cases hc : i + 1 ≤ k
      · rw [if_pos hc]; exact h2 i (by omega)
      · rw [if_neg hc]
        have : i = k := by omega
        subst this
        rw [hm]; exact hn
theorem ch_of {A : Nat → T3 → Prop} {c : Int} {m : Nat → T3} : ∀ {k : Nat}, (∀ i, i ≤ k → A i (m i)) → (∀ i, i < k → Near c (m i) (m (i + 1))) → Ch A c k (m k)
  | 0, h, _ => h 0 (Nat.le_refl 0)
  | k + 1, h, hn => ⟨h _ (Nat.le_refl _), m k, ch_of (fun i hi => h i (by omega)) (fun i hi => hn i (by omega)), hn k (by omega)⟩
theorem ch_iff {A B : Nat → T3 → Prop} {c : Int} : ∀ {k : Nat} {x : T3}, (∀ i, i ≤ k → ∀ x, A i x ↔ B i x) → (Ch A c k x ↔ Ch B c k x)
  | 0, x, h => h 0 (Nat.le_refl 0) x
  | k + 1, x, h => by
    unfold Ch
    rw [h (k + 1) (Nat.le_refl _) x]
    constructor
    · rintro ⟨h1, y, h2, h3⟩; exact ⟨h1, y, (ch_iff fun i hi => h i (by omega)).1 h2, h3⟩
    · rintro ⟨h1, y, h2, h3⟩; exact ⟨h1, y, (ch_iff fun i hi => h i (by omega)).2 h2, h3⟩
theorem acc_ok {l : List Mix3} {b : Bool} {c : Int} (hc : 0 ≤ c ∧ c ≤ 20) (hl : ∀ j, j < l.length → Good (l.getD j m0)) : ∀ k, k < l.length → Good (accM l b c k) ∧ ∀ x, Mem (accM l b c k) x ↔ Ch (fun i x => Mem (l.getD (idxM l.length b i) m0) x) c k x
  | 0, hk => ⟨hl _ (idx_lt b hk), fun x => Iff.rfl⟩
  | k + 1, hk => by
    obtain ⟨h1, h2⟩ := acc_ok hc hl k (by omega)
    have hg := hl _ (idx_lt b hk)
    refine ⟨and_good hg (next_bd' h1 hc), fun x => ?_⟩
    show Mem (andM (l.getD (idxM l.length b (k + 1)) m0) (nextM (accM l b c k) c)) x ↔ _
    rw [and_mem hg (next_bd' h1 hc), next_mem h1 hc]
    constructor
    · rintro ⟨h3, _, y, h4, h5⟩; exact ⟨h3, y, (h2 y).1 h4, h5⟩
    · rintro ⟨h3, y, h4, h5⟩; exact ⟨h3, h3.ok3 hg, y, (h2 y).2 h4, h5⟩
theorem pass_at {l : List Mix3} {b : Bool} {c : Int} {j : Nat} (hj : j < l.length) : (passM l b c l.length).getD j m0 = accM l b c (idxM l.length b j) := by
  unfold passM
  rw [map_get _ _ _ _ hj, if_pos (idx_lt b hj)]
theorem stage0 {g : GroundT} (hg : GOk g) {j : Nat} (hj : j < nM g) : Good ((stageM g 0).getD j m0) ∧ ∀ x, Mem ((stageM g 0).getD j m0) x ↔ Al g j x := by
  have e : (stageM g 0).getD j m0 = mixAtM (pmapM g.pits) (j : Int) := by
    unfold stageM mixesM
    rw [map_get _ _ _ _ hj, if_pos hj]
  rw [e]; exact mixAt_ok hg j
theorem stage1 {g : GroundT} (hg : GOk g) {j : Nat} (hj : j < nM g) : Good ((stageM g 1).getD j m0) ∧ ∀ x, Mem ((stageM g 1).getD j m0) x ↔ Ch (Al g) g.change j x := by
  have hlen := stage_len g 0
  have e : (stageM g 1).getD j m0 = accM (stageM g 0) false g.change j := by
    have := pass_at (l := stageM g 0) (b := false) (c := g.change) (j := j) (by omega)
    rw [hlen] at this; exact this
  rw [e]
  obtain ⟨h1, h2⟩ := acc_ok (l := stageM g 0) (b := false) hg.change (fun i hi => (stage0 hg (by omega)).1) j (by omega)
  refine ⟨h1, fun x => ?_⟩
  rw [h2]
  exact ch_iff fun i hi x => (stage0 hg (by show (idxM _ false i) < _; unfold idxM; rw [if_neg (by decide)]; omega)).2 x
theorem stage2 {g : GroundT} (hg : GOk g) {j : Nat} (hj : j < nM g) : Good ((boxesM g).getD j m0) ∧ ∀ x, Mem ((boxesM g).getD j m0) x ↔ Ch (fun i => Ch (Al g) g.change (nM g - 1 - i)) g.change (nM g - 1 - j) x := by
  have hlen := stage_len g 1
  have e : (boxesM g).getD j m0 = accM (stageM g 1) true g.change (nM g - 1 - j) := by
    have := pass_at (l := stageM g 1) (b := true) (c := g.change) (j := j) (by omega)
    rw [hlen] at this; exact this
  rw [e]
  obtain ⟨h1, h2⟩ := acc_ok (l := stageM g 1) (b := true) hg.change (fun i hi => (stage1 hg (by omega)).1) (nM g - 1 - j) (by omega)
  refine ⟨h1, fun x => ?_⟩
  rw [h2, hlen]
  exact ch_iff fun i hi x => (stage1 hg (by unfold idxM; rw [if_pos rfl]; omega)).2 x
/-! ### truths of mixes -/
structure MTr (g : GroundT) (m : Nat → T3) : Prop where
  al : ∀ k, k < nM g → Al g k (m k)
  near : ∀ k, k + 1 < nM g → Near g.change (m k) (m (k + 1))
/-- What both sides of a place let in it has in some truth. -/
theorem both_truth {g : GroundT} {j : Nat} (hj : j < nM g) {x : T3} (h1 : Ch (Al g) g.change j x) (h2 : Ch (fun i => Al g (nM g - 1 - i)) g.change (nM g - 1 - j) x) : ∃ m, MTr g m ∧ m j = x := by
  obtain ⟨l, hl, l1, l2⟩ := ch_ex h1
  obtain ⟨r, hr, r1, r2⟩ := ch_ex h2
  refine ⟨fun i => if i ≤ j then l i else r (nM g - 1 - i), ⟨fun k hk => ?_, fun k hk => ?_⟩, by show (if j ≤ j then l j else _) = x; rw [if_pos (Nat.le_refl j)]; exact hl⟩
  · show Al g k (if k ≤ j then l k else r (nM g - 1 - k))
    by_cases hc : k ≤ j
    · rw [if_pos hc]; exact (l1 k hc).head
    · rw [if_neg hc]
      have := (r1 (nM g - 1 - k) (by omega)).head
      rwa [show nM g - 1 - (nM g - 1 - k) = k by omega] at this
  · show Near g.change (if k ≤ j then l k else r (nM g - 1 - k)) (if k + 1 ≤ j then l (k + 1) else r (nM g - 1 - (k + 1)))
    by_cases hc : k + 1 ≤ j
    · rw [if_pos hc, if_pos (by omega)]; exact l2 k (by omega)
    · rw [if_neg hc]
      have hn := r2 (nM g - 1 - (k + 1)) (by omega)
      rw [show nM g - 1 - (k + 1) + 1 = nM g - 1 - k by omega] at hn
      by_cases hc2 : k ≤ j
      · rw [if_pos hc2]
        have : k = j := by omega
        subst this
        rw [hl, ← hr]; exact hn.symm
      · rw [if_neg hc2]; exact hn.symm
theorem MTr.fwd {g : GroundT} {m : Nat → T3} (t : MTr g m) {j : Nat} (hj : j < nM g) : Ch (Al g) g.change j (m j) := ch_of (fun i hi => t.al i (by omega)) (fun i hi => t.near i (by omega))
theorem MTr.bwd {g : GroundT} {m : Nat → T3} (t : MTr g m) {j : Nat} (hj : j < nM g) : Ch (fun i => Al g (nM g - 1 - i)) g.change (nM g - 1 - j) (m j) := by
  have := ch_of (A := fun i => Al g (nM g - 1 - i)) (c := g.change) (m := fun i => m (nM g - 1 - i)) (k := nM g - 1 - j) (fun i hi => t.al _ (by omega)) (fun i hi => by
    have := t.near (nM g - 1 - (i + 1)) (by omega)
    rw [show nM g - 1 - (i + 1) + 1 = nM g - 1 - i by omega] at this
    exact this.symm)
  rwa [show nM g - 1 - (nM g - 1 - j) = j by omega] at this
theorem box_truth {g : GroundT} (hg : GOk g) {j : Nat} (hj : j < nM g) (x : T3) : Mem ((boxesM g).getD j m0) x ↔ ∃ m, MTr g m ∧ m j = x := by
  rw [(stage2 hg hj).2]
  constructor
  · intro h
    obtain ⟨r, hr, r1, _⟩ := ch_ex h
    have h1 := (r1 (nM g - 1 - j) (Nat.le_refl _)).head
    rw [hr, show nM g - 1 - (nM g - 1 - j) = j by omega] at h1
    refine both_truth hj h1 ?_
    obtain ⟨r, rfl, r1, r2⟩ := ch_ex h
    exact ch_of (fun i hi => (r1 i hi).head.head) r2
  · rintro ⟨m, t, rfl⟩
    have := ch_of (A := fun i => Ch (Al g) g.change (nM g - 1 - i)) (c := g.change) (m := fun i => m (nM g - 1 - i)) (k := nM g - 1 - j) (fun i hi => t.fwd (by omega)) (fun i hi => by
      have := t.near (nM g - 1 - (i + 1)) (by omega)
      rw [show nM g - 1 - (i + 1) + 1 = nM g - 1 - i by omega] at this
      exact this.symm)
    rwa [show nM g - 1 - (nM g - 1 - j) = j by omega] at this
theorem box_some {g : GroundT} (hg : GOk g) {j : Nat} (hj : j < nM g) : noneM ((boxesM g).getD j m0) = false ↔ ∃ m, MTr g m := by
  rw [(stage2 hg hj).1.ex_iff]
  constructor
  · rintro ⟨x, hx⟩
    obtain ⟨m, t, _⟩ := (box_truth hg hj x).1 hx
    exact ⟨m, t⟩
  · rintro ⟨m, t⟩
    exact ⟨m j, (box_truth hg hj _).2 ⟨m, t, rfl⟩⟩
/-- A ground has a truth just if nothing that is looked at is empty. -/
theorem look_truth {g : GroundT} (hg : GOk g) : lookM g = true ↔ (∃ h, HTr g h) ∧ ∃ m, MTr g m := by
  rw [look_iff]
  obtain ⟨n0, n1, n2⟩ := n_ok hg
  constructor
  · intro h
    refine ⟨(hok_iff hg).1 fun k hk => ?_, (box_some hg n1).1 (h 0 n1).2⟩
    obtain ⟨j, rfl, hj⟩ := place_of hg hk
    exact (h j hj).1
  · rintro ⟨⟨h, t⟩, hm⟩ j hj
    exact ⟨t.ok hg _ (pl_of hg hj), (box_some hg hj).2 hm⟩
theorem box_tight {g : GroundT} (hg : GOk g) (hl : lookM g = true) {j : Nat} (hj : j < nM g) : Tight ((boxesM g).getD j m0) := (stage2 hg hj).1.tight ((look_iff g).1 hl j hj).2
/-! ### classes -/
/-- The class of a mix. -/
def clsM (x : T3) : Int := if 8 ≤ x.2.2 then 3 else if 14 ≤ x.1 then 1 else if 12 ≤ x.2.1 then 2 else 0
def bitsM (c3 c1 c2 c0 : Bool) : Int := (if c3 then 8 else 0) + (if c1 then 2 else 0) + (if c2 then 4 else 0) + (if c0 then 1 else 0)
theorem half_bd : Bd (ptM .p0 anyM (fromM 8)) ∧ Bd (ptM .p0 anyM (belowM 8)) ∧ Bd (ptM .p1 anyM (fromM 14)) ∧ Bd (ptM .p1 anyM (belowM 14)) ∧ Bd (ptM .p2 anyM (fromM 12)) ∧ Bd (ptM .p2 anyM (belowM 12)) := by
  refine ⟨?_, ?_, ?_, ?_, ?_, ?_⟩ <;> (constructor <;> unfold Bd1 <;> decide)
theorem half_mem {x : T3} (h : Ok3 x) : (Mem (ptM .p0 anyM (fromM 8)) x ↔ 8 ≤ x.2.2) ∧ (Mem (ptM .p0 anyM (belowM 8)) x ↔ ¬ 8 ≤ x.2.2) ∧ (Mem (ptM .p1 anyM (fromM 14)) x ↔ 14 ≤ x.1) ∧ (Mem (ptM .p1 anyM (belowM 14)) x ↔ ¬ 14 ≤ x.1) ∧ (Mem (ptM .p2 anyM (fromM 12)) x ↔ 12 ≤ x.2.1) ∧ (Mem (ptM .p2 anyM (belowM 12)) x ↔ ¬ 12 ≤ x.2.1) := by
  obtain ⟨h0, h1, h2, h3⟩ := h
  have w8 : W (8 - 1) = 7 := by decide
  have w14 : W (14 - 1) = 13 := by decide
  have w12 : W (12 - 1) = 11 := by decide
  simp only [Mem, In, ptM, of0M, of1M, of2M, fromM, belowM, anyM, w8, w14, w12]
  refine ⟨?_, ?_, ?_, ?_, ?_, ?_⟩ <;> constructor <;> intro k <;> first | omega | exact ⟨h0, by omega, by omega, by omega⟩
theorem class_bits {m : Mix3} (h : Good m) : ∃ c3 c1 c2 c0 : Bool, classesM m = bitsM c3 c1 c2 c0 ∧ (c3 = true ↔ ∃ x, Mem m x ∧ clsM x = 3) ∧ (c1 = true ↔ ∃ x, Mem m x ∧ clsM x = 1) ∧ (c2 = true ↔ ∃ x, Mem m x ∧ clsM x = 2) ∧ (c0 = true ↔ ∃ x, Mem m x ∧ clsM x = 0) := by
  obtain ⟨b1, b2, b3, b4, b5, b6⟩ := half_bd
  have g1 : Good (leftM m 1) := and_good h b2
  have g2 : Good (leftM m 2) := and_good g1 b4
  have g3 : Good (leftM m 3) := and_good g2 b6
  have k3 : Good (andM m (ptM .p0 anyM (fromM 8))) := and_good h b1
  have k1 : Good (andM (leftM m 1) (ptM .p1 anyM (fromM 14))) := and_good g1 b3
  have k2 : Good (andM (leftM m 2) (ptM .p2 anyM (fromM 12))) := and_good g2 b5
  have m1 : ∀ x, Mem (leftM m 1) x ↔ Mem m x ∧ ¬ 8 ≤ x.2.2 := fun x => by
    rw [show leftM m 1 = andM m (ptM .p0 anyM (belowM 8)) from rfl, and_mem h b2]
    exact ⟨fun ⟨p, q⟩ => ⟨p, (half_mem (p.ok3 h)).2.1.1 q⟩, fun ⟨p, q⟩ => ⟨p, (half_mem (p.ok3 h)).2.1.2 q⟩⟩
  have m2 : ∀ x, Mem (leftM m 2) x ↔ (Mem m x ∧ ¬ 8 ≤ x.2.2) ∧ ¬ 14 ≤ x.1 := fun x => by
    rw [show leftM m 2 = andM (leftM m 1) (ptM .p1 anyM (belowM 14)) from rfl, and_mem g1 b4, m1]
    exact ⟨fun ⟨p, q⟩ => ⟨p, (half_mem (p.1.ok3 h)).2.2.2.1.1 q⟩, fun ⟨p, q⟩ => ⟨p, (half_mem (p.1.ok3 h)).2.2.2.1.2 q⟩⟩
  have m3 : ∀ x, Mem (leftM m 3) x ↔ ((Mem m x ∧ ¬ 8 ≤ x.2.2) ∧ ¬ 14 ≤ x.1) ∧ ¬ 12 ≤ x.2.1 := fun x => by
    rw [show leftM m 3 = andM (leftM m 2) (ptM .p2 anyM (belowM 12)) from rfl, and_mem g2 b6, m2]
    exact ⟨fun ⟨p, q⟩ => ⟨p, (half_mem (p.1.1.ok3 h)).2.2.2.2.2.1 q⟩, fun ⟨p, q⟩ => ⟨p, (half_mem (p.1.1.ok3 h)).2.2.2.2.2.2 q⟩⟩
  have n3 : ∀ x, Mem (andM m (ptM .p0 anyM (fromM 8))) x ↔ Mem m x ∧ 8 ≤ x.2.2 := fun x => by
    rw [and_mem h b1]
    exact ⟨fun ⟨p, q⟩ => ⟨p, (half_mem (p.ok3 h)).1.1 q⟩, fun ⟨p, q⟩ => ⟨p, (half_mem (p.ok3 h)).1.2 q⟩⟩
  have n1 : ∀ x, Mem (andM (leftM m 1) (ptM .p1 anyM (fromM 14))) x ↔ (Mem m x ∧ ¬ 8 ≤ x.2.2) ∧ 14 ≤ x.1 := fun x => by
    rw [and_mem g1 b3, m1]
    exact ⟨fun ⟨p, q⟩ => ⟨p, (half_mem (p.1.ok3 h)).2.2.1.1 q⟩, fun ⟨p, q⟩ => ⟨p, (half_mem (p.1.ok3 h)).2.2.1.2 q⟩⟩
  have n2 : ∀ x, Mem (andM (leftM m 2) (ptM .p2 anyM (fromM 12))) x ↔ ((Mem m x ∧ ¬ 8 ≤ x.2.2) ∧ ¬ 14 ≤ x.1) ∧ 12 ≤ x.2.1 := fun x => by
    rw [and_mem g2 b5, m2]
    exact ⟨fun ⟨p, q⟩ => ⟨p, (half_mem (p.1.1.ok3 h)).2.2.2.2.1.1 q⟩, fun ⟨p, q⟩ => ⟨p, (half_mem (p.1.1.ok3 h)).2.2.2.2.1.2 q⟩⟩
  have e3 := k3.ex_iff
  have e1 := k1.ex_iff
  have e2 := k2.ex_iff
  have e0 := g3.ex_iff
  have l1 : noneM (leftM m 1) = true → noneM (andM (leftM m 1) (ptM .p1 anyM (fromM 14))) = true ∧ noneM (andM (leftM m 2) (ptM .p2 anyM (fromM 12))) = true ∧ noneM (leftM m 3) = true := fun hn => by
    have no : ∀ x, ¬ (Mem m x ∧ ¬ 8 ≤ x.2.2) := fun x hx => by have := ((m1 x).2 hx).some; rw [hn] at this; cases this
    refine ⟨?_, ?_, ?_⟩
    · cases hh : noneM (andM (leftM m 1) (ptM .p1 anyM (fromM 14))) with
      | true => rfl
      | false => obtain ⟨x, hx⟩ := e1.1 hh; exact absurd ((n1 x).1 hx).1 (no x)
    · cases hh : noneM (andM (leftM m 2) (ptM .p2 anyM (fromM 12))) with
      | true => rfl
      | false => obtain ⟨x, hx⟩ := e2.1 hh; exact absurd ((n2 x).1 hx).1.1 (no x)
    · cases hh : noneM (leftM m 3) with
      | true => rfl
      | false => obtain ⟨x, hx⟩ := e0.1 hh; exact absurd ((m3 x).1 hx).1.1 (no x)
  have l2 : noneM (leftM m 2) = true → noneM (andM (leftM m 2) (ptM .p2 anyM (fromM 12))) = true ∧ noneM (leftM m 3) = true := fun hn => by
    have no : ∀ x, ¬ ((Mem m x ∧ ¬ 8 ≤ x.2.2) ∧ ¬ 14 ≤ x.1) := fun x hx => by have := ((m2 x).2 hx).some; rw [hn] at this; cases this
    refine ⟨?_, ?_⟩
    · cases hh : noneM (andM (leftM m 2) (ptM .p2 anyM (fromM 12))) with
      | true => rfl
      | false => obtain ⟨x, hx⟩ := e2.1 hh; exact absurd ((n2 x).1 hx).1 (no x)
    · cases hh : noneM (leftM m 3) with
      | true => rfl
      | false => obtain ⟨x, hx⟩ := e0.1 hh; exact absurd ((m3 x).1 hx).1 (no x)
  refine ⟨!noneM (andM m (ptM .p0 anyM (fromM 8))), !noneM (andM (leftM m 1) (ptM .p1 anyM (fromM 14))), !noneM (andM (leftM m 2) (ptM .p2 anyM (fromM 12))), !noneM (leftM m 3), ?_, ?_, ?_, ?_, ?_⟩
  · have f1 := @set1f m
    have t1 := @set1t m
    have f2 := @set2f m
    have t2 := @set2t m
    have f3 := @set3f m
    have t3 := @set3t m
    have c1 := @cls1 m
    have c2 := @cls2 m
    have c3 := @cls3 m
    have c4 := @cls4 m
    clear e3 e1 e2 e0 n3 n1 n2 m1 m2 m3 g1 g2 g3 k1 k2 k3
    revert f1 t1 f2 t2 f3 t3 c1 c2 c3 c4 l1 l2
    generalize classesM m = c
    generalize setM m 1 = s1
    generalize setM m 2 = s2
    generalize setM m 3 = s3
    generalize noneM (andM m (ptM .p0 anyM (fromM 8))) = n0
    generalize noneM (andM (leftM m 1) (ptM .p1 anyM (fromM 14))) = n1
    generalize noneM (andM (leftM m 2) (ptM .p2 anyM (fromM 12))) = n2
    generalize noneM (leftM m 1) = q1
    generalize noneM (leftM m 2) = q2
    generalize noneM (leftM m 3) = q3
    intro l1 l2 f1 t1 f2 t2 f3 t3 c1 c2 c3 c4
    cases q1 <;> cases q2 <;> cases q3 <;> cases n0 <;> cases n1 <;> cases n2 <;> first
      | (have := (l1 rfl).1; cases this; done)
      | (have := (l1 rfl).2.1; cases this; done)
      | (have := (l1 rfl).2.2; cases this; done)
      | (have := (l2 rfl).1; cases this; done)
      | (have := (l2 rfl).2; cases this; done)
      | (rw [c1 rfl]; first | rw [f1 rfl]; decide | rw [t1 rfl]; decide)
      | (rw [c2 rfl rfl]; first | rw [f2 rfl] | rw [t2 rfl]) <;> (first | rw [f1 rfl]; decide | rw [t1 rfl]; decide)
      | (rw [c3 rfl rfl rfl]; first | rw [f3 rfl] | rw [t3 rfl]) <;> (first | rw [f2 rfl] | rw [t2 rfl]) <;> (first | rw [f1 rfl]; decide | rw [t1 rfl]; decide)
      | (rw [c4 rfl rfl rfl]; first | rw [f3 rfl] | rw [t3 rfl]) <;> (first | rw [f2 rfl] | rw [t2 rfl]) <;> (first | rw [f1 rfl]; decide | rw [t1 rfl]; decide)
  · rw [Bool.not_eq_true', e3]
    refine exists_congr fun x => ?_
    rw [n3]
    refine and_congr_right fun _ => ?_
    unfold clsM
    split
    · simp [*]
    · split
      · simp [*]
      · split <;> simp [*]
  · rw [Bool.not_eq_true', e1]
    refine exists_congr fun x => ?_
    rw [n1, and_assoc]
    refine and_congr_right fun _ => ?_
    unfold clsM
    split
    · simp [*]
    · split
      · simp [*]
      · split <;> simp [*]
  · rw [Bool.not_eq_true', e2]
    refine exists_congr fun x => ?_
    rw [n2, and_assoc, and_assoc]
    refine and_congr_right fun _ => ?_
    unfold clsM
    split
    · simp [*]
    · split
      · simp [*]
      · split <;> simp [*]
  · rw [Bool.not_eq_true', e0]
    refine exists_congr fun x => ?_
    rw [m3, and_assoc, and_assoc]
    refine and_congr_right fun _ => ?_
    unfold clsM
    split
    · simp [*]
    · split
      · simp [*]
      · split <;> simp [*]
end AE.Soil

namespace AE.Soil
open Go AE Go.Proofs

def eq2M (x y : M2) : Bool := x.1 == y.1 && (x.2 == y.2 && true)
def innM (x : M2) (b : List M2) : List M2 := (b.filter (eq2M x)).map fun _ => x
def crossM (a b : List M2) : List M2 := a.flatMap fun x => innM x b
def fwM (g : GroundT) (at_ : Int) : List M2 := chM g 0 1 ((at_ - 0) * 1).toNat
def bwM (g : GroundT) (at_ : Int) : List M2 := chM g g.long (-1) ((at_ - g.long) * (-1)).toNat
def rMixM (g : GroundT) (at_ : Int) : List M2 := crossM (fwM g at_) (bwM g at_)
theorem ch_len (g : GroundT) (e st : Int) (k : Nat) : (chM g e st k).length ≤ 231 := by
  rw [ch_step]
  have := List.length_filter_le (takesM g (xAtM e st k) (firstM k) (prM g e st k)) (allM g.pits)
  rw [all_len] at this
  exact this
theorem inn_len (x : M2) (b : List M2) : (innM x b).length ≤ b.length := by unfold innM; rw [List.length_map]; exact List.length_filter_le _ _
theorem cross_len (a b : List M2) : ∀ i, i ≤ a.length → (crossM (a.take i) b).length ≤ i * b.length
  | 0, _ => by simp [crossM]
  | i + 1, h => by
    have := cross_len a b i (by omega)
    have h2 := inn_len (a.getD i (0, 0)) b
    unfold crossM at *
    rw [take_snoc a i h (0, 0), List.flatMap_append, List.length_append, Nat.add_mul, Nat.one_mul]
    simp only [List.flatMap_cons, List.flatMap_nil, List.append_nil]
    omega
theorem cross_suc (a b : List M2) {i : Nat} (h : i < a.length) : crossM (a.take (i + 1)) b = crossM (a.take i) b ++ innM (a.getD i (0, 0)) b := by
  unfold crossM
  rw [take_snoc a i h (0, 0), List.flatMap_append]
  simp
theorem inn_yes (x : M2) (b : List M2) {k : Nat} (h : k < b.length) (he : eq2M x (b.getD k (0, 0)) = true) : innM x (b.take (k + 1)) = innM x (b.take k) ++ [x] := by
  unfold innM
  rw [take_snoc b k h (0, 0), List.filter_append, List.map_append]
  congr 1
  rw [List.filter_cons_of_pos he]; rfl
theorem inn_no (x : M2) (b : List M2) {k : Nat} (h : k < b.length) (he : eq2M x (b.getD k (0, 0)) = false) : innM x (b.take (k + 1)) = innM x (b.take k) := by
  unfold innM
  rw [take_snoc b k h (0, 0), List.filter_append, List.map_append, List.filter_cons_of_neg (by rw [he]; decide)]
  simp
def mxH (g : GroundT) (at_ : Int) (out : List M2) : Heap UU := [.one (.ro .pit g.pits), .one (.row .rmix (fwM g at_) 84), .one (.row .rmix (bwM g at_) 84), .one (.row .rmix out 84)]
def mxL1 (g : GroundT) (at_ : Int) : LSpec UU where
  T := { i : Nat // i ≤ (fwM g at_).length }
  fr := fun i => [(5, .gs 1 0), (6, .gs 2 0), (7, .gs 3 0), (8, .i i.1)]
  H := fun i => mxH g at_ (crossM ((fwM g at_).take i.1) (bwM g at_))
  mu := fun i => (fwM g at_).length - i.1
def mxL2 (g : GroundT) (at_ : Int) : LSpec UU where
  T := { p : Nat × Nat // p.1 < (fwM g at_).length ∧ p.2 ≤ (bwM g at_).length }
  fr := fun p => [(5, .gs 1 0), (6, .gs 2 0), (7, .gs 3 0), (8, .i p.1.1), (9, .i p.1.2)]
  H := fun p => mxH g at_ (crossM ((fwM g at_).take p.1.1) (bwM g at_) ++ innM ((fwM g at_).getD p.1.1 (0, 0)) ((bwM g at_).take p.1.2))
  mu := fun p => (bwM g at_).length - p.1.2
def mxLs (g : GroundT) (at_ : Int) (k : Nat) : Option (LRule UU) :=
  match k with
  | 4 => some (.inv (mxL1 g at_))
  | 7 => some (.invR (mxL2 g at_) fun a b => b.1.1 = a.1.1)
  | _ => none
def Tmx : Tab UU := [(58, alongS.con)]
theorem Tmx_ok : Tmx.Sound Try.prog := .cons along_sound .nil
def rmixS : FSpec UU where
  X := GroundT × Int
  pick := fun args H => avGr2 H args
  args := fun x => [vGround x.1 0, .i x.2]
  H := fun x => [.one (.ro .pit x.1.pits)]
  R := fun x => .val ⟨.gs 1 0, [], [], [.row .rmix (rMixM x.1 x.2) 84]⟩
  pre := fun x => x.1.pits.length < 1000 ∧ (0 ≤ x.1.long ∧ x.1.long ≤ 40) ∧ (0 ≤ x.2 ∧ x.2 ≤ x.1.long)
set_option maxHeartbeats 0 in
set_option maxRecDepth 100000 in
theorem rmix_ok : ∀ x, rmixS.pre x → FunOk Try.prog 37 (rmixS.args x) (rmixS.H x) (rmixS.R x) := by
  rintro ⟨⟨long, rise, change, ps⟩, a⟩ hx
  refine fun_of (T := Tmx) (L := mxLs ⟨long, rise, change, ps⟩ a) (hs := fun _ => []) hmix Tmx_ok Try.func37 (by kernel_rfl) (by kernel_rfl) ?_
  refine Eq.mp (α :=
      let Z2 := GroundT.mk long rise change ps; let Z3 := Value.int IntKind.i64 change; let Z4 := Value.int IntKind.i64 rise; let Z5 := Value.int IntKind.i64 a; let Z6 := Value.int IntKind.i64 long; let Z7 := List.length ps; let Z8 := (1 : Int); let Z9 := (0 : Int); let Z10 := (40 : Int); let Z11 : List (Int × Int) := []; let Z12 := Value.slice none (nat_lit 0) (nat_lit 0); let Z13 := (0 : Nat); let Z14 : List M2 := fwM Z2 a; let Z15 : List M2 := bwM Z2 a; let Z16 := ps = ps; let Z17 := (84 : TypeId); let Z19 := Z7 < nat_lit 1000; let Z20 := Value.int IntKind.i64 Z9; let Z21 := Value.int IntKind.i64 Z8; let Z22 := List.length Z15; let Z23 := List.length Z14; let Z24 := -Z8; let Z26 := Z9 ≤ a; let Z27 := Z6 = Z6; let Z30 := a ≤ Z10; let Z32 := List.length Z14; let Z33 := List.length Z15; let Z36 := (Z9, Z9); let Z37 := Value.int IntKind.i64 Z24; let Z38 := Z17 = Z17; let Z42 := (↑Z32 : Int); let Z43 := (↑Z33 : Int); let Z44 : Type := { i : Nat // i ≤ Z23 }; let Z48 := fun (x : Z44) => Subtype.val x; let Z50 := fun (x : Z44) => (↑(Z48 x) : Int); let Z51 := fun (x : Z44) => Value.int IntKind.i64 (Z50 x); let Z55 := Z38 ∧ Z14 = Z14; let Z56 := Z38 ∧ Z15 = Z15; let Z57 := fun (x : Z44) => Z23 - Z48 x; let Z58 := fun (x : Z44) => crossM (List.take (Z48 x) Z14) Z15; let Z60 : Type := { p : Nat × Nat // Prod.fst p < Z23 ∧ Prod.snd p ≤ Z22 }; let Z61 := fun (x : Z60) => Subtype.val x; let Z63 := fun (x : Z60) => Prod.fst (Z61 x); let Z64 := fun (x : Z60) => Prod.snd (Z61 x); let Z65 := fun (x : Z60) => (↑(Z64 x) : Int); let Z66 := fun (x : Z60) => (↑(Z63 x) : Int); let Z70 := fun (x : Z60) => Value.int IntKind.i64 (Z65 x); let Z71 := fun (x : Z60) => Value.int IntKind.i64 (Z66 x); let Z75 := fun (t : Z60) => nat_lit 0 + Int.toNat (Z65 t); let Z76 := fun (t : Z60) => nat_lit 0 + Int.toNat (Z66 t); let Z77 := fun (x : Z60) => Z22 - Z64 x; let Z79 := fun (t : Z60) => Z65 t + Z8; let Z87 := fun (t : Z60) => List.getD Z14 (Z76 t) Z36; let Z88 := fun (t : Z60) => List.getD Z15 (Z75 t) Z36; let Z89 := fun (t : Z60) => Prod.snd (Z87 t); let Z92 := fun (t : Z60) => Prod.fst (Z87 t); let Z93 := fun (t : Z44) => decide (Z50 t < Z42); let Z94 := fun (t : Z60) => List.getD Z14 (Z13 + Int.toNat (Z66 t)) Z36; let Z104 := fun (t : Z60) => decide (Z65 t < Z43); let Z105 := fun (t : Z60) => Z92 t == Prod.fst (Z88 t); let Z106 := fun (t : Z60) => Z89 t == Prod.snd (Z88 t); let Z108 := fun (x : Z60) => crossM (List.take (Z63 x) Z14) Z15 ++ innM (List.getD Z14 (Z63 x) Z36) (List.take (Z64 x) Z15); (Z19 ∧ (Z9 ≤ Z9 ∧ Z9 ≤ Z10) ∧ (Z26 ∧ Z30) ∧ (Z8 = Z8 ∧ Z26 ∨ Z8 = Z24 ∧ a ≤ Z9)) ∧ ((Z27 ∧ Z4 = Z4 ∧ Z3 = Z3 ∧ (nat_lit 0 = nat_lit 0 ∧ nat_lit 0 = nat_lit 0 ∧ Z7 = Z7) ∧ True) ∧ Z5 = Z5 ∧ Z20 = Z20 ∧ Z21 = Z21 ∧ True) ∧ (Z16 ∧ True) ∧ (Z19 ∧ (Z9 ≤ long ∧ long ≤ Z10) ∧ (Z26 ∧ Z30) ∧ (Z24 = Z8 ∧ long ≤ a ∨ Z24 = Z24 ∧ a ≤ long)) ∧ ((Z27 ∧ Z4 = Z4 ∧ Z3 = Z3 ∧ (nat_lit 0 = nat_lit 0 ∧ nat_lit 0 = nat_lit 0 ∧ Z7 = Z7) ∧ True) ∧ Z5 = Z5 ∧ Z27 ∧ Z37 = Z37 ∧ True) ∧ (Z16 ∧ True) ∧ (∃ (x : Z44), (True ∧ True ∧ nat_lit 0 = nat_lit 0 ∧ True ∧ True) ∧ (True ∧ True ∧ True ∧ Z58 x = Z11 ∧ True) ∧ (nat_lit 0 = nat_lit 0 ∧ nat_lit 0 = nat_lit 0 ∧ Z12 = Z12 ∧ Z20 = Z51 x ∧ True) ∧ True ∧ Z16 ∧ (Z38 ∧ chM Z2 Z9 Z8 (Int.toNat ((a - Z9) * Z8)) = Z14) ∧ (Z38 ∧ chM Z2 long Z24 (Int.toNat ((a - long) * Z24)) = Z15) ∧ True ∧ True) ∧ ∀ (t : Z44), (Z93 t = true → ∃ (x : Z60), ((nat_lit 0 = nat_lit 0 ∧ nat_lit 0 = nat_lit 0 ∧ nat_lit 0 = nat_lit 0 ∧ Z51 t = Z71 x ∧ Z20 = Z70 x ∧ True) ∧ True ∧ Z16 ∧ Z55 ∧ Z56 ∧ (Z38 ∧ Z58 t = Z108 x) ∧ True) ∧ Z63 x = Z63 x ∧ ∀ (t_1 : Z60), Z63 t_1 = Z63 x → (Z104 t_1 = true → (Z9 ≤ Z66 t_1 ∧ Z66 t_1 < Z42) ∧ Z76 t_1 < Z32 ∧ (Z9 ≤ Z65 t_1 ∧ Z65 t_1 < Z43) ∧ Z75 t_1 < Z33 ∧ ((Z105 t_1 && (Z106 t_1 && true)) = true → (Z9 ≤ Z66 t_1 ∧ Z66 t_1 < Z42) ∧ Z76 t_1 < Z32 ∧ (nat_lit 1 = nat_lit 1 ∧ AV.v (Value.int IntKind.i64 (Z92 t_1)) = AV.v (Value.int IntKind.i64 (Prod.fst (Z94 t_1))) ∧ AV.v (Value.int IntKind.i64 (Z89 t_1)) = AV.v (Value.int IntKind.i64 (Z89 t_1)) ∧ True) ∧ nat_lit 1 ≤ nat_lit 1 ∧ List.length (Z108 t_1) + nat_lit 1 ≤ nat_lit 1099511627776 ∧ True ∧ ∃ (x_1 : Z60), ((nat_lit 0 = nat_lit 0 ∧ nat_lit 0 = nat_lit 0 ∧ nat_lit 0 = nat_lit 0 ∧ Z71 t_1 = Z71 x_1 ∧ Value.int IntKind.i64 (IntKind.wrap IntKind.i64 (Z79 t_1)) = Z70 x_1 ∧ True) ∧ True ∧ Z16 ∧ Z55 ∧ Z56 ∧ (nat_lit 84 = Z17 ∧ Z108 t_1 ++ List.take (1 : Nat) (List.drop Z13 ((Z92 t_1, Prod.snd (Z94 t_1)) :: Z11)) = Z108 x_1) ∧ True) ∧ Z77 x_1 < Z77 t_1 ∧ Z63 x_1 = Z63 x) ∧ ((Z105 t_1 && (Z106 t_1 && true)) = false → True ∧ ∃ (x_1 : Z60), ((nat_lit 0 = nat_lit 0 ∧ nat_lit 0 = nat_lit 0 ∧ nat_lit 0 = nat_lit 0 ∧ Z71 t_1 = Z71 x_1 ∧ Value.int IntKind.i64 (IntKind.wrap IntKind.i64 (Z79 t_1)) = Z70 x_1 ∧ True) ∧ True ∧ Z16 ∧ Z55 ∧ Z56 ∧ (Z38 ∧ Z108 t_1 = Z108 x_1) ∧ True) ∧ Z77 x_1 < Z77 t_1 ∧ Z63 x_1 = Z63 x)) ∧ (Z104 t_1 = false → True ∧ ∃ (x : Z44), ((nat_lit 0 = nat_lit 0 ∧ nat_lit 0 = nat_lit 0 ∧ nat_lit 0 = nat_lit 0 ∧ Value.int IntKind.i64 (IntKind.wrap IntKind.i64 (Z66 t_1 + Z8)) = Z51 x ∧ True) ∧ True ∧ Z16 ∧ Z55 ∧ Z56 ∧ (Z38 ∧ Z108 t_1 = Z58 x) ∧ True) ∧ Z57 x < Z57 t)) ∧ (Z93 t = false → True ∧ (nat_lit 0 = nat_lit 0 ∧ True) ∧ True ∧ Z16 ∧ (Z38 ∧ Z58 t = rMixM Z2 a) ∧ True))
    (by kernel_rfl) ?_
  simp only [eq_self, true_and, and_true, Int.toNat_natCast, Nat.zero_add, Nat.sub_zero, Value.int.injEq, Value.bool.injEq, decide_eq_true_eq, decide_eq_false_iff_not]
  obtain ⟨h1, ⟨l0, l1⟩, a0, a1⟩ := hx
  have hps : ps.length < 1000 := h1
  have l0' : 0 ≤ long := l0
  have l1' : long ≤ 40 := l1
  have a0' : 0 ≤ a := a0
  have a1' : a ≤ long := a1
  have hA : (fwM ⟨long, rise, change, ps⟩ a).length ≤ 231 := ch_len _ _ _ _
  have hB : (bwM ⟨long, rise, change, ps⟩ a).length ≤ 231 := ch_len _ _ _ _
  refine ⟨⟨hps, ⟨Int.le_refl _, by decide⟩, ⟨a0', by omega⟩, .inl a0'⟩, ⟨hps, ⟨l0', l1'⟩, ⟨a0', by omega⟩, .inr a1'⟩, ⟨⟨0, Nat.zero_le _⟩, rfl, rfl, rfl, rfl⟩, ?_⟩
  have hM : rMixM ⟨long, rise, change, ps⟩ a = crossM (fwM ⟨long, rise, change, ps⟩ a) (bwM ⟨long, rise, change, ps⟩ a) := rfl
  rw [hM]
  revert hA hB
  generalize fwM ⟨long, rise, change, ps⟩ a = A
  generalize bwM ⟨long, rise, change, ps⟩ a = B
  intro hA hB t
  refine ⟨fun ht => ?_, fun ht => ?_⟩
  · obtain ⟨i, hi⟩ := t
    have hlt : i < A.length := by have h0 : (i : Int) < (A.length : Int) := ht; omega
    refine ⟨⟨(i, 0), hlt, Nat.zero_le _⟩, ⟨⟨rfl, rfl⟩, ?_⟩, fun p hp => ?_⟩
    · show crossM (A.take i) B = crossM (A.take i) B ++ innM (A.getD i (0, 0)) []
      rw [show innM (A.getD i (0, 0)) [] = [] from rfl, List.append_nil]
    obtain ⟨⟨i', k⟩, p1, p2⟩ := p
    have hp' : i' = i := hp
    subst hp'
    have hcl := cross_len A B i' (by omega)
    have hmul : i' * B.length ≤ 231 * 231 := Nat.mul_le_mul (by omega) hB
    refine ⟨fun hk => ?_, fun hk => ?_⟩
    · have hkl : k < B.length := by have h0 : (k : Int) < (B.length : Int) := hk; omega
      have hin := inn_len (A.getD i' (0, 0)) (B.take k)
      rw [List.length_take] at hin
      have hbd : (crossM (A.take i') B ++ innM (A.getD i' (0, 0)) (B.take k)).length + 1 ≤ 1099511627776 := by rw [List.length_append]; omega
      refine ⟨⟨Int.natCast_nonneg _, ht⟩, hlt, ⟨Int.natCast_nonneg _, hk⟩, hkl, fun he => ⟨⟨Int.natCast_nonneg _, ht⟩, hlt, Nat.le_refl _, hbd, ⟨(i', k + 1), p1, hkl⟩, ⟨⟨rfl, sucI k (by omega)⟩, ?_⟩, dec1 hkl, rfl⟩, fun he => ⟨⟨(i', k + 1), p1, hkl⟩, ⟨⟨rfl, sucI k (by omega)⟩, ?_⟩, dec1 hkl, rfl⟩⟩
      · show crossM (A.take i') B ++ innM (A.getD i' (0, 0)) (B.take k) ++ [A.getD i' (0, 0)] = crossM (A.take i') B ++ innM (A.getD i' (0, 0)) (B.take (k + 1))
        rw [inn_yes _ _ hkl he, List.append_assoc]
      · show crossM (A.take i') B ++ innM (A.getD i' (0, 0)) (B.take k) = crossM (A.take i') B ++ innM (A.getD i' (0, 0)) (B.take (k + 1))
        rw [inn_no _ _ hkl he]
    · have hkl : k = B.length := by have h0 : ¬ (k : Int) < (B.length : Int) := hk; have h1 : k ≤ B.length := p2; omega
      refine ⟨⟨i' + 1, hlt⟩, ⟨sucI i' (by omega), ?_⟩, dec1 hlt⟩
      show crossM (A.take i') B ++ innM (A.getD i' (0, 0)) (B.take k) = crossM (A.take (i' + 1)) B
      rw [cross_suc A B hlt, hkl, List.take_length]
  · obtain ⟨i, hi⟩ := t
    have hie : i = A.length := by have h0 : ¬ (i : Int) < (A.length : Int) := ht; omega
    subst hie
    show crossM (A.take A.length) B = _
    rw [List.take_length]

theorem rmix_sound : Sound Try.prog 37 rmixS.con := FSpec.sound _ (enter_of Try.func37 (by kernel_rfl) (by kernel_rfl)) rmix_ok
/-! ### classes -/
def addM (s n : Int) : Int := if rhasM s n.toNat then s else W (s + ((2 ^ n.toNat : Nat) : Int))
def csetM (l : List M2) : Nat → Int
  | 0 => 0
  | i + 1 => addM (csetM l i) (rofM (l.getD i (0, 0)))
theorem bits_of {s : Int} (h0 : 0 ≤ s) (h1 : s ≤ 15) : ∃ c3 c1 c2 c0, s = bitsM c3 c1 c2 c0 := by
  refine ⟨decide (s / 8 = 1), decide (s / 2 % 2 = 1), decide (s / 4 % 2 = 1), decide (s % 2 = 1), ?_⟩
  unfold bitsM
  simp only [decide_eq_true_eq]
  repeat' split
  all_goals omega
theorem add0 (c3 c1 c2 c0 : Bool) : addM (bitsM c3 c1 c2 c0) 0 = bitsM c3 c1 c2 true := by revert c3 c1 c2 c0; decide
theorem add1 (c3 c1 c2 c0 : Bool) : addM (bitsM c3 c1 c2 c0) 1 = bitsM c3 true c2 c0 := by revert c3 c1 c2 c0; decide
theorem add2 (c3 c1 c2 c0 : Bool) : addM (bitsM c3 c1 c2 c0) 2 = bitsM c3 c1 true c0 := by revert c3 c1 c2 c0; decide
theorem add3 (c3 c1 c2 c0 : Bool) : addM (bitsM c3 c1 c2 c0) 3 = bitsM true c1 c2 c0 := by revert c3 c1 c2 c0; decide
theorem bits_b (c3 c1 c2 c0 : Bool) : 0 ≤ bitsM c3 c1 c2 c0 ∧ bitsM c3 c1 c2 c0 ≤ 15 := by revert c3 c1 c2 c0; decide
theorem rof_range (m : M2) : rofM m = 0 ∨ rofM m = 1 ∨ rofM m = 2 ∨ rofM m = 3 := by unfold rofM; split <;> (try split) <;> (try split) <;> simp
theorem add_b {s n : Int} (h : 0 ≤ s ∧ s ≤ 15) (hn : n = 0 ∨ n = 1 ∨ n = 2 ∨ n = 3) : 0 ≤ addM s n ∧ addM s n ≤ 15 := by
  obtain ⟨c3, c1, c2, c0, rfl⟩ := bits_of h.1 h.2
  rcases hn with rfl | rfl | rfl | rfl
  · rw [add0]; exact bits_b _ _ _ _
  · rw [add1]; exact bits_b _ _ _ _
  · rw [add2]; exact bits_b _ _ _ _
  · rw [add3]; exact bits_b _ _ _ _
def rclL (g : GroundT) (at_ : Int) : LSpec UU where
  T := { i : Nat // i ≤ (rMixM g at_).length ∧ 0 ≤ csetM (rMixM g at_) i ∧ csetM (rMixM g at_) i ≤ 15 }
  fr := fun i => [(5, .gs 1 0), (6, .i (csetM (rMixM g at_) i.1)), (7, .i i.1)]
  H := fun _ => [.one (.ro .pit g.pits), .one (.row .rmix (rMixM g at_) 84)]
  mu := fun i => (rMixM g at_).length - i.1
def Trcl : Tab UU := [(37, rmixS.con), (46, rofS.con), (61, rhasS.con), (62, powS.con)]
theorem Trcl_ok : Trcl.Sound Try.prog := .cons rmix_sound (.cons rof_sound (.cons rhas_sound (.cons pow_sound .nil)))
def rclassM (g : GroundT) (at_ : Int) : Int := csetM (rMixM g at_) (rMixM g at_).length
def rclassS : FSpec UU where
  X := GroundT × Int
  pick := fun args H => avGr2 H args
  args := fun x => [vGround x.1 0, .i x.2]
  H := fun x => [.one (.ro .pit x.1.pits)]
  R := fun x => .val ⟨.i (rclassM x.1 x.2), [], [], []⟩
  pre := fun x => x.1.pits.length < 1000 ∧ (0 ≤ x.1.long ∧ x.1.long ≤ 40) ∧ (0 ≤ x.2 ∧ x.2 ≤ x.1.long)
set_option maxHeartbeats 0 in
set_option maxRecDepth 100000 in
theorem rclass_ok : ∀ x, rclassS.pre x → FunOk Try.prog 41 (rclassS.args x) (rclassS.H x) (rclassS.R x) := by
  rintro ⟨⟨long, rise, change, ps⟩, a⟩ hx
  refine fun_of (T := Trcl) (L := fun _ => some (.inv (rclL ⟨long, rise, change, ps⟩ a))) (hs := fun _ => []) hmix Trcl_ok Try.func41 (by kernel_rfl) (by kernel_rfl) ?_
  refine Eq.mp (α :=
      let Z0 := GroundT.mk long rise change ps; let Z1 := List.length ps; let Z3 := (0 : Int); let Z5 : List M2 := rMixM Z0 a; let Z6 := (84 : TypeId); let Z7 := ps = ps; let Z10 := Value.int IntKind.i64 Z3; let Z11 := List.length Z5; let Z12 := List.length Z5; let Z15 := Z6 = Z6; let Z16 := (↑Z12 : Int); let Z18 := Z5 = Z5; let Z26 : Type := { i : Nat // i ≤ Z11 ∧ Z3 ≤ csetM Z5 i ∧ csetM Z5 i ≤ (15 : Int) }; let Z27 := fun (x : Z26) => Subtype.val x; let Z28 := fun (x : Z26) => (↑(Z27 x) : Int); let Z30 := fun (x : Z26) => csetM Z5 (Z27 x); let Z31 := fun (x : Z26) => Value.int IntKind.i64 (Z28 x); let Z32 := fun (x : Z26) => Value.int IntKind.i64 (Z30 x); let Z33 := fun (t : Z26) => nat_lit 0 + Int.toNat (Z28 t); let Z34 := fun (x : Z26) => Z11 - Z27 x; let Z35 := fun (t : Z26) => Z28 t + (1 : Int); let Z39 := fun (t : Z26) => List.getD Z5 (Z33 t) (Z3, Z3); let Z43 := fun (t : Z26) => Int.toNat (rofM (Z39 t)); let Z48 := fun (t : Z26) => (↑(Z43 t) : Int); let Z53 := fun (t : Z26) => decide (Z28 t < Z16); (Z1 < nat_lit 1000 ∧ (Z3 ≤ long ∧ long ≤ (40 : Int)) ∧ Z3 ≤ a ∧ a ≤ long) ∧ ((Value.int IntKind.i64 long = Value.int IntKind.i64 long ∧ Value.int IntKind.i64 rise = Value.int IntKind.i64 rise ∧ Value.int IntKind.i64 change = Value.int IntKind.i64 change ∧ (nat_lit 0 = nat_lit 0 ∧ nat_lit 0 = nat_lit 0 ∧ Z1 = Z1) ∧ True) ∧ Value.int IntKind.i64 a = Value.int IntKind.i64 a ∧ True) ∧ (Z7 ∧ True) ∧ (∃ (x : Z26), (nat_lit 0 = nat_lit 0 ∧ Z10 = Z32 x ∧ Z10 = Z31 x ∧ True) ∧ True ∧ Z7 ∧ (Z15 ∧ Z18) ∧ True) ∧ ∀ (t : Z26), (Z53 t = true → (Z3 ≤ Z28 t ∧ Z28 t < Z16) ∧ Z33 t < Z12 ∧ True ∧ ((Value.int IntKind.i64 (Prod.fst (Z39 t)) = Value.int IntKind.i64 (Prod.fst (Z39 t)) ∧ Value.int IntKind.i64 (Prod.snd (Z39 t)) = Value.int IntKind.i64 (Prod.snd (Z39 t)) ∧ True) ∧ True) ∧ True ∧ (Z43 t ≤ nat_lit 3 ∧ Z3 ≤ Z30 t ∧ Z30 t ≤ (100 : Int)) ∧ (Z32 t = Z32 t ∧ Value.int IntKind.i64 (rofM (Z39 t)) = Value.int IntKind.i64 (Z48 t) ∧ True) ∧ True ∧ ((!rhasM (Z30 t) (Z43 t)) = true → Z43 t ≤ nat_lit 3 ∧ (Value.int IntKind.i64 (rofM (Z39 t)) = Value.int IntKind.i64 (Z48 t) ∧ True) ∧ True ∧ True ∧ ∃ (x : Z26), ((nat_lit 0 = nat_lit 0 ∧ Value.int IntKind.i64 (IntKind.wrap IntKind.i64 (Z30 t + (↑(nat_lit 2 ^ Z43 t) : Int))) = Z32 x ∧ Value.int IntKind.i64 (IntKind.wrap IntKind.i64 (Z35 t)) = Z31 x ∧ True) ∧ True ∧ Z7 ∧ (Z15 ∧ Z18) ∧ True) ∧ Z34 x < Z34 t) ∧ ((!rhasM (Z30 t) (Z43 t)) = false → True ∧ ∃ (x : Z26), ((nat_lit 0 = nat_lit 0 ∧ Z32 t = Z32 x ∧ Value.int IntKind.i64 (IntKind.wrap IntKind.i64 (Z35 t)) = Z31 x ∧ True) ∧ True ∧ Z7 ∧ (Z15 ∧ Z18) ∧ True) ∧ Z34 x < Z34 t)) ∧ (Z53 t = false → True ∧ (Z32 t = Value.int IntKind.i64 (rclassM Z0 a) ∧ True) ∧ True ∧ Z7 ∧ True))
    (by kernel_rfl) ?_
  simp only [eq_self, true_and, and_true, Int.toNat_natCast, Nat.zero_add, Nat.sub_zero, Value.int.injEq, Value.bool.injEq, decide_eq_true_eq, decide_eq_false_iff_not]
  obtain ⟨h1, hl, ha⟩ := hx
  have hps : ps.length < 1000 := h1
  have hlen : (rMixM ⟨long, rise, change, ps⟩ a).length ≤ 231 * 231 := by
    have h := cross_len (fwM ⟨long, rise, change, ps⟩ a) (bwM ⟨long, rise, change, ps⟩ a) _ (Nat.le_refl _)
    rw [List.take_length] at h
    exact Nat.le_trans h (Nat.mul_le_mul (ch_len _ _ _ _) (ch_len _ _ _ _))
  refine ⟨⟨hps, hl, ha⟩, ⟨⟨0, Nat.zero_le _, Int.le_refl _, by show (0 : Int) ≤ 15; decide⟩, rfl, rfl⟩, fun t => ⟨fun ht => ?_, fun ht => ?_⟩⟩
  · obtain ⟨i, hi, s0, s1⟩ := t
    have hlt : i < (rMixM ⟨long, rise, change, ps⟩ a).length := by have h0 : (i : Int) < ((rMixM ⟨long, rise, change, ps⟩ a).length : Int) := ht; omega
    have hr := rof_range ((rMixM ⟨long, rise, change, ps⟩ a).getD i (0, 0))
    have hstep : csetM (rMixM ⟨long, rise, change, ps⟩ a) (i + 1) = addM (csetM (rMixM ⟨long, rise, change, ps⟩ a) i) (rofM ((rMixM ⟨long, rise, change, ps⟩ a).getD i (0, 0))) := rfl
    have hb := add_b ⟨s0, s1⟩ hr
    have hw : ∀ v, v = csetM (rMixM ⟨long, rise, change, ps⟩ a) (i + 1) → ∃ x : { i : Nat // i ≤ (rMixM ⟨long, rise, change, ps⟩ a).length ∧ 0 ≤ csetM (rMixM ⟨long, rise, change, ps⟩ a) i ∧ csetM (rMixM ⟨long, rise, change, ps⟩ a) i ≤ 15 }, (v = csetM (rMixM ⟨long, rise, change, ps⟩ a) x.1 ∧ IntKind.i64.wrap ((i : Int) + 1) = (x.1 : Int)) ∧ (rMixM ⟨long, rise, change, ps⟩ a).length - x.1 < (rMixM ⟨long, rise, change, ps⟩ a).length - i := fun v hv =>
      ⟨⟨i + 1, hlt, by rw [hstep]; exact hb.1, by rw [hstep]; exact hb.2⟩, ⟨hv, sucI i (by omega)⟩, dec1 hlt⟩
    have hn : (rofM ((rMixM ⟨long, rise, change, ps⟩ a).getD i (0, 0))).toNat ≤ 3 := by omega
    have hc : rofM ((rMixM ⟨long, rise, change, ps⟩ a).getD i (0, 0)) = ((rofM ((rMixM ⟨long, rise, change, ps⟩ a).getD i (0, 0))).toNat : Int) := by omega
    refine ⟨⟨Int.natCast_nonneg _, ht⟩, hlt, ⟨hn, s0, by show csetM (rMixM ⟨long, rise, change, ps⟩ a) i ≤ 100; omega⟩, hc, fun h => ⟨hn, hc, hw _ ?_⟩, fun h => hw _ ?_⟩
    · have h' : rhasM (csetM (rMixM ⟨long, rise, change, ps⟩ a) i) (rofM ((rMixM ⟨long, rise, change, ps⟩ a).getD i (0, 0))).toNat = false := by simpa using h
      rw [hstep]
      unfold addM
      rw [h']; rfl
    · have h' : rhasM (csetM (rMixM ⟨long, rise, change, ps⟩ a) i) (rofM ((rMixM ⟨long, rise, change, ps⟩ a).getD i (0, 0))).toNat = true := by simpa using h
      rw [hstep]
      unfold addM
      rw [h']; rfl
  · obtain ⟨i, hi, s0, s1⟩ := t
    have hie : i = (rMixM ⟨long, rise, change, ps⟩ a).length := by have h0 : ¬ (i : Int) < ((rMixM ⟨long, rise, change, ps⟩ a).length : Int) := ht; omega
    subst hie; rfl

theorem rclass_sound : Sound Try.prog 41 rclassS.con := FSpec.sound _ (enter_of Try.func41 (by kernel_rfl) (by kernel_rfl)) rclass_ok
end AE.Soil
