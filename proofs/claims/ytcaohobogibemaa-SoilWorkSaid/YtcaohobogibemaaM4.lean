/- An own symbolic executor for the model's code, and what the functions beneath the law compute, joined out of: SoM, SoN, SoO, SoP, SoQ, SoR, SoS, SoT, SoV, SoW, SoX, SoY, PrR, AeR, SsR. No condition. -/
import Derived.Test.YtcaohobogibemaaM3
import Derived.Test.YtcaohobogibemaaRows
import Derived.ProofKit
import Derived.OpenShut
import Derived.Below
import Derived.Carry
import Derived.ChangeArms

set_option linter.unusedSimpArgs false
set_option linter.unusedVariables false
namespace AE.Soil
open Go AE Go.Proofs

def orM (a b : Int) : Int := W (BitVec.ofInt 64 a ||| BitVec.ofInt 64 b).toNat
/-- The classes but the last: number, least share, part. -/
def kindM : Nat → Int × Int × Pt
  | 0 => (3, 8, .p0)
  | 1 => (1, 14, .p1)
  | _ => (2, 12, .p2)
def hasM (m : Mix3) (j : Nat) : Mix3 := andM m (ptM (kindM j).2.2 anyM (fromM (kindM j).2.1))
def hasntM (m : Mix3) (j : Nat) : Mix3 := andM m (ptM (kindM j).2.2 anyM (belowM (kindM j).2.1))
def leftM (m : Mix3) : Nat → Mix3
  | 0 => m
  | j + 1 => hasntM (leftM m j) j
def setM (m : Mix3) : Nat → Int
  | 0 => 0
  | j + 1 => if noneM (hasM (leftM m j) j) then setM m j else orM (setM m j) (W (1 * 2 ^ (kindM j).1.toNat))
def classesM (m : Mix3) : Int := if noneM (leftM m 1) then setM m 1 else if noneM (leftM m 2) then setM m 2 else if noneM (leftM m 3) then setM m 3 else orM (setM m 3) 1
def classSt (m : Mix3) (s : Int) (i : Nat) : Fr := [(4, .i s), (5, .ptr 2 0 0 0), (15, .agg (vKind 3 7 3 4 6 ++ vKind 1 9 3 4 8 ++ vKind 2 11 3 4 10)), (16, .i i)]
def classH (l : List Mix3) (m : Mix3) : Heap UU := [.one (.ro .mix l), .one (.rc [.junk, .junk, .junk, .junk, .junk, .sl 0 0 0 l.length] 71), .one (.cells (cMix m) 80), .one cFrom, .one cBelow, .one (.cells (cMix anyM) 80), .one (cInt 8), .one (cOf .p0 5), .one (cInt 14), .one (cOf .p1 5), .one (cInt 12), .one (cOf .p2 5)]
def avMixes (H : Heap UU) : AV → Option (List Mix3)
  | .ptr i 0 0 0 => match blkAt H i 0 with
    | some (.cells [_, _, _, _, _, a] _) => sliceAt .mix H a
    | some (.rc [_, _, _, _, _, a] _) => sliceAt .mix H a
    | _ => none
  | _ => none
def classesS : FSpec UU where
  X := List Mix3 × Int
  pick := fun args H => match args with
    | [g, a] => match avMixes H g, avInt a with
      | some l, some a => some (l, a)
      | _, _ => none
    | _ => none
  args := fun x => [.ptr 1 0 0 0, .i x.2]
  H := fun x => [.one (.ro .mix x.1), .one (.rc [.junk, .junk, .junk, .junk, .junk, .sl 0 0 0 x.1.length] 71)]
  R := fun x => .val ⟨.i (classesM (x.1.getD x.2.toNat m0)), [], [], []⟩
  pre := fun x => 0 ≤ x.2 ∧ x.2 < x.1.length ∧ x.1.length < 1000
def Tclasses : Tab UU := [(59, kindsS.con), (60, isNoneS.con), (79, (partS 73 fromM).con), (80, (partS 74 belowM).con)]
theorem Tclasses_ok : Tclasses.Sound Try.prog := .cons kinds_sound (.cons isNone_sound (.cons can_sound (.cons cannot_sound .nil)))
theorem set1t {m : Mix3} (h : noneM (andM m (ptM .p0 anyM (fromM 8))) = true) : setM m 1 = 0 := by
  show (if noneM (andM m (ptM .p0 anyM (fromM 8))) then setM m 0 else _) = _
  rw [h]; exact if_pos rfl
theorem set1f {m : Mix3} (h : noneM (andM m (ptM .p0 anyM (fromM 8))) = false) : setM m 1 = W 8 := by
  show (if noneM (andM m (ptM .p0 anyM (fromM 8))) then setM m 0 else orM (setM m 0) (W (1 * 2 ^ 3))) = _
  rw [h]; exact (if_neg (by decide)).trans (show orM 0 (W (1 * 2 ^ 3)) = W 8 by decide)
theorem set2t {m : Mix3} (h : noneM (andM (leftM m 1) (ptM .p1 anyM (fromM 14))) = true) : setM m 2 = setM m 1 := by
  show (if noneM (andM (leftM m 1) (ptM .p1 anyM (fromM 14))) then setM m 1 else _) = _
  rw [h]; exact if_pos rfl
theorem set2f {m : Mix3} (h : noneM (andM (leftM m 1) (ptM .p1 anyM (fromM 14))) = false) : setM m 2 = orM (setM m 1) (W (1 * 2 ^ 1)) := by
  show (if noneM (andM (leftM m 1) (ptM .p1 anyM (fromM 14))) then setM m 1 else orM (setM m 1) (W (1 * 2 ^ 1))) = _
  rw [h]; exact if_neg (by decide)
theorem set3t {m : Mix3} (h : noneM (andM (leftM m 2) (ptM .p2 anyM (fromM 12))) = true) : setM m 3 = setM m 2 := by
  show (if noneM (andM (leftM m 2) (ptM .p2 anyM (fromM 12))) then setM m 2 else _) = _
  rw [h]; exact if_pos rfl
theorem set3f {m : Mix3} (h : noneM (andM (leftM m 2) (ptM .p2 anyM (fromM 12))) = false) : setM m 3 = orM (setM m 2) (W (1 * 2 ^ 2)) := by
  show (if noneM (andM (leftM m 2) (ptM .p2 anyM (fromM 12))) then setM m 2 else orM (setM m 2) (W (1 * 2 ^ 2))) = _
  rw [h]; exact if_neg (by decide)
theorem cls1 {m : Mix3} (h : noneM (leftM m 1) = true) : classesM m = setM m 1 := by unfold classesM; rw [h]; rfl
theorem cls2 {m : Mix3} (h1 : noneM (leftM m 1) = false) (h : noneM (leftM m 2) = true) : classesM m = setM m 2 := by unfold classesM; rw [h1, h]; rfl
theorem cls3 {m : Mix3} (h1 : noneM (leftM m 1) = false) (h2 : noneM (leftM m 2) = false) (h : noneM (leftM m 3) = true) : classesM m = setM m 3 := by unfold classesM; rw [h1, h2, h]; rfl
theorem cls4 {m : Mix3} (h1 : noneM (leftM m 1) = false) (h2 : noneM (leftM m 2) = false) (h : noneM (leftM m 3) = false) : classesM m = orM (setM m 3) 1 := by unfold classesM; rw [h1, h2, h]; rfl
theorem left1 (m : Mix3) : andM m (ptM .p0 anyM (belowM 8)) = leftM m 1 := rfl
theorem left2 (m : Mix3) : andM (leftM m 1) (ptM .p1 anyM (belowM 14)) = leftM m 2 := rfl
theorem left3 (m : Mix3) : andM (leftM m 2) (ptM .p2 anyM (belowM 12)) = leftM m 3 := rfl
section
set_option maxHeartbeats 0 in
set_option maxRecDepth 100000 in
theorem classes_ok : ∀ x, classesS.pre x → FunOk Try.prog 40 (classesS.args x) (classesS.H x) (classesS.R x) := by
  rintro ⟨l, at_⟩ hx
  refine fun_of (T := Tclasses) (L := fun _ => some (.steps [(classSt (l.getD at_.toNat m0) 0 0, classH l (l.getD at_.toNat m0)), (classSt (l.getD at_.toNat m0) (setM (l.getD at_.toNat m0) 1) 1, classH l (leftM (l.getD at_.toNat m0) 1)), (classSt (l.getD at_.toNat m0) (setM (l.getD at_.toNat m0) 2) 2, classH l (leftM (l.getD at_.toNat m0) 2)), (classSt (l.getD at_.toNat m0) (setM (l.getD at_.toNat m0) 3) 3, classH l (leftM (l.getD at_.toNat m0) 3))])) (hs := fun _ => []) hmix Tclasses_ok Try.func40 (by kernel_rfl) (by kernel_rfl) ?_
  refine Eq.mp (α :=
      let Z0 := Int.toNat at_; let Z1 := True ∧ True; let Z2 := List.length l; let Z3 := (↑(nat_lit 0) : Int); let Z4 := nat_lit 0 = nat_lit 0 ∧ nat_lit 0 = nat_lit 0; let Z5 := (↑(nat_lit 3) : Int); let Z6 := (↑(nat_lit 1) : Int); let Z7 := (↑(nat_lit 8) : Int); let Z8 := (↑(nat_lit 2) : Int); let Z9 := (0 : Int); let Z10 := (8 : Int); let Z11 := (3 : Int); let Z12 := (1 : Int); let Z13 := (2 : Int); let Z14 := Fn.func (nat_lit 76) = Fn.func (nat_lit 76); let Z15 := Fn.func (nat_lit 75) = Fn.func (nat_lit 75); let Z16 := Fn.func (nat_lit 77) = Fn.func (nat_lit 77); let Z17 := (12 : Int); let Z18 := (14 : Int); let Z19 := (79 : FuncId); let Z20 := (73 : FuncId); let Z21 := (80 : FuncId); let Z22 := l = l; let Z23 := (74 : FuncId); let Z24 := fromM Z10; let Z25 := belowM Z10; let Z26 := fromM Z18; let Z27 := fromM Z17; let Z28 := belowM Z18; let Z29 := belowM Z17; let Z30 := nat_lit 0 = nat_lit 0 ∧ Z4; let Z31 := Fn.func Z20; let Z32 := Fn.func Z23; let Z33 := Fn.func Z19; let Z34 := Fn.func Z21; let Z35 := BitVec.ofInt (nat_lit 64) Z12; let Z36 := Value.int IntKind.i64 Z6; let Z37 := Value.int IntKind.i64 Z8; let Z38 := Value.int IntKind.i64 Z5; let Z39 := Value.int IntKind.i64 Z10; let Z40 := Value.int IntKind.i64 Z11; let Z41 := Prod.fst anyM; let Z42 := Prod.snd anyM; let Z43 := Value.int IntKind.i64 Z12; let Z44 := Value.int IntKind.i64 Z9; let Z45 := Value.int IntKind.i64 Z13; let Z46 := IntKind.wrap IntKind.i64 Z7; let Z47 := Value.int IntKind.i64 Z18; let Z48 := Value.int IntKind.i64 Z17; let Z49 := Z30 ∧ True; let Z50 := Z2 = Z2; let Z51 := nat_lit 0 + Z0; let Z52 := True ∧ Z49; let Z53 := Z32 = Fn.func (nat_lit 74); let Z54 := Z31 = Fn.func (nat_lit 73); let Z55 := ptM Pt.p0 anyM Z24; let Z56 := ptM Pt.p0 anyM Z25; let Z57 := ptM Pt.p1 anyM Z26; let Z58 := ptM Pt.p2 anyM Z27; let Z59 := Prod.snd Z41; let Z60 := ptM Pt.p1 anyM Z28; let Z61 := ptM Pt.p2 anyM Z29; let Z62 := Prod.fst Z41; let Z63 := nat_lit 0 = nat_lit 0 ∧ Z50; let Z64 := Value.int IntKind.i64 Z46; let Z65 := (Z9, Z9); let Z66 := Prod.snd Z42; let Z67 := Prod.fst Z42; let Z68 := Z8 < Z5; let Z69 := Z6 < Z5; let Z70 := Z5 < Z5; let Z71 := Z3 < Z11; let Z72 := Z9 ≤ Z5; let Z73 := Z5 < Z11; let Z74 := Z8 < Z11; let Z75 := Z9 ≤ Z8; let Z76 := Z9 ≤ Z6; let Z77 := Z6 < Z11; let Z78 := Z9 ≤ Z13; let Z79 := Z9 ≤ Z12; let Z80 := Z54 ∧ Z1; let Z81 := Z53 ∧ Z1; let Z82 := Value.int IntKind.i64 Z62; let Z83 := nat_lit 0 = nat_lit 0 ∧ Z63; let Z84 := Value.int IntKind.i64 Z59; let Z85 := Z80 ∧ True; let Z86 := Z81 ∧ True; let Z87 := Prod.snd Z66; let Z88 := Prod.snd Z67; let Z89 := Prod.fst Z66; let Z90 := Prod.fst Z67; let Z91 := Z13 ^ nat_lit 2; let Z92 := Z13 ^ nat_lit 1; let Z93 := Z34 = Z34; let Z94 := Z83 ∧ True; let Z95 := Z32 = Z32; let Z96 := Z31 = Z31; let Z97 := Z33 = Z33; let Z98 := Z15 ∧ Z52; let Z99 := Z16 ∧ Z52; let Z100 := Z14 ∧ Z52; let Z101 := Z3 + Z12; let Z102 := Z6 + Z12; let Z103 := Z8 + Z12; let Z104 := Z30 ∧ Z49; let Z105 := True ∧ Z94; let Z106 := Z98 ∧ True; let Z107 := Z100 ∧ True; let Z108 := Z99 ∧ True; let Z109 := Z39 = Z39; let Z110 := Z45 = Z45; let Z111 := Z40 = Z40; let Z112 := Z43 = Z43; let Z113 := Z48 = Z48; let Z114 := Z47 = Z47; let Z115 := Value.int IntKind.i64 Z87; let Z116 := Value.int IntKind.i64 Z88; let Z117 := Value.int IntKind.i64 Z90; let Z118 := Value.int IntKind.i64 Z89; let Z119 := Z95 ∧ Z1; let Z120 := True ∧ Z105; let Z121 := Z96 ∧ Z1; let Z122 := Z108 ∧ True; let Z123 := Z109 ∧ True; let Z124 := Z113 ∧ True; let Z125 := Z114 ∧ True; let Z126 := IntKind.wrap IntKind.i64 Z103; let Z127 := IntKind.wrap IntKind.i64 Z102; let Z128 := IntKind.wrap IntKind.i64 Z101; let Z129 := True ∧ Z120; let Z130 := Z119 ∧ True; let Z131 := Z121 ∧ True; let Z132 := True ∧ Z129; let Z133 := True ∧ Z132; let Z134 := Value.int IntKind.i64 Z126; let Z135 := Value.int IntKind.i64 Z127; let Z136 := Value.int IntKind.i64 Z128; let Z137 := Z30 ∧ Z104; let Z138 := Z133 ∧ True; let Z139 := True ∧ Z137; let Z140 := Z76 ∧ Z69; let Z141 := Z72 ∧ Z70; let Z142 := Z75 ∧ Z68; let Z143 := Z12 * Z92; let Z144 := Z12 * Z91; let Z145 := Z141 ∧ False; let Z146 := (Z65, Z65); let Z147 := Z84 = Z84; let Z148 := Z82 = Z82; let Z149 := IntKind.wrap IntKind.i64 Z143; let Z150 := IntKind.wrap IntKind.i64 Z144; let Z151 := decide Z71; let Z152 := decide Z77; let Z153 := decide Z73; let Z154 := decide Z74; let Z155 := Z22 ∧ Z138; let Z156 := Z135 = Z37; let Z157 := Z134 = Z38; let Z158 := Z136 = Z36; let Z159 := True ∧ Z155; let Z160 := BitVec.ofInt (nat_lit 64) Z149; let Z161 := BitVec.ofInt (nat_lit 64) Z150; let Z162 := Z153 = true; let Z163 := Z152 = true; let Z164 := Z154 = true; let Z165 := Z153 = false; let Z166 := Z152 = false; let Z167 := Z154 = false; let Z168 := Z158 ∧ True; let Z169 := Z157 ∧ True; let Z170 := Z156 ∧ True; let Z171 := Z117 = Z117; let Z172 := Z118 = Z118; let Z173 := Z116 = Z116; let Z174 := Z115 = Z115; let Z175 := Z124 ∧ Z122; let Z176 := Z174 ∧ True; let Z177 := Z97 ∧ Z139; let Z178 := Z93 ∧ Z139; let Z179 := Z178 ∧ True; let Z180 := (Z65, Z146); let Z181 := List.getD l Z0 Z180; let Z182 := setM Z181 (nat_lit 1); let Z183 := setM Z181 (nat_lit 3); let Z184 := setM Z181 (nat_lit 2); let Z185 := leftM Z181 (nat_lit 1); let Z186 := leftM Z181 (nat_lit 3); let Z187 := leftM Z181 (nat_lit 2); let Z188 := classesM Z181; let Z189 := BitVec.ofInt (nat_lit 64) Z182; let Z190 := BitVec.ofInt (nat_lit 64) Z183; let Z191 := BitVec.ofInt (nat_lit 64) Z184; let Z192 := Value.int IntKind.i64 Z184; let Z193 := Value.int IntKind.i64 Z182; let Z194 := Value.int IntKind.i64 Z183; let Z195 := Z107 ∧ Z175; let Z196 := Value.int IntKind.i64 Z188; let Z197 := Prod.snd Z181; let Z198 := Prod.fst Z181; let Z199 := Prod.snd Z187; let Z200 := Prod.snd Z185; let Z201 := Prod.fst Z186; let Z202 := Prod.fst Z187; let Z203 := Prod.snd Z186; let Z204 := Prod.fst Z185; let Z205 := List.getD l Z51 Z180; let Z206 := Prod.snd Z198; let Z207 := Prod.fst Z198; let Z208 := Z162 → Z145; let Z209 := Prod.snd Z197; let Z210 := Prod.fst Z197; let Z211 := Prod.fst Z201; let Z212 := Prod.fst Z202; let Z213 := Prod.fst Z204; let Z214 := Prod.snd Z201; let Z215 := Prod.snd Z202; let Z216 := Prod.snd Z204; let Z217 := andM Z181 Z55; let Z218 := andM Z181 Z56; let Z219 := Value.int IntKind.i64 Z207; let Z220 := Value.int IntKind.i64 Z206; let Z221 := Prod.fst Z200; let Z222 := Prod.snd Z200; let Z223 := Prod.fst Z203; let Z224 := Prod.fst Z199; let Z225 := Prod.snd Z203; let Z226 := Prod.snd Z199; let Z227 := Prod.snd Z210; let Z228 := Prod.snd Z209; let Z229 := Prod.fst Z209; let Z230 := Prod.fst Z210; let Z231 := noneM Z217; let Z232 := noneM Z218; let Z233 := andM Z185 Z57; let Z234 := andM Z187 Z58; let Z235 := andM Z187 Z61; let Z236 := andM Z185 Z60; let Z237 := Value.int IntKind.i64 Z212; let Z238 := Value.int IntKind.i64 Z213; let Z239 := Value.int IntKind.i64 Z211; let Z240 := Value.int IntKind.i64 Z215; let Z241 := Value.int IntKind.i64 Z216; let Z242 := Value.int IntKind.i64 Z214; let Z243 := !Z231; let Z244 := Prod.snd Z226; let Z245 := Prod.snd Z224; let Z246 := Prod.fst Z221; let Z247 := Prod.snd Z221; let Z248 := Prod.fst Z222; let Z249 := Prod.snd Z222; let Z250 := Prod.fst Z224; let Z251 := Prod.snd Z223; let Z252 := Prod.fst Z223; let Z253 := Prod.fst Z226; let Z254 := Prod.fst Z225; let Z255 := Prod.snd Z225; let Z256 := Prod.fst Z205; let Z257 := Prod.snd Z205; let Z258 := noneM Z234; let Z259 := noneM Z233; let Z260 := noneM Z236; let Z261 := noneM Z235; let Z262 := Z232 = true; let Z263 := Z232 = false; let Z264 := Value.int IntKind.i64 Z230; let Z265 := Value.int IntKind.i64 Z228; let Z266 := Value.int IntKind.i64 Z227; let Z267 := Value.int IntKind.i64 Z229; let Z268 := !Z258; let Z269 := !Z259; let Z270 := Prod.snd Z217; let Z271 := Prod.fst Z217; let Z272 := Prod.snd Z218; let Z273 := Prod.fst Z218; let Z274 := Value.int IntKind.i64 Z247; let Z275 := Value.int IntKind.i64 Z253; let Z276 := Value.int IntKind.i64 Z250; let Z277 := Value.int IntKind.i64 Z246; let Z278 := Value.int IntKind.i64 Z254; let Z279 := Value.int IntKind.i64 Z244; let Z280 := Z260 = true; let Z281 := Value.int IntKind.i64 Z249; let Z282 := Value.int IntKind.i64 Z252; let Z283 := Value.int IntKind.i64 Z251; let Z284 := Value.int IntKind.i64 Z245; let Z285 := Value.int IntKind.i64 Z255; let Z286 := Value.int IntKind.i64 Z248; let Z287 := Z261 = true; let Z288 := Z261 = false; let Z289 := Z260 = false; let Z290 := Prod.fst Z257; let Z291 := Prod.snd Z257; let Z292 := Z268 = true; let Z293 := Z269 = true; let Z294 := Z269 = false; let Z295 := Z268 = false; let Z296 := Prod.snd Z234; let Z297 := Prod.snd Z233; let Z298 := Prod.fst Z233; let Z299 := Prod.fst Z234; let Z300 := Prod.fst Z236; let Z301 := Prod.fst Z235; let Z302 := Prod.snd Z236; let Z303 := Prod.snd Z235; let Z304 := Prod.fst Z271; let Z305 := Prod.snd Z271; let Z306 := Prod.snd Z273; let Z307 := Prod.fst Z273; let Z308 := Prod.snd Z270; let Z309 := Prod.fst Z270; let Z310 := Prod.snd Z272; let Z311 := Prod.fst Z272; let Z312 := Prod.snd Z299; let Z313 := Prod.snd Z298; let Z314 := Prod.fst Z298; let Z315 := Prod.fst Z299; let Z316 := Prod.snd Z300; let Z317 := Prod.fst Z300; let Z318 := Prod.fst Z301; let Z319 := Prod.snd Z301; let Z320 := Value.int IntKind.i64 Z305; let Z321 := Value.int IntKind.i64 Z304; let Z322 := Value.int IntKind.i64 Z307; let Z323 := Value.int IntKind.i64 Z306; let Z324 := Prod.fst Z296; let Z325 := Prod.snd Z297; let Z326 := Prod.snd Z296; let Z327 := Prod.fst Z297; let Z328 := Prod.snd Z302; let Z329 := Prod.fst Z303; let Z330 := Prod.fst Z302; let Z331 := Prod.snd Z303; let Z332 := Prod.fst Z309; let Z333 := Prod.snd Z308; let Z334 := Prod.fst Z308; let Z335 := Prod.snd Z309; let Z336 := Prod.fst Z311; let Z337 := Prod.snd Z311; let Z338 := Prod.fst Z310; let Z339 := Prod.snd Z310; let Z340 := Z125 ∧ Z195; let Z341 := Z172 ∧ Z176; let Z342 := Value.int IntKind.i64 Z312; let Z343 := Value.int IntKind.i64 Z314; let Z344 := Value.int IntKind.i64 Z313; let Z345 := Value.int IntKind.i64 Z315; let Z346 := Value.int IntKind.i64 Z319; let Z347 := Value.int IntKind.i64 Z317; let Z348 := Value.int IntKind.i64 Z316; let Z349 := Value.int IntKind.i64 Z318; let Z350 := Prod.snd Z327; let Z351 := Prod.fst Z326; let Z352 := Prod.fst Z327; let Z353 := Prod.fst Z325; let Z354 := Prod.fst Z324; let Z355 := Prod.snd Z326; let Z356 := Prod.snd Z325; let Z357 := Prod.snd Z324; let Z358 := Prod.fst Z329; let Z359 := Prod.fst Z328; let Z360 := Prod.fst Z331; let Z361 := Prod.snd Z328; let Z362 := Prod.snd Z331; let Z363 := Prod.fst Z330; let Z364 := Prod.snd Z329; let Z365 := Prod.snd Z330; let Z366 := Value.int IntKind.i64 Z332; let Z367 := Value.int IntKind.i64 Z333; let Z368 := Value.int IntKind.i64 Z334; let Z369 := Value.int IntKind.i64 Z335; let Z370 := Value.int IntKind.i64 Z337; let Z371 := Value.int IntKind.i64 Z338; let Z372 := Value.int IntKind.i64 Z339; let Z373 := Value.int IntKind.i64 Z336; let Z374 := Value.int IntKind.i64 Z355; let Z375 := Value.int IntKind.i64 Z356; let Z376 := Value.int IntKind.i64 Z352; let Z377 := Value.int IntKind.i64 Z354; let Z378 := Value.int IntKind.i64 Z350; let Z379 := Value.int IntKind.i64 Z357; let Z380 := Value.int IntKind.i64 Z353; let Z381 := Value.int IntKind.i64 Z351; let Z382 := Value.int IntKind.i64 Z358; let Z383 := Value.int IntKind.i64 Z360; let Z384 := Value.int IntKind.i64 Z359; let Z385 := Value.int IntKind.i64 Z365; let Z386 := Value.int IntKind.i64 Z362; let Z387 := Value.int IntKind.i64 Z364; let Z388 := Value.int IntKind.i64 Z363; let Z389 := Value.int IntKind.i64 Z361; let Z390 := Z177 ∧ Z179; let Z391 := Z189 ||| Z35; let Z392 := Z191 ||| Z35; let Z393 := Z190 ||| Z35; let Z394 := Z106 ∧ Z340; let Z395 := BitVec.toNat Z392; let Z396 := BitVec.toNat Z391; let Z397 := BitVec.toNat Z393; let Z398 := (↑Z395 : Int); let Z399 := (↑Z397 : Int); let Z400 := (↑Z396 : Int); let Z401 := IntKind.wrap IntKind.i64 Z398; let Z402 := IntKind.wrap IntKind.i64 Z399; let Z403 := IntKind.wrap IntKind.i64 Z400; let Z404 := Z110 ∧ Z390; let Z405 := Value.int IntKind.i64 Z401; let Z406 := Value.int IntKind.i64 Z402; let Z407 := Value.int IntKind.i64 Z403; let Z408 := Z123 ∧ Z394; let Z409 := Z192 = Z194; let Z410 := Z193 = Z192; let Z411 := Z193 = Z196; let Z412 := Z192 = Z196; let Z413 := Z173 ∧ Z341; let Z414 := Z412 ∧ True; let Z415 := Z411 ∧ True; let Z416 := Z189 ||| Z160; let Z417 := Z191 ||| Z161; let Z418 := BitVec.toNat Z416; let Z419 := BitVec.toNat Z417; let Z420 := (↑Z419 : Int); let Z421 := (↑Z418 : Int); let Z422 := IntKind.wrap IntKind.i64 Z420; let Z423 := IntKind.wrap IntKind.i64 Z421; let Z424 := Z220 = Z220; let Z425 := Z219 = Z219; let Z426 := Value.int IntKind.i64 Z423; let Z427 := Value.int IntKind.i64 Z422; let Z428 := Z238 = Z238; let Z429 := Z237 = Z237; let Z430 := Z241 = Z241; let Z431 := Z240 = Z240; let Z432 := Z264 = Z264; let Z433 := Z265 = Z265; let Z434 := Z266 = Z266; let Z435 := Z267 = Z267; let Z436 := Z433 ∧ True; let Z437 := Z275 = Z275; let Z438 := Z281 = Z281; let Z439 := Z279 = Z279; let Z440 := Z277 = Z277; let Z441 := Z274 = Z274; let Z442 := Z276 = Z276; let Z443 := Z286 = Z286; let Z444 := Z284 = Z284; let Z445 := Z323 = Z241; let Z446 := Z322 = Z238; let Z447 := Z439 ∧ True; let Z448 := Z438 ∧ True; let Z449 := Z347 = Z237; let Z450 := Z349 = Z239; let Z451 := Z346 = Z242; let Z452 := Z348 = Z240; let Z453 := Z178 ∧ Z404; let Z454 := Z414 ∧ Z159; let Z455 := Z415 ∧ Z159; let Z456 := True ∧ Z454; let Z457 := True ∧ Z455; let Z458 := Z370 = Z274; let Z459 := Z373 = Z277; let Z460 := Z372 = Z281; let Z461 := Z371 = Z286; let Z462 := Z322 = Z322; let Z463 := Z323 = Z323; let Z464 := Z460 ∧ True; let Z465 := Z388 = Z276; let Z466 := Z385 = Z284; let Z467 := Z384 = Z275; let Z468 := Z383 = Z278; let Z469 := Z389 = Z279; let Z470 := Z387 = Z283; let Z471 := Z386 = Z285; let Z472 := Z382 = Z282; let Z473 := Z171 ∧ Z413; let Z474 := Z469 ∧ True; let Z475 := Z471 ∧ True; let Z476 := Z344 = Z344; let Z477 := Z343 = Z343; let Z478 := Z342 = Z342; let Z479 := Z345 = Z345; let Z480 := Z347 = Z347; let Z481 := Z349 = Z349; let Z482 := Z346 = Z346; let Z483 := Z348 = Z348; let Z484 := Z370 = Z370; let Z485 := Z372 = Z372; let Z486 := Z373 = Z373; let Z487 := Z371 = Z371; let Z488 := Z485 ∧ True; let Z489 := Z406 = Z196; let Z490 := Z405 = Z196; let Z491 := Z407 = Z196; let Z492 := Z491 ∧ True; let Z493 := Z490 ∧ True; let Z494 := Z489 ∧ True; let Z495 := Z375 = Z375; let Z496 := Z378 = Z378; let Z497 := Z381 = Z381; let Z498 := Z377 = Z377; let Z499 := Z374 = Z374; let Z500 := Z380 = Z380; let Z501 := Z379 = Z379; let Z502 := Z376 = Z376; let Z503 := Z383 = Z383; let Z504 := Z382 = Z382; let Z505 := Z388 = Z388; let Z506 := Z389 = Z389; let Z507 := Z387 = Z387; let Z508 := Z385 = Z385; let Z509 := Z386 = Z386; let Z510 := Z384 = Z384; let Z511 := Z495 ∧ True; let Z512 := Z499 ∧ True; let Z513 := Z506 ∧ True; let Z514 := Z509 ∧ True; let Z515 := Z147 ∧ Z473; let Z516 := Z177 ∧ Z453; let Z517 := Z427 = Z194; let Z518 := Z426 = Z192; let Z519 := Z426 = Z196; let Z520 := Z427 = Z196; let Z521 := Z520 ∧ True; let Z522 := Z519 ∧ True; let Z523 := Z493 ∧ Z159; let Z524 := Z494 ∧ Z159; let Z525 := Z492 ∧ Z159; let Z526 := True ∧ Z523; let Z527 := True ∧ Z524; let Z528 := True ∧ Z525; let Z529 := Z112 ∧ Z516; let Z530 := Z148 ∧ Z515; let Z531 := Z530 ∧ True; let Z532 := Z287 → Z456; let Z533 := Z280 → Z457; let Z534 := Z522 ∧ Z159; let Z535 := Z521 ∧ Z159; let Z536 := True ∧ Z534; let Z537 := True ∧ Z535; let Z538 := Z165 → Z527; let Z539 := Z166 → Z528; let Z540 := Z167 → Z526; let Z541 := Z123 ∧ Z531; let Z542 := Z124 ∧ Z531; let Z543 := Z125 ∧ Z531; let Z544 := Z178 ∧ Z529; let Z545 := Z86 ∧ Z541; let Z546 := Z85 ∧ Z542; let Z547 := Z85 ∧ Z543; let Z548 := Z86 ∧ Z543; let Z549 := Z86 ∧ Z542; let Z550 := Z106 ∧ Z545; let Z551 := Z108 ∧ Z549; let Z552 := Z107 ∧ Z548; let Z553 := Z108 ∧ Z546; let Z554 := Z107 ∧ Z547; let Z555 := Z435 ∧ Z436; let Z556 := Z437 ∧ Z447; let Z557 := Z443 ∧ Z448; let Z558 := Z177 ∧ Z544; let Z559 := Z208 ∧ Z538; let Z560 := Z280 → Z536; let Z561 := Z287 → Z537; let Z562 := Z461 ∧ Z464; let Z563 := Z468 ∧ Z475; let Z564 := Z467 ∧ Z474; let Z565 := Z111 ∧ Z558; let Z566 := Z487 ∧ Z488; let Z567 := Z530 ∧ Z408; let Z568 := Z497 ∧ Z512; let Z569 := Z500 ∧ Z511; let Z570 := Z503 ∧ Z514; let Z571 := Z510 ∧ Z513; let Z572 := Z565 ∧ Z170; let Z573 := Z565 ∧ Z169; let Z574 := Z565 ∧ Z168; let Z575 := Z130 ∧ Z567; let Z576 := Z30 ∧ Z574; let Z577 := Z30 ∧ Z572; let Z578 := Z30 ∧ Z573; let Z579 := Z131 ∧ Z575; let Z580 := Z434 ∧ Z555; let Z581 := Z441 ∧ Z557; let Z582 := Z444 ∧ Z556; let Z583 := Z458 ∧ Z562; let Z584 := Z470 ∧ Z563; let Z585 := Z466 ∧ Z564; let Z586 := Z410 ∧ Z577; let Z587 := Z409 ∧ Z578; let Z588 := Z484 ∧ Z566; let Z589 := Z496 ∧ Z569; let Z590 := Z501 ∧ Z568; let Z591 := Z507 ∧ Z570; let Z592 := Z508 ∧ Z571; let Z593 := Z518 ∧ Z577; let Z594 := Z517 ∧ Z578; let Z595 := Z432 ∧ Z580; let Z596 := Z440 ∧ Z581; let Z597 := Z442 ∧ Z582; let Z598 := Z459 ∧ Z583; let Z599 := Z465 ∧ Z585; let Z600 := Z472 ∧ Z584; let Z601 := Z486 ∧ Z588; let Z602 := Z502 ∧ Z589; let Z603 := Z498 ∧ Z590; let Z604 := Z504 ∧ Z591; let Z605 := Z505 ∧ Z592; let Z606 := Z424 ∧ Z595; let Z607 := Z430 ∧ Z596; let Z608 := Z431 ∧ Z597; let Z609 := Z445 ∧ Z598; let Z610 := Z452 ∧ Z599; let Z611 := Z451 ∧ Z600; let Z612 := Z463 ∧ Z601; let Z613 := Z425 ∧ Z606; let Z614 := Z478 ∧ Z603; let Z615 := Z476 ∧ Z602; let Z616 := Z482 ∧ Z604; let Z617 := Z483 ∧ Z605; let Z618 := Z429 ∧ Z608; let Z619 := Z428 ∧ Z607; let Z620 := Z613 ∧ Z137; let Z621 := Z618 ∧ Z137; let Z622 := Z619 ∧ Z137; let Z623 := Z446 ∧ Z609; let Z624 := Z449 ∧ Z610; let Z625 := Z450 ∧ Z611; let Z626 := Z462 ∧ Z612; let Z627 := Z626 ∧ True; let Z628 := Z479 ∧ Z614; let Z629 := Z477 ∧ Z615; let Z630 := Z628 ∧ True; let Z631 := Z629 ∧ True; let Z632 := Z480 ∧ Z617; let Z633 := Z481 ∧ Z616; let Z634 := Z633 ∧ True; let Z635 := Z632 ∧ True; let Z636 := Z623 ∧ Z579; let Z637 := Z624 ∧ Z579; let Z638 := Z625 ∧ Z579; let Z639 := Z133 ∧ Z636; let Z640 := Z22 ∧ Z639; let Z641 := True ∧ Z640; let Z642 := Z133 ∧ Z638; let Z643 := Z133 ∧ Z637; let Z644 := Z22 ∧ Z642; let Z645 := Z22 ∧ Z643; let Z646 := True ∧ Z644; let Z647 := True ∧ Z645; let Z648 := Z587 ∧ Z646; let Z649 := Z586 ∧ Z647; let Z650 := Z594 ∧ Z646; let Z651 := Z593 ∧ Z647; let Z652 := Z648 ∧ Z559; let Z682 := (Z164 → Z142 ∧ True ∧ Z621 ∧ Z553 ∧ True ∧ Z630 ∧ True ∧ (Z292 → Z78 ∧ True ∧ Z621 ∧ Z551 ∧ True ∧ Z634 ∧ True ∧ Z561 ∧ (Z288 → Z650 ∧ Z559)) ∧ (Z295 → True ∧ Z621 ∧ Z551 ∧ True ∧ Z634 ∧ True ∧ Z532 ∧ (Z288 → Z652))) ∧ Z540; (Z9 ≤ at_ ∧ at_ < (↑Z2 : Int)) ∧ Z51 < List.length l ∧ True ∧ True ∧ True ∧ ((Z44 = Z44 ∧ Z30 ∧ Z565 ∧ Z44 = Value.int IntKind.i64 Z3 ∧ True) ∧ True ∧ Z22 ∧ Z133 ∧ (Value.int IntKind.i64 (Prod.fst Z256) = Z219 ∧ Value.int IntKind.i64 (Prod.snd Z256) = Z220 ∧ Value.int IntKind.i64 (Prod.fst Z290) = Z264 ∧ Value.int IntKind.i64 (Prod.snd Z290) = Z266 ∧ Value.int IntKind.i64 (Prod.fst Z291) = Z267 ∧ Value.int IntKind.i64 (Prod.snd Z291) = Z265 ∧ True) ∧ Z579) ∧ (Z151 = true → (Z9 ≤ Z3 ∧ Z3 < Z5) ∧ True ∧ Z620 ∧ (Z106 ∧ Z85 ∧ Z541) ∧ True ∧ ((Z321 = Z321 ∧ Z320 = Z320 ∧ Z366 = Z366 ∧ Z369 = Z369 ∧ Z368 = Z368 ∧ Z367 = Z367 ∧ True) ∧ True) ∧ True ∧ (Z243 = true → Z9 ≤ Z11 ∧ True ∧ Z620 ∧ Z550 ∧ True ∧ Z627 ∧ True ∧ (Z262 → True ∧ (Z64 = Z196 ∧ True) ∧ Z159) ∧ (Z263 → ((Z64 = Z193 ∧ Z576) ∧ Z641) ∧ (Z163 → Z140 ∧ True ∧ Z622 ∧ Z554 ∧ True ∧ Z631 ∧ True ∧ (Z293 → Z79 ∧ True ∧ Z622 ∧ Z552 ∧ True ∧ Z635 ∧ True ∧ Z560 ∧ (Z289 → Z651 ∧ Z682)) ∧ (Z294 → True ∧ Z622 ∧ Z552 ∧ True ∧ Z635 ∧ True ∧ Z533 ∧ (Z289 → Z649 ∧ Z682))) ∧ Z539)) ∧ (Z243 = false → True ∧ Z620 ∧ Z550 ∧ True ∧ Z627 ∧ True ∧ (Z262 → True ∧ (Z44 = Z196 ∧ True) ∧ Z159) ∧ (Z263 → ((Z44 = Z193 ∧ Z576) ∧ Z641) ∧ (Z163 → Z140 ∧ True ∧ Z622 ∧ Z554 ∧ True ∧ Z631 ∧ True ∧ (Z293 → Z79 ∧ True ∧ Z622 ∧ Z552 ∧ True ∧ Z635 ∧ True ∧ Z560 ∧ (Z289 → Z651 ∧ Z682)) ∧ (Z294 → True ∧ Z622 ∧ Z552 ∧ True ∧ Z635 ∧ True ∧ Z533 ∧ (Z289 → Z649 ∧ Z682))) ∧ Z539))) ∧ (Z151 = false → True ∧ (Value.int IntKind.i64 (IntKind.wrap IntKind.i64 Z6) = Z196 ∧ True) ∧ Z159))
    (by kernel_rfl) ?_
  simp only [eq_self, true_and, and_true, Int.toNat_natCast, Nat.zero_add, Nat.sub_zero, Value.int.injEq, Value.bool.injEq, decide_eq_true_eq, decide_eq_false_iff_not]
  obtain ⟨h0, h1, h2⟩ := hx
  have h0' : 0 ≤ at_ := h0
  have h1' : at_ < (l.length : Int) := h1
  refine ⟨⟨h0', h1'⟩, by omega, ?_⟩
  generalize l.getD at_.toNat ((0, 0), (0, 0), 0, 0) = m
  have e1 := left1 m
  have e2 := left2 m
  have e3 := left3 m
  have i1 : IntKind.i64.wrap (((0 : Nat) : Int) + 1) = ((1 : Nat) : Int) := by decide
  have i2 : IntKind.i64.wrap (((1 : Nat) : Int) + 1) = ((2 : Nat) : Int) := by decide
  have i3 : IntKind.i64.wrap (((2 : Nat) : Int) + 1) = ((3 : Nat) : Int) := by decide
  have l0 : ((0 : Nat) : Int) < 3 := by decide
  have l1 : ((1 : Nat) : Int) < 3 := by decide
  have l2 : ((2 : Nat) : Int) < 3 := by decide
  have l3 : ¬ ((3 : Nat) : Int) < 3 := by decide
  simp only [e1, e2, e3, i1, i2, i3, l0, l1, l2, l3, eq_self, true_and, and_true, not_true, not_false_iff, false_implies, true_implies, Bool.not_eq_true', Bool.not_eq_false']
  have f1 := @set1f m
  have g1 := @set1t m
  have f2 := @set2f m
  have g2 := @set2t m
  have f3 := @set3f m
  have g3 := @set3t m
  have c1 := @cls1 m
  have c2 := @cls2 m
  have c3 := @cls3 m
  have c4 := @cls4 m
  clear e1 e2 e3 i1 i2 i3
  revert f1 g1 f2 g2 f3 g3 c1 c2 c3 c4
  generalize classesM m = c
  generalize setM m 1 = s1
  generalize setM m 2 = s2
  generalize setM m 3 = s3
  generalize noneM (andM m (ptM .p0 anyM (fromM 8))) = n0
  generalize noneM (andM (leftM m 1) (ptM .p1 anyM (fromM 14))) = n1
  generalize noneM (andM (leftM m 2) (ptM .p2 anyM (fromM 12))) = n2
  generalize noneM (leftM m 1) = q1
  generalize noneM (leftM m 2) = q2
  generalize noneM (leftM m 3) = q3
  intro f1 g1 f2 g2 f3 g3 c1 c2 c3 c4
  repeat' (first | refine And.intro ?_ ?_ | intro _)
  all_goals first
    | decide
    | refine Eq.symm ?_; first
      | exact f1 (by assumption)
      | exact g1 (by assumption)
      | exact f2 (by assumption)
      | exact g2 (by assumption)
      | exact f3 (by assumption)
      | exact g3 (by assumption)
      | exact (c1 (by assumption)).trans (f1 (by assumption))
      | exact (c1 (by assumption)).trans (g1 (by assumption))
      | exact (c2 (by assumption) (by assumption)).trans (f2 (by assumption))
      | exact (c2 (by assumption) (by assumption)).trans (g2 (by assumption))
      | exact (c3 (by assumption) (by assumption) (by assumption)).trans (f3 (by assumption))
      | exact (c3 (by assumption) (by assumption) (by assumption)).trans (g3 (by assumption))
      | exact c4 (by assumption) (by assumption) (by assumption)

end
theorem classes_sound : Sound Try.prog 40 classesS.con := FSpec.sound _ (enter_of Try.func40 (by kernel_rfl) (by kernel_rfl)) classes_ok
end AE.Soil

namespace AE.Soil
open Go AE Go.Proofs

def classOM (g : GroundT) (at_ : Int) : Int × Int := if openErrM g .place [at_] == 0 then (classesM ((boxesM g).getD at_.toNat m0), 0) else (0, openErrM g .place [at_])
def Tclass : Tab UU := [(33, isPlaceS.con), (32, openAS.con), (40, classesS.con)]
theorem Tclass_ok : Tclass.Sound Try.prog := .cons isPlace_sound (.cons openA_sound (.cons classes_sound .nil))
def classOS : FSpec UU where
  X := GroundT × Int
  pick := fun args H => match args with
    | [a, b] => match avGround H a, avInt b with
      | some a, some b => some (a, b)
      | _, _ => none
    | _ => none
  args := fun x => [vGround x.1 0, .i x.2]
  H := fun x => [.one (.ro .pit x.1.pits)]
  R := fun x => .val ⟨.tup [.i (classOM x.1 x.2).1, .i (classOM x.1 x.2).2], [], [], []⟩
  pre := fun x => x.1.pits.length < 1000000
set_option maxHeartbeats 0 in
set_option maxRecDepth 100000 in
theorem classO_ok : ∀ x, classOS.pre x → FunOk Try.prog 13 (classOS.args x) (classOS.H x) (classOS.R x) := by
  rintro ⟨⟨long, rise, change, ps⟩, at_⟩ hx
  refine fun_ofT (T := Tclass) (L := fun _ => none) (hs := fun _ => []) (sp := fun _ => none) hmix Tclass_ok (tdAt_ok told_ok) (it := fun _ => none) (fun _ _ h => by cases h) Try.func13 (by kernel_rfl) (by kernel_rfl) ?_
  refine Eq.mp (α :=
      let Z0 := GroundT.mk long rise change ps; let Z1 := List.length ps; let Z2 := Value.int IntKind.i64 long; let Z3 := Value.int IntKind.i64 rise; let Z4 := Value.int IntKind.i64 at_; let Z5 := Value.int IntKind.i64 change; let Z7 := nat_lit 0 = nat_lit 0 ∧ nat_lit 1 = nat_lit 1; let Z9 := (0 : Int); let Z11 := (4 : Nat); let Z12 : List Mix3 := boxesM Z0; let Z14 := ps = ps; let Z17 := nat_lit 0 = nat_lit 0 ∧ nat_lit 0 = nat_lit 0 ∧ nat_lit 0 = nat_lit 0; let Z18 := Fn.func (56 : FuncId); let Z20 := Value.int IntKind.i64 Z9; let Z25 := List.length Z12; let Z31 : List Int := [at_]; let Z34 := Value.int IntKind.i64 (Prod.fst (classOM Z0 at_)); let Z35 := (Z9, Z9); let Z36 := Value.int IntKind.i64 (Prod.snd (classOM Z0 at_)); let Z40 := openErrM Z0 Ask.place Z31; let Z44 := Z31 = Z31; let Z47 := Z40 == Z9; let Z49 := Z2 = Z2 ∧ Z3 = Z3 ∧ Z5 = Z5 ∧ (nat_lit 0 = nat_lit 0 ∧ nat_lit 0 = nat_lit 0 ∧ Z1 = Z1) ∧ True; True ∧ (Z49 ∧ True) ∧ (Z14 ∧ True) ∧ (nat_lit 1 = nat_lit 1 ∧ AV.v Z4 = AV.v Z4 ∧ True) ∧ (Z1 < nat_lit 1000000 ∧ nat_lit 1 < nat_lit 1000) ∧ (Z47 = true → (Z49 ∧ (Z18 = Z18 ∧ True ∧ Z17 ∧ True) ∧ (Z11 = Z11 ∧ nat_lit 0 = nat_lit 0 ∧ Z7) ∧ True) ∧ (Z14 ∧ Z49 ∧ Z44 ∧ True) ∧ (Z9 ≤ at_ ∧ at_ < (↑Z25 : Int) ∧ Z25 < nat_lit 1000) ∧ (Z17 ∧ Z4 = Z4 ∧ True) ∧ (Z12 = Z12 ∧ (True ∧ True ∧ True ∧ True ∧ True ∧ (nat_lit 6 = nat_lit 6 ∧ nat_lit 0 = nat_lit 0 ∧ nat_lit 0 = nat_lit 0 ∧ List.length Z12 = Z25) ∧ True) ∧ True) ∧ (true = true → True ∧ True ∧ ((Value.int IntKind.i64 (classesM (List.getD Z12 (Int.toNat at_) (Z35, Z35, Z35))) = Z34 ∧ Z20 = Z36 ∧ True) ∧ True) ∧ True ∧ Z14 ∧ True) ∧ (true = false → False)) ∧ (Z47 = false → (Z49 ∧ (Z18 = Z18 ∧ True ∧ Z17 ∧ True) ∧ (Z11 = Z11 ∧ nat_lit 0 = nat_lit 0 ∧ Z7) ∧ True) ∧ (Z14 ∧ Z49 ∧ Z44 ∧ True) ∧ True ∧ True ∧ ((Z20 = Z34 ∧ Value.int IntKind.i64 Z40 = Z36 ∧ True) ∧ True) ∧ True ∧ Z14 ∧ True))
    (by kernel_rfl) ?_
  simp only [eq_self, true_and, and_true, Int.toNat_natCast, Nat.zero_add, Nat.sub_zero, Value.int.injEq, Value.bool.injEq, decide_eq_true_eq, decide_eq_false_iff_not]
  refine ⟨⟨hx, by decide⟩, fun h => ?_, fun h => ?_⟩
  · obtain ⟨k, rfl, hk⟩ := place_nat h
    have hl : (boxesM ⟨long, rise, change, ps⟩).length = nM ⟨long, rise, change, ps⟩ := stage_len _ 2
    have hn := n_ok (ground_ok (open_ok h).1)
    have e : classOM ⟨long, rise, change, ps⟩ (k : Int) = (classesM ((boxesM ⟨long, rise, change, ps⟩).getD k m0), 0) := by unfold classOM; rw [h]; rfl
    rw [Int.toNat_natCast, e]
    exact ⟨⟨Int.natCast_nonneg _, by omega, by omega⟩, fun _ => ⟨rfl, rfl⟩, fun h => absurd h (by decide)⟩
  · have e : classOM ⟨long, rise, change, ps⟩ at_ = (0, openErrM ⟨long, rise, change, ps⟩ .place [at_]) := by unfold classOM; rw [h]; rfl
    rw [e]; exact ⟨rfl, rfl⟩

theorem classO_sound : Sound Try.prog 13 classOS.con := FSpec.sound _ (enter_of Try.func13 (by kernel_rfl) (by kernel_rfl)) classO_ok
end AE.Soil

namespace AE.Soil
open Go AE Go.Proofs

def openBL (g : GroundT) (l : List Int) : LSpec UU where
  T := { i : Nat // i ≤ l.length ∧ (l.take i).all (askM .cls g.long) = true }
  fr := fun i => [(1, .fn (.func 47) [] []), (3, .ptr 2 0 0 0), (14, .sl 1 0 0 l.length), (15, .i l.length), (16, .i i.1)]
  H := fun _ => [.one (.ro .pit g.pits), .one (.ro .int l), .one (.cells (cGround g 0) 24)]
  mu := fun i => l.length - i.1
def openBS : FSpec2 UU where
  X := GroundT × List Int
  pick := fun args H => match args with
    | [a, .fn (.func 47) [] [], l] => match avGround H a, sliceAt .int H l with
      | some a, some l => some (a, l)
      | _, _ => none
    | _ => none
  args := fun x => [vGround x.1 0, .fn (.func 47) [] [], .sl 1 0 0 x.2.length]
  H := fun x => [.one (.ro .pit x.1.pits), .one (.ro .int x.2)]
  c := fun x => openErrM x.1 .cls x.2 == 0
  R := fun x => .val ⟨.ptr 4 0 0 0, [], [], [.row .span (hardsM x.1 (nM x.1)) 28, .row .mix (boxesM x.1) 80, .cells [.i x.1.long, .i x.1.rise, .i x.1.change, .sl 0 0 0 x.1.pits.length, .gs 2 0, .gs 3 0] 71]⟩
  R' := fun x => .panic (failV (openErrM x.1 .cls x.2))
  pre := fun x => x.1.pits.length < 1000000 ∧ x.2.length < 1000
set_option maxHeartbeats 0 in
set_option maxRecDepth 100000 in
theorem openB_ok : ∀ x, openBS.pre x → (openBS.c x = true → FunOk Try.prog 32 (openBS.args x) (openBS.H x) (openBS.R x)) ∧ (openBS.c x = false → FunOk Try.prog 32 (openBS.args x) (openBS.H x) (openBS.R' x)) := by
  rintro ⟨⟨long, rise, change, ps⟩, l⟩ hx
  refine fun_of2 (T := Topen) (L := fun _ => some (.inv (openBL ⟨long, rise, change, ps⟩ l))) (hs := fun _ => []) (sp := fun _ => none) hmix Topen_ok (td := fun _ => none) (fun _ _ h => by cases h) (it := fun _ => none) (fun _ _ h => by cases h) Try.func32 (by kernel_rfl) (by kernel_rfl) ?_
  refine Eq.mp (α :=
      let Z0 := List.length l; let Z1 := Value.bool true; let Z2 := Value.bool false; let Z3 := GroundT.mk long rise change ps; let Z4 := List.length ps; let Z5 := Value.int IntKind.i64 change; let Z6 := Value.int IntKind.i64 long; let Z7 := Value.int IntKind.i64 rise; let Z9 := (0 : Int); let Z10 := (1 : Int); let Z17 := groundM Z3; let Z19 := l = l; let Z20 := (28 : TypeId); let Z21 := ps = ps; let Z22 := (47 : FuncId); let Z23 := (80 : TypeId); let Z24 := (104 : TypeId); let Z27 := nat_lit 0 = nat_lit 0 ∧ nat_lit 0 = nat_lit 0 ∧ nat_lit 0 = nat_lit 0; let Z28 := (↑Z0 : Int); let Z29 := openErrM Z3 Ask.cls l; let Z32 := Value.bool Z17; let Z34 := Value.int IntKind.i64 Z10; let Z35 := Value.int IntKind.i64 (2 : Int); let Z37 := Value.int IntKind.i64 (10 : Int); let Z45 := Value.int IntKind.i64 Z28; let Z46 := Value.int IntKind.i64 Z29; let Z50 := Z24 = Z24; let Z59 := Fn.func Z22 = Fn.func Z22 ∧ True ∧ True; let Z62 := Z37 = Z37 ∧ True; let Z63 := Z29 == Z9; let Z67 := Z63 = true; let Z68 := Z63 = false; let Z70 := Z67 → False; let Z73 : Type := { i : Nat // i ≤ Z0 ∧ List.all (List.take i l) (askM Ask.cls (GroundT.long Z3)) = true }; let Z74 := fun (x : Z73) => Subtype.val x; let Z77 := fun (x : Z73) => (↑(Z74 x) : Int); let Z83 := fun (x : Z73) => Z0 - Z74 x; let Z85 := fun (t : Z73) => nat_lit 0 + Int.toNat (Z77 t); let Z88 := (Z6 = Z6 ∧ Z7 = Z7 ∧ Z5 = Z5 ∧ (nat_lit 0 = nat_lit 0 ∧ nat_lit 0 = nat_lit 0 ∧ Z4 = Z4) ∧ True) ∧ True; let Z89 := fun (t : Z73) => List.getD l (Z85 t) Z9; let Z95 := fun (t : Z73) => inM (Z89 t) Z9 (3 : Int); let Z96 := fun (t : Z73) => Value.bool (Z95 t); let Z97 := fun (t : Z73) => decide (Z77 t < Z28); Z4 < nat_lit 1000000 ∧ Z88 ∧ (Z21 ∧ True) ∧ True ∧ (Z17 = true → (Z32 = Z32 ∧ Z34 = Z34 ∧ True) ∧ True ∧ (∃ (x : Z73), (Z59 ∧ Z27 ∧ (nat_lit 0 = nat_lit 0 ∧ nat_lit 0 = nat_lit 0 ∧ Z0 = Z0) ∧ Z45 = Z45 ∧ Value.int IntKind.i64 Z9 = Value.int IntKind.i64 (Z77 x) ∧ True) ∧ True ∧ Z21 ∧ Z19 ∧ Z88) ∧ ∀ (t : Z73), (Z97 t = true → (Z9 ≤ Z77 t ∧ Z77 t < Z28) ∧ Z85 t < List.length l ∧ True ∧ (Value.int IntKind.i64 (Z89 t) = Value.int IntKind.i64 (Z89 t) ∧ True) ∧ True ∧ True ∧ (Z95 t = true → (Z96 t = Z96 t ∧ Z35 = Z35 ∧ True) ∧ True ∧ True ∧ ∃ (x : Z73), ((Z59 ∧ Z27 ∧ (nat_lit 0 = nat_lit 0 ∧ nat_lit 0 = nat_lit 0 ∧ Z0 = Z0) ∧ Z45 = Z45 ∧ Value.int IntKind.i64 (IntKind.wrap IntKind.i64 (Z77 t + Z10)) = Value.int IntKind.i64 (Z77 x) ∧ True) ∧ True ∧ Z21 ∧ Z19 ∧ Z88) ∧ Z83 x < Z83 t) ∧ (Z95 t = false → (Z96 t = Z96 t ∧ Z35 = Z35 ∧ True) ∧ True ∧ Z70 ∧ (Z68 → True ∧ Z50 ∧ Z35 = Z46 ∧ True))) ∧ (Z97 t = false → Z17 = true ∧ (lookM Z3 = true → Z88 ∧ (Z21 ∧ True) ∧ True ∧ (true = true → (Z1 = Z1 ∧ Z62) ∧ True ∧ (Z67 → True ∧ (Z27 ∧ True) ∧ True ∧ Z21 ∧ Z19 ∧ (Z20 = Z20 ∧ hardsM Z3 (nM Z3) = hardsM Z3 (nM Z3)) ∧ (Z23 = Z23 ∧ boxesM Z3 = boxesM Z3) ∧ (Z6 = Z6 ∧ Z7 = Z7 ∧ Z5 = Z5 ∧ (nat_lit 0 = nat_lit 0 ∧ nat_lit 0 = nat_lit 0 ∧ Z4 = Z4) ∧ nat_lit 0 = nat_lit 0 ∧ nat_lit 0 = nat_lit 0 ∧ True) ∧ True) ∧ (Z68 → False)) ∧ (true = false → (Z1 = Z1 ∧ Z62) ∧ True ∧ Z70 ∧ (Z68 → True ∧ Z50 ∧ Z37 = Z46 ∧ True))) ∧ (lookM Z3 = false → Z88 ∧ (Z21 ∧ True) ∧ True ∧ (false = true → (Z2 = Z2 ∧ Z62) ∧ True ∧ (Z67 → True ∧ (False ∧ True) ∧ True ∧ Z21 ∧ Z19 ∧ False ∧ False ∧ False ∧ True) ∧ (Z68 → False)) ∧ (false = false → (Z2 = Z2 ∧ Z62) ∧ True ∧ Z70 ∧ (Z68 → True ∧ Z50 ∧ Z37 = Z46 ∧ True))))) ∧ (Z17 = false → (Z32 = Z32 ∧ Z34 = Z34 ∧ True) ∧ True ∧ Z70 ∧ (Z68 → True ∧ Z50 ∧ Z34 = Z46 ∧ True)))
    (by kernel_rfl) ?_
  simp only [eq_self, true_and, and_true, Int.toNat_natCast, Nat.zero_add, Nat.sub_zero, Value.int.injEq, Value.bool.injEq, decide_eq_true_eq, decide_eq_false_iff_not]
  obtain ⟨hl1, hl2⟩ := hx
  have hl2' : l.length < 1000 := hl2
  refine ⟨hl1, fun hg => ⟨⟨⟨0, Nat.zero_le _, rfl⟩, rfl⟩, fun t => ⟨fun ht => ?_, fun ht => ⟨hg, fun hk => ?_, fun hk => ?_⟩⟩⟩, fun hg => ?_⟩
  · obtain ⟨i, hi, ha⟩ := t
    have hlt : i < l.length := by have h0 : (i : Int) < (l.length : Int) := ht; omega
    refine ⟨⟨Int.natCast_nonneg _, ht⟩, hlt, fun h => ⟨⟨i + 1, hlt, ask_suc hlt ha h⟩, sucI i (by omega), dec1 hlt⟩, fun h => ?_⟩
    rw [open_range (a := .cls) hg hlt h]
    exact ⟨fun h => absurd h (by decide), fun _ => rfl⟩
  · obtain ⟨i, hi, ha⟩ := t
    have hie : i = l.length := by have h0 : ¬ (i : Int) < (l.length : Int) := ht; omega
    rw [hie, List.take_length] at ha
    rw [open_look (a := .cls) hg ha, hk]
    exact ⟨fun _ => ⟨fun _ => trivial, fun h => absurd h (by decide)⟩, fun h => absurd h (by decide)⟩
  · obtain ⟨i, hi, ha⟩ := t
    have hie : i = l.length := by have h0 : ¬ (i : Int) < (l.length : Int) := ht; omega
    rw [hie, List.take_length] at ha
    rw [open_look (a := .cls) hg ha, hk]
    exact ⟨fun h => absurd h (by decide), fun _ => ⟨fun h => absurd h (by decide), fun _ => rfl⟩⟩
  · rw [open_arg hg]
    exact ⟨fun h => absurd h (by decide), fun _ => rfl⟩

theorem openB_sound : Sound Try.prog 32 openBS.con := FSpec2.sound _ (enter_of Try.func32 (by kernel_rfl) (by kernel_rfl)) openB_ok
end AE.Soil

namespace AE.Soil
open Go AE Go.Proofs

structure WQ where
  n : Int
  long : Int
  rise : Int
  change : Int
  from_ : Int
  to : Int
def avTri (H : Heap UU) : AV → Option (Int × Int × Int)
  | .fn (.func 56) [] [.ptr id k 0 0] => match blkAt H id k with
    | some (.cells [b, c, d, _] _) => match avInt b, avInt c, avInt d with
      | some b, some c, some d => some (b, c, d)
      | _, _, _ => none
    | some (.rc [b, c, d, _] _) => match avInt b, avInt c, avInt d with
      | some b, some c, some d => some (b, c, d)
      | _, _, _ => none
    | _ => none
  | _ => none
def spanOkM (a b : Int) : Bool := decide (a ≤ b)
def workS : FSpec UU where
  X := WQ
  pick := fun args H => match args with
    | [n, p, a, b] => match avInt n, avCell H p, avCell H a, avCell H b with
      | some n, some p, some a, some b => match avTri H p, avInt a, avInt b with
        | some (l, r, c), some a, some b => some ⟨n, l, r, c, a, b⟩
        | _, _, _ => none
      | _, _, _, _ => none
    | _ => none
  args := fun x => [.i x.n, .ptr 0 0 0 0, .ptr 1 0 0 0, .ptr 2 0 0 0]
  H := fun x => [.one (.rc [.fn (.func 56) [] [.ptr 3 0 0 0]] 74), .one (.rc [.i x.from_] 3), .one (.rc [.i x.to] 3), .one (.rc [.i x.long, .i x.rise, .i x.change, .junk] 24)]
  R := fun x => .val ⟨.b (inM x.n 0 x.long && spanOkM x.from_ x.to), [], [], []⟩
def Twork1 : Tab UU := [(56, placeS.con)]
theorem Twork1_ok : Twork1.Sound Try.prog := .cons place_sound .nil
set_option maxRecDepth 100000 in
theorem work1_ok : ∀ x, workS.pre x → FunOk Try.prog 42 (workS.args x) (workS.H x) (workS.R x) := by
  rintro ⟨n, l, r, c, a, b⟩ _
  refine fun_of (T := Twork1) (L := fun _ => none) (hs := fun _ => []) hmix Twork1_ok Try.func42 (by kernel_rfl) (by kernel_rfl) ?_
  refine Eq.mp (α :=
      let Z0 := Value.int IntKind.i64 c; let Z1 := Value.int IntKind.i64 r; let Z2 := Value.int IntKind.i64 l; let Z3 := Value.int IntKind.i64 b; let Z4 := Value.int IntKind.i64 a; let Z8 := nat_lit 0 = nat_lit 0 ∧ nat_lit 0 = nat_lit 0 ∧ nat_lit 0 = nat_lit 0; let Z9 := inM n (0 : Int) l; let Z10 := Fn.func (56 : FuncId); let Z13 := Z2 = Z2; let Z16 := Z1 = Z1; let Z20 := Z9 && spanOkM a b; let Z21 := Z0 = Z0 ∧ True ∧ True; True ∧ (Value.int IntKind.i64 n = Value.int IntKind.i64 n ∧ Z8 ∧ True) ∧ ((Z13 ∧ Z16 ∧ Z21) ∧ True) ∧ (Z9 = true → True ∧ (Value.bool (decide (a ≤ b)) = Value.bool Z20 ∧ True) ∧ True ∧ ((Z10 = Z10 ∧ True ∧ Z8 ∧ True) ∧ True) ∧ (Z4 = Z4 ∧ True) ∧ (Z3 = Z3 ∧ True) ∧ (Z13 ∧ Z16 ∧ Z21) ∧ True) ∧ (Z9 = false → True ∧ (Value.bool Z20 = Value.bool false ∧ True) ∧ True ∧ ((Z10 = Z10 ∧ True ∧ Z8 ∧ True) ∧ True) ∧ (Z4 = Z4 ∧ True) ∧ (Z3 = Z3 ∧ True) ∧ (Z13 ∧ Z16 ∧ Z21) ∧ True))
    (by kernel_rfl) ?_
  simp [spanOkM]
  exact ⟨fun h _ => h, fun h h' => by rw [h] at h'; cases h'⟩

theorem work1_sound : Sound Try.prog 42 workS.con := FSpec.sound _ (enter_of Try.func42 (by kernel_rfl) (by kernel_rfl)) work1_ok
end AE.Soil

namespace AE.Soil
open Go AE Go.Proofs

structure OC where
  g : GroundT
  l : List Int
  f : Int
  t : Int
def openCL (g : GroundT) (l : List Int) (f t : Int) : LSpec UU where
  T := { i : Nat // i ≤ l.length ∧ (l.take i).all (askM (.span (spanOkM f t)) g.long) = true }
  fr := fun i => [(1, .fn (.func 42) [] [.ptr 2 0 0 0, .ptr 3 0 0 0, .ptr 4 0 0 0]), (3, .ptr 6 0 0 0), (14, .sl 5 0 0 l.length), (15, .i l.length), (16, .i i.1)]
  H := fun _ => [.one (.ro .pit g.pits), .one (.rc (cGround g 0) 24), .one (.rc [.fn (.func 56) [] [.ptr 1 0 0 0]] 74), .one (.rc [.i f] 3), .one (.rc [.i t] 3), .one (.ro .int l), .one (.cells (cGround g 0) 24)]
  mu := fun i => l.length - i.1
def openCS : FSpec2 UU where
  X := OC
  pick := fun args H => match args with
    | [a, .fn (.func 42) [] [_, f, t], l] => match avGround H a, sliceAt .int H l, avCell H f, avCell H t with
      | some a, some l, some f, some t => match avInt f, avInt t with
        | some f, some t => some ⟨a, l, f, t⟩
        | _, _ => none
      | _, _, _, _ => none
    | _ => none
  args := fun x => [vGround x.g 0, .fn (.func 42) [] [.ptr 2 0 0 0, .ptr 3 0 0 0, .ptr 4 0 0 0], .sl 5 0 0 x.l.length]
  H := fun x => [.one (.ro .pit x.g.pits), .one (.rc (cGround x.g 0) 24), .one (.rc [.fn (.func 56) [] [.ptr 1 0 0 0]] 74), .one (.rc [.i x.f] 3), .one (.rc [.i x.t] 3), .one (.ro .int x.l)]
  c := fun x => openErrM x.g (.span (spanOkM x.f x.t)) x.l == 0
  R := fun x => .val ⟨.ptr 8 0 0 0, [], [], [.row .span (hardsM x.g (nM x.g)) 28, .row .mix (boxesM x.g) 80, .cells [.i x.g.long, .i x.g.rise, .i x.g.change, .sl 0 0 0 x.g.pits.length, .gs 6 0, .gs 7 0] 71]⟩
  R' := fun x => .panic (failV (openErrM x.g (.span (spanOkM x.f x.t)) x.l))
  pre := fun x => x.g.pits.length < 1000000 ∧ x.l.length < 1000
def TopenC : Tab UU := [(51, isGroundS.con), (50, mustS.con), (52, lookS.con), (42, workS.con)]
theorem TopenC_ok : TopenC.Sound Try.prog := .cons isGround_sound (.cons must_sound (.cons look_sound (.cons work1_sound .nil)))
set_option maxHeartbeats 0 in
set_option maxRecDepth 100000 in
theorem openC_ok : ∀ x, openCS.pre x → (openCS.c x = true → FunOk Try.prog 32 (openCS.args x) (openCS.H x) (openCS.R x)) ∧ (openCS.c x = false → FunOk Try.prog 32 (openCS.args x) (openCS.H x) (openCS.R' x)) := by
  rintro ⟨⟨long, rise, change, ps⟩, l, f, t⟩ hx
  refine fun_of2 (T := TopenC) (L := fun _ => some (.inv (openCL ⟨long, rise, change, ps⟩ l f t))) (hs := fun _ => []) (sp := fun _ => none) hmix TopenC_ok (td := fun _ => none) (fun _ _ h => by cases h) (it := fun _ => none) (fun _ _ h => by cases h) Try.func32 (by kernel_rfl) (by kernel_rfl) ?_
  refine Eq.mp (α :=
      let Z0 := spanOkM f t; let Z1 := List.length l; let Z2 := Value.bool true; let Z3 := Value.bool false; let Z4 := GroundT.mk long rise change ps; let Z5 := List.length ps; let Z6 := Value.int IntKind.i64 change; let Z7 := Value.int IntKind.i64 f; let Z8 := Value.int IntKind.i64 rise; let Z9 := Value.int IntKind.i64 t; let Z10 := Value.int IntKind.i64 long; let Z11 := Ask.span Z0; let Z12 := nat_lit 0 = nat_lit 0 ∧ nat_lit 0 = nat_lit 0; let Z13 := (0 : Int); let Z14 := (2 : Int); let Z15 := (1 : Int); let Z16 := nM Z4; let Z17 := (10 : Int); let Z18 := lookM Z4; let Z19 : List Mix3 := boxesM Z4; let Z20 := GroundT.long Z4; let Z21 := groundM Z4; let Z22 := (56 : FuncId); let Z23 := l = l; let Z24 := (28 : TypeId); let Z25 := (42 : FuncId); let Z26 := (80 : TypeId); let Z27 := ps = ps; let Z28 := (104 : TypeId); let Z29 := fun (i : Nat) => i ≤ Z1; let Z31 := nat_lit 0 = nat_lit 0 ∧ Z12; let Z32 := (↑Z1 : Int); let Z33 := Fn.func Z25; let Z35 := Value.bool Z21; let Z38 := Value.int IntKind.i64 Z15; let Z39 := Value.int IntKind.i64 Z14; let Z41 := Value.int IntKind.i64 Z17; let Z43 := Z31 ∧ True; let Z45 := Z8 = Z8; let Z47 := Z10 = Z10; let Z49 := Z6 = Z6; let Z53 := Value.int IntKind.i64 Z32; let Z54 := Z9 = Z9 ∧ True; let Z55 := openErrM Z4 Z11 l; let Z56 := Z7 = Z7 ∧ True; let Z59 := Value.int IntKind.i64 Z55; let Z60 := Z28 = Z28; let Z74 := Z41 = Z41 ∧ True; let Z76 := Z55 == Z13; let Z82 := Z76 = true; let Z84 := Z76 = false; let Z86 := (Fn.func Z22 = Fn.func Z22 ∧ True ∧ Z43) ∧ True; let Z87 := Z82 → False; let Z91 : Type := { i : Nat // Z29 i ∧ List.all (List.take i l) (askM Z11 Z20) = true }; let Z92 := fun (x : Z91) => Subtype.val x; let Z94 := fun (x : Z91) => (↑(Z92 x) : Int); let Z99 := fun (x : Z91) => Z1 - Z92 x; let Z102 := fun (t : Z91) => nat_lit 0 + Int.toNat (Z94 t); let Z103 := Z47 ∧ Z45 ∧ Z49 ∧ (nat_lit 0 = nat_lit 0 ∧ nat_lit 0 = nat_lit 0 ∧ Z5 = Z5) ∧ True; let Z105 := Z103 ∧ True; let Z107 := fun (t : Z91) => List.getD l (Z102 t) Z13; let Z109 := fun (t : Z91) => inM (Z107 t) Z13 long; let Z112 := fun (t : Z91) => Value.bool (Z109 t && Z0); let Z115 := fun (t_1 : Z91) => decide (Z94 t_1 < Z32); Z5 < nat_lit 1000000 ∧ Z105 ∧ (Z27 ∧ True) ∧ True ∧ (Z21 = true → (Z35 = Z35 ∧ Z38 = Z38 ∧ True) ∧ True ∧ (∃ (x : Z91), ((Z33 = Z33 ∧ True ∧ Z31 ∧ Z31 ∧ Z43) ∧ Z31 ∧ (nat_lit 0 = nat_lit 0 ∧ nat_lit 0 = nat_lit 0 ∧ Z1 = Z1) ∧ Z53 = Z53 ∧ Value.int IntKind.i64 Z13 = Value.int IntKind.i64 (Z94 x) ∧ True) ∧ True ∧ Z27 ∧ Z103 ∧ Z86 ∧ Z56 ∧ Z54 ∧ Z23 ∧ Z105) ∧ ∀ (t_1 : Z91), (Z115 t_1 = true → (Z13 ≤ Z94 t_1 ∧ Z94 t_1 < Z32) ∧ Z102 t_1 < List.length l ∧ True ∧ (Value.int IntKind.i64 (Z107 t_1) = Value.int IntKind.i64 (Z107 t_1) ∧ Z31 ∧ Z31 ∧ Z43) ∧ (Z86 ∧ Z56 ∧ Z54 ∧ (Z47 ∧ Z45 ∧ Z49 ∧ True ∧ True) ∧ True) ∧ True ∧ ((Z109 t_1 && Z0) = true → (Z112 t_1 = Z112 t_1 ∧ Z39 = Z39 ∧ True) ∧ True ∧ True ∧ ∃ (x : Z91), (((Z33 = Z33 ∧ True ∧ Z31 ∧ Z31 ∧ Z43) ∧ Z31 ∧ (nat_lit 0 = nat_lit 0 ∧ nat_lit 0 = nat_lit 0 ∧ Z1 = Z1) ∧ Z53 = Z53 ∧ Value.int IntKind.i64 (IntKind.wrap IntKind.i64 (Z94 t_1 + Z15)) = Value.int IntKind.i64 (Z94 x) ∧ True) ∧ True ∧ Z27 ∧ Z103 ∧ Z86 ∧ Z56 ∧ Z54 ∧ Z23 ∧ Z105) ∧ Z99 x < Z99 t_1) ∧ ((Z109 t_1 && Z0) = false → (Z112 t_1 = Z112 t_1 ∧ Z39 = Z39 ∧ True) ∧ True ∧ Z87 ∧ (Z84 → True ∧ Z60 ∧ Z39 = Z59 ∧ True))) ∧ (Z115 t_1 = false → Z21 = true ∧ (Z18 = true → Z105 ∧ (Z27 ∧ True) ∧ True ∧ (true = true → (Z2 = Z2 ∧ Z74) ∧ True ∧ (Z82 → True ∧ Z43 ∧ True ∧ Z27 ∧ Z103 ∧ Z86 ∧ Z56 ∧ Z54 ∧ Z23 ∧ (Z24 = Z24 ∧ hardsM Z4 Z16 = hardsM Z4 Z16) ∧ (Z26 = Z26 ∧ Z19 = Z19) ∧ (Z47 ∧ Z45 ∧ Z49 ∧ (nat_lit 0 = nat_lit 0 ∧ nat_lit 0 = nat_lit 0 ∧ Z5 = Z5) ∧ nat_lit 0 = nat_lit 0 ∧ nat_lit 0 = nat_lit 0 ∧ True) ∧ True) ∧ (Z84 → False)) ∧ (true = false → (Z2 = Z2 ∧ Z74) ∧ True ∧ Z87 ∧ (Z84 → True ∧ Z60 ∧ Z41 = Z59 ∧ True))) ∧ (Z18 = false → Z105 ∧ (Z27 ∧ True) ∧ True ∧ (false = true → (Z3 = Z3 ∧ Z74) ∧ True ∧ (Z82 → True ∧ (False ∧ True) ∧ True ∧ Z27 ∧ Z103 ∧ Z86 ∧ Z56 ∧ Z54 ∧ Z23 ∧ False ∧ False ∧ False ∧ True) ∧ (Z84 → False)) ∧ (false = false → (Z3 = Z3 ∧ Z74) ∧ True ∧ Z87 ∧ (Z84 → True ∧ Z60 ∧ Z41 = Z59 ∧ True))))) ∧ (Z21 = false → (Z35 = Z35 ∧ Z38 = Z38 ∧ True) ∧ True ∧ Z87 ∧ (Z84 → True ∧ Z60 ∧ Z38 = Z59 ∧ True)))
    (by kernel_rfl) ?_
  simp only [eq_self, true_and, and_true, Int.toNat_natCast, Nat.zero_add, Nat.sub_zero, Value.int.injEq, Value.bool.injEq, decide_eq_true_eq, decide_eq_false_iff_not]
  obtain ⟨hl1, hl2⟩ := hx
  have hl2' : l.length < 1000 := hl2
  refine ⟨hl1, fun hg => ⟨⟨⟨0, Nat.zero_le _, rfl⟩, rfl⟩, fun tt => ⟨fun ht => ?_, fun ht => ⟨hg, fun hk => ?_, fun hk => ?_⟩⟩⟩, fun hg => ?_⟩
  · obtain ⟨i, hi, ha⟩ := tt
    have hlt : i < l.length := by have h0 : (i : Int) < (l.length : Int) := ht; omega
    refine ⟨⟨Int.natCast_nonneg _, ht⟩, hlt, fun h => ⟨⟨i + 1, hlt, ask_suc hlt ha h⟩, sucI i (by omega), dec1 hlt⟩, fun h => ?_⟩
    rw [open_range (a := .span (spanOkM f t)) hg hlt h]
    exact ⟨fun h => absurd h (by decide), fun _ => rfl⟩
  · obtain ⟨i, hi, ha⟩ := tt
    have hie : i = l.length := by have h0 : ¬ (i : Int) < (l.length : Int) := ht; omega
    rw [hie, List.take_length] at ha
    rw [open_look (a := .span (spanOkM f t)) hg ha, hk]
    exact ⟨fun _ => ⟨fun _ => trivial, fun h => absurd h (by decide)⟩, fun h => absurd h (by decide)⟩
  · obtain ⟨i, hi, ha⟩ := tt
    have hie : i = l.length := by have h0 : ¬ (i : Int) < (l.length : Int) := ht; omega
    rw [hie, List.take_length] at ha
    rw [open_look (a := .span (spanOkM f t)) hg ha, hk]
    exact ⟨fun h => absurd h (by decide), fun _ => ⟨fun h => absurd h (by decide), fun _ => rfl⟩⟩
  · rw [open_arg hg]
    exact ⟨fun h => absurd h (by decide), fun _ => rfl⟩

theorem openC_sound : Sound Try.prog 32 openCS.con := FSpec2.sound _ (enter_of Try.func32 (by kernel_rfl) (by kernel_rfl)) openC_ok
end AE.Soil

namespace AE.Soil
open Go AE Go.Proofs

def workNM (a b : Int) : Nat := (W (b + 1)).toNat - a.toNat
def workAtM (g : GroundT) (a : Int) : Nat → Span
  | 0 => (0, 0)
  | i + 1 => (W ((workAtM g a i).1 + ((hardsM g (nM g)).getD (a.toNat + i) (0, 0)).1), W ((workAtM g a i).2 + ((hardsM g (nM g)).getD (a.toNat + i) (0, 0)).2))
def workErrM (g : GroundT) (a b : Int) : Int := openErrM g (.span (spanOkM a b)) [a, b]
def workOM (g : GroundT) (a b : Int) : Span × Int := if workErrM g a b == 0 then (workAtM g a (workNM a b), 0) else ((0, 0), workErrM g a b)
def workL (g : GroundT) (a b : Int) : LSpec UU where
  T := { i : Nat // i ≤ workNM a b }
  fr := fun i => [(6, .ptr 4 0 0 0), (7, .ptr 5 0 0 0), (27, .sl 9 0 a.toNat (workNM a b)), (28, .i (workNM a b : Nat)), (29, .i i.1)]
  H := fun i => [.one (.ro .pit g.pits), .none, .none, .none, .one (.cells [.i (workAtM g a i.1).1, .i (workAtM g a i.1).2] 28), .one (.cells [.i 0] 29), .none, .none, .none, .one (.row .span (hardsM g (nM g)) 28)]
  mu := fun i => workNM a b - i.1
def Twork : Tab UU := [(33, isPlaceS.con), (32, openCS.con)]
theorem Twork_ok : Twork.Sound Try.prog := .cons isPlace_sound (.cons openC_sound .nil)
def workOS : FSpec UU where
  X := GroundT × Int × Int
  pick := fun args H => match args with
    | [a, b, c] => match avGround H a, avInt b, avInt c with
      | some a, some b, some c => some (a, b, c)
      | _, _, _ => none
    | _ => none
  args := fun x => [vGround x.1 0, .i x.2.1, .i x.2.2]
  H := fun x => [.one (.ro .pit x.1.pits)]
  R := fun x => .val ⟨.tup [vSpan (workOM x.1 x.2.1 x.2.2).1, .i (workOM x.1 x.2.1 x.2.2).2], [], [], []⟩
  pre := fun x => x.1.pits.length < 1000000
set_option maxHeartbeats 0 in
set_option maxRecDepth 100000 in
theorem workO_ok : ∀ x, workOS.pre x → FunOk Try.prog 15 (workOS.args x) (workOS.H x) (workOS.R x) := by
  rintro ⟨⟨long, rise, change, ps⟩, a, b⟩ hx
  refine fun_ofT (T := Twork) (L := fun _ => some (.inv (workL ⟨long, rise, change, ps⟩ a b))) (hs := fun _ => []) (sp := fun _ => none) hmix Twork_ok (tdAt_ok told_ok) (it := fun _ => none) (fun _ _ h => by cases h) Try.func15 (by kernel_rfl) (by kernel_rfl) ?_
  refine Eq.mp (α :=
      let Z0 := Int.toNat a; let Z1 := workNM a b; let Z2 := spanOkM a b; let Z3 := GroundT.mk long rise change ps; let Z4 := Value.int IntKind.i64 a; let Z5 := List.length ps; let Z6 := Value.int IntKind.i64 long; let Z7 := Value.int IntKind.i64 b; let Z8 := Value.int IntKind.i64 rise; let Z9 := Value.int IntKind.i64 change; let Z10 := Ask.span Z2; let Z11 := nat_lit 0 = nat_lit 0 ∧ nat_lit 2 = nat_lit 2; let Z12 := nat_lit 0 = nat_lit 0 ∧ nat_lit 0 = nat_lit 0; let Z13 := (0 : Int); let Z14 := (1 : Int); let Z15 := AV.v Z7; let Z16 := AV.v Z4; let Z17 := nM Z3; let Z18 : List Int := []; let Z19 := (8 : Nat); let Z20 := (5 : Nat); let Z21 := (42 : FuncId); let Z22 := (28 : TypeId); let Z23 := ps = ps; let Z24 := (56 : FuncId); let Z25 := fun (i : Nat) => i ≤ Z1; let Z26 := workOM Z3 a b; let Z27 := (↑Z1 : Int); let Z28 := nat_lit 0 = nat_lit 0 ∧ Z12; let Z29 := nat_lit 0 = nat_lit 0 ∧ Z11; let Z30 := AV.ptr Z20 (nat_lit 0) (nat_lit 0) (nat_lit 0); let Z31 := Fn.func Z24; let Z34 := Value.int IntKind.i64 Z13; let Z35 := Z28 ∧ True; let Z43 : Type := { i : Nat // Z25 i }; let Z45 := Prod.fst Z26; let Z46 := Fn.func (nat_lit 42) = Fn.func Z21; let Z49 := Value.int IntKind.i64 Z27; let Z51 : List Span := hardsM Z3 Z17; let Z54 := fun (x : Z43) => Subtype.val x; let Z63 := Value.int IntKind.i64 (Prod.snd Z26); let Z66 := fun (x : Z43) => (↑(Z54 x) : Int); let Z69 := List.length Z51; let Z70 := Value.int IntKind.i64 (Prod.snd Z45); let Z71 : List Int := a :: b :: Z18; let Z72 := Value.int IntKind.i64 (Prod.fst Z45); let Z73 := IntKind.wrap IntKind.i64 (b + Z14); let Z77 := fun (x : Z43) => workAtM Z3 a (Z54 x); let Z85 := fun (x : Z43) => Z1 - Z54 x; let Z86 : List DfE := [DfE.call (Fn.func (nat_lit 31)) [] [Z30]]; let Z88 := fun (x : Z43) => Value.int IntKind.i64 (Prod.snd (Z77 x)); let Z89 := fun (x : Z43) => Value.int IntKind.i64 (Prod.fst (Z77 x)); let Z93 := fun (t : Z43) => Z0 + Int.toNat (Z66 t); let Z94 := Z51 = Z51; let Z95 := openErrM Z3 Z10 Z71; let Z98 := Int.toNat Z73 - Z0; let Z101 := Z71 = Z71; let Z104 := Z95 == Z13; let Z109 := Z6 = Z6 ∧ Z8 = Z8 ∧ Z9 = Z9 ∧ (nat_lit 0 = nat_lit 0 ∧ nat_lit 0 = nat_lit 0 ∧ Z5 = Z5) ∧ True; let Z112 := fun (t : Z43) => decide (Z66 t < Z27); let Z113 := fun (t : Z43) => List.getD Z51 (Z93 t) (Z13, Z13); True ∧ (Z109 ∧ True) ∧ (Z23 ∧ True) ∧ (nat_lit 2 = nat_lit 2 ∧ Z16 = Z16 ∧ Z15 = Z15 ∧ True) ∧ (Z5 < nat_lit 1000000 ∧ nat_lit 2 < nat_lit 1000) ∧ (Z104 = true → (Z109 ∧ (Z46 ∧ True ∧ Z28 ∧ Z28 ∧ Z35) ∧ (Z19 = Z19 ∧ Z29) ∧ True) ∧ (Z23 ∧ Z109 ∧ ((Z31 = Z31 ∧ True ∧ Z35) ∧ True) ∧ (Z4 = Z4 ∧ True) ∧ (Z7 = Z7 ∧ True) ∧ Z101 ∧ True) ∧ (Z13 ≤ a ∧ a ≤ Z73 ∧ Z73 ≤ (↑Z69 : Int)) ∧ (∃ (x : Z43), (Z28 ∧ Z28 ∧ (nat_lit 0 = nat_lit 0 ∧ nat_lit 0 + Z0 = Z0 ∧ Z98 = Z1) ∧ Value.int IntKind.i64 (↑Z98 : Int) = Z49 ∧ Z34 = Value.int IntKind.i64 (Z66 x) ∧ True) ∧ (True ∧ Z35 ∧ True) ∧ Z23 ∧ True ∧ True ∧ True ∧ (Z34 = Z89 x ∧ Z34 = Z88 x ∧ True) ∧ (Z34 = Z34 ∧ True) ∧ True ∧ True ∧ True ∧ (Z22 = Z22 ∧ Z94) ∧ True) ∧ ∀ (t : Z43), (Z112 t = true → (Z13 ≤ Z66 t ∧ Z66 t < Z27) ∧ Z93 t < Z69 ∧ Z86 = Z86 ∧ ∃ (x : Z43), ((Z28 ∧ Z28 ∧ (nat_lit 0 = nat_lit 0 ∧ Z0 = Z0 ∧ Z1 = Z1) ∧ Z49 = Z49 ∧ Value.int IntKind.i64 (IntKind.wrap IntKind.i64 (Z66 t + Z14)) = Value.int IntKind.i64 (Z66 x) ∧ True) ∧ (True ∧ Z35 ∧ True) ∧ Z23 ∧ True ∧ True ∧ True ∧ (Value.int IntKind.i64 (IntKind.wrap IntKind.i64 (Prod.fst (Z77 t) + Prod.fst (Z113 t))) = Z89 x ∧ Value.int IntKind.i64 (IntKind.wrap IntKind.i64 (Prod.snd (Z77 t) + Prod.snd (Z113 t))) = Z88 x ∧ True) ∧ (Z34 = Z34 ∧ True) ∧ True ∧ True ∧ True ∧ (Z22 = Z22 ∧ Z94) ∧ True) ∧ Z85 x < Z85 t) ∧ (Z112 t = false → (true = true → True ∧ True ∧ (((Z89 t = Z72 ∧ Z88 t = Z70 ∧ True) ∧ Z34 = Z63 ∧ True) ∧ True) ∧ True ∧ Z23 ∧ True) ∧ (true = false → False))) ∧ (Z104 = false → (Z109 ∧ (Z46 ∧ True ∧ Z28 ∧ Z28 ∧ Z35) ∧ (Z19 = Z19 ∧ Z29) ∧ True) ∧ (Z23 ∧ Z109 ∧ ((Z31 = Z31 ∧ True ∧ Z35) ∧ True) ∧ (Z4 = Z4 ∧ True) ∧ (Z7 = Z7 ∧ True) ∧ Z101 ∧ True) ∧ True ∧ True ∧ (((Z34 = Z72 ∧ Z34 = Z70 ∧ True) ∧ Value.int IntKind.i64 Z95 = Z63 ∧ True) ∧ True) ∧ True ∧ Z23 ∧ True))
    (by kernel_rfl) ?_
  simp only [eq_self, true_and, and_true, Int.toNat_natCast, Nat.zero_add, Nat.sub_zero, Value.int.injEq, Value.bool.injEq, decide_eq_true_eq, decide_eq_false_iff_not]
  refine ⟨⟨hx, by decide⟩, fun h => ?_, fun h => ?_⟩
  · obtain ⟨hg, ha, _⟩ := open_ok h
    obtain ⟨n0, n1, n2⟩ := n_ok (ground_ok hg)
    have hl := hards_len ⟨long, rise, change, ps⟩ (nM ⟨long, rise, change, ps⟩)
    simp only [List.all_cons, List.all_nil, Bool.and_true, Bool.and_eq_true, askM, inM_iff, spanOkM, decide_eq_true_eq] at ha
    obtain ⟨⟨⟨a0, a1⟩, a2⟩, ⟨b0, b1⟩, _⟩ := ha
    have n0' : ((nM ⟨long, rise, change, ps⟩ : Nat) : Int) = long + 1 := n0
    have b1' : b ≤ long := b1
    have hw : IntKind.i64.wrap (b + 1) = b + 1 := wrap_id (by omega) (by omega)
    have hn : workNM a b = (b + 1).toNat - a.toNat := by unfold workNM; rw [show W (b + 1) = b + 1 from hw]
    have e : workOM ⟨long, rise, change, ps⟩ a b = (workAtM ⟨long, rise, change, ps⟩ a (workNM a b), 0) := by unfold workOM workErrM; rw [h]; rfl
    simp only [hw, e]
    refine ⟨⟨a0, by omega, by omega⟩, ⟨⟨0, Nat.zero_le _⟩, ⟨hn.symm, by rw [hn], rfl⟩, rfl, rfl⟩, fun t => ⟨fun ht => ?_, fun ht => ?_⟩⟩
    · obtain ⟨i, hi⟩ := t
      have hlt : i < workNM a b := by have h0 : (i : Int) < (workNM a b : Int) := ht; omega
      exact ⟨⟨Int.natCast_nonneg _, ht⟩, by show a.toNat + i < _; omega, ⟨i + 1, hlt⟩, ⟨sucI i (by omega), rfl, rfl⟩, dec1 hlt⟩
    · obtain ⟨i, hi⟩ := t
      have hie : i = workNM a b := by have h0 : ¬ (i : Int) < (workNM a b : Int) := ht; omega
      subst hie
      exact ⟨fun _ => ⟨⟨rfl, rfl⟩, trivial⟩, fun h => absurd h (by decide)⟩
  · have e : workOM ⟨long, rise, change, ps⟩ a b = ((0, 0), workErrM ⟨long, rise, change, ps⟩ a b) := by unfold workOM workErrM; rw [h]; rfl
    rw [e]; exact ⟨⟨rfl, rfl⟩, rfl⟩

theorem workO_sound : Sound Try.prog 15 workOS.con := FSpec.sound _ (enter_of Try.func15 (by kernel_rfl) (by kernel_rfl)) workO_ok
end AE.Soil

namespace AE.Soil
open Go AE Go.Proofs

def digStepM (i : Int) (s : Span) (p : Int × Int) : Int × Int := if W (s.2 - s.1) > p.2 then (i, W (s.2 - s.1)) else p
def digAtM (l : List Span) : Nat → Int × Int
  | 0 => (0, -1)
  | i + 1 => digStepM i (l.getD i (0, 0)) (digAtM l i)
theorem dig_yes {l : List Span} {i : Nat} (h : W ((l.getD i (0, 0)).2 - (l.getD i (0, 0)).1) > (digAtM l i).2) : digAtM l (i + 1) = ((i : Int), W ((l.getD i (0, 0)).2 - (l.getD i (0, 0)).1)) := if_pos h
theorem dig_no {l : List Span} {i : Nat} (h : ¬ W ((l.getD i (0, 0)).2 - (l.getD i (0, 0)).1) > (digAtM l i).2) : digAtM l (i + 1) = digAtM l i := if_neg h
def digErrM (g : GroundT) : Int := openErrM g .place []
def digOM (g : GroundT) : Int × Int × Int := if digErrM g == 0 then ((digAtM (hardsM g (nM g)) (nM g)).1, (digAtM (hardsM g (nM g)) (nM g)).2, 0) else (0, 0, digErrM g)
def digL (g : GroundT) : LSpec UU where
  T := { i : Nat // i ≤ nM g }
  fr := fun i => [(2, .i (digAtM (hardsM g (nM g)) i.1).1), (3, .i (digAtM (hardsM g (nM g)) i.1).2), (4, .ptr 2 0 0 0), (15, .gs 4 0), (16, .i (nM g : Nat)), (17, .i i.1)]
  H := fun _ => [.one (.ro .pit g.pits), .none, .one (.cells [.i 0] 29), .none, .one (.row .span (hardsM g (nM g)) 28)]
  mu := fun i => nM g - i.1
def digOS : FSpec UU where
  X := GroundT
  pick := fun args H => match args with
    | [a] => avGround H a
    | _ => none
  args := fun (x : GroundT) => [vGround x 0]
  H := fun (x : GroundT) => [.one (.ro .pit x.pits)]
  R := fun (x : GroundT) => .val ⟨.tup [.i (digOM x).1, .i (digOM x).2.1, .i (digOM x).2.2], [], [], []⟩
  pre := fun (x : GroundT) => x.pits.length < 1000000
set_option maxHeartbeats 0 in
set_option maxRecDepth 100000 in
theorem digO_ok : ∀ x, digOS.pre x → FunOk Try.prog 29 (digOS.args x) (digOS.H x) (digOS.R x) := by
  rintro ⟨long, rise, change, ps⟩ hx
  refine fun_ofT (T := Tq) (L := fun _ => some (.inv (digL ⟨long, rise, change, ps⟩))) (hs := fun _ => []) (sp := fun _ => none) hmix Tq_ok (tdAt_ok told_ok) (it := fun _ => none) (fun _ _ h => by cases h) Try.func29 (by kernel_rfl) (by kernel_rfl) ?_
  refine Eq.mp (α :=
      let Z0 : List DfE := []; let Z1 := True ∧ True; let Z2 := nat_lit 0 = nat_lit 0 ∧ True; let Z3 := GroundT.mk long rise change ps; let Z4 : List (CC.ty CC.int) := []; let Z5 := True ∧ Z1; let Z6 := Value.int IntKind.i64 change; let Z7 := Value.int IntKind.i64 long; let Z8 := Value.int IntKind.i64 rise; let Z9 := List.length ps; let Z10 := nat_lit 0 = nat_lit 0 ∧ nat_lit 0 = nat_lit 0; let Z11 := (0 : Int); let Z12 := (1 : Int); let Z13 := nM Z3; let Z14 : List Int := []; let Z15 := (2 : Nat); let Z16 := digOM Z3; let Z17 := True ∧ Z5; let Z18 := ps = ps; let Z20 := (28 : TypeId); let Z21 := True ∧ Z17; let Z22 := nat_lit 0 = nat_lit 0 ∧ Z10; let Z24 := Fn.func (56 : FuncId); let Z27 := Value.int IntKind.i64 Z11; let Z29 := Z22 ∧ True; let Z34 := (↑Z13 : Int); let Z37 := Prod.snd Z16; let Z40 : List Span := hardsM Z3 Z13; let Z41 := openErrM Z3 Ask.place Z4; let Z45 : Type := { i : Nat // i ≤ Z13 }; let Z49 := Value.int IntKind.i64 Z34; let Z50 := fun (x : Z45) => Subtype.val x; let Z51 := Value.int IntKind.i64 (Prod.fst Z16); let Z52 := Z20 = Z20; let Z53 := Z4 = Z14; let Z56 := Value.int IntKind.i64 (Prod.snd Z37); let Z57 := Value.int IntKind.i64 (Prod.fst Z37); let Z61 := List.length Z40; let Z63 := fun (x : Z45) => (↑(Z50 x) : Int); let Z64 := Z27 = Z27; let Z67 := (↑Z61 : Int); let Z68 := fun (x : Z45) => Value.int IntKind.i64 (Z63 x); let Z69 : List DfE := DfE.call (Fn.func (nat_lit 31)) [] [AV.ptr Z15 (nat_lit 0) (nat_lit 0) (nat_lit 0)] :: Z0; let Z71 := Z41 == Z11; let Z73 := fun (x : Z45) => Z13 - Z50 x; let Z74 := fun (x : Z45) => digAtM Z40 (Z50 x); let Z76 := Z40 = Z40; let Z77 := fun (t : Z45) => nat_lit 0 + Int.toNat (Z63 t); let Z82 := fun (t : Z45) => Z63 t + Z12; let Z85 := fun (x : Z45) => Value.int IntKind.i64 (Prod.snd (Z74 x)); let Z86 := fun (x : Z45) => Value.int IntKind.i64 (Prod.fst (Z74 x)); let Z94 := Z7 = Z7 ∧ Z8 = Z8 ∧ Z6 = Z6 ∧ (nat_lit 0 = nat_lit 0 ∧ nat_lit 0 = nat_lit 0 ∧ Z9 = Z9) ∧ True; let Z97 := fun (t : Z45) => List.getD Z40 (Z77 t) (Z11, Z11); let Z103 := fun (t : Z45) => decide (Z63 t < Z34); let Z112 := fun (t : Z45) => Prod.snd (Z97 t) - Prod.fst (Z97 t); let Z115 := fun (t : Z45) => decide (IntKind.wrap IntKind.i64 (Z112 t) > Prod.snd (Z74 t)); True ∧ (Z94 ∧ True) ∧ (Z18 ∧ True) ∧ (Z9 < nat_lit 1000000 ∧ nat_lit 0 < nat_lit 1000) ∧ (Z71 = true → (Z21 ∧ Z5 ∧ Z2) ∧ (True ∧ Z21 ∧ Z53 ∧ True) ∧ (Z94 ∧ (Z24 = Z24 ∧ True ∧ Z29) ∧ Z2) ∧ (Z18 ∧ Z94 ∧ Z1) ∧ (∃ (x : Z45), (Z27 = Z86 x ∧ Value.int IntKind.i64 (-Z12) = Z85 x ∧ Z22 ∧ nat_lit 0 = nat_lit 0 ∧ Value.int IntKind.i64 Z67 = Z49 ∧ Z27 = Z68 x ∧ True) ∧ (True ∧ Z29 ∧ True) ∧ Z18 ∧ True ∧ (Z64 ∧ True) ∧ True ∧ (Z52 ∧ Z76) ∧ True) ∧ ∀ (t : Z45), (Z103 t = true → (Z11 ≤ Z63 t ∧ Z63 t < Z67) ∧ Z77 t < Z61 ∧ (Z115 t = true → Z69 = Z69 ∧ ∃ (x : Z45), ((Z68 t = Z86 x ∧ Value.int IntKind.i64 (IntKind.wrap IntKind.i64 (Z112 t)) = Z85 x ∧ Z22 ∧ nat_lit 0 = nat_lit 0 ∧ Z49 = Z49 ∧ Value.int IntKind.i64 (IntKind.wrap IntKind.i64 (Z82 t)) = Z68 x ∧ True) ∧ (True ∧ Z29 ∧ True) ∧ Z18 ∧ True ∧ (Z64 ∧ True) ∧ True ∧ (Z52 ∧ Z76) ∧ True) ∧ Z73 x < Z73 t) ∧ (Z115 t = false → Z69 = Z69 ∧ ∃ (x : Z45), ((Z86 t = Z86 x ∧ Z85 t = Z85 x ∧ Z22 ∧ nat_lit 0 = nat_lit 0 ∧ Z49 = Z49 ∧ Value.int IntKind.i64 (IntKind.wrap IntKind.i64 (Z82 t)) = Z68 x ∧ True) ∧ (True ∧ Z29 ∧ True) ∧ Z18 ∧ True ∧ (Z64 ∧ True) ∧ True ∧ (Z52 ∧ Z76) ∧ True) ∧ Z73 x < Z73 t)) ∧ (Z103 t = false → (true = true → True ∧ True ∧ ((Z86 t = Z51 ∧ Z85 t = Z57 ∧ Z27 = Z56 ∧ True) ∧ True) ∧ True ∧ Z18 ∧ True) ∧ (true = false → False))) ∧ (Z71 = false → (Z21 ∧ Z5 ∧ Z2) ∧ (True ∧ Z21 ∧ Z53 ∧ True) ∧ (true && true && true) = true ∧ (Z94 ∧ (Z24 = Z24 ∧ True ∧ Z29) ∧ Z2) ∧ (Z18 ∧ Z94 ∧ Z1) ∧ True ∧ True ∧ ((Z27 = Z51 ∧ Z27 = Z57 ∧ Value.int IntKind.i64 Z41 = Z56 ∧ True) ∧ True) ∧ True ∧ Z18 ∧ True))
    (by kernel_rfl) ?_
  simp only [eq_self, true_and, and_true, Int.toNat_natCast, Nat.zero_add, Nat.sub_zero, Value.int.injEq, Value.bool.injEq, decide_eq_true_eq, decide_eq_false_iff_not]
  refine ⟨⟨hx, by decide⟩, fun h => ?_, fun h => ?_⟩
  · obtain ⟨n0, n1, n2⟩ := n_ok (ground_ok (open_ok h).1)
    have hl := hards_len ⟨long, rise, change, ps⟩ (nM ⟨long, rise, change, ps⟩)
    have e : digOM ⟨long, rise, change, ps⟩ = ((digAtM (hardsM ⟨long, rise, change, ps⟩ (nM ⟨long, rise, change, ps⟩)) (nM ⟨long, rise, change, ps⟩)).1, (digAtM (hardsM ⟨long, rise, change, ps⟩ (nM ⟨long, rise, change, ps⟩)) (nM ⟨long, rise, change, ps⟩)).2, 0) := by
      have h' : (digErrM ⟨long, rise, change, ps⟩ == 0) = true := h
      unfold digOM; rw [h']; rfl
    rw [e, hl]
    clear e hx h
    revert hl
    generalize hardsM ⟨long, rise, change, ps⟩ (nM ⟨long, rise, change, ps⟩) = l
    revert n0 n1 n2
    generalize nM ⟨long, rise, change, ps⟩ = n
    intro n0 n1 n2 hl
    refine ⟨rfl, ⟨⟨0, Nat.zero_le _⟩, rfl, rfl, rfl, rfl⟩, fun t => ⟨fun ht => ?_, fun ht => ?_⟩⟩
    · obtain ⟨i, hi⟩ := t
      have hlt : i < n := by have h0 : (i : Int) < (n : Int) := ht; omega
      refine ⟨⟨Int.natCast_nonneg _, ht⟩, by show i < n; omega, fun hy => ⟨⟨i + 1, hlt⟩, ?_, dec1 hlt⟩, fun hy => ⟨⟨i + 1, hlt⟩, ?_, dec1 hlt⟩⟩
      · have := dig_yes (l := l) (i := i) hy
        refine ⟨?_, ?_, sucI i (by omega)⟩
        · exact (congrArg Prod.fst this).symm
        · exact (congrArg Prod.snd this).symm
      · have := dig_no (l := l) (i := i) hy
        refine ⟨?_, ?_, sucI i (by omega)⟩
        · exact (congrArg Prod.fst this).symm
        · exact (congrArg Prod.snd this).symm
    · obtain ⟨i, hi⟩ := t
      have hie : i = n := by have h0 : ¬ (i : Int) < (n : Int) := ht; omega
      subst hie
      exact ⟨fun _ => ⟨rfl, rfl, rfl⟩, fun h => absurd h (by decide)⟩
  · have e : digOM ⟨long, rise, change, ps⟩ = (0, 0, digErrM ⟨long, rise, change, ps⟩) := by
      have h' : (digErrM ⟨long, rise, change, ps⟩ == 0) = false := h
      unfold digOM; rw [h']; rfl
    rw [e]; exact ⟨rfl, rfl, rfl, rfl, rfl⟩

theorem digO_sound : Sound Try.prog 29 digOS.con := FSpec.sound _ (enter_of Try.func29 (by kernel_rfl) (by kernel_rfl)) digO_ok
end AE.Soil

namespace AE.Soil
open Go AE Go.Proofs

def strStepM (c n : Int) (k : Int) (p : Int × Int × Int) : Int × Int × Int := if c = W (1 * 2 ^ n.toNat) then (if W (k - p.2.2) > W (p.2.1 - p.1) then (p.2.2, k, p.2.2) else p) else (p.1, p.2.1, W (k + 1))
def strAtM (l : List Mix3) (n : Int) : Nat → Int × Int × Int
  | 0 => (0, -1, 0)
  | k + 1 => strStepM (classesM (l.getD k m0)) n k (strAtM l n k)
theorem str_no {l : List Mix3} {n : Int} {k : Nat} (h : ¬ classesM (l.getD k m0) = W (1 * 2 ^ n.toNat)) : strAtM l n (k + 1) = ((strAtM l n k).1, (strAtM l n k).2.1, W ((k : Int) + 1)) := if_neg h
theorem str_new {l : List Mix3} {n : Int} {k : Nat} (h : classesM (l.getD k m0) = W (1 * 2 ^ n.toNat)) (h2 : W ((k : Int) - (strAtM l n k).2.2) > W ((strAtM l n k).2.1 - (strAtM l n k).1)) : strAtM l n (k + 1) = ((strAtM l n k).2.2, (k : Int), (strAtM l n k).2.2) := (if_pos h).trans (if_pos h2)
theorem str_old {l : List Mix3} {n : Int} {k : Nat} (h : classesM (l.getD k m0) = W (1 * 2 ^ n.toNat)) (h2 : ¬ W ((k : Int) - (strAtM l n k).2.2) > W ((strAtM l n k).2.1 - (strAtM l n k).1)) : strAtM l n (k + 1) = strAtM l n k := (if_pos h).trans (if_neg h2)
def strErrM (g : GroundT) (n : Int) : Int := openErrM g .cls [n]
def strEndM (l : List Mix3) (n : Int) (k : Nat) : Int × Int × Int := if (strAtM l n k).2.1 ≥ 0 then ((strAtM l n k).1, (strAtM l n k).2.1, 0) else (0, 0, 4)
def strOM (g : GroundT) (n : Int) : Int × Int × Int := if strErrM g n == 0 then strEndM (boxesM g) n (nM g) else (0, 0, strErrM g n)
def strI (g : GroundT) (n : Int) (l : Nat) : LSpec UU where
  T := { k : Nat // k ≤ nM g }
  fr := fun k => itFr l 12 13 ++ [(10, .i (nM g : Nat)), (11, .i k.1)]
  H := fun k => [.one (.ro .pit g.pits), .none, .one (.cells [.i n] 3), .one (.cells [.i 0] 29), .none, .one (.row .span (hardsM g (nM g)) 28), .one (.row .mix (boxesM g) 80), .one (.cells [.i g.long, .i g.rise, .i g.change, .sl 0 0 0 g.pits.length, .gs 5 0, .gs 6 0] 71), .one (.cells [.ptr 7 0 0 0] 72), .one (.cells [.i (strAtM (boxesM g) n k.1).1] 3), .one (.cells [.i (strAtM (boxesM g) n k.1).2.1] 3), .one (.cells [.i (strAtM (boxesM g) n k.1).2.2] 3), .one (.cells [.ptr 7 0 0 0] 72), ffCell]
  mu := fun k => nM g - k.1
def Tstr : Tab UU := [(32, openBS.con), (49, placesS.con), (40, classesS.con), (50, mustS.con)]
theorem Tstr_ok : Tstr.Sound Try.prog := .cons openB_sound (.cons places_sound (.cons classes_sound (.cons must_sound .nil)))
def strOS : FSpec UU where
  X := GroundT × Int
  pick := fun args H => match args with
    | [a, b] => match avGround H a, avInt b with
      | some a, some b => some (a, b)
      | _, _ => none
    | _ => none
  args := fun x => [vGround x.1 0, .i x.2]
  H := fun x => [.one (.ro .pit x.1.pits)]
  R := fun x => .val ⟨.tup [.i (strOM x.1 x.2).1, .i (strOM x.1 x.2).2.1, .i (strOM x.1 x.2).2.2], [], [], []⟩
  pre := fun x => x.1.pits.length < 1000000
set_option maxHeartbeats 0 in
set_option maxRecDepth 100000 in
theorem strO_ok : ∀ x, strOS.pre x → FunOk Try.prog 21 (strOS.args x) (strOS.H x) (strOS.R x) := by
  rintro ⟨⟨long, rise, change, ps⟩, n⟩ hx
  refine fun_ofT (T := Tstr) (L := fun _ => none) (hs := fun _ => []) (sp := fun _ => none) hmix Tstr_ok (tdAt_ok told_ok) (it := onlyAt 7 (itOf Try.prog [] 63 Try.f63 fun l _ => some (.inv (strI ⟨long, rise, change, ps⟩ n l)))) (onlyAt_ok it_ok) Try.func21 (by kernel_rfl) (by kernel_rfl) ?_
  refine Eq.mp (α :=
      let Z0 := True ∧ True; let Z1 := Value.bool false; let Z2 := nat_lit 0 = nat_lit 0 ∧ True; let Z3 := GroundT.mk long rise change ps; let Z4 := Value.int IntKind.i64 change; let Z5 := Value.int IntKind.i64 long; let Z6 := Value.int IntKind.i64 n; let Z7 := Value.int IntKind.i64 rise; let Z8 := List.length ps; let Z9 := Z0 ∧ True; let Z10 := nat_lit 0 = nat_lit 0 ∧ nat_lit 0 = nat_lit 0; let Z11 := nat_lit 0 = nat_lit 0 ∧ nat_lit 1 = nat_lit 1; let Z12 := AV.v Z6; let Z13 := (2 : Int); let Z14 := (0 : Int); let Z15 := (1 : Int); let Z16 := (4 : Int); let Z17 : List Int := []; let Z18 := nM Z3; let Z19 := fun (l : Nat) => Fn.yield l = Fn.yield l; let Z20 := (4 : Nat); let Z21 : List Mix3 := boxesM Z3; let Z22 := strOM Z3 n; let Z23 := (28 : TypeId); let Z24 := (47 : FuncId); let Z25 := (80 : TypeId); let Z26 := ps = ps; let Z27 := nat_lit 0 = nat_lit 0 ∧ Z2; let Z28 := min (Int.toNat n) (nat_lit 64); let Z29 := nat_lit 0 = nat_lit 0 ∧ Z11; let Z30 := nat_lit 0 = nat_lit 0 ∧ Z10; let Z31 := Fn.func Z24; let Z32 := Z26 ∧ True; let Z33 := Value.int IntKind.i64 Z14; let Z34 := Value.int IntKind.i64 Z16; let Z35 := fun (l : Nat) => Z19 l ∧ Z0; let Z36 := Z1 = Z1; let Z37 := fun (k : Nat) => k ≤ Z18; let Z38 := Z30 ∧ True; let Z39 := List.length Z21; let Z40 := Z8 = Z8; let Z41 := True ∧ Z32; let Z42 := (↑Z18 : Int); let Z43 := Z4 = Z4; let Z44 := Z7 = Z7; let Z45 := Z5 = Z5; let Z46 := Z6 = Z6; let Z47 := Z36 ∧ True; let Z48 := Prod.fst Z22; let Z49 := Prod.snd Z22; let Z50 := Fn.func (nat_lit 47) = Z31; let Z51 : List Int := n :: Z17; let Z52 : List Span := hardsM Z3 Z18; let Z53 := Z46 ∧ True; let Z54 := nat_lit 0 = nat_lit 0 ∧ Z40; let Z56 : Type := { k : Nat // Z37 k }; let Z57 := (Z14, Z14); let Z58 := Value.int IntKind.i64 Z42; let Z61 := fun (x : Z56) => Subtype.val x; let Z64 := Value.int IntKind.i64 Z48; let Z67 := nat_lit 0 = nat_lit 0 ∧ Z54; let Z69 := Value.int IntKind.i64 (Prod.fst Z49); let Z70 := Z21 = Z21; let Z71 := Value.int IntKind.i64 (Prod.snd Z49); let Z72 := fun (x : Z56) => (↑(Z61 x) : Int); let Z73 := openErrM Z3 Ask.cls Z51; let Z78 := Z33 = Z33 ∧ True; let Z80 := fun (x : Z56) => Value.int IntKind.i64 (Z72 x); let Z86 := fun (x : Z56) => Z18 - Z61 x; let Z87 := fun (x : Z56) => Prod.snd (strAtM Z21 n (Z61 x)); let Z88 := fun (x : Z56) => Prod.fst (strAtM Z21 n (Z61 x)); let Z91 := Z51 = Z51; let Z93 := Z58 = Z58; let Z96 := fun (x : Z56) => Prod.fst (Z87 x); let Z98 := fun (x : Z56) => Value.int IntKind.i64 (Z88 x); let Z101 := Z25 = Z25 ∧ Z70; let Z102 := Z73 == Z14; let Z103 := fun (x : Z56) => Value.int IntKind.i64 (Prod.snd (Z87 x)); let Z104 := fun (x : Z56) => Value.int IntKind.i64 (Z96 x); let Z112 := fun (t : Z56) => Value.int IntKind.i64 (IntKind.wrap IntKind.i64 (Z72 t + Z15)); let Z114 := Z23 = Z23 ∧ Z52 = Z52; let Z118 := Z45 ∧ Z44 ∧ Z43 ∧ Z67 ∧ Z27; let Z120 := fun (x t : Z56) => Z86 x < Z86 t; let Z127 := fun (t : Z56) => decide (Z72 t < Z42); let Z133 := fun (t : Z56) => decide (Z96 t ≥ Z14); let Z135 := fun (t : Z56) => Value.bool (Z133 t); let Z143 := fun (t : Z56) => classesM (List.getD Z21 (Int.toNat (Z72 t)) (Z57, Z57, Z57)) != IntKind.wrap IntKind.i64 (Z15 * Z13 ^ Z28); let Z147 := fun (t : Z56) => decide (IntKind.wrap IntKind.i64 (Z72 t - Prod.snd (Z87 t)) > IntKind.wrap IntKind.i64 (Z96 t - Z88 t)); (nat_lit 1 = nat_lit 1 ∧ Z12 = Z12 ∧ True) ∧ (Z8 < nat_lit 1000000 ∧ nat_lit 1 < nat_lit 1000) ∧ (Z102 = true → ((Z45 ∧ Z44 ∧ Z43 ∧ Z67 ∧ True) ∧ (Z50 ∧ Z0) ∧ (Z20 = Z20 ∧ Z29) ∧ True) ∧ (Z26 ∧ Z91 ∧ True) ∧ True ∧ (Z30 ∧ Z47) ∧ ((True ∧ True ∧ True ∧ True ∧ True ∧ Z0) ∧ True) ∧ ∀ (l : Nat), (∃ (x : Z56), (Z35 l ∧ Z30 ∧ Z30 ∧ Value.int IntKind.i64 (IntKind.wrap IntKind.i64 (long + Z15)) = Z58 ∧ Z33 = Z80 x ∧ True) ∧ True ∧ Z26 ∧ True ∧ Z53 ∧ Z78 ∧ True ∧ Z114 ∧ Z101 ∧ Z118 ∧ Z38 ∧ (Z33 = Z98 x ∧ True) ∧ (Value.int IntKind.i64 (-Z15) = Z104 x ∧ True) ∧ (Z33 = Z103 x ∧ True) ∧ Z38 ∧ Z47 ∧ True) ∧ ∀ (t : Z56), (Z127 t = true → l = l ∧ True ∧ (Z14 ≤ Z72 t ∧ Z72 t < (↑Z39 : Int) ∧ Z39 < nat_lit 1000) ∧ (Z30 ∧ Z80 t = Z80 t ∧ True) ∧ (Z70 ∧ (True ∧ True ∧ True ∧ True ∧ True ∧ (nat_lit 6 = nat_lit 6 ∧ nat_lit 0 = nat_lit 0 ∧ nat_lit 0 = nat_lit 0 ∧ List.length Z21 = Z39) ∧ True) ∧ True) ∧ Z14 ≤ n ∧ (Z143 t = true → True ∧ True ∧ ∃ (x : Z56), ((Z35 l ∧ Z30 ∧ Z30 ∧ Z93 ∧ Z112 t = Z80 x ∧ True) ∧ True ∧ Z26 ∧ True ∧ Z53 ∧ Z78 ∧ True ∧ Z114 ∧ Z101 ∧ Z118 ∧ Z38 ∧ (Z98 t = Z98 x ∧ True) ∧ (Z104 t = Z104 x ∧ True) ∧ (Z112 t = Z103 x ∧ True) ∧ Z38 ∧ Z9) ∧ Z120 x t) ∧ (Z143 t = false → (Z147 t = true → True ∧ True ∧ ∃ (x : Z56), ((Z35 l ∧ Z30 ∧ Z30 ∧ Z93 ∧ Z112 t = Z80 x ∧ True) ∧ True ∧ Z26 ∧ True ∧ Z53 ∧ Z78 ∧ True ∧ Z114 ∧ Z101 ∧ Z118 ∧ Z38 ∧ (Z103 t = Z98 x ∧ True) ∧ (Z80 t = Z104 x ∧ True) ∧ (Z103 t = Z103 x ∧ True) ∧ Z38 ∧ Z9) ∧ Z120 x t) ∧ (Z147 t = false → True ∧ True ∧ ∃ (x : Z56), ((Z35 l ∧ Z30 ∧ Z30 ∧ Z93 ∧ Z112 t = Z80 x ∧ True) ∧ True ∧ Z26 ∧ True ∧ Z53 ∧ Z78 ∧ True ∧ Z114 ∧ Z101 ∧ Z118 ∧ Z38 ∧ (Z98 t = Z98 x ∧ True) ∧ (Z104 t = Z104 x ∧ True) ∧ (Z103 t = Z103 x ∧ True) ∧ Z38 ∧ Z9) ∧ Z120 x t))) ∧ (Z127 t = false → True ∧ (Z133 t = true → (Z135 t = Z135 t ∧ Z34 = Z34 ∧ True) ∧ True ∧ (true = true → True ∧ True ∧ ((Z98 t = Z64 ∧ Z104 t = Z69 ∧ Z33 = Z71 ∧ True) ∧ True) ∧ Z41) ∧ (true = false → False)) ∧ (Z133 t = false → (Z135 t = Z135 t ∧ Z34 = Z34 ∧ True) ∧ True ∧ True ∧ True ∧ ((Z33 = Z64 ∧ Z33 = Z69 ∧ Z34 = Z71 ∧ True) ∧ True) ∧ Z41))) ∧ (Z102 = false → ((Z45 ∧ Z44 ∧ Z43 ∧ Z67 ∧ True) ∧ (Z50 ∧ Z0) ∧ (Z20 = Z20 ∧ Z29) ∧ True) ∧ (Z26 ∧ Z91 ∧ True) ∧ True ∧ True ∧ ((Z33 = Z64 ∧ Z33 = Z69 ∧ Value.int IntKind.i64 Z73 = Z71 ∧ True) ∧ True) ∧ Z41))
    (by kernel_rfl) ?_
  simp only [eq_self, true_and, and_true, Int.toNat_natCast, Nat.zero_add, Nat.sub_zero, Value.int.injEq, Value.bool.injEq, decide_eq_true_eq, decide_eq_false_iff_not]
  refine ⟨⟨hx, by decide⟩, fun h => ?_, fun h => ?_⟩
  · obtain ⟨hg, ha, _⟩ := open_ok h
    obtain ⟨n0, n1, n2⟩ := n_ok (ground_ok hg)
    have n0' : ((nM ⟨long, rise, change, ps⟩ : Nat) : Int) = long + 1 := n0
    simp only [List.all_cons, List.all_nil, Bool.and_true, askM, inM_iff] at ha
    obtain ⟨a0, a1⟩ := ha
    have hmin : min n.toNat 64 = n.toNat := by omega
    have hW : IntKind.i64.wrap (long + 1) = ((nM ⟨long, rise, change, ps⟩ : Nat) : Int) := by rw [wrap_id (by omega) (by omega)]; omega
    have hl : (boxesM ⟨long, rise, change, ps⟩).length = nM ⟨long, rise, change, ps⟩ := stage_len _ 2
    have e : strOM ⟨long, rise, change, ps⟩ n = strEndM (boxesM ⟨long, rise, change, ps⟩) n (nM ⟨long, rise, change, ps⟩) := by
      have h' : (strErrM ⟨long, rise, change, ps⟩ n == 0) = true := h
      unfold strOM; rw [h']; rfl
    rw [e, hW, hmin]
    clear e hx h hW hg n0
    revert hl n0'
    generalize boxesM ⟨long, rise, change, ps⟩ = l
    generalize nM ⟨long, rise, change, ps⟩ = N at *
    intro hl n0'
    refine fun _ => ⟨⟨⟨0, Nat.zero_le _⟩, ⟨rfl, rfl⟩, rfl, rfl, rfl⟩, fun t => ⟨fun ht => ?_, fun ht => ?_⟩⟩
    · obtain ⟨k, hk⟩ := t
      have hlt : k < N := by have h0 : (k : Int) < (N : Int) := ht; omega
      refine ⟨⟨Int.natCast_nonneg _, by show (k : Int) < _; omega, by omega⟩, a0, fun hy => ⟨⟨k + 1, hlt⟩, ?_, dec1 hlt⟩, fun hy => ⟨fun hz => ⟨⟨k + 1, hlt⟩, ?_, dec1 hlt⟩, fun hz => ⟨⟨k + 1, hlt⟩, ?_, dec1 hlt⟩⟩⟩
      · have hy' : ¬ classesM (l.getD k m0) = W (1 * 2 ^ n.toNat) := by simpa [bne_iff_ne] using hy
        have e := str_no hy'
        exact ⟨sucI k (by omega), (congrArg (fun p => p.1) e).symm, (congrArg (fun p => p.2.1) e).symm, (congrArg (fun p => p.2.2) e).symm⟩
      · have hy' : classesM (l.getD k m0) = W (1 * 2 ^ n.toNat) := by simpa using hy
        have e := str_new hy' hz
        exact ⟨sucI k (by omega), (congrArg (fun p => p.1) e).symm, (congrArg (fun p => p.2.1) e).symm, (congrArg (fun p => p.2.2) e).symm⟩
      · have hy' : classesM (l.getD k m0) = W (1 * 2 ^ n.toNat) := by simpa using hy
        have e := str_old hy' hz
        exact ⟨sucI k (by omega), (congrArg (fun p => p.1) e).symm, (congrArg (fun p => p.2.1) e).symm, (congrArg (fun p => p.2.2) e).symm⟩
    · obtain ⟨k, hk⟩ := t
      have hke : k = N := by have h0 : ¬ (k : Int) < (N : Int) := ht; omega
      subst hke
      refine ⟨fun hz => ⟨fun _ => ?_, fun h => absurd h (by decide)⟩, fun hz => ?_⟩
      · have e : strEndM l n k = ((strAtM l n k).1, (strAtM l n k).2.1, 0) := if_pos hz
        rw [e]; exact ⟨rfl, rfl, rfl⟩
      · have e : strEndM l n k = (0, 0, 4) := if_neg hz
        rw [e]; exact ⟨rfl, rfl, rfl⟩
  · have e : strOM ⟨long, rise, change, ps⟩ n = (0, 0, strErrM ⟨long, rise, change, ps⟩ n) := by
      have h' : (strErrM ⟨long, rise, change, ps⟩ n == 0) = false := h
      unfold strOM; rw [h']; rfl
    rw [e]; exact ⟨rfl, rfl, rfl⟩

theorem strO_sound : Sound Try.prog 21 strOS.con := FSpec.sound _ (enter_of Try.func21 (by kernel_rfl) (by kernel_rfl)) strO_ok
end AE.Soil

namespace AE.Soil
open Go AE Go.Proofs

/-- A ground without one of its pits. -/
def lessM (g : GroundT) (i : Nat) : GroundT := ⟨g.long, g.rise, g.change, g.pits.take i ++ g.pits.drop (i + 1)⟩
def oddAtM (g : GroundT) : Nat → Int
  | 0 => 0
  | i + 1 => if lookM (lessM g i) then orM (oddAtM g i) (W (1 * 2 ^ i)) else oddAtM g i
theorem odd_yes {g : GroundT} {i : Nat} (h : lookM (lessM g i) = true) : oddAtM g (i + 1) = orM (oddAtM g i) (W (1 * 2 ^ i)) := if_pos h
theorem odd_no {g : GroundT} {i : Nat} (h : lookM (lessM g i) = false) : oddAtM g (i + 1) = oddAtM g i := if_neg (by rw [h]; decide)
theorem pits_of {long : Int} (hl : long ≤ 40) : ∀ (l : List PitT) (b : Int), -1 ≤ b → b ≤ 40 → (∀ p ∈ l, b < p.1 ∧ PitOk long p) → (l.Pairwise fun p q => p.1 < q.1) → pitsM long b l = true
  | [], b, _, _, _, _ => rfl
  | q :: l, b, h1, h2, h, hp => by
    obtain ⟨hb, ok⟩ := h q List.mem_cons_self
    obtain ⟨hp1, hp2⟩ := List.pairwise_cons.1 hp
    have hw : W (b + 1) = b + 1 := wrap_id (by omega) (by omega)
    have := pits_of hl l q.1 (by have := ok.at_; omega) (by have := ok.at_; omega) (fun p hp => ⟨hp1 p hp, (h p (List.mem_cons_of_mem _ hp)).2⟩) hp2
    simp only [pitsM, okPitM, Bool.and_eq_true, inM_iff, spanM_iff, hw]
    exact ⟨⟨⟨⟨⟨⟨by omega, ok.at_.2⟩, ok.hard⟩, ok.sand⟩, ok.silt⟩, ok.clay⟩, this⟩
theorem ground_of {g : GroundT} (h : GOk g) : groundM g = true := by
  have := pits_of h.long.2 g.pits (-1) (by omega) (by omega) (fun p hp => ⟨by have := (h.pits p hp).at_; omega, h.pits p hp⟩) h.inc
  have hl := h.len
  simp only [groundM, Bool.and_eq_true, inM_iff, decide_eq_true_eq]
  exact ⟨⟨⟨⟨h.long, h.rise⟩, h.change⟩, by omega⟩, this⟩
theorem less_sub (l : List PitT) (i : Nat) : (l.take i ++ l.drop (i + 1)).Sublist l := by
  have : l.drop (i + 1) = (l.drop i).drop 1 := by rw [List.drop_drop]
  rw [this]
  calc (l.take i ++ (l.drop i).drop 1).Sublist (l.take i ++ l.drop i) := (List.Sublist.refl _).append (List.drop_sublist _ _)
    _ = l := List.take_append_drop i l
theorem less_ok {g : GroundT} (h : GOk g) (i : Nat) : GOk (lessM g i) where
  long := h.long
  rise := h.rise
  change := h.change
  len := Nat.le_trans (less_sub g.pits i).length_le h.len
  pits := fun p hp => h.pits p ((less_sub g.pits i).subset hp)
  inc := h.inc.sublist (less_sub g.pits i)
def oddErrM (g : GroundT) : Int := if groundM g then (if lookM g then 4 else 0) else 1
def oddOM (g : GroundT) : Int × Int := if oddErrM g == 0 then (oddAtM g g.pits.length, 0) else (0, oddErrM g)
def oddL (g : GroundT) : LSpec UU where
  T := { i : Nat // i ≤ g.pits.length }
  fr := fun i => [(1, .ptr 1 0 0 0), (2, .i (oddAtM g i.1)), (3, .ptr 2 0 0 0), (23, .i g.pits.length), (24, .i i.1)]
  H := fun i => [.one (.ro .pit g.pits), .one (.cells (cGround g 0) 24), .one (.cells [.i 0] 29)]
  mu := fun i => g.pits.length - i.1
def Todd : Tab UU := [(51, isGroundS.con), (50, mustS.con), (52, lookS.con)]
theorem Todd_ok : Todd.Sound Try.prog := .cons isGround_sound (.cons must_sound (.cons look_sound .nil))
def oddOS : FSpec UU where
  X := GroundT
  pick := fun args H => match args with
    | [a] => avGround H a
    | _ => none
  args := fun (x : GroundT) => [vGround x 0]
  H := fun (x : GroundT) => [.one (.ro .pit x.pits)]
  R := fun (x : GroundT) => .val ⟨.tup [.i (oddOM x).1, .i (oddOM x).2], [], [], []⟩
  pre := fun (x : GroundT) => x.pits.length < 1000000
set_option maxHeartbeats 0 in
set_option maxRecDepth 100000 in
theorem oddO_ok : ∀ x, oddOS.pre x → FunOk Try.prog 22 (oddOS.args x) (oddOS.H x) (oddOS.R x) := by
  rintro ⟨long, rise, change, ps⟩ hx
  refine fun_ofT (T := Todd) (L := fun _ => some (.inv (oddL ⟨long, rise, change, ps⟩))) (hs := fun _ => []) (sp := fun _ => none) hmix Todd_ok (tdAt_ok told_ok) (it := fun _ => none) (fun _ _ h => by cases h) Try.func22 (by kernel_rfl) (by kernel_rfl) ?_
  refine Eq.mp (α :=
      let Z0 : List DfE := []; let Z1 := !true; let Z2 := !false; let Z3 := GroundT.mk long rise change ps; let Z4 := List.length ps; let Z5 := Value.int IntKind.i64 change; let Z6 := Value.int IntKind.i64 long; let Z7 := Value.int IntKind.i64 rise; let Z8 := true = true; let Z9 := false = true; let Z10 := true = false; let Z11 := nat_lit 0 = nat_lit 0 ∧ nat_lit 0 = nat_lit 0; let Z12 := false = false; let Z13 := (0 : Int); let Z14 := Value.bool Z1; let Z15 := (4 : Int); let Z16 := (1 : Int); let Z17 := (2 : Int); let Z18 := Value.bool Z2; let Z19 := (0 : Nat); let Z20 := (5 : Nat); let Z21 := (2 : Nat); let Z22 := lookM Z3; let Z23 := oddOM Z3; let Z24 : List PitT := GroundT.pits Z3; let Z25 := groundM Z3; let Z26 : List (Int × Span × Span × Span × Span) := List.drop (nat_lit 0) ps; let Z27 := List.length ps; let Z28 := Z10 → False; let Z29 := ps = ps; let Z30 := nat_lit 0 = nat_lit 0 ∧ Z11; let Z31 := AV.ptr Z21 (nat_lit 0) (nat_lit 0) (nat_lit 0); let Z32 := Value.bool Z25; let Z33 := Z29 ∧ True; let Z34 := (↑Z4 : Int); let Z35 := Prod.snd Z23; let Z36 := Prod.fst Z23; let Z37 := Value.int IntKind.i64 Z13; let Z38 := Value.int IntKind.i64 Z15; let Z39 := Value.int IntKind.i64 Z16; let Z40 := Z25 = true; let Z41 := Z30 ∧ True; let Z42 := Z4 = Z4; let Z43 := List.length Z24; let Z44 := True ∧ Z33; let Z45 := Z5 = Z5; let Z46 := Z7 = Z7; let Z47 := Z6 = Z6; let Z48 := Int.toNat Z34; let Z49 := Z41 ∧ True; let Z50 : List (Int × Span × Span × Span × Span) := List.drop Z19 ps; let Z51 := Z14 = Z14; let Z52 := Value.int IntKind.i64 Z36; let Z53 : List AV := [Z31]; let Z54 := Value.int IntKind.i64 Z34; let Z55 := Value.int IntKind.i64 Z35; let Z56 := Z18 = Z18; let Z57 := nat_lit 0 = nat_lit 0 ∧ Z42; let Z58 := Z20 = Z20; let Z59 := True ∧ Z49; let Z60 := fun (i : Nat) => i ≤ Z43; let Z61 := Z13 ≤ Z13; let Z62 := nat_lit 0 = nat_lit 0 ∧ Z57; let Z63 := Z62 ∧ True; let Z64 : Type := { i : Nat // Z60 i }; let Z65 := Z32 = Z32; let Z66 := DfE.call (Fn.func (nat_lit 31)) [] Z53; let Z67 := fun (x : Z64) => Subtype.val x; let Z68 := Z38 = Z38; let Z69 := Z39 = Z39; let Z70 := Z37 = Z37; let Z71 := Z69 ∧ True; let Z72 := Z68 ∧ True; let Z73 := Z70 ∧ True; let Z74 := Z34 ≤ Z34; let Z75 := Z73 ∧ True; let Z76 : List DfE := Z66 :: Z0; let Z77 := Z37 = Z55; let Z78 := Z38 = Z55; let Z79 := Z37 = Z52; let Z80 := fun (x : Z64) => (↑(Z67 x) : Int); let Z81 := fun (x : Z64) => oddAtM Z3 (Z67 x); let Z82 := Z78 ∧ True; let Z83 := Z77 ∧ True; let Z84 := fun (t : Z64) => Int.toNat (Z80 t); let Z85 := Z54 = Z54; let Z86 := fun (x : Z64) => Value.int IntKind.i64 (Z80 x); let Z87 := fun (t : Z64) => BitVec.ofInt (nat_lit 64) (Z81 t); let Z88 := Z45 ∧ Z63; let Z89 := fun (x : Z64) => Value.int IntKind.i64 (Z81 x); let Z90 := fun (t : Z64) => min (Z84 t) (nat_lit 64); let Z91 := fun (x : Z64) => Z4 - Z67 x; let Z92 := fun (t : Z64) => Z13 ≤ Z80 t; let Z93 := fun (t : Z64) => Z84 t - nat_lit 0; let Z94 := Z51 ∧ Z72; let Z95 := Z56 ∧ Z72; let Z96 := fun (t : Z64) => Z80 t < Z34; let Z97 := fun (t : Z64) => Z80 t ≤ Z34; let Z98 := fun (t : Z64) => Z80 t + Z16; let Z99 := fun (x : Z64) => Z37 = Z86 x; let Z100 := fun (t : Z64) => Z84 t - Z19; let Z101 := fun (x : Z64) => Z37 = Z89 x; let Z102 := Z46 ∧ Z88; let Z103 := fun (x : Z64) => Z99 x ∧ True; let Z104 := Z65 ∧ Z71; let Z105 := fun (t : Z64) => IntKind.wrap IntKind.i64 (Z98 t); let Z106 := fun (t : Z64) => nat_lit 0 + Z93 t; let Z107 := fun (t : Z64) => Int.toNat (Z105 t); let Z108 := fun (t : Z64) => Z89 t = Z52; let Z109 := fun (t : Z64) => Value.int IntKind.i64 (Z105 t); let Z110 := fun (t : Z64) => List.take (Z93 t) Z26; let Z111 := fun (t : Z64) => Z17 ^ Z90 t; let Z112 := Z76 = Z76; let Z113 := Z79 ∧ Z82; let Z114 := fun (t : Z64) => Z13 ≤ Z105 t; let Z115 := Z47 ∧ Z102; let Z116 := fun (t : Z64) => nat_lit 0 + Z107 t; let Z117 := Z113 ∧ True; let Z118 := fun (t : Z64) => List.length (Z110 t); let Z119 := fun (t : Z64) => Z106 t ≤ Z27; let Z120 := Z115 ∧ True; let Z121 := fun (t : Z64) => Z105 t ≤ Z34; let Z122 := fun (t : Z64) => Z19 + Z107 t; let Z123 := fun (t : Z64) => List.take (Z100 t) Z50; let Z124 := fun (t : Z64) => List.drop (Z116 t) ps; let Z125 := fun (t : Z64) => Z118 t ≤ nat_lit 1099511627776; let Z126 := fun (t x : Z64) => Z89 t = Z89 x; let Z127 := fun (t : Z64) => Z16 * Z111 t; let Z128 := fun (t : Z64) => Z48 - Z107 t; let Z129 := Z117 ∧ Z44; let Z130 := fun (t : Z64) => List.drop (Z122 t) ps; let Z131 := True ∧ Z129; let Z132 := fun (t : Z64) => IntKind.wrap IntKind.i64 (Z127 t); let Z133 := fun (x t : Z64) => Z91 x < Z91 t; let Z134 := True ∧ Z131; let Z135 := fun (t : Z64) => BitVec.ofInt (nat_lit 64) (Z132 t); let Z136 := True ∧ Z134; let Z137 := fun (x : Z64) => Z85 ∧ Z103 x; let Z138 := fun (t : Z64) => Z108 t ∧ Z83; let Z139 := fun (t : Z64) => Z92 t ∧ Z97 t; let Z140 := fun (t : Z64) => Z138 t ∧ True; let Z141 := fun (t x : Z64) => Z109 t = Z86 x; let Z142 := Z115 ∧ Z75; let Z143 := fun (t x : Z64) => Z141 t x ∧ True; let Z144 := fun (x : Z64) => Z30 ∧ Z137 x; let Z145 := fun (t : Z64) => Z121 t ∧ Z74; let Z146 := fun (t : Z64) => decide (Z96 t); let Z147 := fun (t : Z64) => Z140 t ∧ Z44; let Z148 := Z29 ∧ Z142; let Z149 := fun (t : Z64) => Z146 t = true; let Z150 := fun (t : Z64) => Z146 t = false; let Z151 := fun (t : Z64) => True ∧ Z147 t; let Z152 := fun (t : Z64) => True ∧ Z151 t; let Z153 := fun (t : Z64) => Z61 ∧ Z139 t; let Z154 := fun (t : Z64) => Z8 → Z152 t; let Z155 := Z59 ∧ Z148; let Z156 := fun (t : Z64) => Z154 t ∧ Z28; let Z157 := fun (t x : Z64) => Z85 ∧ Z143 t x; let Z158 := fun (t x : Z64) => Z30 ∧ Z157 t x; let Z159 := fun (x : Z64) => Z101 x ∧ Z144 x; let Z160 := fun (t : Z64) => Z116 t + Z128 t; let Z161 := fun (t : Z64) => List.take (Z128 t) (Z124 t); let Z162 := fun (x : Z64) => Z30 ∧ Z159 x; let Z163 := fun (t : Z64) => Z114 t ∧ Z145 t; let Z164 := fun (t : Z64) => Z87 t ||| Z135 t; let Z165 := fun (t : Z64) => List.take (Z128 t) (Z130 t); let Z166 := fun (t : Z64) => List.length (Z161 t); let Z177 := fun (t : Z64) => Z118 t + Z166 t ≤ nat_lit 1099511627776; let Z178 := fun (t : Z64) => Z110 t ++ Z161 t; let Z181 := fun (t : Z64) => Z123 t ++ Z165 t; let Z182 := fun (t : Z64) => GroundT.mk long rise change (Z181 t); let Z184 := fun (t : Z64) => lookM (Z182 t); let Z189 := ∃ (x : Z64), Z162 x ∧ Z155; let Z194 := fun (t : Z64) => ∃ (x : Z64), ((Z30 ∧ Z126 t x ∧ Z158 t x) ∧ Z155) ∧ Z133 x t; let Z200 := fun (t : Z64) => Z181 t = Z178 t ∧ True; let Z210 := fun (t : Z64) => (Z47 ∧ Z46 ∧ Z45 ∧ (Z58 ∧ nat_lit 0 = nat_lit 0 ∧ nat_lit 0 = nat_lit 0 ∧ List.length (Z178 t) = List.length (Z178 t)) ∧ True) ∧ True; let Z213 := fun (t : Z64) => Z92 t ∧ Z112 ∧ ∃ (x : Z64), ((Z30 ∧ Value.int IntKind.i64 (IntKind.wrap IntKind.i64 (↑(BitVec.toNat (Z164 t)) : Int)) = Z89 x ∧ Z158 t x) ∧ Z155) ∧ Z133 x t; Z4 < nat_lit 1000000 ∧ Z120 ∧ Z33 ∧ True ∧ (Z40 → Z104 ∧ True ∧ Z40 ∧ (Z22 = true → Z120 ∧ Z33 ∧ True ∧ (Z9 → Z94 ∧ True ∧ Z189 ∧ ∀ (t : Z64), (Z149 t → Z153 t ∧ Z119 t ∧ Z125 t ∧ Z163 t ∧ Z160 t ≤ Z27 ∧ Z177 t ∧ groundM (Z182 t) = true ∧ (Z184 t = true → Z210 t ∧ Z200 t ∧ (Z8 → Z213 t) ∧ (Z10 → Z112 ∧ Z194 t)) ∧ (Z184 t = false → Z210 t ∧ Z200 t ∧ (Z9 → Z213 t) ∧ (Z12 → Z112 ∧ Z194 t))) ∧ (Z150 t → Z156 t)) ∧ (Z12 → Z94 ∧ Z136)) ∧ (Z22 = false → Z120 ∧ Z33 ∧ True ∧ (Z8 → Z95 ∧ True ∧ Z189 ∧ ∀ (t : Z64), (Z149 t → Z153 t ∧ Z119 t ∧ Z125 t ∧ Z163 t ∧ Z160 t ≤ Z27 ∧ Z177 t ∧ groundM (Z182 t) = true ∧ (Z184 t = true → Z210 t ∧ Z200 t ∧ (Z8 → Z213 t) ∧ (Z10 → Z112 ∧ Z194 t)) ∧ (Z184 t = false → Z210 t ∧ Z200 t ∧ (Z9 → Z213 t) ∧ (Z12 → Z112 ∧ Z194 t))) ∧ (Z150 t → Z156 t)) ∧ (Z10 → Z95 ∧ Z136))) ∧ (Z25 = false → Z104 ∧ True ∧ True ∧ True ∧ ((Z79 ∧ Z39 = Z55 ∧ True) ∧ True) ∧ Z44))
    (by kernel_rfl) ?_
  simp only [eq_self, true_and, and_true, Int.toNat_natCast, Nat.zero_add, Nat.sub_zero, Value.int.injEq, Value.bool.injEq, decide_eq_true_eq, decide_eq_false_iff_not]
  refine ⟨hx, fun hg => ⟨hg, fun hl => ⟨fun h => absurd h (by decide), fun _ => ?_⟩, fun hl => ⟨fun _ => ⟨⟨⟨0, Nat.zero_le _⟩, rfl, rfl⟩, fun t => ⟨fun ht => ?_, fun ht => ?_⟩⟩, fun h => absurd h (by decide)⟩⟩, fun hg => ?_⟩
  · have e : oddOM ⟨long, rise, change, ps⟩ = (0, 4) := by unfold oddOM oddErrM; rw [hg, hl]; rfl
    rw [e]; exact ⟨rfl, rfl⟩
  · obtain ⟨i, hi⟩ := t
    have hlt : i < ps.length := by have h0 : (i : Int) < (ps.length : Int) := ht; omega
    have hok := ground_ok hg
    have h8 : ps.length ≤ 8 := hok.len
    have hs := sucI i (by omega)
    have hmin : min i 64 = i := by omega
    have hd : (ps.drop (i + 1)).take (ps.length - (i + 1)) = ps.drop (i + 1) := List.take_of_length_le (by rw [List.length_drop]; omega)
    have hless : groundM (lessM ⟨long, rise, change, ps⟩ i) = true := ground_of (less_ok hok i)
    simp only [hs, Int.toNat_natCast, List.drop_zero, hmin, hd]
    have hlen1 : (ps.take i).length ≤ 1099511627776 := by rw [List.length_take]; omega
    have hlen2 : (ps.take i).length + (ps.drop (i + 1)).length ≤ 1099511627776 := by rw [List.length_take, List.length_drop]; omega
    refine ⟨⟨Int.le_refl _, Int.natCast_nonneg _, by omega⟩, by omega, hlen1, ⟨Int.natCast_nonneg _, by omega, Int.le_refl _⟩, by omega, hlen2, hless, fun hk => ⟨fun _ => ⟨Int.natCast_nonneg _, ⟨i + 1, hlt⟩, ⟨?_, rfl⟩, dec1 hlt⟩, fun h => absurd h (by decide)⟩, fun hk => ⟨fun h => absurd h (by decide), fun _ => ⟨⟨i + 1, hlt⟩, ⟨?_, rfl⟩, dec1 hlt⟩⟩⟩
    · exact (odd_yes (g := ⟨long, rise, change, ps⟩) hk).symm
    · exact (odd_no (g := ⟨long, rise, change, ps⟩) hk).symm
  · obtain ⟨i, hi⟩ := t
    have hie : i = ps.length := by have h0 : ¬ (i : Int) < (ps.length : Int) := ht; omega
    subst hie
    have e : oddOM ⟨long, rise, change, ps⟩ = (oddAtM ⟨long, rise, change, ps⟩ ps.length, 0) := by unfold oddOM oddErrM; rw [hg, hl]; rfl
    rw [e]; exact ⟨fun _ => ⟨rfl, rfl⟩, fun h => absurd h (by decide)⟩
  · have e : oddOM ⟨long, rise, change, ps⟩ = (0, 1) := by unfold oddOM oddErrM; rw [hg]; rfl
    rw [e]; exact ⟨rfl, rfl⟩

theorem oddO_sound : Sound Try.prog 22 oddOS.con := FSpec.sound _ (enter_of Try.func22 (by kernel_rfl) (by kernel_rfl)) oddO_ok
end AE.Soil

namespace AE.Soil
open Go AE Go.Proofs

abbrev pA : PitT := (2, (300, 320), (10, 12), (4, 6), 4, 5)
abbrev pB : PitT := (8, (500, 520), (5, 6), (3, 5), 9, 11)
abbrev pC : PitT := (5, (900, 900), (0, 20), (0, 20), 0, 20)
def sampleS : FSpec UU where
  X := Unit
  pick := fun args _ => match args with
    | [] => some ()
    | _ => none
  args := fun _ => []
  H := fun _ => []
  R := fun _ => .val ⟨.agg [.i 10, .i 50, .i 2, .gs 0 0], [], [], [.row .pit [pA, pB] 54]⟩
def Tsample : Tab UU := [(28, lpitS.con)]
theorem Tsample_ok : Tsample.Sound Try.prog := .cons lpit_sound .nil
set_option maxRecDepth 100000 in
theorem sample_ok : ∀ x, sampleS.pre x → FunOk Try.prog 30 (sampleS.args x) (sampleS.H x) (sampleS.R x) := by
  intro x _
  refine fun_of (T := Tsample) (L := fun _ => none) (hs := fun _ => []) hmix Tsample_ok Try.func30 (by kernel_rfl) (by kernel_rfl) ?_
  refine Eq.mp (α :=
      let Z0 := (6 : Int); let Z1 := (5 : Int); let Z2 := (2 : Int); let Z3 := (4 : Int); let Z4 := (3 : Int); let Z5 := (8 : Int); let Z6 := (9 : Int); let Z8 := (10 : Int); let Z9 := (12 : Int); let Z10 := (11 : Int); let Z12 := (500 : Int); let Z13 := (320 : Int); let Z14 := (300 : Int); let Z15 := (520 : Int); let Z16 := Value.int IntKind.i64 Z0; let Z17 := Value.int IntKind.i64 Z6; let Z18 := Value.int IntKind.i64 Z4; let Z19 := Value.int IntKind.i64 Z5; let Z20 := Value.int IntKind.i64 Z1; let Z21 := Value.int IntKind.i64 Z2; let Z22 := Value.int IntKind.i64 Z3; let Z23 := Value.int IntKind.i64 Z8; let Z24 := Value.int IntKind.i64 Z9; let Z25 := Value.int IntKind.i64 Z10; let Z26 := Value.int IntKind.i64 (50 : Int); let Z27 := Value.int IntKind.i64 Z13; let Z28 := Value.int IntKind.i64 Z15; let Z29 := Value.int IntKind.i64 Z12; let Z30 := Value.int IntKind.i64 Z14; let Z35 := AV.v Z20; let Z55 := Z20 = Z20; let Z70 : List (Int × Span × Span × Span × Span) := [(Z2, (Z14, Z13), (Z8, Z9), (Z3, Z0), Z3, Z1), (Z5, (Z12, Z15), (Z1, Z0), (Z4, Z1), Z6, Z10)]; True ∧ (Z21 = Z21 ∧ Z30 = Z30 ∧ Z27 = Z27 ∧ Z23 = Z23 ∧ Z24 = Z24 ∧ Z22 = Z22 ∧ Z16 = Z16 ∧ Z22 = Z22 ∧ Z55 ∧ True) ∧ True ∧ True ∧ (Z19 = Z19 ∧ Z29 = Z29 ∧ Z28 = Z28 ∧ Z55 ∧ Z16 = Z16 ∧ Z18 = Z18 ∧ Z55 ∧ Z17 = Z17 ∧ Z25 = Z25 ∧ True) ∧ True ∧ (nat_lit 2 = nat_lit 2 ∧ AV.v Z21 = AV.v Z21 ∧ AV.v Z30 = AV.v Z30 ∧ AV.v Z27 = AV.v Z27 ∧ AV.v Z23 = AV.v Z23 ∧ AV.v Z24 = AV.v Z24 ∧ AV.v Z22 = AV.v Z22 ∧ AV.v Z16 = AV.v Z16 ∧ AV.v Z22 = AV.v Z22 ∧ Z35 = Z35 ∧ AV.v Z19 = AV.v Z19 ∧ AV.v Z29 = AV.v Z29 ∧ AV.v Z28 = AV.v Z28 ∧ Z35 = Z35 ∧ AV.v Z16 = AV.v Z16 ∧ AV.v Z18 = AV.v Z18 ∧ Z35 = Z35 ∧ AV.v Z17 = AV.v Z17 ∧ AV.v Z25 = AV.v Z25 ∧ True) ∧ True ∧ ((Z23 = Z23 ∧ Z26 = Z26 ∧ Z21 = Z21 ∧ nat_lit 0 = nat_lit 0 ∧ True) ∧ True) ∧ True ∧ (nat_lit 54 = (54 : TypeId) ∧ Z70 = Z70) ∧ True)
    (by kernel_rfl) ?_
  simp

theorem sample_sound : Sound Try.prog 30 sampleS.con := FSpec.sound _ (enter_of Try.func30 (by kernel_rfl) (by kernel_rfl)) sample_ok
theorem c1 : hardOM ⟨10, 50, 2, [pA, pB]⟩ 5 = ((350, 470), 0) := by decide +kernel
theorem c2 : partsOM ⟨10, 50, 2, [pA, pB]⟩ 5 = (((4, 12), (0, 11), 3, 11), 0) := by decide +kernel
theorem c3 : classOM ⟨10, 50, 2, [pA, pB]⟩ 3 = (3, 0) := by decide +kernel
theorem c4 : strOM ⟨10, 50, 2, [pA, pB]⟩ 3 = (8, 8, 0) := by decide +kernel
theorem c5 : workOM ⟨10, 50, 2, [pA, pB]⟩ 4 6 = ((1050, 1410), 0) := by decide +kernel
theorem c6 : digOM ⟨10, 50, 2, [pA, pB]⟩ = (0, 220, 0) := by decide +kernel
theorem c7 : oddOM ⟨10, 50, 2, [pA, pC, pB]⟩ = (2, 0) := by decide +kernel
def awakeS : FSpec UU where
  X := Unit
  pick := fun args _ => match args with
    | [] => some ()
    | _ => none
  args := fun _ => []
  H := fun _ => []
  R := fun _ => .val ⟨.b true, [], [], []⟩
def Tawake : Tab UU := [(30, sampleS.con), (28, lpitS.con), (23, lspanS.con), (9, hardOS.con), (11, partsOS.con), (13, classOS.con), (21, strOS.con), (15, workOS.con), (29, digOS.con), (22, oddOS.con)]
theorem Tawake_ok : Tawake.Sound Try.prog := .cons sample_sound (.cons lpit_sound (.cons lspan_sound (.cons hardO_sound (.cons partsO_sound (.cons classO_sound (.cons strO_sound (.cons workO_sound (.cons digO_sound (.cons oddO_sound .nil)))))))))
set_option maxHeartbeats 0 in
set_option maxRecDepth 100000 in
theorem awake_ok : ∀ x, awakeS.pre x → FunOk Try.prog 8 (awakeS.args x) (awakeS.H x) (awakeS.R x) := by
  intro x _
  refine fun_of (T := Tawake) (L := fun _ => none) (hs := fun _ => []) hmix Tawake_ok Try.func8 (by kernel_rfl) (by kernel_rfl) ?_
  refine Eq.mp (α :=
      let Z0 := True ∧ True; let Z1 := Value.bool true; let Z2 := Value.bool false; let Z3 := nat_lit 2 < nat_lit 1000000; let Z4 := (↑(nat_lit 2) : Int); let Z5 := nat_lit 0 = nat_lit 0 ∧ nat_lit 2 = nat_lit 2; let Z6 := (0 : Int); let Z7 := (6 : Int); let Z8 := (9 : Int); let Z9 := (2 : Int); let Z10 := (5 : Int); let Z11 := (4 : Int); let Z12 := (3 : Int); let Z13 := (1 : Int); let Z14 := (8 : Int); let Z15 : List (Int × Span × Span × Span × Span) := []; let Z16 := (50 : Int); let Z17 := (11 : Int); let Z18 := (12 : Int); let Z19 := (10 : Int); let Z20 := (20 : Int); let Z21 := (1 : Nat); let Z22 := (0 : Nat); let Z23 := (900 : Int); let Z24 := (350 : Int); let Z25 := (320 : Int); let Z26 := (500 : Int); let Z27 := (520 : Int); let Z28 := (470 : Int); let Z29 := (300 : Int); let Z30 := (220 : Int); let Z31 := (13 : Nat); let Z32 := (1050 : Int); let Z33 := (1410 : Int); let Z34 := nat_lit 0 = nat_lit 0 ∧ Z5; let Z35 := Value.int IntKind.i64 Z11; let Z36 := Value.int IntKind.i64 Z10; let Z37 := Value.int IntKind.i64 Z9; let Z38 := Value.int IntKind.i64 Z12; let Z39 := Value.int IntKind.i64 Z6; let Z40 := Value.int IntKind.i64 Z7; let Z41 := Z1 = Z2; let Z42 := Value.int IntKind.i64 Z20; let Z43 := Value.int IntKind.i64 Z19; let Z44 := Value.int IntKind.i64 Z16; let Z45 := Value.int IntKind.i64 Z17; let Z46 := Value.int IntKind.i64 Z18; let Z47 := Value.int IntKind.i64 Z28; let Z48 := Value.int IntKind.i64 Z23; let Z49 := Value.int IntKind.i64 Z24; let Z50 := Value.int IntKind.i64 Z32; let Z51 := Value.int IntKind.i64 Z33; let Z52 := AV.v Z39; let Z53 := AV.v Z36; let Z54 := AV.v Z42; let Z55 := AV.v Z48; let Z56 := Z41 ∧ True; let Z57 := (Z6, Z6); let Z58 := (Z11, Z7); let Z59 := (Z11, Z10); let Z60 := (Z12, Z10); let Z61 := (Z10, Z7); let Z62 := (Z6, Z20); let Z63 := (Z8, Z17); let Z64 := (Z19, Z18); let Z65 := Z56 ∧ Z0; let Z66 := (Z29, Z25); let Z67 := (Z23, Z23); let Z68 := (Z26, Z27); let Z69 := True ∧ Z65; let Z70 := Z36 = Z36; let Z71 := Z37 = Z37; let Z72 := Z39 = Z39; let Z73 := Z35 = Z35; let Z74 := Z38 = Z38; let Z75 := Z45 = Z45; let Z76 := Z44 = Z44; let Z77 := Z42 = Z42; let Z78 := Z43 = Z43; let Z79 := Z48 = Z48; let Z80 := Z74 ∧ True; let Z81 := Z52 = Z52; let Z82 := Z70 ∧ True; let Z83 := Z54 = Z54; let Z84 := Z75 ∧ True; let Z85 := Z55 = Z55; let Z86 := (Z58, Z59); let Z87 := (Z57, Z57); let Z88 := (Z60, Z63); let Z89 := (Z62, Z62); let Z90 := (Z57, Z87); let Z91 := (Z61, Z88); let Z92 := (Z64, Z86); let Z93 := (Z62, Z89); let Z94 := (Z57, Z90); let Z95 := (Z68, Z91); let Z96 := (Z66, Z92); let Z97 := (Z67, Z93); let Z98 := (Z6, Z94); let Z99 := (Z14, Z95); let Z100 := (Z9, Z96); let Z101 := (Z10, Z97); let Z102 : List (Int × Span × Span × Span × Span) := Z99 :: Z15; let Z103 : List (Int × Span × Span × Span × Span) := Z100 :: Z102; let Z104 := GroundT.mk Z19 Z16 Z9 Z103; let Z105 := digOM Z104; let Z106 := Prod.fst Z105; let Z107 := Prod.snd Z105; let Z108 := strOM Z104 Z12; let Z109 := hardOM Z104 Z10; let Z110 := partsOM Z104 Z10; let Z111 := classOM Z104 Z12; let Z112 := Prod.fst Z107; let Z113 := Prod.snd Z107; let Z114 := Prod.fst Z111; let Z115 := Prod.snd Z111; let Z116 := Prod.snd Z109; let Z117 := Prod.fst Z109; let Z118 := Prod.snd Z110; let Z119 := Prod.fst Z110; let Z120 := Prod.snd Z108; let Z121 := Prod.fst Z108; let Z122 := workOM Z104 Z11 Z7; let Z123 := Prod.snd Z117; let Z124 := Prod.fst Z117; let Z125 := Prod.fst Z120; let Z126 := Prod.snd Z120; let Z127 := Prod.fst Z122; let Z128 := Prod.snd Z122; let Z129 := Prod.snd Z119; let Z130 := Prod.fst Z119; let Z131 := Prod.fst Z127; let Z132 := Prod.snd Z127; let Z133 := Z106 == Z6; let Z134 := Prod.fst Z130; let Z135 := Prod.snd Z130; let Z136 := Prod.snd Z129; let Z137 := Prod.fst Z129; let Z138 := Z113 == Z6; let Z139 := Z114 != Z12; let Z140 := Z115 != Z6; let Z141 := Z112 == Z30; let Z142 := Z116 != Z6; let Z143 := Z118 != Z6; let Z144 := Z121 != Z14; let Z145 := Prod.snd Z137; let Z146 := Prod.snd Z136; let Z147 := Prod.fst Z136; let Z149 := Z125 != Z14; let Z150 := Z126 != Z6; let Z151 := Z124 == Z24; let Z153 := Z128 == Z6; let Z154 := Z123 == Z28 && true; let Z155 := Z131 == Z32; let Z157 := Z134 == Z11; let Z159 := Z132 == Z33 && true; let Z160 := Z135 == Z18 && true; let Z161 := Prod.fst Z137 == Z6; let Z162 := Z147 == Z12; let Z165 := Z145 == Z17 && true; let Z166 := Z146 == Z17 && true; let Z167 := List.getD Z103 (nat_lit 0) Z98; let Z168 := List.getD Z103 (nat_lit 1) Z98; let Z169 := List.getD Z103 Z21 Z98; let Z170 := List.getD Z103 Z22 Z98; let Z171 := Prod.snd Z167; let Z172 := Prod.snd Z168; let Z173 := Prod.fst Z170; let Z174 := Prod.fst Z169; let Z175 := Prod.snd Z169; let Z176 := Prod.snd Z170; let Z177 := Prod.fst Z172; let Z178 := Prod.fst Z171; let Z179 := Prod.snd Z172; let Z180 := Prod.snd Z171; let Z183 := Prod.snd Z175; let Z184 := Prod.fst Z176; let Z185 := Prod.snd Z176; let Z186 := Prod.fst Z175; let Z187 := Value.int IntKind.i64 (Prod.fst Z177); let Z188 := Value.int IntKind.i64 (Prod.fst Z178); let Z189 := Prod.fst Z180; let Z190 := Prod.snd Z179; let Z191 := Prod.snd Z180; let Z192 := Prod.fst Z179; let Z199 := Prod.snd Z190; let Z200 := Prod.snd Z191; let Z201 := Prod.fst Z191; let Z202 := Prod.fst Z190; let Z203 := Prod.snd Z183; let Z204 := Prod.fst Z183; let Z205 := Prod.snd Z185; let Z206 := Prod.fst Z185; let Z207 := Value.int IntKind.i64 (Prod.fst Z189); let Z208 := Value.int IntKind.i64 (Prod.fst Z192); let Z217 := Prod.snd Z205; let Z218 := Prod.fst Z205; let Z219 := Prod.fst Z203; let Z220 := Prod.snd Z203; let Z221 := Value.int IntKind.i64 (Prod.fst Z202); let Z222 := Value.int IntKind.i64 (Prod.fst Z200); let Z223 := Value.int IntKind.i64 (Prod.fst Z199); let Z224 := Value.int IntKind.i64 (Prod.fst Z201); let Z234 := Z103 = Z103 ∧ True; let Z262 : List (Int × Span × Span × Span × Span) := (Z173, (Prod.fst Z178, Prod.snd Z184), (Prod.fst Z189, Prod.snd Z206), (Prod.fst Z201, Prod.snd Z218), Prod.fst Z200, Prod.snd Z217) :: Z101 :: (Z174, (Prod.fst Z177, Prod.snd Z186), (Prod.fst Z192, Prod.snd Z204), (Prod.fst Z202, Prod.snd Z219), Prod.fst Z199, Prod.snd Z220) :: Z15; let Z263 := GroundT.mk Z19 Z16 Z9 Z262; let Z266 := Prod.fst (oddOM Z263) == Z9; True ∧ True ∧ True ∧ Z3 ∧ ((Z78 ∧ Z76 ∧ Z71 ∧ (nat_lit 0 = nat_lit 0 ∧ Z34) ∧ True) ∧ Z82) ∧ Z234 ∧ True ∧ True ∧ True ∧ Z3 ∧ ((Z78 ∧ Z76 ∧ Z71 ∧ (nat_lit 2 = nat_lit 2 ∧ Z34) ∧ True) ∧ Z82) ∧ Z234 ∧ True ∧ True ∧ True ∧ Z3 ∧ ((Z78 ∧ Z76 ∧ Z71 ∧ (nat_lit 6 = nat_lit 6 ∧ Z34) ∧ True) ∧ Z80) ∧ Z234 ∧ True ∧ True ∧ True ∧ Z3 ∧ ((Z78 ∧ Z76 ∧ Z71 ∧ (nat_lit 7 = nat_lit 7 ∧ Z34) ∧ True) ∧ Z80) ∧ Z234 ∧ True ∧ True ∧ True ∧ Z3 ∧ ((Z78 ∧ Z76 ∧ Z71 ∧ (nat_lit 8 = nat_lit 8 ∧ Z34) ∧ True) ∧ Z73 ∧ Z40 = Z40 ∧ True) ∧ Z234 ∧ True ∧ True ∧ True ∧ Z3 ∧ ((Z78 ∧ Z76 ∧ Z71 ∧ (nat_lit 10 = nat_lit 10 ∧ Z34) ∧ True) ∧ True) ∧ Z234 ∧ True ∧ True ∧ True ∧ (Z6 ≤ Z6 ∧ Z6 < Z4) ∧ nat_lit 0 < nat_lit 2 ∧ True ∧ (Z70 ∧ Z79 ∧ Z79 ∧ Z72 ∧ Z77 ∧ Z72 ∧ Z77 ∧ Z72 ∧ Z77 ∧ True) ∧ True ∧ (Z6 ≤ Z13 ∧ Z13 < Z4) ∧ nat_lit 1 < nat_lit 2 ∧ (nat_lit 3 = nat_lit 3 ∧ AV.v (Value.int IntKind.i64 (Prod.fst Z167)) = AV.v (Value.int IntKind.i64 Z173) ∧ AV.v Z188 = AV.v Z188 ∧ AV.v (Value.int IntKind.i64 (Prod.snd Z178)) = AV.v (Value.int IntKind.i64 (Prod.snd Z184)) ∧ AV.v Z207 = AV.v Z207 ∧ AV.v (Value.int IntKind.i64 (Prod.snd Z189)) = AV.v (Value.int IntKind.i64 (Prod.snd Z206)) ∧ AV.v Z224 = AV.v Z224 ∧ AV.v (Value.int IntKind.i64 (Prod.snd Z201)) = AV.v (Value.int IntKind.i64 (Prod.snd Z218)) ∧ AV.v Z222 = AV.v Z222 ∧ AV.v (Value.int IntKind.i64 (Prod.snd Z200)) = AV.v (Value.int IntKind.i64 (Prod.snd Z217)) ∧ Z53 = Z53 ∧ Z85 ∧ Z85 ∧ Z81 ∧ Z83 ∧ Z81 ∧ Z83 ∧ Z81 ∧ Z83 ∧ AV.v (Value.int IntKind.i64 (Prod.fst Z168)) = AV.v (Value.int IntKind.i64 Z174) ∧ AV.v Z187 = AV.v Z187 ∧ AV.v (Value.int IntKind.i64 (Prod.snd Z177)) = AV.v (Value.int IntKind.i64 (Prod.snd Z186)) ∧ AV.v Z208 = AV.v Z208 ∧ AV.v (Value.int IntKind.i64 (Prod.snd Z192)) = AV.v (Value.int IntKind.i64 (Prod.snd Z204)) ∧ AV.v Z221 = AV.v Z221 ∧ AV.v (Value.int IntKind.i64 (Prod.snd Z202)) = AV.v (Value.int IntKind.i64 (Prod.snd Z219)) ∧ AV.v Z223 = AV.v Z223 ∧ AV.v (Value.int IntKind.i64 (Prod.snd Z199)) = AV.v (Value.int IntKind.i64 (Prod.snd Z220)) ∧ True) ∧ nat_lit 3 < nat_lit 1000000 ∧ ((Z78 ∧ Z76 ∧ Z71 ∧ (Z31 = Z31 ∧ nat_lit 0 = nat_lit 0 ∧ nat_lit 0 = nat_lit 0 ∧ nat_lit 3 = nat_lit 3) ∧ True) ∧ True) ∧ (Z262 = Z262 ∧ True) ∧ True ∧ (Z49 = Z49 ∧ Z47 = Z47 ∧ True) ∧ True ∧ ((!(Z151 && Z154)) = true → Z69) ∧ ((!(Z151 && Z154)) = false → (Z142 = true → Z69) ∧ (Z142 = false → True ∧ (Z73 ∧ Z46 = Z46 ∧ True) ∧ True ∧ ((!(Z157 && Z160)) = true → Z69) ∧ ((!(Z157 && Z160)) = false → True ∧ (Z72 ∧ Z84) ∧ True ∧ ((!(Z161 && Z165)) = true → Z69) ∧ ((!(Z161 && Z165)) = false → True ∧ (Z74 ∧ Z84) ∧ True ∧ ((!(Z162 && Z166)) = true → Z69) ∧ ((!(Z162 && Z166)) = false → (Z143 = true → Z69) ∧ (Z143 = false → (Z139 = true → Z69) ∧ (Z139 = false → (Z140 = true → Z69) ∧ (Z140 = false → (Z144 = true → Z69) ∧ (Z144 = false → (Z149 = true → Z69) ∧ (Z149 = false → (Z150 = true → Z69) ∧ (Z150 = false → True ∧ (Z50 = Z50 ∧ Z51 = Z51 ∧ True) ∧ True ∧ ((Z155 && Z159) = true → (Z153 = true → (Z133 = true → (Z141 = true → (Z138 = true → (Z266 = true → True ∧ (Value.bool (Prod.snd (oddOM Z263) == Z6) = Z1 ∧ True) ∧ Z0) ∧ (Z266 = false → Z69)) ∧ (Z138 = false → Z69)) ∧ (Z141 = false → Z69)) ∧ (Z133 = false → Z69)) ∧ (Z153 = false → Z69)) ∧ ((Z155 && Z159) = false → Z69)))))))))))))
    (by kernel_rfl) ?_
  simp only [eq_self, true_and, and_true, Int.toNat_natCast, Nat.zero_add, Nat.sub_zero, Value.int.injEq, Value.bool.injEq, decide_eq_true_eq, decide_eq_false_iff_not]
  simp only [c1, c2, c3, c4, c5, c6]
  simp
  exact ⟨fun _ => congrArg Prod.snd c7, congrArg Prod.fst c7⟩

theorem awake_sound : Sound Try.prog 8 awakeS.con := FSpec.sound _ (enter_of Try.func8 (by kernel_rfl) (by kernel_rfl)) awake_ok
end AE.Soil

namespace AE.Soil
open Go AE Go.Proofs

/-- How far a place is from another one. -/
def D (p k : Int) : Int := max (k - p) (p - k)
theorem D_nonneg (p k : Int) : 0 ≤ D p k := by unfold D; omega
theorem D_self (p : Int) : D p p = 0 := by unfold D; omega
theorem D_comm (p k : Int) : D p k = D k p := by unfold D; omega
theorem D_tri (p j k : Int) : D p k ≤ D p j + D j k := by unfold D; omega
theorem D_le {p k n : Int} (h1 : 0 ≤ p) (h2 : p ≤ n) (h3 : 0 ≤ k) (h4 : k ≤ n) : D p k ≤ n := by unfold D; omega
theorem D_suc (k : Int) : D k (k + 1) = 1 := by unfold D; omega
theorem D_pre (k : Int) : D (k + 1) k = 1 := by unfold D; omega
theorem DR_tri (p j k r : Int) (hr : 0 ≤ r) : D p k * r ≤ D p j * r + D j k * r := by
  rw [← Int.add_mul]; exact Int.mul_le_mul_of_nonneg_right (D_tri p j k) hr
theorem DR_nonneg (p k r : Int) (hr : 0 ≤ r) : 0 ≤ D p k * r := Int.mul_nonneg (D_nonneg p k) hr
theorem DR_le {p k n r m : Int} (h : D p k ≤ n) (hr : 0 ≤ r) (hm : r ≤ m) (hn : 0 ≤ n) : D p k * r ≤ n * m := Int.mul_le_mul h hm hr hn

def Pl (g : GroundT) (k : Int) : Prop := 0 ≤ k ∧ k ≤ g.long
theorem far_eq {g : GroundT} (hg : GOk g) {p : PitT} (hp : PitOk g.long p) {k : Int} (hk : Pl g k) : farM p k g.rise = D p.1 k * g.rise ∧ 0 ≤ D p.1 k * g.rise ∧ D p.1 k * g.rise ≤ 40000 := by
  have h1 := hp.at_
  have h2 := hg.long
  have h3 := hg.rise
  have h4 : D p.1 k ≤ 40 := D_le h1.1 (by omega) hk.1 (by have := hk.2; omega)
  have h5 := DR_nonneg p.1 k g.rise h3.1
  have h6 : D p.1 k * g.rise ≤ 40000 := DR_le h4 h3.1 h3.2 (by omega)
  have hk1 := hk.1
  have hk2 := hk.2
  refine ⟨?_, h5, h6⟩
  unfold farM
  rw [show W (k - p.1) = k - p.1 from wrap_id (by omega) (by omega), show W (p.1 - k) = p.1 - k from wrap_id (by omega) (by omega)]
  exact wrap_id (by show _ ≤ D p.1 k * g.rise; omega) (by show D p.1 k * g.rise ≤ _; omega)
theorem dug_eq {g : GroundT} (hg : GOk g) {p : PitT} (hp : PitOk g.long p) {k : Int} (hk : Pl g k) : dugM p k g.rise = (p.2.1.1 - D p.1 k * g.rise, p.2.1.2 + D p.1 k * g.rise) := by
  obtain ⟨h1, h2, h3⟩ := far_eq hg hp hk
  have h4 : 0 ≤ p.2.1.1 ∧ p.2.1.1 ≤ p.2.1.2 ∧ p.2.1.2 ≤ 1000 := hp.hard
  unfold dugM
  rw [h1]
  rw [show W (p.2.1.1 - D p.1 k * g.rise) = p.2.1.1 - D p.1 k * g.rise from wrap_id (by omega) (by omega), show W (p.2.1.2 + D p.1 k * g.rise) = p.2.1.2 + D p.1 k * g.rise from wrap_id (by omega) (by omega)]
theorem fold_lo {α : Type} (f : α → Span) (v : Int) : ∀ (l : List α) (s : Span), (l.foldl (fun s t => bothM s (f t)) s).1 ≤ v ↔ s.1 ≤ v ∧ ∀ t ∈ l, (f t).1 ≤ v
  | [], s => by simp
  | x :: l, s => by
    rw [List.foldl_cons, fold_lo f v l]
    simp only [bothM, List.forall_mem_cons]
    constructor
    · rintro ⟨h1, h2⟩; exact ⟨by omega, by omega, h2⟩
    · rintro ⟨h1, h2, h3⟩; exact ⟨by omega, h3⟩
theorem fold_hi {α : Type} (f : α → Span) (v : Int) : ∀ (l : List α) (s : Span), v ≤ (l.foldl (fun s t => bothM s (f t)) s).2 ↔ v ≤ s.2 ∧ ∀ t ∈ l, v ≤ (f t).2
  | [], s => by simp
  | x :: l, s => by
    rw [List.foldl_cons, fold_hi f v l]
    simp only [bothM, List.forall_mem_cons]
    constructor
    · rintro ⟨h1, h2⟩; exact ⟨by omega, by omega, h2⟩
    · rintro ⟨h1, h2, h3⟩; exact ⟨by omega, h3⟩
theorem hard_lo {g : GroundT} (hg : GOk g) {k : Int} (hk : Pl g k) (v : Int) : (hardM g k).1 ≤ v ↔ 0 ≤ v ∧ ∀ p ∈ g.pits, p.2.1.1 - D p.1 k * g.rise ≤ v := by
  unfold hardM hardTM
  rw [fold_lo (fun t => tellM t k g.rise), tells_eq]
  simp only [List.forall_mem_cons, List.forall_mem_map, tellM, if_true]
  constructor
  · rintro ⟨h1, _, h3⟩
    refine ⟨h1, fun p hp => ?_⟩
    have := h3 p hp
    simp only [Bool.false_eq_true, if_false] at this
    rw [dug_eq hg (hg.pits p hp) hk] at this; exact this
  · rintro ⟨h1, h3⟩
    refine ⟨h1, h1, fun p hp => ?_⟩
    simp only [Bool.false_eq_true, if_false]
    rw [dug_eq hg (hg.pits p hp) hk]; exact h3 p hp
theorem hard_hi {g : GroundT} (hg : GOk g) {k : Int} (hk : Pl g k) (v : Int) : v ≤ (hardM g k).2 ↔ v ≤ 1000 ∧ ∀ p ∈ g.pits, v ≤ p.2.1.2 + D p.1 k * g.rise := by
  unfold hardM hardTM
  rw [fold_hi (fun t => tellM t k g.rise), tells_eq]
  simp only [List.forall_mem_cons, List.forall_mem_map, tellM, if_true]
  constructor
  · rintro ⟨h1, _, h3⟩
    refine ⟨h1, fun p hp => ?_⟩
    have := h3 p hp
    simp only [Bool.false_eq_true, if_false] at this
    rw [dug_eq hg (hg.pits p hp) hk] at this; exact this
  · rintro ⟨h1, h3⟩
    refine ⟨h1, h1, fun p hp => ?_⟩
    simp only [Bool.false_eq_true, if_false]
    rw [dug_eq hg (hg.pits p hp) hk]; exact h3 p hp
theorem hard_ge0 {g : GroundT} (hg : GOk g) {k : Int} (hk : Pl g k) : 0 ≤ (hardM g k).1 := ((hard_lo hg hk _).1 (Int.le_refl _)).1
theorem hard_le1000 {g : GroundT} (hg : GOk g) {k : Int} (hk : Pl g k) : (hardM g k).2 ≤ 1000 := ((hard_hi hg hk _).1 (Int.le_refl _)).1
/-- Neither end changes faster than it can. -/
theorem lip_lo {g : GroundT} (hg : GOk g) {j k : Int} (hj : Pl g j) (hk : Pl g k) : (hardM g j).1 ≤ (hardM g k).1 + D j k * g.rise := by
  obtain ⟨h1, h2⟩ := (hard_lo hg hk _).1 (Int.le_refl _)
  refine (hard_lo hg hj _).2 ⟨by have := DR_nonneg j k g.rise hg.rise.1; omega, fun p hp => ?_⟩
  have := h2 p hp
  have := DR_tri p.1 j k g.rise hg.rise.1
  omega
theorem lip_hi {g : GroundT} (hg : GOk g) {j k : Int} (hj : Pl g j) (hk : Pl g k) : (hardM g k).2 ≤ (hardM g j).2 + D j k * g.rise := by
  obtain ⟨h1, h2⟩ := (hard_hi hg hk _).1 (Int.le_refl _)
  have : (hardM g k).2 - D j k * g.rise ≤ (hardM g j).2 := by
    refine (hard_hi hg hj _).2 ⟨by have := DR_nonneg j k g.rise hg.rise.1; omega, fun p hp => ?_⟩
    have := h2 p hp
    have := DR_tri p.1 j k g.rise hg.rise.1
    omega
  omega
/-! ### truths of hardness -/
structure HTr (g : GroundT) (h : Int → Int) : Prop where
  bound : ∀ k, Pl g k → 0 ≤ h k ∧ h k ≤ 1000
  step : ∀ k, Pl g k → Pl g (k + 1) → h (k + 1) ≤ h k + g.rise ∧ h k ≤ h (k + 1) + g.rise
  pits : ∀ p ∈ g.pits, p.2.1.1 ≤ h p.1 ∧ h p.1 ≤ p.2.1.2
theorem HTr.up {g : GroundT} {h : Int → Int} (t : HTr g h) {k : Int} (hk : Pl g k) : ∀ n : Nat, Pl g (k + n) → h (k + n) ≤ h k + n * g.rise ∧ h k ≤ h (k + n) + n * g.rise
  | 0, _ => by simp
  | n + 1, hn => by
    have hk1 := hk.1
    have hk2 := hk.2
    have hn1 : 0 ≤ k + ((n + 1 : Nat) : Int) := hn.1
    have hn2 : k + ((n + 1 : Nat) : Int) ≤ g.long := hn.2
    have hp : Pl g (k + n) := ⟨by omega, by omega⟩
    obtain ⟨i1, i2⟩ := t.up hk n hp
    have he : k + ((n + 1 : Nat) : Int) = k + n + 1 := by omega
    obtain ⟨s1, s2⟩ := t.step (k + n) hp (by rw [← he]; exact hn)
    have hm : ((n + 1 : Nat) : Int) * g.rise = n * g.rise + g.rise := by rw [Int.natCast_succ, Int.add_mul, Int.one_mul]
    rw [he, hm]
    exact ⟨by omega, by omega⟩
theorem HTr.lip {g : GroundT} {h : Int → Int} (t : HTr g h) {j k : Int} (hj : Pl g j) (hk : Pl g k) : h j ≤ h k + D j k * g.rise ∧ h k ≤ h j + D j k * g.rise := by
  rcases Int.le_total j k with hl | hl
  · obtain ⟨n, hn⟩ := Int.eq_ofNat_of_zero_le (show 0 ≤ k - j by omega)
    have he : k = j + n := by omega
    subst he
    have := t.up hj n hk
    have hd : D j (j + n) = n := by unfold D; omega
    rw [hd]; omega
  · obtain ⟨n, hn⟩ := Int.eq_ofNat_of_zero_le (show 0 ≤ j - k by omega)
    have he : j = k + n := by omega
    subst he
    have := t.up hk n hj
    have hd : D (k + n) k = n := by unfold D; omega
    rw [hd]; omega
theorem HTr.inside {g : GroundT} (hg : GOk g) {h : Int → Int} (t : HTr g h) {k : Int} (hk : Pl g k) : (hardM g k).1 ≤ h k ∧ h k ≤ (hardM g k).2 := by
  obtain ⟨b1, b2⟩ := t.bound k hk
  refine ⟨(hard_lo hg hk _).2 ⟨b1, fun p hp => ?_⟩, (hard_hi hg hk _).2 ⟨b2, fun p hp => ?_⟩⟩
  · have := t.lip (hg.pits p hp).at_ hk
    have := t.pits p hp
    omega
  · have := t.lip (hg.pits p hp).at_ hk
    have := t.pits p hp
    omega
/-- All that is told of hardness can be so. -/
def HOk (g : GroundT) : Prop := ∀ k, Pl g k → (hardM g k).1 ≤ (hardM g k).2
theorem hard_pit {g : GroundT} (hg : GOk g) {p : PitT} (hp : p ∈ g.pits) : p.2.1.1 ≤ (hardM g p.1).1 ∧ (hardM g p.1).2 ≤ p.2.1.2 := by
  have hk : Pl g p.1 := (hg.pits p hp).at_
  have h1 := ((hard_lo hg hk _).1 (Int.le_refl _)).2 p hp
  have h2 := ((hard_hi hg hk _).1 (Int.le_refl _)).2 p hp
  rw [D_self] at h1 h2
  omega
theorem HOk.low {g : GroundT} (hg : GOk g) (h : HOk g) : HTr g fun k => (hardM g k).1 where
  bound := fun k hk => ⟨hard_ge0 hg hk, Int.le_trans (h k hk) (hard_le1000 hg hk)⟩
  step := fun k hk hk1 => by
    have h1 := lip_lo hg hk1 hk
    have h2 := lip_lo hg hk hk1
    rw [D_pre, Int.one_mul] at h1
    rw [D_suc, Int.one_mul] at h2
    exact ⟨h1, h2⟩
  pits := fun p hp => by
    have h1 := hard_pit hg hp
    have h2 := h p.1 (hg.pits p hp).at_
    exact ⟨h1.1, by omega⟩
theorem HTr.ok {g : GroundT} (hg : GOk g) {h : Int → Int} (t : HTr g h) : HOk g := fun k hk => by
  have := t.inside hg hk
  omega
theorem hok_iff {g : GroundT} (hg : GOk g) : HOk g ↔ ∃ h, HTr g h := ⟨fun h => ⟨_, h.low hg⟩, fun ⟨_, t⟩ => t.ok hg⟩
/-- Each number that is told is that of a truth. -/
theorem hard_any {g : GroundT} (hg : GOk g) (h : HOk g) {a n : Int} (ha : Pl g a) (h1 : (hardM g a).1 ≤ n) (h2 : n ≤ (hardM g a).2) : HTr g fun k => max (hardM g k).1 (n - D a k * g.rise) where
  bound := fun k hk => by
    have := hard_ge0 hg hk
    have := h k hk
    have := hard_le1000 hg hk
    have := hard_le1000 hg ha
    have := DR_nonneg a k g.rise hg.rise.1
    omega
  step := fun k hk hk1 => by
    have h3 := lip_lo hg hk1 hk
    have h4 := lip_lo hg hk hk1
    rw [D_pre, Int.one_mul] at h3
    rw [D_suc, Int.one_mul] at h4
    have h5 := DR_tri a k (k + 1) g.rise hg.rise.1
    have h6 := DR_tri a (k + 1) k g.rise hg.rise.1
    rw [D_suc, Int.one_mul] at h5
    rw [D_pre, Int.one_mul] at h6
    show max _ _ ≤ max _ _ + _ ∧ max _ _ ≤ max _ _ + _
    constructor <;> omega
  pits := fun p hp => by
    have h3 := hard_pit hg hp
    have h4 := h p.1 (hg.pits p hp).at_
    have h5 := lip_hi hg (hg.pits p hp).at_ ha
    rw [D_comm] at h5
    show _ ≤ max _ _ ∧ max _ _ ≤ _
    constructor <;> omega
theorem hard_any_at {g : GroundT} {a n : Int} (h1 : (hardM g a).1 ≤ n) : max (hardM g a).1 (n - D a a * g.rise) = n := by rw [D_self]; omega

/-! ### what is told or not -/
theorem place_of {g : GroundT} (hg : GOk g) {k : Int} (hk : Pl g k) : ∃ j : Nat, k = (j : Int) ∧ j < nM g := by
  obtain ⟨h0, h1, h2⟩ := n_ok hg
  obtain ⟨j, rfl⟩ := Int.eq_ofNat_of_zero_le hk.1
  exact ⟨j, rfl, by have := hk.2; omega⟩
theorem pl_of {g : GroundT} (hg : GOk g) {j : Nat} (h : j < nM g) : Pl g (j : Int) := by
  obtain ⟨h0, h1, h2⟩ := n_ok hg
  exact ⟨by omega, by omega⟩
theorem look_iff (g : GroundT) : lookM g = true ↔ ∀ j, j < nM g → (hardM g (j : Int)).1 ≤ (hardM g (j : Int)).2 ∧ noneM ((boxesM g).getD j m0) = false := by
  unfold lookM
  rw [List.all_eq_true]
  simp only [List.mem_range]
  constructor
  · intro h j hj
    have h' := h j hj
    unfold badM at h'
    simp only [Bool.not_or, Bool.and_eq_true, Bool.not_eq_true', decide_eq_false_iff_not] at h'
    exact ⟨by omega, h'.2⟩
  · intro h j hj
    have h' := h j hj
    unfold badM
    simp only [Bool.not_or, Bool.and_eq_true, Bool.not_eq_true', decide_eq_false_iff_not]
    exact ⟨by omega, h'.2⟩
theorem look_hok {g : GroundT} (hg : GOk g) (h : lookM g = true) : HOk g := fun k hk => by
  obtain ⟨j, rfl, hj⟩ := place_of hg hk
  exact ((look_iff g).1 h j hj).1
theorem err_of {g : GroundT} (hg : groundM g = true) {a : Ask} {l : List Int} (ha : l.all (askM a g.long) = true) : openErrM g a l = if lookM g then 0 else 10 := open_look hg ha
theorem err_range {g : GroundT} (hg : groundM g = true) {a : Ask} {l : List Int} (ha : l.all (askM a g.long) = false) : openErrM g a l = 2 := by unfold openErrM; rw [hg, ha]; rfl
theorem hard_told {g : GroundT} (hg : groundM g = true) {k : Int} (hk : Pl g k) : hardOM g k = if lookM g then (hardM g k, 0) else ((0, 0), 10) := by
  have ha : [k].all (askM .place g.long) = true := by simp [askM, inM]; exact hk
  unfold hardOM
  rw [err_of hg ha]
  cases lookM g <;> rfl
theorem parts_told {g : GroundT} (hg : groundM g = true) {k : Int} (hk : Pl g k) : partsOM g k = if lookM g then ((boxesM g).getD k.toNat m0, 0) else (m0, 10) := by
  have ha : [k].all (askM .place g.long) = true := by simp [askM, inM]; exact hk
  unfold partsOM
  rw [err_of hg ha]
  cases lookM g <;> rfl
theorem class_told {g : GroundT} (hg : groundM g = true) {k : Int} (hk : Pl g k) : classOM g k = if lookM g then (classesM ((boxesM g).getD k.toNat m0), 0) else (0, 10) := by
  have ha : [k].all (askM .place g.long) = true := by simp [askM, inM]; exact hk
  unfold classOM
  rw [err_of hg ha]
  cases lookM g <;> rfl
/-! ### sums -/
def sumM (g : GroundT) (a : Nat) : Nat → Span
  | 0 => (0, 0)
  | i + 1 => ((sumM g a i).1 + (hardM g ((a + i : Nat) : Int)).1, (sumM g a i).2 + (hardM g ((a + i : Nat) : Int)).2)
theorem sum_add (g : GroundT) (a m : Nat) : ∀ n, sumM g a (m + n) = ((sumM g a m).1 + (sumM g (a + m) n).1, (sumM g a m).2 + (sumM g (a + m) n).2)
  | 0 => by simp [sumM]
  | n + 1 => by
    rw [← Nat.add_assoc, sumM, sum_add g a m n, sumM, Nat.add_assoc a m n, Int.add_assoc, Int.add_assoc]
theorem sum_bound {g : GroundT} (hg : GOk g) (h : HOk g) (a : Nat) : ∀ i, a + i ≤ nM g → 0 ≤ (sumM g a i).1 ∧ (sumM g a i).1 ≤ (sumM g a i).2 ∧ (sumM g a i).2 ≤ 1000 * i
  | 0, _ => by simp [sumM]
  | i + 1, hi => by
    obtain ⟨h1, h2, h3⟩ := sum_bound hg h a i (by omega)
    have hk := pl_of hg (show a + i < nM g by omega)
    have := hard_ge0 hg hk
    have := h _ hk
    have := hard_le1000 hg hk
    simp only [sumM]
    omega
theorem workAt_eq {g : GroundT} (hg : GOk g) (h : HOk g) (a : Int) : ∀ i, a.toNat + i ≤ nM g → workAtM g a i = sumM g a.toNat i
  | 0, _ => rfl
  | i + 1, hi => by
    have e := workAt_eq hg h a i (by omega)
    obtain ⟨h1, h2, h3⟩ := sum_bound hg h a.toNat i (by omega)
    have hn := (n_ok hg).2.2
    have hk := pl_of hg (show a.toNat + i < nM g by omega)
    have := hard_ge0 hg hk
    have := h _ hk
    have := hard_le1000 hg hk
    rw [workAtM, e, hards_get (by omega), sumM, show W ((sumM g a.toNat i).1 + (hardM g ((a.toNat + i : Nat) : Int)).1) = _ from wrap_id (by omega) (by omega), show W ((sumM g a.toNat i).2 + (hardM g ((a.toNat + i : Nat) : Int)).2) = _ from wrap_id (by omega) (by omega)]
theorem work_told {g : GroundT} (hg : groundM g = true) {a b : Int} (ha : Pl g a) (hb : Pl g b) (hab : a ≤ b) : workOM g a b = if lookM g then (sumM g a.toNat (b.toNat + 1 - a.toNat), 0) else ((0, 0), 10) := by
  have hs : [a, b].all (askM (.span (spanOkM a b)) g.long) = true := by simp [askM, inM, spanOkM]; exact ⟨⟨ha, hab⟩, hb, hab⟩
  have hok := ground_ok hg
  have hn := n_ok hok
  have hb2 := hb.2
  have hb1 := hb.1
  have ha1 := ha.1
  unfold workOM workErrM
  rw [err_of hg hs]
  cases hl : lookM g with
  | false => rfl
  | true =>
    have hw : W (b + 1) = b + 1 := wrap_id (by omega) (by omega)
    have e : workNM a b = b.toNat + 1 - a.toNat := by unfold workNM; rw [hw]; omega
    show (workAtM g a (workNM a b), (0 : Int)) = _
    rw [e, workAt_eq hok (look_hok hok hl) a _ (by omega)]; rfl
theorem work_range {g : GroundT} (hg : groundM g = true) {a b : Int} (hab : ¬ (Pl g a ∧ Pl g b ∧ a ≤ b)) : workOM g a b = ((0, 0), 2) := by
  have hs : [a, b].all (askM (.span (spanOkM a b)) g.long) = false := by
    have : ¬ [a, b].all (askM (.span (spanOkM a b)) g.long) = true := by
      simp [askM, inM, spanOkM]
      intro h1 h2 h3 h4 h5
      exact absurd ⟨⟨h1, h2⟩, ⟨h4, h5⟩, h3⟩ hab
    simpa using this
  unfold workOM workErrM
  rw [err_range hg hs]; rfl
/-! ### where to dig -/
theorem dig_at {g : GroundT} (hg : GOk g) (h : HOk g) : ∀ i, i ≤ nM g → (i = 0 → digAtM (hardsM g (nM g)) i = (0, -1)) ∧ (0 < i → ∃ a : Nat, a < i ∧ digAtM (hardsM g (nM g)) i = ((a : Int), (hardM g (a : Int)).2 - (hardM g (a : Int)).1) ∧ ∀ k : Nat, k < i → (hardM g (k : Int)).2 - (hardM g (k : Int)).1 ≤ (hardM g (a : Int)).2 - (hardM g (a : Int)).1 ∧ (k < a → (hardM g (k : Int)).2 - (hardM g (k : Int)).1 < (hardM g (a : Int)).2 - (hardM g (a : Int)).1))
  | 0, _ => ⟨fun _ => rfl, fun h => absurd h (Nat.lt_irrefl _)⟩
  | i + 1, hi => by
    refine ⟨fun h => absurd h (by omega), fun _ => ?_⟩
    obtain ⟨i1, i2⟩ := dig_at hg h i (by omega)
    have hk := pl_of hg (show i < nM g by omega)
    have b1 := hard_ge0 hg hk
    have b2 := h _ hk
    have b3 := hard_le1000 hg hk
    have hW : W ((hardM g (i : Int)).2 - (hardM g (i : Int)).1) = (hardM g (i : Int)).2 - (hardM g (i : Int)).1 := wrap_id (by omega) (by omega)
    have e : digAtM (hardsM g (nM g)) (i + 1) = digStepM i (hardM g (i : Int)) (digAtM (hardsM g (nM g)) i) := by rw [digAtM, hards_get (by omega)]
    rw [e]
    unfold digStepM
    rw [hW]
    by_cases h0 : i = 0
    · subst h0
      rw [i1 rfl, if_pos (by show _ > (-1 : Int); omega)]
      refine ⟨0, by omega, rfl, fun k hk => ?_⟩
      have : k = 0 := by omega
      subst this
      exact ⟨Int.le_refl _, fun h => absurd h (Nat.lt_irrefl _)⟩
    · obtain ⟨a, ha, he, hall⟩ := i2 (by omega)
      rw [he]
      by_cases hc : (hardM g (i : Int)).2 - (hardM g (i : Int)).1 > (hardM g (a : Int)).2 - (hardM g (a : Int)).1
      · rw [if_pos hc]
        refine ⟨i, by omega, rfl, fun k hk => ?_⟩
        rcases Nat.lt_or_eq_of_le (Nat.le_of_lt_succ hk) with hlt | rfl
        · have := (hall k hlt).1
          exact ⟨by omega, fun _ => by omega⟩
        · exact ⟨Int.le_refl _, fun h => absurd h (Nat.lt_irrefl _)⟩
      · rw [if_neg hc]
        refine ⟨a, by omega, rfl, fun k hk => ?_⟩
        rcases Nat.lt_or_eq_of_le (Nat.le_of_lt_succ hk) with hlt | rfl
        · exact hall k hlt
        · exact ⟨by omega, fun _ => by omega⟩
theorem dig_told {g : GroundT} (hg : groundM g = true) (hl : lookM g = true) : ∃ a : Nat, a < nM g ∧ digOM g = ((a : Int), (hardM g (a : Int)).2 - (hardM g (a : Int)).1, 0) ∧ ∀ k : Nat, k < nM g → (hardM g (k : Int)).2 - (hardM g (k : Int)).1 ≤ (hardM g (a : Int)).2 - (hardM g (a : Int)).1 ∧ (k < a → (hardM g (k : Int)).2 - (hardM g (k : Int)).1 < (hardM g (a : Int)).2 - (hardM g (a : Int)).1) := by
  have hok := ground_ok hg
  obtain ⟨_, h2⟩ := dig_at hok (look_hok hok hl) (nM g) (Nat.le_refl _)
  obtain ⟨a, ha, he, hall⟩ := h2 (n_ok hok).2.1
  refine ⟨a, ha, ?_, hall⟩
  unfold digOM digErrM
  rw [err_of hg (by rfl), hl]
  show ((digAtM (hardsM g (nM g)) (nM g)).1, (digAtM (hardsM g (nM g)) (nM g)).2, (0 : Int)) = _
  rw [he]
theorem dig_clash {g : GroundT} (hg : groundM g = true) (hl : lookM g = false) : digOM g = (0, 0, 10) := by
  unfold digOM digErrM
  rw [err_of hg (by rfl), hl]; rfl
end AE.Soil

namespace AE.Soil
open Go AE Go.Proofs

def Tlw : Tab UU := [(8, awakeS.con), (24, isGroundS.con), (23, lspanS.con), (9, hardOS.con), (15, workOS.con), (29, digOS.con)]
theorem Tlw_ok : Tlw.Sound Try.prog := .cons awake_sound (.cons rGround_sound (.cons lspan_sound (.cons hardO_sound (.cons workO_sound (.cons digO_sound .nil)))))
theorem suff_of {G : Prop} (R : Prop) (h : R → G) (hR : R) : G := h hR
def befM (g : GroundT) : Nat → Span
  | 0 => (0, 0)
  | k + 1 => hardM g k
def lawWL (g : GroundT) : LSpec UU where
  T := { k : Nat // k ≤ nM g }
  fr := fun k => [(4, .ptr 1 0 0 0), (9, .i (nM g : Nat)), (27, .i (digOM g).1), (28, .i (digOM g).2.1), (30, .ptr 2 0 0 0), (181, .i (nM g : Nat)), (182, .i k.1)]
  H := fun k => [.one (.ro .pit g.pits), .one (.cells (cGround g 0) 24), .one (.cells [.i (befM g k.1).1, .i (befM g k.1).2] 28)]
  mu := fun k => nM g - k.1
def lawWS : FSpec UU where
  X := GroundT × Int × Int × Int
  pick := fun args H => match args with
    | [a, .v (.int .u8 b), .v (.int .u8 c), .v (.int .u8 d)] => match avGround H a with
      | some a => some (a, b, c, d)
      | _ => none
    | _ => none
  args := fun x => [vGround x.1 0, .v (.int .u8 x.2.1), .v (.int .u8 x.2.2.1), .v (.int .u8 x.2.2.2)]
  H := fun x => [.one (.ro .pit x.1.pits)]
  R := fun _ => .val ⟨.b true, [], [], []⟩
  pre := fun x => x.1.pits.length < 9223372036854775808 ∧ (0 ≤ x.2.1 ∧ x.2.1 ≤ 255) ∧ (0 ≤ x.2.2.1 ∧ x.2.2.1 ≤ 255) ∧ (0 ≤ x.2.2.2 ∧ x.2.2.2 ≤ 255)
set_option maxHeartbeats 0 in
set_option maxRecDepth 100000 in
theorem lawW_ok : ∀ x, lawWS.pre x → FunOk Try.prog 6 (lawWS.args x) (lawWS.H x) (lawWS.R x) := by
  rintro ⟨⟨long, rise, change, ps⟩, a, b, c⟩ hx
  refine fun_of (T := Tlw) (L := fun _ => some (.inv (lawWL ⟨long, rise, change, ps⟩))) (hs := fun _ => []) hmix Tlw_ok Try.func6 (by kernel_rfl) (by kernel_rfl) ?_
  refine Eq.mp (α :=
      let Z0 := Value.bool true; let Z1 := Value.bool false; let Z2 := GroundT.mk long rise change ps; let Z3 := List.length ps; let Z4 := Value.int IntKind.i64 rise; let Z5 := Value.int IntKind.i64 long; let Z6 := Value.int IntKind.i64 change; let Z7 := IntKind.wrap IntKind.i64 c; let Z8 := IntKind.wrap IntKind.i64 b; let Z9 := IntKind.wrap IntKind.i64 a; let Z10 := nat_lit 0 = nat_lit 0 ∧ nat_lit 0 = nat_lit 0; let Z11 := (0 : Int); let Z12 := (2 : Int); let Z13 := (1 : Int); let Z14 := nM Z2; let Z15 := (10 : Int); let Z16 := (30 : Int); let Z17 := digOM Z2; let Z18 := (1000 : Int); let Z19 := groundM Z2; let Z20 := ps = ps; let Z21 := !Z19; let Z22 := nat_lit 0 = nat_lit 0 ∧ Z10; let Z23 := Z20 ∧ True; let Z24 := Z0 = Z0; let Z25 := Z3 < nat_lit 1000000; let Z26 := (↑Z3 : Int); let Z27 := Value.int IntKind.i64 Z11; let Z28 := Z0 = Z1; let Z29 := fun (k : Nat) => k ≤ Z14; let Z30 := Z3 = Z3; let Z31 := True ∧ Z23; let Z32 := Z5 = Z5; let Z33 := Z6 = Z6; let Z34 := Z4 = Z4; let Z35 := (↑Z14 : Int); let Z36 := Prod.snd Z17; let Z37 := Prod.fst Z17; let Z38 := Z24 ∧ True; let Z39 := Z28 ∧ True; let Z40 := nat_lit 0 = nat_lit 0 ∧ Z30; let Z41 : Type := { k : Nat // Z29 k }; let Z42 := Prod.fst Z36; let Z43 := Prod.snd Z36; let Z44 := long + Z13; let Z45 := Value.int IntKind.i64 Z35; let Z46 := fun (x : Z41) => Subtype.val x; let Z47 := Value.int IntKind.i64 Z37; let Z48 := nat_lit 0 = nat_lit 0 ∧ Z40; let Z49 := Value.int IntKind.i64 Z42; let Z50 := Z48 ∧ True; let Z51 := IntKind.wrap IntKind.i64 Z44; let Z52 := Z26 > Z16; let Z53 := fun (x : Z41) => (↑(Z46 x) : Int); let Z54 := Z37 ≥ Z11; let Z55 := fun (x : Z41) => befM Z2 (Z46 x); let Z56 := Z38 ∧ Z31; let Z57 := Z39 ∧ Z31; let Z58 := Value.int IntKind.i64 Z51; let Z59 := fun (x : Z41) => Value.int IntKind.i64 (Z53 x); let Z60 := fun (x : Z41) => Prod.fst (Z55 x); let Z61 := fun (x : Z41) => Prod.snd (Z55 x); let Z62 := True ∧ Z56; let Z63 := True ∧ Z57; let Z64 := Int.tmod Z8 Z51; let Z65 := Int.tmod Z9 Z51; let Z66 := Int.tmod Z7 Z51; let Z67 := Z51 ≠ Z11; let Z68 := Z37 < Z35; let Z69 := True ∧ Z62; let Z70 := fun (t : Z41) => hardOM Z2 (Z53 t); let Z71 := True ∧ Z69; let Z72 := fun (x : Z41) => Value.int IntKind.i64 (Z60 x); let Z73 := fun (x : Z41) => Value.int IntKind.i64 (Z61 x); let Z74 := fun (x : Z41) => Z14 - Z46 x; let Z75 := Z43 != Z11; let Z76 := fun (t : Z41) => Z53 t > Z11; let Z77 := True ∧ Z71; let Z78 := Z33 ∧ Z50; let Z79 := fun (t : Z41) => Prod.fst (Z70 t); let Z80 := fun (t : Z41) => Prod.snd (Z70 t); let Z81 := Z45 = Z45; let Z82 := Z47 = Z47; let Z83 := Z75 = true; let Z84 := Z75 = false; let Z85 := fun (t : Z41) => Prod.snd (Z79 t); let Z86 := fun (t : Z41) => Prod.fst (Z79 t); let Z87 := fun (t : Z41) => Z53 t + Z13; let Z88 := fun (t : Z41) => Z53 t < Z35; let Z89 := fun (x : Z41) => Z27 = Z59 x; let Z90 := fun (t : Z41) => Z53 t < Z37; let Z91 := fun (x : Z41) => Z89 x ∧ True; let Z92 := fun (t : Z41) => Value.int IntKind.i64 (Z85 t); let Z93 := fun (t : Z41) => Value.int IntKind.i64 (Z86 t); let Z94 := Z49 = Z49; let Z95 := fun (t : Z41) => IntKind.wrap IntKind.i64 (Z87 t); let Z96 := Z58 = Z45; let Z97 := fun (x : Z41) => Z27 = Z73 x; let Z98 := fun (x : Z41) => Z27 = Z72 x; let Z99 := fun (t : Z41) => Z53 t == Z37; let Z100 := fun (x : Z41) => Z97 x ∧ True; let Z101 := Z34 ∧ Z78; let Z102 := fun (t : Z41) => Value.int IntKind.i64 (Z95 t); let Z103 := decide Z54; let Z104 := fun (t : Z41) => Z86 t < Z11; let Z105 := fun (t : Z41) => Z85 t > Z18; let Z106 := fun (t : Z41) => Z99 t = true; let Z107 := fun (t : Z41) => Z99 t = false; let Z108 := fun (t : Z41) => Z80 t != Z11; let Z109 := Z103 = true; let Z110 := Z103 = false; let Z111 := fun (t : Z41) => workOM Z2 (Z53 t) (Z53 t); let Z112 := fun (t : Z41) => Z108 t = true; let Z113 := fun (t : Z41) => Z108 t = false; let Z114 := fun (t : Z41) => Z59 t = Z59 t; let Z115 := fun (t : Z41) => Prod.fst (Z111 t); let Z116 := fun (t : Z41) => Prod.snd (Z111 t); let Z117 := fun (t : Z41) => Z114 t ∧ True; let Z118 := decide Z68; let Z119 := Z32 ∧ Z101; let Z120 := fun (t : Z41) => Prod.snd (Z115 t); let Z121 := fun (t : Z41) => Prod.fst (Z115 t); let Z122 := Z119 ∧ True; let Z123 := max Z65 Z64; let Z124 := min Z65 Z64; let Z125 := Z118 = true; let Z126 := Z118 = false; let Z127 := Z83 → Z63; let Z128 := Z65 + Z64; let Z129 := fun (t : Z41) => decide (Z76 t); let Z130 := fun (x t : Z41) => Z74 x < Z74 t; let Z131 := fun (t : Z41) => Z129 t = true; let Z132 := fun (t : Z41) => Z129 t = false; let Z133 := IntKind.wrap IntKind.i64 Z128; let Z134 := fun (t : Z41) => Z116 t != Z11; let Z135 := fun (t : Z41) => Z85 t - Z61 t; let Z136 := fun (t : Z41) => Z61 t - Z85 t; let Z137 := fun (t : Z41) => Z60 t - Z86 t; let Z138 := fun (t : Z41) => Z86 t - Z60 t; let Z139 := fun (t x : Z41) => Z93 t = Z72 x; let Z140 := fun (t x : Z41) => Z92 t = Z73 x; let Z141 := fun (t x : Z41) => Z102 t = Z59 x; let Z142 := fun (t : Z41) => Z134 t = true; let Z143 := fun (t : Z41) => Z134 t = false; let Z144 := fun (t x : Z41) => Z140 t x ∧ True; let Z145 := fun (t x : Z41) => Z141 t x ∧ True; let Z146 := fun (t : Z41) => IntKind.wrap IntKind.i64 (Z136 t); let Z147 := fun (t : Z41) => IntKind.wrap IntKind.i64 (Z137 t); let Z148 := fun (t : Z41) => IntKind.wrap IntKind.i64 (Z138 t); let Z149 := fun (t : Z41) => IntKind.wrap IntKind.i64 (Z135 t); let Z150 := fun (t : Z41) => decide (Z88 t); let Z151 := decide Z52; let Z152 := Z110 → Z63; let Z153 := fun (t : Z41) => Z86 t > Z85 t; let Z154 := fun (t : Z41) => decide (Z90 t); let Z155 := fun (t : Z41) => Z112 t → Z63; let Z156 := fun (t : Z41) => Z150 t = true; let Z157 := fun (t : Z41) => Z150 t = false; let Z158 := fun (t : Z41) => Z154 t = true; let Z159 := fun (t : Z41) => Z154 t = false; let Z160 := fun (t : Z41) => Z149 t > rise; let Z161 := fun (t : Z41) => Z146 t > rise; let Z162 := fun (t : Z41) => Z148 t > rise; let Z163 := fun (t : Z41) => Z147 t > rise; let Z164 := fun (t : Z41) => Z85 t - Z86 t; let Z165 := fun (x : Z41) => Z96 ∧ Z91 x; let Z166 := fun (t : Z41) => IntKind.wrap IntKind.i64 (Z164 t); let Z167 := Z126 → Z63; let Z168 := fun (x : Z41) => Z98 x ∧ Z100 x; let Z169 := fun (x : Z41) => Z168 x ∧ True; let Z170 := max Z123 Z66; let Z171 := min Z124 Z66; let Z172 := Z125 → Z77; let Z173 := fun (x : Z41) => Z22 ∧ Z165 x; let Z174 := Value.int IntKind.i64 Z171; let Z175 := Value.int IntKind.i64 Z170; let Z176 := hardOM Z2 Z171; let Z177 := fun (t : Z41) => Z142 t → Z63; let Z178 := Prod.snd Z176; let Z179 := fun (t : Z41) => Z120 t == Z85 t; let Z180 := fun (t : Z41) => Z121 t == Z86 t; let Z181 := Z133 + Z66; let Z182 := fun (t : Z41) => Z166 t > Z42; let Z183 := Z170 + Z13; let Z184 := fun (t : Z41) => Z158 t → Z63; let Z185 := fun (t : Z41) => Z179 t && true; let Z186 := fun (t x : Z41) => Z81 ∧ Z145 t x; let Z187 := fun (t : Z41) => Z114 t ∧ Z117 t; let Z188 := IntKind.wrap IntKind.i64 Z181; let Z189 := fun (t : Z41) => Z166 t != Z42; let Z190 := IntKind.wrap IntKind.i64 Z183; let Z191 := fun (t : Z41) => Z166 t == Z42; let Z192 := fun (t : Z41) => Z119 ∧ Z117 t; let Z193 := fun (t : Z41) => Z189 t = true; let Z194 := fun (t : Z41) => Z189 t = false; let Z195 := fun (t : Z41) => Z191 t = true; let Z196 := Value.int IntKind.i64 Z190; let Z197 := fun (t : Z41) => Z191 t = false; let Z198 := fun (t x : Z41) => Z22 ∧ Z186 t x; let Z199 := fun (x : Z41) => Z94 ∧ Z173 x; let Z200 := fun (t : Z41) => Z193 t → Z63; let Z201 := fun (t x : Z41) => Z139 t x ∧ Z144 t x; let Z202 := fun (x : Z41) => Z119 ∧ Z169 x; let Z203 := fun (t x : Z41) => Z201 t x ∧ True; let Z204 := fun (x : Z41) => Z20 ∧ Z202 x; let Z205 := fun (x : Z41) => True ∧ Z204 x; let Z206 := fun (t x : Z41) => Z94 ∧ Z198 t x; let Z207 := fun (t : Z41) => Z119 ∧ Z187 t; let Z208 := fun (x : Z41) => Z82 ∧ Z199 x; let Z209 := Z172 ∧ Z167; let Z210 := workOM Z2 Z171 Z170; let Z211 := Z175 = Z175; let Z212 := Z174 = Z174; let Z213 := Prod.snd Z210; let Z214 := Prod.fst Z210; let Z215 := Z211 ∧ True; let Z216 := fun (t x : Z41) => Z82 ∧ Z206 t x; let Z217 := Prod.fst Z214; let Z218 := Prod.snd Z214; let Z219 := fun (t x : Z41) => Z119 ∧ Z203 t x; let Z220 := workOM Z2 Z190 Z170; let Z221 := Z213 != Z11; let Z222 := Z188 - Z171; let Z223 := Z213 == Z15; let Z224 := fun (x : Z41) => Z96 ∧ Z208 x; let Z225 := Prod.snd Z220; let Z226 := Z218 == Z11; let Z227 := fun (t : Z41) => Z180 t && Z185 t; let Z228 := Z217 == Z11; let Z229 := IntKind.wrap IntKind.i64 Z222; let Z230 := fun (t : Z41) => !Z227 t; let Z231 := fun (t x : Z41) => Z20 ∧ Z219 t x; let Z232 := Z226 && true; let Z233 := fun (t x : Z41) => True ∧ Z231 t x; let Z234 := fun (t : Z41) => Z230 t = true; let Z235 := fun (t : Z41) => Z230 t = false; let Z236 := Z43 == Z213; let Z237 := fun (x : Z41) => Z22 ∧ Z224 x; let Z238 := Z225 != Z12; let Z239 := Z109 → Z209; let Z240 := fun (t x : Z41) => Z81 ∧ Z216 t x; let Z241 := Z196 = Z196; let Z242 := Z238 = true; let Z243 := Z238 = false; let Z244 := fun (t x : Z41) => Z22 ∧ Z240 t x; let Z245 := fun (t : Z41) => Z234 t → Z63; let Z246 := Z242 → Z63; let Z247 := fun (t : Z41) => decide (Z104 t); let Z248 := fun (t : Z41) => decide (Z105 t); let Z249 := fun (t : Z41) => Z247 t = true; let Z250 := fun (t : Z41) => Z247 t = false; let Z251 := fun (t : Z41) => Z248 t = true; let Z252 := fun (t : Z41) => Z248 t = false; let Z253 := Z239 ∧ Z152; let Z254 := Z178 == Z213; let Z255 := Z229 - Z170; let Z256 := IntKind.wrap IntKind.i64 Z255; let Z257 := Value.int IntKind.i64 Z256; let Z258 := fun (t : Z41) => Z249 t → Z63; let Z259 := fun (t : Z41) => Z251 t → Z63; let Z260 := Z256 + Z13; let Z261 := IntKind.wrap IntKind.i64 Z260; let Z262 := Value.int IntKind.i64 Z261; let Z263 := fun (t : Z41) => decide (Z161 t); let Z264 := fun (t : Z41) => decide (Z162 t); let Z265 := fun (t : Z41) => decide (Z163 t); let Z266 := fun (t : Z41) => decide (Z160 t); let Z267 := fun (t : Z41) => Z263 t = true; let Z268 := fun (t : Z41) => Z266 t = true; let Z269 := fun (t : Z41) => Z265 t = true; let Z270 := fun (t : Z41) => Z264 t = true; let Z271 := fun (t : Z41) => Z263 t = false; let Z272 := fun (t : Z41) => Z265 t = false; let Z273 := fun (t : Z41) => Z266 t = false; let Z274 := fun (t : Z41) => Z264 t = false; let Z275 := fun (x : Z41) => Z237 x ∧ Z205 x; let Z276 := fun (t : Z41) => Z157 t → Z253; let Z277 := fun (t : Z41) => Z270 t → Z63; let Z278 := fun (t : Z41) => Z267 t → Z63; let Z279 := fun (t : Z41) => Z268 t → Z63; let Z280 := fun (t : Z41) => Z269 t → Z63; let Z281 := ∃ (x : Z41), Z275 x; let Z282 := Z256 < Z170; let Z283 := workOM Z2 Z171 Z256; let Z284 := Prod.snd Z283; let Z285 := Prod.fst Z283; let Z286 := Prod.fst Z285; let Z287 := Prod.snd Z285; let Z288 := Z241 ∧ Z215; let Z289 := Z228 && Z232; let Z290 := workOM Z2 Z261 Z170; let Z291 := Z284 != Z11; let Z292 := Z286 + Z11; let Z293 := Z287 + Z11; let Z294 := Prod.fst Z290; let Z295 := Prod.snd Z290; let Z296 := Prod.fst Z294; let Z297 := IntKind.wrap IntKind.i64 Z292; let Z298 := IntKind.wrap IntKind.i64 Z293; let Z299 := Prod.snd Z294; let Z300 := Value.int IntKind.i64 Z297; let Z301 := Value.int IntKind.i64 Z298; let Z302 := Z295 != Z11; let Z303 := fun (t x : Z41) => Z244 t x ∧ Z233 t x; let Z304 := Z119 ∧ Z288; let Z305 := fun (t x : Z41) => Z303 t x ∧ Z130 x t; let Z306 := fun (t : Z41) => decide (Z153 t); let Z307 := fun (t : Z41) => ∃ (x : Z41), Z305 t x; let Z308 := fun (t : Z41) => True ∧ Z307 t; let Z309 := fun (t : Z41) => Z306 t = true; let Z310 := fun (t : Z41) => Z306 t = false; let Z311 := fun (t : Z41) => Z309 t → Z63; let Z312 := fun (t : Z41) => Z107 t → Z308 t; let Z313 := fun (t : Z41) => decide (Z182 t); let Z314 := fun (t : Z41) => Z313 t = true; let Z315 := fun (t : Z41) => Z313 t = false; let Z316 := fun (t : Z41) => Z314 t → Z63; let Z317 := Z218 == Z298; let Z318 := Z217 == Z297; let Z319 := Z317 && true; let Z325 := IntKind.wrap IntKind.i64 (Z286 + Z296); let Z326 := IntKind.wrap IntKind.i64 (Z287 + Z299); let Z327 := Value.int IntKind.i64 Z325; let Z328 := Value.int IntKind.i64 Z326; let Z329 := Z217 == Z325; let Z331 := Z218 == Z326 && true; let Z342 := decide Z282; let Z344 := fun (t : Z41) => Z316 t ∧ (Z315 t → (Z195 t → Z184 t ∧ (Z159 t → (Z106 t → Z200 t ∧ (Z194 t → Z308 t)) ∧ Z312 t)) ∧ (Z197 t → (Z106 t → Z200 t ∧ (Z194 t → Z308 t)) ∧ Z312 t)); (Z151 = true → Z77) ∧ (Z151 = false → Z25 ∧ Z122 ∧ Z23 ∧ (Z21 = true → Z77) ∧ (Z21 = false → Z67 ∧ Z67 ∧ Z67 ∧ Z25 ∧ (Z119 ∧ Z212 ∧ Z215) ∧ Z23 ∧ (Z221 = true → Z25 ∧ (Z119 ∧ Z212 ∧ True) ∧ Z23 ∧ Z25 ∧ Z122 ∧ Z23 ∧ (Z223 = true → (Z254 = true → (Z236 = true → (Z289 = true → Z77) ∧ (Z289 = false → Z63)) ∧ (Z236 = false → Z63)) ∧ (Z254 = false → Z63)) ∧ (Z223 = false → Z63)) ∧ (Z221 = false → Z25 ∧ (Z119 ∧ Z212 ∧ Z257 = Z257 ∧ True) ∧ Z23 ∧ (Z291 = true → Z63) ∧ (Z291 = false → (Z342 = true → Z25 ∧ (Z119 ∧ Z262 = Z262 ∧ Z215) ∧ Z23 ∧ (Z302 = true → Z63) ∧ (Z302 = false → True ∧ (Z327 = Z327 ∧ Z328 = Z328 ∧ True) ∧ True ∧ ((!(Z329 && Z331)) = true → Z63) ∧ ((!(Z329 && Z331)) = false → Z25 ∧ Z304 ∧ Z23 ∧ Z246 ∧ (Z243 → Z25 ∧ Z122 ∧ Z23 ∧ Z127 ∧ (Z84 → Z281 ∧ ∀ (t : Z41), (Z156 t → Z25 ∧ Z192 t ∧ Z23 ∧ Z25 ∧ Z207 t ∧ Z23 ∧ Z155 t ∧ (Z113 t → Z177 t ∧ (Z143 t → Z245 t ∧ (Z235 t → Z258 t ∧ (Z250 t → Z259 t ∧ (Z252 t → Z311 t ∧ (Z310 t → (Z131 t → Z277 t ∧ (Z274 t → Z280 t ∧ (Z272 t → Z279 t ∧ (Z273 t → Z278 t ∧ (Z271 t → Z344 t))))) ∧ (Z132 t → Z344 t)))))))) ∧ Z276 t))))) ∧ (Z342 = false → True ∧ (Z300 = Z300 ∧ Z301 = Z301 ∧ True) ∧ True ∧ ((!(Z318 && Z319)) = true → Z63) ∧ ((!(Z318 && Z319)) = false → Z25 ∧ Z304 ∧ Z23 ∧ Z246 ∧ (Z243 → Z25 ∧ Z122 ∧ Z23 ∧ Z127 ∧ (Z84 → Z281 ∧ ∀ (t : Z41), (Z156 t → Z25 ∧ Z192 t ∧ Z23 ∧ Z25 ∧ Z207 t ∧ Z23 ∧ Z155 t ∧ (Z113 t → Z177 t ∧ (Z143 t → Z245 t ∧ (Z235 t → Z258 t ∧ (Z250 t → Z259 t ∧ (Z252 t → Z311 t ∧ (Z310 t → (Z131 t → Z277 t ∧ (Z274 t → Z280 t ∧ (Z272 t → Z279 t ∧ (Z273 t → Z278 t ∧ (Z271 t → Z344 t))))) ∧ (Z132 t → Z344 t)))))))) ∧ Z276 t)))))))))
    (by kernel_rfl) ?_
  simp only [eq_self, true_and, and_true, Int.toNat_natCast, Nat.zero_add, Nat.sub_zero, Value.int.injEq, Value.bool.injEq, decide_eq_true_eq, decide_eq_false_iff_not]
  obtain ⟨_, ⟨a0, a1⟩, ⟨b0, b1⟩, c0, c1⟩ := hx
  refine ⟨fun _ => trivial, fun h30 => ?_⟩
  have hp : ps.length < 1000000 := by omega
  refine ⟨hp, fun _ => trivial, fun hgn => ?_⟩
  have hg : groundM ⟨long, rise, change, ps⟩ = true := by simpa using hgn
  have hok := ground_ok hg
  obtain ⟨n0, n1, n2⟩ := n_ok hok
  have n0' : ((nM ⟨long, rise, change, ps⟩ : Nat) : Int) = long + 1 := n0
  have hW : IntKind.i64.wrap (long + 1) = ((nM ⟨long, rise, change, ps⟩ : Nat) : Int) := by rw [wrap_id (by omega) (by omega)]; omega
  have a0' : 0 ≤ a := a0
  have a1' : a ≤ 255 := a1
  have b0' : 0 ≤ b := b0
  have b1' : b ≤ 255 := b1
  have c0' : 0 ≤ c := c0
  have c1' : c ≤ 255 := c1
  have wa : IntKind.i64.wrap a = a := wrap_id (by omega) (by omega)
  have wb : IntKind.i64.wrap b = b := wrap_id (by omega) (by omega)
  have wc : IntKind.i64.wrap c = c := wrap_id (by omega) (by omega)
  have ta := Int.tmod_nonneg ((nM ⟨long, rise, change, ps⟩ : Nat) : Int) a0'
  have tb := Int.tmod_nonneg ((nM ⟨long, rise, change, ps⟩ : Nat) : Int) b0'
  have tc := Int.tmod_nonneg ((nM ⟨long, rise, change, ps⟩ : Nat) : Int) c0'
  have ua := Int.tmod_lt_of_pos a (show (0 : Int) < ((nM ⟨long, rise, change, ps⟩ : Nat) : Int) by omega)
  have ub := Int.tmod_lt_of_pos b (show (0 : Int) < ((nM ⟨long, rise, change, ps⟩ : Nat) : Int) by omega)
  have uc := Int.tmod_lt_of_pos c (show (0 : Int) < ((nM ⟨long, rise, change, ps⟩ : Nat) : Int) by omega)
  simp only [hW, wa, wb, wc]
  revert ta tb tc ua ub uc
  generalize a.tmod ((nM ⟨long, rise, change, ps⟩ : Nat) : Int) = a'
  generalize b.tmod ((nM ⟨long, rise, change, ps⟩ : Nat) : Int) = b'
  generalize c.tmod ((nM ⟨long, rise, change, ps⟩ : Nat) : Int) = c'
  intro ta tb tc ua ub uc
  have hm : IntKind.i64.wrap (IntKind.i64.wrap (IntKind.i64.wrap (IntKind.i64.wrap (a' + b') + c') - min (min a' b') c') - max (max a' b') c') = a' + b' + c' - min (min a' b') c' - max (max a' b') c' := by
    rw [show IntKind.i64.wrap (a' + b') = a' + b' from wrap_id (by omega) (by omega), show IntKind.i64.wrap (a' + b' + c') = a' + b' + c' from wrap_id (by omega) (by omega), show IntKind.i64.wrap (a' + b' + c' - min (min a' b') c') = a' + b' + c' - min (min a' b') c' from wrap_id (by omega) (by omega)]
    exact wrap_id (by omega) (by omega)
  rw [hm]
  obtain ⟨y, hy⟩ : ∃ y, a' + b' + c' - min (min a' b') c' - max (max a' b') c' = y := ⟨_, rfl⟩
  obtain ⟨x, hx⟩ : ∃ x, min (min a' b') c' = x := ⟨_, rfl⟩
  obtain ⟨z, hz⟩ : ∃ z, max (max a' b') c' = z := ⟨_, rfl⟩
  have px : Pl ⟨long, rise, change, ps⟩ x := ⟨by omega, by show x ≤ long; omega⟩
  have py : Pl ⟨long, rise, change, ps⟩ y := ⟨by omega, by show y ≤ long; omega⟩
  have pz : Pl ⟨long, rise, change, ps⟩ z := ⟨by omega, by show z ≤ long; omega⟩
  have hxy : x ≤ y := by omega
  have hyz : y ≤ z := by omega
  rw [hy]
  simp only [hx, hz]
  clear hm hy hx hz hgn hW wa wb wc
  have wy : IntKind.i64.wrap (y + 1) = y + 1 := by have := py.2; have h0 : y ≤ long := this; exact wrap_id (by have := py.1; omega) (by omega)
  have wz : IntKind.i64.wrap (z + 1) = z + 1 := by have := pz.2; have h0 : z ≤ long := this; exact wrap_id (by have := pz.1; omega) (by omega)
  simp only [wy, wz]
  refine ⟨by omega, by omega, by omega, hp, ?_⟩
  cases hl : lookM ⟨long, rise, change, ps⟩ with
  | false =>
    have e1 := work_told hg px pz (by omega)
    have e2 := hard_told hg px
    have e3 := dig_clash hg hl
    rw [hl, if_neg (by decide)] at e1 e2
    simp only [e1, e2, e3]
    exact ⟨fun _ => ⟨hp, hp, ⟨fun _ => ⟨fun _ => ⟨fun _ => ⟨fun _ => trivial, fun h => absurd h (by decide)⟩, fun h => absurd h (by decide)⟩, fun h => absurd h (by decide)⟩, fun h => absurd h (by decide)⟩⟩, fun h => absurd h (by decide)⟩
  | true =>
    have e1 := work_told hg px pz (by omega)
    have e2 := work_told hg px py hxy
    have e4 := work_range hg (a := z + 1) (b := z) (by omega)
    rw [hl, if_pos rfl] at e1 e2
    have hr : y < z → workOM ⟨long, rise, change, ps⟩ (y + 1) z = (sumM ⟨long, rise, change, ps⟩ (y + 1).toNat (z.toNat + 1 - (y + 1).toNat), 0) := fun hlt => by
      have := work_told hg (g := ⟨long, rise, change, ps⟩) (a := y + 1) (b := z) ⟨by have := py.1; omega, by have := pz.2; show y + 1 ≤ long; omega⟩ pz (by omega)
      rw [hl, if_pos rfl] at this; exact this
    simp only [e1, e2, e4]
    refine ⟨fun h => absurd h (by decide), fun _ => ⟨hp, fun h => absurd h (by decide), fun _ => ?_⟩⟩
    have hho := look_hok hok hl
    have px1 := px.1
    have pz1 := pz.1
    have pz2 : z ≤ long := pz.2
    apply suff_of
    case h =>
      intro hR
      refine ⟨fun hlt => ?_, fun hlt => ?_⟩
      · simp only [hr hlt]
        refine ⟨hp, fun h => absurd h (by decide), fun _ => ⟨fun h => ?_, fun _ => hR⟩⟩
        have ha := sum_add ⟨long, rise, change, ps⟩ x.toNat (y.toNat + 1 - x.toNat) (z.toNat + 1 - (y + 1).toNat)
        rw [show y.toNat + 1 - x.toNat + (z.toNat + 1 - (y + 1).toNat) = z.toNat + 1 - x.toNat by omega, show x.toNat + (y.toNat + 1 - x.toNat) = (y + 1).toNat by omega] at ha
        obtain ⟨q1, q2, q3⟩ := sum_bound hok hho x.toNat (z.toNat + 1 - x.toNat) (by omega)
        rw [ha] at h q1 q2 q3
        have q1' : 0 ≤ (sumM ⟨long, rise, change, ps⟩ x.toNat (y.toNat + 1 - x.toNat)).1 + (sumM ⟨long, rise, change, ps⟩ (y + 1).toNat (z.toNat + 1 - (y + 1).toNat)).1 := q1
        have q2' : (sumM ⟨long, rise, change, ps⟩ x.toNat (y.toNat + 1 - x.toNat)).1 + (sumM ⟨long, rise, change, ps⟩ (y + 1).toNat (z.toNat + 1 - (y + 1).toNat)).1 ≤ (sumM ⟨long, rise, change, ps⟩ x.toNat (y.toNat + 1 - x.toNat)).2 + (sumM ⟨long, rise, change, ps⟩ (y + 1).toNat (z.toNat + 1 - (y + 1).toNat)).2 := q2
        have q3' : (sumM ⟨long, rise, change, ps⟩ x.toNat (y.toNat + 1 - x.toNat)).2 + (sumM ⟨long, rise, change, ps⟩ (y + 1).toNat (z.toNat + 1 - (y + 1).toNat)).2 ≤ 1000 * ((z.toNat + 1 - x.toNat : Nat) : Int) := q3
        rw [wrap_id (by omega) (by omega), wrap_id (by omega) (by omega)] at h
        simp at h
      · have hye : y = z := by omega
        subst hye
        obtain ⟨q1, q2, q3⟩ := sum_bound hok hho x.toNat (y.toNat + 1 - x.toNat) (by omega)
        refine ⟨fun h => ?_, fun _ => hR⟩
        rw [Int.add_zero, Int.add_zero, wrap_id (by omega) (by omega), wrap_id (by omega) (by omega)] at h
        simp at h
    case hR =>
      obtain ⟨d, hd, ed, hall⟩ := dig_told hg hl
      have hd0 := hall d hd
      simp only [ed]
      refine ⟨hp, fun h => absurd h (by decide), fun _ => ⟨hp, fun h => absurd h (by decide), fun _ => ⟨⟨⟨0, Nat.zero_le _⟩, ⟨trivial, trivial, rfl⟩, rfl, rfl⟩, fun t => ⟨fun ht => ?_, fun ht => ?_⟩⟩⟩⟩
      · obtain ⟨k, hk⟩ := t
        have hlt : k < nM ⟨long, rise, change, ps⟩ := by have h0 : (k : Int) < ((nM ⟨long, rise, change, ps⟩ : Nat) : Int) := ht; omega
        have pk := pl_of hok hlt
        have f1 := hard_told hg pk
        have f2 := work_told hg pk pk (Int.le_refl _)
        rw [hl, if_pos rfl] at f1 f2
        have f3 : sumM ⟨long, rise, change, ps⟩ ((k : Int).toNat) ((k : Int).toNat + 1 - (k : Int).toNat) = hardM ⟨long, rise, change, ps⟩ (k : Int) := by
          rw [Int.toNat_natCast, show k + 1 - k = 1 by omega]
          show (0 + _, 0 + _) = _
          rw [Int.zero_add, Int.zero_add]; rfl
        rw [f3] at f2
        have hK : ∃ x : { k // k ≤ nM ⟨long, rise, change, ps⟩ }, (IntKind.i64.wrap ((k : Int) + 1) = (x.1 : Int) ∧ (hardM ⟨long, rise, change, ps⟩ (k : Int)).1 = (befM ⟨long, rise, change, ps⟩ x.1).1 ∧ (hardM ⟨long, rise, change, ps⟩ (k : Int)).2 = (befM ⟨long, rise, change, ps⟩ x.1).2) ∧ nM ⟨long, rise, change, ps⟩ - x.1 < nM ⟨long, rise, change, ps⟩ - k :=
          ⟨⟨k + 1, hlt⟩, ⟨sucI k (by omega), rfl, rfl⟩, dec1 hlt⟩
        have b1 := hard_ge0 hok pk
        have b2 := hho _ pk
        have b3 := hard_le1000 hok pk
        have hdk := hall k hlt
        have hs : (k : Int) > 0 → 0 ≤ (befM ⟨long, rise, change, ps⟩ k).1 ∧ (befM ⟨long, rise, change, ps⟩ k).1 ≤ (befM ⟨long, rise, change, ps⟩ k).2 ∧ (befM ⟨long, rise, change, ps⟩ k).2 ≤ 1000 ∧ (hardM ⟨long, rise, change, ps⟩ (k : Int)).1 - (befM ⟨long, rise, change, ps⟩ k).1 ≤ rise ∧ (befM ⟨long, rise, change, ps⟩ k).1 - (hardM ⟨long, rise, change, ps⟩ (k : Int)).1 ≤ rise ∧ (hardM ⟨long, rise, change, ps⟩ (k : Int)).2 - (befM ⟨long, rise, change, ps⟩ k).2 ≤ rise ∧ (befM ⟨long, rise, change, ps⟩ k).2 - (hardM ⟨long, rise, change, ps⟩ (k : Int)).2 ≤ rise := by
          intro h0
          obtain ⟨j, rfl⟩ : ∃ j, k = j + 1 := ⟨k - 1, by omega⟩
          have pj := pl_of hok (show j < nM ⟨long, rise, change, ps⟩ by omega)
          have g1 := lip_lo hok pk pj
          have g2 := lip_lo hok pj pk
          have g3 := lip_hi hok pk pj
          have g4 := lip_hi hok pj pk
          have dj : D (((j + 1 : Nat) : Int)) (j : Int) = 1 := D_pre (j : Int)
          have dj2 : D (j : Int) (((j + 1 : Nat) : Int)) = 1 := D_suc (j : Int)
          rw [dj, Int.one_mul] at g1 g3
          rw [dj2, Int.one_mul] at g2 g4
          have g1' : (hardM ⟨long, rise, change, ps⟩ ((j + 1 : Nat) : Int)).1 ≤ (hardM ⟨long, rise, change, ps⟩ (j : Int)).1 + rise := g1
          have g2' : (hardM ⟨long, rise, change, ps⟩ (j : Int)).1 ≤ (hardM ⟨long, rise, change, ps⟩ ((j + 1 : Nat) : Int)).1 + rise := g2
          have g3' : (hardM ⟨long, rise, change, ps⟩ (j : Int)).2 ≤ (hardM ⟨long, rise, change, ps⟩ ((j + 1 : Nat) : Int)).2 + rise := g3
          have g4' : (hardM ⟨long, rise, change, ps⟩ ((j + 1 : Nat) : Int)).2 ≤ (hardM ⟨long, rise, change, ps⟩ (j : Int)).2 + rise := g4
          have g5 := hard_ge0 hok pj
          have g6 := hho _ pj
          have g7 := hard_le1000 hok pj
          show 0 ≤ (hardM ⟨long, rise, change, ps⟩ (j : Int)).1 ∧ (hardM ⟨long, rise, change, ps⟩ (j : Int)).1 ≤ (hardM ⟨long, rise, change, ps⟩ (j : Int)).2 ∧ (hardM ⟨long, rise, change, ps⟩ (j : Int)).2 ≤ 1000 ∧ (hardM ⟨long, rise, change, ps⟩ ((j + 1 : Nat) : Int)).1 - (hardM ⟨long, rise, change, ps⟩ (j : Int)).1 ≤ rise ∧ (hardM ⟨long, rise, change, ps⟩ (j : Int)).1 - (hardM ⟨long, rise, change, ps⟩ ((j + 1 : Nat) : Int)).1 ≤ rise ∧ (hardM ⟨long, rise, change, ps⟩ ((j + 1 : Nat) : Int)).2 - (hardM ⟨long, rise, change, ps⟩ (j : Int)).2 ≤ rise ∧ (hardM ⟨long, rise, change, ps⟩ (j : Int)).2 - (hardM ⟨long, rise, change, ps⟩ ((j + 1 : Nat) : Int)).2 ≤ rise
          refine ⟨g5, g6, g7, by omega, by omega, by omega, by omega⟩
        have hkd : k = d → (hardM ⟨long, rise, change, ps⟩ (k : Int)).2 - (hardM ⟨long, rise, change, ps⟩ (k : Int)).1 = (hardM ⟨long, rise, change, ps⟩ (d : Int)).2 - (hardM ⟨long, rise, change, ps⟩ (d : Int)).1 := fun e => by rw [e]
        have hs2 : (k : Int) > 0 → IntKind.i64.wrap ((hardM ⟨long, rise, change, ps⟩ (k : Int)).1 - (befM ⟨long, rise, change, ps⟩ k).1) ≤ rise ∧ IntKind.i64.wrap ((befM ⟨long, rise, change, ps⟩ k).1 - (hardM ⟨long, rise, change, ps⟩ (k : Int)).1) ≤ rise ∧ IntKind.i64.wrap ((hardM ⟨long, rise, change, ps⟩ (k : Int)).2 - (befM ⟨long, rise, change, ps⟩ k).2) ≤ rise ∧ IntKind.i64.wrap ((befM ⟨long, rise, change, ps⟩ k).2 - (hardM ⟨long, rise, change, ps⟩ (k : Int)).2) ≤ rise := by
          intro h0
          obtain ⟨g1, g2, g3, g4, g5, g6, g7⟩ := hs h0
          rw [wrap_id (by omega) (by omega), wrap_id (by omega) (by omega), wrap_id (by omega) (by omega), wrap_id (by omega) (by omega)]
          exact ⟨g4, g5, g6, g7⟩
        have hw0 : IntKind.i64.wrap ((hardM ⟨long, rise, change, ps⟩ (k : Int)).2 - (hardM ⟨long, rise, change, ps⟩ (k : Int)).1) = (hardM ⟨long, rise, change, ps⟩ (k : Int)).2 - (hardM ⟨long, rise, change, ps⟩ (k : Int)).1 := wrap_id (by omega) (by omega)
        rw [f1, f2]
        simp only [hw0]
        clear hs
        revert hK
        generalize (∃ x : { k // k ≤ nM ⟨long, rise, change, ps⟩ }, (IntKind.i64.wrap ((k : Int) + 1) = (x.1 : Int) ∧ (hardM ⟨long, rise, change, ps⟩ (k : Int)).1 = (befM ⟨long, rise, change, ps⟩ x.1).1 ∧ (hardM ⟨long, rise, change, ps⟩ (k : Int)).2 = (befM ⟨long, rise, change, ps⟩ x.1).2) ∧ nM ⟨long, rise, change, ps⟩ - x.1 < nM ⟨long, rise, change, ps⟩ - k) = Q
        intro hK
        simp only [beq_iff_eq, beq_eq_false_iff_ne, bne_iff_ne, ne_eq, bne_eq_false_iff_eq, Bool.true_eq_false, BEq.rfl, Bool.and_self, Bool.not_true, not_true, not_false_iff, false_implies, true_implies, and_true, true_and, Bool.false_eq_true]
        refine ⟨hp, hp, ?_⟩
        clear f1 f2 f3 e1 e2 e4 hr
        repeat' (first | refine And.intro ?_ ?_ | intro _)
        all_goals first
          | exact hK
          | omega
      · refine ⟨fun _ => ⟨fun _ => trivial, fun h => ?_⟩, fun h => ?_⟩
        · exact absurd (show (d : Int) < ((nM ⟨long, rise, change, ps⟩ : Nat) : Int) by omega) h
        · exact absurd (Int.natCast_nonneg d) h

end AE.Soil

namespace AE
open Go Go.ChangeShapes Go.WideShapes

theorem Keeps.but {w w' : World} (h : Keeps (fun _ => False) w w') (may : MemPlace → Prop) : w.keptBut w' may := by
  refine ⟨h.os, h.output, fun i hi => ?_⟩
  have hb := h.block i hi fun h => h
  rw [hb]
  exact (World.keptBut_refl w may).2.2 i hi
theorem Keeps.frozen {w w' : World} (h : Keeps (fun _ => False) w w') (a : Addr) (ha : a.block < w.heap.size) : w'.frozen? a = w.frozen? a := by
  unfold World.frozen?
  rw [h.block a.block ha fun h => h]
theorem post_of_keeps {P : Program} {H : Type} {enc : TypeId × Value → H} {f : Func} {s : ChangeSpec} {apart fresh handsOn again : Bool} {W W' : World} {args : Array Value} {v : Value} {ds gs : List (DataW H)} {before pa pv : List MemPlace}
    (hW : DataW.Whole enc P f.params.toList s.vars apart W args.toList ds gs before)
    (hres : ∀ (b : Nat) (sp : Nat → Bool) (hd : Bool), DataW.TrodAll enc P W' b sp hd f.resultTypes.toList (v.resultList f.resultTypes.size) (s.fn H (ds ++ gs)).results [])
    (hargs : ∀ sp : Nat → Bool, (∀ p ∈ before, sp p.block = true) → DataW.TrodAll enc P W' 0 sp true f.params.toList args.toList (s.fn H (ds ++ gs)).args pa)
    (hvars : ∀ sp : Nat → Bool, (∀ p ∈ before, sp p.block = true) → DataW.TrodVars enc P W' sp s.vars (s.fn H (ds ++ gs)).vars pv)
    (hps : before = pa ++ pv) (hk : Keeps (fun _ => False) W W')
    (hok : ∀ (j : Nat) (t : TypeId) (r : Value), f.resultTypes[j]? = some t → (v.resultList f.resultTypes.size)[j]? = some r → Value.okWide P W' .any 0 t r) :
    s.post enc P f apart fresh handsOn again W args v W' := by
  have hlt := hW.lt
  have hold : ∀ p ∈ before, (fun b => decide (b < W.heap.size)) p.block = true := fun p hp => by simpa using hlt p hp
  have hb : ∀ p, p ∈ [] ++ pa ++ pv ↔ p ∈ before := fun p => by rw [hps, List.nil_append]
  refine ⟨ds, gs, before, [], pa, pv, hW, hres _ _ _, hargs _ hold, hvars _ hold, World.keptBut_mono (fun p hp => ⟨hp, ?_⟩) (hk.but _), fun _ => ?_⟩
  · exact Or.inr (List.mem_append.1 (hps ▸ hp))
  · obtain ⟨_, _, _, _, _, hz, hn⟩ := hW
    refine ⟨hok, _, _, [] ++ pa ++ pv, ⟨[] ++ pa, pv, trodAll_append (hargs _ (fun _ _ => rfl)) (hres _ _ _), hvars _ (fun _ _ => rfl), rfl, fun b off hp => ?_, fun ha => ?_⟩, fun p hp _ => (hb p).1 hp⟩
    · have hp' := (hb _).1 hp
      rw [hk.frozen _ (hlt _ hp')]
      exact hz b off hp'
    · have := hn ha
      rwa [hps, ← List.nil_append pa] at this
end AE

namespace AE
open Go Go.ChangeShapes Go.WideShapes Go.RowKit

theorem Keeps.below {w w' : World} (h : Keeps (fun _ => False) w w') : Below w.heap.size w w' :=
  ⟨h.os, h.tape, h.output, h.size, fun k hk => h.block k hk fun e => e⟩

/-- What a cell of a flat type holds. -/
inductive FK where
  | int (k : IntKind)
  | bool
def FK.ok : FK → Value → Prop
  | .int k, v => ∃ n, v = .int k n ∧ (Lit.int k n).wf = true
  | .bool, v => ∃ b, v = .bool b
def FKs : List FK → List Value → Prop
  | [], vs => vs = []
  | k :: ks, vs => ∃ v r, vs = v :: r ∧ k.ok v ∧ FKs ks r
theorem FKs.append : ∀ {a b : List FK} {x y : List Value}, FKs a x → FKs b y → FKs (a ++ b) (x ++ y)
  | [], _, _, _, h, k => by cases h; exact k
  | _ :: _, _, _, _, ⟨v, r, e, h1, h2⟩, k => ⟨v, _, by rw [e]; rfl, h1, h2.append k⟩
theorem FKs.length : ∀ {a : List FK} {x : List Value}, FKs a x → x.length = a.length
  | [], _, h => by cases h; rfl
  | _ :: _, _, ⟨v, r, e, _, h⟩ => by rw [e, List.length_cons, List.length_cons, h.length]

mutual
def flat (P : Program) : Nat → TypeId → Option (List FK)
  | 0, _ => none
  | n + 1, t => match P.underlying t with
    | some .bool => some [.bool]
    | some (.int k) => some [.int k]
    | some (.struct fs) => flatFs P n 0 fs.toList
    | _ => none
def flatFs (P : Program) : Nat → Nat → List Field → Option (List FK)
  | _, _, [] => some []
  | 0, _, _ :: _ => none
  | n + 1, o, f :: fs => match Nat.beq f.offset o, flat P n f.type with
    | true, some l => match Nat.beq (P.cellsOf f.type) l.length, flatFs P n (o + l.length) fs with
      | true, some r => some (l ++ r)
      | _, _ => none
    | _, _ => none
end

section
variable {H : Type} {enc : TypeId × Value → H} {P : Program} {w : World} {base : Nat} {spare : Nat → Bool} {held : Bool}
mutual
theorem flat_ok : ∀ (n : Nat) {t : TypeId} {ks : List FK} {fuel : Nat} {cs : List Value} {x : DataW H × List MemPlace}, flat P n t = some ks → P.cellsOf t = ks.length → DataW.trod enc P w base spare held fuel t cs = some x → FKs ks cs
  | 0, t, ks, fuel, cs, x, h, _, _ => by simp [flat] at h
  | n + 1, t, ks, fuel, cs, x, h, hc, hx => by
    unfold flat at h
    split at h
    · rename_i hu
      cases h
      cases fuel with
      | zero => simp [DataW.trod] at hx
      | succ m =>
        unfold DataW.trod at hx
        rw [hu] at hx
        split at hx <;> first | (simp_all; done) | skip
        rename_i b _ _
        exact ⟨_, _, rfl, ⟨_, rfl⟩, rfl⟩
    · rename_i k hu
      cases h
      cases fuel with
      | zero => simp [DataW.trod] at hx
      | succ m =>
        unfold DataW.trod at hx
        rw [hu] at hx
        split at hx <;> first | (simp_all; done) | skip
        split at hx
        · rename_i k1 _ _ he hh
          have he' : k = k1 := by simpa using he
          subst he'
          obtain ⟨rfl, hh⟩ := hh
          exact ⟨_, _, rfl, ⟨_, rfl, hh⟩, rfl⟩
        · cases hx
    · rename_i fs hu
      obtain ⟨xs, m, _, _, hl, hlen, hf⟩ := DataW.trod_struct hu hx
      have := flatFs_ok n (cs := cs) h (fun f hm => by
        obtain ⟨i, hi, rfl⟩ := List.getElem_of_mem hm
        have h1 : i < fs.size := by simpa using hi
        have h2 := hf i fs[i] (Array.getElem?_eq_getElem h1)
        rw [List.getElem?_eq_getElem (by omega)] at h2
        exact ⟨_, m, by rw [Array.getElem_toList]; exact h2⟩) (by rw [hl, hc]; omega)
      simpa using this
    · cases h
theorem flatFs_ok : ∀ (n : Nat) {o : Nat} {fs : List Field} {ks : List FK} {cs : List Value}, flatFs P n o fs = some ks →
    (∀ f ∈ fs, ∃ y m, DataW.trod enc P w base spare held m f.type ((cs.drop f.offset).take (P.cellsOf f.type)) = some y) → cs.length = o + ks.length → FKs ks (cs.drop o)
  | n, o, [], ks, cs, h, _, hl => by
    have : ks = [] := by cases n <;> simpa [flatFs] using h.symm
    subst this
    show cs.drop o = []
    exact List.drop_eq_nil_of_le (by simpa using Nat.le_of_eq hl)
  | 0, o, f :: fs, ks, cs, h, _, _ => by simp [flatFs] at h
  | n + 1, o, f :: fs, ks, cs, h, hf, hl => by
    unfold flatFs at h
    split at h
    case h_2 => cases h
    rename_i l ho hfl
    split at h
    case h_2 => cases h
    rename_i r hc hr
    cases h
    replace ho := Nat.eq_of_beq_eq_true ho
    replace hc := Nat.eq_of_beq_eq_true hc
    obtain ⟨y, m, hy⟩ := hf f (List.mem_cons_self ..)
    have h1 := flat_ok n hfl hc hy
    have h2 := flatFs_ok n (cs := cs) hr (fun g hg => hf g (List.mem_cons_of_mem _ hg)) (by rw [hl, List.length_append]; omega)
    rw [ho, hc] at h1
    have h3 := h1.append h2
    rw [← List.drop_drop, List.take_append_drop] at h3
    exact h3
end

theorem cells_get {a : Addr} {n : Nat} {cs : List Value} (h : w.cells? base a n = some cs) : cs.length = n ∧ ∀ j, j < n → w.cell? (a.add j) = cs[j]? := by
  unfold World.cells? at h
  split at h
  · exact ⟨by simpa using mapM_some_length h, fun j hj => mapM_some_get h j j (by simp [hj])⟩
  · cases h

theorem cell_spot {a : Addr} {v : Value} (h : w.cell? a = some v) : a.spot = none := by
  unfold World.cell? at h
  split at h
  · split at h
    · cases h
    · rename_i hs; simpa using hs
  · cases h

/-- A slice of flat elements, read as data, is a row of the executor's memory. -/
theorem row_of_trodQ {U : Uni} (c : U.C) (Q : U.ty c → Prop) {t e : TypeId} {ks : List FK} {n fuel : Nat} {v : Value} {x : DataW H × List MemPlace} (ht : P.underlying t = some (.slice e)) (hfl : flat P n e = some ks) (hce : P.cellsOf e = ks.length) (hsz : ks.length = U.sz c) (hpos : 0 < ks.length)
    (hdec : ∀ cs, FKs ks cs → ∃ x, U.enc c x = cs.map .v ∧ Q x) (h : DataW.trod enc P w base spare held fuel t [v] = some x) :
    ∃ (l : List (U.ty c)) (p : Place), l.length < 9223372036854775808 ∧ (∀ x ∈ l, Q x) ∧ (∀ π, BlkOk π w p (.ro c l)) ∧ ∀ (π : Plc) (id k : Nat), π id k = some p → Rep π (.sl id k 0 l.length) v := by
  rcases DataW.trod_slice ht h with ⟨h0, _⟩ | ⟨a, len, cap, elems, rest, m, _, hv, _, hb, hl, hm, hlen, hel, _, _⟩
  · cases h0
    refine ⟨[], ⟨0, 0, U.sz c, none, 0, 0⟩, by simp, fun x hx => by simp at hx, fun π => ⟨rfl, fun i x hi => by simp at hi⟩, fun π id k _ => ?_⟩
    simp only [Rep]
    exact ⟨none, 0, rfl, Nat.le_refl _, fun h => absurd h (Nat.lt_irrefl 0)⟩
  · cases hv
    have each : ∀ i, i < len → ∃ x : U.ty c, Q x ∧ ∀ j a1, (U.enc c x)[j]? = some a1 → ∃ y, w.cell? ((a.add (i * P.cellsOf e)).add j) = some y ∧ a1 = .v y := by
      intro i hi
      have h1 := hel i hi
      rw [List.getElem?_eq_getElem (by omega), Option.bind_eq_some_iff] at h1
      obtain ⟨cs, hcs, htr⟩ := h1
      obtain ⟨hcl, hcg⟩ := cells_get hcs
      obtain ⟨x, hx, hQ⟩ := hdec cs (flat_ok n hfl hce htr)
      refine ⟨x, hQ, fun j a1 hj => ?_⟩
      rw [hx, List.getElem?_map] at hj
      cases hc : cs[j]? with
      | none => rw [hc] at hj; cases hj
      | some y =>
        rw [hc] at hj
        have hjl := (List.getElem?_eq_some_iff.1 hc).1
        exact ⟨y, by rw [hcg j (by omega), hc], by simpa using hj.symm⟩
    have spot : 0 < len → a.spot = none := by
      intro h0
      obtain ⟨x, _, hx⟩ := each 0 h0
      have hl2 := U.len c x
      obtain ⟨y, hy, _⟩ := hx 0 ((U.enc c x)[0]'(by omega)) (List.getElem?_eq_getElem _)
      have h9 : (a.add (0 * P.cellsOf e)).add 0 = a := by simp [Addr.add]
      rw [h9] at hy
      exact cell_spot hy
    have : ∃ l : List (U.ty c), l.length = len ∧ ∀ i x, l[i]? = some x → Q x ∧ ∀ j a1, (U.enc c x)[j]? = some a1 → ∃ y, w.cell? ((a.add (i * P.cellsOf e)).add j) = some y ∧ a1 = .v y := by
      refine ⟨(List.range len).pmap (fun i hi => (each i hi).choose) (fun i hi => List.mem_range.1 hi), by simp, fun i x hi => ?_⟩
      rw [List.getElem?_pmap] at hi
      by_cases h0 : i < len
      · rw [Option.pmap_eq_some_iff] at hi
        obtain ⟨i', h1, h2, rfl⟩ := hi
        have : i' = i := by rw [List.getElem?_range h0] at h2; exact (Option.some.inj h2).symm
        subst this
        exact (each i' h1).choose_spec
      · simp [List.getElem?_eq_none (show (List.range len).length ≤ i by simp; omega)] at hi
    obtain ⟨l, hll, hl2⟩ := this
    have hQl : ∀ x ∈ l, Q x := fun x hx => by
      obtain ⟨i, hi⟩ := List.getElem?_of_mem hx
      exact (hl2 i x hi).1
    have hml : maxLen = 9223372036854775807 := by decide
    refine ⟨l, ⟨a.block, a.off, U.sz c, none, 0, 0⟩, by omega, hQl, fun π => ⟨rfl, fun i x hi j a1 hj => ?_⟩, fun π id k hp => ?_⟩
    · obtain ⟨y, hy, rfl⟩ := (hl2 i x hi).2 j a1 hj
      have hi' := (List.getElem?_eq_some_iff.1 hi).1
      have hs := spot (by omega)
      refine ⟨y, ?_, by simp [Rep]⟩
      rw [← hy]
      congr 1
      cases a
      simp only at hs
      subst hs
      simp only [Addr.add, hce, hsz]
      split <;> split <;> simp_all
    · simp only [Rep]
      refine ⟨some a, cap, by rw [hll], by omega, fun h0 => ⟨_, hp, ?_⟩⟩
      have hs := spot (by omega)
      cases a
      simp only at hs
      subst hs
      simp
/-- A slice of flat elements, read as data, is a row of the executor's memory. -/
theorem row_of_trod {U : Uni} (c : U.C) {t e : TypeId} {ks : List FK} {n fuel : Nat} {v : Value} {x : DataW H × List MemPlace} (ht : P.underlying t = some (.slice e)) (hfl : flat P n e = some ks) (hce : P.cellsOf e = ks.length) (hsz : ks.length = U.sz c) (hpos : 0 < ks.length)
    (hdec : ∀ cs, FKs ks cs → ∃ x, U.enc c x = cs.map .v) (h : DataW.trod enc P w base spare held fuel t [v] = some x) :
    ∃ (l : List (U.ty c)) (p : Place), l.length < 9223372036854775808 ∧ (∀ π, BlkOk π w p (.ro c l)) ∧ ∀ (π : Plc) (id k : Nat), π id k = some p → Rep π (.sl id k 0 l.length) v := by
  obtain ⟨l, p, a, _, b, d⟩ := row_of_trodQ c (fun _ => True) ht hfl hce hsz hpos (fun cs hc => by
    obtain ⟨x, hx⟩ := hdec cs hc
    exact ⟨x, hx, trivial⟩) h
  exact ⟨l, p, a, b, d⟩
end

/-- Rows that are only read, as memory. -/
def rosPlc (ps : List Place) : Plc := fun id k => if k = 0 then ps[id]? else none
theorem rosPlc_fresh (ps : List Place) : Fresh (rosPlc ps) ps.length := by
  intro id k h
  unfold rosPlc
  split
  · rw [List.getElem?_eq_none h]
  · rfl
def roH {U : Uni} (bs : List ((c : U.C) × List (U.ty c))) : Heap U := bs.map fun b => .one (.ro b.1 b.2)
theorem roH_at {U : Uni} {bs : List ((c : U.C) × List (U.ty c))} {id k : Nat} {b : AB1 U} (h : (roH bs).at id k = some b) : k = 0 ∧ ∃ c, bs[id]? = some c ∧ b = .ro c.1 c.2 := by
  unfold Heap.at roH at h
  rw [List.getElem?_map] at h
  cases hb : bs[id]? with
  | none => rw [hb] at h; cases h
  | some c =>
    rw [hb] at h
    simp only [Option.map_some] at h
    split at h
    · rename_i e; exact ⟨e, c, rfl, by simpa using h.symm⟩
    · cases h
theorem roH_conc {U : Uni} {w : World} {bs : List ((c : U.C) × List (U.ty c))} {ps : List Place} (hl : ps.length = bs.length) (h : ∀ (i : Nat) (b : (c : U.C) × List (U.ty c)) (p : Place), bs[i]? = some b → ps[i]? = some p → ∀ π, BlkOk (U := U) π w p (.ro b.1 b.2)) : Conc (rosPlc ps) (roH bs) w where
  ok := fun id k b hb => by
    obtain ⟨rfl, c, hc, rfl⟩ := roH_at hb
    have h1 := (List.getElem?_eq_some_iff.1 hc).1
    refine ⟨ps[id], ?_, h id c _ hc (List.getElem?_eq_getElem (by omega)) _⟩
    unfold rosPlc
    rw [if_pos rfl, List.getElem?_eq_getElem (by omega)]
  sep := fun id k b id' k' b' p p' hb _ _ ho => by
    obtain ⟨rfl, c, hc, rfl⟩ := roH_at hb
    cases ho
theorem roH_length {U : Uni} (bs : List ((c : U.C) × List (U.ty c))) : (roH bs).length = bs.length := by simp [roH]
/-- A call that owns nothing of its memory keeps all that was there. -/
theorem keeps_of_ro {U : Uni} {bs : List ((c : U.C) × List (U.ty c))} {w w' : World} {O : Nat → Prop} (h : Keeps O w w') (hO : ∀ n, ¬ O n) : Keeps (fun _ => False) w w' := h.weaken fun n _ hn => hO n hn

/-- Arguments read in a world that keeps all that was there as they read before. -/
theorem trodAll_stays {H : Type} {enc : TypeId × Value → H} {P : Program} (hl : laidOutB P = true) {W W' : World} {sp' : Nat → Bool} : ∀ {ts : List TypeId} {vs : List Value} {ds : List (DataW H)} {ps : List MemPlace},
    (ts.all fun t => P.readableRec t && decide (t < P.types.size)) = true → DataW.TrodAll enc P W 0 (fun _ => true) true ts vs ds ps → (∀ p ∈ ps, W.sameAt W' p) → (∀ p ∈ ps, sp' p.block = true) → DataW.TrodAll enc P W' 0 sp' true ts vs ds ps
  | [], [], [], _, _, h, _, _ => h
  | _ :: _, _ :: _, _ :: _, _, ht, ⟨p, q, h1, h2, e⟩, hs, hp => by
    simp only [List.all_cons, Bool.and_eq_true, decide_eq_true_eq] at ht
    exact ⟨p, q, WideElems.Trod_stays hl ht.1.1 ht.1.2 h1 (fun x hx => hs x (by rw [e]; exact List.mem_append_left _ hx)) (fun x hx => hp x (by rw [e]; exact List.mem_append_left _ hx)),
      trodAll_stays hl ht.2 h2 (fun x hx => hs x (by rw [e]; exact List.mem_append_right _ hx)) (fun x hx => hp x (by rw [e]; exact List.mem_append_right _ hx)), e⟩

/-- A law without named variables, by its walk: 'it returns true; the arguments read as they did'. -/
theorem law_lifted {C : Checked} {f : FuncId} {fn : Func} {s : ChangeSpec} {conds : List PathCond} (own : ownKnob C.prog.godebug = none) {os : Os} (started : os.Started) {H : Type} {enc : TypeId × Value → H} (noInit : C.prog.inits.idxOf? f = none) (hfn : C.prog.funcs[f]? = some fn)
    (witness : ∃ (w : World) (tape : Tape) (i : Input), w.os = os ∧ (w.forCall tape i).Shaped C.prog ∧ i.vars = [] ∧ Input.okWide C.prog (w.forCall tape i) .any w.heap.size f i ∧ s.pre6 enc C.prog fn conds false (w.forCall tape i).memory i.args ∧ ({} : Assume).holds C.prog (lone (Frame.enter C.prog f i.args .normal) [] (w.forCall tape i)))
    (hl : laidOutB C.prog = true) (hts : (fn.params.toList.all fun t => C.prog.readableRec t && decide (t < C.prog.types.size)) = true) {rt : TypeId} (hrt : fn.resultTypes = #[rt]) (hb : C.prog.underlying rt = some .bool)
    (hvars : s.vars = []) (hspec : ∀ ds : List (DataW H), ds.length = fn.params.size → (s.fn H ds).results = [.lit (.bool true)] ∧ (s.fn H ds).args = ds ∧ (s.fn H ds).vars = [])
    (walk : ∀ (W : World) (args : Array Value) (ds : List (DataW H)) (ps : List MemPlace), DataW.TrodAll enc C.prog W 0 (fun _ => true) true fn.params.toList args.toList ds ps → (∀ (j : Nat) t v, fn.params[j]? = some t → args[j]? = some v → ∃ base, Value.okWide C.prog W .any base t v) →
      Calls C.prog f args W fun e w' => e = .returned (.bool true) ∧ Keeps (fun _ => False) W w') :
    ReturnsInHanded {} C os f .any (s.pre6 enc C.prog fn conds false) (s.post enc C.prog fn false true false false) := by
  refine returnsInHanded_of_change (C := C) own started noInit hfn witness ?_
  intro W base args ds gs before hval hW hcnd _
  have hW' := hW
  obtain ⟨p, q, hA, hV, rfl, hfz, hnd⟩ := hW
  rw [hvars] at hV
  obtain ⟨rfl, rfl⟩ := trodVars_none hV
  simp only [List.append_nil] at hW'
  have hlen : ds.length = fn.params.size := by
    have : ∀ {ts : List TypeId} {vs : List Value} {ds : List (DataW H)} {ps : List MemPlace}, DataW.TrodAll enc C.prog W 0 (fun _ => true) true ts vs ds ps → ds.length = ts.length := by
      intro ts
      induction ts with
      | nil => intro vs ds ps h; obtain ⟨_, rfl, _⟩ := trodAll_nil h; rfl
      | cons t ts ih =>
        intro vs ds ps h
        obtain ⟨_, _, _, ds', _, _, _, rfl, _, _, h2⟩ := trodAll_cons h
        simp [ih h2]
    rw [this hA]; simp
  obtain ⟨s1, s2, s3⟩ := hspec (ds ++ []) (by simpa using hlen)
  refine (walk W args ds p hA fun j t v h1 h2 => ⟨base, hval j t v h1 h2⟩).mono fun e W' ⟨he, hg⟩ => ?_
  subst he
  refine ⟨_, rfl, post_of_keeps (pa := p) (pv := []) hW' (fun b sp hd => ?_) (fun sp hsp => ?_) (fun sp _ => ?_) (by simp) hg ?_⟩
  · rw [s1, hrt]
    exact trodAll_cons_mk (shut_bool hb _) trodAll_mk0
  · rw [s2, List.append_nil]
    have hlt := hW'.lt
    exact trodAll_stays hl hts hA (fun x hx => hg.below.same (by simpa using hlt x hx)) fun x hx => hsp x hx
  · rw [s3, hvars]; rfl
  · exact ok_one hrt rfl (okWide_bool_mk hb _)

theorem agg_of_cells {v : Value} {l : List Value} (h : v.cells.toList = l) (hl : l.length ≠ 1) : v = .agg l.toArray := by
  cases v with
  | agg cs => simp only [Value.cells] at h; rw [← h]
  | _ => simp only [Value.cells] at h; rw [← h] at hl; exact absurd rfl hl
theorem cells_of_one2 {v : Value} {x : Value} (hx : ∀ cs, v ≠ .agg cs) (h : v.cells.toList = [x]) : v = x := by
  cases v with
  | agg cs => exact absurd rfl (hx cs)
  | _ => simpa [Value.cells] using h
/-- A flat value read as data: its cells. -/
theorem flat_cells {H : Type} {enc : TypeId × Value → H} {P : Program} {w : World} {base : Nat} {spare : Nat → Bool} {held : Bool} {t : TypeId} {v : Value} {d : DataW H} {ps : List MemPlace} {ks : List FK} (n : Nat) (hfl : flat P n t = some ks) (hce : P.cellsOf t = ks.length) (h : DataW.Trod enc P w base spare held t v d ps) : FKs ks v.cells.toList := by
  obtain ⟨fuel, h⟩ := h
  exact flat_ok n hfl hce h
theorem flat_agg {H : Type} {enc : TypeId × Value → H} {P : Program} {w : World} {base : Nat} {spare : Nat → Bool} {held : Bool} {t : TypeId} {v : Value} {d : DataW H} {ps : List MemPlace} {ks : List FK} (n : Nat) (hfl : flat P n t = some ks) (hce : P.cellsOf t = ks.length) (hne : ks.length ≠ 1) (h : DataW.Trod enc P w base spare held t v d ps) : ∃ l, FKs ks l ∧ v = .agg l.toArray := by
  have h1 := flat_cells n hfl hce h
  exact ⟨_, h1, agg_of_cells rfl (by rw [h1.length]; exact hne)⟩
theorem RepL.ofV {π : Plc} : ∀ (l : List Value), RepL π (l.map .v) l
  | [] => RepL.nil π
  | x :: l => RepL.cons (by simp [Rep]) (RepL.ofV l)
end AE

namespace AE.Soil
open Go AE Go.Proofs Go.ChangeShapes Go.WideShapes Go.RowKit

theorem laidOut : laidOutB Try.prog = true := by kernel_rfl
theorem flatP : flat Try.prog 30 54 = some [.int .i64, .int .i64, .int .i64, .int .i64, .int .i64, .int .i64, .int .i64, .int .i64, .int .i64] := by kernel_rfl
theorem decP (cs : List Value) (h : FKs [.int .i64, .int .i64, .int .i64, .int .i64, .int .i64, .int .i64, .int .i64, .int .i64, .int .i64] cs) : ∃ x : PitT, CC.enc .pit x = cs.map .v := by
  obtain ⟨_, _, rfl, ⟨a, rfl, _⟩, _, _, rfl, ⟨b, rfl, _⟩, _, _, rfl, ⟨c, rfl, _⟩, _, _, rfl, ⟨d, rfl, _⟩, _, _, rfl, ⟨e, rfl, _⟩, _, _, rfl, ⟨f, rfl, _⟩, _, _, rfl, ⟨g, rfl, _⟩, _, _, rfl, ⟨i, rfl, _⟩, _, _, rfl, ⟨j, rfl, _⟩, h⟩ := h
  cases h
  exact ⟨(a, (b, c), (d, e), (f, g), (i, j)), rfl⟩
theorem in_u8 {n : Int} (h : (Lit.int .u8 n).wf = true) : 0 ≤ n ∧ n ≤ 255 := by
  simp only [Lit.wf, Bool.and_eq_true, decide_eq_true_eq] at h
  have h1 : IntKind.u8.min = 0 := by decide
  have h2 : IntKind.u8.max = 255 := by decide
  omega
theorem in_i16 {n : Int} (h : (Lit.int .i16 n).wf = true) : -32768 ≤ n ∧ n ≤ 32767 := by
  simp only [Lit.wf, Bool.and_eq_true, decide_eq_true_eq] at h
  have h1 : IntKind.i16.min = -32768 := by decide
  have h2 : IntKind.i16.max = 32767 := by decide
  omega
theorem in_i64 {n : Int} (h : (Lit.int .i64 n).wf = true) : -9223372036854775808 ≤ n ∧ n ≤ 9223372036854775807 := by
  simp only [Lit.wf, Bool.and_eq_true, decide_eq_true_eq] at h
  have h1 : IntKind.i64.min = -9223372036854775808 := by decide
  have h2 : IntKind.i64.max = 9223372036854775807 := by decide
  omega
def bigG (g : GroundT) : Prop := g.pits.length < 9223372036854775808

section
variable {H : Type} {enc : TypeId × Value → H} {w : World} {d : DataW H} {ps : List MemPlace} {v : Value}
set_option maxRecDepth 100000 in
theorem open_ground (h : DataW.Trod enc Try.prog w 0 (fun _ => true) true 24 v d ps) :
    ∃ (x : GroundT) (p : Place), bigG x ∧ (∀ π, BlkOk π w p (.ro (U := UU) .pit x.pits)) ∧ ((-9223372036854775808 ≤ x.long ∧ x.long ≤ 9223372036854775807) ∧ (-9223372036854775808 ≤ x.rise ∧ x.rise ≤ 9223372036854775807) ∧ (-9223372036854775808 ≤ x.change ∧ x.change ≤ 9223372036854775807)) ∧ ∀ π : Plc, π 0 0 = some p → Rep π (vGround x 0) v := by
  obtain ⟨fuel, h⟩ := h
  obtain ⟨xs, m, _, _, hl, hlen, hf⟩ := DataW.trod_struct Try.underlying24 h
  have hc : Try.prog.cellsOf 24 = 4 := by kernel_rfl
  have c3 : Try.prog.cellsOf 3 = 1 := by kernel_rfl
  have c22 : Try.prog.cellsOf 22 = 1 := by kernel_rfl
  have fl3 : flat Try.prog 30 3 = some [.int .i64] := by kernel_rfl
  rw [hc] at hl
  have hv := agg_of_cells (v := v) rfl (by omega)
  obtain ⟨l, hl2⟩ : ∃ l, v.cells.toList = l := ⟨_, rfl⟩
  rw [hl2] at hl hv hf
  subst hv
  have hx : ∀ i, i < 4 → ∃ y, xs[i]? = some y := fun i hi => ⟨_, List.getElem?_eq_getElem (by have : xs.length = 4 := hlen; omega)⟩
  match l, hl with
  | [a, b, c, e], _ =>
  obtain ⟨y0, e0⟩ := hx 0 (by omega)
  obtain ⟨y1, e1⟩ := hx 1 (by omega)
  obtain ⟨y2, e2⟩ := hx 2 (by omega)
  obtain ⟨y3, e3⟩ := hx 3 (by omega)
  have f0 : DataW.trod enc Try.prog w 0 (fun _ => true) true m 3 (([a, b, c, e].drop 0).take (Try.prog.cellsOf 3)) = xs[0]? := hf 0 _ rfl
  have f1 : DataW.trod enc Try.prog w 0 (fun _ => true) true m 3 (([a, b, c, e].drop 1).take (Try.prog.cellsOf 3)) = xs[1]? := hf 1 _ rfl
  have f2 : DataW.trod enc Try.prog w 0 (fun _ => true) true m 3 (([a, b, c, e].drop 2).take (Try.prog.cellsOf 3)) = xs[2]? := hf 2 _ rfl
  have f3 : DataW.trod enc Try.prog w 0 (fun _ => true) true m 22 (([a, b, c, e].drop 3).take (Try.prog.cellsOf 22)) = xs[3]? := hf 3 _ rfl
  rw [e0, c3] at f0
  rw [e1, c3] at f1
  rw [e2, c3] at f2
  rw [e3, c22] at f3
  obtain ⟨_, _, h0, ⟨n0, rfl, w0⟩, r0⟩ := flat_ok 30 fl3 c3 f0
  obtain ⟨_, _, h1, ⟨n1, rfl, w1⟩, r1⟩ := flat_ok 30 fl3 c3 f1
  obtain ⟨_, _, h2, ⟨n2, rfl, w2⟩, r2⟩ := flat_ok 30 fl3 c3 f2
  have h0' : a = .int .i64 n0 := (List.cons.inj h0).1
  have h1' : b = .int .i64 n1 := (List.cons.inj h1).1
  have h2' : c = .int .i64 n2 := (List.cons.inj h2).1
  obtain ⟨cs, p, hcs, hp, hpr⟩ := row_of_trod (U := UU) CC.pit Try.underlying22 flatP (by kernel_rfl) rfl (by decide) decP f3
  refine ⟨⟨n0, n1, n2, cs⟩, p, hcs, hp, ⟨in_i64 w0, in_i64 w1, in_i64 w2⟩, fun π h3 => ?_⟩
  subst h0' h1' h2'
  simp only [vGround, Rep]
  exact ⟨_, rfl, RepL.cons (by simp [Rep]) (RepL.cons (by simp [Rep]) (RepL.cons (by simp [Rep]) (RepL.cons (hpr π 0 0 h3) (RepL.nil π))))⟩
end
/-- A law that takes a ground and more: its walk. -/
theorem walk_of {f : FuncId} {W : World} {args : Array Value} {x : GroundT} {p : Place} {al : List AV} (h : FunOk Try.prog f al [.one (.ro (U := UU) .pit x.pits)] (.val ⟨.b true, [], [], []⟩)) (hp : ∀ π, BlkOk π W p (.ro (U := UU) .pit x.pits))
    (hr : RepL (rosPlc [p]) al args.toList) : Calls Try.prog f args W fun e w' => e = .returned (.bool true) ∧ Keeps (fun _ => False) W w' := by
  have hc : Conc (rosPlc [p]) [.one (.ro (U := UU) .pit x.pits)] W := roH_conc (U := UU) (bs := [⟨CC.pit, x.pits⟩]) rfl fun i b p' hb hp' π => by
    match i with
    | 0 => cases hb; cases hp'; exact hp π
    | i + 1 => cases hb
  have hF := h (rosPlc [p]) W args.toList (rosPlc_fresh [p]) hc hr
  refine hF.mono fun e w' hh => ?_
  obtain ⟨v, πn, rfl, hpo⟩ := hh
  have hb := rep_v hpo.rep
  subst hb
  refine ⟨rfl, hpo.keeps.weaken fun n _ hn => ?_⟩
  obtain ⟨id, k, p, b0, hu, _⟩ := hn
  rcases hu with ⟨b, hb⟩ | hb <;> cases hb
end AE.Soil
