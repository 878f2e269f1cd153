/- An own symbolic executor for the model's code, and what the functions beneath the law compute, joined out of: SoEA, SoEB, SoTC, SoTD, PrR, AeR, SsR. No condition. -/
import Derived.Test.YtcaohobogibemaaM4
import Derived.Test.YtcaohobogibemaaRows
import Derived.ProofKit
import Derived.OpenShut
import Derived.Below
import Derived.Carry
import Derived.ChangeArms

set_option linter.unusedSimpArgs false
set_option linter.unusedVariables false
namespace AE.Soil
open Go AE Go.Proofs

def avSpan2 : AV → Option Span
  | .agg [a, b] => match avInt a, avInt b with
    | some a, some b => some (a, b)
    | _, _ => none
  | _ => none
def with1S : FSpec UU where
  X := Span × Span
  pick := fun args _ => match args with
    | [a, b] => match avSpan2 a, avSpan2 b with
      | some a, some b => some (a, b)
      | _, _ => none
    | _ => none
  args := fun x => [vSpan x.1, vSpan x.2]
  H := fun _ => []
  R := fun x => .val ⟨vSpan (bothM x.1 x.2), [], [], []⟩
def Tspan1 : Tab UU := [(23, lspanS.con)]
theorem Tspan1_ok : Tspan1.Sound Try.prog := .cons lspan_sound .nil
set_option maxRecDepth 100000 in
theorem with1_ok : ∀ x, with1S.pre x → FunOk Try.prog 69 (with1S.args x) (with1S.H x) (with1S.R x) := by
  rintro ⟨⟨a, b⟩, ⟨c, d⟩⟩ _
  refine fun_of (T := Tspan1) (L := fun _ => none) (hs := fun _ => []) hmix Tspan1_ok Try.func69 (by kernel_rfl) (by kernel_rfl) ?_
  refine Eq.mp (α :=
      let Z2 := Value.int IntKind.i64 (min b d); let Z3 := Value.int IntKind.i64 (max a c); let Z4 := bothM (a, b) (c, d); True ∧ (Z3 = Z3 ∧ Z2 = Z2 ∧ True) ∧ True ∧ True ∧ ((Z3 = Value.int IntKind.i64 (Prod.fst Z4) ∧ Z2 = Value.int IntKind.i64 (Prod.snd Z4) ∧ True) ∧ True) ∧ True ∧ True)
    (by kernel_rfl) ?_
  simp only [eq_self, true_and, and_true, Int.toNat_natCast, Nat.zero_add, Nat.sub_zero, Value.int.injEq, Value.bool.injEq, decide_eq_true_eq, decide_eq_false_iff_not]
  simp [bothM]

theorem with1_sound : Sound Try.prog 69 with1S.con := FSpec.sound _ (enter_of Try.func69 (by kernel_rfl) (by kernel_rfl)) with1_ok
/-! ### with -/
def mergeM (o p : PitT) : PitT := (o.1, bothM o.2.1 p.2.1, bothM o.2.2.1 p.2.2.1, bothM o.2.2.2.1 p.2.2.2.1, bothM o.2.2.2.2 p.2.2.2.2)
def wstepM (p o : PitT) (r : List PitT × Bool) : List PitT × Bool :=
  if !r.2 && decide (o.1 > p.1) then (if o.1 = p.1 then ((r.1 ++ [p]) ++ [mergeM o p], true) else ((r.1 ++ [p]) ++ [o], true)) else (if o.1 = p.1 then (r.1 ++ [mergeM o p], true) else (r.1 ++ [o], r.2))
def wAtM (l : List PitT) (p : PitT) : Nat → List PitT × Bool
  | 0 => ([], false)
  | i + 1 => wstepM p (l.getD i pit0) (wAtM l p i)
def withM (l : List PitT) (p : PitT) : List PitT := if (wAtM l p l.length).2 then (wAtM l p l.length).1 else (wAtM l p l.length).1 ++ [p]
theorem w_ny {l : List PitT} {p : PitT} {i : Nat} (h : (wAtM l p i).2 = false) (h1 : (l.getD i pit0).1 > p.1) (h2 : ¬ (l.getD i pit0).1 = p.1) : wAtM l p (i + 1) = (((wAtM l p i).1 ++ [p]) ++ [l.getD i pit0], true) := by
  show wstepM _ _ _ = _
  unfold wstepM
  rw [h, decide_eq_true h1, if_pos (by decide), if_neg h2]
theorem w_m {l : List PitT} {p : PitT} {i : Nat} (h : (!(wAtM l p i).2 && decide ((l.getD i pit0).1 > p.1)) = false) (h2 : (l.getD i pit0).1 = p.1) : wAtM l p (i + 1) = ((wAtM l p i).1 ++ [mergeM (l.getD i pit0) p], true) := by
  show wstepM _ _ _ = _
  unfold wstepM
  rw [h, if_neg (by decide), if_pos h2]
theorem w_n {l : List PitT} {p : PitT} {i : Nat} (h : (!(wAtM l p i).2 && decide ((l.getD i pit0).1 > p.1)) = false) (h2 : ¬ (l.getD i pit0).1 = p.1) : wAtM l p (i + 1) = ((wAtM l p i).1 ++ [l.getD i pit0], (wAtM l p i).2) := by
  show wstepM _ _ _ = _
  unfold wstepM
  rw [h, if_neg (by decide), if_neg h2]
theorem w_len (l : List PitT) (p : PitT) : ∀ i, (wAtM l p i).1.length ≤ 2 * i
  | 0 => Nat.le_refl 0
  | i + 1 => by
    have := w_len l p i
    show (wstepM _ _ _).1.length ≤ _
    unfold wstepM
    split <;> split <;> simp <;> omega
def wL (g : GroundT) (p : PitT) : LSpec UU where
  T := { i : Nat // i ≤ g.pits.length }
  fr := fun i => [(2, .ptr 1 0 0 0), (3, .ptr 2 0 0 0), (4, .ptr 3 0 0 0), (6, .fn (.func 69) [] []), (7, .ptr 4 0 0 0), (8, .b (wAtM g.pits p i.1).2), (14, .sl 0 0 0 g.pits.length), (15, .i g.pits.length), (16, .i i.1)]
  H := fun i => [.one (.ro .pit g.pits), .one (.cells (cGround g 0) 24), .one (.cells (CC.enc .pit p) 54), .one (.cells [.i 0, .i 0, .i 0, .v (.slice none 0 0)] 24), .one (.cells [.i g.long, .i g.rise, .i g.change, .gs 5 0] 24), .one (.row .pit (wAtM g.pits p i.1).1 54)]
  mu := fun i => g.pits.length - i.1
def Twith : Tab UU := [(69, with1S.con), (24, isGroundS.con)]
theorem Twith_ok : Twith.Sound Try.prog := .cons with1_sound (.cons rGround_sound .nil)
def withGM (g : GroundT) (p : PitT) : GroundT := ⟨g.long, g.rise, g.change, withM g.pits p⟩
def withS : FSpec UU where
  X := GroundT × PitT
  pick := fun args H => match args with
    | [a, b] => match avGround H a, avPit b with
      | some a, some b => some (a, b)
      | _, _ => none
    | _ => none
  args := fun x => [vGround x.1 0, vPit x.2]
  H := fun x => [.one (.ro .pit x.1.pits)]
  R := fun x => .val ⟨.tup [.agg [.i x.1.long, .i x.1.rise, .i x.1.change, .gs 1 0], .b (groundM (withGM x.1 x.2))], [], [], [.row .pit (withM x.1.pits x.2) 54]⟩
  pre := fun x => x.1.pits.length < 1000
set_option maxHeartbeats 0 in
set_option maxRecDepth 100000 in
theorem with_ok : ∀ x, withS.pre x → FunOk Try.prog 55 (withS.args x) (withS.H x) (withS.R x) := by
  rintro ⟨⟨long, rise, change, ps⟩, p⟩ hx
  obtain ⟨pa, ⟨ph, ph2⟩, ⟨ps1, ps2⟩, ⟨pi1, pi2⟩, pc1, pc2⟩ := p
  refine fun_of (T := Twith) (L := fun _ => some (.inv (wL ⟨long, rise, change, ps⟩ (pa, (ph, ph2), (ps1, ps2), (pi1, pi2), pc1, pc2)))) (hs := fun _ => []) hmix Twith_ok Try.func55 (by kernel_rfl) (by kernel_rfl) ?_
  refine Eq.mp (α :=
      let Z0 := True ∧ True; let Z1 : Option Addr := none; let Z2 := Value.bool true; let Z3 := (ps1, ps2); let Z4 := (ph, ph2); let Z5 := (pi1, pi2); let Z6 := (pc1, pc2); let Z7 := nat_lit 0 = nat_lit 0 ∧ True; let Z8 := GroundT.mk long rise change ps; let Z9 := nat_lit 1 ≤ nat_lit 1; let Z10 := Value.int IntKind.i64 change; let Z11 := Value.int IntKind.i64 ps2; let Z12 := Value.int IntKind.i64 pc2; let Z13 := Value.int IntKind.i64 ph; let Z14 := Value.int IntKind.i64 ph2; let Z15 := Value.int IntKind.i64 pi2; let Z16 := List.length ps; let Z17 := Value.int IntKind.i64 long; let Z18 := Value.int IntKind.i64 rise; let Z19 := Value.int IntKind.i64 pa; let Z20 := Value.int IntKind.i64 pi1; let Z21 := Value.int IntKind.i64 ps1; let Z22 := Value.int IntKind.i64 pc1; let Z23 := True ∧ Z0; let Z24 := nat_lit 0 = nat_lit 0 ∧ nat_lit 0 = nat_lit 0; let Z25 := AV.v Z19; let Z26 := (0 : Int); let Z27 := AV.v Z15; let Z28 := AV.v Z22; let Z29 := AV.v Z13; let Z30 := AV.v Z14; let Z31 := AV.v Z21; let Z32 := AV.v Z11; let Z33 := AV.v Z12; let Z34 := AV.v Z20; let Z35 := (1 : Int); let Z36 : List (Int × Span × Span × Span × Span) := []; let Z37 := Value.slice Z1 (nat_lit 0) (nat_lit 0); let Z38 := (0 : Nat); let Z39 := (1 : Nat); let Z40 := (7 : Nat); let Z41 := True ∧ Z23; let Z42 : List PitT := GroundT.pits Z8; let Z43 := ps = ps; let Z44 := (54 : TypeId); let Z45 := (69 : FuncId); let Z46 := True ∧ Z41; let Z47 := nat_lit 0 = nat_lit 0 ∧ Z24; let Z48 := Fn.func Z45; let Z49 := (↑Z16 : Int); let Z50 := nat_lit 54 = Z44; let Z51 := Value.int IntKind.i64 Z26; let Z52 := True ∧ Z46; let Z53 := Z16 = Z16; let Z54 := List.length Z42; let Z55 := Z20 = Z20; let Z56 := Z11 = Z11; let Z57 := Z19 = Z19; let Z58 := Z13 = Z13; let Z59 := Z14 = Z14; let Z60 := Z17 = Z17; let Z61 := Z21 = Z21; let Z62 := Z22 = Z22; let Z63 := Z18 = Z18; let Z64 := Z15 = Z15; let Z65 := Z10 = Z10; let Z66 := Z12 = Z12; let Z67 := Z27 = Z27; let Z68 := Z34 = Z34; let Z69 := Z29 = Z29; let Z70 := Z56 ∧ True; let Z71 := Z64 ∧ True; let Z72 := Z28 = Z28; let Z73 := Z33 = Z33; let Z74 := Z30 = Z30; let Z75 := Z59 ∧ True; let Z76 := Z32 = Z32; let Z77 := Z31 = Z31; let Z78 := Z25 = Z25; let Z79 := Z66 ∧ True; let Z80 := (Z5, Z6); let Z81 := Value.int IntKind.i64 Z49; let Z82 := nat_lit 0 = nat_lit 0 ∧ Z53; let Z83 := Z37 = Z37; let Z84 := (Z26, Z26); let Z85 := Z73 ∧ True; let Z86 := fun (i : Nat) => i ≤ Z54; let Z87 := Z65 ∧ Z7; let Z88 := Z83 ∧ True; let Z89 := nat_lit 0 = nat_lit 0 ∧ Z82; let Z90 := Z48 = Z48; let Z91 := Z89 ∧ True; let Z92 : Type := { i : Nat // Z86 i }; let Z93 := fun (x : Z92) => Subtype.val x; let Z94 := Z51 = Z51; let Z95 := Z90 ∧ Z0; let Z96 := Z58 ∧ Z75; let Z97 := Z62 ∧ Z79; let Z98 := Z55 ∧ Z71; let Z99 := Z61 ∧ Z70; let Z100 := (Z3, Z80); let Z101 := fun (x : Z92) => (↑(Z93 x) : Int); let Z102 := Z98 ∧ True; let Z103 := Z97 ∧ True; let Z104 := Z96 ∧ True; let Z105 := Z99 ∧ True; let Z106 := fun (t : Z92) => Int.toNat (Z101 t); let Z107 := Z63 ∧ Z87; let Z108 := Z72 ∧ Z85; let Z109 := Z81 = Z81; let Z110 := fun (x : Z92) => Value.int IntKind.i64 (Z101 x); let Z111 := Z65 ∧ Z91; let Z112 := fun (x : Z92) => Z16 - Z93 x; let Z113 := (Z84, Z84); let Z114 := fun (t : Z92) => nat_lit 0 + Z106 t; let Z115 := Z64 ∧ Z97; let Z116 := Z94 ∧ Z88; let Z117 := fun (t : Z92) => Z101 t < Z49; let Z118 := fun (t : Z92) => Z101 t + Z35; let Z119 := (Z4, Z100); let Z120 := Z60 ∧ Z107; let Z121 := fun (t : Z92) => Z38 + Z106 t; let Z122 := Z67 ∧ Z108; let Z123 := Z63 ∧ Z111; let Z124 := fun (t : Z92) => IntKind.wrap IntKind.i64 (Z118 t); let Z125 := fun (t : Z92) => Value.int IntKind.i64 (Z124 t); let Z126 := Z55 ∧ Z115; let Z127 := (pa, Z119); let Z128 := Z60 ∧ Z123; let Z129 : List PitT := withM ps Z127; let Z130 := Z68 ∧ Z122; let Z131 := (Z84, Z113); let Z132 := withGM Z8 Z127; let Z133 := Z56 ∧ Z126; let Z134 := Z94 ∧ Z116; let Z135 := groundM Z132; let Z136 := Value.bool Z135; let Z137 : List (Int × Span × Span × Span × Span) := Z127 :: Z36; let Z138 := Z76 ∧ Z130; let Z139 := fun (x t : Z92) => Z112 x < Z112 t; let Z140 : List (Int × Span × Span × Span × Span) := List.drop (nat_lit 0) Z137; let Z141 := Z61 ∧ Z133; let Z142 := fun (x : Z92) => wAtM ps Z127 (Z93 x); let Z143 : List (Int × Span × Span × Span × Span) := List.drop Z38 Z137; let Z144 : List (Int × Span × Span × Span × Span) := List.take (nat_lit 1) Z140; let Z145 := fun (t x : Z92) => Z125 t = Z110 x; let Z146 := fun (x : Z92) => Prod.snd (Z142 x); let Z147 := fun (x : Z92) => Prod.fst (Z142 x); let Z148 := fun (t x : Z92) => Z145 t x ∧ True; let Z149 := (Z84, Z131); let Z150 := fun (t : Z92) => !Z146 t; let Z151 := Z94 ∧ Z134; let Z152 := Z77 ∧ Z138; let Z153 := fun (x : Z92) => Value.bool (Z146 x); let Z154 := Z59 ∧ Z141; let Z155 := fun (t : Z92) => List.length (Z147 t); let Z156 := fun (t : Z92) => decide (Z117 t); let Z157 := fun (t : Z92) => Z150 t = true; let Z158 := fun (t : Z92) => Z150 t = false; let Z159 := fun (t : Z92) => List.length (Z147 t); let Z160 := fun (x : Z92) => Z153 x = Z2; let Z161 : List (Int × Span × Span × Span × Span) := List.take Z39 Z143; let Z162 := Z58 ∧ Z154; let Z163 := fun (t : Z92) => Z159 t + nat_lit 1; let Z164 := Z74 ∧ Z152; let Z165 := (Z26, Z149); let Z166 := fun (t : Z92) => Z163 t ≤ nat_lit 1099511627776; let Z167 := Z57 ∧ Z162; let Z168 := Z69 ∧ Z164; let Z169 := fun (t x : Z92) => Z109 ∧ Z148 t x; let Z170 := Z78 ∧ Z168; let Z171 := nat_lit 1 = nat_lit 1 ∧ Z170; let Z172 := fun (t x : Z92) => Z89 ∧ Z169 t x; let Z173 := fun (t : Z92) => List.getD ps (Z114 t) Z165; let Z174 := fun (t : Z92) => List.getD ps (Z121 t) Z165; let Z175 := fun (t : Z92) => Prod.snd (Z173 t); let Z176 := fun (t : Z92) => Prod.fst (Z173 t); let Z177 := fun (t : Z92) => Value.int IntKind.i64 (Z176 t); let Z178 := fun (t : Z92) => Z176 t > pa; let Z179 := fun (t : Z92) => AV.v (Z177 t); let Z180 := fun (t : Z92) => Prod.snd (Z174 t); let Z181 := fun (t : Z92) => Prod.fst (Z174 t); let Z182 := fun (t : Z92) => Value.int IntKind.i64 (Z181 t); let Z183 := fun (t : Z92) => Z176 t == pa; let Z184 := fun (t : Z92) => Prod.snd (Z175 t); let Z185 := fun (t : Z92) => Prod.fst (Z175 t); let Z186 := fun (t : Z92) => AV.v (Z182 t); let Z187 := fun (t x : Z92) => Z153 t = Z153 x; let Z188 := fun (t : Z92) => Prod.snd (Z185 t); let Z189 := fun (t : Z92) => Z183 t = true; let Z190 := fun (t : Z92) => Prod.fst (Z185 t); let Z191 := fun (t : Z92) => Z183 t = false; let Z192 := fun (t : Z92) => Prod.snd (Z180 t); let Z193 := fun (t : Z92) => Prod.fst (Z180 t); let Z194 := fun (t : Z92) => bothM (Z185 t) Z4; let Z195 := fun (t : Z92) => Value.int IntKind.i64 (Z190 t); let Z196 := fun (t : Z92) => Value.int IntKind.i64 (Z188 t); let Z197 := fun (t : Z92) => Prod.snd (Z184 t); let Z198 := fun (t : Z92) => Prod.fst (Z184 t); let Z199 := fun (t : Z92) => AV.v (Z195 t); let Z200 := fun (t : Z92) => AV.v (Z196 t); let Z201 := fun (t : Z92) => Prod.snd (Z193 t); let Z202 := fun (t : Z92) => Prod.fst (Z193 t); let Z203 := fun (t : Z92) => Prod.fst (Z194 t); let Z204 := fun (t : Z92) => Prod.snd (Z194 t); let Z205 := fun (t : Z92) => Prod.snd (Z198 t); let Z206 := fun (t : Z92) => Prod.fst (Z198 t); let Z207 := fun (t : Z92) => bothM (Z193 t) Z4; let Z208 := fun (t : Z92) => Value.int IntKind.i64 (Z201 t); let Z209 := fun (t : Z92) => Prod.fst (Z197 t); let Z210 := fun (t : Z92) => Prod.snd (Z197 t); let Z211 := fun (t : Z92) => Value.int IntKind.i64 (Z204 t); let Z212 := fun (t : Z92) => Value.int IntKind.i64 (Z203 t); let Z213 := fun (t : Z92) => Prod.snd (Z192 t); let Z214 := fun (t : Z92) => Prod.fst (Z192 t); let Z215 := fun (t : Z92) => bothM (Z198 t) Z3; let Z216 := fun (t : Z92) => AV.v (Z208 t); let Z217 := fun (t : Z92) => AV.v (Z212 t); let Z218 := fun (t : Z92) => AV.v (Z211 t); let Z219 := fun (t : Z92) => Value.int IntKind.i64 (Z205 t); let Z220 := fun (t : Z92) => Value.int IntKind.i64 (Z206 t); let Z221 := fun (t : Z92) => Prod.snd (Z207 t); let Z222 := fun (t : Z92) => Prod.fst (Z207 t); let Z223 := fun (t : Z92) => AV.v (Z219 t); let Z224 := fun (t : Z92) => AV.v (Z220 t); let Z225 := fun (t : Z92) => Prod.snd (Z210 t); let Z226 := fun (t : Z92) => Prod.snd (Z209 t); let Z227 := fun (t : Z92) => Prod.fst (Z210 t); let Z228 := fun (t : Z92) => Prod.fst (Z209 t); let Z229 := fun (t : Z92) => Prod.snd (Z214 t); let Z230 := fun (t : Z92) => Prod.fst (Z214 t); let Z231 := fun (t : Z92) => Prod.fst (Z215 t); let Z232 := fun (t : Z92) => Prod.snd (Z215 t); let Z233 := fun (t : Z92) => Prod.snd (Z213 t); let Z234 := fun (t : Z92) => Prod.fst (Z213 t); let Z235 := fun (t : Z92) => Value.int IntKind.i64 (Z221 t); let Z236 := fun (t : Z92) => bothM (Z210 t) Z6; let Z237 := fun (t : Z92) => bothM (Z209 t) Z5; let Z238 := fun (t : Z92) => bothM (Z214 t) Z3; let Z239 := fun (t : Z92) => Value.int IntKind.i64 (Z225 t); let Z240 := fun (t : Z92) => Value.int IntKind.i64 (Z228 t); let Z241 := fun (t : Z92) => AV.v (Z235 t); let Z242 := fun (t : Z92) => Value.int IntKind.i64 (Z227 t); let Z243 := fun (t : Z92) => Value.int IntKind.i64 (Z226 t); let Z244 := fun (t : Z92) => Value.int IntKind.i64 (Z229 t); let Z245 := fun (t : Z92) => Value.int IntKind.i64 (Z231 t); let Z246 := fun (t : Z92) => Value.int IntKind.i64 (Z232 t); let Z247 := fun (t : Z92) => AV.v (Z240 t); let Z248 := fun (t : Z92) => AV.v (Z242 t); let Z249 := fun (t : Z92) => AV.v (Z243 t); let Z250 := fun (t : Z92) => AV.v (Z239 t); let Z251 := fun (t : Z92) => Prod.snd (Z233 t); let Z252 := fun (t : Z92) => Prod.snd (Z234 t); let Z253 := fun (t : Z92) => Prod.fst (Z233 t); let Z254 := fun (t : Z92) => Prod.fst (Z234 t); let Z255 := fun (t : Z92) => AV.v (Z244 t); let Z256 := fun (t : Z92) => Prod.fst (Z237 t); let Z257 := fun (t : Z92) => Prod.fst (Z236 t); let Z258 := fun (t : Z92) => AV.v (Z245 t); let Z259 := fun (t : Z92) => AV.v (Z246 t); let Z260 := fun (t : Z92) => Prod.snd (Z237 t); let Z261 := fun (t : Z92) => Prod.snd (Z236 t); let Z262 := fun (t : Z92) => Prod.snd (Z238 t); let Z263 := fun (t : Z92) => Prod.fst (Z238 t); let Z264 := fun (t : Z92) => bothM (Z233 t) Z6; let Z265 := fun (t : Z92) => bothM (Z234 t) Z5; let Z266 := fun (t : Z92) => Value.int IntKind.i64 (Z251 t); let Z267 := fun (t : Z92) => Value.int IntKind.i64 (Z252 t); let Z268 := fun (t : Z92) => Value.int IntKind.i64 (Z261 t); let Z269 := fun (t : Z92) => Value.int IntKind.i64 (Z260 t); let Z270 := fun (t : Z92) => Value.int IntKind.i64 (Z256 t); let Z271 := fun (t : Z92) => Value.int IntKind.i64 (Z257 t); let Z272 := fun (t : Z92) => Z147 t ++ Z144; let Z273 := fun (t : Z92) => Value.int IntKind.i64 (Z262 t); let Z274 := fun (t : Z92) => AV.v (Z266 t); let Z275 := fun (t : Z92) => AV.v (Z267 t); let Z276 := fun (t : Z92) => AV.v (Z270 t); let Z277 := fun (t : Z92) => AV.v (Z269 t); let Z278 := fun (t : Z92) => AV.v (Z271 t); let Z279 := fun (t : Z92) => AV.v (Z268 t); let Z280 := fun (t : Z92) => Prod.fst (Z265 t); let Z281 := fun (t : Z92) => Prod.snd (Z264 t); let Z282 := fun (t : Z92) => Prod.fst (Z264 t); let Z283 := fun (t : Z92) => Prod.snd (Z265 t); let Z284 := fun (t : Z92) => AV.v (Z273 t); let Z285 := fun (t : Z92) => List.length (Z272 t); let Z286 := fun (t : Z92) => Value.int IntKind.i64 (Z281 t); let Z287 := fun (t : Z92) => Value.int IntKind.i64 (Z283 t); let Z288 := fun (t : Z92) => List.length (Z272 t); let Z289 := fun (t : Z92) => AV.v (Z287 t); let Z290 := fun (t : Z92) => AV.v (Z286 t); let Z291 := fun (t : Z92) => Z147 t ++ Z161; let Z292 := fun (t : Z92) => Z288 t + nat_lit 1; let Z293 := fun (t : Z92) => Z292 t ≤ nat_lit 1099511627776; let Z294 := fun (x t : Z92) => Z160 x ∧ Z172 t x; let Z295 := fun (x t : Z92) => Z47 ∧ Z294 x t; let Z296 := fun (x t : Z92) => Z95 ∧ Z295 x t; let Z297 := fun (x t : Z92) => Z47 ∧ Z296 x t; let Z298 := fun (x t : Z92) => Z47 ∧ Z297 x t; let Z299 := fun (x t : Z92) => Z47 ∧ Z298 x t; let Z300 := fun (t x : Z92) => Z187 t x ∧ Z172 t x; let Z301 := fun (t : Z92) => decide (Z178 t); let Z302 := fun (t x : Z92) => Z47 ∧ Z300 t x; let Z303 := fun (t : Z92) => Z179 t = Z186 t; let Z304 := fun (t x : Z92) => Z95 ∧ Z302 t x; let Z305 := fun (t x : Z92) => Z47 ∧ Z304 t x; let Z306 := fun (t : Z92) => (Z202 t, Z188 t); let Z307 := fun (t : Z92) => Z196 t = Z196 t; let Z308 := fun (t : Z92) => Z195 t = Z195 t; let Z309 := fun (t : Z92) => Z199 t = Z199 t; let Z310 := fun (t : Z92) => Z307 t ∧ True; let Z311 := fun (t x : Z92) => Z47 ∧ Z305 t x; let Z312 := fun (t : Z92) => Z200 t = Z216 t; let Z313 := fun (t : Z92) => (Z222 t, Z204 t); let Z314 := fun (t x : Z92) => Z47 ∧ Z311 t x; let Z315 := fun (t : Z92) => Z217 t = Z217 t; let Z316 := fun (t : Z92) => (Z230 t, Z205 t); let Z317 := fun (t : Z92) => Z219 t = Z219 t; let Z318 := fun (t : Z92) => Z220 t = Z220 t; let Z319 := fun (t : Z92) => Z317 t ∧ True; let Z320 := fun (t : Z92) => Z224 t = Z224 t; let Z321 := fun (t : Z92) => Z218 t = Z241 t; let Z322 := fun (t : Z92) => Z223 t = Z255 t; let Z323 := fun (t : Z92) => (Z253 t, Z225 t); let Z324 := fun (t : Z92) => (Z254 t, Z226 t); let Z325 := fun (t : Z92) => Z242 t = Z242 t; let Z326 := fun (t : Z92) => Z240 t = Z240 t; let Z327 := fun (t : Z92) => Z243 t = Z243 t; let Z328 := fun (t : Z92) => Z239 t = Z239 t; let Z329 := fun (t : Z92) => (Z263 t, Z232 t); let Z330 := fun (t : Z92) => Z248 t = Z248 t; let Z331 := fun (t : Z92) => Z247 t = Z247 t; let Z332 := fun (t : Z92) => Z328 t ∧ True; let Z333 := fun (t : Z92) => Z327 t ∧ True; let Z334 := fun (t : Z92) => Z258 t = Z258 t; let Z335 := fun (t : Z92) => Z250 t = Z274 t; let Z336 := fun (t : Z92) => Z249 t = Z275 t; let Z337 := fun (t : Z92) => Z335 t ∧ True; let Z338 := fun (t : Z92) => Z259 t = Z284 t; let Z339 := fun (t : Z92) => (Z280 t, Z260 t); let Z340 := fun (t : Z92) => (Z282 t, Z261 t); let Z341 := fun (t : Z92) => Z278 t = Z278 t; let Z342 := fun (t : Z92) => Z276 t = Z276 t; let Z343 := fun (t : Z92) => Z279 t = Z290 t; let Z344 := fun (t : Z92) => Z277 t = Z289 t; let Z345 := fun (t : Z92) => Z343 t ∧ True; let Z346 := fun (t : Z92) => Z308 t ∧ Z310 t; let Z347 := fun (t : Z92) => Z346 t ∧ Z104; let Z348 := fun (t : Z92) => Z318 t ∧ Z319 t; let Z349 := fun (t : Z92) => Z326 t ∧ Z333 t; let Z350 := fun (t : Z92) => Z325 t ∧ Z332 t; let Z351 := fun (t : Z92) => (Z324 t, Z323 t); let Z352 := fun (t : Z92) => Z348 t ∧ Z105; let Z353 := fun (t : Z92) => Z330 t ∧ Z337 t; let Z354 := fun (t : Z92) => (Z339 t, Z340 t); let Z355 := fun (t : Z92) => Z350 t ∧ Z103; let Z356 := fun (t : Z92) => Z349 t ∧ Z102; let Z357 := fun (t : Z92) => Z341 t ∧ Z345 t; let Z358 := fun (t : Z92) => (Z316 t, Z351 t); let Z359 := fun (t : Z92) => Z336 t ∧ Z353 t; let Z360 := fun (t : Z92) => (Z329 t, Z354 t); let Z361 := fun (t : Z92) => Z344 t ∧ Z357 t; let Z362 := fun (t : Z92) => (Z306 t, Z358 t); let Z363 := fun (t : Z92) => Z331 t ∧ Z359 t; let Z364 := fun (t : Z92) => (Z313 t, Z360 t); let Z365 := fun (t : Z92) => Z342 t ∧ Z361 t; let Z366 := fun (t : Z92) => (Z176 t, Z362 t); let Z367 := fun (t : Z92) => Z366 t :: Z36; let Z368 := fun (t : Z92) => List.drop Z38 (Z367 t); let Z369 := fun (t : Z92) => List.take Z39 (Z368 t); let Z373 := fun (t : Z92) => List.take Z39 (List.drop Z38 ((Z176 t, Z364 t) :: Z36)); let Z403 := fun (t : Z92) => ∃ (x : Z92), (Z299 x t ∧ True ∧ Z43 ∧ Z128 ∧ Z167 ∧ Z151 ∧ Z120 ∧ (Z50 ∧ Z147 t ++ Z373 t = Z147 x) ∧ True) ∧ Z139 x t; let Z405 := fun (t : Z92) => ∃ (x : Z92), (Z314 t x ∧ True ∧ Z43 ∧ Z128 ∧ Z167 ∧ Z151 ∧ Z120 ∧ (Z50 ∧ Z147 t ++ Z369 t = Z147 x) ∧ True) ∧ Z139 x t; let Z415 := fun (t : Z92) => nat_lit 1 = nat_lit 1 ∧ Z303 t ∧ Z309 t ∧ Z312 t ∧ Z320 t ∧ Z322 t ∧ Z363 t; let Z417 := fun (t : Z92) => nat_lit 1 = nat_lit 1 ∧ Z303 t ∧ Z315 t ∧ Z321 t ∧ Z334 t ∧ Z338 t ∧ Z365 t; (∃ (x : Z92), (True ∧ True ∧ True ∧ Z0 ∧ Z52) ∧ (True ∧ Z46 ∧ (True ∧ True ∧ True ∧ True ∧ Z52) ∧ Z46 ∧ (True ∧ True ∧ True ∧ Z7) ∧ Z147 x = Z36 ∧ True) ∧ (Z47 ∧ Z47 ∧ Z47 ∧ (Fn.func (nat_lit 69) = Z48 ∧ Z0) ∧ Z47 ∧ Z153 x = Value.bool false ∧ Z89 ∧ Z109 ∧ Z51 = Z110 x ∧ True) ∧ True ∧ Z43 ∧ Z128 ∧ Z167 ∧ Z151 ∧ (Z60 ∧ Z63 ∧ Z65 ∧ Z88) ∧ Z0) ∧ ∀ (t : Z92), (Z156 t = true → (Z26 ≤ Z101 t ∧ Z117 t) ∧ Z114 t < List.length ps ∧ (Z157 t → (Z301 t = true → Z171 ∧ Z9 ∧ Z166 t ∧ (Z189 t → True ∧ Z347 t ∧ True ∧ True ∧ Z352 t ∧ True ∧ True ∧ Z356 t ∧ True ∧ True ∧ Z355 t ∧ True ∧ Z417 t ∧ Z9 ∧ Z293 t ∧ True ∧ ∃ (x : Z92), (Z299 x t ∧ True ∧ Z43 ∧ Z128 ∧ Z167 ∧ Z151 ∧ Z120 ∧ (Z50 ∧ Z291 t ++ Z373 t = Z147 x) ∧ True) ∧ Z139 x t) ∧ (Z191 t → Z415 t ∧ Z9 ∧ Z293 t ∧ True ∧ ∃ (x : Z92), (Z299 x t ∧ True ∧ Z43 ∧ Z128 ∧ Z167 ∧ Z151 ∧ Z120 ∧ (Z50 ∧ Z291 t ++ Z369 t = Z147 x) ∧ True) ∧ Z139 x t)) ∧ (Z301 t = false → (Z189 t → True ∧ Z347 t ∧ True ∧ True ∧ Z352 t ∧ True ∧ True ∧ Z356 t ∧ True ∧ True ∧ Z355 t ∧ True ∧ Z417 t ∧ Z9 ∧ Z166 t ∧ True ∧ Z403 t) ∧ (Z191 t → Z415 t ∧ Z9 ∧ Z166 t ∧ True ∧ Z405 t))) ∧ (Z158 t → (Z189 t → True ∧ Z347 t ∧ True ∧ True ∧ Z352 t ∧ True ∧ True ∧ Z356 t ∧ True ∧ True ∧ Z355 t ∧ True ∧ Z417 t ∧ Z9 ∧ Z166 t ∧ True ∧ Z403 t) ∧ (Z191 t → Z415 t ∧ Z9 ∧ Z166 t ∧ True ∧ Z405 t))) ∧ (Z156 t = false → (Z157 t → Z171 ∧ Z9 ∧ Z166 t ∧ Z285 t < nat_lit 1000000 ∧ ((Z60 ∧ Z63 ∧ Z65 ∧ (Z40 = Z40 ∧ nat_lit 0 = nat_lit 0 ∧ nat_lit 0 = nat_lit 0 ∧ Z288 t = Z285 t) ∧ True) ∧ True) ∧ (Z291 t = Z272 t ∧ True) ∧ True ∧ ((Z120 ∧ Value.bool (groundM (GroundT.mk long rise change (Z291 t))) = Z136 ∧ True) ∧ True) ∧ True ∧ Z43 ∧ (Z50 ∧ Z291 t = Z129) ∧ True) ∧ (Z158 t → Z155 t < nat_lit 1000000 ∧ ((Z60 ∧ Z63 ∧ Z65 ∧ (nat_lit 5 = nat_lit 5 ∧ nat_lit 0 = nat_lit 0 ∧ nat_lit 0 = nat_lit 0 ∧ Z159 t = Z155 t) ∧ True) ∧ True) ∧ (Z147 t = Z147 t ∧ True) ∧ True ∧ ((Z120 ∧ Value.bool (groundM (GroundT.mk long rise change (Z147 t))) = Z136 ∧ True) ∧ True) ∧ True ∧ Z43 ∧ (Z44 = Z44 ∧ Z147 t = Z129) ∧ True)))
    (by kernel_rfl) ?_
  simp only [eq_self, true_and, and_true, Int.toNat_natCast, Nat.zero_add, Nat.sub_zero, Value.int.injEq, Value.bool.injEq, decide_eq_true_eq, decide_eq_false_iff_not]
  obtain ⟨p, hpe⟩ : ∃ p : PitT, p = (pa, (ph, ph2), (ps1, ps2), (pi1, pi2), pc1, pc2) := ⟨_, rfl⟩
  have hpa : pa = p.1 := by rw [hpe]
  have hxl : ps.length < 1000 := hx
  have hs : ∀ x : PitT, List.take 1 (List.drop 0 [x]) = [x] := fun _ => rfl
  have e1 : (ph, ph2) = p.2.1 := by rw [hpe]
  have e2 : (ps1, ps2) = p.2.2.1 := by rw [hpe]
  have e3 : (pi1, pi2) = p.2.2.2.1 := by rw [hpe]
  have e4 : (pc1, pc2) = p.2.2.2.2 := by rw [hpe]
  simp only [hs]
  rw [← hpe]
  simp only [e1, e2, e3, e4, hpa]
  clear e1 e2 e3 e4 hpa hpe hx
  refine ⟨⟨⟨0, Nat.zero_le _⟩, rfl, rfl, rfl⟩, fun t => ⟨fun ht => ?_, fun ht => ?_⟩⟩
  · obtain ⟨i, hi⟩ := t
    have hlt : i < ps.length := by have h0 : (i : Int) < (ps.length : Int) := ht; omega
    have hwl := w_len ps p i
    have hsu := sucI i (by omega)
    have hb : (wAtM ps p i).1.length + 1 ≤ 1099511627776 := by omega
    have hb2 : ((wAtM ps p i).1 ++ [p]).length + 1 ≤ 1099511627776 := by simp; omega
    have cy := @w_ny ps p i
    have cm := @w_m ps p i
    have cn := @w_n ps p i
    refine ⟨⟨Int.natCast_nonneg _, ht⟩, hlt, fun hput => ⟨fun hgt => ⟨Nat.le_refl _, hb, fun he => ?_, fun hne => ⟨Nat.le_refl _, hb2, ⟨i + 1, hlt⟩, ?_, dec1 hlt⟩⟩, fun hgt => ⟨fun he => ⟨Nat.le_refl _, hb, ⟨i + 1, hlt⟩, ?_, dec1 hlt⟩, fun hne => ⟨Nat.le_refl _, hb, ⟨i + 1, hlt⟩, ?_, dec1 hlt⟩⟩⟩, fun hput => ⟨fun he => ⟨Nat.le_refl _, hb, ⟨i + 1, hlt⟩, ?_, dec1 hlt⟩, fun hne => ⟨Nat.le_refl _, hb, ⟨i + 1, hlt⟩, ?_, dec1 hlt⟩⟩⟩
    · have he' : (ps.getD i pit0).1 = p.1 := by simpa using he
      have hgt' : (ps.getD i pit0).1 > p.1 := hgt
      omega
    · have hne' : ¬ (ps.getD i pit0).1 = p.1 := by simpa using hne
      have hp' : (wAtM ps p i).2 = false := by simpa using hput
      rw [cy hp' hgt hne']
      exact ⟨⟨rfl, hsu⟩, rfl⟩
    · have he' : (ps.getD i pit0).1 = p.1 := by simpa using he
      have hc : (!(wAtM ps p i).2 && decide ((ps.getD i pit0).1 > p.1)) = false := by rw [decide_eq_false (by omega), Bool.and_false]
      rw [cm hc he']
      exact ⟨⟨rfl, hsu⟩, rfl⟩
    · have hne' : ¬ (ps.getD i pit0).1 = p.1 := by simpa using hne
      have hc : (!(wAtM ps p i).2 && decide ((ps.getD i pit0).1 > p.1)) = false := by rw [decide_eq_false hgt, Bool.and_false]
      rw [cn hc hne']
      exact ⟨⟨rfl, hsu⟩, rfl⟩
    · have he' : (ps.getD i pit0).1 = p.1 := by simpa using he
      have hc : (!(wAtM ps p i).2 && decide ((ps.getD i pit0).1 > p.1)) = false := by rw [hput, Bool.false_and]
      rw [cm hc he']
      exact ⟨⟨rfl, hsu⟩, rfl⟩
    · have hne' : ¬ (ps.getD i pit0).1 = p.1 := by simpa using hne
      have hc : (!(wAtM ps p i).2 && decide ((ps.getD i pit0).1 > p.1)) = false := by rw [hput, Bool.false_and]
      rw [cn hc hne']
      exact ⟨⟨rfl, hsu⟩, rfl⟩
  · obtain ⟨i, hi⟩ := t
    have hie : i = ps.length := by have h0 : ¬ (i : Int) < (ps.length : Int) := ht; omega
    subst hie
    have hwl := w_len ps p ps.length
    have b1 : (wAtM ps p ps.length).1.length + 1 ≤ 1099511627776 := by omega
    have b2 : (wAtM ps p ps.length).1.length < 1000000 := by omega
    have b3 : ((wAtM ps p ps.length).1 ++ [p]).length < 1000000 := by simp; omega
    refine ⟨fun hput => ?_, fun hput => ?_⟩
    · have hp' : (wAtM ps p ps.length).2 = false := by simpa using hput
      have e : withM ps p = (wAtM ps p ps.length).1 ++ [p] := by unfold withM; rw [hp']; rfl
      exact ⟨Nat.le_refl _, b1, b3, by unfold withGM; rw [e], e.symm⟩
    · have hp' : (wAtM ps p ps.length).2 = true := by simpa using hput
      have e : withM ps p = (wAtM ps p ps.length).1 := by unfold withM; rw [hp']; rfl
      exact ⟨b2, by unfold withGM; rw [e], e.symm⟩

theorem with_sound : Sound Try.prog 55 withS.con := FSpec.sound _ (enter_of Try.func55 (by kernel_rfl) (by kernel_rfl)) with_ok

/-! ### a pit that tells nothing, or of one number of a kind -/
def anyPM (at_ : Int) : PitT := (at_, (0, 1000), (0, 20), (0, 20), 0, 20)
def lanyS : FSpec UU where
  X := Int
  pick := fun args _ => match args with
    | [a] => avInt a
    | _ => none
  args := fun (x : Int) => [.i x]
  H := fun _ => []
  R := fun (x : Int) => .val ⟨.agg [.i x, .i 0, .i 1000, .i 0, .i 20, .i 0, .i 20, .i 0, .i 20], [], [], []⟩
def Tpit1 : Tab UU := [(28, lpitS.con)]
theorem Tpit1_ok : Tpit1.Sound Try.prog := .cons lpit_sound .nil
set_option maxRecDepth 100000 in
theorem lany_ok : ∀ x, lanyS.pre x → FunOk Try.prog 26 (lanyS.args x) (lanyS.H x) (lanyS.R x) := by
  intro (x : Int) _
  refine fun_of (T := Tpit1) (L := fun _ => none) (hs := fun _ => []) hmix Tpit1_ok Try.func26 (by kernel_rfl) (by kernel_rfl) ?_
  refine Eq.mp (α :=
      let Z0 := Value.int IntKind.i64 x; let Z4 := Value.int IntKind.i64 (0 : Int); let Z5 := Value.int IntKind.i64 (20 : Int); let Z6 := Value.int IntKind.i64 (1000 : Int); let Z8 := Z4 = Z4; let Z9 := Z5 = Z5; True ∧ (Z0 = Z0 ∧ Z8 ∧ Z6 = Z6 ∧ Z8 ∧ Z9 ∧ Z8 ∧ Z9 ∧ Z8 ∧ Z9 ∧ True) ∧ True ∧ True ∧ ((Z0 = Z0 ∧ Z8 ∧ Z6 = Z6 ∧ Z8 ∧ Z9 ∧ Z8 ∧ Z9 ∧ Z8 ∧ Z9 ∧ True) ∧ True) ∧ True ∧ True)
    (by kernel_rfl) ?_
  simp only [eq_self, true_and, and_true, Int.toNat_natCast, Nat.zero_add, Nat.sub_zero, Value.int.injEq, Value.bool.injEq, decide_eq_true_eq, decide_eq_false_iff_not]

theorem lany_sound : Sound Try.prog 26 lanyS.con := FSpec.sound _ (enter_of Try.func26 (by kernel_rfl) (by kernel_rfl)) lany_ok
def toldPM : Nat → Int → Int → PitT
  | 0, a, n => (a, (n, n), (0, 20), (0, 20), 0, 20)
  | 1, a, n => (a, (0, 1000), (n, n), (0, 20), 0, 20)
  | 2, a, n => (a, (0, 1000), (0, 20), (n, n), 0, 20)
  | _, a, n => (a, (0, 1000), (0, 20), (0, 20), n, n)
def toldS : FSpec UU where
  X := Nat × Int × Int
  pick := fun args H => match args with
    | [n, a, k] => match avInt n, avCell H a, avCell H k with
      | some n, some a, some k => match avInt a, avInt k with
        | some a, some k => some (k.toNat, a, n)
        | _, _ => none
      | _, _, _ => none
    | _ => none
  args := fun x => [.i x.2.2, .ptr 0 0 0 0, .ptr 1 0 0 0]
  H := fun x => [.one (.rc [.i x.2.1] 3), .one (.rc [.i (x.1 : Nat)] 3)]
  R := fun x => .val ⟨vPit (toldPM x.1 x.2.1 x.2.2), [], [], []⟩
  pre := fun x => x.1 < 4
def Ttold : Tab UU := [(26, lanyS.con), (23, lspanS.con)]
theorem Ttold_ok : Ttold.Sound Try.prog := .cons lany_sound (.cons lspan_sound .nil)
set_option maxRecDepth 100000 in
theorem told0_ok (a n : Int) : FunOk Try.prog 25 [.i n, .ptr 0 0 0 0, .ptr 1 0 0 0] [.one (.rc (U := UU) [.i a] 3), .one (.rc [.i 0] 3)] (.val ⟨.agg [.i a, .i n, .i n, .i 0, .i 20, .i 0, .i 20, .i 0, .i 20], [], [], []⟩) := by
  refine fun_of (T := Ttold) (L := fun _ => none) (hs := fun _ => []) hmix Ttold_ok Try.func25 (by kernel_rfl) (by kernel_rfl) ?_
  refine Eq.mp (α :=
      let Z0 := Value.int IntKind.i64 n; let Z1 := Value.int IntKind.i64 a; let Z2 := (0 : Int); let Z4 := (3 : Nat); let Z5 := Value.int IntKind.i64 Z2; let Z6 := Value.int IntKind.i64 (20 : Int); let Z7 := Z0 = Z0; let Z8 := Z1 = Z1; let Z10 := Z5 = Z5; let Z11 := Z6 = Z6; True ∧ (Z8 ∧ True) ∧ True ∧ (nat_lit 4 = nat_lit 4 ∧ AV.ptr Z4 (nat_lit 0) (nat_lit 0) (nat_lit 1) = AV.ptr (nat_lit 3) (nat_lit 0) (nat_lit 0) (nat_lit 1) ∧ AV.ptr Z4 (nat_lit 0) (nat_lit 0) (nat_lit 3) = AV.ptr (nat_lit 3) (nat_lit 0) (nat_lit 0) (nat_lit 3) ∧ AV.ptr Z4 (nat_lit 0) (nat_lit 0) (nat_lit 5) = AV.ptr (nat_lit 3) (nat_lit 0) (nat_lit 0) (nat_lit 5) ∧ AV.ptr Z4 (nat_lit 0) (nat_lit 0) (nat_lit 7) = AV.ptr (nat_lit 3) (nat_lit 0) (nat_lit 0) (nat_lit 7) ∧ True) ∧ (Z2 ≤ Z2 ∧ Z2 < (↑(nat_lit 4) : Int)) ∧ nat_lit 0 < nat_lit 4 ∧ True ∧ (Z7 ∧ Z7 ∧ True) ∧ True ∧ True ∧ ((Z8 ∧ Z7 ∧ Z7 ∧ Z10 ∧ Z11 ∧ Z10 ∧ Z11 ∧ Z10 ∧ Z11 ∧ True) ∧ True) ∧ True ∧ (Z8 ∧ True) ∧ (Z10 ∧ True) ∧ True)
    (by kernel_rfl) ?_
  simp only [eq_self, true_and, and_true, Int.toNat_natCast, Nat.zero_add, Nat.sub_zero, Value.int.injEq, Value.bool.injEq, decide_eq_true_eq, decide_eq_false_iff_not]
  decide

set_option maxRecDepth 100000 in
theorem told1_ok (a n : Int) : FunOk Try.prog 25 [.i n, .ptr 0 0 0 0, .ptr 1 0 0 0] [.one (.rc (U := UU) [.i a] 3), .one (.rc [.i 1] 3)] (.val ⟨.agg [.i a, .i 0, .i 1000, .i n, .i n, .i 0, .i 20, .i 0, .i 20], [], [], []⟩) := by
  refine fun_of (T := Ttold) (L := fun _ => none) (hs := fun _ => []) hmix Ttold_ok Try.func25 (by kernel_rfl) (by kernel_rfl) ?_
  refine Eq.mp (α :=
      let Z0 := Value.int IntKind.i64 a; let Z1 := Value.int IntKind.i64 n; let Z2 := (0 : Int); let Z3 := (1 : Int); let Z5 := (3 : Nat); let Z7 := Value.int IntKind.i64 Z3; let Z8 := Value.int IntKind.i64 Z2; let Z9 := Value.int IntKind.i64 (20 : Int); let Z10 := Value.int IntKind.i64 (1000 : Int); let Z11 := Z0 = Z0; let Z12 := Z1 = Z1; let Z14 := Z8 = Z8; True ∧ (Z11 ∧ True) ∧ True ∧ (nat_lit 4 = nat_lit 4 ∧ AV.ptr Z5 (nat_lit 0) (nat_lit 0) (nat_lit 1) = AV.ptr (nat_lit 3) (nat_lit 0) (nat_lit 0) (nat_lit 1) ∧ AV.ptr Z5 (nat_lit 0) (nat_lit 0) (nat_lit 3) = AV.ptr (nat_lit 3) (nat_lit 0) (nat_lit 0) (nat_lit 3) ∧ AV.ptr Z5 (nat_lit 0) (nat_lit 0) (nat_lit 5) = AV.ptr (nat_lit 3) (nat_lit 0) (nat_lit 0) (nat_lit 5) ∧ AV.ptr Z5 (nat_lit 0) (nat_lit 0) (nat_lit 7) = AV.ptr (nat_lit 3) (nat_lit 0) (nat_lit 0) (nat_lit 7) ∧ True) ∧ (Z2 ≤ Z3 ∧ Z3 < (↑(nat_lit 4) : Int)) ∧ nat_lit 1 < nat_lit 4 ∧ True ∧ (Z12 ∧ Z12 ∧ True) ∧ True ∧ True ∧ ((Z11 ∧ Z14 ∧ Z10 = Z10 ∧ Z12 ∧ Z12 ∧ Z14 ∧ Z9 = Z9 ∧ Z14 ∧ Z9 = Z9 ∧ True) ∧ True) ∧ True ∧ (Z11 ∧ True) ∧ (Z7 = Z7 ∧ True) ∧ True)
    (by kernel_rfl) ?_
  simp only [eq_self, true_and, and_true, Int.toNat_natCast, Nat.zero_add, Nat.sub_zero, Value.int.injEq, Value.bool.injEq, decide_eq_true_eq, decide_eq_false_iff_not]
  decide

set_option maxRecDepth 100000 in
theorem told2_ok (a n : Int) : FunOk Try.prog 25 [.i n, .ptr 0 0 0 0, .ptr 1 0 0 0] [.one (.rc (U := UU) [.i a] 3), .one (.rc [.i 2] 3)] (.val ⟨.agg [.i a, .i 0, .i 1000, .i 0, .i 20, .i n, .i n, .i 0, .i 20], [], [], []⟩) := by
  refine fun_of (T := Ttold) (L := fun _ => none) (hs := fun _ => []) hmix Ttold_ok Try.func25 (by kernel_rfl) (by kernel_rfl) ?_
  refine Eq.mp (α :=
      let Z0 := Value.int IntKind.i64 a; let Z1 := Value.int IntKind.i64 n; let Z2 := (0 : Int); let Z3 := (2 : Int); let Z5 := (3 : Nat); let Z7 := Value.int IntKind.i64 Z3; let Z8 := Value.int IntKind.i64 Z2; let Z9 := Value.int IntKind.i64 (20 : Int); let Z10 := Value.int IntKind.i64 (1000 : Int); let Z11 := Z0 = Z0; let Z12 := Z1 = Z1; let Z14 := Z8 = Z8; True ∧ (Z11 ∧ True) ∧ True ∧ (nat_lit 4 = nat_lit 4 ∧ AV.ptr Z5 (nat_lit 0) (nat_lit 0) (nat_lit 1) = AV.ptr (nat_lit 3) (nat_lit 0) (nat_lit 0) (nat_lit 1) ∧ AV.ptr Z5 (nat_lit 0) (nat_lit 0) (nat_lit 3) = AV.ptr (nat_lit 3) (nat_lit 0) (nat_lit 0) (nat_lit 3) ∧ AV.ptr Z5 (nat_lit 0) (nat_lit 0) (nat_lit 5) = AV.ptr (nat_lit 3) (nat_lit 0) (nat_lit 0) (nat_lit 5) ∧ AV.ptr Z5 (nat_lit 0) (nat_lit 0) (nat_lit 7) = AV.ptr (nat_lit 3) (nat_lit 0) (nat_lit 0) (nat_lit 7) ∧ True) ∧ (Z2 ≤ Z3 ∧ Z3 < (↑(nat_lit 4) : Int)) ∧ nat_lit 2 < nat_lit 4 ∧ True ∧ (Z12 ∧ Z12 ∧ True) ∧ True ∧ True ∧ ((Z11 ∧ Z14 ∧ Z10 = Z10 ∧ Z14 ∧ Z9 = Z9 ∧ Z12 ∧ Z12 ∧ Z14 ∧ Z9 = Z9 ∧ True) ∧ True) ∧ True ∧ (Z11 ∧ True) ∧ (Z7 = Z7 ∧ True) ∧ True)
    (by kernel_rfl) ?_
  simp only [eq_self, true_and, and_true, Int.toNat_natCast, Nat.zero_add, Nat.sub_zero, Value.int.injEq, Value.bool.injEq, decide_eq_true_eq, decide_eq_false_iff_not]
  decide

set_option maxRecDepth 100000 in
theorem told3_ok (a n : Int) : FunOk Try.prog 25 [.i n, .ptr 0 0 0 0, .ptr 1 0 0 0] [.one (.rc (U := UU) [.i a] 3), .one (.rc [.i 3] 3)] (.val ⟨.agg [.i a, .i 0, .i 1000, .i 0, .i 20, .i 0, .i 20, .i n, .i n], [], [], []⟩) := by
  refine fun_of (T := Ttold) (L := fun _ => none) (hs := fun _ => []) hmix Ttold_ok Try.func25 (by kernel_rfl) (by kernel_rfl) ?_
  refine Eq.mp (α :=
      let Z0 := Value.int IntKind.i64 a; let Z1 := Value.int IntKind.i64 n; let Z2 := (0 : Int); let Z3 := (3 : Int); let Z5 := (3 : Nat); let Z7 := Value.int IntKind.i64 Z3; let Z8 := Value.int IntKind.i64 Z2; let Z9 := Value.int IntKind.i64 (20 : Int); let Z10 := Value.int IntKind.i64 (1000 : Int); let Z11 := Z1 = Z1; let Z12 := Z0 = Z0; let Z15 := Z8 = Z8; True ∧ (Z12 ∧ True) ∧ True ∧ (nat_lit 4 = nat_lit 4 ∧ AV.ptr Z5 (nat_lit 0) (nat_lit 0) (nat_lit 1) = AV.ptr (nat_lit 3) (nat_lit 0) (nat_lit 0) (nat_lit 1) ∧ AV.ptr Z5 (nat_lit 0) (nat_lit 0) (nat_lit 3) = AV.ptr (nat_lit 3) (nat_lit 0) (nat_lit 0) (nat_lit 3) ∧ AV.ptr Z5 (nat_lit 0) (nat_lit 0) (nat_lit 5) = AV.ptr (nat_lit 3) (nat_lit 0) (nat_lit 0) (nat_lit 5) ∧ AV.ptr Z5 (nat_lit 0) (nat_lit 0) (nat_lit 7) = AV.ptr (nat_lit 3) (nat_lit 0) (nat_lit 0) (nat_lit 7) ∧ True) ∧ (Z2 ≤ Z3 ∧ Z3 < (↑(nat_lit 4) : Int)) ∧ nat_lit 3 < nat_lit 4 ∧ True ∧ (Z11 ∧ Z11 ∧ True) ∧ True ∧ True ∧ ((Z12 ∧ Z15 ∧ Z10 = Z10 ∧ Z15 ∧ Z9 = Z9 ∧ Z15 ∧ Z9 = Z9 ∧ Z11 ∧ Z11 ∧ True) ∧ True) ∧ True ∧ (Z12 ∧ True) ∧ (Z7 = Z7 ∧ True) ∧ True)
    (by kernel_rfl) ?_
  simp only [eq_self, true_and, and_true, Int.toNat_natCast, Nat.zero_add, Nat.sub_zero, Value.int.injEq, Value.bool.injEq, decide_eq_true_eq, decide_eq_false_iff_not]
  decide

theorem toldP_ok : ∀ x, toldS.pre x → FunOk Try.prog 25 (toldS.args x) (toldS.H x) (toldS.R x) := by
  rintro ⟨k, a, n⟩ hk
  have hk' : k < 4 := hk
  match k, hk' with
  | 0, _ => exact told0_ok a n
  | 1, _ => exact told1_ok a n
  | 2, _ => exact told2_ok a n
  | 3, _ => exact told3_ok a n
  | k + 4, h => exact absurd h (by omega)
theorem toldP_sound : Sound Try.prog 25 toldS.con := FSpec.sound _ (enter_of Try.func25 (by kernel_rfl) (by kernel_rfl)) toldP_ok
/-! ### is there a truth with a pit more? -/
def canM (g : GroundT) (p : PitT) : Bool := groundM (withGM g p) && ((hardOM (withGM g p) 0).2 == 0)
def canS : FSpec UU where
  X := GroundT × PitT
  pick := fun args H => match args with
    | [a, b] => match avGround H a, avPit b with
      | some a, some b => some (a, b)
      | _, _ => none
    | _ => none
  args := fun x => [vGround x.1 0, vPit x.2]
  H := fun x => [.one (.ro .pit x.1.pits)]
  R := fun x => .val ⟨.b (canM x.1 x.2), [], [], []⟩
  pre := fun x => x.1.pits.length < 1000
def Tcan : Tab UU := [(55, withS.con), (9, hardOS.con)]
theorem Tcan_ok : Tcan.Sound Try.prog := .cons with_sound (.cons hardO_sound .nil)
theorem with_len (l : List PitT) (p : PitT) : (withM l p).length ≤ 2 * l.length + 1 := by
  have := w_len l p l.length
  unfold withM
  split
  · omega
  · simp; omega
set_option maxHeartbeats 0 in
set_option maxRecDepth 100000 in
theorem lcan_ok : ∀ x, canS.pre x → FunOk Try.prog 27 (canS.args x) (canS.H x) (canS.R x) := by
  rintro ⟨⟨long, rise, change, ps⟩, p⟩ hx
  obtain ⟨pa, ⟨ph, ph2⟩, ⟨ps1, ps2⟩, ⟨pi1, pi2⟩, pc1, pc2⟩ := p
  refine fun_of (T := Tcan) (L := fun _ => none) (hs := fun _ => []) hmix Tcan_ok Try.func27 (by kernel_rfl) (by kernel_rfl) ?_
  refine Eq.mp (α :=
      let Z4 := GroundT.mk long rise change ps; let Z5 := List.length ps; let Z6 := Value.int IntKind.i64 long; let Z7 := Value.int IntKind.i64 rise; let Z8 := Value.int IntKind.i64 change; let Z9 := (0 : Int); let Z10 := ps = ps; let Z12 := Value.int IntKind.i64 Z9; let Z20 := (pa, (ph, ph2), (ps1, ps2), (pi1, pi2), pc1, pc2); let Z21 : List PitT := withM ps Z20; let Z24 := List.length Z21; Z5 < nat_lit 1000 ∧ ((Z6 = Z6 ∧ Z7 = Z7 ∧ Z8 = Z8 ∧ (nat_lit 0 = nat_lit 0 ∧ nat_lit 0 = nat_lit 0 ∧ Z5 = Z5) ∧ True) ∧ (Value.int IntKind.i64 pa = Value.int IntKind.i64 pa ∧ Value.int IntKind.i64 ph = Value.int IntKind.i64 ph ∧ Value.int IntKind.i64 ph2 = Value.int IntKind.i64 ph2 ∧ Value.int IntKind.i64 ps1 = Value.int IntKind.i64 ps1 ∧ Value.int IntKind.i64 ps2 = Value.int IntKind.i64 ps2 ∧ Value.int IntKind.i64 pi1 = Value.int IntKind.i64 pi1 ∧ Value.int IntKind.i64 pi2 = Value.int IntKind.i64 pi2 ∧ Value.int IntKind.i64 pc1 = Value.int IntKind.i64 pc1 ∧ Value.int IntKind.i64 pc2 = Value.int IntKind.i64 pc2 ∧ True) ∧ True) ∧ (Z10 ∧ True) ∧ ((!groundM (withGM Z4 Z20)) = true → True ∧ (Value.bool (canM Z4 Z20) = Value.bool false ∧ True) ∧ True ∧ Z10 ∧ True) ∧ ((!groundM (withGM Z4 Z20)) = false → Z24 < nat_lit 1000000 ∧ ((Z6 = Z6 ∧ Z7 = Z7 ∧ Z8 = Z8 ∧ (nat_lit 3 = nat_lit 3 ∧ nat_lit 0 = nat_lit 0 ∧ nat_lit 0 = nat_lit 0 ∧ List.length Z21 = Z24) ∧ True) ∧ Z12 = Z12 ∧ True) ∧ (Z21 = Z21 ∧ True) ∧ True ∧ (Value.bool (Prod.snd (hardOM (GroundT.mk long rise change Z21) Z9) == Z9) = Value.bool (canM Z4 Z20) ∧ True) ∧ True ∧ Z10 ∧ True))
    (by kernel_rfl) ?_
  simp only [eq_self, true_and, and_true, Int.toNat_natCast, Nat.zero_add, Nat.sub_zero, Value.int.injEq, Value.bool.injEq, decide_eq_true_eq, decide_eq_false_iff_not]
  have hxl : ps.length < 1000 := hx
  have hw := with_len ps (pa, (ph, ph2), (ps1, ps2), (pi1, pi2), pc1, pc2)
  refine ⟨hxl, fun h => ?_, fun h => ⟨by omega, ?_⟩⟩
  · have h' : groundM (withGM ⟨long, rise, change, ps⟩ (pa, (ph, ph2), (ps1, ps2), (pi1, pi2), pc1, pc2)) = false := by simpa using h
    unfold canM; rw [h', Bool.false_and]
  · have h' : groundM (withGM ⟨long, rise, change, ps⟩ (pa, (ph, ph2), (ps1, ps2), (pi1, pi2), pc1, pc2)) = true := by simpa using h
    unfold canM; rw [h', Bool.true_and]; rfl

theorem lcan_sound : Sound Try.prog 27 canS.con := FSpec.sound _ (enter_of Try.func27 (by kernel_rfl) (by kernel_rfl)) lcan_ok
end AE.Soil

namespace AE.Soil
open Go AE Go.Proofs

/-- A row of pits with one more, or with what it tells besides. -/
def insM : List PitT → PitT → List PitT
  | [], p => [p]
  | o :: l, p => if o.1 > p.1 then p :: o :: l else if o.1 = p.1 then mergeM o p :: l else o :: insM l p
theorem wAt_fold (l : List PitT) (p : PitT) : ∀ i, i ≤ l.length → wAtM l p i = (l.take i).foldl (fun r o => wstepM p o r) ([], false)
  | 0, _ => rfl
  | i + 1, h => by
    rw [take_snoc l i (by omega) pit0, List.foldl_append, ← wAt_fold l p i (by omega)]; rfl
theorem fold_put (p : PitT) : ∀ (l : List PitT) (a : List PitT), (∀ o ∈ l, p.1 < o.1) → l.foldl (fun r o => wstepM p o r) (a, true) = (a ++ l, true)
  | [], a, _ => by simp
  | o :: l, a, h => by
    have h1 := h o List.mem_cons_self
    rw [List.foldl_cons]
    have e : wstepM p o (a, true) = (a ++ [o], true) := by
      unfold wstepM
      rw [if_neg (by simp), if_neg (by omega)]
    rw [e, fold_put p l _ fun o ho => h o (List.mem_cons_of_mem _ ho), List.append_assoc]; rfl
def finM (r : List PitT × Bool) (p : PitT) : List PitT := if r.2 then r.1 else r.1 ++ [p]
theorem fold_ins (p : PitT) : ∀ (l : List PitT) (a : List PitT), (l.Pairwise fun p q => p.1 < q.1) → finM (l.foldl (fun r o => wstepM p o r) (a, false)) p = a ++ insM l p
  | [], a, _ => rfl
  | o :: l, a, h => by
    obtain ⟨h1, h2⟩ := List.pairwise_cons.1 h
    rw [List.foldl_cons]
    unfold insM
    by_cases c1 : o.1 > p.1
    · have e : wstepM p o (a, false) = ((a ++ [p]) ++ [o], true) := by
        unfold wstepM
        rw [decide_eq_true c1, if_pos (by rfl), if_neg (by omega)]
      rw [e, if_pos c1, fold_put p l _ fun q hq => by have := h1 q hq; omega]
      show (a ++ [p]) ++ [o] ++ l = _
      simp
    · rw [if_neg c1]
      by_cases c2 : o.1 = p.1
      · have e : wstepM p o (a, false) = (a ++ [mergeM o p], true) := by
          unfold wstepM
          rw [decide_eq_false c1, if_neg (by simp), if_pos c2]
        rw [e, if_pos c2, fold_put p l _ fun q hq => by have := h1 q hq; omega]
        show a ++ [mergeM o p] ++ l = _
        simp
      · have e : wstepM p o (a, false) = (a ++ [o], false) := by
          unfold wstepM
          rw [decide_eq_false c1, if_neg (by simp), if_neg c2]
        rw [e, if_neg c2, fold_ins p l _ h2]
        simp
theorem with_ins {l : List PitT} (p : PitT) (h : l.Pairwise fun p q => p.1 < q.1) : withM l p = insM l p := by
  have e := wAt_fold l p l.length (Nat.le_refl _)
  rw [List.take_length] at e
  have := fold_ins p l [] h
  unfold withM
  rw [e]
  simpa [finM] using this
theorem ins_mem (p : PitT) : ∀ {l : List PitT}, (l.Pairwise fun p q => p.1 < q.1) → ∀ q, q ∈ insM l p ↔ (q ∈ l ∧ q.1 ≠ p.1) ∨ (∃ o ∈ l, o.1 = p.1 ∧ q = mergeM o p) ∨ ((∀ o ∈ l, o.1 ≠ p.1) ∧ q = p)
  | [], _, q => by simp [insM]
  | o :: l, h, q => by
    obtain ⟨h1, h2⟩ := List.pairwise_cons.1 h
    unfold insM
    by_cases c1 : o.1 > p.1
    · rw [if_pos c1]
      have hne : ∀ r ∈ o :: l, r.1 ≠ p.1 := fun r hr => by
        rcases List.mem_cons.1 hr with rfl | hr
        · omega
        · have := h1 r hr; omega
      constructor
      · intro hq
        rcases List.mem_cons.1 hq with rfl | hq
        · exact .inr (.inr ⟨hne, rfl⟩)
        · exact .inl ⟨hq, hne q hq⟩
      · rintro (⟨hq, _⟩ | ⟨r, hr, he, _⟩ | ⟨_, rfl⟩)
        · exact List.mem_cons_of_mem _ hq
        · exact absurd he (hne r hr)
        · exact List.mem_cons_self
    · rw [if_neg c1]
      by_cases c2 : o.1 = p.1
      · rw [if_pos c2]
        constructor
        · intro hq
          rcases List.mem_cons.1 hq with rfl | hq
          · exact .inr (.inl ⟨o, List.mem_cons_self, c2, rfl⟩)
          · exact .inl ⟨List.mem_cons_of_mem _ hq, by have := h1 q hq; omega⟩
        · rintro (⟨hq, hne⟩ | ⟨r, hr, he, rfl⟩ | ⟨hall, _⟩)
          · rcases List.mem_cons.1 hq with rfl | hq
            · exact absurd c2 hne
            · exact List.mem_cons_of_mem _ hq
          · rcases List.mem_cons.1 hr with rfl | hr
            · exact List.mem_cons_self
            · have := h1 r hr; omega
          · exact absurd c2 (hall o List.mem_cons_self)
      · rw [if_neg c2, List.mem_cons, ins_mem p h2 q]
        constructor
        · rintro (rfl | ⟨hq, hne⟩ | ⟨r, hr, he, rfl⟩ | ⟨hall, rfl⟩)
          · exact .inl ⟨List.mem_cons_self, c2⟩
          · exact .inl ⟨List.mem_cons_of_mem _ hq, hne⟩
          · exact .inr (.inl ⟨r, List.mem_cons_of_mem _ hr, he, rfl⟩)
          · exact .inr (.inr ⟨fun r hr => by
              rcases List.mem_cons.1 hr with rfl | hr
              · exact c2
              · exact hall r hr, rfl⟩)
        · rintro (⟨hq, hne⟩ | ⟨r, hr, he, rfl⟩ | ⟨hall, rfl⟩)
          · rcases List.mem_cons.1 hq with rfl | hq
            · exact .inl rfl
            · exact .inr (.inl ⟨hq, hne⟩)
          · rcases List.mem_cons.1 hr with rfl | hr
            · exact absurd he c2
            · exact .inr (.inr (.inl ⟨r, hr, he, rfl⟩))
          · exact .inr (.inr (.inr ⟨fun r hr => hall r (List.mem_cons_of_mem _ hr), rfl⟩))
theorem ins_inc (p : PitT) : ∀ {l : List PitT}, (l.Pairwise fun p q => p.1 < q.1) → (insM l p).Pairwise fun p q => p.1 < q.1
  | [], _ => by simp [insM]
  | o :: l, h => by
    obtain ⟨h1, h2⟩ := List.pairwise_cons.1 h
    unfold insM
    by_cases c1 : o.1 > p.1
    · rw [if_pos c1]
      refine List.pairwise_cons.2 ⟨fun q hq => ?_, h⟩
      rcases List.mem_cons.1 hq with rfl | hq
      · exact c1
      · have := h1 q hq; omega
    · rw [if_neg c1]
      by_cases c2 : o.1 = p.1
      · rw [if_pos c2]
        exact List.pairwise_cons.2 ⟨fun q hq => h1 q hq, h2⟩
      · rw [if_neg c2]
        refine List.pairwise_cons.2 ⟨fun q hq => ?_, ins_inc p h2⟩
        rcases (ins_mem p h2 q).1 hq with ⟨hq, _⟩ | ⟨r, hr, _, rfl⟩ | ⟨_, rfl⟩
        · exact h1 q hq
        · exact h1 r hr
        · omega
theorem ins_len (p : PitT) : ∀ l : List PitT, (insM l p).length ≤ l.length + 1
  | [] => Nat.le_refl _
  | o :: l => by
    have := ins_len p l
    unfold insM
    split
    · simp
    · split <;> simp
      omega
theorem both_in {a b : Span} {v : Int} : In (bothM a b) v ↔ In a v ∧ In b v := by
  unfold In bothM
  dsimp only
  constructor
  · rintro ⟨h1, h2⟩; exact ⟨⟨by omega, by omega⟩, by omega, by omega⟩
  · rintro ⟨⟨h1, h2⟩, h3, h4⟩; exact ⟨by omega, by omega⟩
/-- What all pits tell, told of a row with one more. -/
theorem ins_all {l : List PitT} (hl : l.Pairwise fun p q => p.1 < q.1) (p : PitT) (F : PitT → Prop) (hF : ∀ o, o.1 = p.1 → (F (mergeM o p) ↔ F o ∧ F p)) : (∀ q ∈ insM l p, F q) ↔ (∀ q ∈ l, F q) ∧ F p := by
  constructor
  · intro h
    by_cases hc : ∃ o ∈ l, o.1 = p.1
    · obtain ⟨o, ho, he⟩ := hc
      have hm := (hF o he).1 (h _ ((ins_mem p hl _).2 (.inr (.inl ⟨o, ho, he, rfl⟩))))
      refine ⟨fun q hq => ?_, hm.2⟩
      by_cases hq2 : q.1 = p.1
      · rw [pit_uniq hl hq ho (by omega)]; exact hm.1
      · exact h q ((ins_mem p hl _).2 (.inl ⟨hq, hq2⟩))
    · have hall : ∀ o ∈ l, o.1 ≠ p.1 := fun o ho he => hc ⟨o, ho, he⟩
      exact ⟨fun q hq => h q ((ins_mem p hl _).2 (.inl ⟨hq, hall q hq⟩)), h p ((ins_mem p hl _).2 (.inr (.inr ⟨hall, rfl⟩)))⟩
  · rintro ⟨h1, h2⟩ q hq
    rcases (ins_mem p hl _).1 hq with ⟨hq, _⟩ | ⟨o, ho, he, rfl⟩ | ⟨_, rfl⟩
    · exact h1 q hq
    · exact (hF o he).2 ⟨h1 o ho, h2⟩
    · exact h2
theorem htr_with {g : GroundT} (hg : GOk g) (p : PitT) (h : Int → Int) : HTr (withGM g p) h ↔ HTr g h ∧ In p.2.1 (h p.1) := by
  have hi := ins_all hg.inc p (fun q => q.2.1.1 ≤ h q.1 ∧ h q.1 ≤ q.2.1.2) fun o he => by
    show In (bothM o.2.1 p.2.1) (h o.1) ↔ In o.2.1 (h o.1) ∧ In p.2.1 (h p.1)
    rw [both_in, he]
  rw [← with_ins p hg.inc] at hi
  constructor
  · rintro ⟨h1, h2, h3⟩
    obtain ⟨h4, h5⟩ := hi.1 h3
    exact ⟨⟨h1, h2, h4⟩, h5⟩
  · rintro ⟨⟨h1, h2, h3⟩, h4⟩
    exact ⟨h1, h2, hi.2 ⟨h3, h4⟩⟩
/-- A mix that a pit lets in. -/
def Fit (p : PitT) (x : T3) : Prop := In p.2.2.1 x.1 ∧ In p.2.2.2.1 x.2.1 ∧ In p.2.2.2.2 x.2.2
theorem merge_fit (o p : PitT) (x : T3) : Fit (mergeM o p) x ↔ Fit o x ∧ Fit p x := by
  unfold Fit mergeM
  dsimp only
  rw [both_in, both_in, both_in]
  constructor
  · rintro ⟨⟨h1, h2⟩, ⟨h3, h4⟩, h5, h6⟩; exact ⟨⟨h1, h3, h5⟩, h2, h4, h6⟩
  · rintro ⟨⟨h1, h3, h5⟩, h2, h4, h6⟩; exact ⟨⟨h1, h2⟩, ⟨h3, h4⟩, h5, h6⟩
theorem al_with {g : GroundT} (hg : GOk g) (p : PitT) (k : Nat) (x : T3) : Al (withGM g p) k x ↔ Al g k x ∧ (p.1 = (k : Int) → Fit p x) := by
  have hi := ins_all hg.inc p (fun q => q.1 = (k : Int) → Fit q x) fun o he => by
    show (o.1 = (k : Int) → Fit (mergeM o p) x) ↔ _
    rw [merge_fit, he]
    exact ⟨fun h => ⟨fun e => (h e).1, fun e => (h e).2⟩, fun h e => ⟨h.1 e, h.2 e⟩⟩
  rw [← with_ins p hg.inc] at hi
  constructor
  · rintro ⟨h1, h2⟩
    obtain ⟨h3, h4⟩ := hi.1 h2
    exact ⟨⟨h1, h3⟩, h4⟩
  · rintro ⟨⟨h1, h2⟩, h3⟩
    exact ⟨h1, hi.2 ⟨h2, h3⟩⟩
theorem mtr_with {g : GroundT} (hg : GOk g) (p : PitT) {a : Nat} (ha : p.1 = (a : Int)) (hn : a < nM g) (m : Nat → T3) : MTr (withGM g p) m ↔ MTr g m ∧ Fit p (m a) := by
  constructor
  · rintro ⟨h1, h2⟩
    exact ⟨⟨fun k hk => ((al_with hg p k _).1 (h1 k hk)).1, h2⟩, ((al_with hg p a _).1 (h1 a hn)).2 ha⟩
  · rintro ⟨⟨h1, h2⟩, h3⟩
    exact ⟨fun k hk => (al_with hg p k _).2 ⟨h1 k hk, fun e => by rwa [show k = a by omega]⟩, h2⟩
/-- A span that is valid, or of one number. -/
def SpOne (s : Span) (n : Int) : Prop := SpOk s n ∨ s.1 = s.2
structure POne (p : PitT) : Prop where
  hard : SpOne p.2.1 1000
  sand : SpOne p.2.2.1 20
  silt : SpOne p.2.2.2.1 20
  clay : SpOne p.2.2.2.2 20
theorem sp_one {s : Span} {n v : Int} (h : SpOne s n) (hv : In s v) (h0 : 0 ≤ v ∧ v ≤ n) : SpOk s n := by
  rcases h with h | h
  · exact h
  · obtain ⟨h1, h2⟩ := hv
    exact ⟨by omega, by omega, by omega⟩
theorem sp_both {a b : Span} {n v : Int} (h : SpOk a n) (ha : In a v) (hb : In b v) : SpOk (bothM a b) n := by
  obtain ⟨h1, h2, h3⟩ := h
  obtain ⟨h4, h5⟩ := ha
  obtain ⟨h6, h7⟩ := hb
  unfold SpOk bothM
  dsimp only
  exact ⟨by omega, by omega, by omega⟩
theorem with_gok {g : GroundT} (hg : GOk g) (h7 : g.pits.length ≤ 7) {p : PitT} (hp : POne p) (hpl : Pl g p.1) {h : Int → Int} {m : Nat → T3} {a : Nat} (ha : p.1 = (a : Int)) (hn : a < nM g) (th : HTr g h) (tm : MTr g m) (f1 : In p.2.1 (h p.1)) (f2 : Fit p (m a)) : GOk (withGM g p) where
  long := hg.long
  rise := hg.rise
  change := hg.change
  len := by
    show (withM g.pits p).length ≤ 8
    rw [with_ins p hg.inc]
    have := ins_len p g.pits
    omega
  inc := by
    show (withM g.pits p).Pairwise _
    rw [with_ins p hg.inc]; exact ins_inc p hg.inc
  pits := fun q hq => by
    have hq' : q ∈ insM g.pits p := by rw [← with_ins p hg.inc]; exact hq
    obtain ⟨⟨x0, x1, x2, x3⟩, xp⟩ := tm.al a hn
    obtain ⟨k1, k2, k3⟩ := f2
    rcases (ins_mem p hg.inc q).1 hq' with ⟨hq, _⟩ | ⟨o, ho, he, rfl⟩ | ⟨_, rfl⟩
    · exact hg.pits q hq
    · have ok := hg.pits o ho
      have hh := th.pits o ho
      obtain ⟨j1, j2, j3⟩ := xp o ho (by omega)
      rw [he] at hh
      exact ⟨ok.at_, sp_both ok.hard hh f1, sp_both ok.sand j1 k1, sp_both ok.silt j2 k2, sp_both ok.clay j3 k3⟩
    · exact ⟨hpl, sp_one hp.hard f1 (th.bound _ hpl), sp_one hp.sand k1 ⟨x1, by omega⟩, sp_one hp.silt k2 ⟨x2, by omega⟩, sp_one hp.clay k3 ⟨x3, by omega⟩⟩
theorem can_iff {g : GroundT} (hg : GOk g) (h7 : g.pits.length ≤ 7) {p : PitT} (hp : POne p) {a : Nat} (ha : p.1 = (a : Int)) (hn : a < nM g) : canM g p = true ↔ ∃ h m, HTr g h ∧ MTr g m ∧ In p.2.1 (h p.1) ∧ Fit p (m a) := by
  have hpl : Pl g p.1 := by rw [ha]; exact pl_of hg hn
  unfold canM
  rw [Bool.and_eq_true]
  constructor
  · rintro ⟨h1, h2⟩
    have ok := ground_ok h1
    have hl : lookM (withGM g p) = true := by
      have e := hard_told h1 (k := 0) ⟨Int.le_refl _, ok.long.1⟩
      rw [e] at h2
      cases hc : lookM (withGM g p) with
      | true => rfl
      | false => rw [hc] at h2; exact absurd h2 (by simp)
    obtain ⟨⟨h, th⟩, m, tm⟩ := (look_truth ok).1 hl
    obtain ⟨t1, t2⟩ := (htr_with hg p h).1 th
    obtain ⟨t3, t4⟩ := (mtr_with hg p ha hn m).1 tm
    exact ⟨h, m, t1, t3, t2, t4⟩
  · rintro ⟨h, m, th, tm, f1, f2⟩
    have ok := with_gok hg h7 hp hpl ha hn th tm f1 f2
    have h1 := ground_of ok
    have hl := (look_truth ok).2 ⟨⟨h, (htr_with hg p h).2 ⟨th, f1⟩⟩, m, (mtr_with hg p ha hn m).2 ⟨tm, f2⟩⟩
    refine ⟨h1, ?_⟩
    rw [hard_told h1 (k := 0) ⟨Int.le_refl _, ok.long.1⟩, hl]; rfl
/-! ### the ends -/
theorem all_sp (n : Int) (h : 0 ≤ n) : SpOk (0, n) n := ⟨Int.le_refl _, h, Int.le_refl _⟩
theorem all_in {g : GroundT} {m : Nat → T3} (t : MTr g m) {a : Nat} (hn : a < nM g) : In (0, 20) (m a).1 ∧ In (0, 20) (m a).2.1 ∧ In (0, 20) (m a).2.2 := by
  obtain ⟨⟨x0, x1, x2, x3⟩, _⟩ := t.al a hn
  unfold In
  dsimp only
  exact ⟨⟨x1, by omega⟩, ⟨x2, by omega⟩, x3, by omega⟩
theorem can_hard {g : GroundT} (hg : GOk g) (h7 : g.pits.length ≤ 7) (hl : lookM g = true) {a : Nat} (hn : a < nM g) (n : Int) : canM g (toldPM 0 (a : Int) n) = true ↔ In (hardM g (a : Int)) n := by
  have hp : POne (toldPM 0 (a : Int) n) := ⟨.inr rfl, .inl (all_sp 20 (by decide)), .inl (all_sp 20 (by decide)), .inl (all_sp 20 (by decide))⟩
  rw [can_iff hg h7 hp (a := a) rfl hn]
  constructor
  · rintro ⟨h, m, th, tm, ⟨f1, f2⟩, f3⟩
    have e : h (a : Int) = n := by
      have f1' : n ≤ h (a : Int) := f1
      have f2' : h (a : Int) ≤ n := f2
      omega
    rw [← e]
    exact th.inside hg (pl_of hg hn)
  · rintro ⟨h1, h2⟩
    obtain ⟨_, m, tm⟩ := (look_truth hg).1 hl
    have th := hard_any hg (look_hok hg hl) (pl_of hg hn) h1 h2
    have e := hard_any_at (g := g) (a := (a : Int)) (n := n) h1
    refine ⟨_, m, th, tm, ?_, all_in tm hn⟩
    show n ≤ max (hardM g (a : Int)).1 (n - D (a : Int) (a : Int) * g.rise) ∧ max (hardM g (a : Int)).1 (n - D (a : Int) (a : Int) * g.rise) ≤ n
    rw [e]; exact ⟨Int.le_refl _, Int.le_refl _⟩
theorem hard_in {g : GroundT} {h : Int → Int} (t : HTr g h) {a : Int} (ha : Pl g a) : In (0, 1000) (h a) := t.bound a ha
/-- A pit that tells of mixes alone. -/
theorem can_mix {g : GroundT} (hg : GOk g) (h7 : g.pits.length ≤ 7) (hl : lookM g = true) {p : PitT} (hp : POne p) (h0 : p.2.1 = (0, 1000)) {a : Nat} (ha : p.1 = (a : Int)) (hn : a < nM g) : canM g p = true ↔ ∃ x, Mem ((boxesM g).getD a m0) x ∧ Fit p x := by
  rw [can_iff hg h7 hp ha hn]
  constructor
  · rintro ⟨h, m, th, tm, f1, f2⟩
    exact ⟨m a, (box_truth hg hn _).2 ⟨m, tm, rfl⟩, f2⟩
  · rintro ⟨x, hx, hf⟩
    obtain ⟨m, tm, rfl⟩ := (box_truth hg hn x).1 hx
    obtain ⟨⟨h, th⟩, _⟩ := (look_truth hg).1 hl
    exact ⟨h, m, th, tm, by rw [h0]; exact hard_in th (by rw [ha]; exact pl_of hg hn), hf⟩
theorem mem_all {m : Mix3} (h : Good m) {x : T3} (hx : Mem m x) : In (0, 20) x.1 ∧ In (0, 20) x.2.1 ∧ In (0, 20) x.2.2 := by
  obtain ⟨h0, h1, h2, h3⟩ := hx.ok3 h
  exact ⟨⟨h1, by show x.1 ≤ 20; omega⟩, ⟨h2, by show x.2.1 ≤ 20; omega⟩, h3, by show x.2.2 ≤ 20; omega⟩
theorem can_sand {g : GroundT} (hg : GOk g) (h7 : g.pits.length ≤ 7) (hl : lookM g = true) {a : Nat} (hn : a < nM g) (n : Int) : canM g (toldPM 1 (a : Int) n) = true ↔ In ((boxesM g).getD a m0).1 n := by
  have hp : POne (toldPM 1 (a : Int) n) := ⟨.inl (all_sp 1000 (by decide)), .inr rfl, .inl (all_sp 20 (by decide)), .inl (all_sp 20 (by decide))⟩
  rw [can_mix hg h7 hl hp rfl (a := a) rfl hn]
  have hgd := (stage2 hg hn).1
  constructor
  · rintro ⟨x, hx, ⟨f1, f2⟩, _⟩
    have f1' : n ≤ x.1 := f1
    have f2' : x.1 ≤ n := f2
    rw [show n = x.1 by omega]; exact hx.2.1
  · intro h
    obtain ⟨x, hx, rfl⟩ := (box_tight hg hl hn).lowA h
    obtain ⟨_, k2, k3⟩ := mem_all hgd hx
    exact ⟨x, hx, ⟨Int.le_refl _, Int.le_refl _⟩, k2, k3⟩
theorem can_silt {g : GroundT} (hg : GOk g) (h7 : g.pits.length ≤ 7) (hl : lookM g = true) {a : Nat} (hn : a < nM g) (n : Int) : canM g (toldPM 2 (a : Int) n) = true ↔ In ((boxesM g).getD a m0).2.1 n := by
  have hp : POne (toldPM 2 (a : Int) n) := ⟨.inl (all_sp 1000 (by decide)), .inl (all_sp 20 (by decide)), .inr rfl, .inl (all_sp 20 (by decide))⟩
  rw [can_mix hg h7 hl hp rfl (a := a) rfl hn]
  have hgd := (stage2 hg hn).1
  constructor
  · rintro ⟨x, hx, _, ⟨f1, f2⟩, _⟩
    have f1' : n ≤ x.2.1 := f1
    have f2' : x.2.1 ≤ n := f2
    rw [show n = x.2.1 by omega]; exact hx.2.2.1
  · intro h
    obtain ⟨x, hx, rfl⟩ := (box_tight hg hl hn).lowB h
    obtain ⟨k1, _, k3⟩ := mem_all hgd hx
    exact ⟨x, hx, k1, ⟨Int.le_refl _, Int.le_refl _⟩, k3⟩
theorem can_clay {g : GroundT} (hg : GOk g) (h7 : g.pits.length ≤ 7) (hl : lookM g = true) {a : Nat} (hn : a < nM g) (n : Int) : canM g (toldPM 3 (a : Int) n) = true ↔ In ((boxesM g).getD a m0).2.2 n := by
  have hp : POne (toldPM 3 (a : Int) n) := ⟨.inl (all_sp 1000 (by decide)), .inl (all_sp 20 (by decide)), .inl (all_sp 20 (by decide)), .inr rfl⟩
  rw [can_mix hg h7 hl hp rfl (a := a) rfl hn]
  have hgd := (stage2 hg hn).1
  constructor
  · rintro ⟨x, hx, _, _, f1, f2⟩
    have f1' : n ≤ x.2.2 := f1
    have f2' : x.2.2 ≤ n := f2
    rw [show n = x.2.2 by omega]; exact hx.2.2.2
  · intro h
    obtain ⟨x, hx, rfl⟩ := (box_tight hg hl hn).lowC h
    obtain ⟨k1, k2, _⟩ := mem_all hgd hx
    exact ⟨x, hx, k1, k2, Int.le_refl _, Int.le_refl _⟩
theorem spc (lo hi n : Int) (h : (decide (0 ≤ lo) && decide (lo ≤ hi) && decide (hi ≤ n)) = true) : SpOk (lo, hi) n := by
  simp only [Bool.and_eq_true, decide_eq_true_eq] at h
  exact ⟨h.1.1, h.1.2, h.2⟩
/-- The pits that tell of a class. -/
def clsPM : Nat → Int → PitT
  | 0, a => (a, (0, 1000), (0, 13), (0, 11), 0, 7)
  | 1, a => (a, (0, 1000), (14, 20), (0, 20), 0, 7)
  | 2, a => (a, (0, 1000), (0, 13), (12, 20), 0, 7)
  | _, a => (a, (0, 1000), (0, 20), (0, 20), 8, 20)
theorem cls_fit {x : T3} (h : Ok3 x) (a : Int) : (Fit (clsPM 0 a) x ↔ clsM x = 0) ∧ (Fit (clsPM 1 a) x ↔ clsM x = 1) ∧ (Fit (clsPM 2 a) x ↔ clsM x = 2) ∧ (Fit (clsPM 3 a) x ↔ clsM x = 3) := by
  obtain ⟨h0, h1, h2, h3⟩ := h
  simp only [Fit, clsPM, In, clsM]
  refine ⟨?_, ?_, ?_, ?_⟩ <;> split <;> (try split) <;> (try split) <;> constructor <;> intro k <;> first | (exact ⟨⟨by omega, by omega⟩, ⟨by omega, by omega⟩, by omega, by omega⟩) | omega
theorem can_cls {g : GroundT} (hg : GOk g) (h7 : g.pits.length ≤ 7) (hl : lookM g = true) {a : Nat} (hn : a < nM g) : ∃ c3 c1 c2 c0 : Bool, classesM ((boxesM g).getD a m0) = bitsM c3 c1 c2 c0 ∧ canM g (clsPM 0 (a : Int)) = c0 ∧ canM g (clsPM 1 (a : Int)) = c1 ∧ canM g (clsPM 2 (a : Int)) = c2 ∧ canM g (clsPM 3 (a : Int)) = c3 ∧ (c3 || c1 || c2 || c0) = true := by
  have hgd := (stage2 hg hn).1
  obtain ⟨c3, c1, c2, c0, e, i3, i1, i2, i0⟩ := class_bits hgd
  have hb : ∀ b c : Bool, (b = true ↔ c = true) → b = c := by decide
  have a20 := all_sp 20 (by decide)
  have a1000 := all_sp 1000 (by decide)
  refine ⟨c3, c1, c2, c0, e, hb _ _ ?_, hb _ _ ?_, hb _ _ ?_, hb _ _ ?_, ?_⟩
  · rw [can_mix hg h7 hl (p := clsPM 0 (a : Int)) ⟨.inl a1000, .inl (spc 0 13 20 (by decide)), .inl (spc 0 11 20 (by decide)), .inl (spc 0 7 20 (by decide))⟩ rfl (a := a) rfl hn, i0]
    exact exists_congr fun x => ⟨fun ⟨p, q⟩ => ⟨p, (cls_fit (p.ok3 hgd) _).1.1 q⟩, fun ⟨p, q⟩ => ⟨p, (cls_fit (p.ok3 hgd) _).1.2 q⟩⟩
  · rw [can_mix hg h7 hl (p := clsPM 1 (a : Int)) ⟨.inl a1000, .inl (spc 14 20 20 (by decide)), .inl (spc 0 20 20 (by decide)), .inl (spc 0 7 20 (by decide))⟩ rfl (a := a) rfl hn, i1]
    exact exists_congr fun x => ⟨fun ⟨p, q⟩ => ⟨p, (cls_fit (p.ok3 hgd) _).2.1.1 q⟩, fun ⟨p, q⟩ => ⟨p, (cls_fit (p.ok3 hgd) _).2.1.2 q⟩⟩
  · rw [can_mix hg h7 hl (p := clsPM 2 (a : Int)) ⟨.inl a1000, .inl (spc 0 13 20 (by decide)), .inl (spc 12 20 20 (by decide)), .inl (spc 0 7 20 (by decide))⟩ rfl (a := a) rfl hn, i2]
    exact exists_congr fun x => ⟨fun ⟨p, q⟩ => ⟨p, (cls_fit (p.ok3 hgd) _).2.2.1.1 q⟩, fun ⟨p, q⟩ => ⟨p, (cls_fit (p.ok3 hgd) _).2.2.1.2 q⟩⟩
  · rw [can_mix hg h7 hl (p := clsPM 3 (a : Int)) ⟨.inl a1000, .inl (spc 0 20 20 (by decide)), .inl (spc 0 20 20 (by decide)), .inl (spc 8 20 20 (by decide))⟩ rfl (a := a) rfl hn, i3]
    exact exists_congr fun x => ⟨fun ⟨p, q⟩ => ⟨p, (cls_fit (p.ok3 hgd) _).2.2.2.1 q⟩, fun ⟨p, q⟩ => ⟨p, (cls_fit (p.ok3 hgd) _).2.2.2.2 q⟩⟩
  · obtain ⟨x, hx⟩ := (box_tight hg hl hn).ex
    have hcases : clsM x = 3 ∨ clsM x = 1 ∨ clsM x = 2 ∨ clsM x = 0 := by unfold clsM; split <;> (try split) <;> (try split) <;> simp
    rcases hcases with h | h | h | h
    · rw [i3.2 ⟨x, hx, h⟩]; rfl
    · rw [i1.2 ⟨x, hx, h⟩]; cases c3 <;> rfl
    · rw [i2.2 ⟨x, hx, h⟩]; cases c3 <;> cases c1 <;> rfl
    · rw [i0.2 ⟨x, hx, h⟩]; cases c3 <;> cases c1 <;> cases c2 <;> rfl
end AE.Soil

namespace AE.Soil
open Go AE Go.Proofs

/-- The place that is made at a number. -/
def plM (l : List Int) (k : Nat) : Pl4 := (stM l (k + 1)).1
def placesM (l : List Int) : List Pl4 := (stM l (mnM l)).2.2.1
def pitsOM (l : List Int) : List PitT := (stM l (mnM l)).2.2.2
/-- The ground that is made. -/
def mgM (l : List Int) : GroundT := ⟨mlongM l, mriseM l, mchM l, pitsOM l⟩
def tsumM (l : List Int) : Nat → Int
  | 0 => 0
  | k + 1 => tsumM l k + (plM l k).1

theorem pl_go (l : List Int) (k : Nat) : plM l k = (goM l (mriseM l) (mchM l) k (stM l k).1 (stM l k).2.1).1 := by
  show (putM l k (stM l k) (goM l (mriseM l) (mchM l) k (stM l k).1 (stM l k).2.1)).1 = _
  unfold putM; split <;> rfl
theorem st_places (l : List Int) : ∀ j, (stM l j).2.2.1 = (List.range j).map (plM l)
  | 0 => rfl
  | j + 1 => by
    rw [List.range_succ, List.map_append, ← st_places l j]
    have e := pl_go l j
    show (putM l j (stM l j) (goM l (mriseM l) (mchM l) j (stM l j).1 (stM l j).2.1)).2.2.1 = _
    unfold putM
    split <;> (show _ ++ [_] = _ ++ [plM l j]; rw [e])
theorem places_len (l : List Int) : (placesM l).length = mnM l := by unfold placesM; rw [st_places]; simp
theorem places_get (l : List Int) {k : Nat} (h : k < mnM l) (d : Pl4) : (placesM l).getD k d = plM l k := by
  unfold placesM; rw [st_places, map_get _ _ _ _ h]
theorem pl_pb (l : List Int) (k : Nat) : PB (plM l k) := (st_b l (k + 1)).p
theorem pl_ok3 (l : List Int) (k : Nat) : Ok3 (plM l k).2 := by
  obtain ⟨h1, h2, h3, h4, h5⟩ := pl_pb l k
  exact ⟨h5, h2, h3, h4⟩
theorem move_near (l : List Int) {ch c : Int} (hc : 0 ≤ ch) {p : Pl4} (h : PB p) : Near ch p.2 (moveM l ch c p).1.2 := by
  obtain ⟨n0, n1, n2⟩ := how_b l (c := c) hc h
  obtain ⟨h1, h2, h3, h4, h5⟩ := h
  unfold moveM Near
  split
  · exact ⟨⟨by dsimp only; omega, by dsimp only; omega⟩, ⟨by dsimp only; omega, by dsimp only; omega⟩, by dsimp only; omega, by dsimp only; omega⟩
  · rename_i hne
    revert n0 n1 n2
    generalize howM l ch c p = n
    intro n0 n1 n2
    rcases d3_cases l (c + 1) with e1 | e1 | e1 <;> rcases d3_cases l (c + 1 + 1) with e2 | e2 | e2 <;> rw [e1, e2] at hne <;> first | (exact absurd rfl hne) | skip
    all_goals
      rw [e1, e2]
      simp only [paddM, show ((1 : Int) = 0) = False by decide, show ((2 : Int) = 0) = False by decide, show ((2 : Int) = 1) = False by decide, show ((0 : Int) = 1) = False by decide, show ((0 : Int) = 2) = False by decide, show ((1 : Int) = 2) = False by decide, if_true, if_false]
      exact ⟨⟨by omega, by omega⟩, ⟨by omega, by omega⟩, by omega, by omega⟩
theorem move_near' (l : List Int) {ch c : Int} (hc : 0 ≤ ch) (h' : Int) (q : T3) (h : PB (h', q)) : Near ch q (moveM l ch c (h', q)).1.2 := move_near l hc h
theorem pl_suc (l : List Int) (k : Nat) : plM l (k + 1) = (moveM l (mchM l) (stM l (k + 1)).2.1 (hstepM l (mriseM l) (stM l (k + 1)).2.1 (plM l k).1, (plM l k).2)).1 := by
  rw [pl_go]
  unfold goM
  rw [if_neg (by omega)]; rfl
theorem pl_near (l : List Int) (k : Nat) : Near (mchM l) (plM l k).2 (plM l (k + 1)).2 := by
  have hp : PB (hstepM l (mriseM l) (stM l (k + 1)).2.1 (plM l k).1, (plM l k).2) := by
    have h := pl_pb l k
    exact ⟨by unfold hstepM; dsimp only; omega, h.a, h.b, h.c, h.s⟩
  rw [pl_suc l k]
  exact move_near' l (ch_b l).1 _ _ hp
theorem pl_hard (l : List Int) (k : Nat) : (plM l (k + 1)).1 ≤ (plM l k).1 + mriseM l ∧ (plM l k).1 ≤ (plM l (k + 1)).1 + mriseM l := by
  have h := (pl_pb l k).h
  have hr := rise_b l
  have hp : PB (hstepM l (mriseM l) (stM l (k + 1)).2.1 (plM l k).1, (plM l k).2) := by
    have h := pl_pb l k
    exact ⟨by unfold hstepM; dsimp only; omega, h.a, h.b, h.c, h.s⟩
  have e := (move_b l (c := (stM l (k + 1)).2.1) (ch_b l).1 hp).2.2.2
  rw [← pl_suc] at e
  rw [e]
  have hd := drawM_lt l (stM l (k + 1)).2.1 (show 0 < 2 * mriseM l + 1 by omega)
  unfold hstepM
  dsimp only
  omega
theorem around_in (l : List Int) (c : Int) {n w h : Int} (hw : 0 < w) (h0 : 0 ≤ n) (h1 : n ≤ h) : In (aroundM l c n w h) n ∧ SpOk (aroundM l c n w h) h := by
  have d1 := drawM_lt l c hw
  have d2 := drawM_lt l (c + 1) hw
  unfold aroundM In SpOk
  dsimp only
  exact ⟨⟨by omega, by omega⟩, by omega, by omega, by omega⟩
structure PitAt (l : List Int) (k : Nat) (p : PitT) : Prop where
  at_ : p.1 = (k : Int)
  h : In p.2.1 (plM l k).1
  f : Fit p (plM l k).2
  s1 : SpOk p.2.1 1000
  s2 : SpOk p.2.2.1 20
  s3 : SpOk p.2.2.2.1 20
  s4 : SpOk p.2.2.2.2 20
theorem pitD_at (l : List Int) (k : Nat) (c : Int) : PitAt l k (pitDM l k (plM l k) c) := by
  obtain ⟨h1, h2, h3, h4, h5⟩ := pl_pb l k
  have a1 := around_in l c (w := 30) (h := 1000) (by decide) h1.1 h1.2
  have a2 := around_in l (c + 2) (n := (plM l k).2.1) (w := 3) (h := 20) (by decide) h2 (by omega)
  have a3 := around_in l (c + 2 + 2) (n := (plM l k).2.2.1) (w := 3) (h := 20) (by decide) h3 (by omega)
  have a4 := around_in l (c + 2 + 2 + 2) (n := (plM l k).2.2.2) (w := 3) (h := 20) (by decide) h4 (by omega)
  exact ⟨rfl, a1.1, ⟨a2.1, a3.1, a4.1⟩, a1.2, a2.2, a3.2, a4.2⟩
theorem st_pits (l : List Int) : ∀ j, (∀ p ∈ (stM l j).2.2.2, ∃ k, k < j ∧ PitAt l k p) ∧ (stM l j).2.2.2.Pairwise fun p q => p.1 < q.1
  | 0 => ⟨fun p hp => absurd hp (by simp [stM]), by simp [stM]⟩
  | j + 1 => by
    obtain ⟨i1, i2⟩ := st_pits l j
    have e := pl_go l j
    have key : ∀ s : MSt, s = putM l j (stM l j) (goM l (mriseM l) (mchM l) j (stM l j).1 (stM l j).2.1) → (∀ p ∈ s.2.2.2, ∃ k, k < j + 1 ∧ PitAt l k p) ∧ s.2.2.2.Pairwise fun p q => p.1 < q.1 := by
      intro s hs
      unfold putM at hs
      split at hs
      · subst hs
        rw [← e]
        refine ⟨fun p hp => ?_, ?_⟩
        · rcases List.mem_append.1 hp with hp | hp
          · obtain ⟨k, hk, hh⟩ := i1 p hp; exact ⟨k, by omega, hh⟩
          · rw [List.mem_singleton] at hp
            subst hp
            exact ⟨j, Nat.lt_succ_self j, pitD_at l j _⟩
        · refine List.pairwise_append.2 ⟨i2, by simp, fun p hp q hq => ?_⟩
          rw [List.mem_singleton] at hq
          subst hq
          obtain ⟨k, hk, hh⟩ := i1 p hp
          rw [hh.at_]
          show (k : Int) < (j : Int); omega
      · subst hs
        exact ⟨fun p hp => by obtain ⟨k, hk, hh⟩ := i1 p hp; exact ⟨k, by omega, hh⟩, i2⟩
    exact key (stM l (j + 1)) rfl
theorem mg_n (l : List Int) : nM (mgM l) = mnM l := rfl
theorem mg_ok (l : List Int) : GOk (mgM l) where
  long := by have := long_b l; exact ⟨this.1, by show mlongM l ≤ 40; omega⟩
  rise := by have := rise_b l; exact ⟨this.1, by show mriseM l ≤ 1000; omega⟩
  change := by have := ch_b l; exact ⟨this.1, by show mchM l ≤ 20; omega⟩
  len := (st_b l (mnM l)).t
  pits := fun p hp => by
    obtain ⟨k, hk, hh⟩ := (st_pits l (mnM l)).1 p hp
    have hm := mn_b l
    refine ⟨⟨by rw [hh.at_]; omega, ?_⟩, hh.s1, hh.s2, hh.s3, hh.s4⟩
    show p.1 ≤ mlongM l
    rw [hh.at_]; omega
  inc := (st_pits l (mnM l)).2
theorem mg_h (l : List Int) : HTr (mgM l) fun k => (plM l k.toNat).1 where
  bound := fun k _ => (pl_pb l k.toNat).h
  step := fun k hk _ => by
    have := pl_hard l k.toNat
    have h0 := hk.1
    rw [show (k + 1).toNat = k.toNat + 1 by omega]
    exact this
  pits := fun p hp => by
    obtain ⟨k, hk, hh⟩ := (st_pits l (mnM l)).1 p hp
    have := hh.h
    rw [hh.at_, Int.toNat_natCast]
    exact this
theorem mg_m (l : List Int) : MTr (mgM l) fun k => (plM l k).2 where
  al := fun k _ => ⟨pl_ok3 l k, fun p hp he => by
    obtain ⟨j, hj, hh⟩ := (st_pits l (mnM l)).1 p hp
    have : j = k := by have := hh.at_; omega
    subst this
    exact hh.f⟩
  near := fun k _ => pl_near l k
theorem mg_look (l : List Int) : lookM (mgM l) = true := (look_truth (mg_ok l)).2 ⟨⟨_, mg_h l⟩, _, mg_m l⟩
theorem mg_ground (l : List Int) : groundM (mgM l) = true := ground_of (mg_ok l)
theorem mg_mem (l : List Int) {k : Nat} (h : k < mnM l) : Mem ((boxesM (mgM l)).getD k m0) (plM l k).2 := (box_truth (mg_ok l) h _).2 ⟨_, mg_m l, rfl⟩
theorem mg_sum (l : List Int) : ∀ i, i ≤ mnM l → (sumM (mgM l) 0 i).1 ≤ tsumM l i ∧ tsumM l i ≤ (sumM (mgM l) 0 i).2 ∧ 0 ≤ tsumM l i ∧ tsumM l i ≤ 1000 * i
  | 0, _ => by simp [sumM, tsumM]
  | i + 1, h => by
    obtain ⟨h1, h2, h3, h4⟩ := mg_sum l i (by omega)
    have hk := pl_of (mg_ok l) (show i < nM (mgM l) from h)
    have := (mg_h l).inside (mg_ok l) hk
    have hb := (pl_pb l i).h
    rw [Int.toNat_natCast] at this
    have e : ((0 + i : Nat) : Int) = (i : Int) := by omega
    unfold sumM tsumM
    rw [e]
    dsimp only
    omega
/-! ### classes -/
theorem rof_cls {x : T3} (h : Ok3 x) : rofM (x.1, x.2.1) = clsM x := by
  obtain ⟨h0, h1, h2, h3⟩ := h
  have e : rclayM (x.1, x.2.1) = x.2.2 := by
    unfold rclayM
    dsimp only
    rw [show W (20 - x.1) = 20 - x.1 from wrap_id (by omega) (by omega), show W (20 - x.1 - x.2.1) = 20 - x.1 - x.2.1 from wrap_id (by omega) (by omega)]
    omega
  unfold rofM clsM
  rw [e]
theorem cls_range (x : T3) : clsM x = 0 ∨ clsM x = 1 ∨ clsM x = 2 ∨ clsM x = 3 := by unfold clsM; split <;> (try split) <;> (try split) <;> simp
theorem zbit0 (c3 c1 c2 : Bool) : (IntKind.i64.wrap ((BitVec.ofInt 64 ((bitsM c3 c1 c2 true).fdiv (2 ^ 0)) &&& BitVec.ofInt 64 1).toNat : Int) == 0) = false := by revert c3 c1 c2; decide
theorem zbit1 (c3 c2 c0 : Bool) : (IntKind.i64.wrap ((BitVec.ofInt 64 ((bitsM c3 true c2 c0).fdiv (2 ^ 1)) &&& BitVec.ofInt 64 1).toNat : Int) == 0) = false := by revert c3 c2 c0; decide
theorem zbit2 (c3 c1 c0 : Bool) : (IntKind.i64.wrap ((BitVec.ofInt 64 ((bitsM c3 c1 true c0).fdiv (2 ^ 2)) &&& BitVec.ofInt 64 1).toNat : Int) == 0) = false := by revert c3 c1 c0; decide
theorem zbit3 (c1 c2 c0 : Bool) : (IntKind.i64.wrap ((BitVec.ofInt 64 ((bitsM true c1 c2 c0).fdiv (2 ^ 3)) &&& BitVec.ofInt 64 1).toNat : Int) == 0) = false := by revert c1 c2 c0; decide
/-- The class of a mix is among those that are told. -/
theorem class_told_bit {m : Mix3} (h : Good m) {x : T3} (hx : Mem m x) : (IntKind.i64.wrap ((BitVec.ofInt 64 ((classesM m).fdiv (2 ^ min (rofM (x.1, x.2.1)).toNat 64)) &&& BitVec.ofInt 64 1).toNat : Int) == 0) = false := by
  obtain ⟨c3, c1, c2, c0, e, i3, i1, i2, i0⟩ := class_bits h
  rw [e, rof_cls (hx.ok3 h)]
  rcases cls_range x with hc | hc | hc | hc
  · have := i0.2 ⟨x, hx, hc⟩; subst this; rw [hc]; exact zbit0 _ _ _
  · have := i1.2 ⟨x, hx, hc⟩; subst this; rw [hc]; exact zbit1 _ _ _
  · have := i2.2 ⟨x, hx, hc⟩; subst this; rw [hc]; exact zbit2 _ _ _
  · have := i3.2 ⟨x, hx, hc⟩; subst this; rw [hc]; exact zbit3 _ _ _
theorem bits_one (c3 c1 c2 c0 : Bool) : (bitsM c3 c1 c2 c0 = 1 → c3 = false ∧ c1 = false ∧ c2 = false) ∧ (bitsM c3 c1 c2 c0 = 2 → c3 = false ∧ c2 = false ∧ c0 = false) ∧ (bitsM c3 c1 c2 c0 = 4 → c3 = false ∧ c1 = false ∧ c0 = false) ∧ (bitsM c3 c1 c2 c0 = 8 → c1 = false ∧ c2 = false ∧ c0 = false) := by revert c3 c1 c2 c0; decide
/-- What surely has a class has it. -/
theorem class_sure {m : Mix3} (h : Good m) {x : T3} (hx : Mem m x) {c : Nat} (hc : c < 4) (he : classesM m = W (1 * 2 ^ c)) : rofM (x.1, x.2.1) = (c : Int) := by
  obtain ⟨c3, c1, c2, c0, e, i3, i1, i2, i0⟩ := class_bits h
  rw [rof_cls (hx.ok3 h)]
  rw [e] at he
  obtain ⟨b0, b1, b2, b3⟩ := bits_one c3 c1 c2 c0
  have n0 : c0 = false → clsM x ≠ 0 := fun hf hh => by have := i0.2 ⟨x, hx, hh⟩; rw [hf] at this; cases this
  have n1 : c1 = false → clsM x ≠ 1 := fun hf hh => by have := i1.2 ⟨x, hx, hh⟩; rw [hf] at this; cases this
  have n2 : c2 = false → clsM x ≠ 2 := fun hf hh => by have := i2.2 ⟨x, hx, hh⟩; rw [hf] at this; cases this
  have n3 : c3 = false → clsM x ≠ 3 := fun hf hh => by have := i3.2 ⟨x, hx, hh⟩; rw [hf] at this; cases this
  have hr := cls_range x
  match c, hc with
  | 0, _ =>
    obtain ⟨f3, f1, f2⟩ := b0 (he.trans (by decide))
    have := n3 f3; have := n1 f1; have := n2 f2; show clsM x = 0; omega
  | 1, _ =>
    obtain ⟨f3, f2, f0⟩ := b1 (he.trans (by decide))
    have := n3 f3; have := n2 f2; have := n0 f0; show clsM x = 1; omega
  | 2, _ =>
    obtain ⟨f3, f1, f0⟩ := b2 (he.trans (by decide))
    have := n3 f3; have := n1 f1; have := n0 f0; show clsM x = 2; omega
  | 3, _ =>
    obtain ⟨f1, f2, f0⟩ := b3 (he.trans (by decide))
    have := n1 f1; have := n2 f2; have := n0 f0; show clsM x = 3; omega
/-! ### stretches -/
theorem str_inv (L : List Mix3) (c : Int) : ∀ i : Nat, i ≤ 1000 → (0 ≤ (strAtM L c i).2.2 ∧ (strAtM L c i).2.2 ≤ i) ∧ (-1 ≤ (strAtM L c i).2.1 ∧ (strAtM L c i).2.1 < i) ∧ (0 ≤ (strAtM L c i).1 ∧ (strAtM L c i).1 ≤ (strAtM L c i).2.1 + 1) ∧ (∀ k : Nat, (strAtM L c i).2.2 ≤ (k : Int) → k < i → classesM (L.getD k m0) = W (1 * 2 ^ c.toNat)) ∧ ∀ k : Nat, (strAtM L c i).1 ≤ (k : Int) → (k : Int) ≤ (strAtM L c i).2.1 → classesM (L.getD k m0) = W (1 * 2 ^ c.toNat)
  | 0, _ => ⟨⟨Int.le_refl _, Int.le_refl _⟩, ⟨Int.le_refl _, by show (-1 : Int) < 0; decide⟩, ⟨Int.le_refl _, by show (0 : Int) ≤ -1 + 1; decide⟩, fun k _ h => absurd h (Nat.not_lt_zero k), fun k _ h => by have h' : (k : Int) ≤ -1 := h; omega⟩
  | i + 1, hi => by
    obtain ⟨⟨b0, b1⟩, ⟨l0, l1⟩, ⟨f0, f1⟩, hb, hf⟩ := str_inv L c i (by omega)
    by_cases h : classesM (L.getD i m0) = W (1 * 2 ^ c.toNat)
    · have hb' : ∀ k : Nat, (strAtM L c i).2.2 ≤ (k : Int) → k < i + 1 → classesM (L.getD k m0) = W (1 * 2 ^ c.toNat) := fun k hk hlt => by
        rcases Nat.lt_or_eq_of_le (Nat.le_of_lt_succ hlt) with h2 | rfl
        · exact hb k hk h2
        · exact h
      by_cases h2 : W ((i : Int) - (strAtM L c i).2.2) > W ((strAtM L c i).2.1 - (strAtM L c i).1)
      · rw [str_new h h2]
        exact ⟨⟨b0, by dsimp only; omega⟩, ⟨by dsimp only; omega, by dsimp only; omega⟩, ⟨b0, by dsimp only; omega⟩, hb', fun k hk hk2 => hb' k hk (by have : (k : Int) ≤ (i : Int) := hk2; omega)⟩
      · rw [str_old h h2]
        exact ⟨⟨b0, by omega⟩, ⟨l0, by omega⟩, ⟨f0, f1⟩, hb', hf⟩
    · rw [str_no h]
      have hw : W ((i : Int) + 1) = (i : Int) + 1 := wrap_id (by omega) (by omega)
      rw [hw]
      exact ⟨⟨by dsimp only; omega, by dsimp only; omega⟩, ⟨l0, by dsimp only; omega⟩, ⟨f0, f1⟩, fun k hk hlt => by have : (i : Int) + 1 ≤ (k : Int) := hk; omega, hf⟩
theorem str_told {g : GroundT} (hg : groundM g = true) (hl : lookM g = true) {c : Int} (hc : 0 ≤ c ∧ c ≤ 3) : ((strOM g c).2.2 = 0 ∨ (strOM g c).2.2 = 4) ∧ (0 ≤ (strOM g c).1 ∧ (strOM g c).2.1 < (nM g : Int)) ∧ ((strOM g c).1 ≤ nM g) ∧ ((strOM g c).2.2 = 0 → ∀ k : Nat, (strOM g c).1 ≤ (k : Int) → (k : Int) ≤ (strOM g c).2.1 → classesM ((boxesM g).getD k m0) = W (1 * 2 ^ c.toNat)) := by
  have hn := n_ok (ground_ok hg)
  obtain ⟨_, ⟨l0, l1⟩, ⟨f0, f1⟩, _, hf⟩ := str_inv (boxesM g) c (nM g) (by omega)
  have e : strOM g c = strEndM (boxesM g) c (nM g) := by
    have ha : [c].all (askM .cls g.long) = true := by simp [askM, inM]; exact hc
    unfold strOM strErrM
    rw [err_of hg ha, hl]; rfl
  rw [e]
  unfold strEndM
  split
  · exact ⟨.inl rfl, ⟨f0, l1⟩, by dsimp only; omega, fun _ => hf⟩
  · exact ⟨.inr rfl, ⟨by decide, by dsimp only; omega⟩, by dsimp only; omega, fun h => absurd h (by simp)⟩
/-! ### a pit that was read wrong -/
def badPM (l : List PitT) (k : Nat) (n : Int) : List PitT := l.set k ((l.getD k pit0).1, (n, n), (l.getD k pit0).2.2)
theorem set_map {α β : Type} (f : α → β) (l : List α) (k : Nat) (x : α) : (l.set k x).map f = (l.map f).set k (f x) := by
  exact List.map_set
theorem bad_ok {g : GroundT} (hg : GOk g) {k : Nat} (hk : k < g.pits.length) {n : Int} (hn : 0 ≤ n ∧ n ≤ 1000) : GOk ⟨g.long, g.rise, g.change, badPM g.pits k n⟩ where
  long := hg.long
  rise := hg.rise
  change := hg.change
  len := by show (badPM g.pits k n).length ≤ 8; unfold badPM; rw [List.length_set]; exact hg.len
  pits := fun p hp => by
    have hp' : p ∈ g.pits.set k ((g.pits.getD k pit0).1, (n, n), (g.pits.getD k pit0).2.2) := hp
    rcases List.mem_or_eq_of_mem_set hp' with hp | rfl
    · exact hg.pits p hp
    · have h := hg.pits _ (getD_mem pit0 hk)
      exact ⟨h.at_, ⟨hn.1, Int.le_refl _, hn.2⟩, h.sand, h.silt, h.clay⟩
  inc := by
    show (badPM g.pits k n).Pairwise _
    unfold badPM
    have h := hg.inc
    have e : (g.pits.set k ((g.pits.getD k pit0).1, (n, n), (g.pits.getD k pit0).2.2)).map (fun p => p.1) = g.pits.map (fun p => p.1) := by
      rw [set_map]
      refine List.ext_getElem (by simp) fun j h1 h2 => ?_
      rw [List.getElem_set]
      split
      · rename_i hj
        subst hj
        have hj : k < g.pits.length := hk
        rw [List.getD_eq_getElem?_getD, List.getElem?_eq_getElem hj]; simp
      · rfl
    have h2 : (g.pits.map (fun p => p.1)).Pairwise (fun a b => a < b) := List.pairwise_map.2 h
    rw [← e] at h2
    exact List.pairwise_map.1 h2
theorem bad_less (g : GroundT) (k : Nat) (n : Int) : lessM ⟨g.long, g.rise, g.change, badPM g.pits k n⟩ k = lessM g k := by
  unfold lessM badPM
  dsimp only
  rw [List.take_set_of_le (Nat.le_refl k), List.drop_set_of_lt (by omega)]
theorem less_look {g : GroundT} (hg : GOk g) (hl : lookM g = true) (k : Nat) : lookM (lessM g k) = true := by
  obtain ⟨⟨h, th⟩, m, tm⟩ := (look_truth hg).1 hl
  have hsub := (less_sub g.pits k).subset
  exact (look_truth (less_ok hg k)).2 ⟨⟨h, th.bound, th.step, fun p hp => th.pits p (hsub hp)⟩, m, fun j hj => ⟨(tm.al j hj).1, fun p hp => (tm.al j hj).2 p (hsub hp)⟩, tm.near⟩
/-- The pits that are odd, as a number of bits. -/
def oddN (g : GroundT) : Nat → Nat
  | 0 => 0
  | i + 1 => if lookM (lessM g i) then oddN g i ||| 2 ^ i else oddN g i
theorem odd_lt (g : GroundT) : ∀ i, oddN g i < 2 ^ i
  | 0 => by simp [oddN]
  | i + 1 => by
    have := odd_lt g i
    have h2 : 2 ^ (i + 1) = 2 ^ i + 2 ^ i := by rw [Nat.pow_succ]; omega
    unfold oddN
    split
    · exact Nat.or_lt_two_pow (by omega) (by omega)
    · omega
theorem odd_bit (g : GroundT) {k : Nat} (h : lookM (lessM g k) = true) : ∀ i, k < i → (oddN g i).testBit k = true
  | 0, hk => absurd hk (Nat.not_lt_zero k)
  | i + 1, hk => by
    unfold oddN
    rcases Nat.lt_or_eq_of_le (Nat.le_of_lt_succ hk) with hlt | rfl
    · have := odd_bit g h i hlt
      split
      · rw [Nat.testBit_or, this, Bool.true_or]
      · exact this
    · rw [if_pos h, Nat.testBit_or, Nat.testBit_two_pow_self, Bool.or_true]
theorem or_nat {a b : Nat} (ha : a < 2 ^ 62) (hb : b < 2 ^ 62) : orM (a : Int) (b : Int) = ((a ||| b : Nat) : Int) := by
  unfold orM
  have hab : a ||| b < 2 ^ 62 := Nat.or_lt_two_pow ha hb
  have e1 : BitVec.ofInt 64 (a : Int) = BitVec.ofNat 64 a := by simp
  have e2 : BitVec.ofInt 64 (b : Int) = BitVec.ofNat 64 b := by simp
  rw [e1, e2, BitVec.toNat_or, BitVec.toNat_ofNat, BitVec.toNat_ofNat, Nat.mod_eq_of_lt (by omega), Nat.mod_eq_of_lt (by omega)]
  exact wrap_id (by omega) (by omega)
theorem odd_nat (g : GroundT) : ∀ i, i ≤ 8 → oddAtM g i = ((oddN g i : Nat) : Int)
  | 0, _ => rfl
  | i + 1, h => by
    have e := odd_nat g i (by omega)
    have hl := odd_lt g i
    have hp : 2 ^ i ≤ 2 ^ 8 := Nat.pow_le_pow_right (by decide) (by omega)
    unfold oddAtM oddN
    split
    · have hw : W (1 * 2 ^ i) = ((2 ^ i : Nat) : Int) := by
        rw [Int.one_mul, show (2 : Int) ^ i = ((2 ^ i : Nat) : Int) by simp]
        exact wrap_id (by omega) (by omega)
      rw [e, hw]
      exact or_nat (by omega) (by omega)
    · exact e
theorem low_bit {q : Nat} (hq : q < 2 ^ 62) (h : q % 2 = 1) : (IntKind.i64.wrap ((BitVec.ofInt 64 ((q : Nat) : Int) &&& BitVec.ofInt 64 1).toNat : Int) == 1) = true := by
  have e1 : BitVec.ofInt 64 ((q : Nat) : Int) = BitVec.ofNat 64 q := by simp
  have e2 : BitVec.ofInt 64 (1 : Int) = BitVec.ofNat 64 1 := by decide
  rw [e1, e2, BitVec.toNat_and, BitVec.toNat_ofNat, BitVec.toNat_ofNat, Nat.mod_eq_of_lt (by omega), Nat.mod_eq_of_lt (show 1 < 2 ^ 64 by decide), Nat.and_one_is_mod, h]
  decide
theorem shr_bit {n k : Nat} (hn : n < 2 ^ 62) (h : n.testBit k = true) : (IntKind.i64.wrap ((BitVec.ofInt 64 (((n : Nat) : Int).fdiv (2 ^ k)) &&& BitVec.ofInt 64 1).toNat : Int) == 1) = true := by
  have e0 : ((n : Nat) : Int).fdiv (2 ^ k) = ((n / 2 ^ k : Nat) : Int) := by
    rw [show (2 : Int) ^ k = ((2 ^ k : Nat) : Int) by simp]
    exact (Int.ofNat_fdiv n (2 ^ k)).symm
  have hd : n / 2 ^ k ≤ n := Nat.div_le_self _ _
  rw [e0]
  refine low_bit (by omega) ?_
  rw [Nat.testBit_eq_decide_div_mod_eq] at h
  simpa using h
/-- A pit that was read wrong, of a ground that has a truth otherwise. -/
theorem bad_told {g : GroundT} (hg : groundM g = true) (hl : lookM g = true) {k : Nat} (hk : k < g.pits.length) {n : Int} (hn : 0 ≤ n ∧ n ≤ 1000) : oddOM ⟨g.long, g.rise, g.change, badPM g.pits k n⟩ = (0, 4) ∨ ∃ o : Int, oddOM ⟨g.long, g.rise, g.change, badPM g.pits k n⟩ = (o, 0) ∧ (IntKind.i64.wrap ((BitVec.ofInt 64 (o.fdiv (2 ^ min k 64)) &&& BitVec.ofInt 64 1).toNat : Int) == 1) = true := by
  have ok := ground_ok hg
  have bok := bad_ok ok hk hn
  have bg := ground_of bok
  have h8 := bok.len
  have hlen : (badPM g.pits k n).length = g.pits.length := by unfold badPM; rw [List.length_set]
  unfold oddOM oddErrM
  rw [bg]
  cases hb : lookM ⟨g.long, g.rise, g.change, badPM g.pits k n⟩ with
  | true => exact .inl rfl
  | false =>
    refine .inr ⟨_, rfl, ?_⟩
    have h8' : (badPM g.pits k n).length ≤ 8 := h8
    rw [show (GroundT.mk g.long g.rise g.change (badPM g.pits k n)).pits.length = (badPM g.pits k n).length from rfl, odd_nat _ _ h8', show min k 64 = k by omega]
    have hlt := odd_lt ⟨g.long, g.rise, g.change, badPM g.pits k n⟩ (badPM g.pits k n).length
    have hp : 2 ^ (badPM g.pits k n).length ≤ 2 ^ 8 := Nat.pow_le_pow_right (by decide) h8'
    refine shr_bit (by omega) (odd_bit _ ?_ _ (by omega))
    rw [bad_less]
    exact less_look ok hl k
end AE.Soil

namespace AE.Soil
open Go AE Go.Proofs

theorem suff_of' {G : Prop} (R : Prop) (h : R → G) (hR : R) : G := h hR
theorem inside_yes {s : Span} {n : Int} (h : In s n) : insideM s n = true := by unfold insideM; rw [decide_eq_true h.1, decide_eq_true h.2]; rfl
def Tlt : Tab UU := [(8, awakeS.con), (18, drawsS.con), (17, madeS.con), (19, insideS.con), (20, pclassS.con), (23, lspanS.con), (9, hardOS.con), (11, partsOS.con), (13, classOS.con), (15, workOS.con), (21, strOS.con), (22, oddOS.con)]
theorem Tlt_ok : Tlt.Sound Try.prog := .cons awake_sound (.cons draws_sound (.cons made_sound (.cons inside_sound (.cons pclass_sound (.cons lspan_sound (.cons hardO_sound (.cons partsO_sound (.cons classO_sound (.cons workO_sound (.cons strO_sound (.cons oddO_sound .nil)))))))))))
def ltH (l : List Int) : Heap UU := [.one (.ro .u16 l), .one (.cells [.i (mlongM l), .i (mriseM l), .i (mchM l), .gs 2 0] 24), .one (.row .pit (pitsOM l) 54), .one (.row .place (placesM l) 46)]
def ltL1 (l : List Int) (a b : Int) : LSpec UU where
  T := { k : Nat // k ≤ mnM l }
  fr := fun k => [(1, .v (.int .u8 a)), (2, .v (.int .i16 b)), (7, .ptr 1 0 0 0), (8, .gs 3 0), (9, .i (tsumM l k.1)), (44, .gs 3 0), (45, .i (mnM l : Nat)), (46, .i k.1)]
  H := fun _ => ltH l
  mu := fun k => mnM l - k.1
def ltL2 (l : List Int) (a b : Int) : LSpec UU where
  T := { c : Nat // c ≤ 4 }
  fr := fun c => [(1, .v (.int .u8 a)), (2, .v (.int .i16 b)), (7, .ptr 1 0 0 0), (8, .gs 3 0), (138, .i c.1)]
  H := fun _ => ltH l
  mu := fun c => 4 - c.1
def ltL3 (l : List Int) (a b : Int) : LSpec UU where
  T := { p : Nat × Int // p.1 < 4 ∧ (strOM (mgM l) p.1).1 ≤ p.2 ∧ p.2 ≤ mnM l }
  fr := fun p => [(1, .v (.int .u8 a)), (2, .v (.int .i16 b)), (7, .ptr 1 0 0 0), (8, .gs 3 0), (22, .i p.1.1), (24, .i (strOM (mgM l) p.1.1).2.1), (25, .i (strOM (mgM l) p.1.1).2.2), (26, .i p.1.2), (138, .i p.1.1)]
  H := fun _ => ltH l
  mu := fun p => ((mnM l : Int) - p.1.2).toNat
def ltLs (l : List Int) (a b : Int) (k : Nat) : Option (LRule UU) :=
  match k with
  | 6 => some (.inv (ltL1 l a b))
  | 17 => some (.inv (ltL2 l a b))
  | 23 => some (.invR (ltL3 l a b) fun x y => y.1.1 = x.1.1)
  | _ => none
def lawTS : FSpec UU where
  X := List Int × Int × Int
  pick := fun args H => match args with
    | [a, .v (.int .u8 b), .v (.int .i16 c)] => match sliceAt .u16 H a with
      | some a => some (a, b, c)
      | _ => none
    | _ => none
  args := fun x => [.sl 0 0 0 x.1.length, .v (.int .u8 x.2.1), .v (.int .i16 x.2.2)]
  H := fun x => [.one (.ro .u16 x.1)]
  R := fun _ => .val ⟨.b true, [], [], []⟩
  pre := fun x => (x.1.length < 9223372036854775808 ∧ ∀ z ∈ x.1, 0 ≤ z ∧ z ≤ 65535) ∧ (0 ≤ x.2.1 ∧ x.2.1 ≤ 255) ∧ (-32768 ≤ x.2.2 ∧ x.2.2 ≤ 32767)
set_option maxHeartbeats 0 in
set_option maxRecDepth 100000 in
theorem lawT_ok : ∀ x, lawTS.pre x → FunOk Try.prog 4 (lawTS.args x) (lawTS.H x) (lawTS.R x) := by
  rintro ⟨l, a, b⟩ hx
  refine fun_of (T := Tlt) (L := ltLs l a b) (hs := fun _ => []) hmix Tlt_ok Try.func4 (by kernel_rfl) (by kernel_rfl) ?_
  refine Eq.mp (α :=
      let Z0 := mchM l; let Z1 := mriseM l; let Z2 := mlongM l; let Z3 : List PitT := pitsOM l; let Z4 : List Pl4 := placesM l; let Z5 := List.length l; let Z6 := fun (p : Nat × Int) => Prod.snd p; let Z7 := fun (p : Nat × Int) => Prod.fst p; let Z8 := Value.bool true; let Z9 := Value.bool false; let Z10 := nat_lit 0 = nat_lit 0 ∧ True; let Z11 := Value.int IntKind.u8 a; let Z12 := Value.int IntKind.i16 b; let Z13 := stM l (mnM l); let Z14 := IntKind.wrap IntKind.i64 a; let Z15 := IntKind.wrap IntKind.i64 b; let Z16 := nat_lit 0 = nat_lit 0 ∧ nat_lit 0 = nat_lit 0; let Z17 := (0 : Int); let Z18 := (4 : Int); let Z19 := (1 : Int); let Z20 := (2 : Int); let Z21 : List (Int × Span × Span × Span × Span) := []; let Z22 := (0 : Nat); let Z23 := (4 : Nat); let Z24 := (6 : Nat); let Z25 := Value.int IntKind.i64 Z0; let Z26 := fun (k : Nat) => k ≤ mnM l; let Z27 := (1000 : Int); let Z28 := List.length Z3; let Z29 := Value.int IntKind.i64 Z1; let Z30 := Value.int IntKind.i64 Z2; let Z31 := l = l; let Z32 := (45 : FuncId); let Z33 := (54 : TypeId); let Z34 := (46 : TypeId); let Z35 := (↑(mnM l) : Int); let Z36 := nat_lit 0 = nat_lit 0 ∧ Z16; let Z37 := (↑Z5 : Int); let Z38 := Z5 = Z5; let Z39 := Fn.func Z32; let Z40 := BitVec.ofInt (nat_lit 64) Z19; let Z41 := fun (p : Nat × Int) => (↑(Z7 p) : Int); let Z42 := Z31 ∧ True; let Z43 : List (Int × Span × Span × Span × Span) := List.drop (nat_lit 0) Z3; let Z44 := List.length Z3; let Z45 := Z8 = Z8; let Z46 := List.length Z4; let Z47 := Z8 = Z9; let Z48 := Value.int IntKind.i64 Z17; let Z49 := fun (c : Nat) => c ≤ Z23; let Z50 := Z11 = Z11; let Z51 := True ∧ Z42; let Z52 : Type := { k : Nat // Z26 k }; let Z53 := Z12 = Z12; let Z54 := Z45 ∧ True; let Z55 := Value.int IntKind.i64 Z35; let Z56 := Z47 ∧ True; let Z57 := nat_lit 0 = nat_lit 0 ∧ Z38; let Z58 := Z3 = Z3; let Z59 := fun (x : Z52) => Subtype.val x; let Z60 := Z28 < nat_lit 1000000; let Z61 := Z4 = Z4; let Z62 := fun (p : Nat × Int) => strOM (mgM l) (Z41 p); let Z63 := GroundT.mk Z2 Z1 Z0 Z3; let Z64 := Z58 ∧ True; let Z65 := fun (p : Nat × Int) => Z7 p < Z23; let Z66 := Int.tmod Z15 Z27; let Z67 := (↑Z44 : Int); let Z68 := (Z17, Z17); let Z69 := fun (x : Z52) => tsumM l (Z59 x); let Z70 : Type := { c : Nat // Z49 c }; let Z71 := (↑Z46 : Int); let Z72 := nat_lit 0 = nat_lit 0 ∧ Z57; let Z73 := Z25 = Z25; let Z74 : List (Int × Span × Span × Span × Span) := List.drop Z22 Z3; let Z75 := oddOM Z63; let Z76 := fun (p : Nat × Int) => Z6 p ≤ Z35; let Z77 := Z29 = Z29; let Z78 := Z30 = Z30; let Z79 := fun (x : Z70) => Subtype.val x; let Z80 := Z34 = Z34; let Z81 := Z33 = Z33; let Z82 := Prod.snd Z13; let Z83 := Z72 ∧ True; let Z84 := fun (x : Z52) => (↑(Z59 x) : Int); let Z85 := Z44 = Z28; let Z86 := fun (p : Nat × Int) => Prod.fst (Z62 p); let Z87 := Prod.snd Z75; let Z88 := fun (x : Z52) => Value.int IntKind.i64 (Z69 x); let Z89 := fun (t : Z52) => Int.toNat (Z84 t); let Z90 := Z73 ∧ Z10; let Z91 := nat_lit 0 = nat_lit 0 ∧ Z85; let Z92 := fun (x : Z70) => (↑(Z79 x) : Int); let Z93 := fun (x : Z52) => Value.int IntKind.i64 (Z84 x); let Z94 := Z48 = Z48; let Z95 := fun (x : Z52) => mnM l - Z59 x; let Z96 := Z54 ∧ Z51; let Z97 := Z56 ∧ Z51; let Z98 := max Z17 Z66; let Z99 := nat_lit 0 = nat_lit 0 ∧ Z91; let Z100 := Z37 == Z17; let Z101 : List (Int × Span × Span × Span × Span) := List.take Z44 Z43; let Z102 := fun (x : Z70) => nat_lit 4 - Z79 x; let Z103 := fun (x : Z70) => Value.int IntKind.i64 (Z92 x); let Z104 := True ∧ Z96; let Z105 := (Z17, Z68); let Z106 := True ∧ Z97; let Z107 := Prod.snd Z82; let Z108 := fun (p : Nat × Int) => Z86 p ≤ Z6 p; let Z109 := True ∧ Z104; let Z110 := nat_lit 2 = nat_lit 2 ∧ Z99; let Z111 := fun (t : Z52) => nat_lit 0 + Z89 t; let Z112 := fun (t : Z52) => Z84 t < Z35; let Z113 := True ∧ Z109; let Z114 := Z81 ∧ Z58; let Z115 := Z110 ∧ True; let Z116 := Z80 ∧ Z61; let Z117 := Z67 == Z17; let Z118 : List (Int × Span × Span × Span × Span) := List.take Z44 Z74; let Z119 := True ∧ Z113; let Z120 := fun (t : Z70) => Z92 t < Z18; let Z121 := Z116 ∧ True; let Z122 := fun (t : Z52) => hardOM Z63 (Z84 t); let Z123 := fun (t : Z52) => partsOM Z63 (Z84 t); let Z124 := fun (t : Z52) => classOM Z63 (Z84 t); let Z125 : List Pl4 := Prod.fst Z107; let Z126 := Z87 != Z18; let Z127 := (Z68, Z68); let Z128 := min Z27 Z98; let Z129 := fun (t : Z52) => Prod.snd (Z124 t); let Z130 := fun (t : Z52) => Prod.fst (Z124 t); let Z131 := fun (t : Z70) => strOM Z63 (Z92 t); let Z132 := Z77 ∧ Z90; let Z133 := fun (t : Z52) => Prod.snd (Z122 t); let Z134 := fun (t : Z52) => Prod.fst (Z122 t); let Z135 := fun (t : Z52) => Prod.snd (Z123 t); let Z136 := fun (t : Z52) => Prod.fst (Z123 t); let Z137 := (Z17, Z105); let Z138 := fun (t : Z52) => workOM Z63 Z17 (Z84 t); let Z139 := Value.int IntKind.i64 Z128; let Z140 := fun (t : Z52) => Prod.fst (Z134 t); let Z141 := fun (t : Z52) => Prod.snd (Z134 t); let Z142 := AV.v Z139; let Z143 := fun (t : Z70) => Prod.fst (Z131 t); let Z144 := fun (t : Z70) => Prod.snd (Z131 t); let Z145 := fun (t : Z52) => Prod.fst (Z138 t); let Z146 := fun (t : Z52) => Prod.snd (Z138 t); let Z147 := fun (p : Nat × Int) => Z108 p ∧ Z76 p; let Z148 := fun (t : Z52) => Z93 t = Z93 t; let Z149 := fun (t : Z52) => Value.int IntKind.i64 (Z141 t); let Z150 := fun (t : Z52) => Value.int IntKind.i64 (Z140 t); let Z151 := fun (t : Z70) => Prod.fst (Z144 t); let Z152 := fun (t : Z70) => Prod.snd (Z144 t); let Z153 := Z73 ∧ Z115; let Z154 := fun (t : Z52) => Prod.snd (Z136 t); let Z155 := fun (t : Z52) => Prod.fst (Z136 t); let Z156 := fun (t : Z70) => Value.int IntKind.i64 (Z143 t); let Z157 := fun (t : Z52) => Z148 t ∧ True; let Z158 := fun (t : Z52) => Prod.snd (Z145 t); let Z159 := fun (t : Z52) => Prod.fst (Z145 t); let Z160 := fun (t : Z52) => Prod.fst (Z155 t); let Z161 := fun (t : Z52) => Prod.snd (Z155 t); let Z162 := fun (t : Z70) => Value.int IntKind.i64 (Z151 t); let Z163 := fun (t : Z70) => Value.int IntKind.i64 (Z152 t); let Z164 := fun (t : Z52) => Value.int IntKind.i64 (Z158 t); let Z165 := fun (t : Z52) => Value.int IntKind.i64 (Z159 t); let Z166 := fun (t : Z52) => Prod.snd (Z154 t); let Z167 := fun (t : Z52) => Prod.fst (Z154 t); let Z168 := fun (t : Z52) => Z129 t != Z17; let Z169 := fun (t : Z70) => Z143 t < Z17; let Z170 := fun (t : Z52) => Z133 t != Z17; let Z171 := fun (t : Z52) => Value.int IntKind.i64 (Z161 t); let Z172 := fun (t : Z52) => Z135 t != Z17; let Z173 := fun (t : Z52) => Value.int IntKind.i64 (Z160 t); let Z174 := fun (x t : Z70) => Z102 x < Z102 t; let Z175 := Z78 ∧ Z132; let Z176 := fun (t : Z52) => Prod.fst (Z167 t); let Z177 := fun (t : Z52) => Prod.snd (Z166 t); let Z178 := fun (t : Z52) => Prod.snd (Z167 t); let Z179 := fun (t : Z52) => Prod.fst (Z166 t); let Z180 := (Z68, Z127); let Z181 := fun (t : Z52) => Value.int IntKind.i64 (Z179 t); let Z182 := fun (t : Z52) => Value.int IntKind.i64 (Z177 t); let Z183 := fun (t : Z52) => Value.int IntKind.i64 (Z178 t); let Z184 := fun (t : Z52) => Value.int IntKind.i64 (Z176 t); let Z185 := fun (p : Nat × Int) => Z65 p ∧ Z147 p; let Z186 := fun (t : Z52) => Z146 t != Z17; let Z187 := fun (t : Z52) => decide (Z112 t); let Z188 := fun (t : Z70) => Z152 t != Z17; let Z189 := fun (t : Z70) => Z152 t != Z18; let Z190 := Z114 ∧ Z121; let Z191 := Z77 ∧ Z153; let Z192 := fun (t : Z70) => decide (Z120 t); let Z193 := fun (t : Z70) => Z151 t ≥ Z71; let Z194 : List (Int × Span × Span × Span × Span) := Z21 ++ Z101; let Z195 : Type := { p : Nat × Int // Z185 p }; let Z196 := fun (x : Z195) => Subtype.val x; let Z197 := fun (x : Z195) => Prod.fst (Z196 x); let Z198 := fun (x : Z195) => Prod.snd (Z196 x); let Z199 : List (Int × Span × Span × Span × Span) := Z21 ++ Z118; let Z200 := List.length Z194; let Z201 := fun (t : Z195) => Int.toNat (Z198 t); let Z202 := (Z128, Z128); let Z203 := fun (x : Z195) => Value.int IntKind.i64 (Z198 x); let Z204 := fun (x : Z195) => (↑(Z197 x) : Int); let Z205 := fun (t : Z52) => List.getD Z4 (Z111 t) Z137; let Z206 := (↑Z200 : Int); let Z207 := List.length Z199; let Z208 := Z78 ∧ Z191; let Z209 := fun (x : Z195) => Value.int IntKind.i64 (Z204 x); let Z210 := fun (x : Z195) => strOM (mgM l) (Z204 x); let Z211 := Z139 = Z139; let Z212 := fun (t : Z195) => Z17 ≤ Z198 t; let Z213 := fun (t : Z195) => nat_lit 0 + Z201 t; let Z214 := fun (t : Z52) => Prod.fst (Z205 t); let Z215 := (Z68, Z180); let Z216 := fun (t : Z52) => Prod.snd (Z205 t); let Z217 := (↑Z207 : Int); let Z218 := Int.tmod Z14 Z206; let Z219 := fun (t : Z195) => Z198 t + Z19; let Z220 := fun (x : Z195) => Prod.snd (Z210 x); let Z221 := fun (x : Z195) => Z35 - Z198 x; let Z222 := Int.toNat Z218; let Z223 := fun (t : Z52) => Value.int IntKind.i64 (Z214 t); let Z224 := fun (t : Z52) => Prod.snd (Z216 t); let Z225 := fun (t : Z52) => Prod.fst (Z216 t); let Z226 := fun (x : Z195) => Prod.snd (Z220 x); let Z227 := fun (x : Z195) => Prod.fst (Z220 x); let Z228 := fun (x : Z195) => Int.toNat (Z221 x); let Z229 := fun (t : Z195) => IntKind.wrap IntKind.i64 (Z219 t); let Z230 := fun (t : Z195) => Z198 t < Z71; let Z231 := fun (t : Z195) => Z204 t + Z19; let Z232 := Int.tmod Z14 Z217; let Z233 := fun (t : Z52) => Prod.fst (Z224 t); let Z234 := fun (t : Z52) => Prod.snd (Z224 t); let Z235 := min Z222 (nat_lit 64); let Z236 := fun (t : Z52) => Value.int IntKind.i64 (Z225 t); let Z237 := Int.toNat Z232; let Z238 := fun (x : Z195) => Value.int IntKind.i64 (Z227 x); let Z239 := fun (x : Z195) => Value.int IntKind.i64 (Z226 x); let Z240 := fun (t : Z195) => Value.int IntKind.i64 (Z229 t); let Z241 := fun (t : Z195) => IntKind.wrap IntKind.i64 (Z231 t); let Z242 := Z17 ≤ Z218; let Z243 := fun (t : Z195) => Z213 t < Z46; let Z244 := fun (t : Z52) => Value.int IntKind.i64 (Z233 t); let Z245 := fun (t : Z52) => Value.int IntKind.i64 (Z234 t); let Z246 := nat_lit 0 + Z222; let Z247 := fun (t : Z195) => Value.int IntKind.i64 (Z241 t); let Z248 := (Z17, Z215); let Z249 := fun (t : Z195) => Z226 t == Z17; let Z250 := fun (t : Z52) => Z69 t + Z214 t; let Z251 := fun (t : Z70) (x : Z195) => Z103 t = Z209 x; let Z252 := Z22 + Z237; let Z253 := fun (t : Z195) => Z249 t = true; let Z254 := fun (t : Z195) => Z249 t = false; let Z255 := fun (t : Z70) (x : Z195) => Z251 t x ∧ True; let Z256 := Z20 ^ Z235; let Z257 := fun (t : Z52) => IntKind.wrap IntKind.i64 (Z250 t); let Z258 := fun (t : Z52) => Value.int IntKind.i64 (Z257 t); let Z259 := Z175 ∧ Z190; let Z260 := fun (t : Z70) (x : Z195) => Z156 t = Z203 x; let Z261 := fun (t : Z52) => insideM (Z134 t) (Z214 t); let Z262 := fun (t : Z52) => !Z261 t; let Z263 := Z31 ∧ Z259; let Z264 := fun (t : Z195) (x : Z70) => Z247 t = Z103 x; let Z265 := fun (t : Z52) => Z208 ∧ Z157 t; let Z266 := True ∧ Z263; let Z267 := fun (t : Z195) (x : Z70) => Z264 t x ∧ True; let Z268 := fun (t : Z195) => List.getD Z4 (Z213 t) Z137; let Z269 := fun (t : Z195) (x : Z70) => nat_lit 0 = nat_lit 0 ∧ Z267 t x; let Z270 := fun (t : Z195) => Prod.fst (Z268 t); let Z271 := fun (t : Z195) => Prod.snd (Z268 t); let Z272 := fun (t : Z52) => insideM (Z155 t) (Z225 t); let Z273 := fun (t : Z52) => !Z272 t; let Z274 := fun (t : Z195) => Value.int IntKind.i64 (Z270 t); let Z275 := fun (t : Z195) (x : Z70) => Z36 ∧ Z269 t x; let Z276 := fun (t : Z195) => Prod.snd (Z271 t); let Z277 := fun (t : Z195) => Prod.fst (Z271 t); let Z278 := fun (x : Z195) => Z197 x = Z197 x; let Z279 := fun (t x : Z195) => Z197 t = Z197 x; let Z280 := fun (t : Z70) (x : Z195) => Z162 t = Z238 x; let Z281 := fun (t : Z70) (x : Z195) => Z163 t = Z239 x; let Z282 := fun (t : Z195) => Prod.fst (Z276 t); let Z283 := fun (t : Z195) => Prod.snd (Z276 t); let Z284 := fun (t : Z52) => insideM (Z167 t) (Z233 t); let Z285 := fun (t : Z52) => insideM (Z166 t) (Z234 t); let Z286 := fun (t : Z195) => Value.int IntKind.i64 (Z277 t); let Z287 := fun (t : Z52) => !Z284 t; let Z288 := fun (t : Z52) => !Z285 t; let Z289 := fun (t : Z195) => Value.int IntKind.i64 (Z282 t); let Z290 := fun (t : Z195) => Value.int IntKind.i64 (Z283 t); let Z291 := fun (t : Z195) (x : Z70) => Z53 ∧ Z275 t x; let Z292 := fun (t : Z52) => insideM (Z145 t) (Z257 t); let Z293 := fun (t : Z52) => !Z292 t; let Z294 := fun (t x : Z195) => Z209 t = Z209 x; let Z295 := fun (t x : Z195) => Z294 t x ∧ True; let Z296 := fun (t : Z195) => Z198 t ≤ Z227 t; let Z297 := fun (t : Z195) (x : Z70) => Z50 ∧ Z291 t x; let Z298 := fun (t x : Z195) => Z240 t = Z203 x; let Z299 := fun (t : Z195) => Z212 t ∧ Z230 t; let Z300 := fun (t : Z52) => Z223 t = Z223 t; let Z301 := fun (x t : Z195) => Z228 x < Z228 t; let Z302 := fun (t : Z52) => (Z225 t, Z233 t); let Z303 := fun (t : Z52) => rofM (Z302 t); let Z304 := fun (t : Z52) => Z236 t = Z236 t; let Z305 := fun (t : Z52) => Int.toNat (Z303 t); let Z306 := fun (t x : Z195) => Z239 t = Z239 x; let Z307 := fun (t x : Z195) => Z238 t = Z238 x; let Z308 := fun (t : Z52) => min (Z305 t) (nat_lit 64); let Z309 := fun (t : Z52) => Z244 t = Z244 t; let Z310 := fun (t : Z52) => Z245 t = Z245 t; let Z311 := fun (t : Z52) => Z310 t ∧ True; let Z312 := fun (t : Z52) => Z20 ^ Z308 t; let Z313 := fun (t : Z70) (x : Z195) => Z260 t x ∧ Z255 t x; let Z314 := fun (t : Z52) => Int.fdiv (Z130 t) (Z312 t); let Z315 := fun (t : Z52) => BitVec.ofInt (nat_lit 64) (Z314 t); let Z316 := fun (t : Z70) => decide (Z169 t); let Z317 := fun (t : Z70) => Z316 t = true; let Z318 := fun (t : Z70) => Z316 t = false; let Z319 := List.getD Z194 Z246 Z248; let Z320 := Prod.snd Z319; let Z321 := Prod.fst Z319; let Z322 := fun (t : Z195) => Z274 t = Z274 t; let Z323 := fun (t : Z70) => decide (Z193 t); let Z324 := List.getD Z199 Z252 Z248; let Z325 := fun (t : Z70) => Z323 t = true; let Z326 := fun (t : Z195) => (Z277 t, Z282 t); let Z327 := fun (t : Z70) => Z323 t = false; let Z328 := fun (t : Z70) => Z317 t → Z106; let Z329 := fun (t : Z195) => rofM (Z326 t); let Z330 := fun (t : Z195) => Z286 t = Z286 t; let Z331 := fun (t : Z195) (x : Z70) => Z297 t x ∧ Z266; let Z332 := Prod.snd Z320; let Z333 := fun (t : Z52) => Z315 t &&& Z40; let Z334 := fun (t : Z195) => Z290 t = Z290 t; let Z335 := fun (t : Z195) => Z289 t = Z289 t; let Z336 := Prod.fst Z324; let Z337 := Prod.snd Z324; let Z338 := fun (t : Z52) => BitVec.toNat (Z333 t); let Z339 := fun (t : Z195) => Z334 t ∧ True; let Z340 := Prod.snd Z332; let Z341 := Prod.fst Z332; let Z342 := Prod.fst Z341; let Z343 := Prod.snd Z341; let Z344 := fun (t : Z52) => (↑(Z338 t) : Int); let Z345 := Prod.snd Z340; let Z346 := Prod.fst Z340; let Z347 := Value.int IntKind.i64 Z342; let Z348 := AV.v Z347; let Z349 := Prod.fst Z346; let Z350 := Prod.fst Z345; let Z351 := Prod.snd Z346; let Z352 := Prod.snd Z345; let Z353 := fun (t : Z52) => IntKind.wrap IntKind.i64 (Z344 t); let Z354 := Prod.snd Z337; let Z355 := Value.int IntKind.i64 Z350; let Z356 := Value.int IntKind.i64 Z349; let Z357 := fun (t : Z70) => Z325 t → Z106; let Z358 := AV.v Z355; let Z359 := AV.v Z356; let Z360 := Prod.fst Z354; let Z361 := Prod.snd Z354; let Z362 := Prod.snd Z360; let Z363 := Prod.fst Z360; let Z364 := Prod.snd Z361; let Z365 := Prod.fst Z361; let Z366 := fun (x t x_1 : Z195) => Z301 x t ∧ Z279 x x_1; let Z367 := fun (t : Z52) => Z353 t == Z17; let Z368 := Prod.snd Z364; let Z369 := Prod.fst Z365; let Z370 := Prod.snd Z365; let Z371 := fun (t : Z195) => decide (Z296 t); let Z372 := Prod.fst Z364; let Z373 := fun (t : Z195) => Z371 t = true; let Z374 := fun (t : Z195) => Z371 t = false; let Z375 := fun (t x : Z195) => Z298 t x ∧ Z295 t x; let Z376 := fun (t : Z195) (x t_1 : Z70) => Z331 t x ∧ Z174 x t_1; let Z377 := fun (t : Z195) => Z329 t != Z204 t; let Z378 := fun (t : Z70) (x : Z195) => Z281 t x ∧ Z313 t x; let Z379 := fun (t : Z195) => Z377 t = true; let Z380 := fun (t : Z195) => Z377 t = false; let Z381 := fun (t : Z195) (t_1 : Z70) => ∃ (x : Z70), Z376 t x t_1; let Z382 := fun (t : Z195) (t_1 : Z70) => True ∧ Z381 t t_1; let Z383 := fun (t : Z195) => Z379 t → Z106; let Z384 := fun (t : Z195) (t_1 : Z70) => Z254 t → Z382 t t_1; let Z385 := fun (t : Z70) (x : Z195) => Z280 t x ∧ Z378 t x; let Z386 := fun (t x : Z195) => Z306 t x ∧ Z375 t x; let Z387 := fun (t : Z195) => Z335 t ∧ Z339 t; let Z388 := fun (t : Z70) (x : Z195) => Z251 t x ∧ Z385 t x; let Z389 := (Z363, Z343); let Z390 := (Z342, Z362); let Z391 := fun (t : Z70) (x : Z195) => nat_lit 0 = nat_lit 0 ∧ Z388 t x; let Z392 := (Z369, Z351); let Z393 := (Z349, Z370); let Z394 := (Z372, Z352); let Z395 := (Z350, Z368); let Z396 := fun (t : Z70) (x : Z195) => Z36 ∧ Z391 t x; let Z397 := fun (t : Z70) (x : Z195) => Z53 ∧ Z396 t x; let Z398 := fun (t : Z70) (x : Z195) => Z50 ∧ Z397 t x; let Z425 : List (Int × Span × Span × Span × Span) := List.set Z194 Z246 (Z336, Z202, Z390, Z393, Z395); let Z426 : List (Int × Span × Span × Span × Span) := List.set Z199 Z252 (Z321, Z202, Z389, Z392, Z394); let Z427 := List.length Z425; let Z429 := oddOM (GroundT.mk Z2 Z1 Z0 Z426); let Z432 := Prod.snd Z429 == Z18; let Z433 := Prod.fst Z429 == Z17; let Z434 := Prod.snd Z429 == Z17; let Z436 := Z434 = false; let Z444 := IntKind.wrap IntKind.i64 (↑(BitVec.toNat (BitVec.ofInt (nat_lit 64) (Int.fdiv (Prod.fst Z429) Z256) &&& Z40)) : Int) == Z19; let Z446 := Z444 = false; let Z463 := fun (t : Z70) => ∃ (x : Z195), (Z398 t x ∧ Z266) ∧ Z278 x ∧ ∀ (t_1 : Z195), Z279 t_1 x → (Z253 t_1 → (Z373 t_1 → Z299 t_1 ∧ Z243 t_1 ∧ True ∧ ((Z322 t_1 ∧ Z330 t_1 ∧ Z387 t_1) ∧ True) ∧ True ∧ Z383 t_1 ∧ (Z380 t_1 → True ∧ ∃ (x_1 : Z195), ((Z50 ∧ Z53 ∧ Z36 ∧ nat_lit 0 = nat_lit 0 ∧ Z294 t_1 x_1 ∧ Z307 t_1 x_1 ∧ Z386 t_1 x_1) ∧ Z266) ∧ Z366 x_1 t_1 x)) ∧ (Z374 t_1 → Z382 t_1 t)) ∧ Z384 t_1 t; (Z100 = true → Z119) ∧ (Z100 = false → True ∧ Z83 ∧ Z42 ∧ ((nat_lit 0 < Z5 ∧ Z5 < nat_lit 9223372036854775808) ∧ ∀ (x : Int), x ∈ l → Z17 ≤ x ∧ x ≤ (65535 : Int)) ∧ ((Z39 = Z39 ∧ True ∧ Z36 ∧ Z36 ∧ True) ∧ True) ∧ ((Z94 ∧ True) ∧ Z83 ∧ Z42) ∧ (∃ (x : Z52), (Z50 ∧ Z53 ∧ Z36 ∧ nat_lit 0 = nat_lit 0 ∧ Z48 = Z88 x ∧ nat_lit 0 = nat_lit 0 ∧ Value.int IntKind.i64 (↑(List.length Z125) : Int) = Z55 ∧ Z48 = Z93 x ∧ True) ∧ True ∧ Z31 ∧ Z175 ∧ (Z81 ∧ Prod.snd Z107 = Z3) ∧ (Z80 ∧ Z125 = Z4) ∧ True) ∧ ∀ (t : Z52), (Z187 t = true → (Z17 ≤ Z84 t ∧ Z84 t < Z71) ∧ Z111 t < Z46 ∧ Z60 ∧ Z265 t ∧ Z64 ∧ Z60 ∧ Z265 t ∧ Z64 ∧ Z60 ∧ Z265 t ∧ Z64 ∧ Z60 ∧ (Z208 ∧ Z94 ∧ Z157 t) ∧ Z64 ∧ (Z170 t = true → Z106) ∧ (Z170 t = false → True ∧ ((Z150 t = Z150 t ∧ Z149 t = Z149 t ∧ True) ∧ Z300 t ∧ True) ∧ True ∧ (Z262 t = true → Z106) ∧ (Z262 t = false → (Z172 t = true → Z106) ∧ (Z172 t = false → True ∧ ((Z173 t = Z173 t ∧ Z171 t = Z171 t ∧ True) ∧ Z304 t ∧ True) ∧ True ∧ (Z273 t = true → Z106) ∧ (Z273 t = false → True ∧ ((Z184 t = Z184 t ∧ Z183 t = Z183 t ∧ True) ∧ Z309 t ∧ True) ∧ True ∧ (Z287 t = true → Z106) ∧ (Z287 t = false → True ∧ ((Z181 t = Z181 t ∧ Z182 t = Z182 t ∧ True) ∧ Z311 t) ∧ True ∧ (Z288 t = true → Z106) ∧ (Z288 t = false → (Z168 t = true → Z106) ∧ (Z168 t = false → True ∧ ((Z300 t ∧ Z304 t ∧ Z309 t ∧ Z311 t) ∧ True) ∧ True ∧ Z17 ≤ Z303 t ∧ (Z367 t = true → Z106) ∧ (Z367 t = false → (Z186 t = true → Z106) ∧ (Z186 t = false → True ∧ ((Z165 t = Z165 t ∧ Z164 t = Z164 t ∧ True) ∧ Z258 t = Z258 t ∧ True) ∧ True ∧ (Z293 t = true → Z106) ∧ (Z293 t = false → True ∧ ∃ (x : Z52), ((Z50 ∧ Z53 ∧ Z36 ∧ nat_lit 0 = nat_lit 0 ∧ Z258 t = Z88 x ∧ nat_lit 0 = nat_lit 0 ∧ Z55 = Z55 ∧ Value.int IntKind.i64 (IntKind.wrap IntKind.i64 (Z84 t + Z19)) = Z93 x ∧ True) ∧ Z266) ∧ Z95 x < Z95 t))))))))))) ∧ (Z187 t = false → (∃ (x : Z70), (Z50 ∧ Z53 ∧ Z36 ∧ nat_lit 0 = nat_lit 0 ∧ Z48 = Z103 x ∧ True) ∧ Z266) ∧ ∀ (t : Z70), (Z192 t = true → Z60 ∧ (Z208 ∧ Z103 t = Z103 t ∧ True) ∧ Z64 ∧ (Z188 t = true → (Z189 t = true → Z106) ∧ (Z189 t = false → Z328 t ∧ (Z318 t → Z357 t ∧ (Z327 t → Z463 t)))) ∧ (Z188 t = false → Z328 t ∧ (Z318 t → Z357 t ∧ (Z327 t → Z463 t)))) ∧ (Z192 t = false → Z60 ∧ (Z208 ∧ True) ∧ Z64 ∧ (Z126 = true → Z106) ∧ (Z126 = false → (Z117 = true → Z119) ∧ (Z117 = false → Z10 ∧ nat_lit 0 + Z44 ≤ Z44 ∧ nat_lit 0 + List.length Z101 ≤ nat_lit 1099511627776 ∧ Z206 ≠ Z17 ∧ Z27 ≠ Z17 ∧ True ∧ (Z211 ∧ Z211 ∧ True) ∧ True ∧ (Z242 ∧ Z218 < Z206) ∧ Z246 < Z200 ∧ [AV.v (Value.int IntKind.i64 Z336), Z142, Z142, Z348, AV.v (Value.int IntKind.i64 Z362), Z359, AV.v (Value.int IntKind.i64 Z370), Z358, AV.v (Value.int IntKind.i64 Z368)] = [AV.v (Value.int IntKind.i64 Z321), Z142, Z142, Z348, AV.v (Value.int IntKind.i64 Z343), Z359, AV.v (Value.int IntKind.i64 Z351), Z358, AV.v (Value.int IntKind.i64 Z352)] ∧ Z427 < nat_lit 1000000 ∧ ((Z78 ∧ Z77 ∧ Z73 ∧ (Z24 = Z24 ∧ nat_lit 0 = nat_lit 0 ∧ nat_lit 0 = nat_lit 0 ∧ List.length Z425 = Z427) ∧ True) ∧ True) ∧ (Z426 = Z425 ∧ True) ∧ (Z432 = true → (Z433 = true → Z119) ∧ (Z433 = false → (Z434 = true → Z242 ∧ (Z444 = true → Z119) ∧ (Z446 → Z106)) ∧ (Z436 → Z106))) ∧ (Z432 = false → (Z434 = true → Z242 ∧ (Z444 = true → Z119) ∧ (Z446 → Z106)) ∧ (Z436 → Z106))))))))
    (by kernel_rfl) ?_
  simp only [eq_self, true_and, and_true, Int.toNat_natCast, Nat.zero_add, Nat.sub_zero, Value.int.injEq, Value.bool.injEq, decide_eq_true_eq, decide_eq_false_iff_not]
  obtain ⟨⟨hl, hby⟩, ⟨a0, a1⟩, b0, b1⟩ := hx
  have a0' : 0 ≤ a := a0
  have a1' : a ≤ 255 := a1
  have b0' : -32768 ≤ b := b0
  have b1' : b ≤ 32767 := b1
  have hG : (⟨mlongM l, mriseM l, mchM l, pitsOM l⟩ : GroundT) = mgM l := rfl
  have ok := mg_ok l
  have hg := mg_ground l
  have hlk := mg_look l
  have hn := n_ok ok
  have hm := mn_b l
  have h8 : (pitsOM l).length ≤ 8 := ok.len
  have hNP : (pitsOM l).length < 1000000 := by omega
  have hpl := places_len l
  simp only [hG]
  refine ⟨fun _ => trivial, fun hne => ⟨⟨⟨?_, hl⟩, hby⟩, ⟨⟨0, Nat.zero_le _⟩, ⟨rfl, ?_, rfl⟩, rfl, rfl⟩, fun t => ⟨fun ht => ?_, fun ht => ⟨⟨⟨0, Nat.zero_le _⟩, rfl⟩, fun t2 => ⟨fun ht2 => ?_, fun ht2 => ?_⟩⟩⟩⟩⟩
  · have : ¬ (l.length : Int) = 0 := by simpa using hne
    omega
  · show ((placesM l).length : Int) = _
    rw [hpl]
  · obtain ⟨k, hk⟩ := t
    have hlt : k < mnM l := by have h0 : (k : Int) < (mnM l : Int) := ht; omega
    have pk := pl_of ok (show k < nM (mgM l) from hlt)
    have p0 : Pl (mgM l) 0 := ⟨Int.le_refl _, ok.long.1⟩
    have e1 := hard_told hg pk
    have e2 := parts_told hg pk
    have e3 := class_told hg pk
    have e4 := work_told hg p0 pk (Int.natCast_nonneg k)
    rw [hlk, if_pos rfl] at e1 e2 e3 e4
    rw [Int.toNat_natCast] at e2 e3 e4
    rw [show Int.toNat 0 = 0 from rfl, Nat.sub_zero] at e4
    have hmem := mg_mem l hlt
    have hgd := (stage2 ok (show k < nM (mgM l) from hlt)).1
    have i1 := inside_yes ((mg_h l).inside ok pk)
    rw [Int.toNat_natCast] at i1
    have i2 := inside_yes hmem.2.1
    have i3 := inside_yes hmem.2.2.1
    have i4 := inside_yes hmem.2.2.2
    have hb := class_told_bit hgd hmem
    obtain ⟨s1, s2, s3, s4⟩ := mg_sum l (k + 1) hlt
    have hw : IntKind.i64.wrap (tsumM l k + (plM l k).1) = tsumM l (k + 1) := wrap_id (x := tsumM l (k + 1)) (by omega) (by omega)
    have i5 := inside_yes (s := sumM (mgM l) 0 (k + 1)) (n := tsumM l (k + 1)) ⟨s1, s2⟩
    have hro : 0 ≤ rofM ((plM l k).2.1, (plM l k).2.2.1) := by
      rw [rof_cls (pl_ok3 l k)]
      have := cls_range (plM l k).2
      omega
    have hQ : ∃ x : { k // k ≤ mnM l }, (tsumM l (k + 1) = tsumM l x.1 ∧ IntKind.i64.wrap ((k : Int) + 1) = (x.1 : Int)) ∧ mnM l - x.1 < mnM l - k := ⟨⟨k + 1, hlt⟩, ⟨rfl, sucI k (by omega)⟩, dec1 hlt⟩
    refine ⟨⟨Int.natCast_nonneg _, by rw [hpl]; exact ht⟩, by rw [hpl]; exact hlt, hNP, hNP, hNP, hNP, ?_⟩
    have hpg : (placesM l).getD k (0, 0, 0, 0) = plM l k := places_get l hlt _
    simp only [hpg, e1, e2, e3, e4, i1, i2, i3, i4, hb, hw, i5]
    repeat' (first | refine And.intro ?_ ?_ | intro _)
    all_goals first
      | exact hQ
      | exact hro
      | (rename_i h; revert h; decide)
      | (rename_i h; revert h; simp)
  · obtain ⟨c, hc⟩ := t2
    have hc4 : c < 4 := by have h0 : (c : Int) < 4 := ht2; omega
    obtain ⟨s1, ⟨s2, s3⟩, s4, s5⟩ := str_told hg hlk (c := (c : Int)) ⟨Int.natCast_nonneg _, by omega⟩
    rw [Int.toNat_natCast] at s5
    rw [mg_n] at s3 s4
    have hsu := sucI c (by omega)
    apply suff_of'
    case h =>
      intro hR
      refine ⟨hNP, fun h => ⟨fun h4 => ?_, fun _ => hR⟩, fun _ => hR⟩
      have h' : ¬ (strOM (mgM l) (c : Int)).2.2 = 0 := by simpa using h
      have h4' : ¬ (strOM (mgM l) (c : Int)).2.2 = 4 := by simpa using h4
      rcases s1 with e | e
      · exact absurd e h'
      · exact absurd e h4'
    case hR =>
      refine ⟨fun h => ?_, fun _ => ⟨fun h => ?_, fun _ => ⟨⟨(c, (strOM (mgM l) (c : Int)).1), hc4, Int.le_refl _, s4⟩, ⟨rfl, rfl, rfl, rfl, rfl⟩, fun p hp => ?_⟩⟩⟩
      · have h' : (strOM (mgM l) (c : Int)).1 < 0 := h
        omega
      · have h' : (strOM (mgM l) (c : Int)).2.1 ≥ ((placesM l).length : Int) := h
        rw [hpl] at h'
        omega
      · obtain ⟨⟨c', z⟩, z1, z2, z3⟩ := p
        have hp' : c' = c := hp
        subst hp'
        have z2' : (strOM (mgM l) (c' : Int)).1 ≤ z := z2
        have z3' : z ≤ (mnM l : Int) := z3
        have hnext : ∃ x : { c : Nat // c ≤ 4 }, IntKind.i64.wrap ((c' : Int) + 1) = (x.1 : Int) ∧ 4 - x.1 < 4 - c' := ⟨⟨c' + 1, hc4⟩, hsu, by show 4 - (c' + 1) < 4 - c'; omega⟩
        refine ⟨fun he => ⟨fun hz => ?_, fun _ => hnext⟩, fun _ => hnext⟩
        have he' : (strOM (mgM l) (c' : Int)).2.2 = 0 := by simpa using he
        have hz' : z ≤ (strOM (mgM l) (c' : Int)).2.1 := hz
        obtain ⟨k, rfl⟩ := Int.eq_ofNat_of_zero_le (show 0 ≤ z by omega)
        have hkn : k < mnM l := by omega
        have hsure := class_sure (stage2 ok (show k < nM (mgM l) from hkn)).1 (mg_mem l hkn) hc4 (s5 he' k z2' hz')
        have hpg : (placesM l).getD k (0, 0, 0, 0) = plM l k := places_get l hkn _
        simp only [Int.toNat_natCast, hpg, hsure]
        refine ⟨⟨Int.natCast_nonneg _, by rw [hpl]; omega⟩, by rw [hpl]; exact hkn, fun h => absurd h (by simp), fun _ => ⟨⟨(c', (k : Int) + 1), hc4, ?_, ?_⟩, ⟨rfl, rfl, rfl, ?_, rfl⟩, ?_, rfl⟩⟩
        · show (strOM (mgM l) (c' : Int)).1 ≤ (k : Int) + 1; omega
        · show (k : Int) + 1 ≤ (mnM l : Int); omega
        · exact wrap_id (by omega) (by omega)
        · show ((mnM l : Int) - ((k : Int) + 1)).toNat < ((mnM l : Int) - (k : Int)).toNat; omega
  · have hodd : oddOM (mgM l) = (0, 4) := by unfold oddOM oddErrM; rw [hg, hlk]; rfl
    have htk : [] ++ List.take (pitsOM l).length (List.drop 0 (pitsOM l)) = pitsOM l := by simp
    have htk2 : List.take (pitsOM l).length (List.drop 0 (pitsOM l)) = pitsOM l := by simp
    simp only [hodd, htk, htk2, List.nil_append]
    refine ⟨hNP, fun h => absurd h (by decide), fun _ => ⟨fun _ => trivial, fun h0 => ?_⟩⟩
    have hpos : 0 < (pitsOM l).length := by
      have : ¬ ((pitsOM l).length : Int) = 0 := by simpa using h0
      omega
    have wa : IntKind.i64.wrap a = a := wrap_id (by omega) (by omega)
    have wb : IntKind.i64.wrap b = b := wrap_id (by omega) (by omega)
    have ta := Int.tmod_nonneg ((pitsOM l).length : Int) a0'
    have ua := Int.tmod_lt_of_pos a (show (0 : Int) < ((pitsOM l).length : Int) by omega)
    obtain ⟨k, hk⟩ := Int.eq_ofNat_of_zero_le ta
    have hkn : k < (pitsOM l).length := by omega
    simp only [wa, wb, hk, Int.toNat_natCast]
    obtain ⟨n, hnn⟩ : ∃ n, min 1000 (max 0 (b.tmod 1000)) = n := ⟨_, rfl⟩
    have hn0 : 0 ≤ n ∧ n ≤ 1000 := by omega
    rw [hnn]
    have hbad := bad_told hg hlk (k := k) hkn hn0
    refine ⟨Nat.le_refl _, by omega, by omega, by decide, ⟨Int.natCast_nonneg _, by omega⟩, hkn, by rw [List.length_set]; exact hNP, ?_⟩
    rcases hbad with hbad | ⟨o, hbad, hbit⟩
    · have hb2 : oddOM ⟨mlongM l, mriseM l, mchM l, (pitsOM l).set k (((pitsOM l).getD k (0, (0, 0), (0, 0), (0, 0), 0, 0)).1, (n, n), (((pitsOM l).getD k (0, (0, 0), (0, 0), (0, 0), 0, 0)).2.2.1.1, ((pitsOM l).getD k (0, (0, 0), (0, 0), (0, 0), 0, 0)).2.2.1.2), (((pitsOM l).getD k (0, (0, 0), (0, 0), (0, 0), 0, 0)).2.2.2.1.1, ((pitsOM l).getD k (0, (0, 0), (0, 0), (0, 0), 0, 0)).2.2.2.1.2), ((pitsOM l).getD k (0, (0, 0), (0, 0), (0, 0), 0, 0)).2.2.2.2.1, ((pitsOM l).getD k (0, (0, 0), (0, 0), (0, 0), 0, 0)).2.2.2.2.2)⟩ = (0, 4) := hbad
      simp only [hb2]
      exact ⟨fun _ => ⟨fun _ => trivial, fun h => absurd h (by decide)⟩, fun h => absurd h (by decide)⟩
    · have hb2 : oddOM ⟨mlongM l, mriseM l, mchM l, (pitsOM l).set k (((pitsOM l).getD k (0, (0, 0), (0, 0), (0, 0), 0, 0)).1, (n, n), (((pitsOM l).getD k (0, (0, 0), (0, 0), (0, 0), 0, 0)).2.2.1.1, ((pitsOM l).getD k (0, (0, 0), (0, 0), (0, 0), 0, 0)).2.2.1.2), (((pitsOM l).getD k (0, (0, 0), (0, 0), (0, 0), 0, 0)).2.2.2.1.1, ((pitsOM l).getD k (0, (0, 0), (0, 0), (0, 0), 0, 0)).2.2.2.1.2), ((pitsOM l).getD k (0, (0, 0), (0, 0), (0, 0), 0, 0)).2.2.2.2.1, ((pitsOM l).getD k (0, (0, 0), (0, 0), (0, 0), 0, 0)).2.2.2.2.2)⟩ = (o, 0) := hbad
      simp only [hb2, hbit]
      exact ⟨fun h => absurd h (by decide), fun _ => ⟨fun _ => ⟨Int.natCast_nonneg _, fun _ => trivial, fun h => absurd h (by decide)⟩, fun h => absurd h (by decide)⟩⟩

end AE.Soil

namespace AE
open Go Go.ChangeShapes Go.WideShapes

theorem Keeps.but {w w' : World} (h : Keeps (fun _ => False) w w') (may : MemPlace → Prop) : w.keptBut w' may := by
  refine ⟨h.os, h.output, fun i hi => ?_⟩
  have hb := h.block i hi fun h => h
  rw [hb]
  exact (World.keptBut_refl w may).2.2 i hi
theorem Keeps.frozen {w w' : World} (h : Keeps (fun _ => False) w w') (a : Addr) (ha : a.block < w.heap.size) : w'.frozen? a = w.frozen? a := by
  unfold World.frozen?
  rw [h.block a.block ha fun h => h]
theorem post_of_keeps {P : Program} {H : Type} {enc : TypeId × Value → H} {f : Func} {s : ChangeSpec} {apart fresh handsOn again : Bool} {W W' : World} {args : Array Value} {v : Value} {ds gs : List (DataW H)} {before pa pv : List MemPlace}
    (hW : DataW.Whole enc P f.params.toList s.vars apart W args.toList ds gs before)
    (hres : ∀ (b : Nat) (sp : Nat → Bool) (hd : Bool), DataW.TrodAll enc P W' b sp hd f.resultTypes.toList (v.resultList f.resultTypes.size) (s.fn H (ds ++ gs)).results [])
    (hargs : ∀ sp : Nat → Bool, (∀ p ∈ before, sp p.block = true) → DataW.TrodAll enc P W' 0 sp true f.params.toList args.toList (s.fn H (ds ++ gs)).args pa)
    (hvars : ∀ sp : Nat → Bool, (∀ p ∈ before, sp p.block = true) → DataW.TrodVars enc P W' sp s.vars (s.fn H (ds ++ gs)).vars pv)
    (hps : before = pa ++ pv) (hk : Keeps (fun _ => False) W W')
    (hok : ∀ (j : Nat) (t : TypeId) (r : Value), f.resultTypes[j]? = some t → (v.resultList f.resultTypes.size)[j]? = some r → Value.okWide P W' .any 0 t r) :
    s.post enc P f apart fresh handsOn again W args v W' := by
  have hlt := hW.lt
  have hold : ∀ p ∈ before, (fun b => decide (b < W.heap.size)) p.block = true := fun p hp => by simpa using hlt p hp
  have hb : ∀ p, p ∈ [] ++ pa ++ pv ↔ p ∈ before := fun p => by rw [hps, List.nil_append]
  refine ⟨ds, gs, before, [], pa, pv, hW, hres _ _ _, hargs _ hold, hvars _ hold, World.keptBut_mono (fun p hp => ⟨hp, ?_⟩) (hk.but _), fun _ => ?_⟩
  · exact Or.inr (List.mem_append.1 (hps ▸ hp))
  · obtain ⟨_, _, _, _, _, hz, hn⟩ := hW
    refine ⟨hok, _, _, [] ++ pa ++ pv, ⟨[] ++ pa, pv, trodAll_append (hargs _ (fun _ _ => rfl)) (hres _ _ _), hvars _ (fun _ _ => rfl), rfl, fun b off hp => ?_, fun ha => ?_⟩, fun p hp _ => (hb p).1 hp⟩
    · have hp' := (hb _).1 hp
      rw [hk.frozen _ (hlt _ hp')]
      exact hz b off hp'
    · have := hn ha
      rwa [hps, ← List.nil_append pa] at this
end AE

namespace AE
open Go Go.ChangeShapes Go.WideShapes Go.RowKit

theorem Keeps.below {w w' : World} (h : Keeps (fun _ => False) w w') : Below w.heap.size w w' :=
  ⟨h.os, h.tape, h.output, h.size, fun k hk => h.block k hk fun e => e⟩

/-- What a cell of a flat type holds. -/
inductive FK where
  | int (k : IntKind)
  | bool
def FK.ok : FK → Value → Prop
  | .int k, v => ∃ n, v = .int k n ∧ (Lit.int k n).wf = true
  | .bool, v => ∃ b, v = .bool b
def FKs : List FK → List Value → Prop
  | [], vs => vs = []
  | k :: ks, vs => ∃ v r, vs = v :: r ∧ k.ok v ∧ FKs ks r
theorem FKs.append : ∀ {a b : List FK} {x y : List Value}, FKs a x → FKs b y → FKs (a ++ b) (x ++ y)
  | [], _, _, _, h, k => by cases h; exact k
  | _ :: _, _, _, _, ⟨v, r, e, h1, h2⟩, k => ⟨v, _, by rw [e]; rfl, h1, h2.append k⟩
theorem FKs.length : ∀ {a : List FK} {x : List Value}, FKs a x → x.length = a.length
  | [], _, h => by cases h; rfl
  | _ :: _, _, ⟨v, r, e, _, h⟩ => by rw [e, List.length_cons, List.length_cons, h.length]

mutual
def flat (P : Program) : Nat → TypeId → Option (List FK)
  | 0, _ => none
  | n + 1, t => match P.underlying t with
    | some .bool => some [.bool]
    | some (.int k) => some [.int k]
    | some (.struct fs) => flatFs P n 0 fs.toList
    | _ => none
def flatFs (P : Program) : Nat → Nat → List Field → Option (List FK)
  | _, _, [] => some []
  | 0, _, _ :: _ => none
  | n + 1, o, f :: fs => match Nat.beq f.offset o, flat P n f.type with
    | true, some l => match Nat.beq (P.cellsOf f.type) l.length, flatFs P n (o + l.length) fs with
      | true, some r => some (l ++ r)
      | _, _ => none
    | _, _ => none
end

section
variable {H : Type} {enc : TypeId × Value → H} {P : Program} {w : World} {base : Nat} {spare : Nat → Bool} {held : Bool}
mutual
theorem flat_ok : ∀ (n : Nat) {t : TypeId} {ks : List FK} {fuel : Nat} {cs : List Value} {x : DataW H × List MemPlace}, flat P n t = some ks → P.cellsOf t = ks.length → DataW.trod enc P w base spare held fuel t cs = some x → FKs ks cs
  | 0, t, ks, fuel, cs, x, h, _, _ => by simp [flat] at h
  | n + 1, t, ks, fuel, cs, x, h, hc, hx => by
    unfold flat at h
    split at h
    · rename_i hu
      cases h
      cases fuel with
      | zero => simp [DataW.trod] at hx
      | succ m =>
        unfold DataW.trod at hx
        rw [hu] at hx
        split at hx <;> first | (simp_all; done) | skip
        rename_i b _ _
        exact ⟨_, _, rfl, ⟨_, rfl⟩, rfl⟩
    · rename_i k hu
      cases h
      cases fuel with
      | zero => simp [DataW.trod] at hx
      | succ m =>
        unfold DataW.trod at hx
        rw [hu] at hx
        split at hx <;> first | (simp_all; done) | skip
        split at hx
        · rename_i k1 _ _ he hh
          have he' : k = k1 := by simpa using he
          subst he'
          obtain ⟨rfl, hh⟩ := hh
          exact ⟨_, _, rfl, ⟨_, rfl, hh⟩, rfl⟩
        · cases hx
    · rename_i fs hu
      obtain ⟨xs, m, _, _, hl, hlen, hf⟩ := DataW.trod_struct hu hx
      have := flatFs_ok n (cs := cs) h (fun f hm => by
        obtain ⟨i, hi, rfl⟩ := List.getElem_of_mem hm
        have h1 : i < fs.size := by simpa using hi
        have h2 := hf i fs[i] (Array.getElem?_eq_getElem h1)
        rw [List.getElem?_eq_getElem (by omega)] at h2
        exact ⟨_, m, by rw [Array.getElem_toList]; exact h2⟩) (by rw [hl, hc]; omega)
      simpa using this
    · cases h
theorem flatFs_ok : ∀ (n : Nat) {o : Nat} {fs : List Field} {ks : List FK} {cs : List Value}, flatFs P n o fs = some ks →
    (∀ f ∈ fs, ∃ y m, DataW.trod enc P w base spare held m f.type ((cs.drop f.offset).take (P.cellsOf f.type)) = some y) → cs.length = o + ks.length → FKs ks (cs.drop o)
  | n, o, [], ks, cs, h, _, hl => by
    have : ks = [] := by cases n <;> simpa [flatFs] using h.symm
    subst this
    show cs.drop o = []
    exact List.drop_eq_nil_of_le (by simpa using Nat.le_of_eq hl)
  | 0, o, f :: fs, ks, cs, h, _, _ => by simp [flatFs] at h
  | n + 1, o, f :: fs, ks, cs, h, hf, hl => by
    unfold flatFs at h
    split at h
    case h_2 => cases h
    rename_i l ho hfl
    split at h
    case h_2 => cases h
    rename_i r hc hr
    cases h
    replace ho := Nat.eq_of_beq_eq_true ho
    replace hc := Nat.eq_of_beq_eq_true hc
    obtain ⟨y, m, hy⟩ := hf f (List.mem_cons_self ..)
    have h1 := flat_ok n hfl hc hy
    have h2 := flatFs_ok n (cs := cs) hr (fun g hg => hf g (List.mem_cons_of_mem _ hg)) (by rw [hl, List.length_append]; omega)
    rw [ho, hc] at h1
    have h3 := h1.append h2
    rw [← List.drop_drop, List.take_append_drop] at h3
    exact h3
end

theorem cells_get {a : Addr} {n : Nat} {cs : List Value} (h : w.cells? base a n = some cs) : cs.length = n ∧ ∀ j, j < n → w.cell? (a.add j) = cs[j]? := by
  unfold World.cells? at h
  split at h
  · exact ⟨by simpa using mapM_some_length h, fun j hj => mapM_some_get h j j (by simp [hj])⟩
  · cases h

theorem cell_spot {a : Addr} {v : Value} (h : w.cell? a = some v) : a.spot = none := by
  unfold World.cell? at h
  split at h
  · split at h
    · cases h
    · rename_i hs; simpa using hs
  · cases h

/-- A slice of flat elements, read as data, is a row of the executor's memory. -/
theorem row_of_trodQ {U : Uni} (c : U.C) (Q : U.ty c → Prop) {t e : TypeId} {ks : List FK} {n fuel : Nat} {v : Value} {x : DataW H × List MemPlace} (ht : P.underlying t = some (.slice e)) (hfl : flat P n e = some ks) (hce : P.cellsOf e = ks.length) (hsz : ks.length = U.sz c) (hpos : 0 < ks.length)
    (hdec : ∀ cs, FKs ks cs → ∃ x, U.enc c x = cs.map .v ∧ Q x) (h : DataW.trod enc P w base spare held fuel t [v] = some x) :
    ∃ (l : List (U.ty c)) (p : Place), l.length < 9223372036854775808 ∧ (∀ x ∈ l, Q x) ∧ (∀ π, BlkOk π w p (.ro c l)) ∧ ∀ (π : Plc) (id k : Nat), π id k = some p → Rep π (.sl id k 0 l.length) v := by
  rcases DataW.trod_slice ht h with ⟨h0, _⟩ | ⟨a, len, cap, elems, rest, m, _, hv, _, hb, hl, hm, hlen, hel, _, _⟩
  · cases h0
    refine ⟨[], ⟨0, 0, U.sz c, none, 0, 0⟩, by simp, fun x hx => by simp at hx, fun π => ⟨rfl, fun i x hi => by simp at hi⟩, fun π id k _ => ?_⟩
    simp only [Rep]
    exact ⟨none, 0, rfl, Nat.le_refl _, fun h => absurd h (Nat.lt_irrefl 0)⟩
  · cases hv
    have each : ∀ i, i < len → ∃ x : U.ty c, Q x ∧ ∀ j a1, (U.enc c x)[j]? = some a1 → ∃ y, w.cell? ((a.add (i * P.cellsOf e)).add j) = some y ∧ a1 = .v y := by
      intro i hi
      have h1 := hel i hi
      rw [List.getElem?_eq_getElem (by omega), Option.bind_eq_some_iff] at h1
      obtain ⟨cs, hcs, htr⟩ := h1
      obtain ⟨hcl, hcg⟩ := cells_get hcs
      obtain ⟨x, hx, hQ⟩ := hdec cs (flat_ok n hfl hce htr)
      refine ⟨x, hQ, fun j a1 hj => ?_⟩
      rw [hx, List.getElem?_map] at hj
      cases hc : cs[j]? with
      | none => rw [hc] at hj; cases hj
      | some y =>
        rw [hc] at hj
        have hjl := (List.getElem?_eq_some_iff.1 hc).1
        exact ⟨y, by rw [hcg j (by omega), hc], by simpa using hj.symm⟩
    have spot : 0 < len → a.spot = none := by
      intro h0
      obtain ⟨x, _, hx⟩ := each 0 h0
      have hl2 := U.len c x
      obtain ⟨y, hy, _⟩ := hx 0 ((U.enc c x)[0]'(by omega)) (List.getElem?_eq_getElem _)
      have h9 : (a.add (0 * P.cellsOf e)).add 0 = a := by simp [Addr.add]
      rw [h9] at hy
      exact cell_spot hy
    have : ∃ l : List (U.ty c), l.length = len ∧ ∀ i x, l[i]? = some x → Q x ∧ ∀ j a1, (U.enc c x)[j]? = some a1 → ∃ y, w.cell? ((a.add (i * P.cellsOf e)).add j) = some y ∧ a1 = .v y := by
      refine ⟨(List.range len).pmap (fun i hi => (each i hi).choose) (fun i hi => List.mem_range.1 hi), by simp, fun i x hi => ?_⟩
      rw [List.getElem?_pmap] at hi
      by_cases h0 : i < len
      · rw [Option.pmap_eq_some_iff] at hi
        obtain ⟨i', h1, h2, rfl⟩ := hi
        have : i' = i := by rw [List.getElem?_range h0] at h2; exact (Option.some.inj h2).symm
        subst this
        exact (each i' h1).choose_spec
      · simp [List.getElem?_eq_none (show (List.range len).length ≤ i by simp; omega)] at hi
    obtain ⟨l, hll, hl2⟩ := this
    have hQl : ∀ x ∈ l, Q x := fun x hx => by
      obtain ⟨i, hi⟩ := List.getElem?_of_mem hx
      exact (hl2 i x hi).1
    have hml : maxLen = 9223372036854775807 := by decide
    refine ⟨l, ⟨a.block, a.off, U.sz c, none, 0, 0⟩, by omega, hQl, fun π => ⟨rfl, fun i x hi j a1 hj => ?_⟩, fun π id k hp => ?_⟩
    · obtain ⟨y, hy, rfl⟩ := (hl2 i x hi).2 j a1 hj
      have hi' := (List.getElem?_eq_some_iff.1 hi).1
      have hs := spot (by omega)
      refine ⟨y, ?_, by simp [Rep]⟩
      rw [← hy]
      congr 1
      cases a
      simp only at hs
      subst hs
      simp only [Addr.add, hce, hsz]
      split <;> split <;> simp_all
    · simp only [Rep]
      refine ⟨some a, cap, by rw [hll], by omega, fun h0 => ⟨_, hp, ?_⟩⟩
      have hs := spot (by omega)
      cases a
      simp only at hs
      subst hs
      simp
/-- A slice of flat elements, read as data, is a row of the executor's memory. -/
theorem row_of_trod {U : Uni} (c : U.C) {t e : TypeId} {ks : List FK} {n fuel : Nat} {v : Value} {x : DataW H × List MemPlace} (ht : P.underlying t = some (.slice e)) (hfl : flat P n e = some ks) (hce : P.cellsOf e = ks.length) (hsz : ks.length = U.sz c) (hpos : 0 < ks.length)
    (hdec : ∀ cs, FKs ks cs → ∃ x, U.enc c x = cs.map .v) (h : DataW.trod enc P w base spare held fuel t [v] = some x) :
    ∃ (l : List (U.ty c)) (p : Place), l.length < 9223372036854775808 ∧ (∀ π, BlkOk π w p (.ro c l)) ∧ ∀ (π : Plc) (id k : Nat), π id k = some p → Rep π (.sl id k 0 l.length) v := by
  obtain ⟨l, p, a, _, b, d⟩ := row_of_trodQ c (fun _ => True) ht hfl hce hsz hpos (fun cs hc => by
    obtain ⟨x, hx⟩ := hdec cs hc
    exact ⟨x, hx, trivial⟩) h
  exact ⟨l, p, a, b, d⟩
end

/-- Rows that are only read, as memory. -/
def rosPlc (ps : List Place) : Plc := fun id k => if k = 0 then ps[id]? else none
theorem rosPlc_fresh (ps : List Place) : Fresh (rosPlc ps) ps.length := by
  intro id k h
  unfold rosPlc
  split
  · rw [List.getElem?_eq_none h]
  · rfl
def roH {U : Uni} (bs : List ((c : U.C) × List (U.ty c))) : Heap U := bs.map fun b => .one (.ro b.1 b.2)
theorem roH_at {U : Uni} {bs : List ((c : U.C) × List (U.ty c))} {id k : Nat} {b : AB1 U} (h : (roH bs).at id k = some b) : k = 0 ∧ ∃ c, bs[id]? = some c ∧ b = .ro c.1 c.2 := by
  unfold Heap.at roH at h
  rw [List.getElem?_map] at h
  cases hb : bs[id]? with
  | none => rw [hb] at h; cases h
  | some c =>
    rw [hb] at h
    simp only [Option.map_some] at h
    split at h
    · rename_i e; exact ⟨e, c, rfl, by simpa using h.symm⟩
    · cases h
theorem roH_conc {U : Uni} {w : World} {bs : List ((c : U.C) × List (U.ty c))} {ps : List Place} (hl : ps.length = bs.length) (h : ∀ (i : Nat) (b : (c : U.C) × List (U.ty c)) (p : Place), bs[i]? = some b → ps[i]? = some p → ∀ π, BlkOk (U := U) π w p (.ro b.1 b.2)) : Conc (rosPlc ps) (roH bs) w where
  ok := fun id k b hb => by
    obtain ⟨rfl, c, hc, rfl⟩ := roH_at hb
    have h1 := (List.getElem?_eq_some_iff.1 hc).1
    refine ⟨ps[id], ?_, h id c _ hc (List.getElem?_eq_getElem (by omega)) _⟩
    unfold rosPlc
    rw [if_pos rfl, List.getElem?_eq_getElem (by omega)]
  sep := fun id k b id' k' b' p p' hb _ _ ho => by
    obtain ⟨rfl, c, hc, rfl⟩ := roH_at hb
    cases ho
theorem roH_length {U : Uni} (bs : List ((c : U.C) × List (U.ty c))) : (roH bs).length = bs.length := by simp [roH]
/-- A call that owns nothing of its memory keeps all that was there. -/
theorem keeps_of_ro {U : Uni} {bs : List ((c : U.C) × List (U.ty c))} {w w' : World} {O : Nat → Prop} (h : Keeps O w w') (hO : ∀ n, ¬ O n) : Keeps (fun _ => False) w w' := h.weaken fun n _ hn => hO n hn

/-- Arguments read in a world that keeps all that was there as they read before. -/
theorem trodAll_stays {H : Type} {enc : TypeId × Value → H} {P : Program} (hl : laidOutB P = true) {W W' : World} {sp' : Nat → Bool} : ∀ {ts : List TypeId} {vs : List Value} {ds : List (DataW H)} {ps : List MemPlace},
    (ts.all fun t => P.readableRec t && decide (t < P.types.size)) = true → DataW.TrodAll enc P W 0 (fun _ => true) true ts vs ds ps → (∀ p ∈ ps, W.sameAt W' p) → (∀ p ∈ ps, sp' p.block = true) → DataW.TrodAll enc P W' 0 sp' true ts vs ds ps
  | [], [], [], _, _, h, _, _ => h
  | _ :: _, _ :: _, _ :: _, _, ht, ⟨p, q, h1, h2, e⟩, hs, hp => by
    simp only [List.all_cons, Bool.and_eq_true, decide_eq_true_eq] at ht
    exact ⟨p, q, WideElems.Trod_stays hl ht.1.1 ht.1.2 h1 (fun x hx => hs x (by rw [e]; exact List.mem_append_left _ hx)) (fun x hx => hp x (by rw [e]; exact List.mem_append_left _ hx)),
      trodAll_stays hl ht.2 h2 (fun x hx => hs x (by rw [e]; exact List.mem_append_right _ hx)) (fun x hx => hp x (by rw [e]; exact List.mem_append_right _ hx)), e⟩

/-- A law without named variables, by its walk: 'it returns true; the arguments read as they did'. -/
theorem law_lifted {C : Checked} {f : FuncId} {fn : Func} {s : ChangeSpec} {conds : List PathCond} (own : ownKnob C.prog.godebug = none) {os : Os} (started : os.Started) {H : Type} {enc : TypeId × Value → H} (noInit : C.prog.inits.idxOf? f = none) (hfn : C.prog.funcs[f]? = some fn)
    (witness : ∃ (w : World) (tape : Tape) (i : Input), w.os = os ∧ (w.forCall tape i).Shaped C.prog ∧ i.vars = [] ∧ Input.okWide C.prog (w.forCall tape i) .any w.heap.size f i ∧ s.pre6 enc C.prog fn conds false (w.forCall tape i).memory i.args ∧ ({} : Assume).holds C.prog (lone (Frame.enter C.prog f i.args .normal) [] (w.forCall tape i)))
    (hl : laidOutB C.prog = true) (hts : (fn.params.toList.all fun t => C.prog.readableRec t && decide (t < C.prog.types.size)) = true) {rt : TypeId} (hrt : fn.resultTypes = #[rt]) (hb : C.prog.underlying rt = some .bool)
    (hvars : s.vars = []) (hspec : ∀ ds : List (DataW H), ds.length = fn.params.size → (s.fn H ds).results = [.lit (.bool true)] ∧ (s.fn H ds).args = ds ∧ (s.fn H ds).vars = [])
    (walk : ∀ (W : World) (args : Array Value) (ds : List (DataW H)) (ps : List MemPlace), DataW.TrodAll enc C.prog W 0 (fun _ => true) true fn.params.toList args.toList ds ps → (∀ (j : Nat) t v, fn.params[j]? = some t → args[j]? = some v → ∃ base, Value.okWide C.prog W .any base t v) →
      Calls C.prog f args W fun e w' => e = .returned (.bool true) ∧ Keeps (fun _ => False) W w') :
    ReturnsInHanded {} C os f .any (s.pre6 enc C.prog fn conds false) (s.post enc C.prog fn false true false false) := by
  refine returnsInHanded_of_change (C := C) own started noInit hfn witness ?_
  intro W base args ds gs before hval hW hcnd _
  have hW' := hW
  obtain ⟨p, q, hA, hV, rfl, hfz, hnd⟩ := hW
  rw [hvars] at hV
  obtain ⟨rfl, rfl⟩ := trodVars_none hV
  simp only [List.append_nil] at hW'
  have hlen : ds.length = fn.params.size := by
    have : ∀ {ts : List TypeId} {vs : List Value} {ds : List (DataW H)} {ps : List MemPlace}, DataW.TrodAll enc C.prog W 0 (fun _ => true) true ts vs ds ps → ds.length = ts.length := by
      intro ts
      induction ts with
      | nil => intro vs ds ps h; obtain ⟨_, rfl, _⟩ := trodAll_nil h; rfl
      | cons t ts ih =>
        intro vs ds ps h
        obtain ⟨_, _, _, ds', _, _, _, rfl, _, _, h2⟩ := trodAll_cons h
        simp [ih h2]
    rw [this hA]; simp
  obtain ⟨s1, s2, s3⟩ := hspec (ds ++ []) (by simpa using hlen)
  refine (walk W args ds p hA fun j t v h1 h2 => ⟨base, hval j t v h1 h2⟩).mono fun e W' ⟨he, hg⟩ => ?_
  subst he
  refine ⟨_, rfl, post_of_keeps (pa := p) (pv := []) hW' (fun b sp hd => ?_) (fun sp hsp => ?_) (fun sp _ => ?_) (by simp) hg ?_⟩
  · rw [s1, hrt]
    exact trodAll_cons_mk (shut_bool hb _) trodAll_mk0
  · rw [s2, List.append_nil]
    have hlt := hW'.lt
    exact trodAll_stays hl hts hA (fun x hx => hg.below.same (by simpa using hlt x hx)) fun x hx => hsp x hx
  · rw [s3, hvars]; rfl
  · exact ok_one hrt rfl (okWide_bool_mk hb _)

theorem agg_of_cells {v : Value} {l : List Value} (h : v.cells.toList = l) (hl : l.length ≠ 1) : v = .agg l.toArray := by
  cases v with
  | agg cs => simp only [Value.cells] at h; rw [← h]
  | _ => simp only [Value.cells] at h; rw [← h] at hl; exact absurd rfl hl
theorem cells_of_one2 {v : Value} {x : Value} (hx : ∀ cs, v ≠ .agg cs) (h : v.cells.toList = [x]) : v = x := by
  cases v with
  | agg cs => exact absurd rfl (hx cs)
  | _ => simpa [Value.cells] using h
/-- A flat value read as data: its cells. -/
theorem flat_cells {H : Type} {enc : TypeId × Value → H} {P : Program} {w : World} {base : Nat} {spare : Nat → Bool} {held : Bool} {t : TypeId} {v : Value} {d : DataW H} {ps : List MemPlace} {ks : List FK} (n : Nat) (hfl : flat P n t = some ks) (hce : P.cellsOf t = ks.length) (h : DataW.Trod enc P w base spare held t v d ps) : FKs ks v.cells.toList := by
  obtain ⟨fuel, h⟩ := h
  exact flat_ok n hfl hce h
theorem flat_agg {H : Type} {enc : TypeId × Value → H} {P : Program} {w : World} {base : Nat} {spare : Nat → Bool} {held : Bool} {t : TypeId} {v : Value} {d : DataW H} {ps : List MemPlace} {ks : List FK} (n : Nat) (hfl : flat P n t = some ks) (hce : P.cellsOf t = ks.length) (hne : ks.length ≠ 1) (h : DataW.Trod enc P w base spare held t v d ps) : ∃ l, FKs ks l ∧ v = .agg l.toArray := by
  have h1 := flat_cells n hfl hce h
  exact ⟨_, h1, agg_of_cells rfl (by rw [h1.length]; exact hne)⟩
theorem RepL.ofV {π : Plc} : ∀ (l : List Value), RepL π (l.map .v) l
  | [] => RepL.nil π
  | x :: l => RepL.cons (by simp [Rep]) (RepL.ofV l)
end AE

namespace AE.Soil
open Go AE Go.Proofs Go.ChangeShapes Go.WideShapes Go.RowKit

theorem laidOut : laidOutB Try.prog = true := by kernel_rfl
theorem flatP : flat Try.prog 30 54 = some [.int .i64, .int .i64, .int .i64, .int .i64, .int .i64, .int .i64, .int .i64, .int .i64, .int .i64] := by kernel_rfl
theorem decP (cs : List Value) (h : FKs [.int .i64, .int .i64, .int .i64, .int .i64, .int .i64, .int .i64, .int .i64, .int .i64, .int .i64] cs) : ∃ x : PitT, CC.enc .pit x = cs.map .v := by
  obtain ⟨_, _, rfl, ⟨a, rfl, _⟩, _, _, rfl, ⟨b, rfl, _⟩, _, _, rfl, ⟨c, rfl, _⟩, _, _, rfl, ⟨d, rfl, _⟩, _, _, rfl, ⟨e, rfl, _⟩, _, _, rfl, ⟨f, rfl, _⟩, _, _, rfl, ⟨g, rfl, _⟩, _, _, rfl, ⟨i, rfl, _⟩, _, _, rfl, ⟨j, rfl, _⟩, h⟩ := h
  cases h
  exact ⟨(a, (b, c), (d, e), (f, g), (i, j)), rfl⟩
theorem in_u8 {n : Int} (h : (Lit.int .u8 n).wf = true) : 0 ≤ n ∧ n ≤ 255 := by
  simp only [Lit.wf, Bool.and_eq_true, decide_eq_true_eq] at h
  have h1 : IntKind.u8.min = 0 := by decide
  have h2 : IntKind.u8.max = 255 := by decide
  omega
theorem in_i16 {n : Int} (h : (Lit.int .i16 n).wf = true) : -32768 ≤ n ∧ n ≤ 32767 := by
  simp only [Lit.wf, Bool.and_eq_true, decide_eq_true_eq] at h
  have h1 : IntKind.i16.min = -32768 := by decide
  have h2 : IntKind.i16.max = 32767 := by decide
  omega
theorem in_i64 {n : Int} (h : (Lit.int .i64 n).wf = true) : -9223372036854775808 ≤ n ∧ n ≤ 9223372036854775807 := by
  simp only [Lit.wf, Bool.and_eq_true, decide_eq_true_eq] at h
  have h1 : IntKind.i64.min = -9223372036854775808 := by decide
  have h2 : IntKind.i64.max = 9223372036854775807 := by decide
  omega
def bigG (g : GroundT) : Prop := g.pits.length < 9223372036854775808

section
variable {H : Type} {enc : TypeId × Value → H} {w : World} {d : DataW H} {ps : List MemPlace} {v : Value}
set_option maxRecDepth 100000 in
theorem open_ground (h : DataW.Trod enc Try.prog w 0 (fun _ => true) true 24 v d ps) :
    ∃ (x : GroundT) (p : Place), bigG x ∧ (∀ π, BlkOk π w p (.ro (U := UU) .pit x.pits)) ∧ ((-9223372036854775808 ≤ x.long ∧ x.long ≤ 9223372036854775807) ∧ (-9223372036854775808 ≤ x.rise ∧ x.rise ≤ 9223372036854775807) ∧ (-9223372036854775808 ≤ x.change ∧ x.change ≤ 9223372036854775807)) ∧ ∀ π : Plc, π 0 0 = some p → Rep π (vGround x 0) v := by
  obtain ⟨fuel, h⟩ := h
  obtain ⟨xs, m, _, _, hl, hlen, hf⟩ := DataW.trod_struct Try.underlying24 h
  have hc : Try.prog.cellsOf 24 = 4 := by kernel_rfl
  have c3 : Try.prog.cellsOf 3 = 1 := by kernel_rfl
  have c22 : Try.prog.cellsOf 22 = 1 := by kernel_rfl
  have fl3 : flat Try.prog 30 3 = some [.int .i64] := by kernel_rfl
  rw [hc] at hl
  have hv := agg_of_cells (v := v) rfl (by omega)
  obtain ⟨l, hl2⟩ : ∃ l, v.cells.toList = l := ⟨_, rfl⟩
  rw [hl2] at hl hv hf
  subst hv
  have hx : ∀ i, i < 4 → ∃ y, xs[i]? = some y := fun i hi => ⟨_, List.getElem?_eq_getElem (by have : xs.length = 4 := hlen; omega)⟩
  match l, hl with
  | [a, b, c, e], _ =>
  obtain ⟨y0, e0⟩ := hx 0 (by omega)
  obtain ⟨y1, e1⟩ := hx 1 (by omega)
  obtain ⟨y2, e2⟩ := hx 2 (by omega)
  obtain ⟨y3, e3⟩ := hx 3 (by omega)
  have f0 : DataW.trod enc Try.prog w 0 (fun _ => true) true m 3 (([a, b, c, e].drop 0).take (Try.prog.cellsOf 3)) = xs[0]? := hf 0 _ rfl
  have f1 : DataW.trod enc Try.prog w 0 (fun _ => true) true m 3 (([a, b, c, e].drop 1).take (Try.prog.cellsOf 3)) = xs[1]? := hf 1 _ rfl
  have f2 : DataW.trod enc Try.prog w 0 (fun _ => true) true m 3 (([a, b, c, e].drop 2).take (Try.prog.cellsOf 3)) = xs[2]? := hf 2 _ rfl
  have f3 : DataW.trod enc Try.prog w 0 (fun _ => true) true m 22 (([a, b, c, e].drop 3).take (Try.prog.cellsOf 22)) = xs[3]? := hf 3 _ rfl
  rw [e0, c3] at f0
  rw [e1, c3] at f1
  rw [e2, c3] at f2
  rw [e3, c22] at f3
  obtain ⟨_, _, h0, ⟨n0, rfl, w0⟩, r0⟩ := flat_ok 30 fl3 c3 f0
  obtain ⟨_, _, h1, ⟨n1, rfl, w1⟩, r1⟩ := flat_ok 30 fl3 c3 f1
  obtain ⟨_, _, h2, ⟨n2, rfl, w2⟩, r2⟩ := flat_ok 30 fl3 c3 f2
  have h0' : a = .int .i64 n0 := (List.cons.inj h0).1
  have h1' : b = .int .i64 n1 := (List.cons.inj h1).1
  have h2' : c = .int .i64 n2 := (List.cons.inj h2).1
  obtain ⟨cs, p, hcs, hp, hpr⟩ := row_of_trod (U := UU) CC.pit Try.underlying22 flatP (by kernel_rfl) rfl (by decide) decP f3
  refine ⟨⟨n0, n1, n2, cs⟩, p, hcs, hp, ⟨in_i64 w0, in_i64 w1, in_i64 w2⟩, fun π h3 => ?_⟩
  subst h0' h1' h2'
  simp only [vGround, Rep]
  exact ⟨_, rfl, RepL.cons (by simp [Rep]) (RepL.cons (by simp [Rep]) (RepL.cons (by simp [Rep]) (RepL.cons (hpr π 0 0 h3) (RepL.nil π))))⟩
end
/-- A law that takes a ground and more: its walk. -/
theorem walk_of {f : FuncId} {W : World} {args : Array Value} {x : GroundT} {p : Place} {al : List AV} (h : FunOk Try.prog f al [.one (.ro (U := UU) .pit x.pits)] (.val ⟨.b true, [], [], []⟩)) (hp : ∀ π, BlkOk π W p (.ro (U := UU) .pit x.pits))
    (hr : RepL (rosPlc [p]) al args.toList) : Calls Try.prog f args W fun e w' => e = .returned (.bool true) ∧ Keeps (fun _ => False) W w' := by
  have hc : Conc (rosPlc [p]) [.one (.ro (U := UU) .pit x.pits)] W := roH_conc (U := UU) (bs := [⟨CC.pit, x.pits⟩]) rfl fun i b p' hb hp' π => by
    match i with
    | 0 => cases hb; cases hp'; exact hp π
    | i + 1 => cases hb
  have hF := h (rosPlc [p]) W args.toList (rosPlc_fresh [p]) hc hr
  refine hF.mono fun e w' hh => ?_
  obtain ⟨v, πn, rfl, hpo⟩ := hh
  have hb := rep_v hpo.rep
  subst hb
  refine ⟨rfl, hpo.keeps.weaken fun n _ hn => ?_⟩
  obtain ⟨id, k, p, b0, hu, _⟩ := hn
  rcases hu with ⟨b, hb⟩ | hb <;> cases hb
end AE.Soil
