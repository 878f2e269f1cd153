/- An own symbolic executor for the model's code, and what the functions beneath the law compute, joined out of: TmA, SoK, SoL, SoM, SoN, SoO, SoP, SoQ, SoR, TmB, TmC, TmD, TmE, TmF, TmG, TmH, TmI, TmJ, TmK, TmN, TmO. No condition. -/
import Derived.Test.YtlhpkhpgjccbpaaM3

set_option linter.unusedSimpArgs false
set_option linter.unusedVariables false
namespace AE.Team
open Go AE Go.Proofs AE.Soil

def avTeam : AV → Option TeamT
  | .agg [a, b, c, d, e, f, g] => match avInt a, avInt b, avInt c, avInt d, avInt e, avInt f, avInt g with
    | some a, some b, some c, some d, some e, some f, some g => some ((a, b), (c, d), (e, f), g)
    | _, _, _, _, _, _, _ => none
  | _ => none
def vTeam (t : TeamT) : AV := .agg [.i t.1.1, .i t.1.2, .i t.2.1.1, .i t.2.1.2, .i t.2.2.1.1, .i t.2.2.1.2, .i t.2.2.2]
def teamM (t : TeamT) : Bool := inM t.2.2.2 0 10000 && spanM t.1 t.2.2.2 && spanM t.2.1 100 && spanM t.2.2.1 1000

theorem twithin_ok : ∀ x, withinS.pre x → FunOk Try.prog 35 (withinS.args x) (withinS.H x) (withinS.R x) := by
  rintro ⟨n, lo, hi⟩ _
  refine fun_of (T := []) (L := fun _ => none) (hs := fun _ => []) hmix .nil Try.func35 (by kernel_rfl) (by kernel_rfl) ?_
  refine Eq.mp (α :=
      let Z1 := Value.bool (inM n lo hi); let Z2 := decide (lo ≤ n); (Z2 = true → True ∧ (Value.bool (decide (n ≤ hi)) = Z1 ∧ True) ∧ True ∧ True) ∧ (Z2 = false → True ∧ (Z1 = Value.bool false ∧ True) ∧ True ∧ True))
    (by kernel_rfl) ?_
  simp only [eq_self, true_and, and_true, Int.toNat_natCast, Nat.zero_add, Nat.sub_zero, Value.int.injEq, Value.bool.injEq, decide_eq_true_eq, decide_eq_false_iff_not]
  simp only [inM]
  simp +contextual
  omega

theorem twithin_sound : Sound Try.prog 35 withinS.con := FSpec.sound _ (enter_of Try.func35 (by kernel_rfl) (by kernel_rfl)) twithin_ok
set_option maxRecDepth 100000 in
theorem tisSpan_ok : ∀ x, isSpanS.pre x → FunOk Try.prog 75 (isSpanS.args x) (isSpanS.H x) (isSpanS.R x) := by
  rintro ⟨⟨lo, hi⟩, n⟩ _
  refine fun_of (T := []) (L := fun _ => none) (hs := fun _ => []) hmix .nil Try.func75 (by kernel_rfl) (by kernel_rfl) ?_
  refine Eq.mp (α :=
      let Z0 := (lo, hi); let Z8 := (Value.bool (spanM Z0 n) = Value.bool false ∧ True) ∧ True ∧ True; let Z10 := decide ((0 : Int) ≤ lo); let Z11 := decide (lo ≤ hi); (Z10 = true → (Z11 = true → True ∧ (Value.bool (decide (hi ≤ n)) = Value.bool (spanM Z0 n) ∧ True) ∧ True ∧ True) ∧ (Z11 = false → True ∧ Z8)) ∧ (Z10 = false → True ∧ Z8))
    (by kernel_rfl) ?_
  simp only [eq_self, true_and, and_true, Int.toNat_natCast, Nat.zero_add, Nat.sub_zero, Value.int.injEq, Value.bool.injEq, decide_eq_true_eq, decide_eq_false_iff_not]
  simp only [spanM]
  simp +contextual
  omega

theorem tisSpan_sound : Sound Try.prog 75 isSpanS.con := FSpec.sound _ (enter_of Try.func75 (by kernel_rfl) (by kernel_rfl)) tisSpan_ok
def misV (e : Int) : AV := .ifc 110 (.agg [.i e])
def needS : FSpec2 UU where
  X := Bool × Int
  pick := fun args _ => match args with
    | [a, b] => match avBool a, avInt b with
      | some a, some b => some (a, b)
      | _, _ => none
    | _ => none
  args := fun x => [.v (.bool x.1), .i x.2]
  H := fun _ => []
  c := fun x => x.1
  R := fun _ => .val ⟨.tup [], [], [], []⟩
  R' := fun x => .panic (misV x.2)
set_option maxRecDepth 100000 in
theorem need_ok1 : ∀ x, needS.pre x → needS.c x = true → FunOk Try.prog 38 (needS.args x) (needS.H x) (needS.R x) := by
  rintro ⟨b, e⟩ _ hb
  refine fun_of (T := []) (L := fun _ => none) (hs := fun _ => []) hmix .nil Try.func38 (by kernel_rfl) (by kernel_rfl) ?_
  refine Eq.mp (α :=
      ((!b) = true → False) ∧ ((!b) = false → True ∧ (True ∧ True) ∧ True ∧ True))
    (by kernel_rfl) ?_
  simp only [eq_self, true_and, and_true, Int.toNat_natCast, Nat.zero_add, Nat.sub_zero, Value.int.injEq, Value.bool.injEq, decide_eq_true_eq, decide_eq_false_iff_not]
  simp only [needS] at hb
  simp [hb]

set_option maxRecDepth 100000 in
theorem need_ok2 : ∀ x, needS.pre x → needS.c x = false → FunOk Try.prog 38 (needS.args x) (needS.H x) (needS.R' x) := by
  rintro ⟨b, e⟩ _ hb
  refine fun_of (T := []) (L := fun _ => none) (hs := fun _ => []) hmix .nil Try.func38 (by kernel_rfl) (by kernel_rfl) ?_
  refine Eq.mp (α :=
      ((!b) = true → True ∧ nat_lit 110 = (110 : TypeId) ∧ Value.int IntKind.i64 e = Value.int IntKind.i64 e ∧ True) ∧ ((!b) = false → False))
    (by kernel_rfl) ?_
  simp only [eq_self, true_and, and_true, Int.toNat_natCast, Nat.zero_add, Nat.sub_zero, Value.int.injEq, Value.bool.injEq, decide_eq_true_eq, decide_eq_false_iff_not]
  simp only [needS] at hb
  simp [hb]

theorem need_sound : Sound Try.prog 38 needS.con := FSpec2.sound _ (enter_of Try.func38 (by kernel_rfl) (by kernel_rfl)) fun x h => ⟨need_ok1 x h, need_ok2 x h⟩
def caughtS : FSpec UU where
  X := Option Int × Int
  pick := fun args H => match args with
    | [a, .ptr id 0 0 0] => match blkAt H id 0 with
      | some (.cells [o] _) => match avInt o with
        | some o => match a with
          | .v .nilIface => some (none, o)
          | .ifc _ (.agg [e]) => match avInt e with
            | some e => some (some e, o)
            | none => none
          | _ => none
        | none => none
      | _ => none
    | _ => none
  args := fun x => match x.1 with
    | none => [.v .nilIface, .ptr 0 0 0 0]
    | some e => [misV e, .ptr 0 0 0 0]
  H := fun x => [.one (.cells [.i x.2] 22)]
  R := fun x => match x.1 with
    | none => .val ⟨.tup [], [(0, 0, .cells [.i x.2] 22)], [], []⟩
    | some e => .val ⟨.tup [], [(0, 0, .cells [.i e] 22)], [], []⟩
set_option maxRecDepth 100000 in
theorem caught_ok1 (o : Int) : FunOk Try.prog 29 (caughtS.args (none, o)) (caughtS.H (none, o)) (caughtS.R (none, o)) := by
  refine fun_of (T := []) (L := fun _ => none) (hs := fun _ => []) hmix .nil Try.func29 (by kernel_rfl) (by kernel_rfl) ?_
  refine Eq.mp (α :=
      (true = true → True ∧ (True ∧ True) ∧ True ∧ (Value.int IntKind.i64 o = Value.int IntKind.i64 o ∧ True) ∧ True) ∧ (true = false → False))
    (by kernel_rfl) ?_
  simp

set_option maxRecDepth 100000 in
theorem caught_ok2 (e o : Int) : FunOk Try.prog 29 (caughtS.args (some e, o)) (caughtS.H (some e, o)) (caughtS.R (some e, o)) := by
  refine fun_of (T := []) (L := fun _ => none) (hs := fun _ => []) hmix .nil Try.func29 (by kernel_rfl) (by kernel_rfl) ?_
  refine Eq.mp (α :=
      True ∧ (True ∧ True) ∧ True ∧ (Value.int IntKind.i64 e = Value.int IntKind.i64 e ∧ True) ∧ True)
    (by kernel_rfl) ?_
  simp

theorem caught_sound : Sound Try.prog 29 caughtS.con := FSpec.sound _ (enter_of Try.func29 (by kernel_rfl) (by kernel_rfl)) fun x _ => match x with
  | (none, o) => caught_ok1 o
  | (some e, o) => caught_ok2 e o
def isTeamS : FSpec UU where
  X := TeamT
  pick := fun args _ => match args with
    | [a] => avTeam a
    | _ => none
  args := fun (x : TeamT) => [vTeam x]
  H := fun _ => []
  R := fun (x : TeamT) => .val ⟨.b (teamM x), [], [], []⟩
def TisTeam : Tab UU := [(35, withinS.con), (75, isSpanS.con)]
theorem TisTeam_ok : TisTeam.Sound Try.prog := .cons twithin_sound (.cons tisSpan_sound .nil)
set_option maxRecDepth 100000 in
theorem isTeam_ok : ∀ x, isTeamS.pre x → FunOk Try.prog 58 (isTeamS.args x) (isTeamS.H x) (isTeamS.R x) := by
  rintro ⟨⟨s0, s1⟩, ⟨l0, l1⟩, ⟨g0, g1⟩, full⟩ _
  refine fun_of (T := TisTeam) (L := fun _ => none) (hs := fun _ => []) hmix TisTeam_ok Try.func58 (by kernel_rfl) (by kernel_rfl) ?_
  refine Eq.mp (α :=
      let Z0 := True ∧ True; let Z1 := (s0, s1); let Z2 := (g0, g1); let Z3 := (l0, l1); let Z5 := Value.int IntKind.i64 full; let Z6 := (0 : Int); let Z7 := (100 : Int); let Z8 := (1000 : Int); let Z10 := (10000 : Int); let Z12 := Value.int IntKind.i64 Z6; let Z13 := Value.int IntKind.i64 Z7; let Z14 := Value.int IntKind.i64 Z8; let Z16 := Value.int IntKind.i64 Z10; let Z20 := (Z1, Z3, Z2, full); let Z23 := Value.bool (teamM Z20) = Value.bool false; True ∧ (Z5 = Z5 ∧ Z12 = Z12 ∧ Z16 = Z16 ∧ True) ∧ True ∧ (inM full Z6 Z10 = true → True ∧ ((Value.int IntKind.i64 s0 = Value.int IntKind.i64 s0 ∧ Value.int IntKind.i64 s1 = Value.int IntKind.i64 s1 ∧ True) ∧ Z5 = Z5 ∧ True) ∧ True ∧ (spanM Z1 full = true → True ∧ ((Value.int IntKind.i64 l0 = Value.int IntKind.i64 l0 ∧ Value.int IntKind.i64 l1 = Value.int IntKind.i64 l1 ∧ True) ∧ Z13 = Z13 ∧ True) ∧ True ∧ (spanM Z3 Z7 = true → True ∧ ((Value.int IntKind.i64 g0 = Value.int IntKind.i64 g0 ∧ Value.int IntKind.i64 g1 = Value.int IntKind.i64 g1 ∧ True) ∧ Z14 = Z14 ∧ True) ∧ True ∧ True ∧ (Value.bool (spanM Z2 Z8) = Value.bool (teamM Z20) ∧ True) ∧ Z0) ∧ (spanM Z3 Z7 = false → True ∧ (Z23 ∧ True) ∧ Z0)) ∧ (spanM Z1 full = false → True ∧ (Z23 ∧ True) ∧ Z0)) ∧ (inM full Z6 Z10 = false → True ∧ (Z23 ∧ True) ∧ Z0))
    (by kernel_rfl) ?_
  simp only [eq_self, true_and, and_true, Int.toNat_natCast, Nat.zero_add, Nat.sub_zero, Value.int.injEq, Value.bool.injEq, decide_eq_true_eq, decide_eq_false_iff_not]
  unfold teamM
  dsimp only
  generalize inM full 0 10000 = q1
  generalize spanM (s0, s1) full = q2
  generalize spanM (l0, l1) 100 = q3
  generalize spanM (g0, g1) 1000 = q4
  revert q1 q2 q3 q4
  decide

theorem isTeam_sound : Sound Try.prog 58 isTeamS.con := FSpec.sound _ (enter_of Try.func58 (by kernel_rfl) (by kernel_rfl)) isTeam_ok
structure PlotT where
  g : GroundT
  steps : List StepT
def okStepM (long : Int) (s : StepT) : Bool := inM s.2.2 0 600 && (!(s.2.2 == 0) || (inM s.1 0 s.2.1 && inM s.2.1 0 long))
def cPlot (p : PlotT) (a b : Nat) : List AV := [.i p.g.long, .i p.g.rise, .i p.g.change, .sl a 0 0 p.g.pits.length, .sl b 0 0 p.steps.length]
def vPlot (p : PlotT) (a b : Nat) : AV := .agg (cPlot p a b)
def badS : FSpec UU where
  X := StepT × Int
  pick := fun args H => match args with
    | [.agg [a, b, c], .ptr id k 0 0] => match avInt a, avInt b, avInt c, blkAt H id k with
      | some a, some b, some c, some (.cells (l :: _) _) => match avInt l with
        | some l => some ((a, b, c), l)
        | none => none
      | some a, some b, some c, some (.rc (l :: _) _) => match avInt l with
        | some l => some ((a, b, c), l)
        | none => none
      | _, _, _, _ => none
    | _ => none
  args := fun x => [.agg [.i x.1.1, .i x.1.2.1, .i x.1.2.2], .ptr 0 0 0 0]
  H := fun x => [.one (.rc [.i x.2, .junk, .junk, .junk, .junk] 35)]
  R := fun x => .val ⟨.b (!okStepM x.2 x.1), [], [], []⟩
def Tbad : Tab UU := [(35, withinS.con)]
theorem Tbad_ok : Tbad.Sound Try.prog := .cons twithin_sound .nil
set_option maxRecDepth 100000 in
theorem bad_ok : ∀ x, badS.pre x → FunOk Try.prog 77 (badS.args x) (badS.H x) (badS.R x) := by
  rintro ⟨⟨a, b, c⟩, long⟩ _
  refine fun_of (T := Tbad) (L := fun _ => none) (hs := fun _ => []) hmix Tbad_ok Try.func77 (by kernel_rfl) (by kernel_rfl) ?_
  refine Eq.mp (α :=
      let Z3 := Value.int IntKind.i64 c; let Z4 := Value.int IntKind.i64 long; let Z5 := Value.int IntKind.i64 b; let Z7 := (0 : Int); let Z8 := (600 : Int); let Z13 := Value.int IntKind.i64 Z7; let Z14 := Value.int IntKind.i64 Z8; let Z20 := inM c Z7 Z8; let Z22 := Value.bool !okStepM long (a, b, c); let Z23 := c == Z7; let Z26 := (!Z20) = false; let Z27 := Z23 = false; let Z29 := Z13 = Z13; let Z31 := Z22 = Value.bool true; let Z32 := Z22 = Value.bool false; let Z34 := True ∧ (Z4 = Z4 ∧ True ∧ True ∧ True ∧ True ∧ True) ∧ True; True ∧ (Value.int IntKind.i64 a = Value.int IntKind.i64 a ∧ Z29 ∧ Z5 = Z5 ∧ True) ∧ True ∧ (inM a Z7 b = true → True ∧ (Z5 = Z5 ∧ Z29 ∧ Z4 = Z4 ∧ True) ∧ True ∧ True ∧ (Z3 = Z3 ∧ Z29 ∧ Z14 = Z14 ∧ True) ∧ True ∧ ((!Z20) = true → True ∧ (Z31 ∧ True) ∧ Z34) ∧ (Z26 → (Z23 = true → True ∧ ((Value.bool !inM b Z7 long) = Z22 ∧ True) ∧ Z34) ∧ (Z27 → True ∧ (Z32 ∧ True) ∧ Z34))) ∧ (inM a Z7 b = false → True ∧ (Z3 = Z3 ∧ Z29 ∧ Z14 = Z14 ∧ True) ∧ True ∧ ((!Z20) = true → True ∧ (Z31 ∧ True) ∧ Z34) ∧ (Z26 → (Z23 = true → True ∧ (Z31 ∧ True) ∧ Z34) ∧ (Z27 → True ∧ (Z32 ∧ True) ∧ Z34))))
    (by kernel_rfl) ?_
  simp only [eq_self, true_and, and_true, Int.toNat_natCast, Nat.zero_add, Nat.sub_zero, Value.int.injEq, Value.bool.injEq, decide_eq_true_eq, decide_eq_false_iff_not]
  unfold okStepM
  dsimp only
  generalize inM a 0 b = q1
  generalize inM c 0 600 = q2
  generalize (c == 0) = q3
  generalize inM b 0 long = q4
  revert q1 q2 q3 q4
  decide

theorem bad_sound : Sound Try.prog 77 badS.con := FSpec.sound _ (enter_of Try.func77 (by kernel_rfl) (by kernel_rfl)) bad_ok
end AE.Team

namespace AE.Soil
open Go AE Go.Proofs

def fromM (n : Int) : Span := (n, 20)
def belowM (n : Int) : Span := (0, W (n - 1))
def of0M (a : Mix3) (s : Span) : Mix3 := (a.1, a.2.1, s)
def of1M (a : Mix3) (s : Span) : Mix3 := (s, a.2.1, a.2.2)
def of2M (a : Mix3) (s : Span) : Mix3 := (a.1, s, a.2.2)
end AE.Soil

namespace AE.Soil
open Go AE Go.Proofs

inductive Pt where
  | p0 | p1 | p2
def ptM (k : Pt) (a : Mix3) (s : Span) : Mix3 := match k with
  | .p0 => of0M a s
  | .p1 => of1M a s
  | .p2 => of2M a s
def avCell (H : Heap UU) : AV → Option AV
  | .ptr i 0 0 0 => match blkAt H i 0 with
    | some (.cells [a] _) => some a
    | some (.rc [a] _) => some a
    | _ => none
  | _ => none
structure KQ where
  m : Mix3
  k : Pt
  a : Mix3
  n : Int
structure KA where
  c : Int
  n : Int
  k : Pt
  a : Mix3
end AE.Soil

namespace AE.Soil
open Go AE Go.Proofs

def orM (a b : Int) : Int := W (BitVec.ofInt 64 a ||| BitVec.ofInt 64 b).toNat
def kindM : Nat → Int × Int × Pt
  | 0 => (3, 8, .p0)
  | 1 => (1, 14, .p1)
  | _ => (2, 12, .p2)
def hasM (m : Mix3) (j : Nat) : Mix3 := andM m (ptM (kindM j).2.2 anyM (fromM (kindM j).2.1))
def hasntM (m : Mix3) (j : Nat) : Mix3 := andM m (ptM (kindM j).2.2 anyM (belowM (kindM j).2.1))
def leftM (m : Mix3) : Nat → Mix3
  | 0 => m
  | j + 1 => hasntM (leftM m j) j
def setM (m : Mix3) : Nat → Int
  | 0 => 0
  | j + 1 => if noneM (hasM (leftM m j) j) then setM m j else orM (setM m j) (W (1 * 2 ^ (kindM j).1.toNat))
def classesM (m : Mix3) : Int := if noneM (leftM m 1) then setM m 1 else if noneM (leftM m 2) then setM m 2 else if noneM (leftM m 3) then setM m 3 else orM (setM m 3) 1
section
end
end AE.Soil

namespace AE.Soil
open Go AE Go.Proofs

def classOM (g : GroundT) (at_ : Int) : Int × Int := if openErrM g .place [at_] == 0 then (classesM ((boxesM g).getD at_.toNat m0), 0) else (0, openErrM g .place [at_])
end AE.Soil

namespace AE.Soil
open Go AE Go.Proofs

end AE.Soil

namespace AE.Soil
open Go AE Go.Proofs

structure WQ where
  n : Int
  long : Int
  rise : Int
  change : Int
  from_ : Int
  to : Int
def avTri (H : Heap UU) : AV → Option (Int × Int × Int)
  | .fn (.func 88) [] [.ptr id k 0 0] => match blkAt H id k with
    | some (.cells [b, c, d, _] _) => match avInt b, avInt c, avInt d with
      | some b, some c, some d => some (b, c, d)
      | _, _, _ => none
    | some (.rc [b, c, d, _] _) => match avInt b, avInt c, avInt d with
      | some b, some c, some d => some (b, c, d)
      | _, _, _ => none
    | _ => none
  | _ => none
def spanOkM (a b : Int) : Bool := decide (a ≤ b)
def workS : FSpec UU where
  X := WQ
  pick := fun args H => match args with
    | [n, p, a, b] => match avInt n, avCell H p, avCell H a, avCell H b with
      | some n, some p, some a, some b => match avTri H p, avInt a, avInt b with
        | some (l, r, c), some a, some b => some ⟨n, l, r, c, a, b⟩
        | _, _, _ => none
      | _, _, _, _ => none
    | _ => none
  args := fun x => [.i x.n, .ptr 0 0 0 0, .ptr 1 0 0 0, .ptr 2 0 0 0]
  H := fun x => [.one (.rc [.fn (.func 88) [] [.ptr 3 0 0 0]] 53), .one (.rc [.i x.from_] 3), .one (.rc [.i x.to] 3), .one (.rc [.i x.long, .i x.rise, .i x.change, .junk] 32)]
  R := fun x => .val ⟨.b (inM x.n 0 x.long && spanOkM x.from_ x.to), [], [], []⟩
def Twork1 : Tab UU := [(88, placeS.con)]
theorem Twork1_ok : Twork1.Sound Try.prog := .cons place_sound .nil
set_option maxRecDepth 100000 in
theorem work1_ok : ∀ x, workS.pre x → FunOk Try.prog 84 (workS.args x) (workS.H x) (workS.R x) := by
  rintro ⟨n, l, r, c, a, b⟩ _
  refine fun_of (T := Twork1) (L := fun _ => none) (hs := fun _ => []) hmix Twork1_ok Try.func84 (by kernel_rfl) (by kernel_rfl) ?_
  refine Eq.mp (α :=
      let Z0 := Value.int IntKind.i64 c; let Z1 := Value.int IntKind.i64 r; let Z2 := Value.int IntKind.i64 l; let Z3 := Value.int IntKind.i64 b; let Z4 := Value.int IntKind.i64 a; let Z8 := nat_lit 0 = nat_lit 0 ∧ nat_lit 0 = nat_lit 0 ∧ nat_lit 0 = nat_lit 0; let Z9 := inM n (0 : Int) l; let Z10 := Fn.func (88 : FuncId); let Z13 := Z2 = Z2; let Z16 := Z1 = Z1; let Z20 := Z9 && spanOkM a b; let Z21 := Z0 = Z0 ∧ True ∧ True; True ∧ (Value.int IntKind.i64 n = Value.int IntKind.i64 n ∧ Z8 ∧ True) ∧ ((Z13 ∧ Z16 ∧ Z21) ∧ True) ∧ (Z9 = true → True ∧ (Value.bool (decide (a ≤ b)) = Value.bool Z20 ∧ True) ∧ True ∧ ((Z10 = Z10 ∧ True ∧ Z8 ∧ True) ∧ True) ∧ (Z4 = Z4 ∧ True) ∧ (Z3 = Z3 ∧ True) ∧ (Z13 ∧ Z16 ∧ Z21) ∧ True) ∧ (Z9 = false → True ∧ (Value.bool Z20 = Value.bool false ∧ True) ∧ True ∧ ((Z10 = Z10 ∧ True ∧ Z8 ∧ True) ∧ True) ∧ (Z4 = Z4 ∧ True) ∧ (Z3 = Z3 ∧ True) ∧ (Z13 ∧ Z16 ∧ Z21) ∧ True))
    (by kernel_rfl) ?_
  simp [spanOkM]
  exact ⟨fun h _ => h, fun h h' => by rw [h] at h'; cases h'⟩

theorem work1_sound : Sound Try.prog 84 workS.con := FSpec.sound _ (enter_of Try.func84 (by kernel_rfl) (by kernel_rfl)) work1_ok
end AE.Soil

namespace AE.Soil
open Go AE Go.Proofs

structure OC where
  g : GroundT
  l : List Int
  f : Int
  t : Int
def openCL (g : GroundT) (l : List Int) (f t : Int) : LSpec UU where
  T := { i : Nat // i ≤ l.length ∧ (l.take i).all (askM (.span (spanOkM f t)) g.long) = true }
  fr := fun i => [(1, .fn (.func 84) [] [.ptr 2 0 0 0, .ptr 3 0 0 0, .ptr 4 0 0 0]), (3, .ptr 6 0 0 0), (14, .sl 5 0 0 l.length), (15, .i l.length), (16, .i i.1)]
  H := fun _ => [.one (.ro .pit g.pits), .one (.rc (cGround g 0) 32), .one (.rc [.fn (.func 88) [] [.ptr 1 0 0 0]] 53), .one (.rc [.i f] 3), .one (.rc [.i t] 3), .one (.ro .int l), .one (.cells (cGround g 0) 32)]
  mu := fun i => l.length - i.1
def openCS : FSpec2 UU where
  X := OC
  pick := fun args H => match args with
    | [a, .fn (.func 84) [] [_, f, t], l] => match avGround H a, sliceAt .int H l, avCell H f, avCell H t with
      | some a, some l, some f, some t => match avInt f, avInt t with
        | some f, some t => some ⟨a, l, f, t⟩
        | _, _ => none
      | _, _, _, _ => none
    | _ => none
  args := fun x => [vGround x.g 0, .fn (.func 84) [] [.ptr 2 0 0 0, .ptr 3 0 0 0, .ptr 4 0 0 0], .sl 5 0 0 x.l.length]
  H := fun x => [.one (.ro .pit x.g.pits), .one (.rc (cGround x.g 0) 32), .one (.rc [.fn (.func 88) [] [.ptr 1 0 0 0]] 53), .one (.rc [.i x.f] 3), .one (.rc [.i x.t] 3), .one (.ro .int x.l)]
  c := fun x => openErrM x.g (.span (spanOkM x.f x.t)) x.l == 0
  R := fun x => .val ⟨.ptr 8 0 0 0, [], [], [.row .span (hardsM x.g (nM x.g)) 26, .row .mix (boxesM x.g) 151, .cells [.i x.g.long, .i x.g.rise, .i x.g.change, .sl 0 0 0 x.g.pits.length, .gs 6 0, .gs 7 0] 137]⟩
  R' := fun x => .panic (failV (openErrM x.g (.span (spanOkM x.f x.t)) x.l))
  pre := fun x => x.g.pits.length < 1000000 ∧ x.l.length < 1000
def TopenC : Tab UU := [(86, isGroundS.con), (85, mustS.con), (87, lookS.con), (84, workS.con)]
theorem TopenC_ok : TopenC.Sound Try.prog := .cons isGround_sound (.cons must_sound (.cons look_sound (.cons work1_sound .nil)))
set_option maxHeartbeats 0 in
set_option maxRecDepth 100000 in
theorem openC_ok : ∀ x, openCS.pre x → (openCS.c x = true → FunOk Try.prog 82 (openCS.args x) (openCS.H x) (openCS.R x)) ∧ (openCS.c x = false → FunOk Try.prog 82 (openCS.args x) (openCS.H x) (openCS.R' x)) := by
  rintro ⟨⟨long, rise, change, ps⟩, l, f, t⟩ hx
  refine fun_of2 (T := TopenC) (L := fun _ => some (.inv (openCL ⟨long, rise, change, ps⟩ l f t))) (hs := fun _ => []) (sp := fun _ => none) hmix TopenC_ok (td := fun _ => none) (fun _ _ h => by cases h) (it := fun _ => none) (fun _ _ h => by cases h) Try.func82 (by kernel_rfl) (by kernel_rfl) ?_
  refine Eq.mp (α :=
      let Z0 := spanOkM f t; let Z1 := List.length l; let Z2 := Value.bool true; let Z3 := Value.bool false; let Z4 := GroundT.mk long rise change ps; let Z5 := List.length ps; let Z6 := Value.int IntKind.i64 change; let Z7 := Value.int IntKind.i64 f; let Z8 := Value.int IntKind.i64 rise; let Z9 := Value.int IntKind.i64 t; let Z10 := Value.int IntKind.i64 long; let Z11 := Ask.span Z0; let Z12 := nat_lit 0 = nat_lit 0 ∧ nat_lit 0 = nat_lit 0; let Z13 := (0 : Int); let Z14 := (2 : Int); let Z15 := (1 : Int); let Z16 := nM Z4; let Z17 := (10 : Int); let Z18 := lookM Z4; let Z19 : List Mix3 := boxesM Z4; let Z20 := GroundT.long Z4; let Z21 := groundM Z4; let Z22 := (88 : FuncId); let Z23 := l = l; let Z24 := (26 : TypeId); let Z25 := (84 : FuncId); let Z26 := ps = ps; let Z27 := (142 : TypeId); let Z28 := (151 : TypeId); let Z29 := fun (i : Nat) => i ≤ Z1; let Z31 := nat_lit 0 = nat_lit 0 ∧ Z12; let Z32 := (↑Z1 : Int); let Z33 := Fn.func Z25; let Z35 := Value.bool Z21; let Z38 := Value.int IntKind.i64 Z15; let Z39 := Value.int IntKind.i64 Z14; let Z41 := Value.int IntKind.i64 Z17; let Z43 := Z31 ∧ True; let Z45 := Z8 = Z8; let Z47 := Z10 = Z10; let Z49 := Z6 = Z6; let Z53 := Value.int IntKind.i64 Z32; let Z54 := Z9 = Z9 ∧ True; let Z55 := openErrM Z4 Z11 l; let Z56 := Z7 = Z7 ∧ True; let Z59 := Value.int IntKind.i64 Z55; let Z60 := Z27 = Z27; let Z74 := Z41 = Z41 ∧ True; let Z76 := Z55 == Z13; let Z82 := Z76 = true; let Z84 := Z76 = false; let Z86 := (Fn.func Z22 = Fn.func Z22 ∧ True ∧ Z43) ∧ True; let Z87 := Z82 → False; let Z91 : Type := { i : Nat // Z29 i ∧ List.all (List.take i l) (askM Z11 Z20) = true }; let Z92 := fun (x : Z91) => Subtype.val x; let Z94 := fun (x : Z91) => (↑(Z92 x) : Int); let Z99 := fun (x : Z91) => Z1 - Z92 x; let Z102 := fun (t : Z91) => nat_lit 0 + Int.toNat (Z94 t); let Z103 := Z47 ∧ Z45 ∧ Z49 ∧ (nat_lit 0 = nat_lit 0 ∧ nat_lit 0 = nat_lit 0 ∧ Z5 = Z5) ∧ True; let Z105 := Z103 ∧ True; let Z107 := fun (t : Z91) => List.getD l (Z102 t) Z13; let Z109 := fun (t : Z91) => inM (Z107 t) Z13 long; let Z112 := fun (t : Z91) => Value.bool (Z109 t && Z0); let Z115 := fun (t_1 : Z91) => decide (Z94 t_1 < Z32); Z5 < nat_lit 1000000 ∧ Z105 ∧ (Z26 ∧ True) ∧ True ∧ (Z21 = true → (Z35 = Z35 ∧ Z38 = Z38 ∧ True) ∧ True ∧ (∃ (x : Z91), ((Z33 = Z33 ∧ True ∧ Z31 ∧ Z31 ∧ Z43) ∧ Z31 ∧ (nat_lit 0 = nat_lit 0 ∧ nat_lit 0 = nat_lit 0 ∧ Z1 = Z1) ∧ Z53 = Z53 ∧ Value.int IntKind.i64 Z13 = Value.int IntKind.i64 (Z94 x) ∧ True) ∧ True ∧ Z26 ∧ Z103 ∧ Z86 ∧ Z56 ∧ Z54 ∧ Z23 ∧ Z105) ∧ ∀ (t_1 : Z91), (Z115 t_1 = true → (Z13 ≤ Z94 t_1 ∧ Z94 t_1 < Z32) ∧ Z102 t_1 < List.length l ∧ True ∧ (Value.int IntKind.i64 (Z107 t_1) = Value.int IntKind.i64 (Z107 t_1) ∧ Z31 ∧ Z31 ∧ Z43) ∧ (Z86 ∧ Z56 ∧ Z54 ∧ (Z47 ∧ Z45 ∧ Z49 ∧ True ∧ True) ∧ True) ∧ True ∧ ((Z109 t_1 && Z0) = true → (Z112 t_1 = Z112 t_1 ∧ Z39 = Z39 ∧ True) ∧ True ∧ True ∧ ∃ (x : Z91), (((Z33 = Z33 ∧ True ∧ Z31 ∧ Z31 ∧ Z43) ∧ Z31 ∧ (nat_lit 0 = nat_lit 0 ∧ nat_lit 0 = nat_lit 0 ∧ Z1 = Z1) ∧ Z53 = Z53 ∧ Value.int IntKind.i64 (IntKind.wrap IntKind.i64 (Z94 t_1 + Z15)) = Value.int IntKind.i64 (Z94 x) ∧ True) ∧ True ∧ Z26 ∧ Z103 ∧ Z86 ∧ Z56 ∧ Z54 ∧ Z23 ∧ Z105) ∧ Z99 x < Z99 t_1) ∧ ((Z109 t_1 && Z0) = false → (Z112 t_1 = Z112 t_1 ∧ Z39 = Z39 ∧ True) ∧ True ∧ Z87 ∧ (Z84 → True ∧ Z60 ∧ Z39 = Z59 ∧ True))) ∧ (Z115 t_1 = false → Z21 = true ∧ (Z18 = true → Z105 ∧ (Z26 ∧ True) ∧ True ∧ (true = true → (Z2 = Z2 ∧ Z74) ∧ True ∧ (Z82 → True ∧ Z43 ∧ True ∧ Z26 ∧ Z103 ∧ Z86 ∧ Z56 ∧ Z54 ∧ Z23 ∧ (Z24 = Z24 ∧ hardsM Z4 Z16 = hardsM Z4 Z16) ∧ (Z28 = Z28 ∧ Z19 = Z19) ∧ (Z47 ∧ Z45 ∧ Z49 ∧ (nat_lit 0 = nat_lit 0 ∧ nat_lit 0 = nat_lit 0 ∧ Z5 = Z5) ∧ nat_lit 0 = nat_lit 0 ∧ nat_lit 0 = nat_lit 0 ∧ True) ∧ True) ∧ (Z84 → False)) ∧ (true = false → (Z2 = Z2 ∧ Z74) ∧ True ∧ Z87 ∧ (Z84 → True ∧ Z60 ∧ Z41 = Z59 ∧ True))) ∧ (Z18 = false → Z105 ∧ (Z26 ∧ True) ∧ True ∧ (false = true → (Z3 = Z3 ∧ Z74) ∧ True ∧ (Z82 → True ∧ (False ∧ True) ∧ True ∧ Z26 ∧ Z103 ∧ Z86 ∧ Z56 ∧ Z54 ∧ Z23 ∧ False ∧ False ∧ False ∧ True) ∧ (Z84 → False)) ∧ (false = false → (Z3 = Z3 ∧ Z74) ∧ True ∧ Z87 ∧ (Z84 → True ∧ Z60 ∧ Z41 = Z59 ∧ True))))) ∧ (Z21 = false → (Z35 = Z35 ∧ Z38 = Z38 ∧ True) ∧ True ∧ Z87 ∧ (Z84 → True ∧ Z60 ∧ Z38 = Z59 ∧ True)))
    (by kernel_rfl) ?_
  simp only [eq_self, true_and, and_true, Int.toNat_natCast, Nat.zero_add, Nat.sub_zero, Value.int.injEq, Value.bool.injEq, decide_eq_true_eq, decide_eq_false_iff_not]
  obtain ⟨hl1, hl2⟩ := hx
  have hl2' : l.length < 1000 := hl2
  refine ⟨hl1, fun hg => ⟨⟨⟨0, Nat.zero_le _, rfl⟩, rfl⟩, fun tt => ⟨fun ht => ?_, fun ht => ⟨hg, fun hk => ?_, fun hk => ?_⟩⟩⟩, fun hg => ?_⟩
  · obtain ⟨i, hi, ha⟩ := tt
    have hlt : i < l.length := by have h0 : (i : Int) < (l.length : Int) := ht; omega
    refine ⟨⟨Int.natCast_nonneg _, ht⟩, hlt, fun h => ⟨⟨i + 1, hlt, ask_suc hlt ha h⟩, sucI i (by omega), dec1 hlt⟩, fun h => ?_⟩
    rw [open_range (a := .span (spanOkM f t)) hg hlt h]
    exact ⟨fun h => absurd h (by decide), fun _ => rfl⟩
  · obtain ⟨i, hi, ha⟩ := tt
    have hie : i = l.length := by have h0 : ¬ (i : Int) < (l.length : Int) := ht; omega
    rw [hie, List.take_length] at ha
    rw [open_look (a := .span (spanOkM f t)) hg ha, hk]
    exact ⟨fun _ => ⟨fun _ => trivial, fun h => absurd h (by decide)⟩, fun h => absurd h (by decide)⟩
  · obtain ⟨i, hi, ha⟩ := tt
    have hie : i = l.length := by have h0 : ¬ (i : Int) < (l.length : Int) := ht; omega
    rw [hie, List.take_length] at ha
    rw [open_look (a := .span (spanOkM f t)) hg ha, hk]
    exact ⟨fun h => absurd h (by decide), fun _ => ⟨fun h => absurd h (by decide), fun _ => rfl⟩⟩
  · rw [open_arg hg]
    exact ⟨fun h => absurd h (by decide), fun _ => rfl⟩

theorem openC_sound : Sound Try.prog 82 openCS.con := FSpec2.sound _ (enter_of Try.func82 (by kernel_rfl) (by kernel_rfl)) openC_ok
end AE.Soil

namespace AE.Soil
open Go AE Go.Proofs

def workNM (a b : Int) : Nat := (W (b + 1)).toNat - a.toNat
def workAtM (g : GroundT) (a : Int) : Nat → Span
  | 0 => (0, 0)
  | i + 1 => (W ((workAtM g a i).1 + ((hardsM g (nM g)).getD (a.toNat + i) (0, 0)).1), W ((workAtM g a i).2 + ((hardsM g (nM g)).getD (a.toNat + i) (0, 0)).2))
def workErrM (g : GroundT) (a b : Int) : Int := openErrM g (.span (spanOkM a b)) [a, b]
def workOM (g : GroundT) (a b : Int) : Span × Int := if workErrM g a b == 0 then (workAtM g a (workNM a b), 0) else ((0, 0), workErrM g a b)
def workL (g : GroundT) (a b : Int) : LSpec UU where
  T := { i : Nat // i ≤ workNM a b }
  fr := fun i => [(6, .ptr 4 0 0 0), (7, .ptr 5 0 0 0), (27, .sl 9 0 a.toNat (workNM a b)), (28, .i (workNM a b : Nat)), (29, .i i.1)]
  H := fun i => [.one (.ro .pit g.pits), .none, .none, .none, .one (.cells [.i (workAtM g a i.1).1, .i (workAtM g a i.1).2] 26), .one (.cells [.i 0] 22), .none, .none, .none, .one (.row .span (hardsM g (nM g)) 26)]
  mu := fun i => workNM a b - i.1
def Twork : Tab UU := [(83, isPlaceS.con), (82, openCS.con)]
theorem Twork_ok : Twork.Sound Try.prog := .cons isPlace_sound (.cons openC_sound .nil)
def workOS : FSpec UU where
  X := GroundT × Int × Int
  pick := fun args H => match args with
    | [a, b, c] => match avGround H a, avInt b, avInt c with
      | some a, some b, some c => some (a, b, c)
      | _, _, _ => none
    | _ => none
  args := fun x => [vGround x.1 0, .i x.2.1, .i x.2.2]
  H := fun x => [.one (.ro .pit x.1.pits)]
  R := fun x => .val ⟨.tup [vSpan (workOM x.1 x.2.1 x.2.2).1, .i (workOM x.1 x.2.1 x.2.2).2], [], [], []⟩
  pre := fun x => x.1.pits.length < 1000000
set_option maxHeartbeats 0 in
set_option maxRecDepth 100000 in
theorem workO_ok : ∀ x, workOS.pre x → FunOk Try.prog 78 (workOS.args x) (workOS.H x) (workOS.R x) := by
  rintro ⟨⟨long, rise, change, ps⟩, a, b⟩ hx
  refine fun_ofT (T := Twork) (L := fun _ => some (.inv (workL ⟨long, rise, change, ps⟩ a b))) (hs := fun _ => []) (sp := fun _ => none) hmix Twork_ok (tdAt_ok told_ok) (it := fun _ => none) (fun _ _ h => by cases h) Try.func78 (by kernel_rfl) (by kernel_rfl) ?_
  refine Eq.mp (α :=
      let Z0 := Int.toNat a; let Z1 := workNM a b; let Z2 := spanOkM a b; let Z3 := GroundT.mk long rise change ps; let Z4 := Value.int IntKind.i64 a; let Z5 := List.length ps; let Z6 := Value.int IntKind.i64 long; let Z7 := Value.int IntKind.i64 b; let Z8 := Value.int IntKind.i64 rise; let Z9 := Value.int IntKind.i64 change; let Z10 := Ask.span Z2; let Z11 := nat_lit 0 = nat_lit 0 ∧ nat_lit 2 = nat_lit 2; let Z12 := nat_lit 0 = nat_lit 0 ∧ nat_lit 0 = nat_lit 0; let Z13 := (0 : Int); let Z14 := (1 : Int); let Z15 := AV.v Z7; let Z16 := AV.v Z4; let Z17 := nM Z3; let Z18 : List Int := []; let Z19 := (8 : Nat); let Z20 := (5 : Nat); let Z21 := (84 : FuncId); let Z22 := (26 : TypeId); let Z23 := ps = ps; let Z24 := (88 : FuncId); let Z25 := fun (i : Nat) => i ≤ Z1; let Z26 := workOM Z3 a b; let Z27 := (↑Z1 : Int); let Z28 := nat_lit 0 = nat_lit 0 ∧ Z12; let Z29 := nat_lit 0 = nat_lit 0 ∧ Z11; let Z30 := AV.ptr Z20 (nat_lit 0) (nat_lit 0) (nat_lit 0); let Z31 := Fn.func Z24; let Z34 := Value.int IntKind.i64 Z13; let Z35 := Z28 ∧ True; let Z43 : Type := { i : Nat // Z25 i }; let Z45 := Prod.fst Z26; let Z46 := Fn.func (nat_lit 84) = Fn.func Z21; let Z49 := Value.int IntKind.i64 Z27; let Z51 : List Span := hardsM Z3 Z17; let Z54 := fun (x : Z43) => Subtype.val x; let Z63 := Value.int IntKind.i64 (Prod.snd Z26); let Z66 := fun (x : Z43) => (↑(Z54 x) : Int); let Z69 := List.length Z51; let Z70 := Value.int IntKind.i64 (Prod.snd Z45); let Z71 : List Int := a :: b :: Z18; let Z72 := Value.int IntKind.i64 (Prod.fst Z45); let Z73 := IntKind.wrap IntKind.i64 (b + Z14); let Z77 := fun (x : Z43) => workAtM Z3 a (Z54 x); let Z85 := fun (x : Z43) => Z1 - Z54 x; let Z86 : List DfE := [DfE.call (Fn.func (nat_lit 81)) [] [Z30]]; let Z88 := fun (x : Z43) => Value.int IntKind.i64 (Prod.snd (Z77 x)); let Z89 := fun (x : Z43) => Value.int IntKind.i64 (Prod.fst (Z77 x)); let Z93 := fun (t : Z43) => Z0 + Int.toNat (Z66 t); let Z94 := Z51 = Z51; let Z95 := openErrM Z3 Z10 Z71; let Z98 := Int.toNat Z73 - Z0; let Z101 := Z71 = Z71; let Z104 := Z95 == Z13; let Z109 := Z6 = Z6 ∧ Z8 = Z8 ∧ Z9 = Z9 ∧ (nat_lit 0 = nat_lit 0 ∧ nat_lit 0 = nat_lit 0 ∧ Z5 = Z5) ∧ True; let Z112 := fun (t : Z43) => decide (Z66 t < Z27); let Z113 := fun (t : Z43) => List.getD Z51 (Z93 t) (Z13, Z13); True ∧ (Z109 ∧ True) ∧ (Z23 ∧ True) ∧ (nat_lit 2 = nat_lit 2 ∧ Z16 = Z16 ∧ Z15 = Z15 ∧ True) ∧ (Z5 < nat_lit 1000000 ∧ nat_lit 2 < nat_lit 1000) ∧ (Z104 = true → (Z109 ∧ (Z46 ∧ True ∧ Z28 ∧ Z28 ∧ Z35) ∧ (Z19 = Z19 ∧ Z29) ∧ True) ∧ (Z23 ∧ Z109 ∧ ((Z31 = Z31 ∧ True ∧ Z35) ∧ True) ∧ (Z4 = Z4 ∧ True) ∧ (Z7 = Z7 ∧ True) ∧ Z101 ∧ True) ∧ (Z13 ≤ a ∧ a ≤ Z73 ∧ Z73 ≤ (↑Z69 : Int)) ∧ (∃ (x : Z43), (Z28 ∧ Z28 ∧ (nat_lit 0 = nat_lit 0 ∧ nat_lit 0 + Z0 = Z0 ∧ Z98 = Z1) ∧ Value.int IntKind.i64 (↑Z98 : Int) = Z49 ∧ Z34 = Value.int IntKind.i64 (Z66 x) ∧ True) ∧ (True ∧ Z35 ∧ True) ∧ Z23 ∧ True ∧ True ∧ True ∧ (Z34 = Z89 x ∧ Z34 = Z88 x ∧ True) ∧ (Z34 = Z34 ∧ True) ∧ True ∧ True ∧ True ∧ (Z22 = Z22 ∧ Z94) ∧ True) ∧ ∀ (t : Z43), (Z112 t = true → (Z13 ≤ Z66 t ∧ Z66 t < Z27) ∧ Z93 t < Z69 ∧ Z86 = Z86 ∧ ∃ (x : Z43), ((Z28 ∧ Z28 ∧ (nat_lit 0 = nat_lit 0 ∧ Z0 = Z0 ∧ Z1 = Z1) ∧ Z49 = Z49 ∧ Value.int IntKind.i64 (IntKind.wrap IntKind.i64 (Z66 t + Z14)) = Value.int IntKind.i64 (Z66 x) ∧ True) ∧ (True ∧ Z35 ∧ True) ∧ Z23 ∧ True ∧ True ∧ True ∧ (Value.int IntKind.i64 (IntKind.wrap IntKind.i64 (Prod.fst (Z77 t) + Prod.fst (Z113 t))) = Z89 x ∧ Value.int IntKind.i64 (IntKind.wrap IntKind.i64 (Prod.snd (Z77 t) + Prod.snd (Z113 t))) = Z88 x ∧ True) ∧ (Z34 = Z34 ∧ True) ∧ True ∧ True ∧ True ∧ (Z22 = Z22 ∧ Z94) ∧ True) ∧ Z85 x < Z85 t) ∧ (Z112 t = false → (true = true → True ∧ True ∧ (((Z89 t = Z72 ∧ Z88 t = Z70 ∧ True) ∧ Z34 = Z63 ∧ True) ∧ True) ∧ True ∧ Z23 ∧ True) ∧ (true = false → False))) ∧ (Z104 = false → (Z109 ∧ (Z46 ∧ True ∧ Z28 ∧ Z28 ∧ Z35) ∧ (Z19 = Z19 ∧ Z29) ∧ True) ∧ (Z23 ∧ Z109 ∧ ((Z31 = Z31 ∧ True ∧ Z35) ∧ True) ∧ (Z4 = Z4 ∧ True) ∧ (Z7 = Z7 ∧ True) ∧ Z101 ∧ True) ∧ True ∧ True ∧ (((Z34 = Z72 ∧ Z34 = Z70 ∧ True) ∧ Value.int IntKind.i64 Z95 = Z63 ∧ True) ∧ True) ∧ True ∧ Z23 ∧ True))
    (by kernel_rfl) ?_
  simp only [eq_self, true_and, and_true, Int.toNat_natCast, Nat.zero_add, Nat.sub_zero, Value.int.injEq, Value.bool.injEq, decide_eq_true_eq, decide_eq_false_iff_not]
  refine ⟨⟨hx, by decide⟩, fun h => ?_, fun h => ?_⟩
  · obtain ⟨hg, ha, _⟩ := open_ok h
    obtain ⟨n0, n1, n2⟩ := n_ok (ground_ok hg)
    have hl := hards_len ⟨long, rise, change, ps⟩ (nM ⟨long, rise, change, ps⟩)
    simp only [List.all_cons, List.all_nil, Bool.and_true, Bool.and_eq_true, askM, inM_iff, spanOkM, decide_eq_true_eq] at ha
    obtain ⟨⟨⟨a0, a1⟩, a2⟩, ⟨b0, b1⟩, _⟩ := ha
    have n0' : ((nM ⟨long, rise, change, ps⟩ : Nat) : Int) = long + 1 := n0
    have b1' : b ≤ long := b1
    have hw : IntKind.i64.wrap (b + 1) = b + 1 := wrap_id (by omega) (by omega)
    have hn : workNM a b = (b + 1).toNat - a.toNat := by unfold workNM; rw [show W (b + 1) = b + 1 from hw]
    have e : workOM ⟨long, rise, change, ps⟩ a b = (workAtM ⟨long, rise, change, ps⟩ a (workNM a b), 0) := by unfold workOM workErrM; rw [h]; rfl
    simp only [hw, e]
    refine ⟨⟨a0, by omega, by omega⟩, ⟨⟨0, Nat.zero_le _⟩, ⟨hn.symm, by rw [hn], rfl⟩, rfl, rfl⟩, fun t => ⟨fun ht => ?_, fun ht => ?_⟩⟩
    · obtain ⟨i, hi⟩ := t
      have hlt : i < workNM a b := by have h0 : (i : Int) < (workNM a b : Int) := ht; omega
      exact ⟨⟨Int.natCast_nonneg _, ht⟩, by show a.toNat + i < _; omega, ⟨i + 1, hlt⟩, ⟨sucI i (by omega), rfl, rfl⟩, dec1 hlt⟩
    · obtain ⟨i, hi⟩ := t
      have hie : i = workNM a b := by have h0 : ¬ (i : Int) < (workNM a b : Int) := ht; omega
      subst hie
      exact ⟨fun _ => ⟨⟨rfl, rfl⟩, trivial⟩, fun h => absurd h (by decide)⟩
  · have e : workOM ⟨long, rise, change, ps⟩ a b = ((0, 0), workErrM ⟨long, rise, change, ps⟩ a b) := by unfold workOM workErrM; rw [h]; rfl
    rw [e]; exact ⟨⟨rfl, rfl⟩, rfl⟩

theorem workO_sound : Sound Try.prog 78 workOS.con := FSpec.sound _ (enter_of Try.func78 (by kernel_rfl) (by kernel_rfl)) workO_ok
end AE.Soil

namespace AE.Team
open Go AE Go.Proofs AE.Soil

def idxM {α : Type} (p : α → Bool) (l : List α) : Int := match l.findIdx? p with
  | some i => (i : Int)
  | none => -1
theorem idxM_some {α : Type} {p : α → Bool} {l : List α} {i : Nat} (hi : i < l.length) (d : α) (h : p (l.getD i d) = true) (h0 : ∀ j, j < i → p (l.getD j d) = false) : idxM p l = (i : Int) := by
  have : l.findIdx? p = some i := by
    rw [List.findIdx?_eq_some_iff_getElem]
    refine ⟨hi, ?_, fun j hj => ?_⟩
    · simpa [List.getD_eq_getElem?_getD, hi] using h
    · have := h0 j hj
      simpa [List.getD_eq_getElem?_getD, (show j < l.length by omega)] using this
  unfold idxM; rw [this]
theorem idxM_none {α : Type} {p : α → Bool} {l : List α} (d : α) (h0 : ∀ j, j < l.length → p (l.getD j d) = false) : idxM p l = -1 := by
  have : l.findIdx? p = none := by
    rw [List.findIdx?_eq_none_iff]
    intro x hx
    obtain ⟨j, hj, rfl⟩ := List.getElem_of_mem hx
    have := h0 j hj
    simpa [List.getD_eq_getElem?_getD, hj] using this
  unfold idxM; rw [this]
theorem idxM_any {α : Type} (p : α → Bool) (l : List α) : decide (idxM p l ≥ 0) = l.any p := by
  unfold idxM
  cases h : l.findIdx? p with
  | none =>
    rw [List.findIdx?_eq_none_iff] at h
    have : l.any p = false := by rw [List.any_eq_false]; intro x hx; simp [h x hx]
    rw [this]; simp
  | some i =>
    have : l.any p = true := by
      rw [List.findIdx?_eq_some_iff_getElem] at h
      obtain ⟨hi, hp, _⟩ := h
      rw [List.any_eq_true]; exact ⟨_, List.getElem_mem hi, hp⟩
    rw [this]
    simp only [decide_eq_true_eq, ge_iff_le]
    exact Int.natCast_nonneg _

def restS : FSpec UU where
  X := StepT
  pick := fun args _ => match args with
    | [.agg [a, b, c]] => match avInt a, avInt b, avInt c with
      | some a, some b, some c => some (a, b, c)
      | _, _, _ => none
    | _ => none
  args := fun (x : StepT) => [.agg [.i x.1, .i x.2.1, .i x.2.2]]
  H := fun _ => []
  R := fun (x : StepT) => .val ⟨.b (!(x.2.2 == 0)), [], [], []⟩
set_option maxRecDepth 100000 in
theorem rest_ok : ∀ x, restS.pre x → FunOk Try.prog 54 (restS.args x) (restS.H x) (restS.R x) := by
  rintro ⟨a, b, c⟩ _
  refine fun_of (T := []) (L := fun _ => none) (hs := fun _ => []) hmix .nil Try.func54 (by kernel_rfl) (by kernel_rfl) ?_
  refine Eq.mp (α :=
      let Z0 := (0 : Int); True ∧ (Value.bool (c != Z0) = Value.bool !c == Z0 ∧ True) ∧ True ∧ True)
    (by kernel_rfl) ?_
  simp [bne]

theorem rest_sound : Sound Try.prog 54 restS.con := FSpec.sound _ (enter_of Try.func54 (by kernel_rfl) (by kernel_rfl)) rest_ok
def sfM (x : Option Int) (s : StepT) : Bool := match x with
  | some long => !okStepM long s
  | none => !(s.2.2 == 0)
def idxSS (R : Option Int × List StepT → AV) : FSpec UU where
  X := Option Int × List StepT
  pick := fun args H => match args with
    | [a, .fn _ _ [.ptr id k 0 0]] => match sliceAt .tstep H a, blkAt H id k with
      | some a, some (.cells (l :: _) _) => match avInt l with
        | some l => some (some l, a)
        | none => none
      | some a, some (.rc (l :: _) _) => match avInt l with
        | some l => some (some l, a)
        | none => none
      | _, _ => none
    | [a, .fn _ _ []] => match sliceAt .tstep H a with
      | some a => some (none, a)
      | none => none
    | _ => none
  args := fun x => match x.1 with
    | some _ => [.sl 0 0 0 x.2.length, .fn (.func 77) [] [.ptr 1 0 0 0]]
    | none => [.sl 0 0 0 x.2.length, .fn (.func 54) [] []]
  H := fun x => match x.1 with
    | some l => [.one (.ro .tstep x.2), .one (.rc [.i l, .junk, .junk, .junk, .junk] 35)]
    | none => [.one (.ro .tstep x.2)]
  R := fun x => .val ⟨R x, [], [], []⟩
  pre := fun x => x.2.length < 1000000
def idxSLa (l : List StepT) (n : Int) : LSpec UU where
  T := { i : Nat // i ≤ l.length ∧ ∀ j, j < i → sfM (some n) (l.getD j (0, 0, 0)) = false }
  fr := fun t => [(0, .sl 0 0 0 l.length), (1, .fn (.func 77) [] [.ptr 1 0 0 0]), (7, .i l.length), (8, .i t.1)]
  H := fun _ => [.one (.ro .tstep l), .one (.rc [.i n, .junk, .junk, .junk, .junk] 35)]
  mu := fun t => l.length - t.1
def idxSLb (l : List StepT) : LSpec UU where
  T := { i : Nat // i ≤ l.length ∧ ∀ j, j < i → sfM none (l.getD j (0, 0, 0)) = false }
  fr := fun t => [(0, .sl 0 0 0 l.length), (1, .fn (.func 54) [] []), (7, .i l.length), (8, .i t.1)]
  H := fun _ => [.one (.ro .tstep l)]
  mu := fun t => l.length - t.1
def TidxS : Tab UU := [(77, badS.con), (54, restS.con)]
theorem TidxS_ok : TidxS.Sound Try.prog := .cons bad_sound (.cons rest_sound .nil)
def idxSr : FSpec UU := idxSS fun x => .i (idxM (fun y => sfM x.1 y) x.2)
def anySr : FSpec UU := idxSS fun x => .b (x.2.any fun y => sfM x.1 y)
set_option maxRecDepth 100000 in
theorem idxS_oka (n : Int) (l : List StepT) (hl : l.length < 1000000) : FunOk Try.prog 74 (idxSr.args (some n, l)) (idxSr.H (some n, l)) (idxSr.R (some n, l)) := by
  refine fun_of (T := TidxS) (L := fun _ => some (.inv (idxSLa l n))) (hs := fun _ => []) hmix TidxS_ok Try.func74 (by kernel_rfl) (by kernel_rfl) ?_
  refine Eq.mp (α :=
      let Z2 := Value.int IntKind.i64 n; let Z4 := List.length l; let Z6 := (1 : Int); let Z7 := (0 : Int); let Z12 := nat_lit 0 = nat_lit 0 ∧ nat_lit 0 = nat_lit 0 ∧ nat_lit 0 = nat_lit 0; let Z13 := Fn.func (77 : FuncId); let Z15 := (↑Z4 : Int); let Z21 := Value.int IntKind.i64 Z15; let Z25 := Value.int IntKind.i64 (idxM (fun (y : StepT) => sfM (some n) y) l); let Z29 := (Z7, Z7, Z7); let Z34 := True ∧ l = l ∧ (Z2 = Z2 ∧ True ∧ True ∧ True ∧ True ∧ True) ∧ True; let Z40 : Type := { i : Nat // i ≤ Z4 ∧ ∀ (j : Nat), j < i → sfM (some n) (List.getD l j Z29) = false }; let Z41 := fun (x : Z40) => Subtype.val x; let Z42 := fun (x : Z40) => (↑(Z41 x) : Int); let Z44 := fun (x : Z40) => Value.int IntKind.i64 (Z42 x); let Z45 := fun (x : Z40) => Z4 - Z41 x; let Z46 := fun (t : Z40) => nat_lit 0 + Int.toNat (Z42 t); let Z48 := fun (t : Z40) => List.getD l (Z46 t) Z29; let Z51 := fun (t : Z40) => Prod.snd (Z48 t); let Z52 := fun (t : Z40) => Prod.fst (Z48 t); let Z58 := fun (t : Z40) => decide (Z42 t < Z15); (∃ (x : Z40), ((nat_lit 0 = nat_lit 0 ∧ nat_lit 0 = nat_lit 0 ∧ Z4 = Z4) ∧ (Z13 = Z13 ∧ True ∧ Z12 ∧ True) ∧ Z21 = Z21 ∧ Value.int IntKind.i64 Z7 = Z44 x ∧ True) ∧ Z34) ∧ ∀ (t : Z40), (Z58 t = true → (Z7 ≤ Z42 t ∧ Z42 t < Z15) ∧ Z46 t < List.length l ∧ True ∧ ((Value.int IntKind.i64 (Z52 t) = Value.int IntKind.i64 (Z52 t) ∧ Value.int IntKind.i64 (Prod.fst (Z51 t)) = Value.int IntKind.i64 (Prod.fst (Z51 t)) ∧ Value.int IntKind.i64 (Prod.snd (Z51 t)) = Value.int IntKind.i64 (Prod.snd (Z51 t)) ∧ True) ∧ Z12 ∧ True) ∧ ((Z2 = Z2 ∧ True ∧ True ∧ True ∧ True ∧ True) ∧ True) ∧ ((!okStepM n (Z48 t)) = true → True ∧ (Z44 t = Z25 ∧ True) ∧ Z34) ∧ ((!okStepM n (Z48 t)) = false → True ∧ ∃ (x : Z40), (((nat_lit 0 = nat_lit 0 ∧ nat_lit 0 = nat_lit 0 ∧ Z4 = Z4) ∧ (Z13 = Z13 ∧ True ∧ Z12 ∧ True) ∧ Z21 = Z21 ∧ Value.int IntKind.i64 (IntKind.wrap IntKind.i64 (Z42 t + Z6)) = Z44 x ∧ True) ∧ Z34) ∧ Z45 x < Z45 t)) ∧ (Z58 t = false → True ∧ (Value.int IntKind.i64 (-Z6) = Z25 ∧ True) ∧ Z34))
    (by kernel_rfl) ?_
  simp only [eq_self, true_and, and_true, Int.toNat_natCast, Nat.zero_add, Nat.sub_zero, Value.int.injEq, Value.bool.injEq, decide_eq_true_eq, decide_eq_false_iff_not]
  refine ⟨⟨⟨0, Nat.zero_le _, fun j hj => absurd hj (Nat.not_lt_zero j)⟩, rfl⟩, fun t => ⟨fun ht => ?_, fun ht => ?_⟩⟩
  · obtain ⟨i, hi, h0⟩ := t
    have hlt : i < l.length := by have h1 : (i : Int) < (l.length : Int) := ht; omega
    refine ⟨⟨Int.natCast_nonneg _, ht⟩, hlt, fun h1 => (idxM_some hlt (0, 0, 0) h1 h0).symm, fun h1 => ⟨⟨i + 1, hlt, fun j hj => ?_⟩, sucI i (by omega), dec1 hlt⟩⟩
    rcases Nat.lt_or_eq_of_le (Nat.le_of_lt_succ hj) with h2 | rfl
    · exact h0 j h2
    · exact h1
  · obtain ⟨i, hi, h0⟩ := t
    have hie : i = l.length := by have h1 : ¬ (i : Int) < (l.length : Int) := ht; omega
    exact (idxM_none (0, 0, 0) (fun j hj => h0 j (by omega))).symm

set_option maxRecDepth 100000 in
theorem idxS_okb (l : List StepT) (hl : l.length < 1000000) : FunOk Try.prog 74 (idxSr.args (none, l)) (idxSr.H (none, l)) (idxSr.R (none, l)) := by
  refine fun_of (T := TidxS) (L := fun _ => some (.inv (idxSLb l))) (hs := fun _ => []) hmix TidxS_ok Try.func74 (by kernel_rfl) (by kernel_rfl) ?_
  refine Eq.mp (α :=
      let Z1 := List.length l; let Z2 := (0 : Int); let Z3 := (1 : Int); let Z4 := (54 : FuncId); let Z9 := (↑Z1 : Int); let Z11 := True ∧ l = l ∧ True; let Z13 := Value.int IntKind.i64 Z9; let Z16 := Value.int IntKind.i64 (idxM (fun (y : StepT) => sfM none y) l); let Z19 := Fn.func Z4 = Fn.func Z4 ∧ True ∧ True; let Z20 := (Z2, Z2, Z2); let Z28 : Type := { i : Nat // i ≤ Z1 ∧ ∀ (j : Nat), j < i → sfM none (List.getD l j Z20) = false }; let Z29 := fun (x : Z28) => Subtype.val x; let Z30 := fun (x : Z28) => (↑(Z29 x) : Int); let Z32 := fun (x : Z28) => Value.int IntKind.i64 (Z30 x); let Z33 := fun (x : Z28) => Z1 - Z29 x; let Z34 := fun (t : Z28) => nat_lit 0 + Int.toNat (Z30 t); let Z36 := fun (t : Z28) => List.getD l (Z34 t) Z20; let Z37 := fun (t : Z28) => Prod.snd (Z36 t); let Z38 := fun (t : Z28) => Prod.fst (Z36 t); let Z39 := fun (t : Z28) => Prod.snd (Z37 t); let Z44 := fun (t : Z28) => Z39 t == Z2; let Z46 := fun (t : Z28) => decide (Z30 t < Z9); (∃ (x : Z28), ((nat_lit 0 = nat_lit 0 ∧ nat_lit 0 = nat_lit 0 ∧ Z1 = Z1) ∧ Z19 ∧ Z13 = Z13 ∧ Value.int IntKind.i64 Z2 = Z32 x ∧ True) ∧ Z11) ∧ ∀ (t : Z28), (Z46 t = true → (Z2 ≤ Z30 t ∧ Z30 t < Z9) ∧ Z34 t < List.length l ∧ True ∧ ((Value.int IntKind.i64 (Z38 t) = Value.int IntKind.i64 (Z38 t) ∧ Value.int IntKind.i64 (Prod.fst (Z37 t)) = Value.int IntKind.i64 (Prod.fst (Z37 t)) ∧ Value.int IntKind.i64 (Z39 t) = Value.int IntKind.i64 (Z39 t) ∧ True) ∧ True) ∧ True ∧ ((!Z44 t) = true → True ∧ (Z32 t = Z16 ∧ True) ∧ Z11) ∧ ((!Z44 t) = false → True ∧ ∃ (x : Z28), (((nat_lit 0 = nat_lit 0 ∧ nat_lit 0 = nat_lit 0 ∧ Z1 = Z1) ∧ Z19 ∧ Z13 = Z13 ∧ Value.int IntKind.i64 (IntKind.wrap IntKind.i64 (Z30 t + Z3)) = Z32 x ∧ True) ∧ Z11) ∧ Z33 x < Z33 t)) ∧ (Z46 t = false → True ∧ (Value.int IntKind.i64 (-Z3) = Z16 ∧ True) ∧ Z11))
    (by kernel_rfl) ?_
  simp only [eq_self, true_and, and_true, Int.toNat_natCast, Nat.zero_add, Nat.sub_zero, Value.int.injEq, Value.bool.injEq, decide_eq_true_eq, decide_eq_false_iff_not]
  refine ⟨⟨⟨0, Nat.zero_le _, fun j hj => absurd hj (Nat.not_lt_zero j)⟩, rfl⟩, fun t => ⟨fun ht => ?_, fun ht => ?_⟩⟩
  · obtain ⟨i, hi, h0⟩ := t
    have hlt : i < l.length := by have h1 : (i : Int) < (l.length : Int) := ht; omega
    refine ⟨⟨Int.natCast_nonneg _, ht⟩, hlt, fun h1 => (idxM_some hlt (0, 0, 0) h1 h0).symm, fun h1 => ⟨⟨i + 1, hlt, fun j hj => ?_⟩, sucI i (by omega), dec1 hlt⟩⟩
    rcases Nat.lt_or_eq_of_le (Nat.le_of_lt_succ hj) with h2 | rfl
    · exact h0 j h2
    · exact h1
  · obtain ⟨i, hi, h0⟩ := t
    have hie : i = l.length := by have h1 : ¬ (i : Int) < (l.length : Int) := ht; omega
    exact (idxM_none (0, 0, 0) (fun j hj => h0 j (by omega))).symm

theorem idxS_sound : Sound Try.prog 74 idxSr.con := FSpec.sound _ (enter_of Try.func74 (by kernel_rfl) (by kernel_rfl)) fun x h => match x, h with
  | (some n, l), h => idxS_oka n l h
  | (none, l), h => idxS_okb l h
def TidxS2 : Tab UU := [(74, idxSr.con)]
theorem TidxS2_ok : TidxS2.Sound Try.prog := .cons idxS_sound .nil
set_option maxRecDepth 100000 in
theorem anyS_oka (n : Int) (l : List StepT) (hl : l.length < 1000000) : FunOk Try.prog 53 (anySr.args (some n, l)) (anySr.H (some n, l)) (anySr.R (some n, l)) := by
  refine fun_of (T := TidxS2) (L := fun _ => none) (hs := fun _ => []) hmix TidxS2_ok Try.func53 (by kernel_rfl) (by kernel_rfl) ?_
  refine Eq.mp (α :=
      let Z0 := Value.int IntKind.i64 n; let Z1 := List.length l; let Z2 := True ∧ True ∧ True ∧ True; let Z3 := (77 : FuncId); let Z4 := l = l; Z1 < nat_lit 1000000 ∧ ((nat_lit 0 = nat_lit 0 ∧ nat_lit 0 = nat_lit 0 ∧ Z1 = Z1) ∧ (Fn.func Z3 = Fn.func Z3 ∧ True ∧ (nat_lit 0 = nat_lit 0 ∧ nat_lit 0 = nat_lit 0 ∧ nat_lit 0 = nat_lit 0) ∧ True) ∧ True) ∧ (Z4 ∧ (Z0 = Z0 ∧ True ∧ Z2) ∧ True) ∧ True ∧ (Value.bool (decide (idxM (fun (y : StepT) => sfM (some n) y) l ≥ (0 : Int))) = Value.bool (List.any l fun (y : StepT) => sfM (some n) y) ∧ True) ∧ True ∧ Z4 ∧ (Z0 = Z0 ∧ True ∧ Z2) ∧ True)
    (by kernel_rfl) ?_
  rw [← idxM_any]
  simpa using hl

set_option maxRecDepth 100000 in
theorem anyS_okb (l : List StepT) (hl : l.length < 1000000) : FunOk Try.prog 53 (anySr.args (none, l)) (anySr.H (none, l)) (anySr.R (none, l)) := by
  refine fun_of (T := TidxS2) (L := fun _ => none) (hs := fun _ => []) hmix TidxS2_ok Try.func53 (by kernel_rfl) (by kernel_rfl) ?_
  refine Eq.mp (α :=
      let Z0 := List.length l; let Z1 := (54 : FuncId); let Z2 := l = l; Z0 < nat_lit 1000000 ∧ ((nat_lit 0 = nat_lit 0 ∧ nat_lit 0 = nat_lit 0 ∧ Z0 = Z0) ∧ (Fn.func Z1 = Fn.func Z1 ∧ True ∧ True) ∧ True) ∧ (Z2 ∧ True) ∧ True ∧ (Value.bool (decide (idxM (fun (y : StepT) => sfM none y) l ≥ (0 : Int))) = Value.bool (List.any l fun (y : StepT) => sfM none y) ∧ True) ∧ True ∧ Z2 ∧ True)
    (by kernel_rfl) ?_
  rw [← idxM_any]
  simpa using hl

theorem anyS_sound : Sound Try.prog 53 anySr.con := FSpec.sound _ (enter_of Try.func53 (by kernel_rfl) (by kernel_rfl)) fun x h => match x, h with
  | (some n, l), h => anyS_oka n l h
  | (none, l), h => anyS_okb l h
end AE.Team

namespace AE.Team
open Go AE Go.Proofs AE.Soil

def avPlot (H : Heap UU) : AV → Option PlotT
  | .agg [a, b, c, d, e] => match avGround H (.agg [a, b, c, d]), sliceAt .tstep H e with
    | some g, some l => some ⟨g, l⟩
    | _, _ => none
  | _ => none
def hPlot (p : PlotT) : Heap UU := [.one (.ro .pit p.g.pits), .one (.ro .tstep p.steps)]
def isPlotM (p : PlotT) : Bool := !((hardOM p.g 0).2 == 1 || decide ((p.steps.length : Int) > 12)) && !(p.steps.any fun s => sfM (some p.g.long) s)
def isPlotS : FSpec UU where
  X := PlotT
  pick := fun args H => match args with
    | [a] => avPlot H a
    | _ => none
  args := fun (x : PlotT) => [vPlot x 0 1]
  H := fun (x : PlotT) => hPlot x
  R := fun (x : PlotT) => .val ⟨.b (isPlotM x), [], [], []⟩
  pre := fun (x : PlotT) => x.g.pits.length < 1000000 ∧ x.steps.length < 9223372036854775808
def TisPlot : Tab UU := [(76, hardOS.con), (53, anySr.con)]
theorem TisPlot_ok : TisPlot.Sound Try.prog := .cons hardO_sound (.cons anyS_sound .nil)
set_option maxHeartbeats 0 in
set_option maxRecDepth 100000 in
theorem isPlot_ok : ∀ x, isPlotS.pre x → FunOk Try.prog 59 (isPlotS.args x) (isPlotS.H x) (isPlotS.R x) := by
  rintro ⟨⟨long, rise, change, ps⟩, st⟩ hx
  refine fun_of (T := TisPlot) (L := fun _ => none) (hs := fun _ => []) hmix TisPlot_ok Try.func59 (by kernel_rfl) (by kernel_rfl) ?_
  refine Eq.mp (α :=
      let Z0 := GroundT.mk long rise change ps; let Z1 := List.length ps; let Z2 := Value.int IntKind.i64 long; let Z3 := List.length st; let Z4 := (0 : Int); let Z8 := ps = ps; let Z9 := st = st; let Z13 := Value.int IntKind.i64 Z4; let Z18 := Value.bool (isPlotM (PlotT.mk Z0 st)) = Value.bool false; let Z23 := Prod.snd (hardOM Z0 Z4) == (1 : Int); let Z26 := decide ((↑Z3 : Int) > (12 : Int)); Z1 < nat_lit 1000000 ∧ ((Z2 = Z2 ∧ Value.int IntKind.i64 rise = Value.int IntKind.i64 rise ∧ Value.int IntKind.i64 change = Value.int IntKind.i64 change ∧ (nat_lit 0 = nat_lit 0 ∧ nat_lit 0 = nat_lit 0 ∧ Z1 = Z1) ∧ True) ∧ Z13 = Z13 ∧ True) ∧ (Z8 ∧ True) ∧ (Z23 = true → True ∧ (Z18 ∧ True) ∧ True ∧ Z8 ∧ Z9 ∧ True) ∧ (Z23 = false → (Z26 = true → True ∧ (Z18 ∧ True) ∧ True ∧ Z8 ∧ Z9 ∧ True) ∧ (Z26 = false → Z3 < nat_lit 1000000 ∧ ((nat_lit 0 = nat_lit 0 ∧ nat_lit 0 = nat_lit 0 ∧ Z3 = Z3) ∧ (Fn.func (nat_lit 77) = Fn.func (77 : FuncId) ∧ True ∧ (nat_lit 0 = nat_lit 0 ∧ nat_lit 0 = nat_lit 0 ∧ nat_lit 0 = nat_lit 0) ∧ True) ∧ True) ∧ (Z9 ∧ (Z2 = Z2 ∧ True ∧ True ∧ True ∧ True ∧ True) ∧ True) ∧ True ∧ ((Value.bool !List.any st fun (y : StepT) => sfM (some long) y) = Value.bool (isPlotM (PlotT.mk Z0 st)) ∧ True) ∧ True ∧ Z8 ∧ Z9 ∧ True)))
    (by kernel_rfl) ?_
  simp only [eq_self, true_and, and_true, Int.toNat_natCast, Nat.zero_add, Nat.sub_zero, Value.int.injEq, Value.bool.injEq, decide_eq_true_eq, decide_eq_false_iff_not]
  obtain ⟨h1, h2⟩ := hx
  refine ⟨h1, fun h => ?_, fun h => ⟨fun h12 => ?_, fun h12 => ⟨by omega, ?_⟩⟩⟩
  · unfold isPlotM; rw [h]; rfl
  · unfold isPlotM; rw [h, decide_eq_true h12]; rfl
  · unfold isPlotM; rw [h, decide_eq_false h12]; rfl

theorem isPlot_sound : Sound Try.prog 59 isPlotS.con := FSpec.sound _ (enter_of Try.func59 (by kernel_rfl) (by kernel_rfl)) isPlot_ok
def endS (f : Span → Int) : FSpec UU where
  X := Span
  pick := fun args _ => match args with
    | [a] => avSpan a
    | _ => none
  args := fun (x : Span) => [vSpan x]
  H := fun _ => []
  R := fun (x : Span) => .val ⟨.i (f x), [], [], []⟩
def loS : FSpec UU := endS fun x => x.1
def hiS : FSpec UU := endS fun x => x.2
set_option maxRecDepth 100000 in
theorem lo_ok : ∀ x, loS.pre x → FunOk Try.prog 61 (loS.args x) (loS.H x) (loS.R x) := by
  rintro ⟨a, b⟩ _
  refine fun_of (T := []) (L := fun _ => none) (hs := fun _ => []) hmix .nil Try.func61 (by kernel_rfl) (by kernel_rfl) ?_
  refine Eq.mp (α :=
      True ∧ (Value.int IntKind.i64 a = Value.int IntKind.i64 a ∧ True) ∧ True ∧ True)
    (by kernel_rfl) ?_
  simp

theorem lo_sound : Sound Try.prog 61 loS.con := FSpec.sound _ (enter_of Try.func61 (by kernel_rfl) (by kernel_rfl)) lo_ok
set_option maxRecDepth 100000 in
theorem hi_ok : ∀ x, hiS.pre x → FunOk Try.prog 62 (hiS.args x) (hiS.H x) (hiS.R x) := by
  rintro ⟨a, b⟩ _
  refine fun_of (T := []) (L := fun _ => none) (hs := fun _ => []) hmix .nil Try.func62 (by kernel_rfl) (by kernel_rfl) ?_
  refine Eq.mp (α :=
      True ∧ (Value.int IntKind.i64 b = Value.int IntKind.i64 b ∧ True) ∧ True ∧ True)
    (by kernel_rfl) ?_
  simp

theorem hi_sound : Sound Try.prog 62 hiS.con := FSpec.sound _ (enter_of Try.func62 (by kernel_rfl) (by kernel_rfl)) hi_ok
abbrev HorT := Int × Int × Int × Int × Bool
def lHor (h : HorT) : List AV := [.i h.1, .i h.2.1, .i h.2.2.1, .i h.2.2.2.1, .alt h.2.2.2.2 (.fn (.func 62) [] []) (.fn (.func 61) [] [])]
def worstM (t : TeamT) : HorT := (t.1.1, t.2.1.2, t.2.2.1.1, t.2.2.2, true)
def bestM (t : TeamT) : HorT := (t.1.2, t.2.1.1, t.2.2.1.2, t.2.2.2, false)
def casesS : FSpec UU where
  X := TeamT
  pick := fun args _ => match args with
    | [a] => avTeam a
    | _ => none
  args := fun (x : TeamT) => [vTeam x]
  H := fun _ => []
  R := fun (x : TeamT) => .val ⟨.agg [.i x.1.1, .i x.2.1.2, .i x.2.2.1.1, .i x.2.2.2, .fn (.func 62) [] [], .i x.1.2, .i x.2.1.1, .i x.2.2.1.2, .i x.2.2.2, .fn (.func 61) [] []], [], [], []⟩
end AE.Team

namespace AE.Team
open Go AE Go.Proofs AE.Soil

set_option maxHeartbeats 0 in
set_option maxRecDepth 100000 in
theorem cases_ok : ∀ x, casesS.pre x → FunOk Try.prog 31 (casesS.args x) (casesS.H x) (casesS.R x) := by
  rintro ⟨⟨s0, s1⟩, ⟨l0, l1⟩, ⟨g0, g1⟩, full⟩ _
  refine fun_of (T := []) (L := fun _ => none) (hs := fun _ => []) hmix .nil Try.func31 (by kernel_rfl) (by kernel_rfl) ?_
  with_reducible
  refine Eq.mp (α :=
      let Z0 := Value.int IntKind.i64 full; True ∧ ((Value.int IntKind.i64 s0 = Value.int IntKind.i64 s0 ∧ Value.int IntKind.i64 l1 = Value.int IntKind.i64 l1 ∧ Value.int IntKind.i64 g0 = Value.int IntKind.i64 g0 ∧ Z0 = Z0 ∧ (Fn.func (nat_lit 62) = Fn.func (62 : FuncId) ∧ True ∧ True) ∧ Value.int IntKind.i64 s1 = Value.int IntKind.i64 s1 ∧ Value.int IntKind.i64 l0 = Value.int IntKind.i64 l0 ∧ Value.int IntKind.i64 g1 = Value.int IntKind.i64 g1 ∧ Z0 = Z0 ∧ (Fn.func (nat_lit 61) = Fn.func (61 : FuncId) ∧ True ∧ True) ∧ True) ∧ True) ∧ True ∧ True)
    (by kernel_rfl) ?_
  simp

theorem cases_sound : Sound Try.prog 31 casesS.con := FSpec.sound _ (enter_of Try.func31 (by kernel_rfl) (by kernel_rfl)) cases_ok
end AE.Team

namespace AE.Team
open Go AE Go.Proofs AE.Soil

def wM (g : GroundT) (s : StepT) : Span := if s.2.2 == 0 then (workOM g s.1 s.2.1).1 else (0, 0)
def worksM (p : PlotT) : List Span := p.steps.map fun s => wM p.g s
theorem works_len (p : PlotT) : (worksM p).length = p.steps.length := List.length_map _
theorem works_get (p : PlotT) (i : Nat) (h : i < p.steps.length) : (worksM p).getD i (0, 0) = wM p.g (p.steps.getD i (0, 0, 0)) := by
  unfold worksM
  simp [List.getD_eq_getElem?_getD, h]
theorem works_snoc (p : PlotT) (i : Nat) (h : i < p.steps.length) : (worksM p).take (i + 1) = (worksM p).take i ++ [wM p.g (p.steps.getD i (0, 0, 0))] := by
  rw [take_snoc _ i (by rw [works_len]; exact h) (0, 0), works_get p i h]
def lookL (p : PlotT) : LSpec UU where
  T := { i : Nat // i ≤ p.steps.length }
  fr := fun i => [(1, .ptr 2 0 0 0), (5, .ptr 4 0 0 0), (22, .sl 1 0 0 p.steps.length), (23, .i p.steps.length), (24, .i i.1)]
  H := fun i => hPlot p ++ [.one (.cells (cPlot p 0 1) 35), .none, .one (.cells (cPlot p 0 1 ++ [.gs 5 0]) 125), .one (.row .span ((worksM p).take i.1) 26)]
  mu := fun i => p.steps.length - i.1
def lookS : FSpec2 UU where
  X := PlotT
  pick := fun args H => match args with
    | [a] => avPlot H a
    | _ => none
  args := fun (x : PlotT) => [vPlot x 0 1]
  H := fun (x : PlotT) => hPlot x
  c := fun (x : PlotT) => (hardOM x.g 0).2 == 0
  R := fun (x : PlotT) => .val ⟨.ptr 3 0 0 0, [], [], [.row .span (worksM x) 26, .cells (cPlot x 0 1 ++ [.gs 2 0]) 125]⟩
  R' := fun _ => .panic (misV 10)
  pre := fun (x : PlotT) => x.g.pits.length < 1000000 ∧ x.steps.length < 1000000
def Tlook : Tab UU := [(76, hardOS.con), (38, needS.con), (78, workOS.con)]
theorem Tlook_ok : Tlook.Sound Try.prog := .cons hardO_sound (.cons need_sound (.cons workO_sound .nil))
set_option maxHeartbeats 0 in
set_option maxRecDepth 100000 in
theorem look_ok : ∀ x, lookS.pre x → (lookS.c x = true → FunOk Try.prog 60 (lookS.args x) (lookS.H x) (lookS.R x)) ∧ (lookS.c x = false → FunOk Try.prog 60 (lookS.args x) (lookS.H x) (lookS.R' x)) := by
  rintro ⟨⟨long, rise, change, ps⟩, st⟩ hx
  refine fun_of2 (T := Tlook) (L := fun _ => some (.inv (lookL ⟨⟨long, rise, change, ps⟩, st⟩))) (hs := fun _ => []) (sp := fun _ => none) hmix Tlook_ok (td := fun _ => none) (fun _ _ h => by cases h) (it := fun _ => none) (fun _ _ h => by cases h) Try.func60 (by kernel_rfl) (by kernel_rfl) ?_
  refine Eq.mp (α :=
      let Z0 := nat_lit 0 = nat_lit 0 ∧ True; let Z1 := GroundT.mk long rise change ps; let Z2 := Value.int IntKind.i64 change; let Z3 := Value.int IntKind.i64 long; let Z4 := List.length ps; let Z5 := Value.int IntKind.i64 rise; let Z6 := List.length st; let Z7 := nat_lit 0 = nat_lit 0 ∧ nat_lit 0 = nat_lit 0; let Z8 := (0 : Int); let Z11 : List (Int × Int) := []; let Z12 := Value.slice none (nat_lit 0) (nat_lit 0); let Z13 := (0 : Nat); let Z14 := (1 : Nat); let Z15 := True ∧ True ∧ True ∧ True; let Z16 := PlotT.mk Z1 st; let Z17 := ps = ps; let Z18 := (26 : TypeId); let Z19 := (110 : TypeId); let Z20 := st = st; let Z22 := nat_lit 0 = nat_lit 0 ∧ Z7; let Z26 := Z4 < nat_lit 1000000; let Z28 := (↑Z6 : Int); let Z29 := Value.int IntKind.i64 Z8; let Z30 := Value.int IntKind.i64 (10 : Int); let Z33 := Z3 = Z3; let Z34 := Z5 = Z5; let Z35 := Z2 = Z2; let Z40 := Value.int IntKind.i64 Z28; let Z43 := (Z8, Z8); let Z45 := nat_lit 0 = nat_lit 0 ∧ nat_lit 0 = nat_lit 0 ∧ Z4 = Z4; let Z46 := nat_lit 0 = nat_lit 0 ∧ nat_lit 0 = nat_lit 0 ∧ Z6 = Z6; let Z50 : Type := { i : Nat // i ≤ List.length (PlotT.steps Z16) }; let Z51 := Z30 = Z30; let Z53 := fun (x : Z50) => Subtype.val x; let Z56 := (Z8, Z43); let Z57 := fun (x : Z50) => (↑(Z53 x) : Int); let Z58 := Z40 = Z40; let Z61 := fun (x : Z50) => Value.int IntKind.i64 (Z57 x); let Z62 := Prod.snd (hardOM Z1 Z8) == Z8; let Z63 := Value.bool Z62; let Z64 := fun (x : Z50) => Z6 - Z53 x; let Z65 := Z62 = true; let Z66 := Z62 = false; let Z68 := fun (x : Z50) => List.take (Z53 x) (worksM Z16); let Z69 := fun (t : Z50) => nat_lit 0 + Int.toNat (Z57 t); let Z72 := fun (t : Z50) => Z57 t + (1 : Int); let Z82 := fun (t : Z50) => List.length (Z68 t) + nat_lit 1 ≤ nat_lit 1099511627776; let Z85 := fun (t : Z50) => List.getD st (Z69 t) Z56; let Z89 := fun (t : Z50) => Prod.fst (Z85 t); let Z90 := fun (t : Z50) => Prod.snd (Z85 t); let Z92 := fun (t : Z50) => List.getD st (Z13 + Int.toNat (Z57 t)) Z56; let Z93 := fun (t : Z50) => Prod.fst (Z90 t); let Z96 := fun (t : Z50) => Prod.fst (Z92 t); let Z97 := fun (t : Z50) => Prod.snd (Z92 t); let Z102 := fun (t : Z50) => decide (Z57 t < Z28); let Z103 := fun (t : Z50) => Prod.snd (Z90 t) == Z8; let Z110 := fun (t : Z50) => Prod.fst (workOM Z1 (Z89 t) (Z93 t)); Z26 ∧ ((Z33 ∧ Z34 ∧ Z35 ∧ Z45 ∧ True) ∧ Z29 = Z29 ∧ True) ∧ (Z17 ∧ True) ∧ True ∧ (Z65 → (Z63 = Z63 ∧ Z51 ∧ True) ∧ True ∧ (∃ (x : Z50), (True ∧ True ∧ Z15) ∧ (True ∧ True ∧ (True ∧ True ∧ Z15) ∧ True ∧ (True ∧ True ∧ True ∧ True ∧ True ∧ Z0) ∧ Z68 x = Z11 ∧ True) ∧ (Z22 ∧ Z22 ∧ Z46 ∧ Z58 ∧ Z29 = Z61 x ∧ True) ∧ True ∧ Z17 ∧ Z20 ∧ (Z33 ∧ Z34 ∧ Z35 ∧ Z45 ∧ Z46 ∧ True) ∧ True ∧ (Z33 ∧ Z34 ∧ Z35 ∧ Z45 ∧ Z46 ∧ Z12 = Z12 ∧ True) ∧ True ∧ True) ∧ ∀ (t : Z50), (Z102 t = true → (Z8 ≤ Z57 t ∧ Z57 t < Z28) ∧ Z69 t < List.length st ∧ (Z103 t = true → Z26 ∧ ((Z33 ∧ Z34 ∧ Z35 ∧ Z45 ∧ True) ∧ Value.int IntKind.i64 (Z89 t) = Value.int IntKind.i64 (Z89 t) ∧ Value.int IntKind.i64 (Z93 t) = Value.int IntKind.i64 (Z93 t) ∧ True) ∧ (Z17 ∧ True) ∧ (nat_lit 1 = nat_lit 1 ∧ AV.v (Value.int IntKind.i64 (Prod.fst (Z110 t))) = AV.v (Value.int IntKind.i64 (Prod.fst (Prod.fst (workOM Z1 (Z96 t) (Prod.fst (Z97 t)))))) ∧ AV.v (Value.int IntKind.i64 (Prod.snd (Z110 t))) = AV.v (Value.int IntKind.i64 (Prod.snd (Z110 t))) ∧ True) ∧ nat_lit 1 ≤ nat_lit 1 ∧ Z82 t ∧ True ∧ ∃ (x : Z50), ((Z22 ∧ Z22 ∧ Z46 ∧ Z58 ∧ Value.int IntKind.i64 (IntKind.wrap IntKind.i64 (Z72 t)) = Z61 x ∧ True) ∧ True ∧ Z17 ∧ Z20 ∧ (Z33 ∧ Z34 ∧ Z35 ∧ Z45 ∧ Z46 ∧ True) ∧ True ∧ (Z33 ∧ Z34 ∧ Z35 ∧ Z45 ∧ Z46 ∧ Z0) ∧ (nat_lit 26 = Z18 ∧ Z68 t ++ List.take Z14 (List.drop Z13 ((Prod.fst (Z110 t), Prod.snd (Prod.fst (workOM Z1 (Z96 t) (Prod.fst (Z97 t))))) :: Z11)) = Z68 x) ∧ True) ∧ Z64 x < Z64 t) ∧ (Z103 t = false → (nat_lit 1 = nat_lit 1 ∧ AV.v Z29 = AV.v Z29 ∧ AV.v Z29 = AV.v Z29 ∧ True) ∧ nat_lit 1 ≤ nat_lit 1 ∧ Z82 t ∧ True ∧ ∃ (x : Z50), ((Z22 ∧ Z22 ∧ Z46 ∧ Z58 ∧ Value.int IntKind.i64 (IntKind.wrap IntKind.i64 (Z72 t)) = Z61 x ∧ True) ∧ True ∧ Z17 ∧ Z20 ∧ (Z33 ∧ Z34 ∧ Z35 ∧ Z45 ∧ Z46 ∧ True) ∧ True ∧ (Z33 ∧ Z34 ∧ Z35 ∧ Z45 ∧ Z46 ∧ Z0) ∧ (nat_lit 26 = Z18 ∧ Z68 t ++ List.take Z14 (List.drop Z13 (Z43 :: Z11)) = Z68 x) ∧ True) ∧ Z64 x < Z64 t)) ∧ (Z102 t = false → (Z65 → True ∧ (Z22 ∧ True) ∧ True ∧ Z17 ∧ Z20 ∧ (Z18 = Z18 ∧ Z68 t = worksM Z16) ∧ (Z33 ∧ Z34 ∧ Z35 ∧ Z45 ∧ Z46 ∧ Z0) ∧ True) ∧ (Z66 → False))) ∧ (Z66 → (Z63 = Z63 ∧ Z51 ∧ True) ∧ True ∧ (Z65 → False) ∧ (Z66 → True ∧ Z19 = Z19 ∧ Z51 ∧ True)))
    (by kernel_rfl) ?_
  simp only [eq_self, true_and, and_true, Int.toNat_natCast, Nat.zero_add, Nat.sub_zero, Value.int.injEq, Value.bool.injEq, decide_eq_true_eq, decide_eq_false_iff_not]
  obtain ⟨h1, h2⟩ := hx
  have h2' : st.length < 1000000 := h2
  refine ⟨h1, fun hh => ⟨⟨⟨0, Nat.zero_le _⟩, rfl, rfl⟩, fun t => ⟨fun ht => ?_, fun ht => ⟨fun _ => ?_, fun h => absurd (hh.symm.trans h) (by decide)⟩⟩⟩, fun hh => ⟨fun h => absurd (hh.symm.trans h) (by decide), fun _ => trivial⟩⟩
  · obtain ⟨i, hi⟩ := t
    have hlt : i < st.length := by have h1 : (i : Int) < (st.length : Int) := ht; omega
    have hs := works_snoc ⟨⟨long, rise, change, ps⟩, st⟩ i hlt
    have hl : ((worksM ⟨⟨long, rise, change, ps⟩, st⟩).take i).length ≤ i := List.length_take_le _ _
    refine ⟨⟨Int.natCast_nonneg _, ht⟩, hlt, fun hr => ⟨h1, Nat.le_refl _, by show ((worksM ⟨⟨long, rise, change, ps⟩, st⟩).take i).length + 1 ≤ _; omega, ⟨i + 1, hlt⟩, ⟨sucI i (by omega), ?_⟩, dec1 hlt⟩, fun hr => ⟨Nat.le_refl _, by show ((worksM ⟨⟨long, rise, change, ps⟩, st⟩).take i).length + 1 ≤ _; omega, ⟨i + 1, hlt⟩, ⟨sucI i (by omega), ?_⟩, dec1 hlt⟩⟩
    · have hr' : ((st.getD i (0, 0, 0)).2.2 == 0) = true := hr
      simp only [hs, wM, hr', if_true]
      rfl
    · have hr' : ((st.getD i (0, 0, 0)).2.2 == 0) = false := hr
      simp only [hs, wM, hr']
      rfl
  · obtain ⟨i, hi⟩ := t
    have hie : i = st.length := by have h1 : ¬ (i : Int) < (st.length : Int) := ht; omega
    exact List.take_of_length_le (by rw [works_len]; exact Nat.le_of_eq hie.symm)

theorem look_sound : Sound Try.prog 60 lookS.con := FSpec2.sound _ (enter_of Try.func60 (by kernel_rfl) (by kernel_rfl)) look_ok
def stpM (l : List StepT) (i : Nat) : Bool × Int := (decide ((l.getD i (0, 0, 0)).2.2 > 0), (i : Int))
def stepsM (l : List StepT) : List (Bool × Int) := (List.range l.length).map fun i => stpM l i
theorem steps_len (l : List StepT) : (stepsM l).length = l.length := by simp [stepsM]
theorem steps_snoc (l : List StepT) (i : Nat) (h : i < l.length) : (stepsM l).take (i + 1) = (stepsM l).take i ++ [stpM l i] := by
  rw [take_snoc _ i (by rw [steps_len]; exact h) (true, 0)]
  congr 1
  simp [stepsM, List.getD_eq_getElem?_getD, h]
def avSteps (H : Heap UU) : AV → Option (List StepT)
  | .ptr i 0 0 0 => match blkAt H i 0 with
    | some (.cells [_, _, _, _, a, _] _) => sliceAt .tstep H a
    | some (.rc [_, _, _, _, a, _] _) => sliceAt .tstep H a
    | _ => none
  | _ => none
def hSteps (l : List StepT) : Heap UU := [.one (.rc [.junk, .junk, .junk, .junk, .sl 1 0 0 l.length, .junk] 125), .one (.ro .tstep l)]
def stepsL (l : List StepT) : LSpec UU where
  T := { i : Nat // i ≤ l.length }
  fr := fun i => [(0, .ptr 0 0 0 0), (2, .gs 2 0), (9, .sl 1 0 0 l.length), (10, .i l.length), (11, .i i.1)]
  H := fun i => hSteps l ++ [.one (.row (.stp 0) ((stepsM l).take i.1) 107)]
  mu := fun i => l.length - i.1
def stepsS : FSpec UU where
  X := List StepT
  pick := fun args H => match args with
    | [a] => avSteps H a
    | _ => none
  args := fun _ => [.ptr 0 0 0 0]
  H := fun l => hSteps l
  R := fun l => .val ⟨.gs 2 0, [], [], [.row (.stp 0) (stepsM l) 107]⟩
  pre := fun l => l.length < 1000000
set_option maxHeartbeats 0 in
set_option maxRecDepth 100000 in
theorem steps_ok : ∀ x, stepsS.pre x → FunOk Try.prog 55 (stepsS.args x) (stepsS.H x) (stepsS.R x) := by
  intro (l : List StepT) hx
  refine fun_of (T := []) (L := fun _ => some (.inv (stepsL l))) (hs := fun _ => []) hmix .nil Try.func55 (by kernel_rfl) (by kernel_rfl) ?_
  refine Eq.mp (α :=
      let Z0 := True ∧ True; let Z3 := List.length l; let Z5 := (0 : Int); let Z7 := Value.slice none (nat_lit 0) (nat_lit 0); let Z8 := (0 : Nat); let Z9 := (1 : Nat); let Z10 := True ∧ True ∧ Z0; let Z11 := (127 : TypeId); let Z12 := l = l; let Z13 := (107 : TypeId); let Z14 := (128 : TypeId); let Z15 := nat_lit 0 = nat_lit 0 ∧ nat_lit 0 = nat_lit 0 ∧ nat_lit 0 = nat_lit 0; let Z17 := (↑Z3 : Int); let Z20 : List (Bool × Int) := []; let Z21 : Type := { i : Nat // i ≤ Z3 }; let Z22 := Value.int IntKind.i64 Z17; let Z24 := fun (x : Z21) => Subtype.val x; let Z26 := nat_lit 0 = nat_lit 0 ∧ nat_lit 0 = nat_lit 0 ∧ Z3 = Z3; let Z27 := fun (x : Z21) => (↑(Z24 x) : Int); let Z31 := fun (x : Z21) => Value.int IntKind.i64 (Z27 x); let Z36 := fun (x : Z21) => Z3 - Z24 x; let Z37 := True ∧ True ∧ True ∧ True ∧ Z26 ∧ Z0; let Z38 := Z22 = Z22; let Z40 := fun (x : Z21) => List.take (Z24 x) (stepsM l); let Z41 := fun (t : Z21) => nat_lit 0 + Int.toNat (Z27 t); let Z43 := fun (t : Z21) => Z27 t + (1 : Int); let Z45 := fun (t : Z21) => AV.agg [AV.ptr (nat_lit 0) (nat_lit 0) (nat_lit 0) (nat_lit 0), AV.v (Z31 t)]; let Z54 := fun (t : Z21) => List.length (Z40 t) + nat_lit 1 ≤ nat_lit 1099511627776; let Z59 := fun (t : Z21) => decide (Z27 t < Z17); let Z67 := fun (t : Z21) => decide (Prod.snd (Prod.snd (List.getD l (Z41 t) (Z5, Z5, Z5))) > Z5); (∃ (x : Z21), (True ∧ nat_lit 0 = nat_lit 0 ∧ Z10) ∧ ((True ∧ True ∧ True ∧ Z10) ∧ True ∧ Z40 x = Z20 ∧ True) ∧ (Z15 ∧ Z7 = Z7 ∧ Z26 ∧ Z38 ∧ Value.int IntKind.i64 Z5 = Z31 x ∧ True) ∧ True ∧ Z37 ∧ Z12 ∧ Z0) ∧ ∀ (t : Z21), (Z59 t = true → (Z5 ≤ Z27 t ∧ Z27 t < Z17) ∧ Z41 t < List.length l ∧ (Z67 t = true → (nat_lit 1 = nat_lit 1 ∧ ((true = true → AV.ifc (nat_lit 127) (Z45 t) = AV.ifc Z11 (Z45 t)) ∧ (true = false → AV.ifc (nat_lit 127) (Z45 t) = AV.ifc Z14 (Z45 t))) ∧ True) ∧ nat_lit 1 ≤ nat_lit 1 ∧ Z54 t ∧ True ∧ ∃ (x : Z21), ((Z15 ∧ nat_lit 0 = nat_lit 0 ∧ Z26 ∧ Z38 ∧ Value.int IntKind.i64 (IntKind.wrap IntKind.i64 (Z43 t)) = Z31 x ∧ True) ∧ True ∧ Z37 ∧ Z12 ∧ (nat_lit 107 = Z13 ∧ Z40 t ++ List.take Z9 (List.drop Z8 ((true, Z27 t) :: Z20)) = Z40 x) ∧ True) ∧ Z36 x < Z36 t) ∧ (Z67 t = false → (nat_lit 1 = nat_lit 1 ∧ ((false = true → AV.ifc (nat_lit 128) (Z45 t) = AV.ifc Z11 (Z45 t)) ∧ (false = false → AV.ifc (nat_lit 128) (Z45 t) = AV.ifc Z14 (Z45 t))) ∧ True) ∧ nat_lit 1 ≤ nat_lit 1 ∧ Z54 t ∧ True ∧ ∃ (x : Z21), ((Z15 ∧ nat_lit 0 = nat_lit 0 ∧ Z26 ∧ Z38 ∧ Value.int IntKind.i64 (IntKind.wrap IntKind.i64 (Z43 t)) = Z31 x ∧ True) ∧ True ∧ Z37 ∧ Z12 ∧ (nat_lit 107 = Z13 ∧ Z40 t ++ List.take Z9 (List.drop Z8 ((false, Z27 t) :: Z20)) = Z40 x) ∧ True) ∧ Z36 x < Z36 t)) ∧ (Z59 t = false → True ∧ (nat_lit 0 = nat_lit 0 ∧ True) ∧ True ∧ Z37 ∧ Z12 ∧ (Z13 = Z13 ∧ Z40 t = stepsM l) ∧ True))
    (by kernel_rfl) ?_
  simp only [eq_self, true_and, and_true, Int.toNat_natCast, Nat.zero_add, Nat.sub_zero, Value.int.injEq, Value.bool.injEq, decide_eq_true_eq, decide_eq_false_iff_not]
  have hx' : l.length < 1000000 := hx
  refine ⟨⟨⟨0, Nat.zero_le _⟩, rfl, rfl⟩, fun t => ⟨fun ht => ?_, fun ht => ?_⟩⟩
  · obtain ⟨i, hi⟩ := t
    have hlt : i < l.length := by have h1 : (i : Int) < (l.length : Int) := ht; omega
    have hs := steps_snoc l i hlt
    have hl : ((stepsM l).take i).length ≤ i := List.length_take_le _ _
    refine ⟨⟨Int.natCast_nonneg _, ht⟩, hlt, fun hr => ⟨⟨fun _ => trivial, fun h => absurd h (by decide)⟩, Nat.le_refl _, by show ((stepsM l).take i).length + 1 ≤ _; omega, ⟨i + 1, hlt⟩, ⟨sucI i (by omega), ?_⟩, dec1 hlt⟩, fun hr => ⟨⟨fun h => absurd h (by decide), fun _ => trivial⟩, Nat.le_refl _, by show ((stepsM l).take i).length + 1 ≤ _; omega, ⟨i + 1, hlt⟩, ⟨sucI i (by omega), ?_⟩, dec1 hlt⟩⟩
    · have hr' : (l.getD i (0, 0, 0)).2.2 > 0 := hr
      have e : stpM l i = (true, (i : Int)) := by unfold stpM; rw [decide_eq_true hr']
      rw [hs, e]
      rfl
    · have hr' : ¬ (l.getD i (0, 0, 0)).2.2 > 0 := hr
      have e : stpM l i = (false, (i : Int)) := by unfold stpM; rw [decide_eq_false hr']
      rw [hs, e]
      rfl
  · obtain ⟨i, hi⟩ := t
    have hie : i = l.length := by have h1 : ¬ (i : Int) < (l.length : Int) := ht; omega
    exact List.take_of_length_le (Nat.le_of_eq ((steps_len l).trans hie.symm))

theorem steps_sound : Sound Try.prog 55 stepsS.con := FSpec.sound _ (enter_of Try.func55 (by kernel_rfl) (by kernel_rfl)) steps_ok
end AE.Team

namespace AE.Team
open Go AE Go.Proofs AE.Soil

def restM (h : HorT) (r now : Int) : Int := min h.2.2.2.1 (W (now + W (h.2.2.1 * r)))
def ofM (h : HorT) (w : Span) : Int := if h.2.2.2.2 then w.2 else w.1
def furrowM (h : HorT) (w : Span) (now : Int) : Int := W (now - W (Int.tdiv (W (W (h.2.1 * ofM h w) + 99)) 100))
def avHor : List AV → Option HorT
  | [a, b, c, d, f] => match avInt a, avInt b, avInt c, avInt d with
    | some a, some b, some c, some d => match f with
      | .alt k _ _ => some (a, b, c, d, k)
      | .fn (.func n) _ _ => some (a, b, c, d, Nat.beq n 62)
      | _ => none
    | _, _, _, _ => none
  | _ => none
def doRS : FSpec UU where
  X := List StepT × Int × HorT × Int
  pick := fun args H => match args with
    | [.agg [p, n], .agg h, now] => match avSteps H p, avInt n, avHor h, avInt now with
      | some l, some n, some h, some now => some (l, n, h, now)
      | _, _, _, _ => none
    | _ => none
  args := fun x => [.agg [.ptr 0 0 0 0, .i x.2.1], .agg (lHor x.2.2.1), .i x.2.2.2]
  H := fun x => hSteps x.1
  R := fun x => .val ⟨.i (restM x.2.2.1 (x.1.getD x.2.1.toNat (0, 0, 0)).2.2 x.2.2.2), [], [], []⟩
  pre := fun x => 0 ≤ x.2.1 ∧ x.2.1 < x.1.length
set_option maxHeartbeats 0 in
set_option maxRecDepth 100000 in
theorem doR_ok : ∀ x, doRS.pre x → FunOk Try.prog 118 (doRS.args x) (doRS.H x) (doRS.R x) := by
  rintro ⟨l, n, ⟨hs, hl, hg, hf, hk⟩, now⟩ hx
  refine fun_of (T := []) (L := fun _ => none) (hs := fun _ => []) hmix .nil Try.func118 (by kernel_rfl) (by kernel_rfl) ?_
  refine Eq.mp (α :=
      let Z0 := List.length l; let Z1 := (0 : Int); let Z3 := (Z1, Z1, Z1); (Z1 ≤ n ∧ n < (↑Z0 : Int)) ∧ nat_lit 0 + Int.toNat n < List.length l ∧ True ∧ (Value.int IntKind.i64 (min hf (IntKind.wrap IntKind.i64 (now + IntKind.wrap IntKind.i64 (hg * Prod.snd (Prod.snd (List.getD l ((0 : Nat) + Int.toNat n) Z3)))))) = Value.int IntKind.i64 (restM (hs, hl, hg, hf, hk) (Prod.snd (Prod.snd (List.getD l (Int.toNat n) Z3))) now) ∧ True) ∧ True ∧ (True ∧ True ∧ True ∧ True ∧ (nat_lit 0 = nat_lit 0 ∧ nat_lit 0 = nat_lit 0 ∧ Z0 = Z0) ∧ True ∧ True) ∧ l = l ∧ True)
    (by kernel_rfl) ?_
  simp only [eq_self, true_and, and_true, Int.toNat_natCast, Nat.zero_add, Nat.sub_zero, Value.int.injEq, Value.bool.injEq, decide_eq_true_eq, decide_eq_false_iff_not]
  have h1 : 0 ≤ n := hx.1
  have h2 : n < (l.length : Int) := hx.2
  exact ⟨⟨h1, h2⟩, by omega, rfl⟩

theorem doR_sound : Sound Try.prog 118 doRS.con := FSpec.sound _ (enter_of Try.func118 (by kernel_rfl) (by kernel_rfl)) doR_ok
def avWorks (H : Heap UU) : AV → Option (List Span)
  | .ptr i 0 0 0 => match blkAt H i 0 with
    | some (.cells [_, _, _, _, _, a] _) => sliceAt .span H a
    | some (.rc [_, _, _, _, _, a] _) => sliceAt .span H a
    | _ => none
  | _ => none
def hWorks (l : List Span) : Heap UU := [.one (.rc [.junk, .junk, .junk, .junk, .junk, .sl 1 0 0 l.length] 125), .one (.ro .span l)]
def doFS : FSpec UU where
  X := List Span × Int × HorT × Int
  pick := fun args H => match args with
    | [.agg [p, n], .agg h, now] => match avWorks H p, avInt n, avHor h, avInt now with
      | some l, some n, some h, some now => some (l, n, h, now)
      | _, _, _, _ => none
    | _ => none
  args := fun x => [.agg [.ptr 0 0 0 0, .i x.2.1], .agg (lHor x.2.2.1), .i x.2.2.2]
  H := fun x => hWorks x.1
  R := fun x => .val ⟨.i (furrowM x.2.2.1 (x.1.getD x.2.1.toNat (0, 0)) x.2.2.2), [], [], []⟩
  pre := fun x => 0 ≤ x.2.1 ∧ x.2.1 < x.1.length
def TdoF : Tab UU := [(61, loS.con), (62, hiS.con)]
theorem TdoF_ok : TdoF.Sound Try.prog := .cons lo_sound (.cons hi_sound .nil)
set_option maxHeartbeats 0 in
set_option maxRecDepth 100000 in
theorem doF_ok : ∀ x, doFS.pre x → FunOk Try.prog 119 (doFS.args x) (doFS.H x) (doFS.R x) := by
  rintro ⟨l, n, ⟨hs, hl, hg, hf, hk⟩, now⟩ hx
  refine fun_of (T := TdoF) (L := fun _ => none) (hs := fun _ => []) hmix TdoF_ok Try.func119 (by kernel_rfl) (by kernel_rfl) ?_
  refine Eq.mp (α :=
      let Z1 := List.length l; let Z2 := (0 : Int); let Z3 := (99 : Int); let Z4 := (100 : Int); let Z5 := l = l; let Z9 := nat_lit 0 + Int.toNat n; let Z12 := (Z2, Z2); let Z23 := List.getD l Z9 Z12; let Z27 := Value.int IntKind.i64 (Prod.fst Z23); let Z28 := Value.int IntKind.i64 (Prod.snd Z23); let Z31 := Value.int IntKind.i64 (furrowM (hs, hl, hg, hf, hk) (List.getD l (Int.toNat n) Z12) now); (Z2 ≤ n ∧ n < (↑Z1 : Int)) ∧ Z9 < List.length l ∧ (hk = true → True ∧ ((Z27 = Z27 ∧ Z28 = Z28 ∧ True) ∧ True) ∧ True ∧ Z4 ≠ Z2 ∧ True ∧ (Value.int IntKind.i64 (IntKind.wrap IntKind.i64 (now - IntKind.wrap IntKind.i64 (Int.tdiv (IntKind.wrap IntKind.i64 (IntKind.wrap IntKind.i64 (hl * Prod.snd Z23) + Z3)) Z4))) = Z31 ∧ True) ∧ True ∧ (True ∧ True ∧ True ∧ True ∧ True ∧ (nat_lit 0 = nat_lit 0 ∧ nat_lit 0 = nat_lit 0 ∧ Z1 = Z1) ∧ True) ∧ Z5 ∧ True) ∧ (hk = false → True ∧ ((Z27 = Z27 ∧ Z28 = Z28 ∧ True) ∧ True) ∧ True ∧ Z4 ≠ Z2 ∧ True ∧ (Value.int IntKind.i64 (IntKind.wrap IntKind.i64 (now - IntKind.wrap IntKind.i64 (Int.tdiv (IntKind.wrap IntKind.i64 (IntKind.wrap IntKind.i64 (hl * Prod.fst Z23) + Z3)) Z4))) = Z31 ∧ True) ∧ True ∧ (True ∧ True ∧ True ∧ True ∧ True ∧ (nat_lit 0 = nat_lit 0 ∧ nat_lit 0 = nat_lit 0 ∧ Z1 = Z1) ∧ True) ∧ Z5 ∧ True))
    (by kernel_rfl) ?_
  simp only [eq_self, true_and, and_true, Int.toNat_natCast, Nat.zero_add, Nat.sub_zero, Value.int.injEq, Value.bool.injEq, decide_eq_true_eq, decide_eq_false_iff_not]
  have h1 : 0 ≤ n := hx.1
  have h2 : n < (l.length : Int) := hx.2
  refine ⟨⟨h1, h2⟩, by omega, fun h => ⟨by decide, ?_⟩, fun h => ⟨by decide, ?_⟩⟩
  · subst h; rfl
  · subst h; rfl

theorem doF_sound : Sound Try.prog 119 doFS.con := FSpec.sound _ (enter_of Try.func119 (by kernel_rfl) (by kernel_rfl)) doF_ok
def behindS : FSpec UU where
  X := HorT
  pick := fun args _ => match args with
    | [_, .agg h] => avHor h
    | _ => none
  args := fun (h : HorT) => [.ptr 0 0 0 0, .agg (lHor h)]
  H := fun _ => [.one (.rc [.junk, .junk, .junk, .junk, .junk, .junk] 125)]
  R := fun (h : HorT) => .val ⟨.fn (.func 63) [] [.ptr 2 0 0 0, .ptr 1 0 0 0], [], [], [.cells [.ptr 0 0 0 0] 69, .cells (lHor h) 74]⟩
set_option maxHeartbeats 0 in
set_option maxRecDepth 100000 in
theorem behind_ok : ∀ x, behindS.pre x → FunOk Try.prog 36 (behindS.args x) (behindS.H x) (behindS.R x) := by
  rintro ⟨hs, hl, hg, hf, hk⟩ _
  refine fun_of (T := []) (L := fun _ => none) (hs := fun _ => []) hmix .nil Try.func36 (by kernel_rfl) (by kernel_rfl) ?_
  refine Eq.mp (α :=
      let Z1 := (61 : FuncId); let Z2 := (62 : FuncId); let Z3 := nat_lit 0 = nat_lit 0 ∧ nat_lit 0 = nat_lit 0 ∧ nat_lit 0 = nat_lit 0; True ∧ ((Fn.func (nat_lit 63) = Fn.func (63 : FuncId) ∧ True ∧ Z3 ∧ Z3 ∧ True) ∧ True) ∧ True ∧ (True ∧ True ∧ True ∧ True ∧ True ∧ True ∧ True) ∧ (Z3 ∧ True) ∧ (Value.int IntKind.i64 hs = Value.int IntKind.i64 hs ∧ Value.int IntKind.i64 hl = Value.int IntKind.i64 hl ∧ Value.int IntKind.i64 hg = Value.int IntKind.i64 hg ∧ Value.int IntKind.i64 hf = Value.int IntKind.i64 hf ∧ (hk = hk ∧ (Fn.func Z2 = Fn.func Z2 ∧ True ∧ True) ∧ Fn.func Z1 = Fn.func Z1 ∧ True ∧ True) ∧ True) ∧ True)
    (by kernel_rfl) ?_
  simp

theorem behind_sound : Sound Try.prog 36 behindS.con := FSpec.sound _ (enter_of Try.func36 (by kernel_rfl) (by kernel_rfl)) behind_ok
end AE.Team

namespace AE.Team
open Go AE Go.Proofs AE.Soil

def doM (h : HorT) (s : StepT) (w : Span) (now : Int) : Int := if s.2.2 > 0 then restM h s.2.2 now else furrowM h w now
def nowM (l : List StepT) (w : List Span) (h : HorT) : Nat → Int
  | 0 => h.1
  | i + 1 => doM h (l.getD i (0, 0, 0)) (w.getD i (0, 0)) (nowM l w h i)
def failedM (l : List StepT) (w : List Span) (h : HorT) : Int × Bool := match (List.range l.length).find? fun i => decide (nowM l w h (i + 1) < 0) with
  | some i => ((i : Int), true)
  | none => (0, false)
theorem failed_some {l : List StepT} {w : List Span} {h : HorT} {i : Nat} (hi : i < l.length) (h1 : nowM l w h (i + 1) < 0) (h0 : ∀ j, j < i → 0 ≤ nowM l w h (j + 1)) : failedM l w h = ((i : Int), true) := by
  have : (List.range l.length).find? (fun i => decide (nowM l w h (i + 1) < 0)) = some i := by
    rw [List.find?_range_eq_some]
    refine ⟨decide_eq_true h1, List.mem_range.2 hi, fun j hj => ?_⟩
    have := h0 j hj
    simp only [Bool.not_eq_true', decide_eq_false_iff_not]
    omega
  unfold failedM; rw [this]
theorem failed_none {l : List StepT} {w : List Span} {h : HorT} (h0 : ∀ j, j < l.length → 0 ≤ nowM l w h (j + 1)) : failedM l w h = (0, false) := by
  have : (List.range l.length).find? (fun i => decide (nowM l w h (i + 1) < 0)) = none := by
    rw [List.find?_range_eq_none]
    intro j hj
    have := h0 j hj
    simp only [Bool.not_eq_true', decide_eq_false_iff_not]
    omega
  unfold failedM; rw [this]
theorem steps_get (l : List StepT) (i : Nat) (h : i < l.length) : (stepsM l).getD i (true, 0) = stpM l i := by
  simp [stepsM, List.getD_eq_getElem?_getD, h]
theorem now_rest {l : List StepT} (w : List Span) (h : HorT) {i : Nat} (hr : (stpM l i).1 = true) : nowM l w h (i + 1) = restM h (l.getD i (0, 0, 0)).2.2 (nowM l w h i) := by
  have h1 : (l.getD i (0, 0, 0)).2.2 > 0 := of_decide_eq_true hr
  show doM h _ _ _ = _
  unfold doM; rw [if_pos h1]
theorem now_furrow {l : List StepT} (w : List Span) (h : HorT) {i : Nat} (hr : (stpM l i).1 = false) : nowM l w h (i + 1) = furrowM h (w.getD i (0, 0)) (nowM l w h i) := by
  have h1 : ¬ (l.getD i (0, 0, 0)).2.2 > 0 := of_decide_eq_false hr
  show doM h _ _ _ = _
  unfold doM; rw [if_neg h1]
theorem below_succ {p : Nat → Prop} {i : Nat} (h : ∀ j, j < i → p j) (hi : p i) : ∀ j, j < i + 1 → p j := by
  intro j hj
  rcases Nat.lt_or_eq_of_le (Nat.le_of_lt_succ hj) with h2 | rfl
  · exact h j h2
  · exact hi
def hPl (l : List StepT) (w : List Span) : Heap UU := [.one (.rc [.junk, .junk, .junk, .junk, .sl 1 0 0 l.length, .sl 2 0 0 w.length] 125), .one (.ro .tstep l), .one (.ro .span w)]
def avPl (H : Heap UU) : AV → Option (List StepT × List Span)
  | .ptr i 0 0 0 => match blkAt H i 0 with
    | some (.cells [_, _, _, _, a, b] _) => match sliceAt .tstep H a, sliceAt .span H b with
      | some a, some b => some (a, b)
      | _, _ => none
    | some (.rc [_, _, _, _, a, b] _) => match sliceAt .tstep H a, sliceAt .span H b with
      | some a, some b => some (a, b)
      | _, _ => none
    | _ => none
  | _ => none
def failHc (l : List StepT) (w : List Span) (h : HorT) : Heap UU := hPl l w ++ [.one (.cells (lHor h) 74), .one (.cells [.i 0] 3), .one (.cells [.b false] 4), .one (.cells [.ptr 0 0 0 0] 69), .one (.cells (lHor h) 74)]
def itFail (l : List StepT) (w : List Span) (h : HorT) (y : Nat) (_ : Nat) : Option (LRule UU) := some (.inv {
  T := { i : Nat // i ≤ l.length ∧ ∀ j, j < i → 0 ≤ nowM l w h (j + 1) }
  fr := fun i => [(0, .fn (.yield y) [] []), (1, .ptr 7 0 0 0), (2, .ptr 6 0 0 0), (4, .i (nowM l w h i.1)), (10, .gs 8 0), (11, .i l.length), (12, .i i.1)]
  H := fun _ => failHc l w h ++ [.one (.row (.stp 0) (stepsM l) 107)]
  mu := fun i => l.length - i.1 })
def Tit : Tab UU := [(55, stepsS.con), (118, doRS.con), (119, doFS.con)]
theorem Tit_ok : Tit.Sound Try.prog := .cons steps_sound (.cons doR_sound (.cons doF_sound .nil))
theorem itB_ok {L : Nat → Nat → Option (LRule UU)} : ItOk Try.prog (itOf Try.prog Tit 63 Try.f63 L (fun _ => []) (fun _ => none)) :=
  itOf_ok hmix Tit_ok Try.func63 (by kernel_rfl) (by kernel_rfl) (enter_of Try.func63 (by kernel_rfl) (by kernel_rfl))
def onlyAt (n : Nat) (i : ItW UU) (k : Nat) : Option (ItW UU) := match Nat.beq k n with
  | true => some i
  | false => none
theorem onlyAt_ok {n : Nat} {i : ItW UU} (h : ItOk Try.prog i) : ∀ k j, onlyAt n i k = some j → ItOk Try.prog j := by
  intro k j hk
  unfold onlyAt at hk
  split at hk
  · cases hk; exact h
  · cases hk
def failedS : FSpec UU where
  X := (List StepT × List Span) × HorT
  pick := fun args H => match args with
    | [a, .agg h] => match avPl H a, avHor h with
      | some a, some h => some (a, h)
      | _, _ => none
    | _ => none
  args := fun x => [.ptr 0 0 0 0, .agg (lHor x.2)]
  H := fun x => hPl x.1.1 x.1.2
  R := fun x => .val ⟨.tup [.i (failedM x.1.1 x.1.2 x.2).1, .b (failedM x.1.1 x.1.2 x.2).2], [], [], []⟩
  pre := fun x => x.1.2.length = x.1.1.length ∧ x.1.1.length < 1000000
def Tfailed : Tab UU := [(36, behindS.con)]
theorem Tfailed_ok : Tfailed.Sound Try.prog := .cons behind_sound .nil
set_option maxHeartbeats 0 in
set_option maxRecDepth 100000 in
theorem failed_ok : ∀ x, failedS.pre x → FunOk Try.prog 32 (failedS.args x) (failedS.H x) (failedS.R x) := by
  rintro ⟨⟨l, w⟩, ⟨hs, hl, hg, hf, hk⟩⟩ hx
  refine fun_ofG (T := Tfailed) (L := fun _ => none) (hs := fun _ => []) (sp := fun _ => none) hmix Tfailed_ok (tl := fun _ => none) (fun _ _ h => by cases h) (it := onlyAt 4 (itOf Try.prog Tit 63 Try.f63 (itFail l w (hs, hl, hg, hf, hk)) (fun _ => []) (fun _ => none))) (onlyAt_ok itB_ok) Try.func32 (by kernel_rfl) (by kernel_rfl) ?_
  refine Eq.mp (α :=
      let Z0 := (62 : FuncId); let Z1 := (61 : FuncId); let Z2 := (107 : TypeId); let Z3 := nat_lit 0 = nat_lit 0 ∧ nat_lit 0 = nat_lit 0 ∧ nat_lit 0 = nat_lit 0; let Z4 := Fn.func Z0; let Z5 := Fn.func Z1; let Z6 := fun (i : Nat) => i ≤ List.length l; let Z7 := w = w ∧ True; let Z8 := l = l ∧ True; let Z9 := (hg, hf, hk); let Z10 := (↑(List.length l) : Int); let Z11 := fun (l : Nat) => Fn.yield l = Fn.yield l ∧ True ∧ True; let Z12 := Value.int IntKind.i64 (0 : Int); let Z13 := Value.bool false = Value.bool false; let Z14 := Z3 ∧ True; let Z15 := List.length w = List.length w; let Z16 := (true, (0 : Int)); let Z17 := Value.int IntKind.i64 hg = Value.int IntKind.i64 hg; let Z18 := List.length l = List.length l; let Z19 := Value.int IntKind.i64 hs = Value.int IntKind.i64 hs; let Z20 := Value.int IntKind.i64 hf = Value.int IntKind.i64 hf; let Z21 := Value.int IntKind.i64 hl = Value.int IntKind.i64 hl; let Z22 := Z13 ∧ True; let Z23 := nat_lit 0 = nat_lit 0 ∧ Z15; let Z24 := Value.int IntKind.i64 Z10; let Z25 := nat_lit 0 = nat_lit 0 ∧ Z18; let Z26 := ((0 : Int), (0 : Int)); let Z27 := fun (j : Nat) => j + (1 : Nat); let Z28 := List.length (stepsM l); let Z29 := Z2 = Z2; let Z30 := nat_lit 0 = nat_lit 0 ∧ Z23; let Z31 := (hl, Z9); let Z32 := nat_lit 0 = nat_lit 0 ∧ Z25; let Z33 := l = l ∧ Z7; let Z34 := Z4 = Z4; let Z35 := Z5 = Z5; let Z36 := Z30 ∧ True; let Z37 := Z32 ∧ True ∧ True; let Z38 := Z12 = Z12; let Z39 := Z35 ∧ True ∧ True; let Z40 := Z34 ∧ True ∧ True; let Z41 := True ∧ Z37; let Z42 := Z38 ∧ True; let Z43 := True ∧ Z41; let Z44 := ((0 : Int), Z26); let Z45 := (hs, Z31); let Z46 := True ∧ Z43; let Z47 := True ∧ Z46; let Z48 := Z24 = Z24; let Z49 := failedM l w Z45; let Z50 := Prod.fst Z49; let Z51 := Prod.snd Z49; let Z52 := Value.bool Z51; let Z53 := Z32 ∧ Z36; let Z54 := Value.int IntKind.i64 Z50; let Z55 := Z47 ∧ Z8; let Z56 := True ∧ Z53; let Z57 := True ∧ Z56; let Z58 := Z52 = Value.bool true; let Z59 := True ∧ Z57; let Z60 := Z58 ∧ True; let Z61 := True ∧ Z59; let Z62 := fun (j : Nat) => nowM l w Z45 (Z27 j); let Z63 := Z40 ∧ Z39; let Z64 := hk = hk ∧ Z63; let Z65 := Z64 ∧ True; let Z66 := fun (j : Nat) => (0 : Int) ≤ Z62 j; let Z67 := fun (j i : Nat) => j < i → Z66 j; let Z68 := fun (i : Nat) => ∀ (j : Nat), Z67 j i; let Z69 := Z61 ∧ Z33; let Z70 := Z20 ∧ Z65; let Z71 := True ∧ Z69; let Z72 := fun (i : Nat) => Z6 i ∧ Z68 i; let Z73 : Type := { i : Nat // Z72 i }; let Z74 := Z17 ∧ Z70; let Z75 := fun (x : Z73) => Subtype.val x; let Z76 := fun (x : Z73) => (↑(Z75 x) : Int); let Z77 := fun (t : Z73) => Int.toNat (Z76 t); let Z78 := fun (x : Z73) => Value.int IntKind.i64 (Z76 x); let Z79 := Z21 ∧ Z74; let Z80 := fun (x : Z73) => List.length l - Z75 x; let Z81 := fun (t : Z73) => nat_lit 0 + Z77 t; let Z82 := fun (t : Z73) => Z76 t < Z10; let Z83 := fun (t : Z73) => Z76 t + (1 : Int); let Z84 := Z19 ∧ Z79; let Z85 := fun (t : Z73) => IntKind.wrap IntKind.i64 (Z83 t); let Z86 := fun (t : Z73) => Value.int IntKind.i64 (Z85 t); let Z87 := fun (x : Z73) => nowM l w Z45 (Z75 x); let Z88 := fun (x : Z73) => Value.int IntKind.i64 (Z87 x); let Z89 := fun (t : Z73) => List.getD (stepsM l) (Z81 t) Z16; let Z90 := fun (t : Z73) => Prod.snd (Z89 t); let Z91 := fun (t : Z73) => Prod.fst (Z89 t); let Z92 := fun (t : Z73) => Int.toNat (Z90 t); let Z93 := fun (t : Z73) => Z78 t = Z54; let Z94 := fun (t : Z73) => Value.int IntKind.i64 (Z90 t); let Z95 := fun (t : Z73) => (0 : Int) ≤ Z90 t; let Z96 := fun (t : Z73) => List.getD w (Z92 t) Z26; let Z97 := fun (t : Z73) => List.getD l (Z92 t) Z44; let Z98 := fun (t : Z73) => Prod.snd (Z97 t); let Z99 := fun (t : Z73) => Prod.snd (Z98 t); let Z100 := fun (t : Z73) => Z93 t ∧ Z60; let Z101 := fun (t : Z73) => Z100 t ∧ True; let Z102 := fun (x t : Z73) => Z80 x < Z80 t; let Z103 := fun (t x : Z73) => Z86 t = Z78 x; let Z104 := fun (t : Z73) => decide (Z82 t); let Z105 := fun (t x : Z73) => Z103 t x ∧ True; let Z106 := fun (t : Z73) => Z88 t = Z88 t; let Z107 := fun (t : Z73) => Z106 t ∧ True; let Z108 := fun (t x : Z73) => Z48 ∧ Z105 t x; let Z109 := fun (t x : Z73) => nat_lit 0 = nat_lit 0 ∧ Z108 t x; let Z110 := fun (t : Z73) => Z101 t ∧ Z71; let Z111 := fun (t : Z73) => True ∧ Z110 t; let Z112 := fun (t : Z73) => Z94 t = Z94 t; let Z113 := fun (t : Z73) => Z112 t ∧ True; let Z114 := fun (t : Z73) => Z3 ∧ Z113 t; let Z115 := fun (t : Z73) => furrowM Z45 (Z96 t) (Z87 t); let Z116 := fun (t : Z73) => Z115 t ≥ (0 : Int); let Z117 := fun (t : Z73) => restM Z45 (Z99 t) (Z87 t); let Z121 := fun (t : Z73) => decide (Z116 t); let Z122 := fun (t : Z73) => decide (Z117 t ≥ (0 : Int)); True ∧ (Z3 ∧ Z84 ∧ True) ∧ ((True ∧ True ∧ True ∧ True ∧ True ∧ True ∧ True) ∧ True) ∧ ∀ (l_1 : Nat), List.length l < nat_lit 1000000 ∧ Z14 ∧ Z55 ∧ (∃ (x : Z73), (Z11 l_1 ∧ Z3 ∧ Z3 ∧ Value.int IntKind.i64 hs = Z88 x ∧ nat_lit 0 = nat_lit 0 ∧ Value.int IntKind.i64 (↑(List.length (stepsM l)) : Int) = Z24 ∧ Z12 = Z78 x ∧ True) ∧ True ∧ Z61 ∧ l = l ∧ w = w ∧ Z84 ∧ Z42 ∧ Z22 ∧ Z14 ∧ Z84 ∧ (Z29 ∧ stepsM l = stepsM l) ∧ True) ∧ ∀ (t : Z73), (Z104 t = true → ((0 : Int) ≤ Z76 t ∧ Z76 t < (↑Z28 : Int)) ∧ Z81 t < Z28 ∧ (Z91 t = true → (Z95 t ∧ Z90 t < Z10) ∧ (Z114 t ∧ Z84 ∧ Z107 t) ∧ Z55 ∧ l_1 = l_1 ∧ True ∧ (Z122 t = true → True ∧ ∃ (x : Z73), ((Z11 l_1 ∧ Z3 ∧ Z3 ∧ Value.int IntKind.i64 (Z117 t) = Z88 x ∧ Z109 t x) ∧ True ∧ Z61 ∧ l = l ∧ w = w ∧ Z84 ∧ Z42 ∧ Z22 ∧ Z14 ∧ Z84 ∧ (Z29 ∧ stepsM l = stepsM l) ∧ True) ∧ Z102 x t) ∧ (Z122 t = false → Z111 t)) ∧ (Z91 t = false → (Z95 t ∧ Z90 t < (↑(List.length w) : Int)) ∧ (Z114 t ∧ Z84 ∧ Z107 t) ∧ ((True ∧ True ∧ True ∧ True ∧ True ∧ Z36) ∧ Z7) ∧ l_1 = l_1 ∧ True ∧ (Z121 t = true → True ∧ ∃ (x : Z73), ((Z11 l_1 ∧ Z3 ∧ Z3 ∧ Value.int IntKind.i64 (Z115 t) = Z88 x ∧ Z109 t x) ∧ True ∧ Z61 ∧ l = l ∧ w = w ∧ Z84 ∧ Z42 ∧ Z22 ∧ Z14 ∧ Z84 ∧ (Z29 ∧ stepsM l = stepsM l) ∧ True) ∧ Z102 x t) ∧ (Z121 t = false → Z111 t))) ∧ (Z104 t = false → True ∧ ((Z12 = Z54 ∧ Z52 = Value.bool false ∧ True) ∧ True) ∧ Z71))
    (by kernel_rfl) ?_
  simp only [eq_self, true_and, and_true, Int.toNat_natCast, Nat.zero_add, Nat.sub_zero, Value.int.injEq, Value.bool.injEq, decide_eq_true_eq, decide_eq_false_iff_not]
  have h1 : w.length = l.length := hx.1
  have h2 : l.length < 1000000 := hx.2
  refine fun _ => ⟨h2, ⟨⟨0, Nat.zero_le _, fun j hj => absurd hj (Nat.not_lt_zero j)⟩, rfl, by rw [steps_len], rfl⟩, fun t => ⟨fun ht => ?_, fun ht => ?_⟩⟩
  · obtain ⟨i, hi, h0⟩ := t
    have hlt : i < l.length := by have h1 : (i : Int) < (l.length : Int) := ht; omega
    have hg' := steps_get l i hlt
    have hsl := steps_len l
    simp only [hg', hsl]
    refine ⟨⟨Int.natCast_nonneg _, ht⟩, hlt, fun hr => ⟨⟨Int.natCast_nonneg _, ht⟩, fun h => ?_, fun h => ?_⟩, fun hr => ⟨⟨Int.natCast_nonneg _, by rw [h1]; exact ht⟩, fun h => ?_, fun h => ?_⟩⟩
    · have e := now_rest w (hs, hl, hg, hf, hk) hr
      exact ⟨⟨i + 1, hlt, below_succ h0 (by rw [e]; exact h)⟩, ⟨e.symm, sucI i (by omega)⟩, dec1 hlt⟩
    · have e := now_rest w (hs, hl, hg, hf, hk) hr
      rw [failed_some hlt (by have h' : ¬ (restM (hs, hl, hg, hf, hk) (l.getD i (0, 0, 0)).2.2 (nowM l w (hs, hl, hg, hf, hk) i) ≥ 0) := h; rw [← e] at h'; omega) h0]
      exact ⟨rfl, rfl⟩
    · have e := now_furrow w (hs, hl, hg, hf, hk) hr
      exact ⟨⟨i + 1, hlt, below_succ h0 (by rw [e]; exact h)⟩, ⟨e.symm, sucI i (by omega)⟩, dec1 hlt⟩
    · have e := now_furrow w (hs, hl, hg, hf, hk) hr
      rw [failed_some hlt (by have h' : ¬ (furrowM (hs, hl, hg, hf, hk) (w.getD i (0, 0)) (nowM l w (hs, hl, hg, hf, hk) i) ≥ 0) := h; rw [← e] at h'; omega) h0]
      exact ⟨rfl, rfl⟩
  · obtain ⟨i, hi, h0⟩ := t
    have hie : i = l.length := by have h1 : ¬ (i : Int) < (l.length : Int) := ht; omega
    rw [failed_none (fun j hj => h0 j (by omega))]
    exact ⟨rfl, rfl⟩

theorem failed_sound : Sound Try.prog 32 failedS.con := FSpec.sound _ (enter_of Try.func32 (by kernel_rfl) (by kernel_rfl)) failed_ok
end AE.Team

namespace AE.Team
open Go AE Go.Proofs AE.Soil

def safeM (l : List StepT) (w : List Span) (t : TeamT) : Bool := !(failedM l w (worstM t)).2
def safeS : FSpec UU where
  X := (List StepT × List Span) × TeamT
  pick := fun args H => match args with
    | [a, t] => match avPl H a, avTeam t with
      | some a, some t => some (a, t)
      | _, _ => none
    | _ => none
  args := fun x => [.ptr 0 0 0 0, vTeam x.2]
  H := fun x => hPl x.1.1 x.1.2
  R := fun x => .val ⟨.b (safeM x.1.1 x.1.2 x.2), [], [], []⟩
  pre := fun x => x.1.2.length = x.1.1.length ∧ x.1.1.length < 1000000
def Tsafe : Tab UU := [(31, casesS.con), (32, failedS.con)]
theorem Tsafe_ok : Tsafe.Sound Try.prog := .cons cases_sound (.cons failed_sound .nil)
set_option maxHeartbeats 0 in
set_option maxRecDepth 100000 in
theorem safe_ok : ∀ x, safeS.pre x → FunOk Try.prog 68 (safeS.args x) (safeS.H x) (safeS.R x) := by
  rintro ⟨⟨l, w⟩, ⟨⟨s0, s1⟩, ⟨l0, l1⟩, ⟨g0, g1⟩, full⟩⟩ hx
  refine fun_of (T := Tsafe) (L := fun _ => none) (hs := fun _ => []) hmix Tsafe_ok Try.func68 (by kernel_rfl) (by kernel_rfl) ?_
  refine Eq.mp (α :=
      let Z0 := Value.int IntKind.i64 full; let Z1 := List.length w; let Z2 := Value.int IntKind.i64 s0; let Z3 := Value.int IntKind.i64 l1; let Z4 := Value.int IntKind.i64 g0; let Z5 := List.length l; let Z6 := (0 : Int); let Z7 := (62 : FuncId); let Z8 := w = w; let Z9 := l = l; True ∧ ((Z2 = Z2 ∧ Value.int IntKind.i64 s1 = Value.int IntKind.i64 s1 ∧ Value.int IntKind.i64 l0 = Value.int IntKind.i64 l0 ∧ Z3 = Z3 ∧ Z4 = Z4 ∧ Value.int IntKind.i64 g1 = Value.int IntKind.i64 g1 ∧ Z0 = Z0 ∧ True) ∧ True) ∧ True ∧ (Z6 ≤ Z6 ∧ Z6 < (↑(nat_lit 2) : Int)) ∧ (Z1 = Z5 ∧ Z5 < nat_lit 1000000) ∧ ((nat_lit 0 = nat_lit 0 ∧ nat_lit 0 = nat_lit 0 ∧ nat_lit 0 = nat_lit 0) ∧ (Z2 = Z2 ∧ Z3 = Z3 ∧ Z4 = Z4 ∧ Z0 = Z0 ∧ ((true = true → Fn.func Z7 = Fn.func Z7 ∧ True ∧ True) ∧ (true = false → Fn.func Z7 = Fn.func (61 : FuncId) ∧ True ∧ True)) ∧ True) ∧ True) ∧ ((True ∧ True ∧ True ∧ True ∧ (nat_lit 0 = nat_lit 0 ∧ nat_lit 0 = nat_lit 0 ∧ Z5 = Z5) ∧ (nat_lit 0 = nat_lit 0 ∧ nat_lit 0 = nat_lit 0 ∧ Z1 = Z1) ∧ True) ∧ Z9 ∧ Z8 ∧ True) ∧ True ∧ ((Value.bool !Prod.snd (failedM l w (s0, l1, g0, full, true))) = Value.bool (safeM l w ((s0, s1), (l0, l1), (g0, g1), full)) ∧ True) ∧ True ∧ (True ∧ True ∧ True ∧ True ∧ (nat_lit 0 = nat_lit 0 ∧ nat_lit 0 = nat_lit 0 ∧ Z5 = Z5) ∧ (nat_lit 0 = nat_lit 0 ∧ nat_lit 0 = nat_lit 0 ∧ Z1 = Z1) ∧ True) ∧ Z9 ∧ Z8 ∧ True)
    (by kernel_rfl) ?_
  simp only [eq_self, true_and, and_true, Int.toNat_natCast, Nat.zero_add, Nat.sub_zero, Value.int.injEq, Value.bool.injEq, decide_eq_true_eq, decide_eq_false_iff_not]
  exact ⟨⟨Int.le_refl _, by decide⟩, hx, ⟨fun _ => trivial, fun h => absurd h (by decide)⟩, rfl⟩

theorem safe_sound : Sound Try.prog 68 safeS.con := FSpec.sound _ (enter_of Try.func68 (by kernel_rfl) (by kernel_rfl)) safe_ok
def openErrM (t : TeamT) (p : PlotT) (is : Bool) : Int := if teamM t && isPlotM p then (if is then (if (hardOM p.g 0).2 == 0 then 0 else 10) else 2) else 1
theorem open_err (t : TeamT) (p : PlotT) (is : Bool) : openErrM t p is = if teamM t && isPlotM p then (if is then (if (hardOM p.g 0).2 == 0 then 0 else 10) else 2) else 1 := rfl
def openTS : FSpec2 UU where
  X := TeamT × PlotT × Bool
  pick := fun args H => match args with
    | [t, p, b] => match avTeam t, avPlot H p, avBool b with
      | some t, some p, some b => some (t, p, b)
      | _, _, _ => none
    | _ => none
  args := fun x => [vTeam x.1, vPlot x.2.1 0 1, .v (.bool x.2.2)]
  H := fun x => hPlot x.2.1
  c := fun x => openErrM x.1 x.2.1 x.2.2 == 0
  R := fun x => .val ⟨.ptr 3 0 0 0, [], [], [.row .span (worksM x.2.1) 26, .cells (cPlot x.2.1 0 1 ++ [.gs 2 0]) 125]⟩
  R' := fun x => .panic (misV (openErrM x.1 x.2.1 x.2.2))
  pre := fun x => x.2.1.g.pits.length < 1000000 ∧ x.2.1.steps.length < 1000000
def TopenT : Tab UU := [(58, isTeamS.con), (59, isPlotS.con), (38, needS.con), (60, lookS.con)]
theorem TopenT_ok : TopenT.Sound Try.prog := .cons isTeam_sound (.cons isPlot_sound (.cons need_sound (.cons look_sound .nil)))
set_option maxHeartbeats 0 in
set_option maxRecDepth 100000 in
theorem openT_ok : ∀ x, openTS.pre x → (openTS.c x = true → FunOk Try.prog 30 (openTS.args x) (openTS.H x) (openTS.R x)) ∧ (openTS.c x = false → FunOk Try.prog 30 (openTS.args x) (openTS.H x) (openTS.R' x)) := by
  rintro ⟨⟨⟨s0, s1⟩, ⟨l0, l1⟩, ⟨g0, g1⟩, full⟩, ⟨⟨long, rise, change, ps⟩, st⟩, is⟩ hx
  refine fun_of2 (T := TopenT) (L := fun _ => none) (hs := fun _ => []) (sp := fun _ => none) hmix TopenT_ok (td := fun _ => none) (fun _ _ h => by cases h) (it := fun _ => none) (fun _ _ h => by cases h) Try.func30 (by kernel_rfl) (by kernel_rfl) ?_
  refine Eq.mp (α :=
      let Z0 := Value.bool is; let Z1 := (g0, g1); let Z2 := (s0, s1); let Z3 := Value.bool false; let Z4 := (l0, l1); let Z5 := GroundT.mk long rise change ps; let Z6 := Value.int IntKind.i64 long; let Z7 := List.length ps; let Z8 := Value.int IntKind.i64 rise; let Z9 := Value.int IntKind.i64 change; let Z10 := List.length st; let Z11 := nat_lit 0 = nat_lit 0 ∧ nat_lit 0 = nat_lit 0; let Z12 := (0 : Int); let Z13 := (2 : Int); let Z14 := (1 : Int); let Z15 := (10 : Int); let Z16 := PlotT.mk Z5 st; let Z17 := ps = ps; let Z18 := (26 : TypeId); let Z19 := Z0 = Z0; let Z20 := st = st; let Z21 := (110 : TypeId); let Z22 := (Z1, full); let Z23 := nat_lit 0 = nat_lit 0 ∧ Z11; let Z24 : List Span := worksM Z16; let Z25 := isPlotM Z16; let Z26 := Z20 ∧ True; let Z27 := Z7 < nat_lit 1000000; let Z28 := Value.int IntKind.i64 Z13; let Z29 := Value.int IntKind.i64 Z14; let Z30 := Z10 < nat_lit 1000000; let Z31 := Z3 = Z3; let Z32 := Value.int IntKind.i64 Z15; let Z33 := Z23 ∧ True; let Z34 := Z7 = Z7; let Z35 := Z6 = Z6; let Z36 := Z8 = Z8; let Z37 := Z10 = Z10; let Z38 := Z9 = Z9; let Z39 := Value.bool Z25; let Z40 := hardOM Z5 Z12; let Z41 := nat_lit 0 = nat_lit 0 ∧ Z34; let Z42 := nat_lit 0 = nat_lit 0 ∧ Z37; let Z43 := Z18 = Z18; let Z44 := Prod.snd Z40; let Z45 := Z21 = Z21; let Z46 := nat_lit 0 = nat_lit 0 ∧ Z41; let Z47 := Z17 ∧ Z26; let Z48 := nat_lit 0 = nat_lit 0 ∧ Z42; let Z49 := Z48 ∧ True; let Z50 := (Z4, Z22); let Z51 := Z27 ∧ Z30; let Z52 := Z29 = Z29; let Z53 := Z28 = Z28; let Z54 := Z48 ∧ nat_lit 0 = nat_lit 0 ∧ True; let Z55 := Z53 ∧ True; let Z56 := Z52 ∧ True; let Z57 := Z24 = Z24; let Z58 := Z39 = Z39; let Z59 := Z19 ∧ Z55; let Z60 := Z44 == Z12; let Z61 := (Z2, Z50); let Z69 := openErrM Z61 Z16 is; let Z70 := Value.int IntKind.i64 Z69; let Z77 := Z69 == Z12; let Z83 := Z77 = false; let Z84 := Z77 = true → False; let Z114 := is = false → Z59 ∧ True ∧ Z84 ∧ (Z83 → True ∧ Z45 ∧ Z28 = Z70 ∧ True); let Z125 := is = true → Z59 ∧ True ∧ Z51 ∧ (Z60 = true → ((Z35 ∧ Z36 ∧ Z38 ∧ Z46 ∧ Z49) ∧ True) ∧ Z47 ∧ (Z77 = true → True ∧ Z33 ∧ True ∧ Z17 ∧ Z20 ∧ (Z43 ∧ Z57) ∧ (Z35 ∧ Z36 ∧ Z38 ∧ Z46 ∧ Z54) ∧ True) ∧ (Z83 → False)) ∧ (Z60 = false → ((Z35 ∧ Z36 ∧ Z38 ∧ Z46 ∧ Z49) ∧ True) ∧ Z47 ∧ Z84 ∧ (Z83 → True ∧ Z45 ∧ Z32 = Z70 ∧ True)); True ∧ ((Value.int IntKind.i64 s0 = Value.int IntKind.i64 s0 ∧ Value.int IntKind.i64 s1 = Value.int IntKind.i64 s1 ∧ Value.int IntKind.i64 l0 = Value.int IntKind.i64 l0 ∧ Value.int IntKind.i64 l1 = Value.int IntKind.i64 l1 ∧ Value.int IntKind.i64 g0 = Value.int IntKind.i64 g0 ∧ Value.int IntKind.i64 g1 = Value.int IntKind.i64 g1 ∧ Value.int IntKind.i64 full = Value.int IntKind.i64 full ∧ True) ∧ True) ∧ True ∧ (teamM Z61 = true → (Z27 ∧ Z10 < nat_lit 9223372036854775808) ∧ ((Z35 ∧ Z36 ∧ Z38 ∧ Z46 ∧ Z49) ∧ True) ∧ Z47 ∧ True ∧ (Z25 = true → (Z58 ∧ Z56) ∧ True ∧ True ∧ Z125 ∧ Z114) ∧ (Z25 = false → (Z58 ∧ Z56) ∧ True ∧ Z84 ∧ (Z83 → True ∧ Z45 ∧ Z29 = Z70 ∧ True))) ∧ (teamM Z61 = false → True ∧ (false = true → (Z31 ∧ Z56) ∧ True ∧ True ∧ Z125 ∧ Z114) ∧ (false = false → (Z31 ∧ Z56) ∧ True ∧ Z84 ∧ (Z83 → True ∧ Z45 ∧ Z29 = Z70 ∧ True))))
    (by kernel_rfl) ?_
  simp only [eq_self, true_and, and_true, Int.toNat_natCast, Nat.zero_add, Nat.sub_zero, Value.int.injEq, Value.bool.injEq, decide_eq_true_eq, decide_eq_false_iff_not]
  obtain ⟨h1, h2⟩ := hx
  have h1' : ps.length < 1000000 := h1
  have h2' : st.length < 1000000 := h2
  have e := open_err ((s0, s1), (l0, l1), (g0, g1), full) ⟨⟨long, rise, change, ps⟩, st⟩ is
  revert e
  generalize openErrM ((s0, s1), (l0, l1), (g0, g1), full) ⟨⟨long, rise, change, ps⟩, st⟩ is = q
  generalize teamM ((s0, s1), (l0, l1), (g0, g1), full) = q1
  generalize isPlotM ⟨⟨long, rise, change, ps⟩, st⟩ = q2
  generalize ((hardOM ⟨long, rise, change, ps⟩ 0).2 == 0) = q3
  intro e
  subst e
  have h3 : st.length < 9223372036854775808 := by omega
  simp only [h1', h2', h3]
  clear h1 h2 h1' h2' h3
  cases q1 <;> cases q2 <;> cases q3 <;> cases is <;> simp

theorem openT_sound : Sound Try.prog 30 openTS.con := FSpec2.sound _ (enter_of Try.func30 (by kernel_rfl) (by kernel_rfl)) openT_ok
end AE.Team

namespace AE.Team
open Go AE Go.Proofs AE.Soil

theorem enterC : ∀ args w, (callFunc 29 args).run Try.prog w = .ok (.enter 29 args) w := enter_of Try.func29 (by kernel_rfl) (by kernel_rfl)
theorem toldComes : ToldOk Try.prog 28 29 := told_of Try.func28 (enter_of Try.func28 (by kernel_rfl) (by kernel_rfl)) enterC rfl rfl rfl rfl rfl rfl rfl rfl
theorem toldLeft : ToldOk Try.prog 34 29 := told_of Try.func34 (enter_of Try.func34 (by kernel_rfl) (by kernel_rfl)) enterC rfl rfl rfl rfl rfl rfl rfl rfl
theorem toldFails : ToldOk Try.prog 37 29 := told_of Try.func37 (enter_of Try.func37 (by kernel_rfl) (by kernel_rfl)) enterC rfl rfl rfl rfl rfl rfl rfl rfl
theorem toldSend : ToldOk Try.prog 39 29 := told_of Try.func39 (enter_of Try.func39 (by kernel_rfl) (by kernel_rfl)) enterC rfl rfl rfl rfl rfl rfl rfl rfl
theorem toldShort : ToldOk Try.prog 43 29 := told_of Try.func43 (enter_of Try.func43 (by kernel_rfl) (by kernel_rfl)) enterC rfl rfl rfl rfl rfl rfl rfl rfl
theorem toldLeast : ToldOk Try.prog 45 29 := told_of Try.func45 (enter_of Try.func45 (by kernel_rfl) (by kernel_rfl)) enterC rfl rfl rfl rfl rfl rfl rfl rfl
def toldL (n : Nat) (k : Nat) : Option FuncId := match Nat.beq n k with
  | true => some 29
  | false => none
theorem toldL_ok {n : Nat} (h : ToldOk Try.prog n 29) : ∀ k f, toldL n k = some f → ToldOk Try.prog k f := by
  intro k f hk
  unfold toldL at hk
  split at hk
  · rename_i e; have := Nat.eq_of_beq_eq_true e; subst this; cases hk; exact h
  · cases hk
def fallM (t : TeamT) (p : PlotT) (worst : Bool) : Int × Bool := failedM p.steps (worksM p) (if worst then worstM t else bestM t)
def ansM (f g : Bool) : Int := if !f && !g then 2 else if f && g then 0 else 1
def comesM (t : TeamT) (p : PlotT) : Int × Int := if openErrM t p true == 0 then (ansM (fallM t p true).2 (fallM t p false).2, 0) else (0, openErrM t p true)
theorem comes_eq (t : TeamT) (p : PlotT) : comesM t p = if openErrM t p true == 0 then (ansM (fallM t p true).2 (fallM t p false).2, 0) else (0, openErrM t p true) := rfl
def oneS (R : TeamT × PlotT → OOut UU) : FSpec UU where
  X := TeamT × PlotT
  pick := fun args H => match args with
    | [t, p] => match avTeam t, avPlot H p with
      | some t, some p => some (t, p)
      | _, _ => none
    | _ => none
  args := fun x => [vTeam x.1, vPlot x.2 0 1]
  H := fun x => hPlot x.2
  R := R
  pre := fun x => x.2.g.pits.length < 1000000 ∧ x.2.steps.length < 1000000
def comesS : FSpec UU := oneS fun x => .val ⟨.tup [.i (comesM x.1 x.2).1, .i (comesM x.1 x.2).2], [], [], []⟩
def Tcomes : Tab UU := [(30, openTS.con), (31, casesS.con), (32, failedS.con), (29, caughtS.con)]
theorem Tcomes_ok : Tcomes.Sound Try.prog := .cons openT_sound (.cons cases_sound (.cons failed_sound (.cons caught_sound .nil)))
set_option maxHeartbeats 0 in
set_option maxRecDepth 100000 in
theorem comes_ok : ∀ x, comesS.pre x → FunOk Try.prog 7 (comesS.args x) (comesS.H x) (comesS.R x) := by
  rintro ⟨⟨⟨s0, s1⟩, ⟨l0, l1⟩, ⟨g0, g1⟩, full⟩, ⟨⟨long, rise, change, ps⟩, st⟩⟩ hx
  refine fun_ofG (T := Tcomes) (L := fun _ => some (.unroll 3)) (hs := fun _ => []) (sp := fun _ => none) hmix Tcomes_ok (tl := toldL 28) (toldL_ok toldComes) (it := fun _ => none) (fun _ _ h => by cases h) Try.func7 (by kernel_rfl) (by kernel_rfl) ?_
  refine Eq.mp (α :=
      let Z0 := True ∧ True; let Z1 := Value.bool true; let Z2 := (g0, g1); let Z3 := (l0, l1); let Z4 := (s0, s1); let Z5 := GroundT.mk long rise change ps; let Z6 := Value.int IntKind.i64 g1; let Z7 := Value.int IntKind.i64 s0; let Z8 := Value.int IntKind.i64 s1; let Z9 := Value.int IntKind.i64 l0; let Z10 := Value.int IntKind.i64 l1; let Z11 := Value.int IntKind.i64 g0; let Z12 := List.length ps; let Z13 := Value.int IntKind.i64 full; let Z14 := Value.int IntKind.i64 long; let Z15 := Value.int IntKind.i64 rise; let Z16 := Value.int IntKind.i64 change; let Z17 := List.length st; let Z18 := (↑(nat_lit 2) : Int); let Z19 := nat_lit 0 = nat_lit 0 ∧ nat_lit 0 = nat_lit 0; let Z20 := (full, true); let Z21 := (full, false); let Z22 := (2 : Int); let Z23 := (0 : Int); let Z24 := (1 : Int); let Z25 := PlotT.mk Z5 st; let Z26 := Value.nilIface = Value.nilIface; let Z27 := (62 : FuncId); let Z28 := ps = ps; let Z29 := (61 : FuncId); let Z30 := st = st; let Z31 := (110 : TypeId); let Z32 := nat_lit 0 = nat_lit 0 ∧ Z19; let Z33 := (Z2, full); let Z34 := Fn.func Z27; let Z35 := Fn.func Z29; let Z36 : List Span := worksM Z25; let Z37 := Z30 ∧ True; let Z38 := Z1 = Z1; let Z39 := Z17 < nat_lit 1000000; let Z40 := Value.int IntKind.i64 Z22; let Z41 := Value.int IntKind.i64 Z24; let Z42 := Value.int IntKind.i64 Z23; let Z43 := Z32 ∧ True; let Z44 := Z12 = Z12; let Z45 := Z9 = Z9; let Z46 := (g0, Z20); let Z47 := Z15 = Z15; let Z48 := Z8 = Z8; let Z49 := Z10 = Z10; let Z50 := Z16 = Z16; let Z51 := Z6 = Z6; let Z52 := Z13 = Z13; let Z53 := Z11 = Z11; let Z54 := Z17 = Z17; let Z55 := Z7 = Z7; let Z56 := Z14 = Z14; let Z57 := (g1, Z21); let Z58 := Z38 ∧ True; let Z59 := Z52 ∧ True; let Z60 := List.length Z36; let Z61 := nat_lit 0 = nat_lit 0 ∧ Z44; let Z62 := nat_lit 0 = nat_lit 0 ∧ Z54; let Z63 := false == true; let Z64 := false == false; let Z65 := Z23 < Z18; let Z66 := List.length Z36; let Z67 := Z23 ≤ Z23; let Z68 := Z23 < Z22; let Z69 := nat_lit 0 = nat_lit 0 ∧ Z61; let Z70 := Z28 ∧ Z37; let Z71 := nat_lit 0 = nat_lit 0 ∧ Z62; let Z72 := (l1, Z46); let Z73 := Z26 ∧ Z43; let Z74 := (l0, Z57); let Z75 := Z71 ∧ True; let Z76 := Z60 = Z17; let Z77 := True ∧ Z70; let Z78 := (Z3, Z33); let Z79 := Z23 + Z24; let Z80 := Z42 = Z42; let Z81 := Z80 ∧ True; let Z82 := Z36 = Z36; let Z83 := IntKind.wrap IntKind.i64 Z79; let Z84 := Z51 ∧ Z59; let Z85 := Z81 ∧ True; let Z86 := Z82 ∧ True; let Z87 := (s0, Z72); let Z88 := (s1, Z74); let Z89 := Z66 = Z60; let Z90 := Z76 ∧ Z39; let Z94 := decide Z68; let Z96 := (Z4, Z78); let Z97 := Z83 < Z18; let Z99 := Z23 ≤ Z83; let Z106 := failedM st Z36 Z87; let Z107 := failedM st Z36 Z88; let Z112 := IntKind.wrap IntKind.i64 (Z83 + Z24); let Z113 := openErrM Z96 Z25 true; let Z116 := Value.int IntKind.i64 Z113; let Z119 := Value.int IntKind.i64 (Prod.fst (comesM Z96 Z25)); let Z120 := Value.int IntKind.i64 (Prod.snd (comesM Z96 Z25)); let Z122 := Prod.snd Z106 == true; let Z123 := Prod.snd Z106 == false; let Z124 := Prod.snd Z107 == true; let Z125 := Prod.snd Z107 == false; let Z127 := Z113 == Z23; let Z130 := Z42 = Z119; let Z131 := Z40 = Z119; let Z133 := Z41 = Z119; let Z135 := Z42 = Z120 ∧ True; let Z140 := decide (Z83 < Z22); let Z148 := decide (Z112 < Z22); (Z12 < nat_lit 1000000 ∧ Z39) ∧ (Z127 = true → ((Z55 ∧ Z48 ∧ Z45 ∧ Z49 ∧ Z53 ∧ Z84) ∧ (Z56 ∧ Z47 ∧ Z50 ∧ Z69 ∧ Z75) ∧ Z58) ∧ Z70 ∧ True ∧ ((Z55 ∧ Z48 ∧ Z45 ∧ Z49 ∧ Z53 ∧ Z84) ∧ True) ∧ True ∧ (Z94 = true → (Z67 ∧ Z65) ∧ Z90 ∧ (Z32 ∧ (Z55 ∧ Z49 ∧ Z53 ∧ Z52 ∧ ((true = true → Z34 = Z34 ∧ Z0) ∧ (true = false → Z34 = Z35 ∧ Z0)) ∧ True) ∧ True) ∧ ((True ∧ True ∧ True ∧ True ∧ Z71 ∧ (nat_lit 5 = nat_lit 5 ∧ nat_lit 0 = nat_lit 0 ∧ nat_lit 0 = nat_lit 0 ∧ Z89) ∧ True) ∧ Z30 ∧ Z86) ∧ (Z67 ∧ Z65) ∧ (Z140 = true → (Z99 ∧ Z97) ∧ Z90 ∧ (Z32 ∧ (Z48 ∧ Z45 ∧ Z51 ∧ Z52 ∧ ((false = true → Z35 = Z34 ∧ Z0) ∧ (false = false → Z35 = Z35 ∧ Z0)) ∧ True) ∧ True) ∧ ((True ∧ True ∧ True ∧ True ∧ Z71 ∧ (nat_lit 5 = nat_lit 5 ∧ nat_lit 0 = nat_lit 0 ∧ nat_lit 0 = nat_lit 0 ∧ Z89) ∧ True) ∧ Z30 ∧ Z86) ∧ (Z99 ∧ Z97) ∧ (Z148 = true → (Z23 ≤ Z112 ∧ Z112 < Z18) ∧ False) ∧ (Z148 = false → ((Z123 && Z125) = true → True ∧ Z73 ∧ Z85 ∧ True ∧ ((Z131 ∧ Z135) ∧ True) ∧ Z77) ∧ ((Z123 && Z125) = false → ((Z122 && Z124) = true → True ∧ Z73 ∧ Z85 ∧ True ∧ ((Z130 ∧ Z135) ∧ True) ∧ Z77) ∧ ((Z122 && Z124) = false → True ∧ Z73 ∧ Z85 ∧ True ∧ ((Z133 ∧ Z135) ∧ True) ∧ Z77)))) ∧ (Z140 = false → ((Z123 && Z64) = true → True ∧ Z73 ∧ Z85 ∧ True ∧ ((Z131 ∧ Z135) ∧ True) ∧ Z77) ∧ ((Z123 && Z64) = false → ((Z122 && Z63) = true → True ∧ Z73 ∧ Z85 ∧ True ∧ ((Z130 ∧ Z135) ∧ True) ∧ Z77) ∧ ((Z122 && Z63) = false → True ∧ Z73 ∧ Z85 ∧ True ∧ ((Z133 ∧ Z135) ∧ True) ∧ Z77)))) ∧ (Z94 = false → ((Z64 && Z64) = true → True ∧ Z73 ∧ Z85 ∧ True ∧ ((Z131 ∧ Z135) ∧ True) ∧ Z77) ∧ ((Z64 && Z64) = false → ((Z63 && Z63) = true → True ∧ Z73 ∧ Z85 ∧ True ∧ ((Z130 ∧ Z135) ∧ True) ∧ Z77) ∧ ((Z63 && Z63) = false → True ∧ Z73 ∧ Z85 ∧ True ∧ ((Z133 ∧ Z135) ∧ True) ∧ Z77)))) ∧ (Z127 = false → ((Z55 ∧ Z48 ∧ Z45 ∧ Z49 ∧ Z53 ∧ Z84) ∧ (Z56 ∧ Z47 ∧ Z50 ∧ Z69 ∧ Z75) ∧ Z58) ∧ Z70 ∧ True ∧ ((Z31 = Z31 ∧ Z116 = Z116 ∧ True) ∧ Z43) ∧ Z85 ∧ True ∧ ((Z130 ∧ Z116 = Z120 ∧ True) ∧ True) ∧ Z77))
    (by kernel_rfl) ?_
  simp only [eq_self, true_and, and_true, Int.toNat_natCast, Nat.zero_add, Nat.sub_zero, Value.int.injEq, Value.bool.injEq, decide_eq_true_eq, decide_eq_false_iff_not]
  have w1 : IntKind.i64.wrap ((0 : Int) + 1) = 1 := by decide
  have w2 : IntKind.i64.wrap ((1 : Int) + 1) = 2 := by decide
  have hl : (worksM ⟨⟨long, rise, change, ps⟩, st⟩).length = st.length := works_len _
  obtain ⟨h1, h2⟩ := hx
  have h1' : ps.length < 1000000 := h1
  have h2' : st.length < 1000000 := h2
  have e := comes_eq ((s0, s1), (l0, l1), (g0, g1), full) ⟨⟨long, rise, change, ps⟩, st⟩
  revert e
  generalize openErrM ((s0, s1), (l0, l1), (g0, g1), full) ⟨⟨long, rise, change, ps⟩, st⟩ true = q
  simp only [fallM, worstM, bestM, if_true, if_false, Bool.false_eq_true]
  generalize failedM st (worksM ⟨⟨long, rise, change, ps⟩, st⟩) (s0, l1, g0, full, true) = f1
  generalize failedM st (worksM ⟨⟨long, rise, change, ps⟩, st⟩) (s1, l0, g1, full, false) = f2
  intro e
  rw [e]
  simp only [w1, w2, hl, h1', h2']
  obtain ⟨a, b⟩ := f1
  obtain ⟨c, d⟩ := f2
  refine ⟨⟨trivial, trivial⟩, fun h => ?_, fun h => ?_⟩
  · rw [if_pos h]
    cases b <;> cases d <;> simp [ansM]
  · rw [if_neg (by rw [h]; decide)]
    simp

theorem comes_sound : Sound Try.prog 7 comesS.con := FSpec.sound _ (enter_of Try.func7 (by kernel_rfl) (by kernel_rfl)) comes_ok
def failsM (t : TeamT) (p : PlotT) : Int × Bool × Int := if openErrM t p true == 0 then (if (fallM t p true).2 then ((fallM t p true).1, (fallM t p false).2 && (fallM t p false).1 == (fallM t p true).1, 0) else ((fallM t p true).1, false, 4)) else (0, false, openErrM t p true)
theorem fails_eq (t : TeamT) (p : PlotT) : failsM t p = if openErrM t p true == 0 then (if (fallM t p true).2 then ((fallM t p true).1, (fallM t p false).2 && (fallM t p false).1 == (fallM t p true).1, 0) else ((fallM t p true).1, false, 4)) else (0, false, openErrM t p true) := rfl
def failsS : FSpec UU := oneS fun x => .val ⟨.tup [.i (failsM x.1 x.2).1, .b (failsM x.1 x.2).2.1, .i (failsM x.1 x.2).2.2], [], [], []⟩
def Tfails : Tab UU := (38, needS.con) :: Tcomes
theorem Tfails_ok : Tfails.Sound Try.prog := .cons need_sound Tcomes_ok
set_option maxHeartbeats 0 in
set_option maxRecDepth 100000 in
theorem fails_ok : ∀ x, failsS.pre x → FunOk Try.prog 11 (failsS.args x) (failsS.H x) (failsS.R x) := by
  rintro ⟨⟨⟨s0, s1⟩, ⟨l0, l1⟩, ⟨g0, g1⟩, full⟩, ⟨⟨long, rise, change, ps⟩, st⟩⟩ hx
  refine fun_ofG (T := Tfails) (L := fun _ => none) (hs := fun _ => []) (sp := fun _ => none) hmix Tfails_ok (tl := toldL 37) (toldL_ok toldFails) (it := fun _ => none) (fun _ _ h => by cases h) Try.func11 (by kernel_rfl) (by kernel_rfl) ?_
  refine Eq.mp (α :=
      let Z0 := True ∧ True; let Z1 := Value.bool true; let Z2 := (s0, s1); let Z3 := (g0, g1); let Z4 := (l0, l1); let Z5 := Value.bool false; let Z6 := GroundT.mk long rise change ps; let Z7 := Value.int IntKind.i64 rise; let Z8 := Value.int IntKind.i64 long; let Z9 := Value.int IntKind.i64 s0; let Z10 := Value.int IntKind.i64 s1; let Z11 := Value.int IntKind.i64 l0; let Z12 := Value.int IntKind.i64 l1; let Z13 := Value.int IntKind.i64 g0; let Z14 := Value.int IntKind.i64 g1; let Z15 := List.length ps; let Z16 := Value.int IntKind.i64 full; let Z17 := Value.int IntKind.i64 change; let Z18 := List.length st; let Z19 := nat_lit 0 = nat_lit 0 ∧ nat_lit 0 = nat_lit 0; let Z20 := (↑(nat_lit 2) : Int); let Z21 := (full, true); let Z22 := (full, false); let Z23 := (0 : Int); let Z24 := (4 : Int); let Z25 := (1 : Int); let Z26 := PlotT.mk Z6 st; let Z27 := Value.nilIface = Value.nilIface; let Z28 := (61 : FuncId); let Z29 := (62 : FuncId); let Z30 := ps = ps; let Z31 := st = st; let Z32 := (110 : TypeId); let Z33 := nat_lit 0 = nat_lit 0 ∧ Z19; let Z34 := (Z3, full); let Z35 := Fn.func Z29; let Z36 := Fn.func Z28; let Z37 : List Span := worksM Z26; let Z38 := Z31 ∧ True; let Z39 := Z1 = Z1; let Z40 := Value.int IntKind.i64 Z24; let Z41 := Value.int IntKind.i64 Z23; let Z42 := Z18 < nat_lit 1000000; let Z43 := Z33 ∧ True; let Z44 := Z15 = Z15; let Z45 := Z16 = Z16; let Z46 := Z13 = Z13; let Z47 := Z17 = Z17; let Z48 := Z11 = Z11; let Z49 := Z8 = Z8; let Z51 := Z12 = Z12; let Z53 := Z9 = Z9; let Z54 := Z10 = Z10; let Z56 := Z14 = Z14; let Z60 := List.length Z37; let Z63 := List.length Z37; let Z66 := nat_lit 0 = nat_lit 0 ∧ nat_lit 0 = nat_lit 0 ∧ Z18 = Z18; let Z73 := True ∧ Z30 ∧ Z38; let Z75 := Z40 = Z40; let Z79 := Z37 = Z37; let Z81 := (Z41 = Z41 ∧ True) ∧ True; let Z88 := (Z2, Z4, Z34); let Z93 := failedM st Z37 (s0, l1, g0, Z21); let Z95 := failedM st Z37 (s1, l0, g1, Z22); let Z99 := Prod.snd Z93; let Z101 := openErrM Z88 Z26 true; let Z102 := Value.bool Z99; let Z105 := Prod.snd (failsM Z88 Z26); let Z106 := Value.int IntKind.i64 Z101; let Z111 := Value.int IntKind.i64 (Prod.fst (failsM Z88 Z26)); let Z113 := Value.int IntKind.i64 (Prod.snd Z105); let Z114 := Value.bool (Prod.fst Z105) = Z5; let Z116 := Z101 == Z23; let Z130 := Value.int IntKind.i64 (Prod.fst Z93) = Z111; (Z15 < nat_lit 1000000 ∧ Z42) ∧ (Z116 = true → ((Z53 ∧ Z54 ∧ Z48 ∧ Z51 ∧ Z46 ∧ Z56 ∧ Z45 ∧ True) ∧ (Z49 ∧ Z7 = Z7 ∧ Z47 ∧ (nat_lit 0 = nat_lit 0 ∧ nat_lit 0 = nat_lit 0 ∧ Z44) ∧ Z66 ∧ True) ∧ Z39 ∧ True) ∧ (Z30 ∧ Z38) ∧ True ∧ ((Z53 ∧ Z54 ∧ Z48 ∧ Z51 ∧ Z46 ∧ Z56 ∧ Z45 ∧ True) ∧ True) ∧ True ∧ (Z23 ≤ Z23 ∧ Z23 < Z20) ∧ (Z60 = Z18 ∧ Z42) ∧ (Z33 ∧ (Z53 ∧ Z51 ∧ Z46 ∧ Z45 ∧ ((true = true → Z35 = Z35 ∧ Z0) ∧ (true = false → Z35 = Z36 ∧ Z0)) ∧ True) ∧ True) ∧ ((True ∧ True ∧ True ∧ True ∧ Z66 ∧ (nat_lit 5 = nat_lit 5 ∧ nat_lit 0 = nat_lit 0 ∧ nat_lit 0 = nat_lit 0 ∧ Z63 = Z60) ∧ True) ∧ Z31 ∧ Z79 ∧ True) ∧ True ∧ (Z99 = true → (Z102 = Z102 ∧ Z75 ∧ True) ∧ True ∧ (Z23 ≤ Z25 ∧ Z25 < Z20) ∧ (Z60 = Z18 ∧ Z42) ∧ (Z33 ∧ (Z54 ∧ Z48 ∧ Z56 ∧ Z45 ∧ ((false = true → Z36 = Z35 ∧ Z0) ∧ (false = false → Z36 = Z36 ∧ Z0)) ∧ True) ∧ True) ∧ ((True ∧ True ∧ True ∧ True ∧ Z66 ∧ (nat_lit 5 = nat_lit 5 ∧ nat_lit 0 = nat_lit 0 ∧ nat_lit 0 = nat_lit 0 ∧ Z63 = Z60) ∧ True) ∧ Z31 ∧ Z79 ∧ True) ∧ (Prod.snd Z95 = true → True ∧ (Z27 ∧ Z43) ∧ Z81 ∧ True ∧ ((Z130 ∧ Value.bool (Prod.fst Z95 == Prod.fst Z93) = Value.bool (Prod.fst Z105) ∧ Z41 = Z113 ∧ True) ∧ True) ∧ Z73) ∧ (Prod.snd Z95 = false → True ∧ (Z27 ∧ Z43) ∧ Z81 ∧ True ∧ ((Z130 ∧ Z114 ∧ Z41 = Z113 ∧ True) ∧ True) ∧ Z73)) ∧ (Z99 = false → (Z102 = Z102 ∧ Z75 ∧ True) ∧ True ∧ True ∧ ((Z32 = Z32 ∧ Z75 ∧ True) ∧ Z43) ∧ Z81 ∧ True ∧ ((Z130 ∧ Z114 ∧ Z40 = Z113 ∧ True) ∧ True) ∧ Z73)) ∧ (Z116 = false → ((Z53 ∧ Z54 ∧ Z48 ∧ Z51 ∧ Z46 ∧ Z56 ∧ Z45 ∧ True) ∧ (Z49 ∧ Z7 = Z7 ∧ Z47 ∧ (nat_lit 0 = nat_lit 0 ∧ nat_lit 0 = nat_lit 0 ∧ Z44) ∧ Z66 ∧ True) ∧ Z39 ∧ True) ∧ (Z30 ∧ Z38) ∧ True ∧ ((Z32 = Z32 ∧ Z106 = Z106 ∧ True) ∧ Z43) ∧ Z81 ∧ True ∧ ((Z41 = Z111 ∧ Z114 ∧ Z106 = Z113 ∧ True) ∧ True) ∧ Z73))
    (by kernel_rfl) ?_
  simp only [eq_self, true_and, and_true, Int.toNat_natCast, Nat.zero_add, Nat.sub_zero, Value.int.injEq, Value.bool.injEq, decide_eq_true_eq, decide_eq_false_iff_not]
  have w1 : IntKind.i64.wrap ((0 : Int) + 1) = 1 := by decide
  have w2 : IntKind.i64.wrap ((1 : Int) + 1) = 2 := by decide
  have hl : (worksM ⟨⟨long, rise, change, ps⟩, st⟩).length = st.length := works_len _
  obtain ⟨h1, h2⟩ := hx
  have h1' : ps.length < 1000000 := h1
  have h2' : st.length < 1000000 := h2
  have e := fails_eq ((s0, s1), (l0, l1), (g0, g1), full) ⟨⟨long, rise, change, ps⟩, st⟩
  revert e
  generalize openErrM ((s0, s1), (l0, l1), (g0, g1), full) ⟨⟨long, rise, change, ps⟩, st⟩ true = q
  simp only [fallM, worstM, bestM, if_true, if_false, Bool.false_eq_true]
  generalize failedM st (worksM ⟨⟨long, rise, change, ps⟩, st⟩) (s0, l1, g0, full, true) = f1
  generalize failedM st (worksM ⟨⟨long, rise, change, ps⟩, st⟩) (s1, l0, g1, full, false) = f2
  intro e
  rw [e]
  simp only [w1, w2, hl, h1', h2']
  obtain ⟨a, b⟩ := f1
  obtain ⟨c, d⟩ := f2
  refine ⟨⟨trivial, trivial⟩, fun h => ?_, fun h => ?_⟩
  · rw [if_pos h]
    cases b <;> cases d <;> simp [ansM]
  · rw [if_neg (by rw [h]; decide)]
    simp

theorem fails_sound : Sound Try.prog 11 failsS.con := FSpec.sound _ (enter_of Try.func11 (by kernel_rfl) (by kernel_rfl)) fails_ok
end AE.Team

namespace AE.Team
open Go AE Go.Proofs AE.Soil

def withM (t : TeamT) (n : Int) : TeamT := ((n, n), t.2)
abbrev KnownT := (List StepT × List Span) × TeamT
def knownS : FSpec UU where
  X := KnownT × Int
  pick := fun args H => match args with
    | [.agg (a :: t), n] => match avPl H a, avTeam (.agg t), avInt n with
      | some a, some t, some n => some ((a, t), n)
      | _, _, _ => none
    | _ => none
  args := fun x => [.agg [.ptr 0 0 0 0, .i x.1.2.1.1, .i x.1.2.1.2, .i x.1.2.2.1.1, .i x.1.2.2.1.2, .i x.1.2.2.2.1.1, .i x.1.2.2.2.1.2, .i x.1.2.2.2.2], .i x.2]
  H := fun x => hPl x.1.1.1 x.1.1.2
  R := fun x => .val ⟨.b (safeM x.1.1.1 x.1.1.2 (withM x.1.2 x.2)), [], [], []⟩
  pre := fun x => x.1.1.2.length = x.1.1.1.length ∧ x.1.1.1.length < 1000000
def Tknown : Tab UU := [(68, safeS.con)]
theorem Tknown_ok : Tknown.Sound Try.prog := .cons safe_sound .nil
set_option maxHeartbeats 0 in
set_option maxRecDepth 100000 in
theorem known_ok : ∀ x, knownS.pre x → FunOk Try.prog 47 (knownS.args x) (knownS.H x) (knownS.R x) := by
  rintro ⟨⟨⟨l, w⟩, ⟨⟨s0, s1⟩, ⟨l0, l1⟩, ⟨g0, g1⟩, full⟩⟩, n⟩ hx
  refine fun_of (T := Tknown) (L := fun _ => none) (hs := fun _ => []) hmix Tknown_ok Try.func47 (by kernel_rfl) (by kernel_rfl) ?_
  refine Eq.mp (α :=
      let Z0 := Value.int IntKind.i64 n; let Z1 := List.length w; let Z2 := List.length l; let Z3 := w = w; let Z4 := l = l; let Z16 := ((l0, l1), (g0, g1), full); (Z1 = Z2 ∧ Z2 < nat_lit 1000000) ∧ ((nat_lit 0 = nat_lit 0 ∧ nat_lit 0 = nat_lit 0 ∧ nat_lit 0 = nat_lit 0) ∧ (Z0 = Z0 ∧ Z0 = Z0 ∧ Value.int IntKind.i64 l0 = Value.int IntKind.i64 l0 ∧ Value.int IntKind.i64 l1 = Value.int IntKind.i64 l1 ∧ Value.int IntKind.i64 g0 = Value.int IntKind.i64 g0 ∧ Value.int IntKind.i64 g1 = Value.int IntKind.i64 g1 ∧ Value.int IntKind.i64 full = Value.int IntKind.i64 full ∧ True) ∧ True) ∧ ((True ∧ True ∧ True ∧ True ∧ (nat_lit 0 = nat_lit 0 ∧ nat_lit 0 = nat_lit 0 ∧ Z2 = Z2) ∧ (nat_lit 0 = nat_lit 0 ∧ nat_lit 0 = nat_lit 0 ∧ Z1 = Z1) ∧ True) ∧ Z4 ∧ Z3 ∧ True) ∧ True ∧ (Value.bool (safeM l w ((n, n), Z16)) = Value.bool (safeM l w (withM ((s0, s1), Z16) n)) ∧ True) ∧ True ∧ (True ∧ True ∧ True ∧ True ∧ (nat_lit 0 = nat_lit 0 ∧ nat_lit 0 = nat_lit 0 ∧ Z2 = Z2) ∧ (nat_lit 0 = nat_lit 0 ∧ nat_lit 0 = nat_lit 0 ∧ Z1 = Z1) ∧ True) ∧ Z4 ∧ Z3 ∧ True)
    (by kernel_rfl) ?_
  simp only [eq_self, true_and, and_true, Int.toNat_natCast, Nat.zero_add, Nat.sub_zero, Value.int.injEq, Value.bool.injEq, decide_eq_true_eq, decide_eq_false_iff_not]
  exact ⟨hx, rfl⟩

theorem known_sound : Sound Try.prog 47 knownS.con := FSpec.sound _ (enter_of Try.func47 (by kernel_rfl) (by kernel_rfl)) known_ok
def avStpC (H : Heap UU) : List AV → Option ((List StepT × List Span) × Bool × Int)
  | [.alt c _ (.ifc _ (.agg [p, n]))] => match avPl H p, avInt n with
    | some p, some n => some (p, c, n)
    | _, _ => none
  | [.ifc t (.agg [p, n])] => match avPl H p, avInt n with
    | some p, some n => some (p, Nat.beq t 127, n)
    | _, _ => none
  | _ => none
def avCells (H : Heap UU) : AV → Option (List AV)
  | .ptr i 0 0 0 => match blkAt H i 0 with
    | some (.cells vs _) => some vs
    | some (.rc vs _) => some vs
    | _ => none
  | _ => none
def avNow (H : Heap UU) : List AV → Option Int
  | [.fn _ [] [_, p]] => match avCells H p with
    | some [n] => avInt n
    | _ => none
  | _ => none
abbrev TrialT := (List StepT × List Span) × (Bool × Int) × HorT × Int
def hTrial (x : TrialT) : Heap UU := hPl x.1.1 x.1.2 ++ [.one (.rc [vStp 0 x.2.1] 107), .one (.rc (lHor x.2.2.1) 74), .one (.rc [.i x.2.2.2] 3), .one (.rc [.fn (.func 56) [] [.ptr 4 0 0 0, .ptr 5 0 0 0]] 64)]
def avTrial (H : Heap UU) (s h r : AV) : Option TrialT := match avCells H s, avCells H h, avCells H r with
  | some s, some h, some r => match avStpC H s, avHor h, avNow H r with
    | some s, some h, some n => some (s.1, s.2, h, n)
    | _, _, _ => none
  | _, _, _ => none
def stepM (x : TrialT) (now : Int) : Int := if x.2.1.1 then restM x.2.2.1 (x.1.1.getD x.2.1.2.toNat (0, 0, 0)).2.2 now else furrowM x.2.2.1 (x.1.2.getD x.2.1.2.toNat (0, 0)) now
def restedS : FSpec UU where
  X := HorT × Int × Int
  pick := fun args H => match args with
    | [m, h, n] => match avInt m, avCells H h, avCells H n with
      | some m, some h, some [n] => match avHor h, avInt n with
        | some h, some n => some (h, n, m)
        | _, _ => none
      | _, _, _ => none
    | _ => none
  args := fun x => [.i x.2.2, .ptr 0 0 0 0, .ptr 1 0 0 0]
  H := fun x => [.one (.rc (lHor x.1) 74), .one (.rc [.i x.2.1] 3)]
  R := fun x => .val ⟨.i (restM x.1 x.2.2 x.2.1), [], [], []⟩
set_option maxHeartbeats 0 in
set_option maxRecDepth 100000 in
theorem rested_ok : ∀ x, restedS.pre x → FunOk Try.prog 56 (restedS.args x) (restedS.H x) (restedS.R x) := by
  rintro ⟨⟨hs, hl, hg, hf, hk⟩, n, m⟩ hx
  refine fun_of (T := []) (L := fun _ => none) (hs := fun _ => []) hmix .nil Try.func56 (by kernel_rfl) (by kernel_rfl) ?_
  refine Eq.mp (α :=
      let Z0 := (61 : FuncId); let Z1 := (62 : FuncId); True ∧ (Value.int IntKind.i64 (min hf (IntKind.wrap IntKind.i64 (n + IntKind.wrap IntKind.i64 (hg * m)))) = Value.int IntKind.i64 (restM (hs, hl, hg, hf, hk) m n) ∧ True) ∧ True ∧ (Value.int IntKind.i64 hs = Value.int IntKind.i64 hs ∧ Value.int IntKind.i64 hl = Value.int IntKind.i64 hl ∧ Value.int IntKind.i64 hg = Value.int IntKind.i64 hg ∧ Value.int IntKind.i64 hf = Value.int IntKind.i64 hf ∧ (hk = hk ∧ (Fn.func Z1 = Fn.func Z1 ∧ True ∧ True) ∧ Fn.func Z0 = Fn.func Z0 ∧ True ∧ True) ∧ True) ∧ (Value.int IntKind.i64 n = Value.int IntKind.i64 n ∧ True) ∧ True)
    (by kernel_rfl) ?_
  simp [restM]

theorem rested_sound : Sound Try.prog 56 restedS.con := FSpec.sound _ (enter_of Try.func56 (by kernel_rfl) (by kernel_rfl)) rested_ok
def enoughM (x : TrialT) (m : Int) : Bool := decide (stepM x (restM x.2.2.1 m x.2.2.2) ≥ 0)
def enoughS : FSpec UU where
  X := TrialT × Int
  pick := fun args H => match args with
    | [m, s, h, r] => match avInt m, avTrial H s h r with
      | some m, some x => some (x, m)
      | _, _ => none
    | _ => none
  args := fun x => [.i x.2, .ptr 3 0 0 0, .ptr 4 0 0 0, .ptr 6 0 0 0]
  H := fun x => hTrial x.1
  R := fun x => .val ⟨.b (enoughM x.1 x.2), [], [], []⟩
  pre := fun x => x.1.1.2.length = x.1.1.1.length ∧ x.1.1.1.length < 1000000 ∧ 0 ≤ x.1.2.1.2 ∧ x.1.2.1.2 < x.1.1.1.length
def Tenough : Tab UU := [(56, restedS.con), (118, doRS.con), (119, doFS.con)]
theorem Tenough_ok : Tenough.Sound Try.prog := .cons rested_sound (.cons doR_sound (.cons doF_sound .nil))
set_option maxHeartbeats 0 in
set_option maxRecDepth 100000 in
theorem enough_ok : ∀ x, enoughS.pre x → FunOk Try.prog 57 (enoughS.args x) (enoughS.H x) (enoughS.R x) := by
  rintro ⟨⟨⟨l, w⟩, ⟨c, k⟩, ⟨hs, hl, hg, hf, hk⟩, n⟩, m⟩ hx
  refine fun_of (T := Tenough) (L := fun _ => none) (hs := fun _ => []) hmix Tenough_ok Try.func57 (by kernel_rfl) (by kernel_rfl) ?_
  refine Eq.mp (α :=
      let Z0 := True ∧ True; let Z1 := hk = hk; let Z2 := (hf, hk); let Z3 := Value.int IntKind.i64 hs; let Z4 := Value.int IntKind.i64 hg; let Z5 := Value.int IntKind.i64 hf; let Z6 := Value.int IntKind.i64 k; let Z7 := Value.int IntKind.i64 n; let Z8 := Value.int IntKind.i64 hl; let Z9 := List.length w; let Z10 := List.length l; let Z11 := nat_lit 0 = nat_lit 0 ∧ nat_lit 0 = nat_lit 0; let Z12 := (0 : Int); let Z13 := (61 : FuncId); let Z14 := (62 : FuncId); let Z15 := (56 : FuncId); let Z16 := w = w; let Z17 := (128 : TypeId); let Z18 := (127 : TypeId); let Z19 := l = l; let Z20 := nat_lit 0 = nat_lit 0 ∧ Z11; let Z23 := Fn.func Z15; let Z28 := Z12 ≤ k; let Z32 := Z7 = Z7; let Z40 := (Z12, Z12); let Z43 := nat_lit 0 = nat_lit 0 ∧ nat_lit 0 = nat_lit 0 ∧ Z9 = Z9; let Z45 := nat_lit 0 = nat_lit 0 ∧ nat_lit 0 = nat_lit 0 ∧ Z10 = Z10; let Z52 := Z20 ∧ Z6 = Z6 ∧ True; let Z55 := (hs, hl, hg, Z2); let Z56 := restM Z55 m n; let Z58 := Value.int IntKind.i64 Z56; let Z75 := ((l, w), (c, k), Z55, n); let Z82 := c = c ∧ (Z18 = Z18 ∧ Z52) ∧ Z17 = Z17 ∧ Z52; let Z85 := Z3 = Z3 ∧ Z8 = Z8 ∧ Z4 = Z4 ∧ Z5 = Z5 ∧ (Z1 ∧ (Fn.func Z14 = Fn.func Z14 ∧ Z0) ∧ Fn.func Z13 = Fn.func Z13 ∧ Z0) ∧ True; True ∧ (Value.int IntKind.i64 m = Value.int IntKind.i64 m ∧ Z20 ∧ Z20 ∧ True) ∧ (Z85 ∧ (Z32 ∧ True) ∧ True) ∧ (c = true → (Z28 ∧ k < (↑Z10 : Int)) ∧ (Z52 ∧ Z85 ∧ Z58 = Z58 ∧ True) ∧ ((True ∧ True ∧ True ∧ True ∧ Z45 ∧ Z0) ∧ Z19 ∧ True) ∧ True ∧ (Value.bool (decide (restM Z55 (Prod.snd (Prod.snd (List.getD l (Int.toNat k) (Z12, Z40)))) Z56 ≥ Z12)) = Value.bool (enoughM Z75 m) ∧ True) ∧ True ∧ (True ∧ True ∧ True ∧ True ∧ Z45 ∧ Z43 ∧ True) ∧ Z19 ∧ Z16 ∧ (Z82 ∧ True) ∧ Z85 ∧ (Z32 ∧ True) ∧ ((Z23 = Z23 ∧ True ∧ Z20 ∧ Z20 ∧ True) ∧ True) ∧ True) ∧ (c = false → (Z28 ∧ k < (↑Z9 : Int)) ∧ (Z52 ∧ Z85 ∧ Z58 = Z58 ∧ True) ∧ ((True ∧ True ∧ True ∧ True ∧ True ∧ Z43 ∧ True) ∧ Z16 ∧ True) ∧ True ∧ (Value.bool (decide (furrowM Z55 (List.getD w (Int.toNat k) Z40) Z56 ≥ Z12)) = Value.bool (enoughM Z75 m) ∧ True) ∧ True ∧ (True ∧ True ∧ True ∧ True ∧ Z45 ∧ Z43 ∧ True) ∧ Z19 ∧ Z16 ∧ (Z82 ∧ True) ∧ Z85 ∧ (Z32 ∧ True) ∧ ((Z23 = Z23 ∧ True ∧ Z20 ∧ Z20 ∧ True) ∧ True) ∧ True))
    (by kernel_rfl) ?_
  simp only [eq_self, true_and, and_true, Int.toNat_natCast, Nat.zero_add, Nat.sub_zero, Value.int.injEq, Value.bool.injEq, decide_eq_true_eq, decide_eq_false_iff_not]
  obtain ⟨h1, h2, h3, h4⟩ := hx
  have h1' : w.length = l.length := h1
  refine ⟨fun h => ⟨⟨h3, h4⟩, ?_⟩, fun h => ⟨⟨h3, by rw [h1']; exact h4⟩, ?_⟩⟩
  · subst h; rfl
  · subst h; rfl

theorem enough_sound : Sound Try.prog 57 enoughS.con := FSpec.sound _ (enter_of Try.func57 (by kernel_rfl) (by kernel_rfl)) enough_ok
end AE.Team

namespace AE.Team
open Go AE Go.Proofs AE.Soil

theorem open_team {t : TeamT} {p : PlotT} {is : Bool} (h : (openErrM t p is == 0) = true) : teamM t = true := by
  unfold openErrM at h
  cases ht : teamM t with
  | true => rfl
  | false => rw [ht] at h; simp at h
theorem open_plot {t : TeamT} {p : PlotT} {is : Bool} (h : (openErrM t p is == 0) = true) : isPlotM p = true := by
  unfold openErrM at h
  cases hp : isPlotM p with
  | true => rfl
  | false => rw [hp] at h; simp at h
theorem team_full {t : TeamT} (h : teamM t = true) : t.2.2.2 ≤ 10000 := by
  unfold teamM inM at h
  simp only [Bool.and_eq_true, decide_eq_true_eq] at h
  omega
def suitM (x : KnownT ⊕ TrialT) (n : Int) : Bool := match x with
  | .inl k => safeM k.1.1 k.1.2 (withM k.2 n)
  | .inr x => enoughM x n
def firstM (p : Int → Bool) (to : Int) : Int × Bool := match (List.range (to + 1).toNat).find? fun (i : Nat) => p (i : Int) with
  | some i => ((i : Int), true)
  | none => (0, false)
theorem first_some {p : Int → Bool} {to : Int} {i : Nat} (hi : (i : Int) ≤ to) (h1 : p (i : Int) = true) (h0 : ∀ j : Nat, j < i → p (j : Int) = false) : firstM p to = ((i : Int), true) := by
  have : (List.range (to + 1).toNat).find? (fun (i : Nat) => p (i : Int)) = some i := by
    rw [List.find?_range_eq_some]
    refine ⟨h1, List.mem_range.2 (by omega), fun j hj => ?_⟩
    rw [h0 j hj]; rfl
  unfold firstM; rw [this]
theorem first_none {p : Int → Bool} {to : Int} (h0 : ∀ j : Nat, (j : Int) ≤ to → p (j : Int) = false) : firstM p to = (0, false) := by
  have : (List.range (to + 1).toNat).find? (fun (i : Nat) => p (i : Int)) = none := by
    rw [List.find?_range_eq_none]
    intro j hj
    rw [h0 j (by omega)]; rfl
  unfold firstM; rw [this]
def vKnown (k : KnownT) : AV := .agg [.ptr 0 0 0 0, .i k.2.1.1, .i k.2.1.2, .i k.2.2.1.1, .i k.2.2.1.2, .i k.2.2.2.1.1, .i k.2.2.2.1.2, .i k.2.2.2.2]
def suitV (x : KnownT ⊕ TrialT) : AV := match x with
  | .inl k => .fn (.func 47) [vKnown k] []
  | .inr _ => .fn (.func 57) [] [.ptr 3 0 0 0, .ptr 4 0 0 0, .ptr 6 0 0 0]
def suitH (x : KnownT ⊕ TrialT) : Heap UU := match x with
  | .inl k => hPl k.1.1 k.1.2
  | .inr x => hTrial x
def suitOk (x : KnownT ⊕ TrialT) : Prop := match x with
  | .inl k => k.1.2.length = k.1.1.length ∧ k.1.1.length < 1000000
  | .inr x => x.1.2.length = x.1.1.length ∧ x.1.1.length < 1000000 ∧ 0 ≤ x.2.1.2 ∧ x.2.1.2 < x.1.1.length
def firstS : FSpec UU where
  X := Int × (KnownT ⊕ TrialT)
  pick := fun args H => match args with
    | [_, to, .fn _ [.agg (a :: t)] []] => match avInt to, avPl H a, avTeam (.agg t) with
      | some to, some a, some t => some (to, .inl (a, t))
      | _, _, _ => none
    | [_, to, .fn _ [] [s, h, r]] => match avInt to, avTrial H s h r with
      | some to, some x => some (to, .inr x)
      | _, _ => none
    | _ => none
  args := fun x => [.i 0, .i x.1, suitV x.2]
  H := fun x => suitH x.2
  R := fun x => .val ⟨.tup [.i (firstM (fun n => suitM x.2 n) x.1).1, .b (firstM (fun n => suitM x.2 n) x.1).2], [], [], []⟩
  pre := fun x => suitOk x.2 ∧ x.1 < 1000000000000
def firstL (x : KnownT ⊕ TrialT) (to : Int) : LSpec UU where
  T := { i : Nat // (i : Int) ≤ 1000000000000 ∧ ∀ j : Nat, j < i → suitM x (j : Int) = false }
  fr := fun i => [(0, .i 0), (1, .i to), (2, suitV x), (6, .i 0), (7, .b false), (8, .i i.1)]
  H := fun _ => suitH x
  mu := fun i => (to + 1 - i.1).toNat
def Tfirst : Tab UU := [(47, knownS.con), (57, enoughS.con)]
theorem Tfirst_ok : Tfirst.Sound Try.prog := .cons known_sound (.cons enough_sound .nil)
set_option maxHeartbeats 0 in
set_option maxRecDepth 100000 in
theorem first_oka (to : Int) (k : KnownT) (hx : firstS.pre (to, .inl k)) : FunOk Try.prog 46 (firstS.args (to, .inl k)) (firstS.H (to, .inl k)) (firstS.R (to, .inl k)) := by
  obtain ⟨⟨l, w⟩, ⟨⟨s0, s1⟩, ⟨l0, l1⟩, ⟨g0, g1⟩, full⟩⟩ := k
  refine fun_of (T := Tfirst) (L := fun _ => some (.inv (firstL (.inl ((l, w), ((s0, s1), (l0, l1), (g0, g1), full))) to))) (hs := fun _ => []) hmix Tfirst_ok Try.func46 (by kernel_rfl) (by kernel_rfl) ?_
  refine Eq.mp (α :=
      let Z3 := Value.bool false; let Z4 := Value.int IntKind.i64 s0; let Z5 := Value.int IntKind.i64 l0; let Z6 := Value.int IntKind.i64 l1; let Z7 := Value.int IntKind.i64 g1; let Z8 := Value.int IntKind.i64 s1; let Z9 := Value.int IntKind.i64 g0; let Z10 := Value.int IntKind.i64 to; let Z11 := List.length w; let Z12 := Value.int IntKind.i64 full; let Z13 := List.length l; let Z17 := (1 : Int); let Z19 := w = w; let Z20 := l = l; let Z22 := nat_lit 0 = nat_lit 0 ∧ nat_lit 0 = nat_lit 0 ∧ nat_lit 0 = nat_lit 0; let Z24 := Fn.func (47 : FuncId); let Z27 := Value.int IntKind.i64 (0 : Int); let Z30 := Z9 = Z9; let Z31 := Z8 = Z8; let Z32 := Z6 = Z6; let Z33 := Z7 = Z7; let Z36 := Z12 = Z12; let Z37 := Z4 = Z4; let Z38 := Z5 = Z5; let Z50 := Z27 = Z27; let Z52 := ((s0, s1), (l0, l1), (g0, g1), full); let Z61 := Sum.inl ((l, w), Z52); let Z65 := True ∧ (True ∧ True ∧ True ∧ True ∧ (nat_lit 0 = nat_lit 0 ∧ nat_lit 0 = nat_lit 0 ∧ Z13 = Z13) ∧ (nat_lit 0 = nat_lit 0 ∧ nat_lit 0 = nat_lit 0 ∧ Z11 = Z11) ∧ True) ∧ Z20 ∧ Z19 ∧ True; let Z66 := firstM (fun (n : Int) => suitM Z61 n) to; let Z73 := Value.int IntKind.i64 (Prod.fst Z66); let Z81 : Type := { i : Nat // (↑i : Int) ≤ (1000000000000 : Int) ∧ ∀ (j : Nat), j < i → suitM Z61 (↑j : Int) = false }; let Z83 := fun (x : Z81) => (↑(Subtype.val x) : Int); let Z84 := fun (x : Z81) => Value.int IntKind.i64 (Z83 x); let Z87 := fun (x : Z81) => to + Z17 - Z83 x; let Z91 := fun (t : Z81) => decide (Z83 t ≤ to); (∃ (x : Z81), (Z50 ∧ Z10 = Z10 ∧ (Z24 = Z24 ∧ ((Z22 ∧ Z37 ∧ Z31 ∧ Z38 ∧ Z32 ∧ Z30 ∧ Z33 ∧ Z36 ∧ True) ∧ True) ∧ True) ∧ Z50 ∧ Z3 = Z3 ∧ Z27 = Z84 x ∧ True) ∧ Z65) ∧ ∀ (t : Z81), (Z91 t = true → (Z11 = Z13 ∧ Z13 < nat_lit 1000000) ∧ ((Z22 ∧ Z37 ∧ Z31 ∧ Z38 ∧ Z32 ∧ Z30 ∧ Z33 ∧ Z36 ∧ True) ∧ Z84 t = Z84 t ∧ True) ∧ ((True ∧ True ∧ True ∧ True ∧ (nat_lit 0 = nat_lit 0 ∧ nat_lit 0 = nat_lit 0 ∧ Z13 = Z13) ∧ (nat_lit 0 = nat_lit 0 ∧ nat_lit 0 = nat_lit 0 ∧ Z11 = Z11) ∧ True) ∧ Z20 ∧ Z19 ∧ True) ∧ (safeM l w (withM Z52 (Z83 t)) = true → True ∧ ((Z84 t = Z73 ∧ Value.bool (Prod.snd Z66) = Value.bool true ∧ True) ∧ True) ∧ Z65) ∧ (safeM l w (withM Z52 (Z83 t)) = false → True ∧ ∃ (x : Z81), ((Z50 ∧ Z10 = Z10 ∧ (Z24 = Z24 ∧ ((Z22 ∧ Z37 ∧ Z31 ∧ Z38 ∧ Z32 ∧ Z30 ∧ Z33 ∧ Z36 ∧ True) ∧ True) ∧ True) ∧ Z50 ∧ Z3 = Z3 ∧ Value.int IntKind.i64 (IntKind.wrap IntKind.i64 (Z83 t + Z17)) = Z84 x ∧ True) ∧ Z65) ∧ Int.toNat (Z87 x) < Int.toNat (Z87 t))) ∧ (Z91 t = false → True ∧ ((Z27 = Z73 ∧ Value.bool (Prod.snd Z66) = Z3 ∧ True) ∧ True) ∧ Z65))
    (by kernel_rfl) ?_
  simp only [eq_self, true_and, and_true, Int.toNat_natCast, Nat.zero_add, Nat.sub_zero, Value.int.injEq, Value.bool.injEq, decide_eq_true_eq, decide_eq_false_iff_not]
  have h9 : to < 1000000000000 := hx.2
  refine ⟨⟨⟨0, by decide, fun j hj => absurd hj (Nat.not_lt_zero j)⟩, rfl⟩, fun t => ⟨fun ht => ⟨hx.1, fun h => ?_, fun h => ?_⟩, fun ht => ?_⟩⟩
  · have e := first_some (p := fun n => suitM (Sum.inl ((l, w), ((s0, s1), (l0, l1), (g0, g1), full))) n) (to := to) ht h t.2.2
    rw [e]; exact ⟨rfl, rfl⟩
  · have h0 : (t.1 : Int) ≤ to := ht
    refine ⟨⟨t.1 + 1, by omega, below_succ t.2.2 h⟩, ?_, ?_⟩
    · show IntKind.i64.wrap ((t.1 : Int) + 1) = ((t.1 + 1 : Nat) : Int)
      rw [wrap_id (by omega) (by omega)]; rfl
    · show (to + 1 - ((t.1 + 1 : Nat) : Int)).toNat < (to + 1 - (t.1 : Int)).toNat
      omega
  · have h0 : ¬ (t.1 : Int) ≤ to := ht
    have e := first_none (p := fun n => suitM (Sum.inl ((l, w), ((s0, s1), (l0, l1), (g0, g1), full))) n) (to := to) (fun j hj => t.2.2 j (by omega))
    rw [e]; exact ⟨rfl, rfl⟩

set_option maxHeartbeats 0 in
set_option maxRecDepth 100000 in
theorem first_okb (to : Int) (x : TrialT) (hx : firstS.pre (to, .inr x)) : FunOk Try.prog 46 (firstS.args (to, .inr x)) (firstS.H (to, .inr x)) (firstS.R (to, .inr x)) := by
  obtain ⟨⟨l, w⟩, ⟨c, k⟩, ⟨hs, hl, hg, hf, hk⟩, n⟩ := x
  refine fun_of (T := Tfirst) (L := fun _ => some (.inv (firstL (.inr ((l, w), (c, k), (hs, hl, hg, hf, hk), n)) to))) (hs := fun _ => []) hmix Tfirst_ok Try.func46 (by kernel_rfl) (by kernel_rfl) ?_
  refine Eq.mp (α :=
      let Z0 := hk = hk; let Z1 := c = c; let Z2 := True ∧ True; let Z3 := Value.bool false; let Z4 := (hf, hk); let Z5 := (c, k); let Z6 := Value.int IntKind.i64 k; let Z7 := Value.int IntKind.i64 hl; let Z8 := Value.int IntKind.i64 hg; let Z9 := Value.int IntKind.i64 hf; let Z10 := List.length w; let Z11 := Value.int IntKind.i64 hs; let Z12 := Value.int IntKind.i64 to; let Z13 := Value.int IntKind.i64 n; let Z14 := List.length l; let Z15 := nat_lit 0 = nat_lit 0 ∧ nat_lit 0 = nat_lit 0; let Z16 := fun (i : Nat) => (↑i : Int); let Z17 := (0 : Int); let Z18 := (1 : Int); let Z19 := (57 : FuncId); let Z20 := (61 : FuncId); let Z21 := (62 : FuncId); let Z22 := (56 : FuncId); let Z23 := w = w; let Z24 := (127 : TypeId); let Z25 := l = l; let Z26 := (128 : TypeId); let Z27 := (l, w); let Z28 := nat_lit 0 = nat_lit 0 ∧ Z15; let Z29 := Fn.func Z19; let Z30 := Fn.func Z21; let Z31 := Fn.func Z20; let Z32 := Fn.func Z22; let Z33 := (hg, Z4); let Z34 := (1000000000000 : Int); let Z35 := Value.int IntKind.i64 Z17; let Z36 := Z3 = Z3; let Z37 := Z28 ∧ True; let Z38 := Z10 = Z10; let Z39 := Z11 = Z11; let Z40 := Z7 = Z7; let Z41 := Z13 = Z13; let Z42 := Z9 = Z9; let Z43 := Z12 = Z12; let Z44 := Z14 = Z14; let Z45 := Z8 = Z8; let Z46 := Z6 = Z6; let Z47 := Z46 ∧ True; let Z48 := Z41 ∧ True; let Z49 := nat_lit 0 = nat_lit 0 ∧ Z38; let Z50 := nat_lit 0 = nat_lit 0 ∧ Z44; let Z63 := Z28 ∧ Z37; let Z64 := Z35 = Z35; let Z66 := Z28 ∧ Z47; let Z90 := (Z27, Z5, (hs, hl, Z33), n); let Z91 := Sum.inr Z90; let Z94 := firstM (fun (n : Int) => suitM Z91 n) to; let Z104 := Value.int IntKind.i64 (Prod.fst Z94); let Z109 : Type := { i : Nat // Z16 i ≤ Z34 ∧ ∀ (j : Nat), j < i → suitM Z91 (Z16 j) = false }; let Z111 := fun (x : Z109) => (↑(Subtype.val x) : Int); let Z112 := fun (x : Z109) => Value.int IntKind.i64 (Z111 x); let Z114 := fun (x : Z109) => to + Z18 - Z111 x; let Z119 := fun (t : Z109) => decide (Z111 t ≤ to); let Z123 := True ∧ (True ∧ True ∧ True ∧ True ∧ (nat_lit 0 = nat_lit 0 ∧ Z50) ∧ (nat_lit 0 = nat_lit 0 ∧ Z49) ∧ True) ∧ Z25 ∧ Z23 ∧ ((Z1 ∧ (Z24 = Z24 ∧ Z66) ∧ Z26 = Z26 ∧ Z66) ∧ True) ∧ (Z39 ∧ Z40 ∧ Z45 ∧ Z42 ∧ (Z0 ∧ (Z30 = Z30 ∧ Z2) ∧ Z31 = Z31 ∧ Z2) ∧ True) ∧ Z48 ∧ ((Z32 = Z32 ∧ True ∧ Z63) ∧ True) ∧ True; (∃ (x : Z109), (Z64 ∧ Z43 ∧ (Z29 = Z29 ∧ True ∧ Z28 ∧ Z63) ∧ Z64 ∧ Z36 ∧ Z35 = Z112 x ∧ True) ∧ Z123) ∧ ∀ (t : Z109), (Z119 t = true → (Z10 = Z14 ∧ Z14 < nat_lit 1000000 ∧ Z17 ≤ k ∧ k < (↑Z14 : Int)) ∧ (Z112 t = Z112 t ∧ Z28 ∧ Z63) ∧ ((True ∧ True ∧ True ∧ True ∧ (nat_lit 0 = nat_lit 0 ∧ Z50) ∧ (nat_lit 0 = nat_lit 0 ∧ Z49) ∧ True) ∧ Z25 ∧ Z23 ∧ ((Z1 ∧ (Z24 = Z24 ∧ Z66) ∧ Z26 = Z26 ∧ Z66) ∧ True) ∧ (Z39 ∧ Z40 ∧ Z45 ∧ Z42 ∧ (Z0 ∧ (Z30 = Z30 ∧ Z2) ∧ Z31 = Z31 ∧ Z2) ∧ True) ∧ Z48 ∧ ((Z32 = Z32 ∧ True ∧ Z63) ∧ True) ∧ True) ∧ (enoughM Z90 (Z111 t) = true → True ∧ ((Z112 t = Z104 ∧ Value.bool (Prod.snd Z94) = Value.bool true ∧ True) ∧ True) ∧ Z123) ∧ (enoughM Z90 (Z111 t) = false → True ∧ ∃ (x : Z109), ((Z64 ∧ Z43 ∧ (Z29 = Z29 ∧ True ∧ Z28 ∧ Z63) ∧ Z64 ∧ Z36 ∧ Value.int IntKind.i64 (IntKind.wrap IntKind.i64 (Z111 t + Z18)) = Z112 x ∧ True) ∧ Z123) ∧ Int.toNat (Z114 x) < Int.toNat (Z114 t))) ∧ (Z119 t = false → True ∧ ((Z35 = Z104 ∧ Value.bool (Prod.snd Z94) = Z3 ∧ True) ∧ True) ∧ Z123))
    (by kernel_rfl) ?_
  simp only [eq_self, true_and, and_true, Int.toNat_natCast, Nat.zero_add, Nat.sub_zero, Value.int.injEq, Value.bool.injEq, decide_eq_true_eq, decide_eq_false_iff_not]
  have h9 : to < 1000000000000 := hx.2
  refine ⟨⟨⟨0, by decide, fun j hj => absurd hj (Nat.not_lt_zero j)⟩, rfl⟩, fun t => ⟨fun ht => ⟨hx.1, fun h => ?_, fun h => ?_⟩, fun ht => ?_⟩⟩
  · have e := first_some (p := fun y => suitM (Sum.inr ((l, w), (c, k), (hs, hl, hg, hf, hk), n)) y) (to := to) ht h t.2.2
    rw [e]; exact ⟨rfl, rfl⟩
  · have h0 : (t.1 : Int) ≤ to := ht
    refine ⟨⟨t.1 + 1, by omega, below_succ t.2.2 h⟩, ?_, ?_⟩
    · show IntKind.i64.wrap ((t.1 : Int) + 1) = ((t.1 + 1 : Nat) : Int)
      rw [wrap_id (by omega) (by omega)]; rfl
    · show (to + 1 - ((t.1 + 1 : Nat) : Int)).toNat < (to + 1 - (t.1 : Int)).toNat
      omega
  · have h0 : ¬ (t.1 : Int) ≤ to := ht
    have e := first_none (p := fun y => suitM (Sum.inr ((l, w), (c, k), (hs, hl, hg, hf, hk), n)) y) (to := to) (fun j hj => t.2.2 j (by omega))
    rw [e]; exact ⟨rfl, rfl⟩

theorem first_sound : Sound Try.prog 46 firstS.con := FSpec.sound _ (enter_of Try.func46 (by kernel_rfl) (by kernel_rfl)) fun x h => match x, h with
  | (to, .inl k), h => first_oka to k h
  | (to, .inr x), h => first_okb to x h
def leastFM (t : TeamT) (p : PlotT) : Int × Bool := firstM (fun n => suitM (.inl ((p.steps, worksM p), t)) n) t.2.2.2
def leastM (t : TeamT) (p : PlotT) : Int × Int := if openErrM t p true == 0 then ((leastFM t p).1, if (leastFM t p).2 then 0 else 11) else (0, openErrM t p true)
def leastS : FSpec UU := oneS fun x => .val ⟨.tup [.i (leastM x.1 x.2).1, .i (leastM x.1 x.2).2], [], [], []⟩
def Tleast : Tab UU := [(30, openTS.con), (46, firstS.con), (38, needS.con), (29, caughtS.con)]
theorem Tleast_ok : Tleast.Sound Try.prog := .cons openT_sound (.cons first_sound (.cons need_sound (.cons caught_sound .nil)))
theorem least_eq (t : TeamT) (p : PlotT) : leastM t p = if openErrM t p true == 0 then ((leastFM t p).1, if (leastFM t p).2 then 0 else 11) else (0, openErrM t p true) := rfl
set_option maxHeartbeats 0 in
set_option maxRecDepth 100000 in
theorem least_ok : ∀ x, leastS.pre x → FunOk Try.prog 19 (leastS.args x) (leastS.H x) (leastS.R x) := by
  rintro ⟨⟨⟨s0, s1⟩, ⟨l0, l1⟩, ⟨g0, g1⟩, full⟩, ⟨⟨long, rise, change, ps⟩, st⟩⟩ hx
  refine fun_ofG (T := Tleast) (L := fun _ => none) (hs := fun _ => []) (sp := fun _ => none) hmix Tleast_ok (tl := toldL 45) (toldL_ok toldLeast) (it := fun _ => none) (fun _ _ h => by cases h) Try.func19 (by kernel_rfl) (by kernel_rfl) ?_
  refine Eq.mp (α :=
      let Z0 := Value.bool true; let Z5 := Value.int IntKind.i64 long; let Z6 := Value.int IntKind.i64 l1; let Z7 := Value.int IntKind.i64 g1; let Z8 := List.length ps; let Z9 := Value.int IntKind.i64 s0; let Z10 := Value.int IntKind.i64 s1; let Z11 := Value.int IntKind.i64 l0; let Z12 := Value.int IntKind.i64 full; let Z13 := Value.int IntKind.i64 g0; let Z14 := Value.int IntKind.i64 rise; let Z15 := Value.int IntKind.i64 change; let Z16 := List.length st; let Z18 := (0 : Int); let Z20 := PlotT.mk (GroundT.mk long rise change ps) st; let Z22 := st = st; let Z23 := (110 : TypeId); let Z25 := nat_lit 0 = nat_lit 0 ∧ nat_lit 0 = nat_lit 0 ∧ nat_lit 0 = nat_lit 0; let Z26 : List Span := worksM Z20; let Z29 := Value.int IntKind.i64 Z18; let Z30 := Z16 < nat_lit 1000000; let Z31 := Value.int IntKind.i64 (11 : Int); let Z37 := Z10 = Z10; let Z38 := Z13 = Z13; let Z39 := Z12 = Z12; let Z40 := Z6 = Z6; let Z42 := Z11 = Z11; let Z43 := Z7 = Z7; let Z44 := Z9 = Z9; let Z47 := List.length Z26; let Z53 := nat_lit 0 = nat_lit 0 ∧ nat_lit 0 = nat_lit 0 ∧ Z16 = Z16; let Z54 := ps = ps ∧ Z22 ∧ True; let Z58 := Z29 = Z29; let Z59 := Z31 = Z31; let Z64 := ((s0, s1), (l0, l1), (g0, g1), full); let Z68 := openErrM Z64 Z20 true; let Z71 := Value.int IntKind.i64 Z68; let Z74 := Value.int IntKind.i64 (Prod.fst (leastM Z64 Z20)); let Z75 := Value.int IntKind.i64 (Prod.snd (leastM Z64 Z20)); let Z76 := Z68 == Z18; let Z84 := firstM (fun (n : Int) => suitM (Sum.inl ((st, Z26), Z64)) n) full; let Z86 := Prod.snd Z84; let Z87 := Value.bool Z86; let Z88 := Value.int IntKind.i64 (Prod.fst Z84); (Z8 < nat_lit 1000000 ∧ Z30) ∧ (Z76 = true → ((Z44 ∧ Z37 ∧ Z42 ∧ Z40 ∧ Z38 ∧ Z43 ∧ Z39 ∧ True) ∧ (Z5 = Z5 ∧ Z14 = Z14 ∧ Z15 = Z15 ∧ (nat_lit 0 = nat_lit 0 ∧ nat_lit 0 = nat_lit 0 ∧ Z8 = Z8) ∧ Z53 ∧ True) ∧ Z0 = Z0 ∧ True) ∧ Z54 ∧ ((Z47 = Z16 ∧ Z30) ∧ full < (1000000000000 : Int)) ∧ (Z58 ∧ Z39 ∧ (Fn.func (nat_lit 47) = Fn.func (47 : FuncId) ∧ ((Z25 ∧ Z44 ∧ Z37 ∧ Z42 ∧ Z40 ∧ Z38 ∧ Z43 ∧ Z39 ∧ True) ∧ True) ∧ True) ∧ True) ∧ ((True ∧ True ∧ True ∧ True ∧ Z53 ∧ (nat_lit 5 = nat_lit 5 ∧ nat_lit 0 = nat_lit 0 ∧ nat_lit 0 = nat_lit 0 ∧ List.length Z26 = Z47) ∧ True) ∧ Z22 ∧ Z26 = Z26 ∧ True) ∧ True ∧ (Z86 = true → (Z87 = Z87 ∧ Z59 ∧ True) ∧ True ∧ True ∧ (Value.nilIface = Value.nilIface ∧ Z25 ∧ True) ∧ ((Z58 ∧ True) ∧ True) ∧ True ∧ ((Z88 = Z74 ∧ Z29 = Z75 ∧ True) ∧ True) ∧ True ∧ Z54) ∧ (Z86 = false → (Z87 = Z87 ∧ Z59 ∧ True) ∧ True ∧ True ∧ ((Z23 = Z23 ∧ Z59 ∧ True) ∧ Z25 ∧ True) ∧ ((Z58 ∧ True) ∧ True) ∧ True ∧ ((Z88 = Z74 ∧ Z31 = Z75 ∧ True) ∧ True) ∧ True ∧ Z54)) ∧ (Z76 = false → ((Z44 ∧ Z37 ∧ Z42 ∧ Z40 ∧ Z38 ∧ Z43 ∧ Z39 ∧ True) ∧ (Z5 = Z5 ∧ Z14 = Z14 ∧ Z15 = Z15 ∧ (nat_lit 0 = nat_lit 0 ∧ nat_lit 0 = nat_lit 0 ∧ Z8 = Z8) ∧ Z53 ∧ True) ∧ Z0 = Z0 ∧ True) ∧ Z54 ∧ True ∧ ((Z23 = Z23 ∧ Z71 = Z71 ∧ True) ∧ Z25 ∧ True) ∧ ((Z58 ∧ True) ∧ True) ∧ True ∧ ((Z29 = Z74 ∧ Z71 = Z75 ∧ True) ∧ True) ∧ True ∧ Z54))
    (by kernel_rfl) ?_
  simp only [eq_self, true_and, and_true, Int.toNat_natCast, Nat.zero_add, Nat.sub_zero, Value.int.injEq, Value.bool.injEq, decide_eq_true_eq, decide_eq_false_iff_not]
  have hl : (worksM ⟨⟨long, rise, change, ps⟩, st⟩).length = st.length := works_len _
  obtain ⟨h1, h2⟩ := hx
  have h1' : ps.length < 1000000 := h1
  have h2' : st.length < 1000000 := h2
  have e := least_eq ((s0, s1), (l0, l1), (g0, g1), full) ⟨⟨long, rise, change, ps⟩, st⟩
  have hf : (openErrM ((s0, s1), (l0, l1), (g0, g1), full) ⟨⟨long, rise, change, ps⟩, st⟩ true == 0) = true → full < 1000000000000 := fun h => by
    have := team_full (open_team h)
    have h' : full ≤ 10000 := this
    omega
  have e1 : firstM (fun n => suitM (Sum.inl ((st, worksM ⟨⟨long, rise, change, ps⟩, st⟩), (s0, s1), (l0, l1), (g0, g1), full)) n) full = leastFM ((s0, s1), (l0, l1), (g0, g1), full) ⟨⟨long, rise, change, ps⟩, st⟩ := rfl
  rw [e1, e]
  clear e e1
  revert hf
  generalize openErrM ((s0, s1), (l0, l1), (g0, g1), full) ⟨⟨long, rise, change, ps⟩, st⟩ true = q
  generalize leastFM ((s0, s1), (l0, l1), (g0, g1), full) ⟨⟨long, rise, change, ps⟩, st⟩ = f1
  intro hf
  simp only [hl, h1', h2']
  obtain ⟨a, b⟩ := f1
  refine ⟨⟨trivial, trivial⟩, fun h => ⟨⟨⟨trivial, trivial⟩, hf h⟩, ?_⟩, fun h => ?_⟩
  · rw [if_pos h]
    cases b <;> simp
  · rw [if_neg (by rw [h]; decide)]
    simp

theorem least_sound : Sound Try.prog 19 leastS.con := FSpec.sound _ (enter_of Try.func19 (by kernel_rfl) (by kernel_rfl)) least_ok
end AE.Team

namespace AE.Team
open Go AE Go.Proofs AE.Soil

def noTeamS : FSpec UU where
  X := TeamT
  pick := fun args _ => match args with
    | [a] => avTeam a
    | _ => none
  args := fun (x : TeamT) => [vTeam x]
  H := fun _ => []
  R := fun (x : TeamT) => .val ⟨.b (!teamM x), [], [], []⟩
def TnoTeam : Tab UU := [(58, isTeamS.con)]
theorem TnoTeam_ok : TnoTeam.Sound Try.prog := .cons isTeam_sound .nil
set_option maxRecDepth 100000 in
theorem noTeam_ok : ∀ x, noTeamS.pre x → FunOk Try.prog 65 (noTeamS.args x) (noTeamS.H x) (noTeamS.R x) := by
  rintro ⟨⟨s0, s1⟩, ⟨l0, l1⟩, ⟨g0, g1⟩, full⟩ _
  refine fun_of (T := TnoTeam) (L := fun _ => none) (hs := fun _ => []) hmix TnoTeam_ok Try.func65 (by kernel_rfl) (by kernel_rfl) ?_
  refine Eq.mp (α :=
      let Z2 := ((s0, s1), (l0, l1), (g0, g1), full); True ∧ ((Value.int IntKind.i64 s0 = Value.int IntKind.i64 s0 ∧ Value.int IntKind.i64 s1 = Value.int IntKind.i64 s1 ∧ Value.int IntKind.i64 l0 = Value.int IntKind.i64 l0 ∧ Value.int IntKind.i64 l1 = Value.int IntKind.i64 l1 ∧ Value.int IntKind.i64 g0 = Value.int IntKind.i64 g0 ∧ Value.int IntKind.i64 g1 = Value.int IntKind.i64 g1 ∧ Value.int IntKind.i64 full = Value.int IntKind.i64 full ∧ True) ∧ True) ∧ True ∧ True ∧ ((Value.bool !teamM Z2) = Value.bool !teamM Z2 ∧ True) ∧ True ∧ True)
    (by kernel_rfl) ?_
  simp

theorem noTeam_sound : Sound Try.prog 65 noTeamS.con := FSpec.sound _ (enter_of Try.func65 (by kernel_rfl) (by kernel_rfl)) noTeam_ok
def dfT : TeamT := ((0, 0), (0, 0), (0, 0), 0)
def teamsS (R : List TeamT → AV) : FSpec UU where
  X := List TeamT
  pick := fun args H => match args with
    | [a, .fn _ _ []] => sliceAt .team H a
    | _ => none
  args := fun (l : List TeamT) => [.sl 0 0 0 l.length, .fn (.func 65) [] []]
  H := fun (l : List TeamT) => [.one (.ro .team l)]
  R := fun (l : List TeamT) => .val ⟨R l, [], [], []⟩
  pre := fun (l : List TeamT) => l.length < 1000000
def teamsL (l : List TeamT) : LSpec UU where
  T := { i : Nat // i ≤ l.length ∧ ∀ j, j < i → (fun t => !teamM t) (l.getD j dfT) = false }
  fr := fun t => [(0, .sl 0 0 0 l.length), (1, .fn (.func 65) [] []), (7, .i l.length), (8, .i t.1)]
  H := fun _ => [.one (.ro .team l)]
  mu := fun t => l.length - t.1
def idxTr : FSpec UU := teamsS fun l => .i (idxM (fun t => !teamM t) l)
def anyTr : FSpec UU := teamsS fun l => .b (l.any fun t => !teamM t)
def TidxT : Tab UU := [(65, noTeamS.con)]
theorem TidxT_ok : TidxT.Sound Try.prog := .cons noTeam_sound .nil
set_option maxRecDepth 100000 in
theorem idxT_ok : ∀ x, idxTr.pre x → FunOk Try.prog 79 (idxTr.args x) (idxTr.H x) (idxTr.R x) := by
  intro (l : List TeamT) hl
  refine fun_of (T := TidxT) (L := fun _ => some (.inv (teamsL l))) (hs := fun _ => []) hmix TidxT_ok Try.func79 (by kernel_rfl) (by kernel_rfl) ?_
  refine Eq.mp (α :=
      let Z0 := List.length l; let Z1 := (0 : Int); let Z2 := (1 : Int); let Z4 := (65 : FuncId); let Z9 := (↑Z0 : Int); let Z10 := True ∧ l = l ∧ True; let Z13 := Value.int IntKind.i64 Z9; let Z16 := (Z1, Z1); let Z17 := Value.int IntKind.i64 (idxM (fun (t : TeamT) => !teamM t) l); let Z21 := Fn.func Z4 = Fn.func Z4 ∧ True ∧ True; let Z27 : Type := { i : Nat // i ≤ Z0 ∧ ∀ (j : Nat), j < i → (!teamM (List.getD l j dfT)) = false }; let Z28 := fun (x : Z27) => Subtype.val x; let Z29 := fun (x : Z27) => (↑(Z28 x) : Int); let Z32 := fun (x : Z27) => Value.int IntKind.i64 (Z29 x); let Z33 := fun (x : Z27) => Z0 - Z28 x; let Z34 := fun (t : Z27) => nat_lit 0 + Int.toNat (Z29 t); let Z37 := fun (t : Z27) => decide (Z29 t < Z9); let Z38 := fun (t : Z27) => List.getD l (Z34 t) (Z16, Z16, Z16, Z1); let Z41 := fun (t : Z27) => Prod.fst (Z38 t); let Z42 := fun (t : Z27) => Prod.snd (Z38 t); let Z45 := fun (t : Z27) => Prod.snd (Z42 t); let Z46 := fun (t : Z27) => Prod.fst (Z42 t); let Z52 := fun (t : Z27) => Prod.fst (Z45 t); (∃ (x : Z27), ((nat_lit 0 = nat_lit 0 ∧ nat_lit 0 = nat_lit 0 ∧ Z0 = Z0) ∧ Z21 ∧ Z13 = Z13 ∧ Value.int IntKind.i64 Z1 = Z32 x ∧ True) ∧ Z10) ∧ ∀ (t : Z27), (Z37 t = true → (Z1 ≤ Z29 t ∧ Z29 t < Z9) ∧ Z34 t < List.length l ∧ True ∧ ((Value.int IntKind.i64 (Prod.fst (Z41 t)) = Value.int IntKind.i64 (Prod.fst (Z41 t)) ∧ Value.int IntKind.i64 (Prod.snd (Z41 t)) = Value.int IntKind.i64 (Prod.snd (Z41 t)) ∧ Value.int IntKind.i64 (Prod.fst (Z46 t)) = Value.int IntKind.i64 (Prod.fst (Z46 t)) ∧ Value.int IntKind.i64 (Prod.snd (Z46 t)) = Value.int IntKind.i64 (Prod.snd (Z46 t)) ∧ Value.int IntKind.i64 (Prod.fst (Z52 t)) = Value.int IntKind.i64 (Prod.fst (Z52 t)) ∧ Value.int IntKind.i64 (Prod.snd (Z52 t)) = Value.int IntKind.i64 (Prod.snd (Z52 t)) ∧ Value.int IntKind.i64 (Prod.snd (Z45 t)) = Value.int IntKind.i64 (Prod.snd (Z45 t)) ∧ True) ∧ True) ∧ True ∧ ((!teamM (Z38 t)) = true → True ∧ (Z32 t = Z17 ∧ True) ∧ Z10) ∧ ((!teamM (Z38 t)) = false → True ∧ ∃ (x : Z27), (((nat_lit 0 = nat_lit 0 ∧ nat_lit 0 = nat_lit 0 ∧ Z0 = Z0) ∧ Z21 ∧ Z13 = Z13 ∧ Value.int IntKind.i64 (IntKind.wrap IntKind.i64 (Z29 t + Z2)) = Z32 x ∧ True) ∧ Z10) ∧ Z33 x < Z33 t)) ∧ (Z37 t = false → True ∧ (Value.int IntKind.i64 (-Z2) = Z17 ∧ True) ∧ Z10))
    (by kernel_rfl) ?_
  simp only [eq_self, true_and, and_true, Int.toNat_natCast, Nat.zero_add, Nat.sub_zero, Value.int.injEq, Value.bool.injEq, decide_eq_true_eq, decide_eq_false_iff_not]
  have hl' : l.length < 1000000 := hl
  refine ⟨⟨⟨0, Nat.zero_le _, fun j hj => absurd hj (Nat.not_lt_zero j)⟩, rfl⟩, fun t => ⟨fun ht => ?_, fun ht => ?_⟩⟩
  · obtain ⟨i, hi, h0⟩ := t
    have hlt : i < l.length := by have h1 : (i : Int) < (l.length : Int) := ht; omega
    refine ⟨⟨Int.natCast_nonneg _, ht⟩, hlt, fun h1 => (idxM_some hlt dfT h1 h0).symm, fun h1 => ⟨⟨i + 1, hlt, below_succ h0 h1⟩, sucI i (by omega), dec1 hlt⟩⟩
  · obtain ⟨i, hi, h0⟩ := t
    have hie : i = l.length := by have h1 : ¬ (i : Int) < (l.length : Int) := ht; omega
    exact (idxM_none dfT (fun j hj => h0 j (by omega))).symm

theorem idxT_sound : Sound Try.prog 79 idxTr.con := FSpec.sound _ (enter_of Try.func79 (by kernel_rfl) (by kernel_rfl)) idxT_ok
def TidxT2 : Tab UU := [(79, idxTr.con)]
theorem TidxT2_ok : TidxT2.Sound Try.prog := .cons idxT_sound .nil
set_option maxRecDepth 100000 in
theorem anyT_ok : ∀ x, anyTr.pre x → FunOk Try.prog 64 (anyTr.args x) (anyTr.H x) (anyTr.R x) := by
  intro (l : List TeamT) hl
  refine fun_of (T := TidxT2) (L := fun _ => none) (hs := fun _ => []) hmix TidxT2_ok Try.func64 (by kernel_rfl) (by kernel_rfl) ?_
  refine Eq.mp (α :=
      let Z0 := List.length l; let Z1 := (65 : FuncId); let Z2 := l = l; Z0 < nat_lit 1000000 ∧ ((nat_lit 0 = nat_lit 0 ∧ nat_lit 0 = nat_lit 0 ∧ Z0 = Z0) ∧ (Fn.func Z1 = Fn.func Z1 ∧ True ∧ True) ∧ True) ∧ (Z2 ∧ True) ∧ True ∧ (Value.bool (decide (idxM (fun (t : TeamT) => !teamM t) l ≥ (0 : Int))) = Value.bool (List.any l fun (t : TeamT) => !teamM t) ∧ True) ∧ True ∧ Z2 ∧ True)
    (by kernel_rfl) ?_
  have e := idxM_any (fun t => !teamM t) l
  have hl' : l.length < 1000000 := hl
  rw [← e]
  simpa using hl'

theorem anyT_sound : Sound Try.prog 64 anyTr.con := FSpec.sound _ (enter_of Try.func64 (by kernel_rfl) (by kernel_rfl)) anyT_ok
def noPlotS : FSpec UU where
  X := PlotT
  pick := fun args H => match args with
    | [a] => avPlot H a
    | _ => none
  args := fun (x : PlotT) => [vPlot x 0 1]
  H := fun (x : PlotT) => hPlot x
  R := fun (x : PlotT) => .val ⟨.b (!isPlotM x), [], [], []⟩
  pre := fun (x : PlotT) => x.g.pits.length < 1000000 ∧ x.steps.length < 9223372036854775808
def TnoPlot : Tab UU := [(59, isPlotS.con)]
theorem TnoPlot_ok : TnoPlot.Sound Try.prog := .cons isPlot_sound .nil
set_option maxRecDepth 100000 in
theorem noPlot_ok : ∀ x, noPlotS.pre x → FunOk Try.prog 67 (noPlotS.args x) (noPlotS.H x) (noPlotS.R x) := by
  rintro ⟨⟨long, rise, change, ps⟩, st⟩ hx
  refine fun_of (T := TnoPlot) (L := fun _ => none) (hs := fun _ => []) hmix TnoPlot_ok Try.func67 (by kernel_rfl) (by kernel_rfl) ?_
  refine Eq.mp (α :=
      let Z0 := List.length ps; let Z1 := List.length st; let Z2 := PlotT.mk (GroundT.mk long rise change ps) st; let Z3 := ps = ps; let Z4 := st = st; (Z0 < nat_lit 1000000 ∧ Z1 < nat_lit 9223372036854775808) ∧ ((Value.int IntKind.i64 long = Value.int IntKind.i64 long ∧ Value.int IntKind.i64 rise = Value.int IntKind.i64 rise ∧ Value.int IntKind.i64 change = Value.int IntKind.i64 change ∧ (nat_lit 0 = nat_lit 0 ∧ nat_lit 0 = nat_lit 0 ∧ Z0 = Z0) ∧ (nat_lit 0 = nat_lit 0 ∧ nat_lit 0 = nat_lit 0 ∧ Z1 = Z1) ∧ True) ∧ True) ∧ (Z3 ∧ Z4 ∧ True) ∧ True ∧ ((Value.bool !isPlotM Z2) = Value.bool !isPlotM Z2 ∧ True) ∧ True ∧ Z3 ∧ Z4 ∧ True)
    (by kernel_rfl) ?_
  simp only [eq_self, true_and, and_true, Int.toNat_natCast, Nat.zero_add, Nat.sub_zero, Value.int.injEq, Value.bool.injEq, decide_eq_true_eq, decide_eq_false_iff_not]
  exact hx

theorem noPlot_sound : Sound Try.prog 67 noPlotS.con := FSpec.sound _ (enter_of Try.func67 (by kernel_rfl) (by kernel_rfl)) noPlot_ok
def elP (p : PlotT) (a b : Nat) : (Int × Int × Int) × Sd × Sd := ((p.g.long, p.g.rise, p.g.change), (2, a, p.g.pits.length), (2, b, p.steps.length))
abbrev PlotsT := PlotT × Option PlotT
def hPlots (b : Nat) (x : PlotsT) : Heap UU := match x.2 with
  | none => [.one (.ro .plotg [elP x.1 (b + 1) (b + 2)]), .one (.ro .pit x.1.g.pits), .one (.ro .tstep x.1.steps)]
  | some q => [.one (.ro .plotg [elP x.1 (b + 1) (b + 2), elP q (b + 3) (b + 4)]), .one (.ro .pit x.1.g.pits), .one (.ro .tstep x.1.steps), .one (.ro .pit q.g.pits), .one (.ro .tstep q.steps)]
def nPlots (x : PlotsT) : Nat := match x.2 with
  | none => 1
  | some _ => 2
def plotAt (H : Heap UU) (e : (Int × Int × Int) × Sd × Sd) : Option PlotT := match sliceAt .pit H (vSd e.2.1), sliceAt .tstep H (vSd e.2.2) with
  | some ps, some st => some ⟨⟨e.1.1, e.1.2.1, e.1.2.2, ps⟩, st⟩
  | _, _ => none
def avPlots (H : Heap UU) (a : AV) : Option PlotsT := match sliceAt .plotg H a with
  | some [e] => match plotAt H e with
    | some p => some (p, none)
    | none => none
  | some [e, f] => match plotAt H e, plotAt H f with
    | some p, some q => some (p, some q)
    | _, _ => none
  | _ => none
def okP (p : PlotT) : Prop := p.g.pits.length < 1000000 ∧ p.steps.length < 1000000
def okPlots (x : PlotsT) : Prop := match x.2 with
  | none => okP x.1
  | some q => okP x.1 ∧ okP q
def lPlots (x : PlotsT) : List PlotT := match x.2 with
  | none => [x.1]
  | some q => [x.1, q]
def plotsS (R : PlotsT → AV) : FSpec UU where
  X := PlotsT
  pick := fun args H => match args with
    | [a, .fn _ _ []] => avPlots H a
    | _ => none
  args := fun x => [.sl 0 0 0 (nPlots x), .fn (.func 67) [] []]
  H := fun x => hPlots 0 x
  R := fun x => .val ⟨R x, [], [], []⟩
  pre := fun x => okPlots x
def idxPr : FSpec UU := plotsS fun x => .i (idxM (fun t => !isPlotM t) (lPlots x))
def anyPr : FSpec UU := plotsS fun x => .b ((lPlots x).any fun t => !isPlotM t)
def TidxP : Tab UU := [(67, noPlotS.con)]
theorem TidxP_ok : TidxP.Sound Try.prog := .cons noPlot_sound .nil
set_option maxHeartbeats 0 in
set_option maxRecDepth 100000 in
theorem idxP_ok1 (p : PlotT) (hx : okP p) : FunOk Try.prog 80 (idxPr.args (p, none)) (idxPr.H (p, none)) (idxPr.R (p, none)) := by
  obtain ⟨⟨long, rise, change, ps⟩, st⟩ := p
  refine fun_of (T := TidxP) (L := fun _ => some (.unroll 2)) (hs := fun _ => []) hmix TidxP_ok Try.func80 (by kernel_rfl) (by kernel_rfl) ?_
  refine Eq.mp (α :=
      let Z4 := List.length ps; let Z5 := Value.int IntKind.i64 long; let Z6 := Value.int IntKind.i64 change; let Z7 := Value.int IntKind.i64 rise; let Z8 := List.length st; let Z10 := (↑(nat_lit 1) : Int); let Z11 := (0 : Int); let Z12 := (1 : Int); let Z19 := (nat_lit 0, nat_lit 0, nat_lit 0); let Z24 := Z7 = Z7; let Z25 := Z5 = Z5; let Z26 := Z6 = Z6; let Z34 := Value.int IntKind.i64 (-Z12); let Z35 := Z11 < Z10; let Z36 := nat_lit 0 = nat_lit 0 ∧ nat_lit 0 = nat_lit 0 ∧ Z4 = Z4; let Z37 := ps = ps ∧ st = st ∧ True; let Z38 := nat_lit 0 = nat_lit 0 ∧ nat_lit 0 = nat_lit 0 ∧ Z8 = Z8; let Z42 := IntKind.wrap IntKind.i64 (Z11 + Z12); let Z45 := Value.int IntKind.i64 (idxM (fun (t : PlotT) => !isPlotM t) [PlotT.mk (GroundT.mk long rise change ps) st]); let Z47 := Z42 < Z10; let Z53 := decide Z35; let Z59 := decide Z47; let Z62 := List.getD [((long, rise, change), (nat_lit 2, nat_lit 1, Z4), nat_lit 2, nat_lit 2, Z8)] (nat_lit 0) ((Z11, Z11, Z11), Z19, Z19); let Z63 := Prod.fst Z62; let Z64 := Prod.snd Z62; let Z65 := Prod.fst Z63; let Z66 := Prod.snd Z63; let Z70 := Value.int IntKind.i64 Z65; let Z72 := Value.int IntKind.i64 (Prod.snd Z66); let Z73 := Value.int IntKind.i64 (Prod.fst Z66); let Z74 := GroundT.mk Z65 (Prod.fst Z66) (Prod.snd Z66) ps; (Z53 = true → (Z11 ≤ Z11 ∧ Z35) ∧ nat_lit 0 < nat_lit 1 ∧ (Z4 < nat_lit 1000000 ∧ Z8 < nat_lit 9223372036854775808) ∧ ((Z70 = Z70 ∧ Z73 = Z73 ∧ Z72 = Z72 ∧ (nat_lit 0 = nat_lit 0 ∧ nat_lit 0 = nat_lit 0 ∧ Prod.snd (Prod.snd (Prod.fst Z64)) = Z4) ∧ (nat_lit 0 = nat_lit 0 ∧ nat_lit 0 = nat_lit 0 ∧ Prod.snd (Prod.snd (Prod.snd Z64)) = Z8) ∧ True) ∧ True) ∧ Z37 ∧ ((!isPlotM (PlotT.mk Z74 st)) = true → True ∧ (Value.int IntKind.i64 Z11 = Z45 ∧ True) ∧ True ∧ ((Z25 ∧ Z24 ∧ Z26 ∧ Z36 ∧ Z38 ∧ True) ∧ True) ∧ Z37) ∧ ((!isPlotM (PlotT.mk Z74 st)) = false → (Z59 = true → (Z11 ≤ Z42 ∧ Z47) ∧ nat_lit 1 < nat_lit 1 ∧ False) ∧ (Z59 = false → True ∧ (Z34 = Z45 ∧ True) ∧ True ∧ ((Z25 ∧ Z24 ∧ Z26 ∧ Z36 ∧ Z38 ∧ True) ∧ True) ∧ Z37))) ∧ (Z53 = false → True ∧ (Z34 = Z45 ∧ True) ∧ True ∧ ((Z25 ∧ Z24 ∧ Z26 ∧ Z36 ∧ Z38 ∧ True) ∧ True) ∧ Z37))
    (by kernel_rfl) ?_
  simp only [eq_self, true_and, and_true, Int.toNat_natCast, Nat.zero_add, Nat.sub_zero, Value.int.injEq, Value.bool.injEq, decide_eq_true_eq, decide_eq_false_iff_not]
  have w1 : IntKind.i64.wrap (1 : Int) = 1 := by decide
  have h1 : ps.length < 1000000 := hx.1
  have h2 : st.length < 1000000 := hx.2
  have h3 : st.length < 9223372036854775808 := by omega
  cases hq : isPlotM ⟨⟨long, rise, change, ps⟩, st⟩ <;> simp [idxM, List.findIdx?_cons, hq, w1, h1, h2, h3]

set_option maxHeartbeats 0 in
set_option maxRecDepth 100000 in
theorem idxP_ok2 (p q : PlotT) (hx : okP p) (hy : okP q) : FunOk Try.prog 80 (idxPr.args (p, some q)) (idxPr.H (p, some q)) (idxPr.R (p, some q)) := by
  obtain ⟨⟨long, rise, change, ps⟩, st⟩ := p
  obtain ⟨⟨long2, rise2, change2, ps2⟩, st2⟩ := q
  refine fun_of (T := TidxP) (L := fun _ => some (.unroll 3)) (hs := fun _ => []) hmix TidxP_ok Try.func80 (by kernel_rfl) (by kernel_rfl) ?_
  refine Eq.mp (α :=
      let Z0 : List PlotT := []; let Z1 := (nat_lit 0, nat_lit 0); let Z2 := (rise2, change2); let Z3 := (rise, change); let Z4 := GroundT.mk long rise change ps; let Z5 := GroundT.mk long2 rise2 change2 ps2; let Z6 := Value.int IntKind.i64 long; let Z7 := Value.int IntKind.i64 change; let Z8 := List.length ps; let Z9 := List.length ps2; let Z10 := Value.int IntKind.i64 rise; let Z11 := Value.int IntKind.i64 rise2; let Z12 := Value.int IntKind.i64 long2; let Z13 := Value.int IntKind.i64 change2; let Z14 := List.length st; let Z15 := List.length st2; let Z16 := fun (t : PlotT) => !isPlotM t; let Z17 := (↑(nat_lit 2) : Int); let Z18 := (0 : Int); let Z19 := (1 : Int); let Z20 : List ((Int × Int × Int) × Sd × Sd) := []; let Z21 := PlotT.mk Z4 st; let Z22 := PlotT.mk Z5 st2; let Z23 := ps = ps; let Z24 := ps2 = ps2; let Z25 := st = st; let Z26 := st2 = st2; let Z27 := (nat_lit 1, Z8); let Z28 := (nat_lit 3, Z9); let Z29 := (nat_lit 4, Z15); let Z30 := (nat_lit 2, Z14); let Z31 := (nat_lit 0, Z1); let Z32 := Z26 ∧ True; let Z33 := (long, Z3); let Z34 := (long2, Z2); let Z35 := -Z19; let Z36 := Z9 = Z9; let Z37 := Z8 = Z8; let Z38 := Z12 = Z12; let Z39 := Z10 = Z10; let Z40 := Z7 = Z7; let Z57 := Z18 < Z17; let Z68 := IntKind.wrap IntKind.i64 (Z18 + Z19); let Z74 := Z68 < Z17; let Z79 := Value.int IntKind.i64 (idxM (fun (t : PlotT) => Z16 t) (Z21 :: Z22 :: Z0)); let Z80 := IntKind.wrap IntKind.i64 (Z68 + Z19); let Z85 := Z80 < Z17; let Z86 := Value.int IntKind.i64 Z35 = Z79; let Z87 := ((Z18, Z18, Z18), Z31, Z31); let Z88 := decide Z57; let Z96 := decide Z74; let Z97 : List ((Int × Int × Int) × Sd × Sd) := (Z33, (nat_lit 2, Z27), nat_lit 2, Z30) :: (Z34, (nat_lit 2, Z28), nat_lit 2, Z29) :: Z20; let Z98 := decide Z85; let Z100 := List.getD Z97 (nat_lit 0) Z87; let Z101 := List.getD Z97 (nat_lit 1) Z87; let Z103 := True ∧ ((Z6 = Z6 ∧ Z39 ∧ Z40 ∧ (nat_lit 0 = nat_lit 0 ∧ nat_lit 0 = nat_lit 0 ∧ Z37) ∧ (nat_lit 0 = nat_lit 0 ∧ nat_lit 0 = nat_lit 0 ∧ Z14 = Z14) ∧ True) ∧ (Z38 ∧ Z11 = Z11 ∧ Z13 = Z13 ∧ (nat_lit 0 = nat_lit 0 ∧ nat_lit 0 = nat_lit 0 ∧ Z36) ∧ (nat_lit 0 = nat_lit 0 ∧ nat_lit 0 = nat_lit 0 ∧ Z15 = Z15) ∧ True) ∧ True) ∧ Z23 ∧ Z25 ∧ Z24 ∧ Z32; let Z104 := Prod.fst Z101; let Z105 := Prod.snd Z100; let Z106 := Prod.snd Z101; let Z107 := Prod.fst Z100; let Z108 := Prod.snd Z107; let Z109 := Prod.fst Z104; let Z110 := Prod.fst Z107; let Z111 := Prod.snd Z104; let Z116 := Value.int IntKind.i64 Z110; let Z117 := Value.int IntKind.i64 Z109; let Z118 := Value.int IntKind.i64 (Prod.fst Z111); let Z119 := Value.int IntKind.i64 (Prod.snd Z111); let Z120 := Value.int IntKind.i64 (Prod.snd Z108); let Z121 := Value.int IntKind.i64 (Prod.fst Z108); let Z124 := GroundT.mk Z110 (Prod.fst Z108) (Prod.snd Z108) ps; let Z125 := GroundT.mk Z109 (Prod.fst Z111) (Prod.snd Z111) ps2; (Z88 = true → (Z18 ≤ Z18 ∧ Z57) ∧ nat_lit 0 < nat_lit 2 ∧ (Z8 < nat_lit 1000000 ∧ Z14 < nat_lit 9223372036854775808) ∧ ((Z116 = Z116 ∧ Z121 = Z121 ∧ Z120 = Z120 ∧ (nat_lit 0 = nat_lit 0 ∧ nat_lit 0 = nat_lit 0 ∧ Prod.snd (Prod.snd (Prod.fst Z105)) = Z8) ∧ (nat_lit 0 = nat_lit 0 ∧ nat_lit 0 = nat_lit 0 ∧ Prod.snd (Prod.snd (Prod.snd Z105)) = Z14) ∧ True) ∧ True) ∧ (Z23 ∧ Z25 ∧ True) ∧ ((!isPlotM (PlotT.mk Z124 st)) = true → True ∧ (Value.int IntKind.i64 Z18 = Z79 ∧ True) ∧ Z103) ∧ ((!isPlotM (PlotT.mk Z124 st)) = false → (Z96 = true → (Z18 ≤ Z68 ∧ Z74) ∧ nat_lit 1 < nat_lit 2 ∧ (Z9 < nat_lit 1000000 ∧ Z15 < nat_lit 9223372036854775808) ∧ ((Z117 = Z117 ∧ Z118 = Z118 ∧ Z119 = Z119 ∧ (nat_lit 0 = nat_lit 0 ∧ nat_lit 0 = nat_lit 0 ∧ Prod.snd (Prod.snd (Prod.fst Z106)) = Z9) ∧ (nat_lit 0 = nat_lit 0 ∧ nat_lit 0 = nat_lit 0 ∧ Prod.snd (Prod.snd (Prod.snd Z106)) = Z15) ∧ True) ∧ True) ∧ (Z24 ∧ Z32) ∧ ((!isPlotM (PlotT.mk Z125 st2)) = true → True ∧ (Value.int IntKind.i64 Z68 = Z79 ∧ True) ∧ Z103) ∧ ((!isPlotM (PlotT.mk Z125 st2)) = false → (Z98 = true → (Z18 ≤ Z80 ∧ Z85) ∧ nat_lit 2 < nat_lit 2 ∧ False) ∧ (Z98 = false → True ∧ (Z86 ∧ True) ∧ Z103))) ∧ (Z96 = false → True ∧ (Z86 ∧ True) ∧ Z103))) ∧ (Z88 = false → True ∧ (Z86 ∧ True) ∧ Z103))
    (by kernel_rfl) ?_
  simp only [eq_self, true_and, and_true, Int.toNat_natCast, Nat.zero_add, Nat.sub_zero, Value.int.injEq, Value.bool.injEq, decide_eq_true_eq, decide_eq_false_iff_not]
  have w1 : IntKind.i64.wrap (1 : Int) = 1 := by decide
  have h1 : ps.length < 1000000 := hx.1
  have h2 : st.length < 1000000 := hx.2
  have h3 : st.length < 9223372036854775808 := by omega
  have w2 : IntKind.i64.wrap (2 : Int) = 2 := by decide
  have w3 : IntKind.i64.wrap ((1 : Int) + 1) = 2 := by decide
  have k1 : ps2.length < 1000000 := hy.1
  have k2 : st2.length < 1000000 := hy.2
  have k3 : st2.length < 9223372036854775808 := by omega
  cases hq : isPlotM ⟨⟨long, rise, change, ps⟩, st⟩ <;> cases hr : isPlotM ⟨⟨long2, rise2, change2, ps2⟩, st2⟩ <;> simp [idxM, List.findIdx?_cons, hq, hr, w1, w2, w3, h1, h2, h3, k1, k2, k3]

theorem idxP_sound : Sound Try.prog 80 idxPr.con := FSpec.sound _ (enter_of Try.func80 (by kernel_rfl) (by kernel_rfl)) fun x h => match x, h with
  | (p, none), h => idxP_ok1 p h
  | (p, some q), h => idxP_ok2 p q h.1 h.2
def TidxP2 : Tab UU := [(80, idxPr.con)]
theorem TidxP2_ok : TidxP2.Sound Try.prog := .cons idxP_sound .nil
set_option maxHeartbeats 0 in
set_option maxRecDepth 100000 in
theorem anyP_ok1 (p : PlotT) (hx : okP p) : FunOk Try.prog 66 (anyPr.args (p, none)) (anyPr.H (p, none)) (anyPr.R (p, none)) := by
  obtain ⟨⟨long, rise, change, ps⟩, st⟩ := p
  refine fun_of (T := TidxP2) (L := fun _ => none) (hs := fun _ => []) hmix TidxP2_ok Try.func66 (by kernel_rfl) (by kernel_rfl) ?_
  refine Eq.mp (α :=
      let Z0 := Value.int IntKind.i64 long; let Z1 := List.length ps; let Z2 := Value.int IntKind.i64 change; let Z3 := Value.int IntKind.i64 rise; let Z4 := List.length st; let Z5 := PlotT.mk (GroundT.mk long rise change ps) st; let Z6 := (67 : FuncId); let Z7 := ps = ps; let Z8 := st = st; (Z1 < nat_lit 1000000 ∧ Z4 < nat_lit 1000000) ∧ ((nat_lit 0 = nat_lit 0 ∧ nat_lit 0 = nat_lit 0 ∧ nat_lit 1 = nat_lit 1) ∧ (Fn.func Z6 = Fn.func Z6 ∧ True ∧ True) ∧ True) ∧ (((Z0 = Z0 ∧ Z3 = Z3 ∧ Z2 = Z2 ∧ (nat_lit 0 = nat_lit 0 ∧ nat_lit 0 = nat_lit 0 ∧ Z1 = Z1) ∧ (nat_lit 0 = nat_lit 0 ∧ nat_lit 0 = nat_lit 0 ∧ Z4 = Z4) ∧ True) ∧ True) ∧ Z7 ∧ Z8 ∧ True) ∧ True ∧ (Value.bool (decide (idxM (fun (t : PlotT) => !isPlotM t) [Z5] ≥ (0 : Int))) = Value.bool (!isPlotM Z5 || false) ∧ True) ∧ True ∧ ((Z0 = Z0 ∧ Z3 = Z3 ∧ Z2 = Z2 ∧ (nat_lit 0 = nat_lit 0 ∧ nat_lit 0 = nat_lit 0 ∧ Z1 = Z1) ∧ (nat_lit 0 = nat_lit 0 ∧ nat_lit 0 = nat_lit 0 ∧ Z4 = Z4) ∧ True) ∧ True) ∧ Z7 ∧ Z8 ∧ True)
    (by kernel_rfl) ?_
  simp only [eq_self, true_and, and_true, Int.toNat_natCast, Nat.zero_add, Nat.sub_zero, Value.int.injEq, Value.bool.injEq, decide_eq_true_eq, decide_eq_false_iff_not]
  have w1 : IntKind.i64.wrap (1 : Int) = 1 := by decide
  have h1 : ps.length < 1000000 := hx.1
  have h2 : st.length < 1000000 := hx.2
  have h3 : st.length < 9223372036854775808 := by omega
  cases hq : isPlotM ⟨⟨long, rise, change, ps⟩, st⟩ <;> simp [idxM, List.findIdx?_cons, hq, h1, h2]

set_option maxHeartbeats 0 in
set_option maxRecDepth 100000 in
theorem anyP_ok2 (p q : PlotT) (hx : okP p) (hy : okP q) : FunOk Try.prog 66 (anyPr.args (p, some q)) (anyPr.H (p, some q)) (anyPr.R (p, some q)) := by
  obtain ⟨⟨long, rise, change, ps⟩, st⟩ := p
  obtain ⟨⟨long2, rise2, change2, ps2⟩, st2⟩ := q
  refine fun_of (T := TidxP2) (L := fun _ => none) (hs := fun _ => []) hmix TidxP2_ok Try.func66 (by kernel_rfl) (by kernel_rfl) ?_
  refine Eq.mp (α :=
      let Z0 := Value.int IntKind.i64 rise; let Z1 := Value.int IntKind.i64 change; let Z2 := List.length ps; let Z3 := List.length ps2; let Z4 := Value.int IntKind.i64 long; let Z5 := Value.int IntKind.i64 rise2; let Z6 := Value.int IntKind.i64 long2; let Z7 := Value.int IntKind.i64 change2; let Z8 := List.length st; let Z9 := List.length st2; let Z10 := PlotT.mk (GroundT.mk long2 rise2 change2 ps2) st2; let Z11 := PlotT.mk (GroundT.mk long rise change ps) st; let Z12 := ps = ps; let Z13 := (67 : FuncId); let Z14 := ps2 = ps2; let Z15 := st = st; let Z16 := st2 = st2; ((Z2 < nat_lit 1000000 ∧ Z8 < nat_lit 1000000) ∧ Z3 < nat_lit 1000000 ∧ Z9 < nat_lit 1000000) ∧ ((nat_lit 0 = nat_lit 0 ∧ nat_lit 0 = nat_lit 0 ∧ nat_lit 2 = nat_lit 2) ∧ (Fn.func Z13 = Fn.func Z13 ∧ True ∧ True) ∧ True) ∧ (((Z4 = Z4 ∧ Z0 = Z0 ∧ Z1 = Z1 ∧ (nat_lit 0 = nat_lit 0 ∧ nat_lit 0 = nat_lit 0 ∧ Z2 = Z2) ∧ (nat_lit 0 = nat_lit 0 ∧ nat_lit 0 = nat_lit 0 ∧ Z8 = Z8) ∧ True) ∧ (Z6 = Z6 ∧ Z5 = Z5 ∧ Z7 = Z7 ∧ (nat_lit 0 = nat_lit 0 ∧ nat_lit 0 = nat_lit 0 ∧ Z3 = Z3) ∧ (nat_lit 0 = nat_lit 0 ∧ nat_lit 0 = nat_lit 0 ∧ Z9 = Z9) ∧ True) ∧ True) ∧ Z12 ∧ Z15 ∧ Z14 ∧ Z16 ∧ True) ∧ True ∧ (Value.bool (decide (idxM (fun (t : PlotT) => !isPlotM t) [Z11, Z10] ≥ (0 : Int))) = Value.bool (!isPlotM Z11 || (!isPlotM Z10 || false)) ∧ True) ∧ True ∧ ((Z4 = Z4 ∧ Z0 = Z0 ∧ Z1 = Z1 ∧ (nat_lit 0 = nat_lit 0 ∧ nat_lit 0 = nat_lit 0 ∧ Z2 = Z2) ∧ (nat_lit 0 = nat_lit 0 ∧ nat_lit 0 = nat_lit 0 ∧ Z8 = Z8) ∧ True) ∧ (Z6 = Z6 ∧ Z5 = Z5 ∧ Z7 = Z7 ∧ (nat_lit 0 = nat_lit 0 ∧ nat_lit 0 = nat_lit 0 ∧ Z3 = Z3) ∧ (nat_lit 0 = nat_lit 0 ∧ nat_lit 0 = nat_lit 0 ∧ Z9 = Z9) ∧ True) ∧ True) ∧ Z12 ∧ Z15 ∧ Z14 ∧ Z16 ∧ True)
    (by kernel_rfl) ?_
  simp only [eq_self, true_and, and_true, Int.toNat_natCast, Nat.zero_add, Nat.sub_zero, Value.int.injEq, Value.bool.injEq, decide_eq_true_eq, decide_eq_false_iff_not]
  have w1 : IntKind.i64.wrap (1 : Int) = 1 := by decide
  have h1 : ps.length < 1000000 := hx.1
  have h2 : st.length < 1000000 := hx.2
  have h3 : st.length < 9223372036854775808 := by omega
  have w2 : IntKind.i64.wrap (2 : Int) = 2 := by decide
  have w3 : IntKind.i64.wrap ((1 : Int) + 1) = 2 := by decide
  have k1 : ps2.length < 1000000 := hy.1
  have k2 : st2.length < 1000000 := hy.2
  have k3 : st2.length < 9223372036854775808 := by omega
  cases hq : isPlotM ⟨⟨long, rise, change, ps⟩, st⟩ <;> cases hr : isPlotM ⟨⟨long2, rise2, change2, ps2⟩, st2⟩ <;> simp [idxM, List.findIdx?_cons, hq, hr, h1, h2, k1, k2]

theorem anyP_sound : Sound Try.prog 66 anyPr.con := FSpec.sound _ (enter_of Try.func66 (by kernel_rfl) (by kernel_rfl)) fun x h => match x, h with
  | (p, none), h => anyP_ok1 p h
  | (p, some q), h => anyP_ok2 p q h.1 h.2
end AE.Team

namespace AE.Team
open Go AE Go.Proofs AE.Soil

def dfP : PlotT := ⟨⟨0, 0, 0, []⟩, []⟩
def rowM (ts : List TeamT) (p : PlotT) (i : Nat) (j : Nat) : List (Int × Int × Bool) := (List.range j).map fun (k : Nat) => ((i : Int), (k : Int), safeM p.steps (worksM p) (ts.getD k dfT))
def entsM (ts : List TeamT) (ps : List PlotT) (n j : Nat) : List (Int × Int × Bool) := ((List.range n).flatMap fun i => rowM ts (ps.getD i dfP) i ts.length) ++ rowM ts (ps.getD n dfP) n j
def matchErrM (ts : List TeamT) (ps : List PlotT) : Int := if decide ((ts.length : Int) ≤ 6) && decide ((ps.length : Int) ≤ 6) then (if (ts.any fun t => !teamM t) || (ps.any fun p => !isPlotM p) then 1 else if ps.all fun p => (hardOM p.g 0).2 == 0 then 0 else 10) else 3
theorem mErr_len {ts : List TeamT} {l : List PlotT} (h : ¬ (ts.length : Int) ≤ 6) : matchErrM ts l = 3 := by
  unfold matchErrM
  rw [decide_eq_false h]; rfl
theorem mErr_team {ts : List TeamT} {l : List PlotT} (h1 : (ts.length : Int) ≤ 6) (h2 : (l.length : Int) ≤ 6) (h : (!ts.any fun t => !teamM t) = false) : matchErrM ts l = 1 := by
  have h' : (ts.any fun t => !teamM t) = true := by simpa using h
  unfold matchErrM
  rw [decide_eq_true h1, decide_eq_true h2, h']; rfl
theorem mErr_plot {ts : List TeamT} {l : List PlotT} (h1 : (ts.length : Int) ≤ 6) (h2 : (l.length : Int) ≤ 6) (h : (l.any fun p => !isPlotM p) = true) : matchErrM ts l = 1 := by
  unfold matchErrM
  rw [decide_eq_true h1, decide_eq_true h2, h, Bool.or_true]; rfl
theorem mErr_clash {ts : List TeamT} {l : List PlotT} (h1 : (ts.length : Int) ≤ 6) (h2 : (l.length : Int) ≤ 6) (h : (!ts.any fun t => !teamM t) = true) (hp : (l.any fun p => !isPlotM p) = false) (hk : (l.all fun p => (hardOM p.g 0).2 == 0) = false) : matchErrM ts l = 10 := by
  have h' : (ts.any fun t => !teamM t) = false := by simpa using h
  unfold matchErrM
  rw [decide_eq_true h1, decide_eq_true h2, h', hp, hk]; rfl
theorem mErr_ok {ts : List TeamT} {l : List PlotT} (h1 : (ts.length : Int) ≤ 6) (h2 : (l.length : Int) ≤ 6) (h : (!ts.any fun t => !teamM t) = true) (hp : (l.any fun p => !isPlotM p) = false) (hk : (l.all fun p => (hardOM p.g 0).2 == 0) = true) : matchErrM ts l = 0 := by
  have h' : (ts.any fun t => !teamM t) = false := by simpa using h
  unfold matchErrM
  rw [decide_eq_true h1, decide_eq_true h2, h', hp, hk]; rfl
theorem row_suc (ts : List TeamT) (p : PlotT) (i j : Nat) : rowM ts p i (j + 1) = rowM ts p i j ++ [((i : Int), (j : Int), safeM p.steps (worksM p) (ts.getD j dfT))] := by
  unfold rowM
  rw [List.range_succ, List.map_append]; rfl
theorem ents_next (ts : List TeamT) (l : List PlotT) (i : Nat) : entsM ts l i ts.length = entsM ts l (i + 1) 0 := by
  unfold entsM
  rw [List.range_succ, List.flatMap_append, List.append_assoc]
  congr 1
  simp [rowM]
theorem ents_key {ts : List TeamT} {l : List PlotT} {i j : Nat} {e : Int × Int × Bool} (h : e ∈ entsM ts l i j) : ∃ a b : Nat, e.1 = (a : Int) ∧ e.2.1 = (b : Int) ∧ (a < i ∨ (a = i ∧ b < j)) := by
  unfold entsM at h
  rcases List.mem_append.1 h with h | h
  · obtain ⟨a, ha, hb⟩ := List.mem_flatMap.1 h
    unfold rowM at hb
    obtain ⟨b, _, rfl⟩ := List.mem_map.1 hb
    exact ⟨a, b, rfl, rfl, .inl (List.mem_range.1 ha)⟩
  · unfold rowM at h
    obtain ⟨b, hb, rfl⟩ := List.mem_map.1 h
    exact ⟨i, b, rfl, rfl, .inr ⟨rfl, List.mem_range.1 hb⟩⟩
theorem ents_put (ts : List TeamT) (l : List PlotT) (i j : Nat) : mputM UU MM.safe [(i : Int), (j : Int)] ((i : Int), (j : Int), safeM (l.getD i dfP).steps (worksM (l.getD i dfP)) (ts.getD j dfT)) (entsM ts l i j) = entsM ts l i (j + 1) := by
  have hno : mfind UU MM.safe [(i : Int), (j : Int)] (entsM ts l i j) = none := by
    refine List.find?_eq_none.2 fun e he => ?_
    obtain ⟨a, b, h1, h2, h3⟩ := ents_key he
    simp only [decide_eq_true_eq]
    intro hk
    have hk' : [(i : Int), (j : Int)] = [e.1, e.2.1] := hk
    rw [h1, h2] at hk'
    simp only [List.cons.injEq, and_true] at hk'
    omega
  unfold mputM
  rw [hno]
  show entsM ts l i j ++ _ = _
  unfold entsM
  rw [row_suc]
  exact List.append_assoc _ _ _
def cField (m : Nat) (nt np : Nat) : List AV := [.map m 0, .i nt, .i np]
def matchS : FSpec2 UU where
  X := List TeamT × PlotsT
  pick := fun args H => match args with
    | [a, b] => match sliceAt .team H a, avPlots H b with
      | some a, some b => some (a, b)
      | _, _ => none
    | _ => none
  args := fun x => [.sl 0 0 0 x.1.length, .sl 1 0 0 (nPlots x.2)]
  H := fun x => .one (.ro .team x.1) :: hPlots 1 x.2
  c := fun x => matchErrM x.1 (lPlots x.2) == 0
  R := fun x => match x.2.2 with
    | none => .val ⟨.ptr 5 0 0 0, [], [], [.map .safe (entsM x.1 (lPlots x.2) 1 0), .cells (cField 4 x.1.length 1) 94]⟩
    | some _ => .val ⟨.ptr 7 0 0 0, [], [], [.map .safe (entsM x.1 (lPlots x.2) 2 0), .cells (cField 6 x.1.length 2) 94]⟩
  R' := fun x => .panic (misV (matchErrM x.1 (lPlots x.2)))
  pre := fun x => x.1.length < 1000000 ∧ okPlots x.2
def matchFr (N nt np k : Nat) : Fr := [(0, .sl 0 0 0 nt), (1, .sl 1 0 0 np), (6, .ptr (N + 1) 0 0 0), (38, .sl 1 0 0 np), (39, .i np), (40, .i k)]
def matchHc (ts : List TeamT) (x : PlotsT) (N k j : Nat) : Heap UU := .one (.ro .team ts) :: hPlots 1 x ++ [.one (.map .safe (entsM ts (lPlots x) k j)), .one (.cells (cField N ts.length (nPlots x)) 94)]
def pAt (x : PlotsT) (b : Bool) : PlotT := match b with
  | true => (x.2).getD dfP
  | false => x.1
def matchIt (ts : List TeamT) (x : PlotsT) (N : Nat) (b : Bool) : LRule UU := .inv {
  T := { j : Nat // j ≤ ts.length }
  fr := fun j => matchFr N ts.length (nPlots x) (match b with | true => 1 | false => 0) ++ [(7, .i (match b with | true => 1 | false => 0)), (9, .ptr (N + 4) 0 0 0), (47, .sl 0 0 0 ts.length), (48, .i ts.length), (49, .i j.1)]
  H := fun j => matchHc ts x N (match b with | true => 1 | false => 0) j.1 ++ [.none, .one (.row .span (worksM (pAt x b)) 26), .one (.cells [.junk, .junk, .junk, .junk, .sl (match b with | true => 5 | false => 3) 0 0 (pAt x b).steps.length, .gs (N + 3) 0] 125)]
  mu := fun j => ts.length - j.1 }
def secondPlot (N : Nat) (H : Heap UU) : Bool := match blkAt H (N + 2) 0 with
  | some (.cells [_, _, _, .sl id _ _ _, _] _) => Nat.beq id 4
  | _ => false
def matchSel (ts : List TeamT) (x : PlotsT) (N : Nat) : LRule UU := .sel fun H => match secondPlot N H with
  | true => matchIt ts x N true
  | false => matchIt ts x N false
def Tmatch : Tab UU := [(38, needS.con), (64, anyTr.con), (66, anyPr.con), (60, lookS.con), (68, safeS.con)]
theorem Tmatch_ok : Tmatch.Sound Try.prog := .cons need_sound (.cons anyT_sound (.cons anyP_sound (.cons look_sound (.cons safe_sound .nil))))
theorem two_no {p q : PlotT} (h : (!(!isPlotM p || !isPlotM q)) = true) : (([p, q] : List PlotT).any fun p => !isPlotM p) = false := by
  simp only [List.any_cons, List.any_nil]
  revert h
  cases isPlotM p <;> cases isPlotM q <;> decide
theorem two_any {p q : PlotT} (h : (!(!isPlotM p || !isPlotM q)) = false) : (([p, q] : List PlotT).any fun p => !isPlotM p) = true := by
  simp only [List.any_cons, List.any_nil]
  revert h
  cases isPlotM p <;> cases isPlotM q <;> decide
theorem two_yes {p q : PlotT} (h : ((hardOM p.g 0).2 == 0) = true) (k : ((hardOM q.g 0).2 == 0) = true) : (([p, q] : List PlotT).all fun p => (hardOM p.g 0).2 == 0) = true := by
  simp only [List.all_cons, List.all_nil, h, k]; rfl
theorem two_bad {p q : PlotT} (k : ((hardOM q.g 0).2 == 0) = false) : (([p, q] : List PlotT).all fun p => (hardOM p.g 0).2 == 0) = false := by
  simp only [List.all_cons, List.all_nil, k, Bool.false_and, Bool.and_false]
theorem two_bad1 {p q : PlotT} (k : ((hardOM p.g 0).2 == 0) = false) : (([p, q] : List PlotT).all fun p => (hardOM p.g 0).2 == 0) = false := by
  simp only [List.all_cons, List.all_nil, k, Bool.false_and]
set_option maxHeartbeats 0 in
set_option maxRecDepth 100000 in
theorem match_ok1 (ts : List TeamT) (p : PlotT) (hx : matchS.pre (ts, p, none)) : (matchS.c (ts, p, none) = true → FunOk Try.prog 40 (matchS.args (ts, p, none)) (matchS.H (ts, p, none)) (matchS.R (ts, p, none))) ∧ (matchS.c (ts, p, none) = false → FunOk Try.prog 40 (matchS.args (ts, p, none)) (matchS.H (ts, p, none)) (matchS.R' (ts, p, none))) := by
  obtain ⟨⟨long, rise, change, ps⟩, st⟩ := p
  refine fun_of2 (T := Tmatch) (L := fun k => match Nat.beq k 6 with
    | true => some (.steps [(matchFr 4 ts.length 1 0, matchHc ts (⟨⟨long, rise, change, ps⟩, st⟩, none) 4 0 0), (matchFr 4 ts.length 1 1, matchHc ts (⟨⟨long, rise, change, ps⟩, st⟩, none) 4 1 0)])
    | false => some (matchIt ts (⟨⟨long, rise, change, ps⟩, st⟩, none) 4 false)) (hs := fun _ => []) (sp := fun _ => none) hmix Tmatch_ok (td := fun _ => none) (fun _ _ h => by cases h) (it := fun _ => none) (fun _ _ h => by cases h) Try.func40 (by kernel_rfl) (by kernel_rfl) ?_
  refine Eq.mp (α :=
      let Z0 := nat_lit 1 < nat_lit 1 ∧ False; let Z1 := (67 : FuncId); let Z2 := (26 : TypeId); let Z3 := (65 : FuncId); let Z4 := (110 : TypeId); let Z5 := nat_lit 0 = nat_lit 0 ∧ nat_lit 0 = nat_lit 0 ∧ nat_lit 0 = nat_lit 0; let Z6 := nat_lit 0 = nat_lit 0 ∧ nat_lit 0 = nat_lit 0 ∧ nat_lit 1 = nat_lit 1; let Z7 := Fn.func Z3; let Z8 := Fn.func Z1; let Z9 := fun (j : Nat) => j ≤ List.length ts; let Z10 := (nat_lit 0, nat_lit 0, nat_lit 0); let Z11 := ts = ts ∧ True; let Z12 := st = st ∧ True; let Z13 := Value.int IntKind.i64 (↑(nat_lit 1) : Int); let Z14 := Value.int IntKind.i64 (↑(nat_lit 0) : Int); let Z15 := (long, rise, change); let Z16 := List.length ps < nat_lit 1000000; let Z17 := List.length st < nat_lit 1000000; let Z18 := Value.int IntKind.i64 (0 : Int); let Z19 := List.length ts < nat_lit 1000000; let Z20 := Value.int IntKind.i64 (1 : Int); let Z21 := (↑(List.length ts) : Int); let Z22 := Value.int IntKind.i64 (3 : Int); let Z23 := Value.bool false = Value.bool false; let Z24 := Value.int IntKind.i64 (10 : Int); let Z25 := Z5 ∧ True; let Z26 := List.length ps = List.length ps; let Z27 := Value.int IntKind.i64 change = Value.int IntKind.i64 change; let Z28 := List.length ts = List.length ts; let Z29 := !isPlotM (PlotT.mk (GroundT.mk long rise change ps) st); let Z30 := List.length st = List.length st; let Z31 := Value.int IntKind.i64 long = Value.int IntKind.i64 long; let Z32 := Value.int IntKind.i64 rise = Value.int IntKind.i64 rise; let Z33 := List.any ts fun (t : TeamT) => !teamM t; let Z34 := Fn.func (nat_lit 65) = Z7; let Z35 := Fn.func (nat_lit 67) = Z8; let Z36 := List.length (worksM (PlotT.mk (GroundT.mk long rise change ps) st)); let Z37 := (nat_lit 2, nat_lit 2, List.length ps); let Z38 : Type := { j : Nat // Z9 j }; let Z39 := (nat_lit 2, nat_lit 3, List.length st); let Z40 := !Z33; let Z41 := ((2 : Nat), List.length ps); let Z42 := nat_lit 0 = nat_lit 0 ∧ Z26; let Z43 := Value.int IntKind.i64 Z21; let Z44 := ((3 : Nat), List.length st); let Z45 := nat_lit 0 = nat_lit 0 ∧ Z30; let Z46 := nat_lit 0 = nat_lit 0 ∧ Z28; let Z47 : List PlotT := [PlotT.mk (GroundT.mk long rise change ps) st]; let Z48 := fun (x : Z38) => Subtype.val x; let Z49 := ((0 : Int), (0 : Int)); let Z50 := Z29 || false; let Z51 := (↑(nat_lit 1) : Int) < (↑(nat_lit 1) : Int); let Z52 := (↑(nat_lit 0) : Int) < (↑(nat_lit 1) : Int); let Z53 := (0 : Int) ≤ (↑(nat_lit 0) : Int); let Z54 := ((0 : Nat), (0 : Nat)); let Z55 := (0 : Int) ≤ (↑(nat_lit 1) : Int); let Z56 := List.length (worksM (PlotT.mk (GroundT.mk long rise change ps) st)); let Z57 := (↑(nat_lit 1) : Int) ≤ (6 : Int); let Z58 := Z34 ∧ True ∧ True; let Z59 := Z35 ∧ True ∧ True; let Z60 := Z2 = Z2; let Z61 := !Z50; let Z62 := Z4 = Z4; let Z63 := nat_lit 0 = nat_lit 0 ∧ Z42; let Z64 := Z40 = true; let Z65 := Z40 = false; let Z66 := nat_lit 0 = nat_lit 0 ∧ Z45; let Z67 := ps = ps ∧ Z12; let Z68 := nat_lit 0 = nat_lit 0 ∧ Z46; let Z69 : List (Int × Int × Bool) := entsM ts Z47 (nat_lit 0) (nat_lit 0); let Z70 := matchErrM ts Z47; let Z71 : List (Int × Int × Bool) := entsM ts Z47 (nat_lit 1) (nat_lit 0); let Z72 := Z59 ∧ True; let Z73 := Z58 ∧ True; let Z74 := Value.bool Z61; let Z75 := Z36 = List.length st; let Z76 := Z66 ∧ True; let Z77 := fun (x : Z38) => (↑(Z48 x) : Int); let Z78 := (↑(nat_lit 0) : Int) + (1 : Int); let Z79 := Z61 = true; let Z80 := Z21 ≤ (6 : Int); let Z81 := Z61 = false; let Z82 := Z16 ∧ Z17; let Z83 := Z14 = Z14; let Z84 := Z13 = Z13; let Z85 := Z14 = Z18; let Z86 := Z18 = Z14; let Z87 := Z22 = Z22; let Z88 := Z20 = Z20; let Z89 := fun (t : Z38) => Int.toNat (Z77 t); let Z90 := Z18 = Z18; let Z91 := Value.int IntKind.i64 Z70; let Z92 := (Z10, Z10); let Z93 := Z66 ∧ nat_lit 0 = nat_lit 0 ∧ True; let Z94 := Z84 ∧ True; let Z95 := Z86 ∧ True; let Z96 := Z88 ∧ True; let Z97 := Z87 ∧ True; let Z98 := fun (x : Z38) => Value.int IntKind.i64 (Z77 x); let Z99 := worksM (PlotT.mk (GroundT.mk long rise change ps) st) = worksM (PlotT.mk (GroundT.mk long rise change ps) st); let Z100 := IntKind.wrap IntKind.i64 Z78; let Z101 := True ∧ Z93; let Z102 := (Z49, (0 : Int)); let Z103 := fun (t : Z38) => [Z77 t]; let Z104 := ((2 : Nat), Z41); let Z105 := ((2 : Nat), Z44); let Z106 := ((0 : Int), Z49); let Z107 := Z99 ∧ True; let Z108 := True ∧ Z101; let Z109 := ((0 : Nat), Z54); let Z110 := fun (x : Z38) => List.length ts - Z48 x; let Z111 := Z6 ∧ Z72; let Z112 := True ∧ Z108; let Z113 := Value.int IntKind.i64 Z100; let Z114 : List (Int × Int × Bool) := entsM ts Z47 (1 : Nat) (0 : Nat); let Z115 := Z43 = Z43; let Z116 := fun (t : Z38) => (0 : Int) ≤ Z77 t; let Z117 := True ∧ Z112; let Z118 := Z56 = Z36; let Z119 := Z75 ∧ Z17; let Z120 := [] = Z69; let Z121 := fun (t : Z38) => nat_lit 0 + Z89 t; let Z122 := [] = Z71; let Z123 := (Z37, Z39); let Z124 := fun (x : Z38) => entsM ts Z47 (nat_lit 0) (Z48 x); let Z125 := Z117 ∧ True; let Z126 := Z53 ∧ Z52; let Z127 := Z55 ∧ Z51; let Z128 := fun (t : Z38) => (0 : Int) :: Z103 t; let Z129 := Z20 = Z91; let Z130 := nat_lit 0 = nat_lit 0 ∧ Z118; let Z131 := Z22 = Z91; let Z132 := Z70 == (0 : Int); let Z133 := fun (t : Z38) => Z77 t < Z21; let Z134 := Z24 = Z91; let Z135 := fun (t : Z38) => Z77 t + (1 : Int); let Z136 := Z23 ∧ Z97; let Z137 := Z23 ∧ Z96; let Z138 := st = st ∧ Z107; let Z139 := fun (x : Z38) => Z18 = Z98 x; let Z140 := Z131 ∧ True; let Z141 := Z129 ∧ True; let Z142 := Z134 ∧ True; let Z143 := fun (t : Z38) => (0 : Nat) + Z89 t; let Z144 := Z68 ∧ Z73; let Z145 := nat_lit 0 = nat_lit 0 ∧ Z130; let Z146 := Z132 = true; let Z147 := fun (x : Z38) => Z139 x ∧ True; let Z148 := Z132 = false; let Z149 := Z63 ∧ Z76; let Z150 := fun (t : Z38) => entsM ts Z47 (0 : Nat) (Z48 t); let Z151 := fun (t : Z38) => IntKind.wrap IntKind.i64 (Z135 t); let Z152 := Z146 → False; let Z153 := Z148 → False; let Z154 := Z74 = Z74; let Z155 := Z127 ∧ Z0; let Z156 := Z113 = Z13; let Z157 := nat_lit 7 = nat_lit 7 ∧ Z145; let Z158 := fun (t : Z38) => Z121 t < List.length ts; let Z159 := Z60 ∧ Z99; let Z160 := Z157 ∧ True; let Z161 := Z156 ∧ True; let Z162 := fun (t : Z38) => List.getD (Z128 t) (nat_lit 1) (0 : Int); let Z163 := fun (t : Z38) => List.getD (Z128 t) (nat_lit 0) (0 : Int); let Z164 := fun (t : Z38) => Value.int IntKind.i64 (Z151 t); let Z165 := decide Z51; let Z166 := decide Z52; let Z167 := fun (x : Z38) => [] = Z124 x; let Z168 := Z84 ∧ Z95; let Z169 := (Z49, Z102); let Z170 := Z165 = true; let Z171 := Z166 = true; let Z172 := Z165 = false; let Z173 := Z166 = false; let Z174 := fun (t : Z38) => [Z162 t]; let Z175 := fun (t : Z38) => List.getD (Z128 t) (1 : Nat) (0 : Int); let Z176 := fun (t : Z38) => List.getD (Z128 t) (0 : Nat) (0 : Int); let Z177 := Z27 ∧ Z149; let Z178 := (Z15, Z123); let Z179 := Z62 ∧ Z141; let Z180 := Z62 ∧ Z140; let Z181 := Z115 ∧ Z94; let Z182 := Z114 = Z71; let Z183 := Z62 ∧ Z142; let Z184 := Z6 ∧ Z168; let Z185 := (Z104, Z105); let Z186 := True ∧ Z179; let Z187 := True ∧ Z180; let Z188 := True ∧ Z183; let Z189 := nat_lit 0 = nat_lit 0 ∧ Z181; let Z190 := (Z106, Z92); let Z191 := (Z109, Z109); let Z192 := Z189 ∧ True; let Z193 := fun (x t : Z38) => Z110 x < Z110 t; let Z194 := Z66 ∧ Z160; let Z195 := Z32 ∧ Z177; let Z196 := fun (t : Z38) => Z150 t = Z71; let Z197 := True ∧ Z194; let Z198 : List ((Int × Int × Int) × Sd × Sd) := [Z178]; let Z199 := Z154 ∧ Z96; let Z200 := Z84 ∧ Z161; let Z201 := True ∧ Z197; let Z202 := Z5 ∧ Z184; let Z203 := fun (t : Z38) => Z116 t ∧ Z133 t; let Z204 := True ∧ Z201; let Z205 := decide Z57; let Z206 := True ∧ Z204; let Z207 := fun (x : Z38) => Z115 ∧ Z147 x; let Z208 := fun (t x : Z38) => Z164 t = Z98 x; let Z209 := fun (t : Z38) => decide (Z133 t); let Z210 := Value.bool Z205; let Z211 := fun (t x : Z38) => Z208 t x ∧ True; let Z212 := (Z49, Z169); let Z213 := fun (t : Z38) => Z209 t = true; let Z214 := fun (t : Z38) => Z209 t = false; let Z215 := decide Z80; let Z216 := Z6 ∧ Z200; let Z217 := Z31 ∧ Z195; let Z218 := Z6 ∧ Z202; let Z219 := (Z15, Z185); let Z220 := Z159 ∧ Z125; let Z221 := Z217 ∧ True; let Z222 := True ∧ Z220; let Z223 := Z5 ∧ Z216; let Z224 := fun (x : Z38) => Z68 ∧ Z207 x; let Z225 := Z170 → Z155; let Z226 : List ((Int × Int × Int) × Sd × Sd) := [Z219]; let Z227 := Z120 ∧ Z192; let Z228 := Z122 ∧ Z192; let Z229 := fun (t : Z38) => Z163 t :: Z174 t; let Z230 := Z68 ∧ Z218; let Z231 := Z6 ∧ Z223; let Z232 := Z148 → Z187; let Z233 := Z148 → Z186; let Z234 := Z148 → Z188; let Z235 := (Z106, Z191); let Z236 := Z221 ∧ Z67; let Z237 := fun (x : Z38) => Z5 ∧ Z224 x; let Z238 := st = st ∧ Z227; let Z239 := st = st ∧ Z228; let Z240 := fun (t x : Z38) => Z115 ∧ Z211 t x; let Z241 := Z206 ∧ Z138; let Z242 := ps = ps ∧ Z238; let Z243 := ps = ps ∧ Z239; let Z244 := fun (t : Z38) => List.getD ts (Z121 t) Z212; let Z245 := Z68 ∧ Z231; let Z246 := Z182 ∧ Z192; let Z247 := fun (t : Z38) => List.getD ts (Z143 t) Z212; let Z248 := fun (t : Z38) => Prod.snd (Z244 t); let Z249 := fun (t : Z38) => Prod.fst (Z244 t); let Z250 := fun (x : Z38) => Z85 ∧ Z237 x; let Z251 := fun (t x : Z38) => Z68 ∧ Z240 t x; let Z252 := fun (t : Z38) => safeM st (worksM (PlotT.mk (GroundT.mk long rise change ps) st)) (Z244 t); let Z253 := fun (t : Z38) => Prod.snd (Z249 t); let Z254 := fun (t : Z38) => Prod.fst (Z249 t); let Z255 := fun (t : Z38) => Z196 t ∧ Z192; let Z256 := fun (t : Z38) => Value.bool (Z252 t); let Z257 := st = st ∧ Z246; let Z258 := fun (t : Z38) => AV.v (Z256 t); let Z259 := fun (t : Z38) => Prod.fst (Z248 t); let Z260 := fun (t : Z38) => Prod.snd (Z248 t); let Z261 := fun (t : Z38) => Value.int IntKind.i64 (Z254 t); let Z262 := fun (t : Z38) => Value.int IntKind.i64 (Z253 t); let Z263 := fun (t : Z38) => safeM st (worksM (PlotT.mk (GroundT.mk long rise change ps) st)) (Z247 t); let Z264 := fun (t : Z38) => Value.bool (Z263 t); let Z265 := List.getD Z198 (nat_lit 0) Z190; let Z266 := fun (t : Z38) => Prod.fst (Z259 t); let Z267 := fun (t : Z38) => Prod.snd (Z259 t); let Z268 := fun (t : Z38) => Z229 t = Z128 t; let Z269 := fun (t : Z38) => AV.v (Z264 t); let Z270 := fun (t x : Z38) => Z5 ∧ Z251 t x; let Z271 := fun (t : Z38) => Prod.snd (Z260 t); let Z272 := fun (t : Z38) => Prod.fst (Z260 t); let Z273 := fun (t : Z38) => st = st ∧ Z255 t; let Z274 := ps = ps ∧ Z257; let Z275 := fun (t : Z38) => Value.int IntKind.i64 (Z267 t); let Z276 := fun (t : Z38) => Value.int IntKind.i64 (Z266 t); let Z277 := fun (t : Z38) => Prod.snd (Z272 t); let Z278 := fun (t : Z38) => Prod.fst (Z272 t); let Z279 := Z152 ∧ Z233; let Z280 := Z152 ∧ Z232; let Z281 := Z152 ∧ Z234; let Z282 := fun (t : Z38) => Value.int IntKind.i64 (Z271 t); let Z283 := Z189 ∧ Z222; let Z284 := True ∧ Z280; let Z285 := True ∧ Z279; let Z286 := fun (t : Z38) => Value.int IntKind.i64 (Z277 t); let Z287 := fun (t : Z38) => Value.int IntKind.i64 (Z278 t); let Z288 := Prod.fst Z265; let Z289 := Prod.snd Z265; let Z290 := fun (t : Z38) => ps = ps ∧ Z273 t; let Z291 := Z210 = Z210; let Z292 := fun (x : Z38) => Z83 ∧ Z250 x; let Z293 := Prod.fst Z289; let Z294 := Prod.snd Z289; let Z295 := Prod.fst Z288; let Z296 := Prod.snd Z288; let Z297 := Prod.fst Z296; let Z298 := Prod.snd Z296; let Z299 := Value.int IntKind.i64 Z295; let Z300 := Prod.snd Z293; let Z301 := Prod.snd Z294; let Z302 := Value.int IntKind.i64 Z298; let Z303 := Value.int IntKind.i64 Z297; let Z304 := Prod.snd Z300; let Z305 := Prod.snd Z301; let Z306 := Z67 ∧ Z281; let Z307 := fun (t x : Z38) => Z90 ∧ Z270 t x; let Z308 := Z304 = List.length ps; let Z309 := Z305 = List.length st; let Z310 := nat_lit 0 = nat_lit 0 ∧ Z308; let Z311 := nat_lit 0 = nat_lit 0 ∧ Z309; let Z312 := fun (x : Z38) => Z84 ∧ Z292 x; let Z313 := Z291 ∧ Z97; let Z314 := nat_lit 0 = nat_lit 0 ∧ Z310; let Z315 := nat_lit 0 = nat_lit 0 ∧ Z311; let Z316 := Z315 ∧ True; let Z317 := Z137 ∧ Z285; let Z318 := fun (t : Z38) => (Z175 t, Z252 t); let Z319 := fun (x : Z38) => Z6 ∧ Z312 x; let Z320 := fun (t x : Z38) => Z83 ∧ Z307 t x; let Z321 := false = false → Z317; let Z322 := fun (x : Z38) => Z5 ∧ Z319 x; let Z323 := Z221 ∧ Z242; let Z324 := Z221 ∧ Z243; let Z325 := fun (x : Z38) => Z6 ∧ Z322 x; let Z326 := ts = ts ∧ Z323; let Z327 := ts = ts ∧ Z324; let Z328 := List.getD Z226 (0 : Nat) Z235; let Z329 := True ∧ Z326; let Z330 := True ∧ Z327; let Z331 := fun (t x : Z38) => Z84 ∧ Z320 t x; let Z332 := Z199 ∧ Z285; let Z333 := Prod.fst Z328; let Z334 := fun (t x : Z38) => Z6 ∧ Z331 t x; let Z335 := Z25 ∧ Z330; let Z336 := Z221 ∧ Z274; let Z337 := True ∧ Z335; let Z338 := Prod.fst Z333; let Z339 := Prod.snd Z333; let Z340 := fun (x : Z38) => Z68 ∧ Z325 x; let Z341 := Prod.snd Z339; let Z342 := Prod.fst Z339; let Z343 := fun (t : Z38) => Z221 ∧ Z290 t; let Z344 := fun (t x : Z38) => Z5 ∧ Z334 t x; let Z345 := ts = ts ∧ Z336; let Z346 := True ∧ Z345; let Z347 := Z81 → Z332; let Z348 := fun (t : Z38) => ts = ts ∧ Z343 t; let Z349 := fun (t : Z38) => (Z176 t, Z318 t); let Z350 := fun (t x : Z38) => Z6 ∧ Z344 t x; let Z351 := fun (t : Z38) => True ∧ Z348 t; let Z352 := Z25 ∧ Z346; let Z353 := True ∧ Z352; let Z354 := fun (t x : Z38) => Z68 ∧ Z350 t x; let Z355 := Z146 → Z337; let Z356 := fun (t : Z38) => Z262 t = Z262 t; let Z357 := fun (t : Z38) => Z261 t = Z261 t; let Z358 := fun (t : Z38) => Z269 t = Z258 t; let Z359 := fun (t : Z38) => Z275 t = Z275 t; let Z360 := fun (t : Z38) => Z276 t = Z276 t; let Z361 := Z146 → Z353; let Z362 := fun (t : Z38) => Z282 t = Z282 t; let Z363 := fun (t : Z38) => Z362 t ∧ True; let Z364 := fun (t : Z38) => Z287 t = Z287 t; let Z365 := fun (t : Z38) => Z286 t = Z286 t; let Z366 := Z355 ∧ Z153; let Z367 := Z230 ∧ Z329; let Z368 := Z299 = Z299; let Z369 := fun (t : Z38) => mputM UU MM.safe (Z128 t) (Z349 t) (Z150 t); let Z370 := Z302 = Z302; let Z371 := Z303 = Z303; let Z372 := Z361 ∧ Z153; let Z373 := Z314 ∧ Z316; let Z374 := Z173 → Z366; let Z375 := fun (t : Z38) => Z245 ∧ Z351 t; let Z376 := fun (t x : Z38) => Z369 t = Z124 x; let Z377 := Z172 → Z372; let Z378 := fun (t : Z38) => Z268 t ∧ Z358 t; let Z379 := GroundT.mk Z295 Z297 Z298 ps; let Z380 := Z225 ∧ Z377; let Z381 := hardOM Z379 (0 : Int); let Z382 := Prod.snd Z381; let Z383 := Z382 == (0 : Int); let Z384 := Z383 = true; let Z385 := Z383 = false; let Z386 := fun (t x : Z38) => Z376 t x ∧ Z283; let Z387 := fun (t x : Z38) => st = st ∧ Z386 t x; let Z388 := fun (t x : Z38) => ps = ps ∧ Z387 t x; let Z389 := fun (t : Z38) => Z365 t ∧ Z363 t; let Z390 := fun (t x : Z38) => Z221 ∧ Z388 t x; let Z391 := fun (t x : Z38) => ts = ts ∧ Z390 t x; let Z392 := fun (t x : Z38) => True ∧ Z391 t x; let Z393 := Z370 ∧ Z373; let Z394 := GroundT.mk Z338 Z342 Z341 ps; let Z395 := PlotT.mk Z394 st; let Z396 : List Span := worksM Z395; let Z397 := Z396 = worksM (PlotT.mk (GroundT.mk long rise change ps) st); let Z398 := Z60 ∧ Z397; let Z399 := Z398 ∧ Z125; let Z400 := True ∧ Z399; let Z401 := Z189 ∧ Z400; let Z402 := fun (t : Z38) => Z375 t ∧ Z380; let Z403 := fun (x : Z38) => Z167 x ∧ Z401; let Z404 := fun (x : Z38) => st = st ∧ Z403 x; let Z405 := fun (t x : Z38) => Z354 t x ∧ Z392 t x; let Z406 := fun (t : Z38) => Z364 t ∧ Z389 t; let Z407 := fun (x : Z38) => ps = ps ∧ Z404 x; let Z408 := fun (t : Z38) => Z214 t → Z402 t; let Z409 := fun (t x : Z38) => Z405 t x ∧ Z193 x t; let Z410 := fun (x : Z38) => Z221 ∧ Z407 x; let Z411 := fun (t : Z38) => ∃ (x : Z38), Z409 t x; let Z412 := fun (t : Z38) => True ∧ Z411 t; let Z413 := fun (x : Z38) => ts = ts ∧ Z410 x; let Z414 := fun (x : Z38) => True ∧ Z413 x; let Z415 := Z371 ∧ Z393; let Z416 := fun (t : Z38) => Z359 t ∧ Z406 t; let Z417 := fun (x : Z38) => Z340 x ∧ Z414 x; let Z418 := ∃ (x : Z38), Z417 x; let Z419 := Z368 ∧ Z415; let Z420 := Z419 ∧ True; let Z421 := fun (t : Z38) => Z378 t ∧ Z412 t; let Z422 := fun (t : Z38) => Z360 t ∧ Z416 t; let Z423 := Z420 ∧ Z306; let Z424 := fun (t : Z38) => Z241 ∧ Z421 t; let Z425 := fun (t : Z38) => Z356 t ∧ Z422 t; let Z426 := Z385 → Z423; let Z427 := fun (t : Z38) => Z357 t ∧ Z425 t; let Z428 := fun (t : Z38) => Z427 t ∧ True; let Z429 := fun (t : Z38) => Z5 ∧ Z428 t; let Z430 := fun (t : Z38) => Z429 t ∧ Z424 t; let Z431 := fun (t : Z38) => Z119 ∧ Z430 t; let Z432 := fun (t : Z38) => Z158 t ∧ Z431 t; let Z433 := fun (t : Z38) => Z203 t ∧ Z432 t; let Z434 := fun (t : Z38) => Z213 t → Z433 t; let Z435 := fun (t : Z38) => Z434 t ∧ Z408 t; let Z436 := ∀ (t : Z38), Z435 t; let Z437 := Z418 ∧ Z436; let Z438 := Z67 ∧ Z437; let Z439 := Z420 ∧ Z438; let Z440 := Z384 → Z439; let Z441 := Z440 ∧ Z426; let Z442 := Z82 ∧ Z441; let Z443 := nat_lit 0 < nat_lit 1 ∧ Z442; let Z444 := Z126 ∧ Z443; let Z445 := Z171 → Z444; let Z446 := Z445 ∧ Z374; let Z447 := Z367 ∧ Z446; let Z448 := True ∧ Z447; let Z449 := Z137 ∧ Z448; let Z450 := false = true → Z449; let Z451 := Z199 ∧ Z448; let Z452 := Z79 → Z451; let Z453 := Z450 ∧ Z321; let Z454 := True ∧ Z453; let Z455 := Z65 → Z454; let Z456 := Z452 ∧ Z347; let Z457 := True ∧ Z456; let Z458 := Z236 ∧ Z457; let Z459 := Z111 ∧ Z458; let Z460 := Z82 ∧ Z459; let Z461 := Z64 → Z460; let Z462 := Z461 ∧ Z455; let Z463 := Z11 ∧ Z462; (Z215 = true → True ∧ (Z205 = true → Z313 ∧ True ∧ Z19 ∧ Z144 ∧ Z463) ∧ (Z205 = false → Z313 ∧ Z284)) ∧ (Z215 = false → True ∧ (false = true → Z136 ∧ True ∧ Z19 ∧ Z144 ∧ Z463) ∧ (false = false → Z136 ∧ Z284)))
    (by kernel_rfl) ?_
  simp only [eq_self, true_and, and_true, Int.toNat_natCast, Nat.zero_add, Nat.sub_zero, Value.int.injEq, Value.bool.injEq, decide_eq_true_eq, decide_eq_false_iff_not]
  simp only [List.getD_cons_zero, List.getD_cons_succ, Bool.false_eq_true, false_implies, forall_const, and_true, true_and, Bool.or_false, Bool.not_not]
  have ht0 : ts.length < 1000000 := hx.1
  have h1 : ps.length < 1000000 := hx.2.1
  have h2 : st.length < 1000000 := hx.2.2
  have hw : (worksM ⟨⟨long, rise, change, ps⟩, st⟩).length = st.length := works_len _
  have hL : (([⟨⟨long, rise, change, ps⟩, st⟩] : List PlotT).length : Int) ≤ 6 := by show (1 : Int) ≤ 6; decide
  refine ⟨fun a1 => ⟨fun a2 => ⟨ht0, fun a3 => ⟨⟨h1, h2⟩, fun a4 => ⟨⟨rfl, rfl⟩, fun _ => ⟨⟨by decide, by decide⟩, by decide, ⟨h1, h2⟩, fun a5 => ⟨⟨⟨0, Nat.zero_le _⟩, ⟨rfl, rfl⟩, rfl⟩, fun t => ⟨fun ht => ?_, fun ht => ⟨⟨by decide, ?_⟩, fun h => absurd h (by decide), fun _ => ⟨fun _ => trivial, fun h => ?_⟩⟩⟩⟩, fun a5 => ?_⟩, fun h => absurd (by decide) h⟩, fun a4 => ?_⟩, fun a3 => ?_⟩, fun h => absurd (by decide) h⟩, fun a1 => ?_⟩
  · obtain ⟨j, hj⟩ := t
    have hlt : j < ts.length := by have h1 : (j : Int) < (ts.length : Int) := ht; omega
    exact ⟨⟨Int.natCast_nonneg _, ht⟩, hlt, ⟨hw, h2⟩, ⟨j + 1, hlt⟩, ⟨sucI j (by omega), ents_put ts [⟨⟨long, rise, change, ps⟩, st⟩] 0 j⟩, dec1 hlt⟩
  · obtain ⟨j, hj⟩ := t
    have hje : j = ts.length := by have h1 : ¬ (j : Int) < (ts.length : Int) := ht; omega
    subst hje
    exact ents_next ts [⟨⟨long, rise, change, ps⟩, st⟩] 0
  · have e := mErr_ok a1 hL a3 (l := [⟨⟨long, rise, change, ps⟩, st⟩]) (by rw [List.any_cons, a4]; rfl) (by rw [List.all_cons, a5]; rfl)
    rw [e] at h; exact absurd h (by decide)
  · have e := mErr_clash a1 hL a3 (l := [⟨⟨long, rise, change, ps⟩, st⟩]) (by rw [List.any_cons, a4]; rfl) (by rw [List.all_cons, a5]; rfl)
    rw [e]; exact ⟨fun h => absurd h (by decide), fun _ => rfl⟩
  · have e := mErr_plot a1 hL (l := [⟨⟨long, rise, change, ps⟩, st⟩]) (by rw [List.any_cons, a4]; rfl)
    rw [e]; exact ⟨fun h => absurd h (by decide), fun _ => rfl⟩
  · have e := mErr_team a1 hL (l := [⟨⟨long, rise, change, ps⟩, st⟩]) a3
    rw [e]; exact ⟨fun h => absurd h (by decide), fun _ => rfl⟩
  · have e := mErr_len a1 (l := [⟨⟨long, rise, change, ps⟩, st⟩])
    rw [e]; exact ⟨fun h => absurd h (by decide), fun _ => rfl⟩

set_option maxHeartbeats 0 in
set_option maxRecDepth 100000 in
theorem match_ok2 (ts : List TeamT) (p q : PlotT) (hx : matchS.pre (ts, p, some q)) : (matchS.c (ts, p, some q) = true → FunOk Try.prog 40 (matchS.args (ts, p, some q)) (matchS.H (ts, p, some q)) (matchS.R (ts, p, some q))) ∧ (matchS.c (ts, p, some q) = false → FunOk Try.prog 40 (matchS.args (ts, p, some q)) (matchS.H (ts, p, some q)) (matchS.R' (ts, p, some q))) := by
  obtain ⟨⟨long, rise, change, ps⟩, st⟩ := p
  obtain ⟨⟨long2, rise2, change2, ps2⟩, st2⟩ := q
  refine fun_of2 (T := Tmatch) (L := fun k => match Nat.beq k 6 with
    | true => some (.steps [(matchFr 6 ts.length 2 0, matchHc ts (⟨⟨long, rise, change, ps⟩, st⟩, some ⟨⟨long2, rise2, change2, ps2⟩, st2⟩) 6 0 0), (matchFr 6 ts.length 2 1, matchHc ts (⟨⟨long, rise, change, ps⟩, st⟩, some ⟨⟨long2, rise2, change2, ps2⟩, st2⟩) 6 1 0), (matchFr 6 ts.length 2 2, matchHc ts (⟨⟨long, rise, change, ps⟩, st⟩, some ⟨⟨long2, rise2, change2, ps2⟩, st2⟩) 6 2 0)])
    | false => some (matchSel ts (⟨⟨long, rise, change, ps⟩, st⟩, some ⟨⟨long2, rise2, change2, ps2⟩, st2⟩) 6)) (hs := fun _ => []) (sp := fun _ => none) hmix Tmatch_ok (td := fun _ => none) (fun _ _ h => by cases h) (it := fun _ => none) (fun _ _ h => by cases h) Try.func40 (by kernel_rfl) (by kernel_rfl) ?_
  refine Eq.mp (α :=
      let Z0 := nat_lit 2 < nat_lit 2 ∧ False; let Z1 := (26 : TypeId); let Z2 := (65 : FuncId); let Z3 := (67 : FuncId); let Z4 := (110 : TypeId); let Z5 := nat_lit 0 = nat_lit 0 ∧ nat_lit 0 = nat_lit 0 ∧ nat_lit 0 = nat_lit 0; let Z6 := nat_lit 0 = nat_lit 0 ∧ nat_lit 0 = nat_lit 0 ∧ nat_lit 2 = nat_lit 2; let Z7 := Fn.func Z2; let Z8 := Fn.func Z3; let Z9 := (nat_lit 0, nat_lit 0, nat_lit 0); let Z10 := fun (j : Nat) => j ≤ List.length ts; let Z11 := ts = ts ∧ True; let Z12 := st2 = st2 ∧ True; let Z13 := st = st ∧ True; let Z14 := Value.int IntKind.i64 (↑(nat_lit 2) : Int); let Z15 := (long, rise, change); let Z16 := Value.int IntKind.i64 (↑(nat_lit 1) : Int); let Z17 := Value.int IntKind.i64 (↑(nat_lit 0) : Int); let Z18 := (long2, rise2, change2); let Z19 := List.length ps2 < nat_lit 1000000; let Z20 := List.length ps < nat_lit 1000000; let Z21 := Value.int IntKind.i64 (1 : Int); let Z22 := List.length st < nat_lit 1000000; let Z23 := List.length ts < nat_lit 1000000; let Z24 := Value.int IntKind.i64 (0 : Int); let Z25 := (↑(List.length ts) : Int); let Z26 := Value.int IntKind.i64 (3 : Int); let Z27 := List.length st2 < nat_lit 1000000; let Z28 := Value.bool false = Value.bool false; let Z29 := Value.int IntKind.i64 (10 : Int); let Z30 := Z5 ∧ True; let Z31 := List.length ps = List.length ps; let Z32 := List.length ps2 = List.length ps2; let Z33 := List.length st2 = List.length st2; let Z34 := Value.int IntKind.i64 change = Value.int IntKind.i64 change; let Z35 := List.length ts = List.length ts; let Z36 := !isPlotM (PlotT.mk (GroundT.mk long rise change ps) st); let Z37 := List.length st = List.length st; let Z38 := Value.int IntKind.i64 long2 = Value.int IntKind.i64 long2; let Z39 := Value.int IntKind.i64 rise2 = Value.int IntKind.i64 rise2; let Z40 := Value.int IntKind.i64 change2 = Value.int IntKind.i64 change2; let Z41 := Value.int IntKind.i64 long = Value.int IntKind.i64 long; let Z42 := !isPlotM (PlotT.mk (GroundT.mk long2 rise2 change2 ps2) st2); let Z43 := Value.int IntKind.i64 rise = Value.int IntKind.i64 rise; let Z44 := List.any ts fun (t : TeamT) => !teamM t; let Z45 := Fn.func (nat_lit 65) = Z7; let Z46 := Fn.func (nat_lit 67) = Z8; let Z47 := List.length (worksM (PlotT.mk (GroundT.mk long rise change ps) st)); let Z48 := List.length (worksM (PlotT.mk (GroundT.mk long2 rise2 change2 ps2) st2)); let Z49 := (nat_lit 2, nat_lit 4, List.length ps2); let Z50 := (nat_lit 2, nat_lit 2, List.length ps); let Z51 : Type := { j : Nat // Z10 j }; let Z52 := (nat_lit 2, nat_lit 3, List.length st); let Z53 := (nat_lit 2, nat_lit 5, List.length st2); let Z54 := !Z44; let Z55 := Value.int IntKind.i64 Z25; let Z56 := nat_lit 0 = nat_lit 0 ∧ Z31; let Z57 := ((4 : Nat), List.length ps2); let Z58 := ((2 : Nat), List.length ps); let Z59 := nat_lit 0 = nat_lit 0 ∧ Z32; let Z60 := ((5 : Nat), List.length st2); let Z61 := ((3 : Nat), List.length st); let Z62 := nat_lit 0 = nat_lit 0 ∧ Z37; let Z63 : List PlotT := [PlotT.mk (GroundT.mk long2 rise2 change2 ps2) st2]; let Z64 := nat_lit 0 = nat_lit 0 ∧ Z33; let Z65 := nat_lit 0 = nat_lit 0 ∧ Z35; let Z66 := fun (x : Z51) => Subtype.val x; let Z67 := Z42 || false; let Z68 := ((0 : Int), (0 : Int)); let Z69 := (↑(nat_lit 0) : Int) < (↑(nat_lit 2) : Int); let Z70 := (↑(nat_lit 1) : Int) < (↑(nat_lit 2) : Int); let Z71 := (↑(nat_lit 2) : Int) < (↑(nat_lit 2) : Int); let Z72 := (↑(nat_lit 2) : Int) ≤ (6 : Int); let Z73 := (0 : Int) ≤ (↑(nat_lit 1) : Int); let Z74 := List.length (worksM (PlotT.mk (GroundT.mk long2 rise2 change2 ps2) st2)); let Z75 := (0 : Int) ≤ (↑(nat_lit 0) : Int); let Z76 := (0 : Int) ≤ (↑(nat_lit 2) : Int); let Z77 := ((0 : Nat), (0 : Nat)); let Z78 := List.length (worksM (PlotT.mk (GroundT.mk long rise change ps) st)); let Z79 := Z45 ∧ True ∧ True; let Z80 := Z46 ∧ True ∧ True; let Z81 := Z1 = Z1; let Z82 := Z4 = Z4; let Z83 := nat_lit 0 = nat_lit 0 ∧ Z59; let Z84 := Z54 = true; let Z85 := nat_lit 0 = nat_lit 0 ∧ Z56; let Z86 := Z54 = false; let Z87 := nat_lit 0 = nat_lit 0 ∧ Z65; let Z88 := ps = ps ∧ Z13; let Z89 := nat_lit 0 = nat_lit 0 ∧ Z62; let Z90 := nat_lit 0 = nat_lit 0 ∧ Z64; let Z91 := ps2 = ps2 ∧ Z12; let Z92 := Z80 ∧ True; let Z93 := Z79 ∧ True; let Z94 := Z47 = List.length st; let Z95 := Z89 ∧ True; let Z96 := Z48 = List.length st2; let Z97 := Z90 ∧ True; let Z98 := fun (x : Z51) => (↑(Z66 x) : Int); let Z99 := (↑(nat_lit 1) : Int) + (1 : Int); let Z100 := (↑(nat_lit 0) : Int) + (1 : Int); let Z101 := Z25 ≤ (6 : Int); let Z102 := Z19 ∧ Z27; let Z103 := Z20 ∧ Z22; let Z104 := Z17 = Z17; let Z105 := Z14 = Z14; let Z106 := Z16 = Z16; let Z107 := Z16 = Z21; let Z108 := Z24 = Z17; let Z109 := Z17 = Z24; let Z110 := Z24 = Z24; let Z111 := fun (t : Z51) => Int.toNat (Z98 t); let Z112 := Z21 = Z21; let Z113 := Z26 = Z26; let Z114 := (Z9, Z9); let Z115 := Z90 ∧ nat_lit 0 = nat_lit 0 ∧ True; let Z116 := Z89 ∧ nat_lit 0 = nat_lit 0 ∧ True; let Z117 := Z105 ∧ True; let Z118 := Z108 ∧ True; let Z119 := Z112 ∧ True; let Z120 := Z113 ∧ True; let Z121 := fun (x : Z51) => Value.int IntKind.i64 (Z98 x); let Z122 := worksM (PlotT.mk (GroundT.mk long rise change ps) st) = worksM (PlotT.mk (GroundT.mk long rise change ps) st); let Z123 := worksM (PlotT.mk (GroundT.mk long2 rise2 change2 ps2) st2) = worksM (PlotT.mk (GroundT.mk long2 rise2 change2 ps2) st2); let Z124 := IntKind.wrap IntKind.i64 Z99; let Z125 := (Z68, (0 : Int)); let Z126 := IntKind.wrap IntKind.i64 Z100; let Z127 := True ∧ Z115; let Z128 := True ∧ Z116; let Z129 : List PlotT := PlotT.mk (GroundT.mk long rise change ps) st :: Z63; let Z130 := fun (t : Z51) => [Z98 t]; let Z131 := ((2 : Nat), Z58); let Z132 := ((2 : Nat), Z57); let Z133 := ((2 : Nat), Z61); let Z134 := ((0 : Int), Z68); let Z135 := ((2 : Nat), Z60); let Z136 := st = st ∧ Z91; let Z137 := Z123 ∧ True; let Z138 := Z122 ∧ True; let Z139 := True ∧ Z127; let Z140 := True ∧ Z128; let Z141 := ((0 : Nat), Z77); let Z142 := Z36 || Z67; let Z143 := Z6 ∧ Z92; let Z144 := fun (x : Z51) => List.length ts - Z66 x; let Z145 : List (Int × Int × Bool) := entsM ts Z129 (nat_lit 0) (nat_lit 0); let Z146 : List (Int × Int × Bool) := entsM ts Z129 (nat_lit 2) (nat_lit 0); let Z147 := True ∧ Z139; let Z148 := matchErrM ts Z129; let Z149 := True ∧ Z140; let Z150 : List (Int × Int × Bool) := entsM ts Z129 (nat_lit 1) (nat_lit 0); let Z151 := Value.int IntKind.i64 Z126; let Z152 := Value.int IntKind.i64 Z124; let Z153 := !Z142; let Z154 := fun (t : Z51) => (0 : Int) ≤ Z98 t; let Z155 := Z55 = Z55; let Z156 := True ∧ Z149; let Z157 := True ∧ Z147; let Z158 := Z78 = Z47; let Z159 := Z96 ∧ Z27; let Z160 := Z74 = Z48; let Z161 := Z94 ∧ Z22; let Z162 := fun (t : Z51) => nat_lit 0 + Z111 t; let Z163 := (Z49, Z53); let Z164 := (Z50, Z52); let Z165 := Value.bool Z153; let Z166 := Z156 ∧ True; let Z167 := Z157 ∧ True; let Z168 := Z73 ∧ Z70; let Z169 := Z76 ∧ Z71; let Z170 := Z75 ∧ Z69; let Z171 := Value.int IntKind.i64 Z148; let Z172 := Z153 = true; let Z173 := Z153 = false; let Z174 := fun (t : Z51) => (1 : Int) :: Z130 t; let Z175 := fun (t : Z51) => (0 : Int) :: Z130 t; let Z176 := nat_lit 0 = nat_lit 0 ∧ Z158; let Z177 := nat_lit 0 = nat_lit 0 ∧ Z160; let Z178 := fun (t : Z51) => Z98 t < Z25; let Z179 := fun (t : Z51) => Z98 t + (1 : Int); let Z180 := ps = ps ∧ Z136; let Z181 := Z28 ∧ Z120; let Z182 := Z28 ∧ Z119; let Z183 := st = st ∧ Z138; let Z184 := st2 = st2 ∧ Z137; let Z185 := fun (x : Z51) => Z24 = Z121 x; let Z186 := fun (t : Z51) => (0 : Nat) + Z111 t; let Z187 := Z87 ∧ Z93; let Z188 := nat_lit 0 = nat_lit 0 ∧ Z176; let Z189 := nat_lit 0 = nat_lit 0 ∧ Z177; let Z190 := fun (x : Z51) => Z185 x ∧ True; let Z191 := Z83 ∧ Z97; let Z192 := Z85 ∧ Z95; let Z193 := fun (t : Z51) => IntKind.wrap IntKind.i64 (Z179 t); let Z194 := Z169 ∧ Z0; let Z195 := Z152 = Z14; let Z196 := nat_lit 9 = nat_lit 9 ∧ Z189; let Z197 := Z151 = Z16; let Z198 := nat_lit 9 = nat_lit 9 ∧ Z188; let Z199 : List (Int × Int × Bool) := entsM ts Z129 (2 : Nat) (0 : Nat); let Z200 : List (Int × Int × Bool) := entsM ts Z129 (1 : Nat) (0 : Nat); let Z201 := [] = Z145; let Z202 := [] = Z146; let Z203 := fun (t : Z51) => Z162 t < List.length ts; let Z204 := Z81 ∧ Z122; let Z205 := Z81 ∧ Z123; let Z206 := Z195 ∧ True; let Z207 := Z197 ∧ True; let Z208 := Z196 ∧ True; let Z209 := Z198 ∧ True; let Z210 := fun (t : Z51) => List.getD (Z174 t) (nat_lit 1) (0 : Int); let Z211 := fun (t : Z51) => List.getD (Z174 t) (nat_lit 0) (0 : Int); let Z212 := Z103 ∧ Z102; let Z213 := fun (t : Z51) => List.getD (Z175 t) (nat_lit 1) (0 : Int); let Z214 := fun (t : Z51) => List.getD (Z175 t) (nat_lit 0) (0 : Int); let Z215 := fun (x : Z51) => entsM ts Z129 (nat_lit 0) (Z66 x); let Z216 := fun (x : Z51) => entsM ts Z129 (nat_lit 1) (Z66 x); let Z217 := fun (t : Z51) => Value.int IntKind.i64 (Z193 t); let Z218 := decide Z69; let Z219 := decide Z70; let Z220 := decide Z71; let Z221 := Z21 = Z171; let Z222 := Z26 = Z171; let Z223 := Z148 == (0 : Int); let Z224 := Z29 = Z171; let Z225 := Z105 ∧ Z118; let Z226 := Z222 ∧ True; let Z227 := Z221 ∧ True; let Z228 := (Z68, Z125); let Z229 := Z224 ∧ True; let Z230 := Z220 = true; let Z231 := Z218 = true; let Z232 := Z219 = true; let Z233 := Z218 = false; let Z234 := Z220 = false; let Z235 := Z219 = false; let Z236 := fun (t : Z51) => [Z210 t]; let Z237 := fun (t : Z51) => [Z213 t]; let Z238 := Z223 = true; let Z239 := Z223 = false; let Z240 := fun (t : Z51) => List.getD (Z175 t) (1 : Nat) (0 : Int); let Z241 := fun (t : Z51) => List.getD (Z174 t) (0 : Nat) (0 : Int); let Z242 := fun (t : Z51) => List.getD (Z174 t) (1 : Nat) (0 : Int); let Z243 := fun (t : Z51) => List.getD (Z175 t) (0 : Nat) (0 : Int); let Z244 := fun (t : Z51) => entsM ts Z129 (0 : Nat) (Z66 t); let Z245 := fun (t : Z51) => entsM ts Z129 (1 : Nat) (Z66 t); let Z246 := Z34 ∧ Z192; let Z247 := Z40 ∧ Z191; let Z248 := Z238 → False; let Z249 := Z239 → False; let Z250 := (Z15, Z164); let Z251 := (Z18, Z163); let Z252 := Z155 ∧ Z117; let Z253 := Z6 ∧ Z225; let Z254 := (Z131, Z133); let Z255 := (Z132, Z135); let Z256 := fun (x : Z51) => [] = Z215 x; let Z257 := nat_lit 0 = nat_lit 0 ∧ Z252; let Z258 := (Z134, Z114); let Z259 := (Z141, Z141); let Z260 := Z257 ∧ True; let Z261 := fun (x t : Z51) => Z144 x < Z144 t; let Z262 := Z90 ∧ Z208; let Z263 := Z89 ∧ Z209; let Z264 := Z43 ∧ Z246; let Z265 := Z39 ∧ Z247; let Z266 := True ∧ Z263; let Z267 := True ∧ Z262; let Z268 : List ((Int × Int × Int) × Sd × Sd) := [Z251]; let Z269 := Z105 ∧ Z207; let Z270 := Z105 ∧ Z206; let Z271 := Z82 ∧ Z227; let Z272 := Z82 ∧ Z226; let Z273 := True ∧ Z266; let Z274 := True ∧ Z267; let Z275 := Z82 ∧ Z229; let Z276 := Z5 ∧ Z253; let Z277 := fun (t : Z51) => Z154 t ∧ Z178 t; let Z278 := Z165 = Z165; let Z279 := True ∧ Z271; let Z280 := True ∧ Z272; let Z281 := True ∧ Z274; let Z282 := True ∧ Z273; let Z283 := True ∧ Z275; let Z284 := True ∧ Z282; let Z285 := True ∧ Z281; let Z286 := fun (x : Z51) => Z155 ∧ Z190 x; let Z287 := fun (t x : Z51) => Z217 t = Z121 x; let Z288 := fun (t : Z51) => decide (Z178 t); let Z289 := fun (t x : Z51) => Z287 t x ∧ True; let Z290 := (Z68, Z228); let Z291 := fun (t : Z51) => Z288 t = true; let Z292 := fun (t : Z51) => Z288 t = false; let Z293 := decide Z72; let Z294 := Z6 ∧ Z270; let Z295 := Z6 ∧ Z269; let Z296 := Z41 ∧ Z264; let Z297 := Z38 ∧ Z265; let Z298 := Z6 ∧ Z276; let Z299 := (Z15, Z254); let Z300 := (Z18, Z255); let Z301 := Z204 ∧ Z166; let Z302 := Z205 ∧ Z167; let Z303 := Z199 = Z146; let Z304 := Z200 = Z146; let Z305 := Value.bool Z293; let Z306 := Z297 ∧ True; let Z307 := True ∧ Z301; let Z308 := True ∧ Z302; let Z309 := decide Z101; let Z310 := fun (t : Z51) => Z245 t = Z146; let Z311 := fun (t : Z51) => Z244 t = Z150; let Z312 := Z5 ∧ Z294; let Z313 := Z5 ∧ Z295; let Z314 := fun (x : Z51) => Z87 ∧ Z286 x; let Z315 := Z230 → Z194; let Z316 : List ((Int × Int × Int) × Sd × Sd) := [Z300]; let Z317 := fun (x : Z51) => Z200 = Z216 x; let Z318 := Z278 ∧ Z119; let Z319 := fun (t : Z51) => Z214 t :: Z237 t; let Z320 := fun (t : Z51) => Z211 t :: Z236 t; let Z321 := Z87 ∧ Z298; let Z322 := Z6 ∧ Z313; let Z323 := Z6 ∧ Z312; let Z324 := (Z134, Z259); let Z325 := fun (x : Z51) => Z5 ∧ Z314 x; let Z326 := Z201 ∧ Z260; let Z327 := fun (t x : Z51) => Z155 ∧ Z289 t x; let Z328 := Z202 ∧ Z260; let Z329 := Z285 ∧ Z184; let Z330 := Z284 ∧ Z183; let Z331 := fun (t : Z51) => List.getD ts (Z162 t) Z290; let Z332 := st2 = st2 ∧ Z326; let Z333 := st2 = st2 ∧ Z328; let Z334 := Z87 ∧ Z323; let Z335 := Z87 ∧ Z322; let Z336 := fun (t : Z51) => List.getD ts (Z186 t) Z290; let Z337 := Z239 → Z279; let Z338 := Z239 → Z280; let Z339 := Z239 → Z283; let Z340 := ps2 = ps2 ∧ Z332; let Z341 := ps2 = ps2 ∧ Z333; let Z342 := fun (t : Z51) => Prod.fst (Z331 t); let Z343 := fun (t : Z51) => Prod.snd (Z331 t); let Z344 := fun (x : Z51) => Z107 ∧ Z325 x; let Z345 := fun (x : Z51) => Z109 ∧ Z325 x; let Z346 := fun (t x : Z51) => Z87 ∧ Z327 t x; let Z347 := fun (t : Z51) => safeM st2 (worksM (PlotT.mk (GroundT.mk long2 rise2 change2 ps2) st2)) (Z331 t); let Z348 := fun (t : Z51) => safeM st (worksM (PlotT.mk (GroundT.mk long rise change ps) st)) (Z331 t); let Z349 : List ((Int × Int × Int) × Sd × Sd) := Z250 :: Z268; let Z350 := fun (t : Z51) => Prod.fst (Z342 t); let Z351 := fun (t : Z51) => Prod.snd (Z342 t); let Z352 := fun (t : Z51) => Value.bool (Z347 t); let Z353 := fun (t : Z51) => Value.bool (Z348 t); let Z354 := fun (t : Z51) => AV.v (Z352 t); let Z355 := fun (t : Z51) => AV.v (Z353 t); let Z356 := fun (t : Z51) => Prod.fst (Z343 t); let Z357 := fun (t : Z51) => Prod.snd (Z343 t); let Z358 := fun (t : Z51) => Value.int IntKind.i64 (Z351 t); let Z359 := fun (t : Z51) => Value.int IntKind.i64 (Z350 t); let Z360 := fun (t : Z51) => safeM st2 (worksM (PlotT.mk (GroundT.mk long2 rise2 change2 ps2) st2)) (Z336 t); let Z361 := fun (t : Z51) => safeM st (worksM (PlotT.mk (GroundT.mk long rise change ps) st)) (Z336 t); let Z362 := st = st ∧ Z340; let Z363 := st = st ∧ Z341; let Z364 := fun (t : Z51) => Value.bool (Z360 t); let Z365 := fun (t : Z51) => Value.bool (Z361 t); let Z366 := fun (t : Z51) => Prod.fst (Z356 t); let Z367 := fun (t : Z51) => Prod.snd (Z356 t); let Z368 := fun (t : Z51) => Z320 t = Z174 t; let Z369 := fun (t : Z51) => Z319 t = Z175 t; let Z370 := fun (t : Z51) => AV.v (Z364 t); let Z371 := fun (t : Z51) => AV.v (Z365 t); let Z372 := fun (t x : Z51) => Z5 ∧ Z346 t x; let Z373 := fun (t : Z51) => Prod.snd (Z357 t); let Z374 := fun (t : Z51) => Prod.fst (Z357 t); let Z375 := fun (t : Z51) => Value.int IntKind.i64 (Z367 t); let Z376 := fun (t : Z51) => Value.int IntKind.i64 (Z366 t); let Z377 := fun (t : Z51) => Prod.fst (Z374 t); let Z378 := fun (t : Z51) => Prod.snd (Z374 t); let Z379 := fun (t : Z51) => Value.int IntKind.i64 (Z373 t); let Z380 := ps = ps ∧ Z362; let Z381 := ps = ps ∧ Z363; let Z382 := Z257 ∧ Z308; let Z383 := Z257 ∧ Z307; let Z384 := Z303 ∧ Z260; let Z385 := Z304 ∧ Z260; let Z386 := fun (t : Z51) => Value.int IntKind.i64 (Z377 t); let Z387 := fun (t : Z51) => Value.int IntKind.i64 (Z378 t); let Z388 := fun (x : Z51) => Z104 ∧ Z345 x; let Z389 := fun (x : Z51) => Z106 ∧ Z344 x; let Z390 := fun (t : Z51) => Z310 t ∧ Z260; let Z391 := fun (t : Z51) => Z311 t ∧ Z260; let Z392 := st2 = st2 ∧ Z384; let Z393 := st2 = st2 ∧ Z385; let Z394 := Z296 ∧ Z306; let Z395 := fun (t : Z51) => st2 = st2 ∧ Z390 t; let Z396 := fun (t : Z51) => st2 = st2 ∧ Z391 t; let Z397 := ps2 = ps2 ∧ Z393; let Z398 := ps2 = ps2 ∧ Z392; let Z399 := fun (t x : Z51) => Z110 ∧ Z372 t x; let Z400 := fun (t x : Z51) => Z112 ∧ Z372 t x; let Z401 := Z305 = Z305; let Z402 := fun (t : Z51) => ps2 = ps2 ∧ Z396 t; let Z403 := fun (t : Z51) => ps2 = ps2 ∧ Z395 t; let Z404 := st = st ∧ Z397; let Z405 := st = st ∧ Z398; let Z406 := fun (x : Z51) => Z105 ∧ Z388 x; let Z407 := fun (x : Z51) => Z105 ∧ Z389 x; let Z408 := Z248 ∧ Z337; let Z409 := Z248 ∧ Z338; let Z410 := Z248 ∧ Z339; let Z411 := True ∧ Z409; let Z412 := True ∧ Z408; let Z413 := fun (t : Z51) => st = st ∧ Z403 t; let Z414 := ps = ps ∧ Z404; let Z415 := ps = ps ∧ Z405; let Z416 := fun (t : Z51) => st = st ∧ Z402 t; let Z417 : List ((Int × Int × Int) × Sd × Sd) := Z299 :: Z316; let Z418 := fun (t : Z51) => (Z242 t, Z347 t); let Z419 := fun (t : Z51) => (Z240 t, Z348 t); let Z420 := fun (x : Z51) => Z6 ∧ Z406 x; let Z421 := fun (x : Z51) => Z6 ∧ Z407 x; let Z422 := fun (t x : Z51) => Z104 ∧ Z399 t x; let Z423 := fun (t x : Z51) => Z106 ∧ Z400 t x; let Z424 := fun (t : Z51) => ps = ps ∧ Z416 t; let Z425 := fun (t : Z51) => ps = ps ∧ Z413 t; let Z426 := Z401 ∧ Z120; let Z427 := fun (x : Z51) => Z5 ∧ Z421 x; let Z428 := fun (x : Z51) => Z5 ∧ Z420 x; let Z429 := Z88 ∧ Z410; let Z430 := Z91 ∧ Z410; let Z431 := List.getD Z349 (nat_lit 0) Z258; let Z432 := List.getD Z349 (nat_lit 1) Z258; let Z433 := Z394 ∧ Z180; let Z434 := fun (x : Z51) => Z6 ∧ Z427 x; let Z435 := fun (x : Z51) => Z6 ∧ Z428 x; let Z436 := Prod.fst Z431; let Z437 := Prod.snd Z432; let Z438 := Prod.snd Z431; let Z439 := Prod.fst Z432; let Z440 := fun (t x : Z51) => Z105 ∧ Z423 t x; let Z441 := fun (t x : Z51) => Z105 ∧ Z422 t x; let Z442 := Prod.fst Z437; let Z443 := Prod.fst Z438; let Z444 := Prod.snd Z437; let Z445 := Prod.snd Z438; let Z446 := Prod.snd Z439; let Z447 := Prod.snd Z436; let Z448 := Prod.fst Z439; let Z449 := Prod.fst Z436; let Z450 := Z182 ∧ Z412; let Z451 := Prod.snd Z446; let Z452 := Prod.fst Z446; let Z453 := Prod.fst Z447; let Z454 := Prod.snd Z447; let Z455 := Value.int IntKind.i64 Z448; let Z456 := Value.int IntKind.i64 Z449; let Z457 := Prod.snd Z443; let Z458 := Prod.snd Z444; let Z459 := Prod.snd Z442; let Z460 := Prod.snd Z445; let Z461 := fun (t x : Z51) => Z6 ∧ Z441 t x; let Z462 := fun (t x : Z51) => Z6 ∧ Z440 t x; let Z463 := false = false → Z450; let Z464 := Value.int IntKind.i64 Z454; let Z465 := Value.int IntKind.i64 Z453; let Z466 := Value.int IntKind.i64 Z451; let Z467 := Value.int IntKind.i64 Z452; let Z468 := Prod.snd Z458; let Z469 := Prod.snd Z460; let Z470 := Prod.snd Z457; let Z471 := Prod.snd Z459; let Z472 := fun (x : Z51) => Z87 ∧ Z434 x; let Z473 := fun (x : Z51) => Z87 ∧ Z435 x; let Z474 := Z471 = List.length ps2; let Z475 := Z470 = List.length ps; let Z476 := Z469 = List.length st; let Z477 := Z468 = List.length st2; let Z478 := fun (t x : Z51) => Z5 ∧ Z461 t x; let Z479 := fun (t x : Z51) => Z5 ∧ Z462 t x; let Z480 := nat_lit 0 = nat_lit 0 ∧ Z475; let Z481 := nat_lit 0 = nat_lit 0 ∧ Z474; let Z482 := nat_lit 0 = nat_lit 0 ∧ Z476; let Z483 := nat_lit 0 = nat_lit 0 ∧ Z477; let Z484 := nat_lit 0 = nat_lit 0 ∧ Z481; let Z485 := nat_lit 0 = nat_lit 0 ∧ Z480; let Z486 := nat_lit 0 = nat_lit 0 ∧ Z482; let Z487 := nat_lit 0 = nat_lit 0 ∧ Z483; let Z488 := Z487 ∧ True; let Z489 := Z486 ∧ True; let Z490 := fun (t : Z51) => (Z241 t, Z418 t); let Z491 := fun (t : Z51) => (Z243 t, Z419 t); let Z492 := fun (t x : Z51) => Z6 ∧ Z479 t x; let Z493 := fun (t x : Z51) => Z6 ∧ Z478 t x; let Z494 := fun (t x : Z51) => Z87 ∧ Z492 t x; let Z495 := fun (t x : Z51) => Z87 ∧ Z493 t x; let Z496 := fun (t : Z51) => Z359 t = Z359 t; let Z497 := fun (t : Z51) => Z358 t = Z358 t; let Z498 := fun (t : Z51) => Z370 t = Z354 t; let Z499 := fun (t : Z51) => Z371 t = Z355 t; let Z500 := Z318 ∧ Z412; let Z501 := fun (t : Z51) => Z375 t = Z375 t; let Z502 := fun (t : Z51) => Z376 t = Z376 t; let Z503 := fun (t : Z51) => Z379 t = Z379 t; let Z504 := fun (t : Z51) => Z503 t ∧ True; let Z505 := List.getD Z417 (1 : Nat) Z324; let Z506 := List.getD Z417 (0 : Nat) Z324; let Z507 := fun (t : Z51) => Z387 t = Z387 t; let Z508 := fun (t : Z51) => Z386 t = Z386 t; let Z509 := Prod.fst Z506; let Z510 := Prod.fst Z505; let Z511 := Z394 ∧ Z380; let Z512 := Z394 ∧ Z381; let Z513 := Prod.snd Z509; let Z514 := Prod.fst Z510; let Z515 := Prod.snd Z510; let Z516 := Z173 → Z500; let Z517 := Prod.fst Z509; let Z518 := Prod.snd Z513; let Z519 := Prod.fst Z513; let Z520 := Prod.snd Z515; let Z521 := Prod.fst Z515; let Z522 := ts = ts ∧ Z511; let Z523 := ts = ts ∧ Z512; let Z524 := True ∧ Z522; let Z525 := True ∧ Z523; let Z526 := Z30 ∧ Z525; let Z527 := True ∧ Z526; let Z528 := fun (t : Z51) => mputM UU MM.safe (Z174 t) (Z490 t) (Z245 t); let Z529 := fun (t : Z51) => mputM UU MM.safe (Z175 t) (Z491 t) (Z244 t); let Z530 := Z394 ∧ Z414; let Z531 := Z394 ∧ Z415; let Z532 := fun (t : Z51) => Z394 ∧ Z425 t; let Z533 := fun (t : Z51) => Z394 ∧ Z424 t; let Z534 := ts = ts ∧ Z530; let Z535 := ts = ts ∧ Z531; let Z536 := True ∧ Z535; let Z537 := True ∧ Z534; let Z538 := fun (t : Z51) => ts = ts ∧ Z532 t; let Z539 := fun (t : Z51) => ts = ts ∧ Z533 t; let Z540 := fun (t : Z51) => True ∧ Z538 t; let Z541 := fun (t : Z51) => True ∧ Z539 t; let Z542 := Z30 ∧ Z537; let Z543 := Z30 ∧ Z536; let Z544 := True ∧ Z542; let Z545 := True ∧ Z543; let Z546 := Z238 → Z527; let Z547 := fun (t x : Z51) => Z529 t = Z215 x; let Z548 := fun (t x : Z51) => Z528 t = Z216 x; let Z549 := fun (t : Z51) => Z368 t ∧ Z498 t; let Z550 := fun (t : Z51) => Z369 t ∧ Z499 t; let Z551 := Z321 ∧ Z524; let Z552 := Z238 → Z545; let Z553 := Z238 → Z544; let Z554 := Z546 ∧ Z249; let Z555 := Z456 = Z456; let Z556 := Z455 = Z455; let Z557 := Z466 = Z466; let Z558 := Z464 = Z464; let Z559 := Z465 = Z465; let Z560 := Z467 = Z467; let Z561 := Z552 ∧ Z249; let Z562 := Z553 ∧ Z249; let Z563 := Z485 ∧ Z489; let Z564 := Z484 ∧ Z488; let Z565 := fun (t : Z51) => Z335 ∧ Z541 t; let Z566 := fun (t : Z51) => Z334 ∧ Z540 t; let Z567 := Z233 → Z554; let Z568 := Z234 → Z561; let Z569 := Z235 → Z562; let Z570 := fun (t x : Z51) => Z547 t x ∧ Z383; let Z571 := fun (t x : Z51) => Z548 t x ∧ Z382; let Z572 := fun (t x : Z51) => st2 = st2 ∧ Z571 t x; let Z573 := fun (t x : Z51) => st2 = st2 ∧ Z570 t x; let Z574 := fun (t x : Z51) => ps2 = ps2 ∧ Z572 t x; let Z575 := fun (t x : Z51) => ps2 = ps2 ∧ Z573 t x; let Z576 := fun (t x : Z51) => st = st ∧ Z574 t x; let Z577 := fun (t x : Z51) => st = st ∧ Z575 t x; let Z578 := fun (t x : Z51) => ps = ps ∧ Z576 t x; let Z579 := fun (t x : Z51) => ps = ps ∧ Z577 t x; let Z580 := fun (t : Z51) => Z507 t ∧ Z504 t; let Z581 := Z315 ∧ Z568; let Z582 := GroundT.mk Z448 Z452 Z451 ps2; let Z583 := GroundT.mk Z449 Z453 Z454 ps; let Z584 := hardOM Z582 (0 : Int); let Z585 := hardOM Z583 (0 : Int); let Z586 := Prod.snd Z584; let Z587 := Prod.snd Z585; let Z588 := Z586 == (0 : Int); let Z589 := Z587 == (0 : Int); let Z590 := Z588 = true; let Z591 := Z589 = true; let Z592 := Z588 = false; let Z593 := Z589 = false; let Z594 := fun (t x : Z51) => Z394 ∧ Z579 t x; let Z595 := fun (t x : Z51) => Z394 ∧ Z578 t x; let Z596 := fun (t x : Z51) => ts = ts ∧ Z594 t x; let Z597 := fun (t x : Z51) => ts = ts ∧ Z595 t x; let Z598 := fun (t x : Z51) => True ∧ Z596 t x; let Z599 := fun (t x : Z51) => True ∧ Z597 t x; let Z600 := fun (t : Z51) => Z508 t ∧ Z580 t; let Z601 := Z558 ∧ Z563; let Z602 := Z557 ∧ Z564; let Z603 := GroundT.mk Z517 Z519 Z518 ps; let Z604 := GroundT.mk Z514 Z521 Z520 ps2; let Z605 := PlotT.mk Z604 st2; let Z606 := PlotT.mk Z603 st; let Z607 : List Span := worksM Z605; let Z608 : List Span := worksM Z606; let Z609 := Z607 = worksM (PlotT.mk (GroundT.mk long2 rise2 change2 ps2) st2); let Z610 := Z608 = worksM (PlotT.mk (GroundT.mk long rise change ps) st); let Z611 := Z81 ∧ Z610; let Z612 := Z81 ∧ Z609; let Z613 := fun (t x : Z51) => Z495 t x ∧ Z598 t x; let Z614 := fun (t x : Z51) => Z494 t x ∧ Z599 t x; let Z615 := Z612 ∧ Z167; let Z616 := Z611 ∧ Z166; let Z617 := True ∧ Z615; let Z618 := True ∧ Z616; let Z619 := fun (t x : Z51) => Z613 t x ∧ Z261 x t; let Z620 := fun (t x : Z51) => Z614 t x ∧ Z261 x t; let Z621 := Z257 ∧ Z617; let Z622 := Z257 ∧ Z618; let Z623 := fun (t : Z51) => ∃ (x : Z51), Z619 t x; let Z624 := fun (t : Z51) => ∃ (x : Z51), Z620 t x; let Z625 := fun (t : Z51) => True ∧ Z623 t; let Z626 := fun (t : Z51) => True ∧ Z624 t; let Z627 := fun (t : Z51) => Z566 t ∧ Z581; let Z628 := fun (x : Z51) => Z256 x ∧ Z622; let Z629 := fun (x : Z51) => st2 = st2 ∧ Z628 x; let Z630 := fun (x : Z51) => ps2 = ps2 ∧ Z629 x; let Z631 := fun (t : Z51) => Z501 t ∧ Z600 t; let Z632 := fun (x : Z51) => st = st ∧ Z630 x; let Z633 := fun (x : Z51) => ps = ps ∧ Z632 x; let Z634 := fun (x : Z51) => Z317 x ∧ Z621; let Z635 := fun (t : Z51) => Z292 t → Z627 t; let Z636 := fun (x : Z51) => st2 = st2 ∧ Z634 x; let Z637 := fun (x : Z51) => ps2 = ps2 ∧ Z636 x; let Z638 := fun (x : Z51) => st = st ∧ Z637 x; let Z639 := fun (x : Z51) => ps = ps ∧ Z638 x; let Z640 := fun (x : Z51) => Z394 ∧ Z633 x; let Z641 := fun (x : Z51) => ts = ts ∧ Z640 x; let Z642 := fun (x : Z51) => True ∧ Z641 x; let Z643 := Z560 ∧ Z602; let Z644 := Z559 ∧ Z601; let Z645 := fun (x : Z51) => Z394 ∧ Z639 x; let Z646 := fun (x : Z51) => ts = ts ∧ Z645 x; let Z647 := fun (x : Z51) => True ∧ Z646 x; let Z648 := fun (t : Z51) => Z502 t ∧ Z631 t; let Z649 := fun (t : Z51) => Z549 t ∧ Z626 t; let Z650 := fun (t : Z51) => Z550 t ∧ Z625 t; let Z651 := fun (x : Z51) => Z473 x ∧ Z642 x; let Z652 := ∃ (x : Z51), Z651 x; let Z653 := fun (x : Z51) => Z472 x ∧ Z647 x; let Z654 := fun (t : Z51) => Z329 ∧ Z649 t; let Z655 := fun (t : Z51) => Z330 ∧ Z650 t; let Z656 := ∃ (x : Z51), Z653 x; let Z657 := fun (t : Z51) => Z497 t ∧ Z648 t; let Z658 := Z555 ∧ Z644; let Z659 := Z556 ∧ Z643; let Z660 := Z659 ∧ True; let Z661 := Z658 ∧ True; let Z662 := fun (t : Z51) => Z496 t ∧ Z657 t; let Z663 := fun (t : Z51) => Z662 t ∧ True; let Z664 := fun (t : Z51) => Z5 ∧ Z663 t; let Z665 := Z660 ∧ Z430; let Z666 := Z661 ∧ Z429; let Z667 := Z592 → Z665; let Z668 := Z593 → Z666; let Z669 := fun (t : Z51) => Z664 t ∧ Z655 t; let Z670 := fun (t : Z51) => Z664 t ∧ Z654 t; let Z671 := fun (t : Z51) => Z159 ∧ Z670 t; let Z672 := fun (t : Z51) => Z161 ∧ Z669 t; let Z673 := fun (t : Z51) => Z203 t ∧ Z672 t; let Z674 := fun (t : Z51) => Z203 t ∧ Z671 t; let Z675 := fun (t : Z51) => Z277 t ∧ Z673 t; let Z676 := fun (t : Z51) => Z277 t ∧ Z674 t; let Z677 := fun (t : Z51) => Z291 t → Z676 t; let Z678 := fun (t : Z51) => Z291 t → Z675 t; let Z679 := fun (t : Z51) => Z677 t ∧ Z635 t; let Z680 := ∀ (t : Z51), Z679 t; let Z681 := Z656 ∧ Z680; let Z682 := Z91 ∧ Z681; let Z683 := Z660 ∧ Z682; let Z684 := Z590 → Z683; let Z685 := Z684 ∧ Z667; let Z686 := Z102 ∧ Z685; let Z687 := nat_lit 1 < nat_lit 2 ∧ Z686; let Z688 := Z168 ∧ Z687; let Z689 := Z232 → Z688; let Z690 := Z689 ∧ Z569; let Z691 := fun (t : Z51) => Z565 t ∧ Z690; let Z692 := fun (t : Z51) => Z292 t → Z691 t; let Z693 := fun (t : Z51) => Z678 t ∧ Z692 t; let Z694 := ∀ (t : Z51), Z693 t; let Z695 := Z652 ∧ Z694; let Z696 := Z88 ∧ Z695; let Z697 := Z661 ∧ Z696; let Z698 := Z591 → Z697; let Z699 := Z698 ∧ Z668; let Z700 := Z103 ∧ Z699; let Z701 := nat_lit 0 < nat_lit 2 ∧ Z700; let Z702 := Z170 ∧ Z701; let Z703 := Z231 → Z702; let Z704 := Z703 ∧ Z567; let Z705 := Z551 ∧ Z704; let Z706 := True ∧ Z705; let Z707 := Z182 ∧ Z706; let Z708 := false = true → Z707; let Z709 := Z318 ∧ Z706; let Z710 := Z172 → Z709; let Z711 := Z708 ∧ Z463; let Z712 := True ∧ Z711; let Z713 := Z86 → Z712; let Z714 := Z710 ∧ Z516; let Z715 := True ∧ Z714; let Z716 := Z433 ∧ Z715; let Z717 := Z143 ∧ Z716; let Z718 := Z212 ∧ Z717; let Z719 := Z84 → Z718; let Z720 := Z719 ∧ Z713; let Z721 := Z11 ∧ Z720; (Z309 = true → True ∧ (Z293 = true → Z426 ∧ True ∧ Z23 ∧ Z187 ∧ Z721) ∧ (Z293 = false → Z426 ∧ Z411)) ∧ (Z309 = false → True ∧ (false = true → Z181 ∧ True ∧ Z23 ∧ Z187 ∧ Z721) ∧ (false = false → Z181 ∧ Z411)))
    (by kernel_rfl) ?_
  simp only [eq_self, true_and, and_true, Int.toNat_natCast, Nat.zero_add, Nat.sub_zero, Value.int.injEq, Value.bool.injEq, decide_eq_true_eq, decide_eq_false_iff_not]
  simp only [List.getD_cons_zero, List.getD_cons_succ, Bool.false_eq_true, false_implies, forall_const, and_true, true_and, Bool.or_false, Bool.not_not]
  have ht0 : ts.length < 1000000 := hx.1
  have h1 : ps.length < 1000000 := hx.2.1.1
  have h2 : st.length < 1000000 := hx.2.1.2
  have k1 : ps2.length < 1000000 := hx.2.2.1
  have k2 : st2.length < 1000000 := hx.2.2.2
  have hw : (worksM ⟨⟨long, rise, change, ps⟩, st⟩).length = st.length := works_len _
  have hv : (worksM ⟨⟨long2, rise2, change2, ps2⟩, st2⟩).length = st2.length := works_len _
  have hL : (([⟨⟨long, rise, change, ps⟩, st⟩, ⟨⟨long2, rise2, change2, ps2⟩, st2⟩] : List PlotT).length : Int) ≤ 6 := by show (2 : Int) ≤ 6; decide
  refine ⟨fun a1 => ⟨fun a2 => ⟨ht0, fun a3 => ⟨⟨⟨h1, h2⟩, k1, k2⟩, fun a4 => ⟨⟨rfl, rfl⟩, fun _ => ⟨⟨by decide, by decide⟩, by decide, ⟨h1, h2⟩, fun a5 => ⟨⟨⟨0, Nat.zero_le _⟩, ⟨rfl, rfl⟩, rfl⟩, fun t => ⟨fun ht => ?_, fun ht => ⟨⟨by decide, ?_⟩, fun _ => ⟨⟨by decide, by decide⟩, by decide, ⟨k1, k2⟩, fun a6 => ⟨⟨⟨0, Nat.zero_le _⟩, ⟨rfl, rfl⟩, rfl⟩, fun t => ⟨fun ht => ?_, fun ht => ⟨⟨by decide, ?_⟩, fun h => absurd h (by decide), fun _ => ⟨fun _ => trivial, fun h => ?_⟩⟩⟩⟩, fun a6 => ?_⟩, fun h => absurd (by decide) h⟩⟩⟩, fun a5 => ?_⟩, fun h => absurd (by decide) h⟩, fun a4 => ?_⟩, fun a3 => ?_⟩, fun h => absurd (by decide) h⟩, fun a1 => ?_⟩
  · obtain ⟨j, hj⟩ := t
    have hlt : j < ts.length := by have h1 : (j : Int) < (ts.length : Int) := ht; omega
    exact ⟨⟨Int.natCast_nonneg _, ht⟩, hlt, ⟨hw, h2⟩, ⟨j + 1, hlt⟩, ⟨sucI j (by omega), ents_put ts [⟨⟨long, rise, change, ps⟩, st⟩, ⟨⟨long2, rise2, change2, ps2⟩, st2⟩] 0 j⟩, dec1 hlt⟩
  · obtain ⟨j, hj⟩ := t
    have hje : j = ts.length := by have h1 : ¬ (j : Int) < (ts.length : Int) := ht; omega
    subst hje
    exact ents_next ts [⟨⟨long, rise, change, ps⟩, st⟩, ⟨⟨long2, rise2, change2, ps2⟩, st2⟩] 0
  · obtain ⟨j, hj⟩ := t
    have hlt : j < ts.length := by have h1 : (j : Int) < (ts.length : Int) := ht; omega
    exact ⟨⟨Int.natCast_nonneg _, ht⟩, hlt, ⟨hv, k2⟩, ⟨j + 1, hlt⟩, ⟨sucI j (by omega), ents_put ts [⟨⟨long, rise, change, ps⟩, st⟩, ⟨⟨long2, rise2, change2, ps2⟩, st2⟩] 1 j⟩, dec1 hlt⟩
  · obtain ⟨j, hj⟩ := t
    have hje : j = ts.length := by have h1 : ¬ (j : Int) < (ts.length : Int) := ht; omega
    subst hje
    exact ents_next ts [⟨⟨long, rise, change, ps⟩, st⟩, ⟨⟨long2, rise2, change2, ps2⟩, st2⟩] 1
  · have e := mErr_ok a1 hL a3 (l := [⟨⟨long, rise, change, ps⟩, st⟩, ⟨⟨long2, rise2, change2, ps2⟩, st2⟩]) (two_no a4) (two_yes a5 a6)
    rw [e] at h; exact absurd h (by decide)
  · have e := mErr_clash a1 hL a3 (l := [⟨⟨long, rise, change, ps⟩, st⟩, ⟨⟨long2, rise2, change2, ps2⟩, st2⟩]) (two_no a4) (two_bad a6)
    rw [e]; exact ⟨fun h => absurd h (by decide), fun _ => rfl⟩
  · have e := mErr_clash a1 hL a3 (l := [⟨⟨long, rise, change, ps⟩, st⟩, ⟨⟨long2, rise2, change2, ps2⟩, st2⟩]) (two_no a4) (two_bad1 a5)
    rw [e]; exact ⟨fun h => absurd h (by decide), fun _ => rfl⟩
  · have e := mErr_plot a1 hL (l := [⟨⟨long, rise, change, ps⟩, st⟩, ⟨⟨long2, rise2, change2, ps2⟩, st2⟩]) (two_any a4)
    rw [e]; exact ⟨fun h => absurd h (by decide), fun _ => rfl⟩
  · have e := mErr_team a1 hL (l := [⟨⟨long, rise, change, ps⟩, st⟩, ⟨⟨long2, rise2, change2, ps2⟩, st2⟩]) a3
    rw [e]; exact ⟨fun h => absurd h (by decide), fun _ => rfl⟩
  · have e := mErr_len a1 (l := [⟨⟨long, rise, change, ps⟩, st⟩, ⟨⟨long2, rise2, change2, ps2⟩, st2⟩])
    rw [e]; exact ⟨fun h => absurd h (by decide), fun _ => rfl⟩

theorem match_sound : Sound Try.prog 40 matchS.con := FSpec2.sound _ (enter_of Try.func40 (by kernel_rfl) (by kernel_rfl)) fun x h => match x, h with
  | (ts, p, none), h => match_ok1 ts p h
  | (ts, p, some q), h => match_ok2 ts p q h
end AE.Team
