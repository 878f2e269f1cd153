/- The layer 'protest': the laws' own words and their sample. No condition. -/
import Derived.Test.YtfhpdgmhdppggaaPrL
namespace AE.Pr
open Go AE Go.Proofs

def wordS (p : Bool) : FSpec UU where
  X := Int
  pick := fun args _ => match args with
    | [a] => avInt a
    | _ => none
  args := fun (x : Int) => [.i x]
  H := fun _ => []
  R := fun (x : Int) => .val ⟨.agg [.b p, .i x, .b false], [], [], []⟩
set_option maxRecDepth 100000 in
theorem factW_ok : ∀ x, (wordS false).pre x → FunOk Try.prog 31 ((wordS false).args x) ((wordS false).H x) ((wordS false).R x) := by
  intro (x : Int) _
  refine fun_of (T := []) (L := fun _ => none) (hs := fun _ => []) hmix .nil Try.func31 (by kernel_rfl) (by kernel_rfl) ?_
  refine Eq.mp (α :=
      True ∧ ((Value.bool false = Value.bool false ∧ Value.int IntKind.i64 x = Value.int IntKind.i64 x ∧ Value.bool false = Value.bool false ∧ True) ∧ True) ∧ True ∧ True)
    (by kernel_rfl) ?_
  simp

theorem factW_sound : Sound Try.prog 31 (wordS false).con := FSpec.sound _ (enter_of Try.func31 (by kernel_rfl) (by kernel_rfl)) factW_ok
set_option maxRecDepth 100000 in
theorem person_ok : ∀ x, (wordS true).pre x → FunOk Try.prog 33 ((wordS true).args x) ((wordS true).H x) ((wordS true).R x) := by
  intro (x : Int) _
  refine fun_of (T := []) (L := fun _ => none) (hs := fun _ => []) hmix .nil Try.func33 (by kernel_rfl) (by kernel_rfl) ?_
  refine Eq.mp (α :=
      True ∧ ((Value.bool true = Value.bool true ∧ Value.int IntKind.i64 x = Value.int IntKind.i64 x ∧ Value.bool false = Value.bool false ∧ True) ∧ True) ∧ True ∧ True)
    (by kernel_rfl) ?_
  simp

theorem person_sound : Sound Try.prog 33 (wordS true).con := FSpec.sound _ (enter_of Try.func33 (by kernel_rfl) (by kernel_rfl)) person_ok
def notS : FSpec UU where
  X := W3
  pick := fun args _ => match args with
    | [a] => avW a
    | _ => none
  args := fun (w : W3) => [vW w]
  H := fun _ => []
  R := fun (w : W3) => .val ⟨.agg [.b w.1, .i w.2.1, .b (!w.2.2)], [], [], []⟩
set_option maxRecDepth 100000 in
theorem not_ok : ∀ x, notS.pre x → FunOk Try.prog 30 (notS.args x) (notS.H x) (notS.R x) := by
  rintro ⟨p, n, q⟩ _
  refine fun_of (T := []) (L := fun _ => none) (hs := fun _ => []) hmix .nil Try.func30 (by kernel_rfl) (by kernel_rfl) ?_
  refine Eq.mp (α :=
      True ∧ ((Value.bool p = Value.bool p ∧ Value.int IntKind.i64 n = Value.int IntKind.i64 n ∧ (Value.bool !q) = Value.bool !q ∧ True) ∧ True) ∧ True ∧ True)
    (by kernel_rfl) ?_
  simp

theorem not_sound : Sound Try.prog 30 notS.con := FSpec.sound _ (enter_of Try.func30 (by kernel_rfl) (by kernel_rfl)) not_ok

/-! ### sample -/
def sampleC : List Cl := [(0, 0, (false, 0, false), (false, 0, false)), (1, 0, (false, 0, true), (false, 0, false)), (2, 1, (true, 1, true), (false, 1, false))]
def sampleS : FSpec UU where
  X := Int × List W3
  pick := fun args H => match args with
    | [a, b] => match avInt a, sliceAt .word H b with
      | some a, some b => some (a, b)
      | _, _ => none
    | _ => none
  args := fun x => [.i x.1, .sl 0 0 0 x.2.length]
  H := fun x => [.one (.ro .word x.2)]
  R := fun x => .val ⟨.agg [.i 2, .i 3, .i x.1, .gs 1 0, .sl 0 0 0 x.2.length], [], [], [.row .claim sampleC 67]⟩
def Tsample : Tab UU := [(30, notS.con), (31, (wordS false).con), (33, (wordS true).con)]
theorem Tsample_ok : Tsample.Sound Try.prog := .cons not_sound (.cons factW_sound (.cons person_sound .nil))
set_option maxRecDepth 100000 in
theorem sample_ok : ∀ x, sampleS.pre x → FunOk Try.prog 32 (sampleS.args x) (sampleS.H x) (sampleS.R x) := by
  rintro ⟨li, ks⟩ _
  refine fun_of (T := Tsample) (L := fun _ => none) (hs := fun _ => []) hmix Tsample_ok Try.func32 (by kernel_rfl) (by kernel_rfl) ?_
  refine Eq.mp (α :=
      True ∧ (Value.int IntKind.i64 (0 : Int) = Value.int IntKind.i64 (0 : Int) ∧ True) ∧ True ∧ True ∧ (Value.int IntKind.i64 (0 : Int) = Value.int IntKind.i64 (0 : Int) ∧ True) ∧ True ∧ True ∧ ((Value.bool false = Value.bool false ∧ Value.int IntKind.i64 (0 : Int) = Value.int IntKind.i64 (0 : Int) ∧ Value.bool false = Value.bool false ∧ True) ∧ True) ∧ True ∧ True ∧ (Value.int IntKind.i64 (1 : Int) = Value.int IntKind.i64 (1 : Int) ∧ True) ∧ True ∧ True ∧ ((Value.bool true = Value.bool true ∧ Value.int IntKind.i64 (1 : Int) = Value.int IntKind.i64 (1 : Int) ∧ Value.bool false = Value.bool false ∧ True) ∧ True) ∧ True ∧ True ∧ (Value.int IntKind.i64 (1 : Int) = Value.int IntKind.i64 (1 : Int) ∧ True) ∧ True ∧ (nat_lit 3 = nat_lit 3 ∧ some [AV.v (Value.int IntKind.i64 (0 : Int)), AV.v (Value.int IntKind.i64 (0 : Int)), AV.v (Value.bool false), AV.v (Value.int IntKind.i64 (0 : Int)), AV.v (Value.bool false), AV.v (Value.bool false), AV.v (Value.int IntKind.i64 (0 : Int)), AV.v (Value.bool false), AV.v (Value.int IntKind.i64 (1 : Int)), AV.v (Value.int IntKind.i64 (0 : Int)), AV.v (Value.bool false), AV.v (Value.int IntKind.i64 (0 : Int)), AV.v (Value.bool !false), AV.v (Value.bool false), AV.v (Value.int IntKind.i64 (0 : Int)), AV.v (Value.bool false), AV.v (Value.int IntKind.i64 (2 : Int)), AV.v (Value.int IntKind.i64 (1 : Int)), AV.v (Value.bool true), AV.v (Value.int IntKind.i64 (1 : Int)), AV.v (Value.bool !false), AV.v (Value.bool false), AV.v (Value.int IntKind.i64 (1 : Int)), AV.v (Value.bool false)] = some [AV.v (Value.int IntKind.i64 (0 : Int)), AV.v (Value.int IntKind.i64 (0 : Int)), AV.v (Value.bool false), AV.v (Value.int IntKind.i64 (0 : Int)), AV.v (Value.bool false), AV.v (Value.bool false), AV.v (Value.int IntKind.i64 (0 : Int)), AV.v (Value.bool false), AV.v (Value.int IntKind.i64 (1 : Int)), AV.v (Value.int IntKind.i64 (0 : Int)), AV.v (Value.bool false), AV.v (Value.int IntKind.i64 (0 : Int)), AV.v (Value.bool true), AV.v (Value.bool false), AV.v (Value.int IntKind.i64 (0 : Int)), AV.v (Value.bool false), AV.v (Value.int IntKind.i64 (2 : Int)), AV.v (Value.int IntKind.i64 (1 : Int)), AV.v (Value.bool true), AV.v (Value.int IntKind.i64 (1 : Int)), AV.v (Value.bool true), AV.v (Value.bool false), AV.v (Value.int IntKind.i64 (1 : Int)), AV.v (Value.bool false)]) ∧ True ∧ ((Value.int IntKind.i64 (2 : Int) = Value.int IntKind.i64 (2 : Int) ∧ Value.int IntKind.i64 (3 : Int) = Value.int IntKind.i64 (3 : Int) ∧ Value.int IntKind.i64 li = Value.int IntKind.i64 li ∧ nat_lit 0 = nat_lit 0 ∧ (nat_lit 0 = nat_lit 0 ∧ nat_lit 0 = nat_lit 0 ∧ List.length ks = List.length ks) ∧ True) ∧ True) ∧ True ∧ ks = ks ∧ (nat_lit 67 = (67 : TypeId) ∧ [dfC, ((1 : Int), (0 : Int), (false, (0 : Int), true), false, (0 : Int), false), ((2 : Int), (1 : Int), (true, (1 : Int), true), false, (1 : Int), false)] = [dfC, ((1 : Int), (0 : Int), (false, (0 : Int), true), false, (0 : Int), false), ((2 : Int), (1 : Int), (true, (1 : Int), true), false, (1 : Int), false)]) ∧ True)
    (by kernel_rfl) ?_
  simp

theorem sample_sound : Sound Try.prog 32 sampleS.con := FSpec.sound _ (enter_of Try.func32 (by kernel_rfl) (by kernel_rfl)) sample_ok
end AE.Pr
