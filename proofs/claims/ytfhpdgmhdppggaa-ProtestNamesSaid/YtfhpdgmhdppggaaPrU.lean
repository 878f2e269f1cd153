/- The elements of rows and maps of the layer 'protest'. No condition. -/
import Derived.Test.YtfhpdgmhdppggaaAe31
import Derived.Test.YtfhpdgmhdppggaaRows
namespace AE.Pr
open Go AE

/-- A word: of a person; its number; not. -/
abbrev W3 := Bool × Int × Bool
/-- A claim: who makes it; its kind; its words. -/
abbrev Cl := Int × Int × W3 × W3
/-- A claim as the program keeps it: is it 'or'; is it 'when'; its words. -/
abbrev Ci := Bool × Bool × W3 × W3

inductive CC where
  | word | claim | ci | truth | rtruth | u16 | wit
  deriving DecidableEq

def CC.ty : CC → Type
  | .word => W3
  | .claim => Cl
  | .ci => Ci
  | .truth => Int × Int
  | .rtruth => Int × Int
  | .u16 => Int
  | .wit => Int

abbrev AV.u (n : Int) : AV := .v (.int .u64 n)
def gi : List AV → Nat → Int
  | .v (.int _ n) :: _, 0 => n
  | _ :: l, n + 1 => gi l n
  | _, _ => 0
def gb : List AV → Nat → Bool
  | .v (.bool b) :: _, 0 => b
  | _ :: l, n + 1 => gb l n
  | _, _ => false

def encW (w : W3) : List AV := [.b w.1, .i w.2.1, .b w.2.2]
def vCi (c : Ci) : AV :=
  .alt c.1 (.ifc 134 (.agg [.b c.2.2.1.1, .i c.2.2.1.2.1, .b c.2.2.1.2.2, .b c.2.2.2.1, .i c.2.2.2.2.1, .b c.2.2.2.2.2]))
    (.alt c.2.1 (.ifc 135 (.agg [.b c.2.2.1.1, .i c.2.2.1.2.1, .b c.2.2.1.2.2, .b c.2.2.2.1, .i c.2.2.2.2.1, .b c.2.2.2.2.2])) (.ifc 137 (.agg [.b c.2.2.1.1, .i c.2.2.1.2.1, .b c.2.2.1.2.2])))
def CC.enc : (c : CC) → c.ty → List AV
  | .word, w => [.b w.1, .i w.2.1, .b w.2.2]
  | .claim, c => [.i c.1, .i c.2.1, .b c.2.2.1.1, .i c.2.2.1.2.1, .b c.2.2.1.2.2, .b c.2.2.2.1, .i c.2.2.2.2.1, .b c.2.2.2.2.2]
  | .ci, c => [vCi c]
  | .truth, t => [AV.u t.1, AV.u t.2]
  | .rtruth, t => [.i t.1, .i t.2]
  | .u16, x => [.v (.int .u16 x)]
  | .wit, x => [.i x]
def decCi : AV → Ci
  | .alt a (.ifc _ (.agg l)) (.alt b _ _) => (a, b, (gb l 0, gi l 1, gb l 2), (gb l 3, gi l 4, gb l 5))
  | _ => (false, false, (false, 0, false), (false, 0, false))
def CC.dec : (c : CC) → List AV → c.ty
  | .word, l => (gb l 0, gi l 1, gb l 2)
  | .claim, l => (gi l 0, gi l 1, (gb l 2, gi l 3, gb l 4), (gb l 5, gi l 6, gb l 7))
  | .ci, [x] => decCi x
  | .ci, _ => (false, false, (false, 0, false), (false, 0, false))
  | .truth, l => (gi l 0, gi l 1)
  | .rtruth, l => (gi l 0, gi l 1)
  | .u16, l => gi l 0
  | .wit, l => gi l 0
def CC.df : (c : CC) → c.ty
  | .word => ((false, 0, false) : W3)
  | .claim => ((0, 0, (false, 0, false), (false, 0, false)) : Cl)
  | .ci => ((false, false, (false, 0, false), (false, 0, false)) : Ci)
  | .truth => ((0, 0) : Int × Int)
  | .rtruth => ((0, 0) : Int × Int)
  | .u16 => (0 : Int)
  | .wit => (0 : Int)
def CC.sz : CC → Nat
  | .word => 3
  | .claim => 8
  | .ci => 1
  | .truth => 2
  | .rtruth => 2
  | .u16 => 1
  | .wit => 1
def CC.code : Nat → Option CC
  | 27 => some .word
  | 67 => some .claim
  | 116 => some .ci
  | 85 => some .truth
  | 48 => some .rtruth
  | 107 => some .u16
  | 93 => some .wit
  | _ => none
def mrowC : Nat → Option (Nat × CC × Nat)
  | 98 => some (6, .ci, 116)
  | _ => none

def UU : Uni where
  C := CC
  deq := inferInstance
  ty := CC.ty
  enc := CC.enc
  dec := CC.dec
  df := CC.df
  sz := CC.sz
  code := CC.code
  M := Empty
  mdeq := inferInstance
  mty := fun m => m.elim
  mkey := fun m => m.elim
  mval := fun m => m.elim
  mdec := fun m => m.elim
  mdf := fun m => m.elim
  mks := fun m => m.elim
  mcode := fun _ => none
  len := fun c x => by cases c <;> rfl
  ones := fun c x a h => by
    cases c <;> simp only [CC.enc, List.mem_cons, List.not_mem_nil, or_false] at h <;> rcases h with rfl | rfl | rfl | rfl | rfl | rfl | rfl | rfl <;> rfl
  pl := fun _ => true
  plok := fun c _ x a h => by
    cases c <;> simp only [CC.enc, List.mem_cons, List.not_mem_nil, or_false] at h <;> rcases h with rfl | rfl | rfl | rfl | rfl | rfl | rfl | rfl <;> rfl
  mpl := fun _ => true
  mplok := fun m => m.elim
  mrow := mrowC
/-- What is there where nothing is. -/
abbrev dfW : W3 := (false, 0, false)
abbrev dfC : Cl := (0, 0, (false, 0, false), (false, 0, false))
abbrev dfI : Ci := (false, false, (false, 0, false), (false, 0, false))
end AE.Pr
