/-
  No cell of these rows narrows 'for every input' (looked for: loops, veiled, ifaces, maps, wideKeys, modest, calm, conditions, laid).
  DERIVED. THE GIVEN ROWS OF THIS SEAT. 4 by the template 'for every input the law returns true; each argument reads behind the call as it read before'; 0 by the template 'total and deterministic' (their statements: YtlhpkhpgjccbpaaGreatTotals.lean).
  GIVEN WITH THE SEED: the statements are not yours to turn. If you find one false, say at which input.
  Laid BY PROGRAM, IN A SANDBOX (cutbox-rows.mjs): the forced cells as the released guide's own fill.sh prints them over the translation a2d9b239ac7fb460… (all of the seat's roots in one cut). By AI agents, Wed Nov 11 2026. No macro, syntax, notation, axiom, sorry.
-/
import Derived.Test.YtlhpkhpgjccbpaaGreatChecked
import GoSem.Claim
import GoSem.ClaimJoined
import GoSem.ClaimMapViews
import Derived.JoinedTies
import Derived.KernelRfl
namespace Go.Proofs.YtlhpkhpgjccbpaaGreat
/- THE CELL 'sum', in the pinned program and in every row, IS THE sha256 OF THE DUMP (.gsa) THAT YtlhpkhpgjccbpaaGreatProg.lean LOADS. Nothing in Lean hashes anything: it is a label: what it is worth is what the hold of that sum in a sandbox is worth. -/
noncomputable def Tryz.pinned : Pinned := { name := "ytlhpkhpgjccbpaagreat", sum := "a2d9b239ac7fb46077ae0b7e4a3e4b1ae0546cebbfc45fdaa8d143441b513c96", checked := Tryz.checked }
namespace Rows
def none {H : Type} : Left H := { results := [], args := [] }

/-- 'furrowworkslaw06.TeamComes': WHATEVER THE INPUT: true; the input reads as it did. -/
def teamComesSpec : ChangeSpec := { name := "teamComes", fn := fun _ => fun
  | [d1, d2, d3] => { results := [.lit (.bool true)], args := [d1, d2, d3] }
  | _ => none }
def teamComesRow : OpenClaim := { program := "ytlhpkhpgjccbpaagreat", sum := "a2d9b239ac7fb46077ae0b7e4a3e4b1ae0546cebbfc45fdaa8d143441b513c96", func := "furrowworks/furrowworkslaw06.TeamComes", spec := "teamComes", unfollowed := true, recurses := true, plainKeys := false, apart := false }
def TeamComesSaid : Prop := teamComesRow.holds Tryz.pinned (OpenSpec.ofChange teamComesSpec)

/-- ITS FALSE NEIGHBOUR: 'it returns false'. Refute it at one input. -/
def teamComesWrong : ChangeSpec := { name := "teamComes", fn := fun _ => fun
  | [d1, d2, d3] => { results := [.lit (.bool false)], args := [d1, d2, d3] }
  | _ => none }
def TeamComesWrongFalsely : Prop := teamComesRow.holds Tryz.pinned (OpenSpec.ofChange teamComesWrong)

/-- 'furrowworkslaw06.TeamNeeds': WHATEVER THE INPUT: true; the input reads as it did. -/
def teamNeedsSpec : ChangeSpec := { name := "teamNeeds", fn := fun _ => fun
  | [d1, d2] => { results := [.lit (.bool true)], args := [d1, d2] }
  | _ => none }
def teamNeedsRow : OpenClaim := { program := "ytlhpkhpgjccbpaagreat", sum := "a2d9b239ac7fb46077ae0b7e4a3e4b1ae0546cebbfc45fdaa8d143441b513c96", func := "furrowworks/furrowworkslaw06.TeamNeeds", spec := "teamNeeds", unfollowed := true, recurses := true, plainKeys := false, apart := false }
def TeamNeedsSaid : Prop := teamNeedsRow.holds Tryz.pinned (OpenSpec.ofChange teamNeedsSpec)

/-- ITS FALSE NEIGHBOUR: 'it returns false'. Refute it at one input. -/
def teamNeedsWrong : ChangeSpec := { name := "teamNeeds", fn := fun _ => fun
  | [d1, d2] => { results := [.lit (.bool false)], args := [d1, d2] }
  | _ => none }
def TeamNeedsWrongFalsely : Prop := teamNeedsRow.holds Tryz.pinned (OpenSpec.ofChange teamNeedsWrong)

/-- 'furrowworkslaw06.TeamSends': WHATEVER THE INPUT: true; the input reads as it did. -/
def teamSendsSpec : ChangeSpec := { name := "teamSends", fn := fun _ => fun
  | [d1, d2] => { results := [.lit (.bool true)], args := [d1, d2] }
  | _ => none }
def teamSendsRow : OpenClaim := { program := "ytlhpkhpgjccbpaagreat", sum := "a2d9b239ac7fb46077ae0b7e4a3e4b1ae0546cebbfc45fdaa8d143441b513c96", func := "furrowworks/furrowworkslaw06.TeamSends", spec := "teamSends", unfollowed := true, recurses := true, plainKeys := false, apart := false }
def TeamSendsSaid : Prop := teamSendsRow.holds Tryz.pinned (OpenSpec.ofChange teamSendsSpec)

/-- ITS FALSE NEIGHBOUR: 'it returns false'. Refute it at one input. -/
def teamSendsWrong : ChangeSpec := { name := "teamSends", fn := fun _ => fun
  | [d1, d2] => { results := [.lit (.bool false)], args := [d1, d2] }
  | _ => none }
def TeamSendsWrongFalsely : Prop := teamSendsRow.holds Tryz.pinned (OpenSpec.ofChange teamSendsWrong)

/-- 'furrowworkslaw06.TeamShort': WHATEVER THE INPUT: true; the input reads as it did. -/
def teamShortSpec : ChangeSpec := { name := "teamShort", fn := fun _ => fun
  | [d1, d2, d3, d4] => { results := [.lit (.bool true)], args := [d1, d2, d3, d4] }
  | _ => none }
def teamShortRow : OpenClaim := { program := "ytlhpkhpgjccbpaagreat", sum := "a2d9b239ac7fb46077ae0b7e4a3e4b1ae0546cebbfc45fdaa8d143441b513c96", func := "furrowworks/furrowworkslaw06.TeamShort", spec := "teamShort", unfollowed := true, recurses := true, plainKeys := false, apart := false }
def TeamShortSaid : Prop := teamShortRow.holds Tryz.pinned (OpenSpec.ofChange teamShortSpec)

/-- ITS FALSE NEIGHBOUR: 'it returns false'. Refute it at one input. -/
def teamShortWrong : ChangeSpec := { name := "teamShort", fn := fun _ => fun
  | [d1, d2, d3, d4] => { results := [.lit (.bool false)], args := [d1, d2, d3, d4] }
  | _ => none }
def TeamShortWrongFalsely : Prop := teamShortRow.holds Tryz.pinned (OpenSpec.ofChange teamShortWrong)

/- THE SECOND FORM. 'bulk': how many values and letters a reading holds, each counted each time it is reached (what is shared counts as often as it is met; a slice's spare places count too). A statement '..UptoSaid' is the law's where the arguments, and the package variables that the reading takes, are together of bulk at most 1048576: NARROWER than '..Said'. Prove '..Said' where nothing that the law and all that it calls make is longer than what came in: it says more and counts as full. Else prove '..UptoSaid'. A law counts once. -/
mutual
def uptoBulk {H : Type} : DataW H → Nat
  | .lit (.string bytes) => bytes.length + 1
  | .lit _ => 1
  | .nil => 1
  | .ptr d => uptoBulk d + 1
  | .slice elems spare => uptoBulkAll elems + uptoBulkAll spare + 1
  | .agg parts => uptoBulkAll parts + 1
  | .iface _ d => uptoBulk d + 1
  | .map entries => uptoBulkEntries entries + 1
  | .held _ => 1
def uptoBulkAll {H : Type} : List (DataW H) → Nat
  | [] => 0
  | d :: r => uptoBulk d + uptoBulkAll r
def uptoBulkEntries {H : Type} : List (Lit × DataW H) → Nat
  | [] => 0
  | x :: r => uptoBulkEntry x + uptoBulkEntries r
def uptoBulkEntry {H : Type} : Lit × DataW H → Nat
  | (.string bytes, d) => bytes.length + uptoBulk d + 1
  | (_, d) => uptoBulk d + 1
 end
def uptoSmall : (H : Type) → List (DataW H) → Bool := fun _ ds => decide (uptoBulkAll ds ≤ 1048576)
def OpenSpec.upto (s : _root_.Go.ChangeSpec) : _root_.Go.OpenSpec := { _root_.Go.OpenSpec.ofChange s with cond := some uptoSmall }

/-- 'furrowworkslaw06.TeamComes', WHERE WHAT IT READS IS OF BULK AT MOST 1048576: true; the input reads as it did. -/
def teamComesUptoRow : OpenClaim := { program := "ytlhpkhpgjccbpaagreat", sum := "a2d9b239ac7fb46077ae0b7e4a3e4b1ae0546cebbfc45fdaa8d143441b513c96", func := "furrowworks/furrowworkslaw06.TeamComes", spec := "teamComes", unfollowed := true, recurses := true, plainKeys := false, apart := false, narrowed := true }
def TeamComesUptoSaid : Prop := teamComesUptoRow.holds Tryz.pinned (OpenSpec.upto teamComesSpec)

/-- 'furrowworkslaw06.TeamNeeds', WHERE WHAT IT READS IS OF BULK AT MOST 1048576: true; the input reads as it did. -/
def teamNeedsUptoRow : OpenClaim := { program := "ytlhpkhpgjccbpaagreat", sum := "a2d9b239ac7fb46077ae0b7e4a3e4b1ae0546cebbfc45fdaa8d143441b513c96", func := "furrowworks/furrowworkslaw06.TeamNeeds", spec := "teamNeeds", unfollowed := true, recurses := true, plainKeys := false, apart := false, narrowed := true }
def TeamNeedsUptoSaid : Prop := teamNeedsUptoRow.holds Tryz.pinned (OpenSpec.upto teamNeedsSpec)

/-- 'furrowworkslaw06.TeamSends', WHERE WHAT IT READS IS OF BULK AT MOST 1048576: true; the input reads as it did. -/
def teamSendsUptoRow : OpenClaim := { program := "ytlhpkhpgjccbpaagreat", sum := "a2d9b239ac7fb46077ae0b7e4a3e4b1ae0546cebbfc45fdaa8d143441b513c96", func := "furrowworks/furrowworkslaw06.TeamSends", spec := "teamSends", unfollowed := true, recurses := true, plainKeys := false, apart := false, narrowed := true }
def TeamSendsUptoSaid : Prop := teamSendsUptoRow.holds Tryz.pinned (OpenSpec.upto teamSendsSpec)

/-- 'furrowworkslaw06.TeamShort', WHERE WHAT IT READS IS OF BULK AT MOST 1048576: true; the input reads as it did. -/
def teamShortUptoRow : OpenClaim := { program := "ytlhpkhpgjccbpaagreat", sum := "a2d9b239ac7fb46077ae0b7e4a3e4b1ae0546cebbfc45fdaa8d143441b513c96", func := "furrowworks/furrowworkslaw06.TeamShort", spec := "teamShort", unfollowed := true, recurses := true, plainKeys := false, apart := false, narrowed := true }
def TeamShortUptoSaid : Prop := teamShortUptoRow.holds Tryz.pinned (OpenSpec.upto teamShortSpec)

end Rows
end Go.Proofs.YtlhpkhpgjccbpaaGreat
