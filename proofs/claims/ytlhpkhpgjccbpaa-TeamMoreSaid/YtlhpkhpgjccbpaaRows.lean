/-
  No cell of these rows narrows 'for every input' (looked for: loops, veiled, ifaces, maps, wideKeys, modest, calm, conditions, laid).
  DERIVED. THE GIVEN ROWS OF THIS SEAT. 4 by the template 'for every input the law returns true; each argument reads behind the call as it read before'; 0 by the template 'total and deterministic' (their statements: YtlhpkhpgjccbpaaTotals.lean).
  GIVEN WITH THE SEED: the statements are not yours to turn. If you find one false, say at which input.
  Laid BY PROGRAM, IN A SANDBOX (cutbox-rows.mjs): the forced cells as the released guide's own fill.sh prints them over the translation 7879b1e845f32971… (all of the seat's roots in one cut). By AI agents, Wed Nov 11 2026. No macro, syntax, notation, axiom, sorry.
-/
import Derived.Test.YtlhpkhpgjccbpaaChecked
import GoSem.Claim
import GoSem.ClaimJoined
import GoSem.ClaimMapViews
import Derived.JoinedTies
import Derived.KernelRfl
namespace Go.Proofs.Ytlhpkhpgjccbpaa
/- THE CELL 'sum', in the pinned program and in every row, IS THE sha256 OF THE DUMP (.gsa) THAT YtlhpkhpgjccbpaaProg.lean LOADS. Nothing in Lean hashes anything: it is a label: what it is worth is what the hold of that sum in a sandbox is worth. -/
noncomputable def Try.pinned : Pinned := { name := "ytlhpkhpgjccbpaa", sum := "7879b1e845f32971219890141166caa69a9822a4349a37234ccbcb6f3e27e705", checked := Try.checked }
namespace Rows
def none {H : Type} : Left H := { results := [], args := [] }

/-- 'furrowworkslaw06.TeamNames': WHATEVER THE INPUT: true; the input reads as it did. -/
def teamNamesSpec : ChangeSpec := { name := "teamNames", fn := fun _ => fun
  | [] => { results := [.lit (.bool true)], args := [] }
  | _ => none }
def teamNamesRow : OpenClaim := { program := "ytlhpkhpgjccbpaa", sum := "7879b1e845f32971219890141166caa69a9822a4349a37234ccbcb6f3e27e705", func := "furrowworks/furrowworkslaw06.TeamNames", spec := "teamNames", unfollowed := true, recurses := true, plainKeys := false, apart := false }
def TeamNamesSaid : Prop := teamNamesRow.holds Try.pinned (OpenSpec.ofChange teamNamesSpec)

/-- ITS FALSE NEIGHBOUR: 'it returns false'. Refute it at one input. -/
def teamNamesWrong : ChangeSpec := { name := "teamNames", fn := fun _ => fun
  | [] => { results := [.lit (.bool false)], args := [] }
  | _ => none }
def TeamNamesWrongFalsely : Prop := teamNamesRow.holds Try.pinned (OpenSpec.ofChange teamNamesWrong)

/-- 'furrowworkslaw06.TeamRested': WHATEVER THE INPUT: true; the input reads as it did. -/
def teamRestedSpec : ChangeSpec := { name := "teamRested", fn := fun _ => fun
  | [d1, d2] => { results := [.lit (.bool true)], args := [d1, d2] }
  | _ => none }
def teamRestedRow : OpenClaim := { program := "ytlhpkhpgjccbpaa", sum := "7879b1e845f32971219890141166caa69a9822a4349a37234ccbcb6f3e27e705", func := "furrowworks/furrowworkslaw06.TeamRested", spec := "teamRested", unfollowed := true, recurses := true, plainKeys := false, apart := false }
def TeamRestedSaid : Prop := teamRestedRow.holds Try.pinned (OpenSpec.ofChange teamRestedSpec)

/-- ITS FALSE NEIGHBOUR: 'it returns false'. Refute it at one input. -/
def teamRestedWrong : ChangeSpec := { name := "teamRested", fn := fun _ => fun
  | [d1, d2] => { results := [.lit (.bool false)], args := [d1, d2] }
  | _ => none }
def TeamRestedWrongFalsely : Prop := teamRestedRow.holds Try.pinned (OpenSpec.ofChange teamRestedWrong)

/-- 'furrowworkslaw06.TeamMore': WHATEVER THE INPUT: true; the input reads as it did. -/
def teamMoreSpec : ChangeSpec := { name := "teamMore", fn := fun _ => fun
  | [d1, d2, d3, d4, d5] => { results := [.lit (.bool true)], args := [d1, d2, d3, d4, d5] }
  | _ => none }
def teamMoreRow : OpenClaim := { program := "ytlhpkhpgjccbpaa", sum := "7879b1e845f32971219890141166caa69a9822a4349a37234ccbcb6f3e27e705", func := "furrowworks/furrowworkslaw06.TeamMore", spec := "teamMore", unfollowed := true, recurses := true, plainKeys := false, apart := false }
def TeamMoreSaid : Prop := teamMoreRow.holds Try.pinned (OpenSpec.ofChange teamMoreSpec)

/-- ITS FALSE NEIGHBOUR: 'it returns false'. Refute it at one input. -/
def teamMoreWrong : ChangeSpec := { name := "teamMore", fn := fun _ => fun
  | [d1, d2, d3, d4, d5] => { results := [.lit (.bool false)], args := [d1, d2, d3, d4, d5] }
  | _ => none }
def TeamMoreWrongFalsely : Prop := teamMoreRow.holds Try.pinned (OpenSpec.ofChange teamMoreWrong)

/-- 'furrowworkslaw06.TeamTurned': WHATEVER THE INPUT: true; the input reads as it did. -/
def teamTurnedSpec : ChangeSpec := { name := "teamTurned", fn := fun _ => fun
  | [d1, d2, d3, d4] => { results := [.lit (.bool true)], args := [d1, d2, d3, d4] }
  | _ => none }
def teamTurnedRow : OpenClaim := { program := "ytlhpkhpgjccbpaa", sum := "7879b1e845f32971219890141166caa69a9822a4349a37234ccbcb6f3e27e705", func := "furrowworks/furrowworkslaw06.TeamTurned", spec := "teamTurned", unfollowed := true, recurses := true, plainKeys := false, apart := false }
def TeamTurnedSaid : Prop := teamTurnedRow.holds Try.pinned (OpenSpec.ofChange teamTurnedSpec)

/-- ITS FALSE NEIGHBOUR: 'it returns false'. Refute it at one input. -/
def teamTurnedWrong : ChangeSpec := { name := "teamTurned", fn := fun _ => fun
  | [d1, d2, d3, d4] => { results := [.lit (.bool false)], args := [d1, d2, d3, d4] }
  | _ => none }
def TeamTurnedWrongFalsely : Prop := teamTurnedRow.holds Try.pinned (OpenSpec.ofChange teamTurnedWrong)

/- THE SECOND FORM. 'bulk': how many values and letters a reading holds, each counted each time it is reached (what is shared counts as often as it is met; a slice's spare places count too). A statement '..UptoSaid' is the law's where the arguments, and the package variables that the reading takes, are together of bulk at most 1048576: NARROWER than '..Said'. Prove '..Said' where nothing that the law and all that it calls make is longer than what came in: it says more and counts as full. Else prove '..UptoSaid'. A law counts once. -/
mutual
def uptoBulk {H : Type} : DataW H → Nat
  | .lit (.string bytes) => bytes.length + 1
  | .lit _ => 1
  | .nil => 1
  | .ptr d => uptoBulk d + 1
  | .slice elems spare => uptoBulkAll elems + uptoBulkAll spare + 1
  | .agg parts => uptoBulkAll parts + 1
  | .iface _ d => uptoBulk d + 1
  | .map entries => uptoBulkEntries entries + 1
  | .held _ => 1
def uptoBulkAll {H : Type} : List (DataW H) → Nat
  | [] => 0
  | d :: r => uptoBulk d + uptoBulkAll r
def uptoBulkEntries {H : Type} : List (Lit × DataW H) → Nat
  | [] => 0
  | x :: r => uptoBulkEntry x + uptoBulkEntries r
def uptoBulkEntry {H : Type} : Lit × DataW H → Nat
  | (.string bytes, d) => bytes.length + uptoBulk d + 1
  | (_, d) => uptoBulk d + 1
 end
def uptoSmall : (H : Type) → List (DataW H) → Bool := fun _ ds => decide (uptoBulkAll ds ≤ 1048576)
def OpenSpec.upto (s : _root_.Go.ChangeSpec) : _root_.Go.OpenSpec := { _root_.Go.OpenSpec.ofChange s with cond := some uptoSmall }

/-- 'furrowworkslaw06.TeamNames', WHERE WHAT IT READS IS OF BULK AT MOST 1048576: true; the input reads as it did. -/
def teamNamesUptoRow : OpenClaim := { program := "ytlhpkhpgjccbpaa", sum := "7879b1e845f32971219890141166caa69a9822a4349a37234ccbcb6f3e27e705", func := "furrowworks/furrowworkslaw06.TeamNames", spec := "teamNames", unfollowed := true, recurses := true, plainKeys := false, apart := false, narrowed := true }
def TeamNamesUptoSaid : Prop := teamNamesUptoRow.holds Try.pinned (OpenSpec.upto teamNamesSpec)

/-- 'furrowworkslaw06.TeamRested', WHERE WHAT IT READS IS OF BULK AT MOST 1048576: true; the input reads as it did. -/
def teamRestedUptoRow : OpenClaim := { program := "ytlhpkhpgjccbpaa", sum := "7879b1e845f32971219890141166caa69a9822a4349a37234ccbcb6f3e27e705", func := "furrowworks/furrowworkslaw06.TeamRested", spec := "teamRested", unfollowed := true, recurses := true, plainKeys := false, apart := false, narrowed := true }
def TeamRestedUptoSaid : Prop := teamRestedUptoRow.holds Try.pinned (OpenSpec.upto teamRestedSpec)

/-- 'furrowworkslaw06.TeamMore', WHERE WHAT IT READS IS OF BULK AT MOST 1048576: true; the input reads as it did. -/
def teamMoreUptoRow : OpenClaim := { program := "ytlhpkhpgjccbpaa", sum := "7879b1e845f32971219890141166caa69a9822a4349a37234ccbcb6f3e27e705", func := "furrowworks/furrowworkslaw06.TeamMore", spec := "teamMore", unfollowed := true, recurses := true, plainKeys := false, apart := false, narrowed := true }
def TeamMoreUptoSaid : Prop := teamMoreUptoRow.holds Try.pinned (OpenSpec.upto teamMoreSpec)

/-- 'furrowworkslaw06.TeamTurned', WHERE WHAT IT READS IS OF BULK AT MOST 1048576: true; the input reads as it did. -/
def teamTurnedUptoRow : OpenClaim := { program := "ytlhpkhpgjccbpaa", sum := "7879b1e845f32971219890141166caa69a9822a4349a37234ccbcb6f3e27e705", func := "furrowworks/furrowworkslaw06.TeamTurned", spec := "teamTurned", unfollowed := true, recurses := true, plainKeys := false, apart := false, narrowed := true }
def TeamTurnedUptoSaid : Prop := teamTurnedUptoRow.holds Try.pinned (OpenSpec.upto teamTurnedSpec)

end Rows
end Go.Proofs.Ytlhpkhpgjccbpaa
