/-
  No cell of these rows narrows 'for every input' (looked for: loops, veiled, ifaces, maps, wideKeys, modest, calm, conditions, laid).
  DERIVED. THE GIVEN ROWS OF THIS SEAT. 9 by the template 'for every input the law returns true; each argument reads behind the call as it read before'; 0 by the template 'total and deterministic' (their statements: YtfhpdgmhdppggaaTotals.lean).
  GIVEN WITH THE SEED: the statements are not yours to turn. If you find one false, say at which input.
  Laid BY PROGRAM, IN A SANDBOX (cutbox-rows.mjs): the forced cells as the released guide's own fill.sh prints them over the translation e4073387e9278da8… (all of the seat's roots in one cut). By AI agents, Wed Nov 11 2026. No macro, syntax, notation, axiom, sorry.
-/
import Derived.Test.YtfhpdgmhdppggaaChecked
import GoSem.Claim
import GoSem.ClaimJoined
import GoSem.ClaimMapViews
import Derived.JoinedTies
import Derived.KernelRfl
namespace Go.Proofs.Ytfhpdgmhdppggaa
/- THE CELL 'sum', in the pinned program and in every row, IS THE sha256 OF THE DUMP (.gsa) THAT YtfhpdgmhdppggaaProg.lean LOADS. Nothing in Lean hashes anything: it is a label: what it is worth is what the hold of that sum in a sandbox is worth. -/
noncomputable def Try.pinned : Pinned := { name := "ytfhpdgmhdppggaa", sum := "e4073387e9278da811e752ae2cfbabe52c57be6f2d20331ca4583b375ce64dfd", checked := Try.checked }
namespace Rows
def none {H : Type} : Left H := { results := [], args := [] }

/-- 'furrowworkslaw12.ProtestTells': WHATEVER THE INPUT: true; the input reads as it did. -/
def protestTellsSpec : ChangeSpec := { name := "protestTells", fn := fun _ => fun
  | [d1, d2, d3, d4] => { results := [.lit (.bool true)], args := [d1, d2, d3, d4] }
  | _ => none }
def protestTellsRow : OpenClaim := { program := "ytfhpdgmhdppggaa", sum := "e4073387e9278da811e752ae2cfbabe52c57be6f2d20331ca4583b375ce64dfd", func := "furrowworks/furrowworkslaw12.ProtestTells", spec := "protestTells", unfollowed := true, recurses := true, apart := false }
def ProtestTellsSaid : Prop := protestTellsRow.holds Try.pinned (OpenSpec.ofChange protestTellsSpec)

/-- ITS FALSE NEIGHBOUR: 'it returns false'. Refute it at one input. -/
def protestTellsWrong : ChangeSpec := { name := "protestTells", fn := fun _ => fun
  | [d1, d2, d3, d4] => { results := [.lit (.bool false)], args := [d1, d2, d3, d4] }
  | _ => none }
def ProtestTellsWrongFalsely : Prop := protestTellsRow.holds Try.pinned (OpenSpec.ofChange protestTellsWrong)

/-- 'furrowworkslaw12.ProtestNamesWho': WHATEVER THE INPUT: true; the input reads as it did. -/
def protestNamesWhoSpec : ChangeSpec := { name := "protestNamesWho", fn := fun _ => fun
  | [d1, d2] => { results := [.lit (.bool true)], args := [d1, d2] }
  | _ => none }
def protestNamesWhoRow : OpenClaim := { program := "ytfhpdgmhdppggaa", sum := "e4073387e9278da811e752ae2cfbabe52c57be6f2d20331ca4583b375ce64dfd", func := "furrowworks/furrowworkslaw12.ProtestNamesWho", spec := "protestNamesWho", unfollowed := true, recurses := true, apart := false }
def ProtestNamesWhoSaid : Prop := protestNamesWhoRow.holds Try.pinned (OpenSpec.ofChange protestNamesWhoSpec)

/-- ITS FALSE NEIGHBOUR: 'it returns false'. Refute it at one input. -/
def protestNamesWhoWrong : ChangeSpec := { name := "protestNamesWho", fn := fun _ => fun
  | [d1, d2] => { results := [.lit (.bool false)], args := [d1, d2] }
  | _ => none }
def ProtestNamesWhoWrongFalsely : Prop := protestNamesWhoRow.holds Try.pinned (OpenSpec.ofChange protestNamesWhoWrong)

/-- 'furrowworkslaw12.ProtestNames': WHATEVER THE INPUT: true; the input reads as it did. -/
def protestNamesSpec : ChangeSpec := { name := "protestNames", fn := fun _ => fun
  | [] => { results := [.lit (.bool true)], args := [] }
  | _ => none }
def protestNamesRow : OpenClaim := { program := "ytfhpdgmhdppggaa", sum := "e4073387e9278da811e752ae2cfbabe52c57be6f2d20331ca4583b375ce64dfd", func := "furrowworks/furrowworkslaw12.ProtestNames", spec := "protestNames", unfollowed := true, recurses := true, apart := false }
def ProtestNamesSaid : Prop := protestNamesRow.holds Try.pinned (OpenSpec.ofChange protestNamesSpec)

/-- ITS FALSE NEIGHBOUR: 'it returns false'. Refute it at one input. -/
def protestNamesWrong : ChangeSpec := { name := "protestNames", fn := fun _ => fun
  | [] => { results := [.lit (.bool false)], args := [] }
  | _ => none }
def ProtestNamesWrongFalsely : Prop := protestNamesRow.holds Try.pinned (OpenSpec.ofChange protestNamesWrong)

/-- 'furrowworkslaw12.ProtestTrue': WHATEVER THE INPUT: true; the input reads as it did. -/
def protestTrueSpec : ChangeSpec := { name := "protestTrue", fn := fun _ => fun
  | [d] => { results := [.lit (.bool true)], args := [d] }
  | _ => none }
def protestTrueRow : OpenClaim := { program := "ytfhpdgmhdppggaa", sum := "e4073387e9278da811e752ae2cfbabe52c57be6f2d20331ca4583b375ce64dfd", func := "furrowworks/furrowworkslaw12.ProtestTrue", spec := "protestTrue", unfollowed := true, recurses := true, apart := false }
def ProtestTrueSaid : Prop := protestTrueRow.holds Try.pinned (OpenSpec.ofChange protestTrueSpec)

/-- ITS FALSE NEIGHBOUR: 'it returns false'. Refute it at one input. -/
def protestTrueWrong : ChangeSpec := { name := "protestTrue", fn := fun _ => fun
  | [d] => { results := [.lit (.bool false)], args := [d] }
  | _ => none }
def ProtestTrueWrongFalsely : Prop := protestTrueRow.holds Try.pinned (OpenSpec.ofChange protestTrueWrong)

/-- 'furrowworkslaw12.ProtestFirst': WHATEVER THE INPUT: true; the input reads as it did. -/
def protestFirstSpec : ChangeSpec := { name := "protestFirst", fn := fun _ => fun
  | [d1, d2, d3] => { results := [.lit (.bool true)], args := [d1, d2, d3] }
  | _ => none }
def protestFirstRow : OpenClaim := { program := "ytfhpdgmhdppggaa", sum := "e4073387e9278da811e752ae2cfbabe52c57be6f2d20331ca4583b375ce64dfd", func := "furrowworks/furrowworkslaw12.ProtestFirst", spec := "protestFirst", unfollowed := true, recurses := true, apart := false }
def ProtestFirstSaid : Prop := protestFirstRow.holds Try.pinned (OpenSpec.ofChange protestFirstSpec)

/-- ITS FALSE NEIGHBOUR: 'it returns false'. Refute it at one input. -/
def protestFirstWrong : ChangeSpec := { name := "protestFirst", fn := fun _ => fun
  | [d1, d2, d3] => { results := [.lit (.bool false)], args := [d1, d2, d3] }
  | _ => none }
def ProtestFirstWrongFalsely : Prop := protestFirstRow.holds Try.pinned (OpenSpec.ofChange protestFirstWrong)

/-- 'furrowworkslaw12.ProtestProof': WHATEVER THE INPUT: true; the input reads as it did. -/
def protestProofSpec : ChangeSpec := { name := "protestProof", fn := fun _ => fun
  | [d1, d2, d3] => { results := [.lit (.bool true)], args := [d1, d2, d3] }
  | _ => none }
def protestProofRow : OpenClaim := { program := "ytfhpdgmhdppggaa", sum := "e4073387e9278da811e752ae2cfbabe52c57be6f2d20331ca4583b375ce64dfd", func := "furrowworks/furrowworkslaw12.ProtestProof", spec := "protestProof", unfollowed := true, recurses := true, apart := false }
def ProtestProofSaid : Prop := protestProofRow.holds Try.pinned (OpenSpec.ofChange protestProofSpec)

/-- ITS FALSE NEIGHBOUR: 'it returns false'. Refute it at one input. -/
def protestProofWrong : ChangeSpec := { name := "protestProof", fn := fun _ => fun
  | [d1, d2, d3] => { results := [.lit (.bool false)], args := [d1, d2, d3] }
  | _ => none }
def ProtestProofWrongFalsely : Prop := protestProofRow.holds Try.pinned (OpenSpec.ofChange protestProofWrong)

/-- 'furrowworkslaw12.ProtestClash': WHATEVER THE INPUT: true; the input reads as it did. -/
def protestClashSpec : ChangeSpec := { name := "protestClash", fn := fun _ => fun
  | [d1, d2] => { results := [.lit (.bool true)], args := [d1, d2] }
  | _ => none }
def protestClashRow : OpenClaim := { program := "ytfhpdgmhdppggaa", sum := "e4073387e9278da811e752ae2cfbabe52c57be6f2d20331ca4583b375ce64dfd", func := "furrowworks/furrowworkslaw12.ProtestClash", spec := "protestClash", unfollowed := true, recurses := true, apart := false }
def ProtestClashSaid : Prop := protestClashRow.holds Try.pinned (OpenSpec.ofChange protestClashSpec)

/-- ITS FALSE NEIGHBOUR: 'it returns false'. Refute it at one input. -/
def protestClashWrong : ChangeSpec := { name := "protestClash", fn := fun _ => fun
  | [d1, d2] => { results := [.lit (.bool false)], args := [d1, d2] }
  | _ => none }
def ProtestClashWrongFalsely : Prop := protestClashRow.holds Try.pinned (OpenSpec.ofChange protestClashWrong)

/-- 'furrowworkslaw12.ProtestMore': WHATEVER THE INPUT: true; the input reads as it did. -/
def protestMoreSpec : ChangeSpec := { name := "protestMore", fn := fun _ => fun
  | [d1, d2, d3] => { results := [.lit (.bool true)], args := [d1, d2, d3] }
  | _ => none }
def protestMoreRow : OpenClaim := { program := "ytfhpdgmhdppggaa", sum := "e4073387e9278da811e752ae2cfbabe52c57be6f2d20331ca4583b375ce64dfd", func := "furrowworks/furrowworkslaw12.ProtestMore", spec := "protestMore", unfollowed := true, recurses := true, apart := false }
def ProtestMoreSaid : Prop := protestMoreRow.holds Try.pinned (OpenSpec.ofChange protestMoreSpec)

/-- ITS FALSE NEIGHBOUR: 'it returns false'. Refute it at one input. -/
def protestMoreWrong : ChangeSpec := { name := "protestMore", fn := fun _ => fun
  | [d1, d2, d3] => { results := [.lit (.bool false)], args := [d1, d2, d3] }
  | _ => none }
def ProtestMoreWrongFalsely : Prop := protestMoreRow.holds Try.pinned (OpenSpec.ofChange protestMoreWrong)

/-- 'furrowworkslaw12.ProtestTurned': WHATEVER THE INPUT: true; the input reads as it did. -/
def protestTurnedSpec : ChangeSpec := { name := "protestTurned", fn := fun _ => fun
  | [d1, d2, d3, d4] => { results := [.lit (.bool true)], args := [d1, d2, d3, d4] }
  | _ => none }
def protestTurnedRow : OpenClaim := { program := "ytfhpdgmhdppggaa", sum := "e4073387e9278da811e752ae2cfbabe52c57be6f2d20331ca4583b375ce64dfd", func := "furrowworks/furrowworkslaw12.ProtestTurned", spec := "protestTurned", unfollowed := true, recurses := true, apart := false }
def ProtestTurnedSaid : Prop := protestTurnedRow.holds Try.pinned (OpenSpec.ofChange protestTurnedSpec)

/-- ITS FALSE NEIGHBOUR: 'it returns false'. Refute it at one input. -/
def protestTurnedWrong : ChangeSpec := { name := "protestTurned", fn := fun _ => fun
  | [d1, d2, d3, d4] => { results := [.lit (.bool false)], args := [d1, d2, d3, d4] }
  | _ => none }
def ProtestTurnedWrongFalsely : Prop := protestTurnedRow.holds Try.pinned (OpenSpec.ofChange protestTurnedWrong)

/- THE SECOND FORM. 'bulk': how many values and letters a reading holds, each counted each time it is reached (what is shared counts as often as it is met; a slice's spare places count too). A statement '..UptoSaid' is the law's where the arguments, and the package variables that the reading takes, are together of bulk at most 1048576: NARROWER than '..Said'. Prove '..Said' where nothing that the law and all that it calls make is longer than what came in: it says more and counts as full. Else prove '..UptoSaid'. A law counts once. -/
mutual
def uptoBulk {H : Type} : DataW H → Nat
  | .lit (.string bytes) => bytes.length + 1
  | .lit _ => 1
  | .nil => 1
  | .ptr d => uptoBulk d + 1
  | .slice elems spare => uptoBulkAll elems + uptoBulkAll spare + 1
  | .agg parts => uptoBulkAll parts + 1
  | .iface _ d => uptoBulk d + 1
  | .map entries => uptoBulkEntries entries + 1
  | .held _ => 1
def uptoBulkAll {H : Type} : List (DataW H) → Nat
  | [] => 0
  | d :: r => uptoBulk d + uptoBulkAll r
def uptoBulkEntries {H : Type} : List (Lit × DataW H) → Nat
  | [] => 0
  | x :: r => uptoBulkEntry x + uptoBulkEntries r
def uptoBulkEntry {H : Type} : Lit × DataW H → Nat
  | (.string bytes, d) => bytes.length + uptoBulk d + 1
  | (_, d) => uptoBulk d + 1
 end
def uptoSmall : (H : Type) → List (DataW H) → Bool := fun _ ds => decide (uptoBulkAll ds ≤ 1048576)
def OpenSpec.upto (s : _root_.Go.ChangeSpec) : _root_.Go.OpenSpec := { _root_.Go.OpenSpec.ofChange s with cond := some uptoSmall }

/-- 'furrowworkslaw12.ProtestTells', WHERE WHAT IT READS IS OF BULK AT MOST 1048576: true; the input reads as it did. -/
def protestTellsUptoRow : OpenClaim := { program := "ytfhpdgmhdppggaa", sum := "e4073387e9278da811e752ae2cfbabe52c57be6f2d20331ca4583b375ce64dfd", func := "furrowworks/furrowworkslaw12.ProtestTells", spec := "protestTells", unfollowed := true, recurses := true, apart := false, narrowed := true }
def ProtestTellsUptoSaid : Prop := protestTellsUptoRow.holds Try.pinned (OpenSpec.upto protestTellsSpec)

/-- 'furrowworkslaw12.ProtestNamesWho', WHERE WHAT IT READS IS OF BULK AT MOST 1048576: true; the input reads as it did. -/
def protestNamesWhoUptoRow : OpenClaim := { program := "ytfhpdgmhdppggaa", sum := "e4073387e9278da811e752ae2cfbabe52c57be6f2d20331ca4583b375ce64dfd", func := "furrowworks/furrowworkslaw12.ProtestNamesWho", spec := "protestNamesWho", unfollowed := true, recurses := true, apart := false, narrowed := true }
def ProtestNamesWhoUptoSaid : Prop := protestNamesWhoUptoRow.holds Try.pinned (OpenSpec.upto protestNamesWhoSpec)

/-- 'furrowworkslaw12.ProtestNames', WHERE WHAT IT READS IS OF BULK AT MOST 1048576: true; the input reads as it did. -/
def protestNamesUptoRow : OpenClaim := { program := "ytfhpdgmhdppggaa", sum := "e4073387e9278da811e752ae2cfbabe52c57be6f2d20331ca4583b375ce64dfd", func := "furrowworks/furrowworkslaw12.ProtestNames", spec := "protestNames", unfollowed := true, recurses := true, apart := false, narrowed := true }
def ProtestNamesUptoSaid : Prop := protestNamesUptoRow.holds Try.pinned (OpenSpec.upto protestNamesSpec)

/-- 'furrowworkslaw12.ProtestTrue', WHERE WHAT IT READS IS OF BULK AT MOST 1048576: true; the input reads as it did. -/
def protestTrueUptoRow : OpenClaim := { program := "ytfhpdgmhdppggaa", sum := "e4073387e9278da811e752ae2cfbabe52c57be6f2d20331ca4583b375ce64dfd", func := "furrowworks/furrowworkslaw12.ProtestTrue", spec := "protestTrue", unfollowed := true, recurses := true, apart := false, narrowed := true }
def ProtestTrueUptoSaid : Prop := protestTrueUptoRow.holds Try.pinned (OpenSpec.upto protestTrueSpec)

/-- 'furrowworkslaw12.ProtestFirst', WHERE WHAT IT READS IS OF BULK AT MOST 1048576: true; the input reads as it did. -/
def protestFirstUptoRow : OpenClaim := { program := "ytfhpdgmhdppggaa", sum := "e4073387e9278da811e752ae2cfbabe52c57be6f2d20331ca4583b375ce64dfd", func := "furrowworks/furrowworkslaw12.ProtestFirst", spec := "protestFirst", unfollowed := true, recurses := true, apart := false, narrowed := true }
def ProtestFirstUptoSaid : Prop := protestFirstUptoRow.holds Try.pinned (OpenSpec.upto protestFirstSpec)

/-- 'furrowworkslaw12.ProtestProof', WHERE WHAT IT READS IS OF BULK AT MOST 1048576: true; the input reads as it did. -/
def protestProofUptoRow : OpenClaim := { program := "ytfhpdgmhdppggaa", sum := "e4073387e9278da811e752ae2cfbabe52c57be6f2d20331ca4583b375ce64dfd", func := "furrowworks/furrowworkslaw12.ProtestProof", spec := "protestProof", unfollowed := true, recurses := true, apart := false, narrowed := true }
def ProtestProofUptoSaid : Prop := protestProofUptoRow.holds Try.pinned (OpenSpec.upto protestProofSpec)

/-- 'furrowworkslaw12.ProtestClash', WHERE WHAT IT READS IS OF BULK AT MOST 1048576: true; the input reads as it did. -/
def protestClashUptoRow : OpenClaim := { program := "ytfhpdgmhdppggaa", sum := "e4073387e9278da811e752ae2cfbabe52c57be6f2d20331ca4583b375ce64dfd", func := "furrowworks/furrowworkslaw12.ProtestClash", spec := "protestClash", unfollowed := true, recurses := true, apart := false, narrowed := true }
def ProtestClashUptoSaid : Prop := protestClashUptoRow.holds Try.pinned (OpenSpec.upto protestClashSpec)

/-- 'furrowworkslaw12.ProtestMore', WHERE WHAT IT READS IS OF BULK AT MOST 1048576: true; the input reads as it did. -/
def protestMoreUptoRow : OpenClaim := { program := "ytfhpdgmhdppggaa", sum := "e4073387e9278da811e752ae2cfbabe52c57be6f2d20331ca4583b375ce64dfd", func := "furrowworks/furrowworkslaw12.ProtestMore", spec := "protestMore", unfollowed := true, recurses := true, apart := false, narrowed := true }
def ProtestMoreUptoSaid : Prop := protestMoreUptoRow.holds Try.pinned (OpenSpec.upto protestMoreSpec)

/-- 'furrowworkslaw12.ProtestTurned', WHERE WHAT IT READS IS OF BULK AT MOST 1048576: true; the input reads as it did. -/
def protestTurnedUptoRow : OpenClaim := { program := "ytfhpdgmhdppggaa", sum := "e4073387e9278da811e752ae2cfbabe52c57be6f2d20331ca4583b375ce64dfd", func := "furrowworks/furrowworkslaw12.ProtestTurned", spec := "protestTurned", unfollowed := true, recurses := true, apart := false, narrowed := true }
def ProtestTurnedUptoSaid : Prop := protestTurnedUptoRow.holds Try.pinned (OpenSpec.upto protestTurnedSpec)

end Rows
end Go.Proofs.Ytfhpdgmhdppggaa
