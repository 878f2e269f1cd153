/-
  No cell of these rows narrows 'for every input' (looked for: loops, veiled, ifaces, maps, wideKeys, modest, calm, conditions, laid).
  DERIVED. THE GIVEN ROWS OF THIS SEAT. 4 by the template 'for every input the law returns true; each argument reads behind the call as it read before'; 0 by the template 'total and deterministic' (their statements: YtcaohobogibemaaTotals.lean).
  GIVEN WITH THE SEED: the statements are not yours to turn. If you find one false, say at which input.
  Laid BY PROGRAM, IN A SANDBOX (cutbox-rows.mjs): the forced cells as the released guide's own fill.sh prints them over the translation d62f8bfe5076fcff… (all of the seat's roots in one cut). By AI agents, Wed Nov 11 2026. No macro, syntax, notation, axiom, sorry.
-/
import Derived.Test.YtcaohobogibemaaChecked
import GoSem.Claim
import GoSem.ClaimJoined
import GoSem.ClaimMapViews
import Derived.JoinedTies
import Derived.KernelRfl
namespace Go.Proofs.Ytcaohobogibemaa
/- THE CELL 'sum', in the pinned program and in every row, IS THE sha256 OF THE DUMP (.gsa) THAT YtcaohobogibemaaProg.lean LOADS. Nothing in Lean hashes anything: it is a label: what it is worth is what the hold of that sum in a sandbox is worth. -/
noncomputable def Try.pinned : Pinned := { name := "ytcaohobogibemaa", sum := "d62f8bfe5076fcff94cac879b6f152dbf21cee27994204afe0e6f663b2741e65", checked := Try.checked }
namespace Rows
def none {H : Type} : Left H := { results := [], args := [] }

/-- 'furrowworkslaw02.SoilReads': WHATEVER THE INPUT: true; the input reads as it did. -/
def soilReadsSpec : ChangeSpec := { name := "soilReads", fn := fun _ => fun
  | [d1, d2, d3] => { results := [.lit (.bool true)], args := [d1, d2, d3] }
  | _ => none }
def soilReadsRow : OpenClaim := { program := "ytcaohobogibemaa", sum := "d62f8bfe5076fcff94cac879b6f152dbf21cee27994204afe0e6f663b2741e65", func := "furrowworks/furrowworkslaw02.SoilReads", spec := "soilReads", unfollowed := true, recurses := true, apart := false }
def SoilReadsSaid : Prop := soilReadsRow.holds Try.pinned (OpenSpec.ofChange soilReadsSpec)

/-- ITS FALSE NEIGHBOUR: 'it returns false'. Refute it at one input. -/
def soilReadsWrong : ChangeSpec := { name := "soilReads", fn := fun _ => fun
  | [d1, d2, d3] => { results := [.lit (.bool false)], args := [d1, d2, d3] }
  | _ => none }
def SoilReadsWrongFalsely : Prop := soilReadsRow.holds Try.pinned (OpenSpec.ofChange soilReadsWrong)

/-- 'furrowworkslaw02.SoilTrue': WHATEVER THE INPUT: true; the input reads as it did. -/
def soilTrueSpec : ChangeSpec := { name := "soilTrue", fn := fun _ => fun
  | [d1, d2, d3] => { results := [.lit (.bool true)], args := [d1, d2, d3] }
  | _ => none }
def soilTrueRow : OpenClaim := { program := "ytcaohobogibemaa", sum := "d62f8bfe5076fcff94cac879b6f152dbf21cee27994204afe0e6f663b2741e65", func := "furrowworks/furrowworkslaw02.SoilTrue", spec := "soilTrue", unfollowed := true, recurses := true, apart := false }
def SoilTrueSaid : Prop := soilTrueRow.holds Try.pinned (OpenSpec.ofChange soilTrueSpec)

/-- ITS FALSE NEIGHBOUR: 'it returns false'. Refute it at one input. -/
def soilTrueWrong : ChangeSpec := { name := "soilTrue", fn := fun _ => fun
  | [d1, d2, d3] => { results := [.lit (.bool false)], args := [d1, d2, d3] }
  | _ => none }
def SoilTrueWrongFalsely : Prop := soilTrueRow.holds Try.pinned (OpenSpec.ofChange soilTrueWrong)

/-- 'furrowworkslaw02.SoilEnds': WHATEVER THE INPUT: true; the input reads as it did. -/
def soilEndsSpec : ChangeSpec := { name := "soilEnds", fn := fun _ => fun
  | [d1, d2] => { results := [.lit (.bool true)], args := [d1, d2] }
  | _ => none }
def soilEndsRow : OpenClaim := { program := "ytcaohobogibemaa", sum := "d62f8bfe5076fcff94cac879b6f152dbf21cee27994204afe0e6f663b2741e65", func := "furrowworks/furrowworkslaw02.SoilEnds", spec := "soilEnds", unfollowed := true, recurses := true, apart := false }
def SoilEndsSaid : Prop := soilEndsRow.holds Try.pinned (OpenSpec.ofChange soilEndsSpec)

/-- ITS FALSE NEIGHBOUR: 'it returns false'. Refute it at one input. -/
def soilEndsWrong : ChangeSpec := { name := "soilEnds", fn := fun _ => fun
  | [d1, d2] => { results := [.lit (.bool false)], args := [d1, d2] }
  | _ => none }
def SoilEndsWrongFalsely : Prop := soilEndsRow.holds Try.pinned (OpenSpec.ofChange soilEndsWrong)

/-- 'furrowworkslaw02.SoilWork': WHATEVER THE INPUT: true; the input reads as it did. -/
def soilWorkSpec : ChangeSpec := { name := "soilWork", fn := fun _ => fun
  | [d1, d2, d3, d4] => { results := [.lit (.bool true)], args := [d1, d2, d3, d4] }
  | _ => none }
def soilWorkRow : OpenClaim := { program := "ytcaohobogibemaa", sum := "d62f8bfe5076fcff94cac879b6f152dbf21cee27994204afe0e6f663b2741e65", func := "furrowworks/furrowworkslaw02.SoilWork", spec := "soilWork", unfollowed := true, recurses := true, apart := false }
def SoilWorkSaid : Prop := soilWorkRow.holds Try.pinned (OpenSpec.ofChange soilWorkSpec)

/-- ITS FALSE NEIGHBOUR: 'it returns false'. Refute it at one input. -/
def soilWorkWrong : ChangeSpec := { name := "soilWork", fn := fun _ => fun
  | [d1, d2, d3, d4] => { results := [.lit (.bool false)], args := [d1, d2, d3, d4] }
  | _ => none }
def SoilWorkWrongFalsely : Prop := soilWorkRow.holds Try.pinned (OpenSpec.ofChange soilWorkWrong)

/- THE SECOND FORM. 'bulk': how many values and letters a reading holds, each counted each time it is reached (what is shared counts as often as it is met; a slice's spare places count too). A statement '..UptoSaid' is the law's where the arguments, and the package variables that the reading takes, are together of bulk at most 1048576: NARROWER than '..Said'. Prove '..Said' where nothing that the law and all that it calls make is longer than what came in: it says more and counts as full. Else prove '..UptoSaid'. A law counts once. -/
mutual
def uptoBulk {H : Type} : DataW H → Nat
  | .lit (.string bytes) => bytes.length + 1
  | .lit _ => 1
  | .nil => 1
  | .ptr d => uptoBulk d + 1
  | .slice elems spare => uptoBulkAll elems + uptoBulkAll spare + 1
  | .agg parts => uptoBulkAll parts + 1
  | .iface _ d => uptoBulk d + 1
  | .map entries => uptoBulkEntries entries + 1
  | .held _ => 1
def uptoBulkAll {H : Type} : List (DataW H) → Nat
  | [] => 0
  | d :: r => uptoBulk d + uptoBulkAll r
def uptoBulkEntries {H : Type} : List (Lit × DataW H) → Nat
  | [] => 0
  | x :: r => uptoBulkEntry x + uptoBulkEntries r
def uptoBulkEntry {H : Type} : Lit × DataW H → Nat
  | (.string bytes, d) => bytes.length + uptoBulk d + 1
  | (_, d) => uptoBulk d + 1
 end
def uptoSmall : (H : Type) → List (DataW H) → Bool := fun _ ds => decide (uptoBulkAll ds ≤ 1048576)
def OpenSpec.upto (s : _root_.Go.ChangeSpec) : _root_.Go.OpenSpec := { _root_.Go.OpenSpec.ofChange s with cond := some uptoSmall }

/-- 'furrowworkslaw02.SoilReads', WHERE WHAT IT READS IS OF BULK AT MOST 1048576: true; the input reads as it did. -/
def soilReadsUptoRow : OpenClaim := { program := "ytcaohobogibemaa", sum := "d62f8bfe5076fcff94cac879b6f152dbf21cee27994204afe0e6f663b2741e65", func := "furrowworks/furrowworkslaw02.SoilReads", spec := "soilReads", unfollowed := true, recurses := true, apart := false, narrowed := true }
def SoilReadsUptoSaid : Prop := soilReadsUptoRow.holds Try.pinned (OpenSpec.upto soilReadsSpec)

/-- 'furrowworkslaw02.SoilTrue', WHERE WHAT IT READS IS OF BULK AT MOST 1048576: true; the input reads as it did. -/
def soilTrueUptoRow : OpenClaim := { program := "ytcaohobogibemaa", sum := "d62f8bfe5076fcff94cac879b6f152dbf21cee27994204afe0e6f663b2741e65", func := "furrowworks/furrowworkslaw02.SoilTrue", spec := "soilTrue", unfollowed := true, recurses := true, apart := false, narrowed := true }
def SoilTrueUptoSaid : Prop := soilTrueUptoRow.holds Try.pinned (OpenSpec.upto soilTrueSpec)

/-- 'furrowworkslaw02.SoilEnds', WHERE WHAT IT READS IS OF BULK AT MOST 1048576: true; the input reads as it did. -/
def soilEndsUptoRow : OpenClaim := { program := "ytcaohobogibemaa", sum := "d62f8bfe5076fcff94cac879b6f152dbf21cee27994204afe0e6f663b2741e65", func := "furrowworks/furrowworkslaw02.SoilEnds", spec := "soilEnds", unfollowed := true, recurses := true, apart := false, narrowed := true }
def SoilEndsUptoSaid : Prop := soilEndsUptoRow.holds Try.pinned (OpenSpec.upto soilEndsSpec)

/-- 'furrowworkslaw02.SoilWork', WHERE WHAT IT READS IS OF BULK AT MOST 1048576: true; the input reads as it did. -/
def soilWorkUptoRow : OpenClaim := { program := "ytcaohobogibemaa", sum := "d62f8bfe5076fcff94cac879b6f152dbf21cee27994204afe0e6f663b2741e65", func := "furrowworks/furrowworkslaw02.SoilWork", spec := "soilWork", unfollowed := true, recurses := true, apart := false, narrowed := true }
def SoilWorkUptoSaid : Prop := soilWorkUptoRow.holds Try.pinned (OpenSpec.upto soilWorkSpec)

end Rows
end Go.Proofs.Ytcaohobogibemaa
