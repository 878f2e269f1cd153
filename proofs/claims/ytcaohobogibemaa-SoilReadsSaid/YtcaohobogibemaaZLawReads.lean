/- The law SoilReads returns true for every input, as its row says. No condition. -/
import Derived.Test.YtcaohobogibemaaM5
namespace Go.Proofs.Ytcaohobogibemaa.soilReads
open Go Go.ChangeShapes Go.WideShapes Go.ChangeAt Go.RowKit AE AE.Soil

theorem own : ownKnob Try.prog.godebug = none := by kernel_rfl
set_option maxRecDepth 100000 in
theorem lifted (os : Os) (started : os.Started) (H : Type) (enc : TypeId × Value → H) :
    ReturnsInHanded {} Try.checked os 3 .any (Rows.soilReadsSpec.pre6 enc Try.prog Try.f3 Rows.soilReadsRow.domain false) (Rows.soilReadsSpec.post enc Try.prog Try.f3 false true false false) := by
  refine law_lifted (C := Try.checked) own started (by kernel_rfl) Try.func3
    (ChangeSpec.witness6 (enc := enc) (C := Try.checked) false ⟨#[], #[.agg #[.int .i64 0, .int .i64 0, .int .i64 0, .slice none 0 0], .int .i64 0, .int .i64 0], []⟩ 8 (by kernel_rfl) (by kernel_rfl) (by kernel_rfl) (by kernel_rfl))
    laidOut (by kernel_rfl) (rt := 4) rfl Try.underlying4 rfl (fun ds hd => ?_) fun W args ds ps hA hval => ?_
  · match ds, hd with
    | [d1, d2, d3], _ => exact ⟨rfl, rfl, rfl⟩
  · have hA2 : DataW.TrodAll enc Try.prog W 0 (fun _ => true) true Try.f3.params.toList args.toList ds ps := hA
    rw [Try.params3] at hA2
    obtain ⟨v0, v1, v2, d0, d1, d2, p0, p1, p2, rfl, rfl, rfl, h0, h1, h2⟩ := trodAll_three hA2
    obtain ⟨x0, p, hb, hp, _, r0⟩ := open_ground h0
    obtain ⟨b1, o1⟩ := hval 1 3 v1 rfl rfl
    obtain ⟨n1, rfl, _, _, w1⟩ := open_int Try.underlying3 o1 h1
    obtain ⟨b2, o2⟩ := hval 2 3 v2 rfl rfl
    obtain ⟨n2, rfl, _, _, w2⟩ := open_int Try.underlying3 o2 h2
    exact walk_of (lawR_ok (x0, n1, n2) hb) hp (RepL.cons (r0 _ rfl) (RepL.cons (by simp [Rep]) (RepL.cons (by simp [Rep]) (RepL.nil _))))
theorem over : Rows.soilReadsRow.holds Try.pinned (OpenSpec.ofChange Rows.soilReadsSpec) :=
  OpenClaim.holds_of_wide 3 Try.f3 rfl rfl rfl rfl rfl rfl rfl ⟨rfl, rfl, rfl, rfl, rfl⟩ rfl rfl rfl rfl rfl (by kernel_rfl) Try.func3 (by kernel_rfl)
    (of_decide_eq_true (by kernel_rfl)) (by unfold Func.isWrapper; first | (rw [if_pos (by decide +kernel)]; kernel_rfl) | (rw [if_neg (by decide +kernel)]; exact ⟨rfl, rfl⟩))
    (fun os started H enc _ => lifted os started H enc)
/-- The statement. -/
theorem proved : Rows.SoilReadsSaid := over
#print axioms proved
end Go.Proofs.Ytcaohobogibemaa.soilReads
