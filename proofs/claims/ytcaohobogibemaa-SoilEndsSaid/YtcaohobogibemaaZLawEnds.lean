/- The law SoilEnds returns true for every input, as its row says. No condition. -/
import Derived.Test.YtcaohobogibemaaM5
namespace Go.Proofs.Ytcaohobogibemaa.soilEnds
open Go Go.ChangeShapes Go.WideShapes Go.ChangeAt Go.RowKit AE AE.Soil

theorem own : ownKnob Try.prog.godebug = none := by kernel_rfl
set_option maxRecDepth 100000 in
theorem lifted (os : Os) (started : os.Started) (H : Type) (enc : TypeId × Value → H) :
    ReturnsInHanded {} Try.checked os 5 .any (Rows.soilEndsSpec.pre6 enc Try.prog Try.f5 Rows.soilEndsRow.domain false) (Rows.soilEndsSpec.post enc Try.prog Try.f5 false true false false) := by
  refine law_lifted (C := Try.checked) own started (by kernel_rfl) Try.func5
    (ChangeSpec.witness6 (enc := enc) (C := Try.checked) false ⟨#[], #[.agg #[.int .i64 0, .int .i64 0, .int .i64 0, .slice none 0 0], .int .u8 0], []⟩ 8 (by kernel_rfl) (by kernel_rfl) (by kernel_rfl) (by kernel_rfl))
    laidOut (by kernel_rfl) (rt := 4) rfl Try.underlying4 rfl (fun ds hd => ?_) fun W args ds ps hA hval => ?_
  · match ds, hd with
    | [d1, d2], _ => exact ⟨rfl, rfl, rfl⟩
  · have hA2 : DataW.TrodAll enc Try.prog W 0 (fun _ => true) true Try.f5.params.toList args.toList ds ps := hA
    rw [Try.params5] at hA2
    obtain ⟨v0, v1, d0, d1, p0, p1, rfl, rfl, rfl, h0, h1⟩ := trodAll_two hA2
    obtain ⟨x0, p, hb, hp, _, r0⟩ := open_ground h0
    obtain ⟨b1, o1⟩ := hval 1 5 v1 rfl rfl
    obtain ⟨n1, rfl, _, _, w1⟩ := open_int Try.underlying5 o1 h1
    exact walk_of (lawE_ok (x0, n1) ⟨hb, in_u8 w1⟩) hp (RepL.cons (r0 _ rfl) (RepL.cons (by simp [Rep]) (RepL.nil _)))
theorem over : Rows.soilEndsRow.holds Try.pinned (OpenSpec.ofChange Rows.soilEndsSpec) :=
  OpenClaim.holds_of_wide 5 Try.f5 rfl rfl rfl rfl rfl rfl rfl ⟨rfl, rfl, rfl, rfl, rfl⟩ rfl rfl rfl rfl rfl (by kernel_rfl) Try.func5 (by kernel_rfl)
    (of_decide_eq_true (by kernel_rfl)) (by unfold Func.isWrapper; first | (rw [if_pos (by decide +kernel)]; kernel_rfl) | (rw [if_neg (by decide +kernel)]; exact ⟨rfl, rfl⟩))
    (fun os started H enc _ => lifted os started H enc)
/-- The statement. -/
theorem proved : Rows.SoilEndsSaid := over
#print axioms proved
end Go.Proofs.Ytcaohobogibemaa.soilEnds
