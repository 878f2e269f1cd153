/- The law TeamNeeds returns true for every input, as its row says. No condition. -/
import Derived.Test.YtlhpkhpgjccbpaaGreatM6
namespace Go.Proofs.YtlhpkhpgjccbpaaGreat.teamNeeds
open Go Go.ChangeShapes Go.WideShapes Go.ChangeAt Go.RowKit AE AE.Soil AE.Team

theorem own : ownKnob Tryz.prog.godebug = none := by kernel_rfl
set_option maxRecDepth 100000 in
theorem lifted (os : Os) (started : os.Started) (H : Type) (enc : TypeId × Value → H) :
    ReturnsInHanded {} Tryz.checked os 4 .any (Rows.teamNeedsSpec.pre6 enc Tryz.prog Tryz.f4 Rows.teamNeedsRow.domain false) (Rows.teamNeedsSpec.post enc Tryz.prog Tryz.f4 false true false false) := by
  refine law_lifted (C := Tryz.checked) own started (by kernel_rfl) Tryz.func4
    (ChangeSpec.witness6 (enc := enc) (C := Tryz.checked) false ⟨#[], #[.agg #[.int .i64 0, .int .i64 0, .int .i64 0, .int .i64 0, .int .i64 0, .int .i64 0, .int .i64 0], .agg #[.int .i64 0, .int .i64 0, .int .i64 0, .slice none 0 0, .slice none 0 0]], []⟩ 8 (by kernel_rfl) (by kernel_rfl) (by kernel_rfl) (by kernel_rfl))
    laidOut (by kernel_rfl) (rt := 4) rfl Tryz.underlying4 rfl (fun ds hd => ?_) fun W args ds ps hA hval => ?_
  · match ds, hd with
    | [d1, d2], _ => exact ⟨rfl, rfl, rfl⟩
  · have hA2 : DataW.TrodAll enc Tryz.prog W 0 (fun _ => true) true Tryz.f4.params.toList args.toList ds ps := hA
    rw [Tryz.params4] at hA2
    obtain ⟨v0, v1, d0, d1, p0, p1, rfl, rfl, rfl, h0, h1⟩ := trodAll_two hA2
    obtain ⟨t, r0⟩ := open_teamA h0
    obtain ⟨x, p, q, hb, hp, hq, r1⟩ := open_plotA h1
    exact walk_plot (lawN_ok (t, x) hb) hp hq (RepL.cons (r0 _) (RepL.cons (r1 _ 0 1 rfl rfl) (RepL.nil _)))
theorem over : Rows.teamNeedsRow.holds Tryz.pinned (OpenSpec.ofChange Rows.teamNeedsSpec) :=
  OpenClaim.holds_of_wide 4 Tryz.f4 rfl rfl rfl rfl rfl rfl rfl ⟨rfl, rfl, rfl, rfl, rfl⟩ rfl rfl rfl rfl rfl (by kernel_rfl) Tryz.func4 (by kernel_rfl)
    (of_decide_eq_true (by kernel_rfl)) (by unfold Func.isWrapper; first | (rw [if_pos (by decide +kernel)]; kernel_rfl) | (rw [if_neg (by decide +kernel)]; exact ⟨rfl, rfl⟩))
    (fun os started H enc _ => lifted os started H enc)
/-- The statement. -/
theorem proved : Rows.TeamNeedsSaid := over
#print axioms proved
end Go.Proofs.YtlhpkhpgjccbpaaGreat.teamNeeds
