/- The law TeamMore returns true for every input, as its row says. No condition. -/
import Derived.Test.YtlhpkhpgjccbpaaM6
namespace Go.Proofs.Ytlhpkhpgjccbpaa.teamMore
open Go Go.ChangeShapes Go.WideShapes Go.ChangeAt Go.RowKit AE AE.Soil AE.Team

theorem own : ownKnob Try.prog.godebug = none := by kernel_rfl
set_option maxRecDepth 100000 in
theorem lifted (os : Os) (started : os.Started) (H : Type) (enc : TypeId × Value → H) :
    ReturnsInHanded {} Try.checked os 5 .any (Rows.teamMoreSpec.pre6 enc Try.prog Try.f5 Rows.teamMoreRow.domain false) (Rows.teamMoreSpec.post enc Try.prog Try.f5 false true false false) := by
  refine law_lifted (C := Try.checked) own started (by kernel_rfl) Try.func5
    (ChangeSpec.witness6 (enc := enc) (C := Try.checked) false ⟨#[], #[.agg #[.int .i64 0, .int .i64 0, .int .i64 0, .int .i64 0, .int .i64 0, .int .i64 0, .int .i64 0], .agg #[.int .i64 0, .int .i64 0, .int .i64 0, .slice none 0 0, .slice none 0 0], .agg #[.int .i64 0, .int .i64 0, .int .i64 0, .int .i64 0, .int .i64 0, .int .i64 0, .int .i64 0, .int .i64 0, .int .i64 0], .int .i64 0, .int .u8 0], []⟩ 8 (by kernel_rfl) (by kernel_rfl) (by kernel_rfl) (by kernel_rfl))
    laidOut (by kernel_rfl) (rt := 4) rfl Try.underlying4 rfl (fun ds hd => ?_) fun W args ds ps hA hval => ?_
  · match ds, hd with
    | [d1, d2, d3, d4, d5], _ => exact ⟨rfl, rfl, rfl⟩
  · have hA2 : DataW.TrodAll enc Try.prog W 0 (fun _ => true) true Try.f5.params.toList args.toList ds ps := hA
    rw [Try.params5] at hA2
    obtain ⟨v0, v1, v2, v3, v4, d0, d1, d2, d3, d4, p0, p1, p2, p3, p4, rfl, rfl, rfl, h0, h1, h2, h3, h4⟩ := trodAll_five hA2
    obtain ⟨t, r0⟩ := open_teamA h0
    obtain ⟨x, p, q, hb, hp, hq, r1⟩ := open_plotA h1
    obtain ⟨y, r2⟩ := open_pitA h2
    obtain ⟨b3, o3⟩ := hval 3 3 v3 rfl rfl
    obtain ⟨n, rfl, _, _, w3⟩ := open_int Try.underlying3 o3 h3
    obtain ⟨b4, o4⟩ := hval 4 5 v4 rfl rfl
    obtain ⟨k, rfl, _, _, w4⟩ := open_int Try.underlying5 o4 h4
    exact walk_plot (lawM_ok (t, x, y, n, k) ⟨hb, in_u8 w4⟩) hp hq (RepL.cons (r0 _) (RepL.cons (r1 _ 0 1 rfl rfl) (RepL.cons (r2 _) (RepL.cons (by simp [Rep]) (RepL.cons (by simp [Rep]) (RepL.nil _))))))
theorem over : Rows.teamMoreRow.holds Try.pinned (OpenSpec.ofChange Rows.teamMoreSpec) :=
  OpenClaim.holds_of_wide 5 Try.f5 rfl rfl rfl rfl rfl rfl rfl ⟨rfl, rfl, rfl, rfl, rfl⟩ rfl rfl rfl rfl rfl (by kernel_rfl) Try.func5 (by kernel_rfl)
    (of_decide_eq_true (by kernel_rfl)) (by unfold Func.isWrapper; first | (rw [if_pos (by decide +kernel)]; kernel_rfl) | (rw [if_neg (by decide +kernel)]; exact ⟨rfl, rfl⟩))
    (fun os started H enc _ => lifted os started H enc)
/-- The statement. -/
theorem proved : Rows.TeamMoreSaid := over
#print axioms proved
end Go.Proofs.Ytlhpkhpgjccbpaa.teamMore
