/- The law ProtestMore returns true for every input, as its row says. No condition. -/
import Derived.Test.YtfhpdgmhdppggaaM5
namespace Go.Proofs.Ytfhpdgmhdppggaa.protestMore
open Go Go.ChangeShapes Go.WideShapes Go.ChangeAt Go.RowKit AE AE.Pr

theorem own : ownKnob Try.prog.godebug = none := by kernel_rfl
set_option maxRecDepth 100000 in
theorem lifted (os : Os) (started : os.Started) (H : Type) (enc : TypeId × Value → H) :
    ReturnsInHanded {} Try.checked os 10 .any (Rows.protestMoreSpec.pre6 enc Try.prog Try.f10 Rows.protestMoreRow.domain false) (Rows.protestMoreSpec.post enc Try.prog Try.f10 false true false false) := by
  refine law_lifted (C := Try.checked) own started (by kernel_rfl) Try.func10
    (ChangeSpec.witness6 (enc := enc) (C := Try.checked) false ⟨#[], #[.agg #[.int .i64 0, .int .i64 0, .int .i64 0, .slice none 0 0, .slice none 0 0], .agg #[.bool false, .int .i64 0, .bool false], .agg #[.bool false, .int .i64 0, .bool false]], []⟩ 8 (by kernel_rfl) (by kernel_rfl) (by kernel_rfl) (by kernel_rfl))
    laidOut (by kernel_rfl) (rt := 4) rfl Try.underlying4 rfl (fun ds hd => ?_) fun W args ds ps hA hval => ?_
  · match ds, hd with
    | [d1, d2, d3], _ => exact ⟨rfl, rfl, rfl⟩
  · have hA2 : DataW.TrodAll enc Try.prog W 0 (fun _ => true) true Try.f10.params.toList args.toList ds ps := hA
    rw [Try.params10] at hA2
    obtain ⟨v0, v1, v2, d0, d1, d2, p0, p1, p2, rfl, rfl, rfl, h0, h1, h2⟩ := trodAll_three hA2
    obtain ⟨x0, p, q, hb, hp, hq, r0⟩ := open_hearing h0
    obtain ⟨x1, r1⟩ := open_word h1
    obtain ⟨x2, r2⟩ := open_word h2
    exact walk_of (lawM_ok (x0, x1, x2) hb) hp hq (RepL.cons (r0 _ rfl rfl) (RepL.cons (r1 _) (RepL.cons (r2 _) (RepL.nil _))))
theorem over : Rows.protestMoreRow.holds Try.pinned (OpenSpec.ofChange Rows.protestMoreSpec) :=
  OpenClaim.holds_of_wide 10 Try.f10 rfl rfl rfl rfl rfl rfl rfl ⟨rfl, rfl, rfl, rfl, rfl⟩ rfl rfl rfl rfl rfl (by kernel_rfl) Try.func10 (by kernel_rfl)
    (of_decide_eq_true (by kernel_rfl)) (by unfold Func.isWrapper; first | (rw [if_pos (by decide +kernel)]; kernel_rfl) | (rw [if_neg (by decide +kernel)]; exact ⟨rfl, rfl⟩))
    (fun os started H enc _ => lifted os started H enc)
/-- The statement. -/
theorem proved : Rows.ProtestMoreSaid := over
#print axioms proved
end Go.Proofs.Ytfhpdgmhdppggaa.protestMore
