/- The law SoilWork returns true for every input, as its row says. No condition. -/
import Derived.Test.YtcaohobogibemaaM4
namespace Go.Proofs.Ytcaohobogibemaa.soilWork
open Go Go.ChangeShapes Go.WideShapes Go.ChangeAt Go.RowKit AE AE.Soil

theorem own : ownKnob Try.prog.godebug = none := by kernel_rfl
set_option maxRecDepth 100000 in
theorem lifted (os : Os) (started : os.Started) (H : Type) (enc : TypeId × Value → H) :
    ReturnsInHanded {} Try.checked os 6 .any (Rows.soilWorkSpec.pre6 enc Try.prog Try.f6 Rows.soilWorkRow.domain false) (Rows.soilWorkSpec.post enc Try.prog Try.f6 false true false false) := by
  refine law_lifted (C := Try.checked) own started (by kernel_rfl) Try.func6
    (ChangeSpec.witness6 (enc := enc) (C := Try.checked) false ⟨#[], #[.agg #[.int .i64 0, .int .i64 0, .int .i64 0, .slice none 0 0], .int .u8 0, .int .u8 0, .int .u8 0], []⟩ 8 (by kernel_rfl) (by kernel_rfl) (by kernel_rfl) (by kernel_rfl))
    laidOut (by kernel_rfl) (rt := 4) rfl Try.underlying4 rfl (fun ds hd => ?_) fun W args ds ps hA hval => ?_
  · match ds, hd with
    | [d1, d2, d3, d4], _ => exact ⟨rfl, rfl, rfl⟩
  · have hA2 : DataW.TrodAll enc Try.prog W 0 (fun _ => true) true Try.f6.params.toList args.toList ds ps := hA
    rw [Try.params6] at hA2
    obtain ⟨v0, v1, v2, v3, d0, d1, d2, d3, p0, p1, p2, p3, rfl, rfl, rfl, h0, h1, h2, h3⟩ := trodAll_four hA2
    obtain ⟨x0, p, hb, hp, _, r0⟩ := open_ground h0
    obtain ⟨b1, o1⟩ := hval 1 5 v1 rfl rfl
    obtain ⟨n1, rfl, _, _, w1⟩ := open_int Try.underlying5 o1 h1
    obtain ⟨b2, o2⟩ := hval 2 5 v2 rfl rfl
    obtain ⟨n2, rfl, _, _, w2⟩ := open_int Try.underlying5 o2 h2
    obtain ⟨b3, o3⟩ := hval 3 5 v3 rfl rfl
    obtain ⟨n3, rfl, _, _, w3⟩ := open_int Try.underlying5 o3 h3
    exact walk_of (lawW_ok (x0, n1, n2, n3) ⟨hb, in_u8 w1, in_u8 w2, in_u8 w3⟩) hp (RepL.cons (r0 _ rfl) (RepL.cons (by simp [Rep]) (RepL.cons (by simp [Rep]) (RepL.cons (by simp [Rep]) (RepL.nil _)))))
theorem over : Rows.soilWorkRow.holds Try.pinned (OpenSpec.ofChange Rows.soilWorkSpec) :=
  OpenClaim.holds_of_wide 6 Try.f6 rfl rfl rfl rfl rfl rfl rfl ⟨rfl, rfl, rfl, rfl, rfl⟩ rfl rfl rfl rfl rfl (by kernel_rfl) Try.func6 (by kernel_rfl)
    (of_decide_eq_true (by kernel_rfl)) (by unfold Func.isWrapper; first | (rw [if_pos (by decide +kernel)]; kernel_rfl) | (rw [if_neg (by decide +kernel)]; exact ⟨rfl, rfl⟩))
    (fun os started H enc _ => lifted os started H enc)
/-- The statement. -/
theorem proved : Rows.SoilWorkSaid := over
#print axioms proved
end Go.Proofs.Ytcaohobogibemaa.soilWork
