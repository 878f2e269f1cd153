/- The law ProtestTurned returns true for every input, as its row says. No condition. -/
import Derived.Test.YtfhpdgmhdppggaaM5
namespace Go.Proofs.Ytfhpdgmhdppggaa.protestTurned
open Go Go.ChangeShapes Go.WideShapes Go.ChangeAt Go.RowKit AE AE.Pr

theorem own : ownKnob Try.prog.godebug = none := by kernel_rfl
set_option maxRecDepth 100000 in
theorem lifted (os : Os) (started : os.Started) (H : Type) (enc : TypeId × Value → H) :
    ReturnsInHanded {} Try.checked os 11 .any (Rows.protestTurnedSpec.pre6 enc Try.prog Try.f11 Rows.protestTurnedRow.domain false) (Rows.protestTurnedSpec.post enc Try.prog Try.f11 false true false false) := by
  refine law_lifted (C := Try.checked) own started (by kernel_rfl) Try.func11
    (ChangeSpec.witness6 (enc := enc) (C := Try.checked) false ⟨#[], #[.agg #[.int .i64 0, .int .i64 0, .int .i64 0, .slice none 0 0, .slice none 0 0], .agg #[.bool false, .int .i64 0, .bool false], .int .u8 0, .int .u8 0], []⟩ 8 (by kernel_rfl) (by kernel_rfl) (by kernel_rfl) (by kernel_rfl))
    laidOut (by kernel_rfl) (rt := 4) rfl Try.underlying4 rfl (fun ds hd => ?_) fun W args ds ps hA hval => ?_
  · match ds, hd with
    | [d1, d2, d3, d4], _ => exact ⟨rfl, rfl, rfl⟩
  · have hA2 : DataW.TrodAll enc Try.prog W 0 (fun _ => true) true Try.f11.params.toList args.toList ds ps := hA
    rw [Try.params11] at hA2
    obtain ⟨v0, v1, v2, v3, d0, d1, d2, d3, p0, p1, p2, p3, rfl, rfl, rfl, h0, h1, h2, h3⟩ := trodAll_four hA2
    obtain ⟨x0, p, q, hb, hp, hq, r0⟩ := open_hearing h0
    obtain ⟨x1, r1⟩ := open_word h1
    obtain ⟨b2, o2⟩ := hval 2 5 v2 rfl rfl
    obtain ⟨n2, rfl, _, w2⟩ := open_int Try.underlying5 o2 h2
    obtain ⟨b3, o3⟩ := hval 3 5 v3 rfl rfl
    obtain ⟨n3, rfl, _, w3⟩ := open_int Try.underlying5 o3 h3
    exact walk_of (lawU_ok (x0, x1, n2, n3) ⟨hb, bounds_u8 w2.2, bounds_u8 w3.2⟩) hp hq (RepL.cons (r0 _ rfl rfl) (RepL.cons (r1 _) (RepL.cons (by simp [Rep]) (RepL.cons (by simp [Rep]) (RepL.nil _)))))
theorem over : Rows.protestTurnedRow.holds Try.pinned (OpenSpec.ofChange Rows.protestTurnedSpec) :=
  OpenClaim.holds_of_wide 11 Try.f11 rfl rfl rfl rfl rfl rfl rfl ⟨rfl, rfl, rfl, rfl, rfl⟩ rfl rfl rfl rfl rfl (by kernel_rfl) Try.func11 (by kernel_rfl)
    (of_decide_eq_true (by kernel_rfl)) (by unfold Func.isWrapper; first | (rw [if_pos (by decide +kernel)]; kernel_rfl) | (rw [if_neg (by decide +kernel)]; exact ⟨rfl, rfl⟩))
    (fun os started H enc _ => lifted os started H enc)
/-- The statement. -/
theorem proved : Rows.ProtestTurnedSaid := over
#print axioms proved
end Go.Proofs.Ytfhpdgmhdppggaa.protestTurned
