/- The law ProtestProof returns true for every input, as its row says. No condition. -/
import Derived.Test.YtfhpdgmhdppggaaM5
namespace Go.Proofs.Ytfhpdgmhdppggaa.protestProof
open Go Go.ChangeShapes Go.WideShapes Go.ChangeAt Go.RowKit AE AE.Pr

theorem own : ownKnob Try.prog.godebug = none := by kernel_rfl
set_option maxRecDepth 100000 in
theorem lifted (os : Os) (started : os.Started) (H : Type) (enc : TypeId × Value → H) :
    ReturnsInHanded {} Try.checked os 8 .any (Rows.protestProofSpec.pre6 enc Try.prog Try.f8 Rows.protestProofRow.domain false) (Rows.protestProofSpec.post enc Try.prog Try.f8 false true false false) := by
  refine law_lifted (C := Try.checked) own started (by kernel_rfl) Try.func8
    (ChangeSpec.witness6 (enc := enc) (C := Try.checked) false ⟨#[], #[.agg #[.int .i64 0, .int .i64 0, .int .i64 0, .slice none 0 0, .slice none 0 0], .agg #[.bool false, .int .i64 0, .bool false], .int .u8 0], []⟩ 8 (by kernel_rfl) (by kernel_rfl) (by kernel_rfl) (by kernel_rfl))
    laidOut (by kernel_rfl) (rt := 4) rfl Try.underlying4 rfl (fun ds hd => ?_) fun W args ds ps hA hval => ?_
  · match ds, hd with
    | [d1, d2, d3], _ => exact ⟨rfl, rfl, rfl⟩
  · have hA2 : DataW.TrodAll enc Try.prog W 0 (fun _ => true) true Try.f8.params.toList args.toList ds ps := hA
    rw [Try.params8] at hA2
    obtain ⟨v0, v1, v2, d0, d1, d2, p0, p1, p2, rfl, rfl, rfl, h0, h1, h2⟩ := trodAll_three hA2
    obtain ⟨x0, p, q, hb, hp, hq, r0⟩ := open_hearing h0
    obtain ⟨x1, r1⟩ := open_word h1
    obtain ⟨b2, o2⟩ := hval 2 5 v2 rfl rfl
    obtain ⟨n2, rfl, _, w2⟩ := open_int Try.underlying5 o2 h2
    exact walk_of (lawP_ok (x0, x1, n2) ⟨hb, bounds_u8 w2.2⟩) hp hq (RepL.cons (r0 _ rfl rfl) (RepL.cons (r1 _) (RepL.cons (by simp [Rep]) (RepL.nil _))))
theorem over : Rows.protestProofRow.holds Try.pinned (OpenSpec.ofChange Rows.protestProofSpec) :=
  OpenClaim.holds_of_wide 8 Try.f8 rfl rfl rfl rfl rfl rfl rfl ⟨rfl, rfl, rfl, rfl, rfl⟩ rfl rfl rfl rfl rfl (by kernel_rfl) Try.func8 (by kernel_rfl)
    (of_decide_eq_true (by kernel_rfl)) (by unfold Func.isWrapper; first | (rw [if_pos (by decide +kernel)]; kernel_rfl) | (rw [if_neg (by decide +kernel)]; exact ⟨rfl, rfl⟩))
    (fun os started H enc _ => lifted os started H enc)
/-- The statement. -/
theorem proved : Rows.ProtestProofSaid := over
#print axioms proved
end Go.Proofs.Ytfhpdgmhdppggaa.protestProof
