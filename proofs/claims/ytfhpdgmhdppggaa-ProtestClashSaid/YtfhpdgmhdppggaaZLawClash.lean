/- The law ProtestClash returns true for every input, as its row says. No condition. -/
import Derived.Test.YtfhpdgmhdppggaaM5
namespace Go.Proofs.Ytfhpdgmhdppggaa.protestClash
open Go Go.ChangeShapes Go.WideShapes Go.ChangeAt Go.RowKit AE AE.Pr

theorem own : ownKnob Try.prog.godebug = none := by kernel_rfl
set_option maxRecDepth 100000 in
theorem lifted (os : Os) (started : os.Started) (H : Type) (enc : TypeId × Value → H) :
    ReturnsInHanded {} Try.checked os 9 .any (Rows.protestClashSpec.pre6 enc Try.prog Try.f9 Rows.protestClashRow.domain false) (Rows.protestClashSpec.post enc Try.prog Try.f9 false true false false) := by
  refine law_lifted (C := Try.checked) own started (by kernel_rfl) Try.func9
    (ChangeSpec.witness6 (enc := enc) (C := Try.checked) false ⟨#[], #[.agg #[.int .i64 0, .int .i64 0, .int .i64 0, .slice none 0 0, .slice none 0 0], .int .u8 0], []⟩ 8 (by kernel_rfl) (by kernel_rfl) (by kernel_rfl) (by kernel_rfl))
    laidOut (by kernel_rfl) (rt := 4) rfl Try.underlying4 rfl (fun ds hd => ?_) fun W args ds ps hA hval => ?_
  · match ds, hd with
    | [d1, d2], _ => exact ⟨rfl, rfl, rfl⟩
  · have hA2 : DataW.TrodAll enc Try.prog W 0 (fun _ => true) true Try.f9.params.toList args.toList ds ps := hA
    rw [Try.params9] at hA2
    obtain ⟨v0, v1, d0, d1, p0, p1, rfl, rfl, rfl, h0, h1⟩ := trodAll_two hA2
    obtain ⟨x0, p, q, hb, hp, hq, r0⟩ := open_hearing h0
    obtain ⟨b1, o1⟩ := hval 1 5 v1 rfl rfl
    obtain ⟨n1, rfl, _, w1⟩ := open_int Try.underlying5 o1 h1
    exact walk_of (lawC_ok (x0, n1) ⟨hb, bounds_u8 w1.2⟩) hp hq (RepL.cons (r0 _ rfl rfl) (RepL.cons (by simp [Rep]) (RepL.nil _)))
theorem over : Rows.protestClashRow.holds Try.pinned (OpenSpec.ofChange Rows.protestClashSpec) :=
  OpenClaim.holds_of_wide 9 Try.f9 rfl rfl rfl rfl rfl rfl rfl ⟨rfl, rfl, rfl, rfl, rfl⟩ rfl rfl rfl rfl rfl (by kernel_rfl) Try.func9 (by kernel_rfl)
    (of_decide_eq_true (by kernel_rfl)) (by unfold Func.isWrapper; first | (rw [if_pos (by decide +kernel)]; kernel_rfl) | (rw [if_neg (by decide +kernel)]; exact ⟨rfl, rfl⟩))
    (fun os started H enc _ => lifted os started H enc)
/-- The statement. -/
theorem proved : Rows.ProtestClashSaid := over
#print axioms proved
end Go.Proofs.Ytfhpdgmhdppggaa.protestClash
