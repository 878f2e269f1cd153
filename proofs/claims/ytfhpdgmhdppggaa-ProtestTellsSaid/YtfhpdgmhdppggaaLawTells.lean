/- The law ProtestTells returns true for every input, as its row says. No condition. -/
import Derived.Test.YtfhpdgmhdppggaaM4
namespace Go.Proofs.Ytfhpdgmhdppggaa.protestTells
open Go Go.ChangeShapes Go.WideShapes Go.ChangeAt Go.RowKit AE AE.Pr

theorem own : ownKnob Try.prog.godebug = none := by kernel_rfl
set_option maxRecDepth 100000 in
theorem lifted (os : Os) (started : os.Started) (H : Type) (enc : TypeId × Value → H) :
    ReturnsInHanded {} Try.checked os 3 .any (Rows.protestTellsSpec.pre6 enc Try.prog Try.f3 Rows.protestTellsRow.domain false) (Rows.protestTellsSpec.post enc Try.prog Try.f3 false true false false) := by
  refine law_lifted (C := Try.checked) own started (by kernel_rfl) Try.func3
    (ChangeSpec.witness6 (enc := enc) (C := Try.checked) false ⟨#[], #[.agg #[.int .i64 0, .int .i64 0, .int .i64 0, .slice none 0 0, .slice none 0 0], .int .i64 0, .int .i64 0, .agg #[.bool false, .int .i64 0, .bool false]], []⟩ 8 (by kernel_rfl) (by kernel_rfl) (by kernel_rfl) (by kernel_rfl))
    laidOut (by kernel_rfl) (rt := 4) rfl Try.underlying4 rfl (fun ds hd => ?_) fun W args ds ps hA hval => ?_
  · match ds, hd with
    | [d1, d2, d3, d4], _ => exact ⟨rfl, rfl, rfl⟩
  · have hA2 : DataW.TrodAll enc Try.prog W 0 (fun _ => true) true Try.f3.params.toList args.toList ds ps := hA
    rw [Try.params3] at hA2
    obtain ⟨v0, v1, v2, v3, d0, d1, d2, d3, p0, p1, p2, p3, rfl, rfl, rfl, h0, h1, h2, h3⟩ := trodAll_four hA2
    obtain ⟨b1, o1⟩ := hval 1 3 v1 rfl rfl
    obtain ⟨b2, o2⟩ := hval 2 3 v2 rfl rfl
    obtain ⟨n1, rfl, _, _⟩ := open_int Try.underlying3 o1 h1
    obtain ⟨n2, rfl, _, _⟩ := open_int Try.underlying3 o2 h2
    obtain ⟨x3, r3⟩ := open_word h3
    obtain ⟨x, p, q, hb, hp, hq, r0⟩ := open_hearing h0
    exact walk_of (tells_ok (x, n1, n2, x3) hb) hp hq (RepL.cons (r0 _ rfl rfl) (RepL.cons (by simp [Rep]) (RepL.cons (by simp [Rep]) (RepL.cons (r3 _) (RepL.nil _)))))
theorem over : Rows.protestTellsRow.holds Try.pinned (OpenSpec.ofChange Rows.protestTellsSpec) :=
  OpenClaim.holds_of_wide 3 Try.f3 rfl rfl rfl rfl rfl rfl rfl ⟨rfl, rfl, rfl, rfl, rfl⟩ rfl rfl rfl rfl rfl (by kernel_rfl) Try.func3 (by kernel_rfl)
    (of_decide_eq_true (by kernel_rfl)) (by unfold Func.isWrapper; first | (rw [if_pos (by decide +kernel)]; kernel_rfl) | (rw [if_neg (by decide +kernel)]; exact ⟨rfl, rfl⟩))
    (fun os started H enc _ => lifted os started H enc)
/-- The statement. -/
theorem proved : Rows.ProtestTellsSaid := over
#print axioms proved
end Go.Proofs.Ytfhpdgmhdppggaa.protestTells
