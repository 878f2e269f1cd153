/- The law SoilTrue returns true for every input, as its row says. No condition. -/
import Derived.Test.YtcaohobogibemaaM5
namespace Go.Proofs.Ytcaohobogibemaa.soilTrue
open Go Go.ChangeShapes Go.WideShapes Go.ChangeAt Go.RowKit AE AE.Soil

theorem own : ownKnob Try.prog.godebug = none := by kernel_rfl
theorem flat16 : flat Try.prog 30 92 = some [.int .u16] := by kernel_rfl
set_option maxRecDepth 100000 in
theorem lifted (os : Os) (started : os.Started) (H : Type) (enc : TypeId × Value → H) :
    ReturnsInHanded {} Try.checked os 4 .any (Rows.soilTrueSpec.pre6 enc Try.prog Try.f4 Rows.soilTrueRow.domain false) (Rows.soilTrueSpec.post enc Try.prog Try.f4 false true false false) := by
  refine law_lifted (C := Try.checked) own started (by kernel_rfl) Try.func4
    (ChangeSpec.witness6 (enc := enc) (C := Try.checked) false ⟨#[], #[.slice none 0 0, .int .u8 0, .int .i16 0], []⟩ 8 (by kernel_rfl) (by kernel_rfl) (by kernel_rfl) (by kernel_rfl))
    laidOut (by kernel_rfl) (rt := 4) rfl Try.underlying4 rfl (fun ds hd => ?_) fun W args ds ps hA hval => ?_
  · match ds, hd with
    | [d1, d2, d3], _ => exact ⟨rfl, rfl, rfl⟩
  · have hA2 : DataW.TrodAll enc Try.prog W 0 (fun _ => true) true Try.f4.params.toList args.toList ds ps := hA
    rw [Try.params4] at hA2
    obtain ⟨v0, v1, v2, d0, d1, d2, p0, p1, p2, rfl, rfl, rfl, h0, h1, h2⟩ := trodAll_three hA2
    obtain ⟨b0, o0⟩ := hval 0 38 v0 rfl rfl
    obtain ⟨a, n, c, rfl⟩ := okWide_slice Try.underlying38 o0
    obtain ⟨b1, o1⟩ := hval 1 5 v1 rfl rfl
    obtain ⟨n1, rfl, _, _, w1⟩ := open_int Try.underlying5 o1 h1
    obtain ⟨b2, o2⟩ := hval 2 39 v2 rfl rfl
    obtain ⟨n2, rfl, _, _, w2⟩ := open_int Try.underlying39 o2 h2
    obtain ⟨fuel, h0⟩ := h0
    have h0' : DataW.trod enc Try.prog W 0 (fun _ => true) true fuel 38 [.slice a n c] = some (d0, p0) := h0
    obtain ⟨l, p, hl, hb, hp, hr⟩ := row_of_trodQ (U := UU) CC.u16 (fun (x : Int) => 0 ≤ x ∧ x ≤ 65535) Try.underlying38 flat16 (by kernel_rfl) rfl (by decide) (fun cs h => by
      obtain ⟨_, _, rfl, ⟨m, rfl, hm⟩, h⟩ := h
      cases h
      refine ⟨(m : Int), rfl, ?_⟩
      show 0 ≤ m ∧ m ≤ 65535
      simp only [Lit.wf, Bool.and_eq_true, decide_eq_true_eq] at hm
      have h1 : IntKind.u16.min = 0 := by decide
      have h2 : IntKind.u16.max = 65535 := by decide
      omega) h0'
    have hc : Conc (rosPlc [p]) (roH (U := UU) [⟨CC.u16, l⟩]) W := roH_conc (U := UU) (bs := [⟨CC.u16, l⟩]) rfl fun i b p' hb hp' π => by
      match i with
      | 0 => cases hb; cases hp'; exact hp π
      | i + 1 => cases hb
    have r1 : Rep (rosPlc [p]) (.v (.int .u8 n1)) (.int .u8 n1) := by simp [Rep]
    have r2 : Rep (rosPlc [p]) (.v (.int .i16 n2)) (.int .i16 n2) := by simp [Rep]
    have hF := (lawT_ok (l, n1, n2) ⟨⟨hl, hb⟩, in_u8 w1, in_i16 w2⟩) (rosPlc [p]) W _ (rosPlc_fresh [p]) hc (RepL.cons (hr _ 0 0 rfl) (RepL.cons r1 (RepL.cons r2 (RepL.nil _))))
    refine hF.mono fun e w' hh => ?_
    obtain ⟨v, πn, rfl, hpo⟩ := hh
    have hb := rep_v hpo.rep
    subst hb
    refine ⟨rfl, hpo.keeps.weaken fun n _ hn => ?_⟩
    obtain ⟨id, k, p, b0, hu, _⟩ := hn
    rcases hu with ⟨b, hb⟩ | hb <;> cases hb
theorem over : Rows.soilTrueRow.holds Try.pinned (OpenSpec.ofChange Rows.soilTrueSpec) :=
  OpenClaim.holds_of_wide 4 Try.f4 rfl rfl rfl rfl rfl rfl rfl ⟨rfl, rfl, rfl, rfl, rfl⟩ rfl rfl rfl rfl rfl (by kernel_rfl) Try.func4 (by kernel_rfl)
    (of_decide_eq_true (by kernel_rfl)) (by unfold Func.isWrapper; first | (rw [if_pos (by decide +kernel)]; kernel_rfl) | (rw [if_neg (by decide +kernel)]; exact ⟨rfl, rfl⟩))
    (fun os started H enc _ => lifted os started H enc)
/-- The statement. -/
theorem proved : Rows.SoilTrueSaid := over
#print axioms proved
end Go.Proofs.Ytcaohobogibemaa.soilTrue
