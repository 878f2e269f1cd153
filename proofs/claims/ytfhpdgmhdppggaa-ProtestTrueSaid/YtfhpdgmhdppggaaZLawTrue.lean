/- The law ProtestTrue returns true for every input, as its row says. No condition. -/
import Derived.Test.YtfhpdgmhdppggaaM5
namespace Go.Proofs.Ytfhpdgmhdppggaa.protestTrue
open Go Go.ChangeShapes Go.WideShapes Go.ChangeAt Go.RowKit AE AE.Pr

theorem own : ownKnob Try.prog.godebug = none := by kernel_rfl
theorem flat16 : flat Try.prog 30 107 = some [.int .u16] := by kernel_rfl
set_option maxRecDepth 100000 in
theorem lifted (os : Os) (started : os.Started) (H : Type) (enc : TypeId × Value → H) :
    ReturnsInHanded {} Try.checked os 6 .any (Rows.protestTrueSpec.pre6 enc Try.prog Try.f6 Rows.protestTrueRow.domain false) (Rows.protestTrueSpec.post enc Try.prog Try.f6 false true false false) := by
  refine law_lifted (C := Try.checked) own started (by kernel_rfl) Try.func6
    (ChangeSpec.witness6 (enc := enc) (C := Try.checked) false ⟨#[], #[.slice none 0 0], []⟩ 8 (by kernel_rfl) (by kernel_rfl) (by kernel_rfl) (by kernel_rfl))
    laidOut (by kernel_rfl) (rt := 4) rfl Try.underlying4 rfl (fun ds hd => ?_) fun W args ds ps hA hval => ?_
  · match ds, hd with
    | [d1], _ => exact ⟨rfl, rfl, rfl⟩
  · have hA2 : DataW.TrodAll enc Try.prog W 0 (fun _ => true) true Try.f6.params.toList args.toList ds ps := hA
    rw [Try.params6] at hA2
    obtain ⟨v0, d0, rfl, rfl, h0⟩ := trodAll_one hA2
    obtain ⟨b0, o0⟩ := hval 0 46 v0 rfl rfl
    obtain ⟨a, n, c, rfl⟩ := okWide_slice Try.underlying46 o0
    obtain ⟨fuel, h0⟩ := h0
    have h0' : DataW.trod enc Try.prog W 0 (fun _ => true) true fuel 46 [.slice a n c] = some (d0, ps) := h0
    obtain ⟨l, p, hl, hb, hp, hr⟩ := row_of_trodQ (U := UU) CC.u16 (fun (x : Int) => 0 ≤ x ∧ x ≤ 65535) Try.underlying46 flat16 (by kernel_rfl) rfl (by decide) (fun cs h => by
      obtain ⟨_, _, rfl, ⟨m, rfl, hm⟩, h⟩ := h
      cases h
      refine ⟨(m : Int), rfl, ?_⟩
      show 0 ≤ m ∧ m ≤ 65535
      simp only [Lit.wf, Bool.and_eq_true, decide_eq_true_eq] at hm
      have h1 : IntKind.u16.min = 0 := by decide
      have h2 : IntKind.u16.max = 65535 := by decide
      omega) h0'
    have hc : Conc (rosPlc [p]) (roH (U := UU) [⟨CC.u16, l⟩]) W := roH_conc (U := UU) (bs := [⟨CC.u16, l⟩]) rfl fun i b p' hb hp' π => by
      match i with
      | 0 => cases hb; cases hp'; exact hp π
      | i + 1 => cases hb
    have hF := (lawT_ok l ⟨hl, hb⟩) (rosPlc [p]) W _ (rosPlc_fresh [p]) hc (RepL.cons (hr _ 0 0 rfl) (RepL.nil _))
    refine hF.mono fun e w' hh => ?_
    obtain ⟨v, πn, rfl, hpo⟩ := hh
    have hb := rep_v hpo.rep
    subst hb
    refine ⟨rfl, hpo.keeps.weaken fun n _ hn => ?_⟩
    obtain ⟨id, k, p, b0, hu, _⟩ := hn
    rcases hu with ⟨b, hb⟩ | hb <;> cases hb
theorem over : Rows.protestTrueRow.holds Try.pinned (OpenSpec.ofChange Rows.protestTrueSpec) :=
  OpenClaim.holds_of_wide 6 Try.f6 rfl rfl rfl rfl rfl rfl rfl ⟨rfl, rfl, rfl, rfl, rfl⟩ rfl rfl rfl rfl rfl (by kernel_rfl) Try.func6 (by kernel_rfl)
    (of_decide_eq_true (by kernel_rfl)) (by unfold Func.isWrapper; first | (rw [if_pos (by decide +kernel)]; kernel_rfl) | (rw [if_neg (by decide +kernel)]; exact ⟨rfl, rfl⟩))
    (fun os started H enc _ => lifted os started H enc)
/-- The statement. -/
theorem proved : Rows.ProtestTrueSaid := over
#print axioms proved
end Go.Proofs.Ytfhpdgmhdppggaa.protestTrue
