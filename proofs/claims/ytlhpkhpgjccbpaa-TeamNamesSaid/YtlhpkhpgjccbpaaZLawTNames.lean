/- The law TeamNames returns true for every input, as its row says. No condition. -/
import Derived.Test.YtlhpkhpgjccbpaaM6
import Derived.Test.YtlhpkhpgjccbpaaRows
import Derived.WalkKit
namespace Go.Proofs.Ytlhpkhpgjccbpaa.teamNames
open Go.ChangeShapes Go.WideShapes Go.ChangeAt Go.RowKit AE AE.Team

theorem own : ownKnob Try.prog.godebug = none := by kernel_rfl
theorem walk (w : World) : Calls Try.prog 3 #[] w fun e w' => e = .returned (.bool true) ∧ Keeps (fun _ => False) w w' := by
  refine (namesT_ok () trivial (fun _ _ => none) w [] (fun _ _ _ => rfl) ⟨fun id k b h => ?_, fun id k b _ _ _ _ _ h => ?_⟩ (RepL.nil _)).mono fun e w' h => ?_
  · simp [namesTS, nullS, Heap.at] at h
  · simp [namesTS, nullS, Heap.at] at h
  · obtain ⟨v, πn, rfl, hp⟩ := h
    have hv := hp.rep
    have hb := rep_v hv
    subst hb
    refine ⟨rfl, hp.keeps.weaken fun n _ hn => ?_⟩
    obtain ⟨id, k, p, b0, hu, hat, _⟩ := hn
    simp [namesTS, nullS, Heap.at] at hat
set_option maxRecDepth 100000 in
theorem lifted (os : Os) (started : os.Started) (H : Type) (enc : TypeId × Value → H) :
    ReturnsInHanded {} Try.checked os 3 .any (Rows.teamNamesSpec.pre6 enc Try.prog Try.f3 Rows.teamNamesRow.domain false) (Rows.teamNamesSpec.post enc Try.prog Try.f3 false true false false) := by
  refine returnsInHanded_of_change (C := Try.checked) own started (by kernel_rfl) Try.func3
    (ChangeSpec.witness6 (enc := enc) (C := Try.checked) false ⟨#[], #[], []⟩ 8 (by kernel_rfl) (by kernel_rfl) (by kernel_rfl) (by kernel_rfl)) ?_
  intro W base args ds gs before hval0 hW hcnd _
  have hW' := hW
  obtain ⟨p, q, hA0, hV, rfl, hfz, hnd⟩ := hW
  have hA : DataW.TrodAll enc Try.prog W 0 (fun _ => true) true Try.f3.params.toList args.toList ds p := hA0
  rw [Try.params3] at hA
  obtain ⟨rfl, rfl, rfl⟩ := trodAll_none hA
  obtain ⟨rfl, rfl⟩ := trodVars_none hV
  clear hA0 hval0
  simp only [List.append_nil] at hW'
  refine (walk W).mono fun e W' ⟨he, hg⟩ => ?_
  subst he
  exact ⟨_, rfl, post_of_keeps (pa := []) (pv := []) hW' (fun _ _ _ => (trodAll_cons_mk (shut_bool Try.underlying4 _) trodAll_mk0)) (fun sp _ => rfl) (fun _ _ => rfl) rfl hg
    (ok_one (by kernel_rfl) rfl (okWide_bool_mk Try.underlying4 _))⟩
theorem over : Rows.teamNamesRow.holds Try.pinned (OpenSpec.ofChange Rows.teamNamesSpec) :=
  OpenClaim.holds_of_wide 3 Try.f3 rfl rfl rfl rfl rfl rfl rfl ⟨rfl, rfl, rfl, rfl, rfl⟩ rfl rfl rfl rfl rfl (by kernel_rfl) Try.func3 (by kernel_rfl)
    (of_decide_eq_true (by kernel_rfl)) (by unfold Func.isWrapper; first | (rw [if_pos (by decide +kernel)]; kernel_rfl) | (rw [if_neg (by decide +kernel)]; exact ⟨rfl, rfl⟩))
    (fun os started H enc _ => lifted os started H enc)
/-- The statement. -/
theorem proved : Rows.TeamNamesSaid := over
#print axioms proved
end Go.Proofs.Ytlhpkhpgjccbpaa.teamNames
