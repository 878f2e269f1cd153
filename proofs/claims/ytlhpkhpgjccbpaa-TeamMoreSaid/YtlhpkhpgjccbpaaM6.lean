/- An own symbolic executor for the model's code, and what the functions beneath the law compute, joined out of: TmRE, TmMA, SoZ0, SoZ1, TmMB, TmMC, TmZ, PrR, AeR, SsR, TmAr, TmAm. No condition. -/
import Derived.Test.YtlhpkhpgjccbpaaM5
import Derived.Test.YtlhpkhpgjccbpaaRows
import Derived.ProofKit
import Derived.OpenShut
import Derived.Below
import Derived.Carry
import Derived.ChangeArms

set_option linter.unusedSimpArgs false
set_option linter.unusedVariables false
namespace AE.Team
open Go AE Go.Proofs AE.Soil

section
variable {t : TeamT} {p : PlotT}
theorem all_furrows (h : (!p.steps.any fun s => sfM none s) = true) : ∀ i, i < p.steps.length → (p.steps.getD i (0, 0, 0)).2.2 = 0 := by
  intro i hi
  have h' : (p.steps.any fun s => sfM none s) = false := by simpa using h
  rw [List.any_eq_false] at h'
  have := h' (p.steps.getD i (0, 0, 0)) (by rw [List.getD_eq_getElem?_getD, List.getElem?_eq_getElem hi]; exact List.getElem_mem hi)
  simpa [sfM] using this
theorem fok_of (ho : (openErrM t p true == 0) = true) (h : (!p.steps.any fun s => sfM none s) = true) : FOk p.steps (worksM p) (worstM t) := by
  obtain ⟨a1, a2, a3⟩ := hor_ok (open_team ho) true
  exact ⟨a1, a2, a3, works_ok (open_plot ho) (open_hard ho), all_furrows h⟩
def totM (l : List Int) : Nat → Int
  | 0 => 0
  | i + 1 => W (totM l i + l.getD i 0)
theorem tot_bound {l : List Int} {n : Nat} (hn : n ≤ 1000) (hl : ∀ i, i < n → 0 ≤ l.getD i 0 ∧ l.getD i 0 ≤ 10000) : ∀ i, i ≤ n → 0 ≤ totM l i ∧ totM l i ≤ 10000 * i ∧ ((totM l i == 0) = true ↔ ∀ j, j < i → l.getD j 0 = 0)
  | 0, _ => ⟨Int.le_refl _, by show (0 : Int) ≤ 10000 * ((0 : Nat) : Int); omega, fun _ j hj => absurd hj (Nat.not_lt_zero j), fun _ => rfl⟩
  | i + 1, hi => by
    obtain ⟨h1, h2, h3⟩ := tot_bound hn hl i (by omega)
    have hb := hl i (by omega)
    have e : totM l (i + 1) = totM l i + l.getD i 0 := wrap_id (by omega) (by omega)
    rw [e]
    refine ⟨by omega, by omega, fun hz j hj => ?_, fun hz => ?_⟩
    · have hz' : totM l i + l.getD i 0 = 0 := by simpa using hz
      rcases Nat.lt_or_eq_of_le (Nat.le_of_lt_succ hj) with h4 | rfl
      · exact h3.1 (by rw [show totM l i = 0 by omega]; rfl) j h4
      · omega
    · have := h3.2 fun j hj => hz j (by omega)
      have h0 : totM l i = 0 := by simpa using this
      rw [h0, hz i (by omega)]; rfl
theorem rests_law (ho : (openErrM t p true == 0) = true) (h : (!p.steps.any fun s => sfM none s) = true) :
    (restsM t p = ([], 11) ∧ ((comesM t p).1 == 2) = false) ∨
    (restsM t p = ((goM p.steps (worksM p) (worstM t) p.steps.length).1, 0) ∧ (∀ j, j < p.steps.length → okAtM p.steps (worksM p) (worstM t) j = true) ∧
      (totM (goM p.steps (worksM p) (worstM t) p.steps.length).1 p.steps.length == 0) = ((comesM t p).1 == 2)) := by
  have f := fok_of ho h
  have hf1 := f.hor.f1
  have hl := f.st.len
  rw [ans_two ho]
  by_cases hall : ∀ j, j < p.steps.length → okAtM p.steps (worksM p) (worstM t) j = true
  · right
    refine ⟨rests_ok' h ho hall, hall, ?_⟩
    have hg : ∀ i, i < p.steps.length → (goM p.steps (worksM p) (worstM t) p.steps.length).1.getD i 0 = minM p.steps (worksM p) (worstM t) i := fun i hi => go_get _ i hi
    have tb := (tot_bound (l := (goM p.steps (worksM p) (worstM t) p.steps.length).1) hl (fun i hi => by
      rw [hg i hi]
      have := min_ok f hi (hall i hi)
      omega) p.steps.length (Nat.le_refl _)).2.2
    show _ = !(failedM p.steps (worksM p) (worstM t)).2
    cases hs : (failedM p.steps (worksM p) (worstM t)).2 with
    | false =>
      have := (go_safe f hs p.steps.length (Nat.le_refl _)).2
      rw [tb.2 fun j hj => by rw [hg j hj]; exact (this j hj).2]; rfl
    | true =>
      cases hz : totM (goM p.steps (worksM p) (worstM t) p.steps.length).1 p.steps.length == 0 with
      | false => rfl
      | true =>
        have hz' := tb.1 hz
        have := safe_go f fun j hj => ⟨hall j hj, by rw [← hg j hj]; exact hz' j hj⟩
        rw [hs] at this; cases this
  · left
    obtain ⟨j, hj⟩ := Classical.not_forall.1 hall
    obtain ⟨hjl, hjn⟩ := Classical.not_imp.1 hj
    have hjf : okAtM p.steps (worksM p) (worstM t) j = false := by simpa using hjn
    refine ⟨rests_bad h ho hjl hjf, ?_⟩
    show (!(failedM p.steps (worksM p) (worstM t)).2) = false
    cases hs : (failedM p.steps (worksM p) (worstM t)).2 with
    | true => rfl
    | false =>
      have := ((go_safe f hs p.steps.length (Nat.le_refl _)).2 j hjl).1
      rw [hjf] at this; cases this
end
end AE.Team

namespace AE.Team
open Go AE Go.Proofs AE.Soil

def NowLe (l : List StepT) (w w' : List Span) (h h' : HorT) : Prop := ∀ i, i ≤ l.length → nowM l w h i ≤ nowM l w' h' i
theorem nowLe_of {l : List StepT} {w w' : List Span} {h h' : HorT} (hs : StepsOk l w) (hs' : StepsOk l w') (hh : HorOk h) (hh' : HorOk h') (hL : Less h h') (h0 : 0 ≤ h.1) (h1 : h.1 ≤ h.2.2.2.1) (h0' : 0 ≤ h'.1) (h1' : h'.1 ≤ h'.2.2.2.1) (hn : h.1 ≤ h'.1)
    (ho : ∀ i, i < l.length → ofM h' (w'.getD i (0, 0)) ≤ ofM h (w.getD i (0, 0))) : NowLe l w w' h h' := now_mono hs hs' hh hh' hL h0 h1 h0' h1' hn ho
section
variable {t t' : TeamT} {p p' : PlotT}
theorem ans_case {a a' b b' : Bool} (h1 : a = false → a' = false) (h2 : b = false → b' = false) (h3 : a = false → b = false) (h4 : a' = false → b' = false) : ansM a b ≤ ansM a' b' := by
  revert h1 h2 h3 h4
  cases a <;> cases a' <;> cases b <;> cases b' <;> simp (decide := true)
theorem ans_tight {a a' b b' : Bool} (h1 : a = false → a' = false) (h2 : b' = false → b = false) (h3 : a = false → b = false) (h4 : a' = false → b' = false) (hn : ansM a b ≠ 1) : ansM a' b' = ansM a b := by
  revert h1 h2 h3 h4 hn
  cases a <;> cases a' <;> cases b <;> cases b' <;> simp (decide := true)
theorem fall_case (ho : (openErrM t p true == 0) = true) : (failedM p.steps (worksM p) (horM t true)).2 = false → (failedM p.steps (worksM p) (horM t false)).2 = false :=
  fail_mono (case_mono (open_team ho) (works_ok (open_plot ho) (open_hard ho)))
theorem comes_le (ho : (openErrM t p true == 0) = true) (ho' : (openErrM t' p' true == 0) = true) (hst : p'.steps = p.steps) (hb : ∀ b, NowLe p.steps (worksM p) (worksM p') (horM t b) (horM t' b)) : (comesM t p).1 ≤ (comesM t' p').1 := by
  have c := fall_case ho
  have c' := fall_case ho'
  rw [hst] at c'
  rw [comes_told ho, comes_told ho']
  show ansM (failedM p.steps (worksM p) (horM t true)).2 (failedM p.steps (worksM p) (horM t false)).2 ≤ ansM (failedM p'.steps (worksM p') (horM t' true)).2 (failedM p'.steps (worksM p') (horM t' false)).2
  rw [hst]
  exact ans_case (fail_mono (hb true)) (fail_mono (hb false)) c c'
theorem comes_tight (ho : (openErrM t p true == 0) = true) (ho' : (openErrM t' p' true == 0) = true) (hst : p'.steps = p.steps) (h1 : NowLe p.steps (worksM p) (worksM p') (horM t true) (horM t' true)) (h2 : NowLe p.steps (worksM p') (worksM p) (horM t' false) (horM t false)) (hn : (comesM t p).1 ≠ 1) : (comesM t' p').1 = (comesM t p).1 := by
  have c := fall_case ho
  have c' := fall_case ho'
  rw [hst] at c'
  revert hn
  rw [comes_told ho, comes_told ho']
  show ansM (failedM p.steps (worksM p) (horM t true)).2 (failedM p.steps (worksM p) (horM t false)).2 ≠ 1 → ansM (failedM p'.steps (worksM p') (horM t' true)).2 (failedM p'.steps (worksM p') (horM t' false)).2 = ansM (failedM p.steps (worksM p) (horM t true)).2 (failedM p.steps (worksM p) (horM t false)).2
  rw [hst]
  exact ans_tight (fail_mono h1) (fail_mono h2) c c'
theorem open_told (ht : teamM t = true) (hp : isPlotM p = true) (is : Bool) : openErrM t p is = if is then (if (hardOM p.g 0).2 == 0 then 0 else 10) else 2 := by
  unfold openErrM
  rw [ht, hp]; rfl
theorem open_same (ht : teamM t = true) (ht' : teamM t' = true) (hp : isPlotM p = true) (is : Bool) : openErrM t' p is = openErrM t p is := by
  rw [open_told ht hp, open_told ht' hp]
theorem open_true {is : Bool} (ht : teamM t = true) (hp : isPlotM p = true) (h : (openErrM t p is == 0) = true) : is = true ∧ (openErrM t p true == 0) = true := by
  rw [open_told ht hp] at h
  cases is with
  | false => exact absurd (show ((2 : Int) == 0) = true from h) (by decide)
  | true => rw [open_told ht hp]; exact ⟨rfl, h⟩
theorem left_told {n : Int} (h : (openErrM t p (inM n 0 p.steps.length) == 0) = true) : leftM t p n = ((endM t p true n.toNat, endM t p false n.toNat), 0) := by
  unfold leftM
  rw [if_pos h]
theorem left_err {n : Int} (h : (openErrM t p (inM n 0 p.steps.length) == 0) = false) : leftM t p n = ((0, 0), openErrM t p (inM n 0 p.steps.length)) := by
  unfold leftM
  rw [if_neg (by rw [h]; decide)]
theorem left_snd (n : Int) : (leftM t p n).2 = openErrM t p (inM n 0 p.steps.length) := by
  cases h : openErrM t p (inM n 0 p.steps.length) == 0 with
  | true => rw [left_told h]; have := eq_of_beq h; exact this.symm
  | false => rw [left_err h]
theorem comes_snd : (comesM t p).2 = openErrM t p true := by
  cases h : openErrM t p true == 0 with
  | true => rw [comes_told h]; have := eq_of_beq h; exact this.symm
  | false => rw [comes_err h]
theorem left_le (ht : teamM t = true) (ht' : teamM t' = true) (hp : isPlotM p = true) {n : Int} (hb : ∀ b, NowLe p.steps (worksM p) (worksM p) (horM t b) (horM t' b)) (hz : (leftM t p n).2 = 0) :
    (leftM t p n).1.1 ≤ (leftM t' p n).1.1 ∧ (leftM t p n).1.2 ≤ (leftM t' p n).1.2 := by
  rw [left_snd] at hz
  have h1 : (openErrM t p (inM n 0 p.steps.length) == 0) = true := by rw [hz]; rfl
  have h2 : (openErrM t' p (inM n 0 p.steps.length) == 0) = true := by rw [open_same ht ht' hp]; exact h1
  have hin := (open_true ht hp h1).1
  rw [left_told h1, left_told h2]
  have hn : n.toNat ≤ p.steps.length := by
    unfold inM at hin
    simp only [Bool.and_eq_true, decide_eq_true_eq] at hin
    omega
  exact ⟨hb true _ hn, hb false _ hn⟩
theorem left_tight (ht : teamM t = true) (ht' : teamM t' = true) (hp : isPlotM p = true) (hp' : isPlotM p' = true) (hst : p'.steps = p.steps) {n : Int} (h1 : NowLe p.steps (worksM p) (worksM p') (horM t true) (horM t' true)) (h2 : NowLe p.steps (worksM p') (worksM p) (horM t' false) (horM t false))
    (hz : (leftM t p n).2 = 0) (hz' : (leftM t' p' n).2 = 0) :
    (leftM t p n).1.1 ≤ (leftM t' p' n).1.1 ∧ (leftM t' p' n).1.2 ≤ (leftM t p n).1.2 := by
  rw [left_snd] at hz hz'
  have e1 : (openErrM t p (inM n 0 p.steps.length) == 0) = true := by rw [hz]; rfl
  have e2 : (openErrM t' p' (inM n 0 p'.steps.length) == 0) = true := by rw [hz']; rfl
  have hin := (open_true ht hp e1).1
  rw [left_told e1, left_told e2]
  have hn : n.toNat ≤ p.steps.length := by
    unfold inM at hin
    simp only [Bool.and_eq_true, decide_eq_true_eq] at hin
    omega
  unfold endM
  rw [hst]
  exact ⟨h1 _ hn, h2 _ hn⟩
end
section
variable {l : List StepT} {w : List Span} {h h' : HorT}
structure LessH (h h' : HorT) : Prop where
  less : Less h h'
  full : h.2.2.2.1 = h'.2.2.2.1
  now : h.1 ≤ h'.1
  worst : h.2.2.2.2 = h'.2.2.2.2
def sumR (l : List StepT) (w : List Span) (h : HorT) : Nat → Int
  | 0 => 0
  | i + 1 => sumR l w h i + minM l w h i
theorem cost_le (hh : HorOk h) (hh' : HorOk h') (hL : LessH h h') {s : Span} (hw : WOk s) : costM h' s ≤ costM h s := by
  have ho : ofM h' s = ofM h s := by unfold ofM; rw [hL.worst]
  have hb := of_bound hw h'
  have hm : h'.2.1 * ofM h' s ≤ h.2.1 * ofM h s := Int.mul_le_mul hL.less.loss (by omega) hb.1 hh.l0
  unfold costM
  omega
theorem rests_le (f : FOk l w h) (f' : FOk l w h') (hL : LessH h h') (hok : ∀ j, j < l.length → okAtM l w h j = true) : ∀ i, i ≤ l.length →
    (∀ j, j < i → okAtM l w h' j = true) ∧ sumR l w h' i ≤ sumR l w h i ∧ (goM l w h i).2 ≤ (goM l w h' i).2 + h'.2.2.1 * (sumR l w h i - sumR l w h' i)
  | 0, _ => by
    refine ⟨fun j hj => absurd hj (Nat.not_lt_zero j), Int.le_refl _, ?_⟩
    show h.1 ≤ h'.1 + h'.2.2.1 * (0 - 0)
    have := hL.now
    simp only [Int.sub_self, Int.mul_zero]; omega
  | i + 1, hi => by
    obtain ⟨i1, i2, i3⟩ := rests_le f f' hL hok i (by omega)
    have hil : i < l.length := by omega
    have hf1 := f.hor.f1
    have hfe := hL.full
    have ha := go_bound f i (by omega) fun j hj => hok j (by omega)
    have hb := go_bound f' i (by omega) i1
    have hm := min_ok f hil (hok i hil)
    have hw := f.st.work i hil
    have hc := cost_le f.hor f'.hor hL hw
    have hc0 := cost_bound f'.hor hw
    have hcA := cost_bound f.hor hw
    have stepA : ∀ r, 0 ≤ r → r ≤ 10000 → furrowM h (w.getD i (0, 0)) (restM h r (goM l w h i).2) = min h.2.2.2.1 ((goM l w h i).2 + h.2.2.1 * r) - costM h (w.getD i (0, 0)) := by
      intro r r0 r1
      have hmb := mul_bound f.hor.g0 f.hor.g1 r0 r1
      rw [rest_eq f.hor r0 r1 (by omega) (by omega), furrow_eq f.hor hw (by omega) (by omega)]
    have stepB : ∀ r, 0 ≤ r → r ≤ 10000 → furrowM h' (w.getD i (0, 0)) (restM h' r (goM l w h' i).2) = min h'.2.2.2.1 ((goM l w h' i).2 + h'.2.2.1 * r) - costM h' (w.getD i (0, 0)) := by
      intro r r0 r1
      have hmb := mul_bound f'.hor.g0 f'.hor.g1 r0 r1
      rw [rest_eq f'.hor r0 r1 (by omega) (by omega), furrow_eq f'.hor hw (by omega) (by omega)]
    have eA := go_suc f hil
    rw [stepA _ hm.1 (by omega)] at eA
    have hA0 := hm.2.2.1
    rw [eA] at hA0
    have hg : h.2.2.1 * minM l w h i ≤ h'.2.2.1 * minM l w h i := Int.mul_le_mul_of_nonneg_right hL.less.gain hm.1
    have hgm := mul_bound f'.hor.g0 f'.hor.g1 hm.1 (show minM l w h i ≤ 10000 by omega)
    have hD : 0 ≤ sumR l w h i - sumR l w h' i := by omega
    have hgD := Int.mul_nonneg f'.hor.g0 hD
    have enough : ∃ s, 0 ≤ s ∧ s ≤ h'.2.2.2.1 ∧ s ≤ sumR l w h i - sumR l w h' i + minM l w h i ∧ 0 ≤ min h'.2.2.2.1 ((goM l w h' i).2 + h'.2.2.1 * s) - costM h' (w.getD i (0, 0)) := by
      by_cases hle : sumR l w h i - sumR l w h' i + minM l w h i ≤ h'.2.2.2.1
      · refine ⟨_, by omega, hle, Int.le_refl _, ?_⟩
        rw [Int.mul_add]
        omega
      · by_cases hz : h'.2.2.1 = 0
        · refine ⟨0, Int.le_refl _, by omega, by omega, ?_⟩
          rw [hz] at hgD hgm hg i3 ⊢
          simp only [Int.zero_mul] at hg i3 ⊢
          omega
        · have hg1 : 1 ≤ h'.2.2.1 := by have := f'.hor.g0; omega
          have hF : h'.2.2.2.1 ≤ h'.2.2.1 * h'.2.2.2.1 := by
            have := Int.mul_le_mul_of_nonneg_right hg1 f'.hor.f0
            omega
          refine ⟨h'.2.2.2.1, f'.hor.f0, Int.le_refl _, by omega, ?_⟩
          omega
    obtain ⟨s, s0, s1, s2, s3⟩ := enough
    have hsuit : suitM (.inr (trialM l w h' i (goM l w h' i).2)) s = true := by
      rw [suit_eq f' hil, stepB s s0 (by omega)]
      exact decide_eq_true s3
    have hok' : okAtM l w h' i = true := by
      cases hh : okAtM l w h' i with
      | true => rfl
      | false =>
        have := (first_false (p := fun m => suitM (.inr (trialM l w h' i (goM l w h' i).2)) m) (to := h'.2.2.2.1) hh).2 s s0 s1
        have this' : suitM (.inr (trialM l w h' i (goM l w h' i).2)) s = false := this
        rw [hsuit] at this'; cases this'
    have hm' := min_ok f' hil hok'
    have hmin : minM l w h' i ≤ s := by
      by_cases hlt : s < minM l w h' i
      · have := hm'.2.2.2 s s0 hlt
        rw [stepB s s0 (by omega)] at this
        omega
      · omega
    have eB := go_suc f' hil
    rw [stepB _ hm'.1 (by omega)] at eB
    have hgm' := mul_bound f'.hor.g0 f'.hor.g1 hm'.1 (show minM l w h' i ≤ 10000 by omega)
    refine ⟨fun j hj => ?_, ?_, ?_⟩
    · rcases Nat.lt_or_eq_of_le (Nat.le_of_lt_succ hj) with h2 | rfl
      · exact i1 j h2
      · exact hok'
    · show sumR l w h' i + minM l w h' i ≤ sumR l w h i + minM l w h i
      omega
    · rw [eA, eB]
      show _ ≤ _ + h'.2.2.1 * (sumR l w h i + minM l w h i - (sumR l w h' i + minM l w h' i))
      have hD' : 0 ≤ sumR l w h i + minM l w h i - (sumR l w h' i + minM l w h' i) := by omega
      have hgD' := Int.mul_nonneg f'.hor.g0 hD'
      have e : h'.2.2.1 * (sumR l w h i + minM l w h i - (sumR l w h' i + minM l w h' i)) = h'.2.2.1 * (sumR l w h i - sumR l w h' i) + h'.2.2.1 * minM l w h i - h'.2.2.1 * minM l w h' i := by
        rw [show sumR l w h i + minM l w h i - (sumR l w h' i + minM l w h' i) = (sumR l w h i - sumR l w h' i) + minM l w h i - minM l w h' i by omega, Int.mul_sub, Int.mul_add]
      rw [e] at hgD' ⊢
      omega
theorem sum_tot (f : FOk l w h) (hok : ∀ j, j < l.length → okAtM l w h j = true) : ∀ i, i ≤ l.length → totM (goM l w h l.length).1 i = sumR l w h i ∧ 0 ≤ sumR l w h i ∧ sumR l w h i ≤ 10000 * i
  | 0, _ => ⟨rfl, Int.le_refl _, by show (0 : Int) ≤ 10000 * ((0 : Nat) : Int); omega⟩
  | i + 1, hi => by
    obtain ⟨i1, i2, i3⟩ := sum_tot f hok i (by omega)
    have hf1 := f.hor.f1
    have hl := f.st.len
    have hm := min_ok f (show i < l.length by omega) (hok i (by omega))
    have hg : (goM l w h l.length).1.getD i 0 = minM l w h i := go_get _ i (by omega)
    refine ⟨?_, ?_, ?_⟩
    · show W (totM (goM l w h l.length).1 i + (goM l w h l.length).1.getD i 0) = sumR l w h i + minM l w h i
      rw [i1, hg]
      exact wrap_id (by omega) (by omega)
    · show 0 ≤ sumR l w h i + minM l w h i
      omega
    · show sumR l w h i + minM l w h i ≤ 10000 * ((i + 1 : Nat) : Int)
      omega
end
section
variable {t t' : TeamT} {p : PlotT}
theorem rests_more (ht : teamM t = true) (ht' : teamM t' = true) (hL : LessH (worstM t) (worstM t')) (hz : (restsM t p).2 = 0) :
    (restsM t' p).2 = 0 ∧ (restsM t p).1.length = p.steps.length ∧ (restsM t' p).1.length = p.steps.length ∧ totM (restsM t' p).1 p.steps.length ≤ totM (restsM t p).1 p.steps.length := by
  cases hany : (!p.steps.any fun s => sfM none s) with
  | false => rw [rests_any hany] at hz; exact absurd hz (by decide)
  | true =>
    cases ho : openErrM t p true == 0 with
    | false =>
      rw [rests_open hany ho] at hz
      have hz' : openErrM t p true = 0 := hz
      rw [hz'] at ho; exact absurd ho (by decide)
    | true =>
      have ho' : (openErrM t' p true == 0) = true := open_all ht' (open_plot ho) (open_hard ho)
      have f := fok_of ho hany
      have f' := fok_of ho' hany
      rcases rests_law ho hany with ⟨e, _⟩ | ⟨e, hok, _⟩
      · rw [e] at hz; exact absurd hz (by decide)
      · obtain ⟨k1, k2, _⟩ := rests_le f f' hL hok p.steps.length (Nat.le_refl _)
        have e' := rests_ok' hany ho' k1
        rw [e, e']
        refine ⟨rfl, go_len _ _ _ _, go_len _ _ _ _, ?_⟩
        show totM (goM p.steps (worksM p) (worstM t') p.steps.length).1 p.steps.length ≤ totM (goM p.steps (worksM p) (worstM t) p.steps.length).1 p.steps.length
        rw [(sum_tot f hok _ (Nat.le_refl _)).1, (sum_tot f' k1 _ (Nat.le_refl _)).1]
        exact k2
end
end AE.Team

namespace AE.Soil
open Go AE Go.Proofs

abbrev T3 := Int × Int × Int
def Ok3 (x : T3) : Prop := x.1 + x.2.1 + x.2.2 = 20 ∧ 0 ≤ x.1 ∧ 0 ≤ x.2.1 ∧ 0 ≤ x.2.2
def In (s : Span) (n : Int) : Prop := s.1 ≤ n ∧ n ≤ s.2
def Mem (m : Mix3) (x : T3) : Prop := x.1 + x.2.1 + x.2.2 = 20 ∧ In m.1 x.1 ∧ In m.2.1 x.2.1 ∧ In m.2.2 x.2.2
structure Tight (m : Mix3) : Prop where
  a : 0 ≤ m.1.1 ∧ m.1.1 ≤ m.1.2 ∧ m.1.2 ≤ 20
  b : 0 ≤ m.2.1.1 ∧ m.2.1.1 ≤ m.2.1.2 ∧ m.2.1.2 ≤ 20
  c : 0 ≤ m.2.2.1 ∧ m.2.2.1 ≤ m.2.2.2 ∧ m.2.2.2 ≤ 20
  la : 20 ≤ m.1.1 + m.2.1.2 + m.2.2.2
  lb : 20 ≤ m.1.2 + m.2.1.1 + m.2.2.2
  lc : 20 ≤ m.1.2 + m.2.1.2 + m.2.2.1
  ha : m.1.2 + m.2.1.1 + m.2.2.1 ≤ 20
  hb : m.1.1 + m.2.1.2 + m.2.2.1 ≤ 20
  hc : m.1.1 + m.2.1.1 + m.2.2.2 ≤ 20
def Bd1 (n : Int) : Prop := -60 ≤ n ∧ n ≤ 60
structure Bd (m : Mix3) : Prop where
  a : Bd1 m.1.1 ∧ Bd1 m.1.2
  b : Bd1 m.2.1.1 ∧ Bd1 m.2.1.2
  c : Bd1 m.2.2.1 ∧ Bd1 m.2.2.2
def Good (m : Mix3) : Prop := (noneM m = true ∧ Bd m) ∨ Tight m
theorem none_iff (m : Mix3) : noneM m = true ↔ (m.1.1 > m.1.2 ∨ m.2.1.1 > m.2.1.2) ∨ m.2.2.1 > m.2.2.2 := by simp [noneM]
theorem some_iff (m : Mix3) : noneM m = false ↔ m.1.1 ≤ m.1.2 ∧ m.2.1.1 ≤ m.2.1.2 ∧ m.2.2.1 ≤ m.2.2.2 := by
  cases h : noneM m with
  | true => rw [none_iff] at h; constructor <;> intro h2 <;> first | (cases h2; done) | omega
  | false =>
    have : ¬ noneM m = true := by rw [h]; decide
    rw [none_iff] at this
    exact ⟨fun _ => by omega, fun _ => rfl⟩
theorem Tight.some {m : Mix3} (h : Tight m) : noneM m = false := (some_iff m).2 ⟨h.a.2.1, h.b.2.1, h.c.2.1⟩
theorem Tight.bd {m : Mix3} (h : Tight m) : Bd m where
  a := by have := h.a; unfold Bd1; omega
  b := by have := h.b; unfold Bd1; omega
  c := by have := h.c; unfold Bd1; omega
theorem Good.bd {m : Mix3} (h : Good m) : Bd m := by
  rcases h with h | h
  · exact h.2
  · exact h.bd
theorem Good.tight {m : Mix3} (h : Good m) (hs : noneM m = false) : Tight m := by
  rcases h with h | h
  · rw [h.1] at hs; cases hs
  · exact h
theorem pt3 {p1 q1 p2 q2 p3 q3 s : Int} (h1 : p1 ≤ q1) (h2 : p2 ≤ q2) (h3 : p3 ≤ q3) (hl : p1 + p2 + p3 ≤ s) (hh : s ≤ q1 + q2 + q3) : ∃ x : T3, x.1 + x.2.1 + x.2.2 = s ∧ In (p1, q1) x.1 ∧ In (p2, q2) x.2.1 ∧ In (p3, q3) x.2.2 := by
  obtain ⟨a, ha⟩ : ∃ a, a = max p1 (s - q2 - q3) := ⟨_, rfl⟩
  obtain ⟨b, hb⟩ : ∃ b, b = max p2 (s - a - q3) := ⟨_, rfl⟩
  refine ⟨(a, b, s - a - b), ?_, ⟨?_, ?_⟩, ⟨?_, ?_⟩, ?_, ?_⟩ <;> dsimp only <;> omega
theorem Tight.lowA {m : Mix3} (h : Tight m) {v : Int} (hv : In m.1 v) : ∃ x, Mem m x ∧ x.1 = v := by
  obtain ⟨ha, hb, hc, la, lb, lc, ka, kb, kc⟩ := h
  obtain ⟨v1, v2⟩ := hv
  obtain ⟨x, h1, h2, h3, h4⟩ := pt3 (p1 := v) (q1 := v) (p2 := m.2.1.1) (q2 := m.2.1.2) (p3 := m.2.2.1) (q3 := m.2.2.2) (s := 20) (Int.le_refl _) hb.2.1 hc.2.1 (by omega) (by omega)
  have e : x.1 = v := by have := h2.1; have := h2.2; dsimp only at *; omega
  exact ⟨x, ⟨h1, by rw [e]; exact ⟨v1, v2⟩, h3, h4⟩, e⟩
theorem Tight.ex {m : Mix3} (h : Tight m) : ∃ x, Mem m x := by
  obtain ⟨x, hx, _⟩ := h.lowA ⟨Int.le_refl _, h.a.2.1⟩
  exact ⟨x, hx⟩
theorem Mem.some {m : Mix3} {x : T3} (h : Mem m x) : noneM m = false := by
  obtain ⟨_, h1, h2, h3⟩ := h
  exact (some_iff m).2 ⟨Int.le_trans h1.1 h1.2, Int.le_trans h2.1 h2.2, Int.le_trans h3.1 h3.2⟩
theorem Good.ex_iff {m : Mix3} (h : Good m) : noneM m = false ↔ ∃ x, Mem m x := ⟨fun hs => (h.tight hs).ex, fun ⟨_, hx⟩ => hx.some⟩
theorem Mem.ok3 {m : Mix3} (h : Good m) {x : T3} (hx : Mem m x) : Ok3 x := by
  have t := h.tight hx.some
  obtain ⟨h0, h1, h2, h3⟩ := hx
  exact ⟨h0, Int.le_trans t.a.1 h1.1, Int.le_trans t.b.1 h2.1, Int.le_trans t.c.1 h3.1⟩
theorem one_eq {a b c : Span} (hb : Bd1 b.1 ∧ Bd1 b.2) (hc : Bd1 c.1 ∧ Bd1 c.2) : oneM a b c = (max (max 0 a.1) (20 - b.2 - c.2), min (min 20 a.2) (20 - b.1 - c.1)) := by
  obtain ⟨⟨b1, b2⟩, b3, b4⟩ := hb
  obtain ⟨⟨c1, c2⟩, c3, c4⟩ := hc
  unfold oneM
  rw [show W (20 - b.2) = 20 - b.2 from wrap_id (by omega) (by omega), show W (20 - b.1) = 20 - b.1 from wrap_id (by omega) (by omega), show W (20 - b.2 - c.2) = 20 - b.2 - c.2 from wrap_id (by omega) (by omega), show W (20 - b.1 - c.1) = 20 - b.1 - c.1 from wrap_id (by omega) (by omega)]
theorem tight_eq {m : Mix3} (h : Bd m) : tightM m = ((max (max 0 m.1.1) (20 - m.2.1.2 - m.2.2.2), min (min 20 m.1.2) (20 - m.2.1.1 - m.2.2.1)), (max (max 0 m.2.1.1) (20 - m.1.2 - m.2.2.2), min (min 20 m.2.1.2) (20 - m.1.1 - m.2.2.1)), (max (max 0 m.2.2.1) (20 - m.1.2 - m.2.1.2), min (min 20 m.2.2.2) (20 - m.1.1 - m.2.1.1))) := by
  unfold tightM
  rw [one_eq h.b h.c, one_eq h.a h.c, one_eq h.a h.b]
theorem max3 {L a b c : Int} (h : L = max (max a b) c) : a ≤ L ∧ b ≤ L ∧ c ≤ L ∧ (L = a ∨ L = b ∨ L = c) := by omega
theorem min3 {L a b c : Int} (h : L = min (min a b) c) : L ≤ a ∧ L ≤ b ∧ L ≤ c ∧ (L = a ∨ L = b ∨ L = c) := by omega
theorem tight_mem {m : Mix3} (h : Bd m) (x : T3) : Mem (tightM m) x ↔ Mem m x ∧ Ok3 x := by
  rw [tight_eq h]
  unfold Mem Ok3 In
  dsimp only
  simp only [Int.max_le, Int.le_min]
  constructor
  · rintro ⟨h0, h1, h2, h3⟩
    exact ⟨⟨h0, ⟨h1.1.1.2, h1.2.1.2⟩, ⟨h2.1.1.2, h2.2.1.2⟩, ⟨h3.1.1.2, h3.2.1.2⟩⟩, h0, h1.1.1.1, h2.1.1.1, h3.1.1.1⟩
  · rintro ⟨⟨h0, h1, h2, h3⟩, _, h4, h5, h6⟩
    refine ⟨h0, ⟨⟨⟨h4, h1.1⟩, ?_⟩, ⟨?_, h1.2⟩, ?_⟩, ⟨⟨⟨h5, h2.1⟩, ?_⟩, ⟨?_, h2.2⟩, ?_⟩, ⟨⟨h6, h3.1⟩, ?_⟩, ⟨?_, h3.2⟩, ?_⟩ <;> omega
theorem end_lo {a1 a2 b1 b2 c1 c2 La Ha Lb Hb Lc Hc : Int} (la : La = max (max 0 a1) (20 - b2 - c2)) (ha : Ha = min (min 20 a2) (20 - b1 - c1)) (lb : Lb = max (max 0 b1) (20 - a2 - c2)) (hb : Hb = min (min 20 b2) (20 - a1 - c1)) (lc : Lc = max (max 0 c1) (20 - a2 - b2)) (hc : Hc = min (min 20 c2) (20 - a1 - b1))
    (na : La ≤ Ha) (nb : Lb ≤ Hb) (nc : Lc ≤ Hc) : 20 ≤ La + Hb + Hc := by
  obtain ⟨f1, f2, f3, _⟩ := max3 la
  obtain ⟨_, _, f6, _⟩ := min3 ha
  obtain ⟨g1, g2, _, _⟩ := max3 lb
  obtain ⟨_, f9, _, f7⟩ := min3 hb
  obtain ⟨g3, g4, _, _⟩ := max3 lc
  obtain ⟨_, f10, _, f8⟩ := min3 hc
  clear la ha lb hb lc hc
  rcases f7 with e1 | e1 | e1 <;> rcases f8 with e2 | e2 | e2 <;> omega
theorem end_hi {a1 a2 b1 b2 c1 c2 La Ha Lb Hb Lc Hc : Int} (la : La = max (max 0 a1) (20 - b2 - c2)) (ha : Ha = min (min 20 a2) (20 - b1 - c1)) (lb : Lb = max (max 0 b1) (20 - a2 - c2)) (hb : Hb = min (min 20 b2) (20 - a1 - c1)) (lc : Lc = max (max 0 c1) (20 - a2 - b2)) (hc : Hc = min (min 20 c2) (20 - a1 - b1))
    (na : La ≤ Ha) (nb : Lb ≤ Hb) (nc : Lc ≤ Hc) (wb : 0 ≤ b1 ∨ a2 + c1 ≤ 20) (wc : 0 ≤ c1 ∨ a2 + b1 ≤ 20) : Ha + Lb + Lc ≤ 20 := by
  obtain ⟨f1, f2, f3, _⟩ := max3 la
  obtain ⟨h1, h2, h3, _⟩ := min3 ha
  obtain ⟨g1, g2, _, f7⟩ := max3 lb
  obtain ⟨k1, k2, k3, _⟩ := min3 hb
  obtain ⟨g3, g4, _, f8⟩ := max3 lc
  obtain ⟨k4, k5, k6, _⟩ := min3 hc
  clear la ha lb hb lc hc
  rcases f7 with e1 | e1 | e1 <;> rcases f8 with e2 | e2 | e2 <;> omega
theorem six_ends {a1 a2 b1 b2 c1 c2 La Ha Lb Hb Lc Hc : Int} (la : La = max (max 0 a1) (20 - b2 - c2)) (ha : Ha = min (min 20 a2) (20 - b1 - c1)) (lb : Lb = max (max 0 b1) (20 - a2 - c2)) (hb : Hb = min (min 20 b2) (20 - a1 - c1)) (lc : Lc = max (max 0 c1) (20 - a2 - b2)) (hc : Hc = min (min 20 c2) (20 - a1 - b1))
    (na : La ≤ Ha) (nb : Lb ≤ Hb) (nc : Lc ≤ Hc) (wab : 0 ≤ b1 ∨ a2 + c1 ≤ 20) (wac : 0 ≤ c1 ∨ a2 + b1 ≤ 20) (wba : 0 ≤ a1 ∨ b2 + c1 ≤ 20) (wbc : 0 ≤ c1 ∨ b2 + a1 ≤ 20) (wca : 0 ≤ a1 ∨ c2 + b1 ≤ 20) (wcb : 0 ≤ b1 ∨ c2 + a1 ≤ 20) : Tight ((La, Ha), (Lb, Hb), (Lc, Hc)) := by
  have s1 : 20 - c2 - b2 = 20 - b2 - c2 := by omega
  have s2 : 20 - c1 - b1 = 20 - b1 - c1 := by omega
  have s3 : 20 - c2 - a2 = 20 - a2 - c2 := by omega
  have s4 : 20 - c1 - a1 = 20 - a1 - c1 := by omega
  have s5 : 20 - b2 - a2 = 20 - a2 - b2 := by omega
  have s6 : 20 - b1 - a1 = 20 - a1 - b1 := by omega
  have r1 := end_lo la ha lb hb lc hc na nb nc
  have r2 := end_lo (a1 := b1) (a2 := b2) (b1 := a1) (b2 := a2) (c1 := c1) (c2 := c2) lb hb la ha (by rw [s5]; exact lc) (by rw [s6]; exact hc) nb na nc
  have r3 := end_lo (a1 := c1) (a2 := c2) (b1 := a1) (b2 := a2) (c1 := b1) (c2 := b2) lc hc (by rw [s1]; exact la) (by rw [s2]; exact ha) (by rw [s3]; exact lb) (by rw [s4]; exact hb) nc na nb
  have t1 := end_hi la ha lb hb lc hc na nb nc wab wac
  have t2 := end_hi (a1 := b1) (a2 := b2) (b1 := a1) (b2 := a2) (c1 := c1) (c2 := c2) lb hb la ha (by rw [s5]; exact lc) (by rw [s6]; exact hc) nb na nc wba wbc
  have t3 := end_hi (a1 := c1) (a2 := c2) (b1 := a1) (b2 := a2) (c1 := b1) (c2 := b2) lc hc (by rw [s1]; exact la) (by rw [s2]; exact ha) (by rw [s3]; exact lb) (by rw [s4]; exact hb) nc na nb wca wcb
  have f1 := (max3 la).1
  have f2 := (min3 ha).1
  have f3 := (max3 lb).1
  have f4 := (min3 hb).1
  have f5 := (max3 lc).1
  have f6 := (min3 hc).1
  exact ⟨⟨f1, na, f2⟩, ⟨f3, nb, f4⟩, ⟨f5, nc, f6⟩, r1, by show 20 ≤ Ha + Lb + Hc; clear la ha lb hb lc hc; omega, by show 20 ≤ Ha + Hb + Lc; clear la ha lb hb lc hc; omega, t1, by show La + Hb + Lc ≤ 20; clear la ha lb hb lc hc; omega, by show La + Lb + Hc ≤ 20; clear la ha lb hb lc hc; omega⟩
structure Pw (m : Mix3) : Prop where
  ab : 0 ≤ m.2.1.1 ∨ m.1.2 + m.2.2.1 ≤ 20
  ac : 0 ≤ m.2.2.1 ∨ m.1.2 + m.2.1.1 ≤ 20
  ba : 0 ≤ m.1.1 ∨ m.2.1.2 + m.2.2.1 ≤ 20
  bc : 0 ≤ m.2.2.1 ∨ m.2.1.2 + m.1.1 ≤ 20
  ca : 0 ≤ m.1.1 ∨ m.2.2.2 + m.2.1.1 ≤ 20
  cb : 0 ≤ m.2.1.1 ∨ m.2.2.2 + m.1.1 ≤ 20
theorem tight_good {m : Mix3} (h : Bd m) (w : Pw m) (hs : noneM (tightM m) = false) : Tight (tightM m) := by
  rw [tight_eq h] at hs ⊢
  obtain ⟨na, nb, nc⟩ := (some_iff _).1 hs
  exact six_ends rfl rfl rfl rfl rfl rfl na nb nc w.ab w.ac w.ba w.bc w.ca w.cb
theorem tight_bd {m : Mix3} (h : Bd m) (ha : m.1.1 ≤ 20 ∧ 0 ≤ m.1.2) (hb : m.2.1.1 ≤ 20 ∧ 0 ≤ m.2.1.2) (hc : m.2.2.1 ≤ 20 ∧ 0 ≤ m.2.2.2) : Bd (tightM m) := by
  rw [tight_eq h]
  obtain ⟨⟨⟨a1, a2⟩, a3, a4⟩, ⟨⟨b1, b2⟩, b3, b4⟩, ⟨c1, c2⟩, c3, c4⟩ := h
  have up : ∀ x y z : Int, x ≤ 20 → 0 ≤ y → 0 ≤ z → Bd1 (max (max 0 x) (20 - y - z)) := fun x y z _ _ _ => by unfold Bd1; omega
  have dn : ∀ x y z : Int, 0 ≤ x → y ≤ 20 → z ≤ 20 → Bd1 (min (min 20 x) (20 - y - z)) := fun x y z _ _ _ => by unfold Bd1; omega
  exact ⟨⟨up _ _ _ ha.1 hb.2 hc.2, dn _ _ _ ha.2 hb.1 hc.1⟩, ⟨up _ _ _ hb.1 ha.2 hc.2, dn _ _ _ hb.2 ha.1 hc.1⟩, ⟨up _ _ _ hc.1 ha.2 hb.2, dn _ _ _ hc.2 ha.1 hb.1⟩⟩
theorem meet_mem (m o : Mix3) (x : T3) : Mem (meetM m o) x ↔ Mem m x ∧ Mem o x := by
  unfold Mem meetM bothM In
  dsimp only
  constructor
  · rintro ⟨h0, h1, h2, h3⟩
    exact ⟨⟨h0, by omega, by omega, by omega⟩, h0, by omega, by omega, by omega⟩
  · rintro ⟨⟨h0, h1, h2, h3⟩, _, h4, h5, h6⟩
    exact ⟨h0, by omega, by omega, by omega⟩
theorem meet_bd {m o : Mix3} (h : Bd m) (k : Bd o) : Bd (meetM m o) := by
  obtain ⟨ha, hb, hc⟩ := h
  obtain ⟨ka, kb, kc⟩ := k
  unfold Bd1 at *
  constructor <;> unfold meetM bothM Bd1 <;> dsimp only <;> omega
theorem and_mem {m o : Mix3} (h : Good m) (k : Bd o) (x : T3) : Mem (andM m o) x ↔ Mem m x ∧ Mem o x := by
  unfold andM
  by_cases hc : meetM m o = m ∨ noneM (meetM m o) = true
  · rw [if_pos hc]; exact meet_mem m o x
  · rw [if_neg hc, tight_mem (meet_bd h.bd k), meet_mem]
    exact ⟨fun hx => hx.1, fun hx => ⟨hx, hx.1.ok3 h⟩⟩
theorem and_good {m o : Mix3} (h : Good m) (k : Bd o) : Good (andM m o) := by
  unfold andM
  by_cases hc : meetM m o = m ∨ noneM (meetM m o) = true
  · rw [if_pos hc]
    rcases hc with hc | hc
    · rw [hc]; exact h
    · exact .inl ⟨hc, meet_bd h.bd k⟩
  · rw [if_neg hc]
    have hb := meet_bd h.bd k
    have hs : noneM (meetM m o) = false := by simpa using fun h => hc (.inr h)
    obtain ⟨h1, h2, h3⟩ := (some_iff _).1 hs
    have b1 : (meetM m o).1.1 ≤ (meetM m o).1.2 ∧ (meetM m o).1.2 ≤ m.1.2 ∧ m.1.1 ≤ (meetM m o).1.1 := ⟨h1, by unfold meetM bothM; dsimp only; omega, by unfold meetM bothM; dsimp only; omega⟩
    have b2 : (meetM m o).2.1.1 ≤ (meetM m o).2.1.2 ∧ (meetM m o).2.1.2 ≤ m.2.1.2 ∧ m.2.1.1 ≤ (meetM m o).2.1.1 := ⟨h2, by unfold meetM bothM; dsimp only; omega, by unfold meetM bothM; dsimp only; omega⟩
    have b3 : (meetM m o).2.2.1 ≤ (meetM m o).2.2.2 ∧ (meetM m o).2.2.2 ≤ m.2.2.2 ∧ m.2.2.1 ≤ (meetM m o).2.2.1 := ⟨h3, by unfold meetM bothM; dsimp only; omega, by unfold meetM bothM; dsimp only; omega⟩
    have hm : noneM m = false := (some_iff m).2 ⟨by omega, by omega, by omega⟩
    have t := h.tight hm
    have ta := t.a
    have tb := t.b
    have tc := t.c
    cases hn : noneM (tightM (meetM m o)) with
    | false => exact .inr (tight_good hb ⟨.inl (by omega), .inl (by omega), .inl (by omega), .inl (by omega), .inl (by omega), .inl (by omega)⟩ hn)
    | true => exact .inl ⟨hn, tight_bd hb ⟨by omega, by omega⟩ ⟨by omega, by omega⟩ ⟨by omega, by omega⟩⟩
def Near (c : Int) (x y : T3) : Prop := (x.1 - y.1 ≤ c ∧ y.1 - x.1 ≤ c) ∧ (x.2.1 - y.2.1 ≤ c ∧ y.2.1 - x.2.1 ≤ c) ∧ (x.2.2 - y.2.2 ≤ c ∧ y.2.2 - x.2.2 ≤ c)
theorem Near.symm {c : Int} {x y : T3} (h : Near c x y) : Near c y x := ⟨h.1.symm, h.2.1.symm, h.2.2.symm⟩
theorem wide_eq {s : Span} {c : Int} (hs : 0 ≤ s.1 ∧ s.2 ≤ 20) (h2 : s.1 ≤ 20 ∧ 0 ≤ s.2) (hc : 0 ≤ c ∧ c ≤ 20) : wideM s c = (s.1 - c, s.2 + c) := by
  unfold wideM
  rw [show W (s.1 - c) = s.1 - c from wrap_id (by omega) (by omega), show W (s.2 + c) = s.2 + c from wrap_id (by omega) (by omega)]
theorem next_eq {m : Mix3} (h : Tight m) {c : Int} (hc : 0 ≤ c ∧ c ≤ 20) : nextM m c = tightM ((m.1.1 - c, m.1.2 + c), (m.2.1.1 - c, m.2.1.2 + c), (m.2.2.1 - c, m.2.2.2 + c)) := by
  have ta := h.a
  have tb := h.b
  have tc := h.c
  unfold nextM
  rw [h.some, if_neg (by decide), wide_eq ⟨by omega, by omega⟩ ⟨by omega, by omega⟩ hc, wide_eq ⟨by omega, by omega⟩ ⟨by omega, by omega⟩ hc, wide_eq ⟨by omega, by omega⟩ ⟨by omega, by omega⟩ hc]
theorem next_bd {m : Mix3} (h : Tight m) {c : Int} (hc : 0 ≤ c ∧ c ≤ 20) : Bd ((m.1.1 - c, m.1.2 + c), (m.2.1.1 - c, m.2.1.2 + c), (m.2.2.1 - c, m.2.2.2 + c)) := by
  have ta := h.a
  have tb := h.b
  have tc := h.c
  constructor <;> unfold Bd1 <;> dsimp only <;> omega
theorem cut2 {l h y c : Int} (h0 : l ≤ h) (h1 : l - c ≤ y) (h2 : y ≤ h + c) (hc : 0 ≤ c) : ∃ p q : Int, l ≤ p ∧ y - c ≤ p ∧ q ≤ h ∧ q ≤ y + c ∧ (p = l ∨ p = y - c) ∧ (q = h ∨ q = y + c) ∧ p ≤ q := ⟨max l (y - c), min h (y + c), by omega, by omega, by omega, by omega, by omega, by omega, by omega⟩
theorem next_mem {m : Mix3} (h : Good m) {c : Int} (hc : 0 ≤ c ∧ c ≤ 20) (y : T3) : Mem (nextM m c) y ↔ Ok3 y ∧ ∃ x, Mem m x ∧ Near c x y := by
  cases hs : noneM m with
  | true =>
    have e : nextM m c = m := by unfold nextM; rw [hs]; rfl
    rw [e]
    constructor
    · intro hy; have := hy.some; rw [hs] at this; cases this
    · rintro ⟨_, x, hx, _⟩; have := hx.some; rw [hs] at this; cases this
  | false =>
    have t := h.tight hs
    rw [next_eq t hc, tight_mem (next_bd t hc)]
    constructor
    · rintro ⟨⟨h0, ⟨h1, h2⟩, ⟨h3, h4⟩, h5, h6⟩, hy⟩
      refine ⟨hy, ?_⟩
      dsimp only at h1 h2 h3 h4 h5 h6
      obtain ⟨ta, tb, tc, la, lb, lc, ka, kb, kc⟩ := t
      obtain ⟨p1, q1, a1, a2, a3, a4, g1, k1, r1⟩ := cut2 (y := y.1) ta.2.1 h1 h2 hc.1
      obtain ⟨p2, q2, b1, b2, b3, b4, g2, k2, r2⟩ := cut2 (y := y.2.1) tb.2.1 h3 h4 hc.1
      obtain ⟨p3, q3, c1, c2, c3, c4, g3, k3, r3⟩ := cut2 (y := y.2.2) tc.2.1 h5 h6 hc.1
      have hy1 := hy.1
      have rl : p1 + p2 + p3 ≤ 20 := by
        clear k1 k2 k3 r1 r2 r3 a1 a2 a3 a4 b1 b2 b3 b4 c1 c2 c3 c4
        rcases g1 with g1 | g1 <;> rcases g2 with g2 | g2 <;> rcases g3 with g3 | g3 <;> omega
      have rh : 20 ≤ q1 + q2 + q3 := by
        clear g1 g2 g3 r1 r2 r3 rl a1 a2 a3 a4 b1 b2 b3 b4 c1 c2 c3 c4
        rcases k1 with k1 | k1 <;> rcases k2 with k2 | k2 <;> rcases k3 with k3 | k3 <;> omega
      obtain ⟨x, x0, ⟨x1, x2⟩, ⟨x3, x4⟩, x5, x6⟩ := pt3 r1 r2 r3 rl rh
      dsimp only at x1 x2 x3 x4 x5 x6
      exact ⟨x, ⟨x0, ⟨by omega, by omega⟩, ⟨by omega, by omega⟩, by omega, by omega⟩, ⟨by omega, by omega⟩, ⟨by omega, by omega⟩, by omega, by omega⟩
    · rintro ⟨hy, x, ⟨x0, ⟨x1, x2⟩, ⟨x3, x4⟩, x5, x6⟩, ⟨n1, n2⟩, ⟨n3, n4⟩, n5, n6⟩
      exact ⟨⟨hy.1, ⟨by dsimp only; omega, by dsimp only; omega⟩, ⟨by dsimp only; omega, by dsimp only; omega⟩, by dsimp only; omega, by dsimp only; omega⟩, hy⟩
theorem next_good {m : Mix3} (h : Good m) {c : Int} (hc : 0 ≤ c ∧ c ≤ 20) : Good (nextM m c) := by
  cases hs : noneM m with
  | true =>
    have e : nextM m c = m := by unfold nextM; rw [hs]; rfl
    rw [e]; exact h
  | false =>
    have t := h.tight hs
    obtain ⟨x, hx⟩ := t.ex
    have hm := (next_mem h hc x).2 ⟨hx.ok3 h, x, hx, ⟨by omega, by omega⟩, ⟨by omega, by omega⟩, by omega, by omega⟩
    have hn := hm.some
    rw [next_eq t hc] at hn ⊢
    obtain ⟨ta, tb, tc, la, lb, lc, ka, kb, kc⟩ := t
    exact .inr (tight_good (next_bd (h.tight hs) hc) ⟨.inr (by dsimp only; omega), .inr (by dsimp only; omega), .inr (by dsimp only; omega), .inr (by dsimp only; omega), .inr (by dsimp only; omega), .inr (by dsimp only; omega)⟩ hn)
theorem next_bd' {m : Mix3} (h : Good m) {c : Int} (hc : 0 ≤ c ∧ c ≤ 20) : Bd (nextM m c) := (next_good h hc).bd
end AE.Soil

namespace AE.Soil
open Go AE Go.Proofs

def Al (g : GroundT) (k : Nat) (x : T3) : Prop := Ok3 x ∧ ∀ p ∈ g.pits, p.1 = (k : Int) → In p.2.2.1 x.1 ∧ In p.2.2.2.1 x.2.1 ∧ In p.2.2.2.2 x.2.2
theorem any_tight : Tight anyM := ⟨by decide, by decide, by decide, by decide, by decide, by decide, by decide, by decide, by decide⟩
theorem any_mem (x : T3) : Mem anyM x ↔ Ok3 x := by
  unfold Mem Ok3 In anyM
  dsimp only
  constructor
  · rintro ⟨h0, h1, h2, h3⟩; exact ⟨h0, h1.1, h2.1, h3.1⟩
  · rintro ⟨h0, h1, h2, h3⟩; exact ⟨h0, ⟨h1, by omega⟩, ⟨h2, by omega⟩, h3, by omega⟩
theorem pit_bd {n : Int} {p : PitT} (h : PitOk n p) : Bd p.2.2 := by
  obtain ⟨_, _, h1, h2, h3⟩ := h
  unfold SpOk at h1 h2 h3
  constructor <;> unfold Bd1 <;> omega
theorem pit_uniq {l : List PitT} (h : l.Pairwise fun p q => p.1 < q.1) {p q : PitT} (hp : p ∈ l) (hq : q ∈ l) (e : p.1 = q.1) : p = q := by
  obtain ⟨i, hi, rfl⟩ := List.getElem_of_mem hp
  obtain ⟨j, hj, rfl⟩ := List.getElem_of_mem hq
  rcases Nat.lt_trichotomy i j with hlt | rfl | hlt
  · have := List.pairwise_iff_getElem.1 h i j hi hj hlt; omega
  · rfl
  · have := List.pairwise_iff_getElem.1 h j i hj hi hlt; omega
theorem mixAt_ok {g : GroundT} (hg : GOk g) (k : Nat) : Good (mixAtM (pmapM g.pits) (k : Int)) ∧ ∀ x, Mem (mixAtM (pmapM g.pits) (k : Int)) x ↔ Al g k x := by
  cases hf : mfind UU MM.pits [(k : Int)] (pmapM g.pits) with
  | none =>
    have e : mixAtM (pmapM g.pits) (k : Int) = anyM := mixAt_no (by unfold mhasM; rw [hf]; rfl)
    rw [e]
    refine ⟨.inr any_tight, fun x => ?_⟩
    rw [any_mem]
    refine ⟨fun h => ⟨h, fun p hp hk => ?_⟩, fun h => h.1⟩
    have hn := List.find?_eq_none.1 hf (p.1, p.2.2) (List.mem_map.2 ⟨p, hp, rfl⟩)
    exact absurd (by rw [← hk]; exact decide_eq_true rfl) hn
  | some v =>
    have hm := List.mem_of_find?_eq_some hf
    have hk : [(k : Int)] = UU.mkey MM.pits v := of_decide_eq_true (List.find?_some (p := fun e => decide ([(k : Int)] = UU.mkey MM.pits e)) hf)
    obtain ⟨p, hp, hpe⟩ := List.mem_map.1 (show v ∈ g.pits.map (fun p => (p.1, p.2.2)) from hm)
    have hpk : p.1 = (k : Int) := by
      have h1 : [(k : Int)] = [v.1] := hk
      rw [← hpe] at h1
      exact (List.cons.inj h1).1.symm
    have e : mixAtM (pmapM g.pits) (k : Int) = andM anyM p.2.2 := by
      rw [mixAt_yes (by unfold mhasM; rw [hf]; rfl)]
      unfold mgetM
      rw [hf, ← hpe]; rfl
    rw [e]
    have hb := pit_bd (hg.pits p hp)
    refine ⟨and_good (.inr any_tight) hb, fun x => ?_⟩
    rw [and_mem (.inr any_tight) hb, any_mem]
    constructor
    · rintro ⟨h1, h2⟩
      refine ⟨h1, fun q hq hqk => ?_⟩
      rw [pit_uniq hg.inc hq hp (by rw [hqk, hpk])]
      exact h2.2
    · rintro ⟨h1, h2⟩
      exact ⟨h1, h1.1, h2 p hp hpk⟩
def Ch (A : Nat → T3 → Prop) (c : Int) : Nat → T3 → Prop
  | 0, x => A 0 x
  | k + 1, x => A (k + 1) x ∧ ∃ y, Ch A c k y ∧ Near c y x
theorem Ch.head {A : Nat → T3 → Prop} {c : Int} : ∀ {k : Nat} {x : T3}, Ch A c k x → A k x
  | 0, _, h => h
  | _ + 1, _, h => h.1
theorem ch_ex {A : Nat → T3 → Prop} {c : Int} : ∀ {k : Nat} {x : T3}, Ch A c k x → ∃ m : Nat → T3, m k = x ∧ (∀ i, i ≤ k → Ch A c i (m i)) ∧ ∀ i, i < k → Near c (m i) (m (i + 1))
  | 0, x, h => ⟨fun _ => x, rfl, fun i hi => by rw [Nat.le_zero.1 hi]; exact h, fun i hi => absurd hi (Nat.not_lt_zero i)⟩
  | k + 1, x, h => by
    obtain ⟨ha, y, hy, hn⟩ := h
    obtain ⟨m, hm, h1, h2⟩ := ch_ex hy
    refine ⟨fun i => if i ≤ k then m i else x, if_neg (by omega), fun i hi => ?_, fun i hi => ?_⟩
    · show Ch A c i (if i ≤ k then m i else x)
      by_cases hc : i ≤ k
      · rw [if_pos hc]; exact h1 i hc
      · rw [if_neg hc]
        have : i = k + 1 := by omega
        subst this
        exact ⟨ha, y, hy, hn⟩
    · show Near c (if i ≤ k then m i else x) (if i + 1 ≤ k then m (i + 1) else x)
      rw [if_pos (by omega : i ≤ k)]
      by_cases hc : i + 1 ≤ k
      · rw [if_pos hc]; exact h2 i (by omega)
      · rw [if_neg hc]
        have : i = k := by omega
        subst this
        rw [hm]; exact hn
theorem ch_of {A : Nat → T3 → Prop} {c : Int} {m : Nat → T3} : ∀ {k : Nat}, (∀ i, i ≤ k → A i (m i)) → (∀ i, i < k → Near c (m i) (m (i + 1))) → Ch A c k (m k)
  | 0, h, _ => h 0 (Nat.le_refl 0)
  | k + 1, h, hn => ⟨h _ (Nat.le_refl _), m k, ch_of (fun i hi => h i (by omega)) (fun i hi => hn i (by omega)), hn k (by omega)⟩
theorem ch_iff {A B : Nat → T3 → Prop} {c : Int} : ∀ {k : Nat} {x : T3}, (∀ i, i ≤ k → ∀ x, A i x ↔ B i x) → (Ch A c k x ↔ Ch B c k x)
  | 0, x, h => h 0 (Nat.le_refl 0) x
  | k + 1, x, h => by
    unfold Ch
    rw [h (k + 1) (Nat.le_refl _) x]
    constructor
    · rintro ⟨h1, y, h2, h3⟩; exact ⟨h1, y, (ch_iff fun i hi => h i (by omega)).1 h2, h3⟩
    · rintro ⟨h1, y, h2, h3⟩; exact ⟨h1, y, (ch_iff fun i hi => h i (by omega)).2 h2, h3⟩
theorem acc_ok {l : List Mix3} {b : Bool} {c : Int} (hc : 0 ≤ c ∧ c ≤ 20) (hl : ∀ j, j < l.length → Good (l.getD j m0)) : ∀ k, k < l.length → Good (accM l b c k) ∧ ∀ x, Mem (accM l b c k) x ↔ Ch (fun i x => Mem (l.getD (idxM l.length b i) m0) x) c k x
  | 0, hk => ⟨hl _ (idx_lt b hk), fun x => Iff.rfl⟩
  | k + 1, hk => by
    obtain ⟨h1, h2⟩ := acc_ok hc hl k (by omega)
    have hg := hl _ (idx_lt b hk)
    refine ⟨and_good hg (next_bd' h1 hc), fun x => ?_⟩
    show Mem (andM (l.getD (idxM l.length b (k + 1)) m0) (nextM (accM l b c k) c)) x ↔ _
    rw [and_mem hg (next_bd' h1 hc), next_mem h1 hc]
    constructor
    · rintro ⟨h3, _, y, h4, h5⟩; exact ⟨h3, y, (h2 y).1 h4, h5⟩
    · rintro ⟨h3, y, h4, h5⟩; exact ⟨h3, h3.ok3 hg, y, (h2 y).2 h4, h5⟩
theorem pass_at {l : List Mix3} {b : Bool} {c : Int} {j : Nat} (hj : j < l.length) : (passM l b c l.length).getD j m0 = accM l b c (idxM l.length b j) := by
  unfold passM
  rw [map_get _ _ _ _ hj, if_pos (idx_lt b hj)]
theorem stage0 {g : GroundT} (hg : GOk g) {j : Nat} (hj : j < nM g) : Good ((stageM g 0).getD j m0) ∧ ∀ x, Mem ((stageM g 0).getD j m0) x ↔ Al g j x := by
  have e : (stageM g 0).getD j m0 = mixAtM (pmapM g.pits) (j : Int) := by
    unfold stageM mixesM
    rw [map_get _ _ _ _ hj, if_pos hj]
  rw [e]; exact mixAt_ok hg j
theorem stage1 {g : GroundT} (hg : GOk g) {j : Nat} (hj : j < nM g) : Good ((stageM g 1).getD j m0) ∧ ∀ x, Mem ((stageM g 1).getD j m0) x ↔ Ch (Al g) g.change j x := by
  have hlen := stage_len g 0
  have e : (stageM g 1).getD j m0 = accM (stageM g 0) false g.change j := by
    have := pass_at (l := stageM g 0) (b := false) (c := g.change) (j := j) (by omega)
    rw [hlen] at this; exact this
  rw [e]
  obtain ⟨h1, h2⟩ := acc_ok (l := stageM g 0) (b := false) hg.change (fun i hi => (stage0 hg (by omega)).1) j (by omega)
  refine ⟨h1, fun x => ?_⟩
  rw [h2]
  exact ch_iff fun i hi x => (stage0 hg (by show (idxM _ false i) < _; unfold idxM; rw [if_neg (by decide)]; omega)).2 x
theorem stage2 {g : GroundT} (hg : GOk g) {j : Nat} (hj : j < nM g) : Good ((boxesM g).getD j m0) ∧ ∀ x, Mem ((boxesM g).getD j m0) x ↔ Ch (fun i => Ch (Al g) g.change (nM g - 1 - i)) g.change (nM g - 1 - j) x := by
  have hlen := stage_len g 1
  have e : (boxesM g).getD j m0 = accM (stageM g 1) true g.change (nM g - 1 - j) := by
    have := pass_at (l := stageM g 1) (b := true) (c := g.change) (j := j) (by omega)
    rw [hlen] at this; exact this
  rw [e]
  obtain ⟨h1, h2⟩ := acc_ok (l := stageM g 1) (b := true) hg.change (fun i hi => (stage1 hg (by omega)).1) (nM g - 1 - j) (by omega)
  refine ⟨h1, fun x => ?_⟩
  rw [h2, hlen]
  exact ch_iff fun i hi x => (stage1 hg (by unfold idxM; rw [if_pos rfl]; omega)).2 x
structure MTr (g : GroundT) (m : Nat → T3) : Prop where
  al : ∀ k, k < nM g → Al g k (m k)
  near : ∀ k, k + 1 < nM g → Near g.change (m k) (m (k + 1))
theorem both_truth {g : GroundT} {j : Nat} (hj : j < nM g) {x : T3} (h1 : Ch (Al g) g.change j x) (h2 : Ch (fun i => Al g (nM g - 1 - i)) g.change (nM g - 1 - j) x) : ∃ m, MTr g m ∧ m j = x := by
  obtain ⟨l, hl, l1, l2⟩ := ch_ex h1
  obtain ⟨r, hr, r1, r2⟩ := ch_ex h2
  refine ⟨fun i => if i ≤ j then l i else r (nM g - 1 - i), ⟨fun k hk => ?_, fun k hk => ?_⟩, by show (if j ≤ j then l j else _) = x; rw [if_pos (Nat.le_refl j)]; exact hl⟩
  · show Al g k (if k ≤ j then l k else r (nM g - 1 - k))
    by_cases hc : k ≤ j
    · rw [if_pos hc]; exact (l1 k hc).head
    · rw [if_neg hc]
      have := (r1 (nM g - 1 - k) (by omega)).head
      rwa [show nM g - 1 - (nM g - 1 - k) = k by omega] at this
  · show Near g.change (if k ≤ j then l k else r (nM g - 1 - k)) (if k + 1 ≤ j then l (k + 1) else r (nM g - 1 - (k + 1)))
    by_cases hc : k + 1 ≤ j
    · rw [if_pos hc, if_pos (by omega)]; exact l2 k (by omega)
    · rw [if_neg hc]
      have hn := r2 (nM g - 1 - (k + 1)) (by omega)
      rw [show nM g - 1 - (k + 1) + 1 = nM g - 1 - k by omega] at hn
      by_cases hc2 : k ≤ j
      · rw [if_pos hc2]
        have : k = j := by omega
        subst this
        rw [hl, ← hr]; exact hn.symm
      · rw [if_neg hc2]; exact hn.symm
theorem MTr.fwd {g : GroundT} {m : Nat → T3} (t : MTr g m) {j : Nat} (hj : j < nM g) : Ch (Al g) g.change j (m j) := ch_of (fun i hi => t.al i (by omega)) (fun i hi => t.near i (by omega))
theorem box_truth {g : GroundT} (hg : GOk g) {j : Nat} (hj : j < nM g) (x : T3) : Mem ((boxesM g).getD j m0) x ↔ ∃ m, MTr g m ∧ m j = x := by
  rw [(stage2 hg hj).2]
  constructor
  · intro h
    obtain ⟨r, hr, r1, _⟩ := ch_ex h
    have h1 := (r1 (nM g - 1 - j) (Nat.le_refl _)).head
    rw [hr, show nM g - 1 - (nM g - 1 - j) = j by omega] at h1
    refine both_truth hj h1 ?_
    obtain ⟨r, rfl, r1, r2⟩ := ch_ex h
    exact ch_of (fun i hi => (r1 i hi).head.head) r2
  · rintro ⟨m, t, rfl⟩
    have := ch_of (A := fun i => Ch (Al g) g.change (nM g - 1 - i)) (c := g.change) (m := fun i => m (nM g - 1 - i)) (k := nM g - 1 - j) (fun i hi => t.fwd (by omega)) (fun i hi => by
      have := t.near (nM g - 1 - (i + 1)) (by omega)
      rw [show nM g - 1 - (i + 1) + 1 = nM g - 1 - i by omega] at this
      exact this.symm)
    rwa [show nM g - 1 - (nM g - 1 - j) = j by omega] at this
theorem box_some {g : GroundT} (hg : GOk g) {j : Nat} (hj : j < nM g) : noneM ((boxesM g).getD j m0) = false ↔ ∃ m, MTr g m := by
  rw [(stage2 hg hj).1.ex_iff]
  constructor
  · rintro ⟨x, hx⟩
    obtain ⟨m, t, _⟩ := (box_truth hg hj x).1 hx
    exact ⟨m, t⟩
  · rintro ⟨m, t⟩
    exact ⟨m j, (box_truth hg hj _).2 ⟨m, t, rfl⟩⟩
theorem look_truth {g : GroundT} (hg : GOk g) : lookM g = true ↔ (∃ h, HTr g h) ∧ ∃ m, MTr g m := by
  rw [look_iff]
  obtain ⟨n0, n1, n2⟩ := n_ok hg
  constructor
  · intro h
    refine ⟨(hok_iff hg).1 fun k hk => ?_, (box_some hg n1).1 (h 0 n1).2⟩
    obtain ⟨j, rfl, hj⟩ := place_of hg hk
    exact (h j hj).1
  · rintro ⟨⟨h, t⟩, hm⟩ j hj
    exact ⟨t.ok hg _ (pl_of hg hj), (box_some hg hj).2 hm⟩
end AE.Soil

namespace AE.Team
open Go AE Go.Proofs AE.Soil

structure SubG (g d : GroundT) : Prop where
  long : d.long = g.long
  rise : d.rise = g.rise
  change : d.change = g.change
  pits : ∀ p ∈ g.pits, p ∈ d.pits
section
variable {g d : GroundT}
theorem SubG.refl (g : GroundT) : SubG g g := ⟨rfl, rfl, rfl, fun _ h => h⟩
theorem SubG.pl (s : SubG g d) {k : Int} : Pl d k ↔ Pl g k := by unfold Pl; rw [s.long]
theorem SubG.hard (s : SubG g d) (hg : GOk g) (hd : GOk d) {k : Int} (hk : Pl g k) : (hardM g k).1 ≤ (hardM d k).1 ∧ (hardM d k).2 ≤ (hardM g k).2 := by
  have hk' := s.pl.2 hk
  constructor
  · rw [hard_lo hg hk]
    have := (hard_lo hd hk' _).1 (Int.le_refl _)
    rw [s.rise] at this
    exact ⟨this.1, fun p hp => this.2 p (s.pits p hp)⟩
  · rw [hard_hi hg hk]
    have := (hard_hi hd hk' _).1 (Int.le_refl _)
    rw [s.rise] at this
    exact ⟨this.1, fun p hp => this.2 p (s.pits p hp)⟩
theorem SubG.n (s : SubG g d) : nM d = nM g := by unfold nM; rw [s.long]
theorem SubG.htr (s : SubG g d) {h : Int → Int} (t : HTr d h) : HTr g h where
  bound := fun k hk => t.bound k (s.pl.2 hk)
  step := fun k h1 h2 => by have := t.step k (s.pl.2 h1) (s.pl.2 h2); rw [s.rise] at this; exact this
  pits := fun p hp => t.pits p (s.pits p hp)
theorem SubG.mtr (s : SubG g d) {m : Nat → T3} (t : MTr d m) : MTr g m where
  al := fun j hj => by
    have := t.al j (by rw [s.n]; exact hj)
    exact ⟨this.1, fun p hp => this.2 p (s.pits p hp)⟩
  near := fun j hj => by have := t.near j (by rw [s.n]; exact hj); rw [s.change] at this; exact this
theorem SubG.look (s : SubG g d) (hg : GOk g) (hd : GOk d) (h : lookM d = true) : lookM g = true := by
  obtain ⟨⟨h1, t1⟩, m, t2⟩ := (look_truth hd).1 h
  exact (look_truth hg).2 ⟨⟨h1, s.htr t1⟩, m, s.mtr t2⟩
theorem SubG.sum (s : SubG g d) (hg : GOk g) (hd : GOk d) (a : Nat) : ∀ n, a + n ≤ nM g → (sumM g a n).1 ≤ (sumM d a n).1 ∧ (sumM d a n).2 ≤ (sumM g a n).2
  | 0, _ => ⟨Int.le_refl _, Int.le_refl _⟩
  | n + 1, hn => by
    have ih := s.sum hg hd a n (by omega)
    have hh := s.hard hg hd (pl_of hg (show a + n < nM g by omega))
    show (sumM g a n).1 + (hardM g ((a + n : Nat) : Int)).1 ≤ (sumM d a n).1 + (hardM d ((a + n : Nat) : Int)).1 ∧ (sumM d a n).2 + (hardM d ((a + n : Nat) : Int)).2 ≤ (sumM g a n).2 + (hardM g ((a + n : Nat) : Int)).2
    omega
end
section
variable {t t' : TeamT} {p q : PlotT}
theorem hard_zero {g : GroundT} (hg : groundM g = true) : ((hardOM g 0).2 == 0) = lookM g := by
  have hok := ground_ok hg
  have h0 : Pl g 0 := ⟨Int.le_refl _, by have := hok.long.1; omega⟩
  rw [hard_told hg h0]
  cases lookM g <;> rfl
theorem works_sub (hp : isPlotM p = true) (hq : isPlotM q = true) (hs : SubG p.g q.g) (hst : q.steps = p.steps) (hl : lookM q.g = true) : ∀ i, i < p.steps.length → ((worksM p).getD i (0, 0)).1 ≤ ((worksM q).getD i (0, 0)).1 ∧ ((worksM q).getD i (0, 0)).2 ≤ ((worksM p).getD i (0, 0)).2 := by
  intro i hi
  obtain ⟨hg, _, hsteps⟩ := plot_ok hp
  obtain ⟨hd, _, _⟩ := plot_ok hq
  rw [works_get p i hi, works_get q i (by rw [hst]; exact hi), hst]
  have hsi := hsteps i hi
  revert hsi
  generalize p.steps.getD i (0, 0, 0) = s
  intro hsi
  unfold wM
  cases hr : s.2.2 == 0 with
  | false => exact ⟨Int.le_refl _, Int.le_refl _⟩
  | true =>
    unfold okStepM inM at hsi
    rw [hr] at hsi
    simp only [Bool.not_true, Bool.false_or, Bool.and_eq_true, decide_eq_true_eq] at hsi
    have hok := ground_ok hg
    have hokd := ground_ok hd
    have hlg := hs.look hok hokd hl
    have hn := n_ok hok
    have ha : Pl p.g s.1 := ⟨hsi.2.1.1, by omega⟩
    have hb : Pl p.g s.2.1 := ⟨by omega, hsi.2.2.2⟩
    have hb2 := hb.2
    have e := work_told hg ha hb hsi.2.1.2
    have e' := work_told hd (hs.pl.2 ha) (hs.pl.2 hb) hsi.2.1.2
    rw [hlg] at e
    rw [hl] at e'
    simp only [if_true] at e e' ⊢
    rw [e, e']
    exact hs.sum hok hokd s.1.toNat (s.2.1.toNat + 1 - s.1.toNat) (by omega)
structure NearT (t t' : TeamT) : Prop where
  full : t'.2.2.2 = t.2.2.2
  s : t.1.1 ≤ t'.1.1 ∧ t'.1.2 ≤ t.1.2
  l : t.2.1.1 ≤ t'.2.1.1 ∧ t'.2.1.2 ≤ t.2.1.2
  g : t.2.2.1.1 ≤ t'.2.2.1.1 ∧ t'.2.2.1.2 ≤ t.2.2.1.2
theorem NearT.refl (t : TeamT) : NearT t t := ⟨rfl, ⟨Int.le_refl _, Int.le_refl _⟩, ⟨Int.le_refl _, Int.le_refl _⟩, ⟨Int.le_refl _, Int.le_refl _⟩⟩
theorem near_law (ht : teamM t = true) (ht' : teamM t' = true) (hp : isPlotM p = true) (hq : isPlotM q = true) (hs : SubG p.g q.g) (hst : q.steps = p.steps) (hN : NearT t t') (n : Int) :
    ((comesM t' q).2 = 0 ∨ (comesM t' q).2 = 10) ∧
    ((comesM t' q).2 = 0 → (comesM t p).2 = 0 ∧ ((comesM t p).1 ≠ 1 → (comesM t' q).1 = (comesM t p).1) ∧ (leftM t' q n).2 = (leftM t p n).2 ∧
      ((leftM t' q n).2 = 0 → (leftM t p n).1.1 ≤ (leftM t' q n).1.1 ∧ (leftM t' q n).1.2 ≤ (leftM t p n).1.2)) := by
  obtain ⟨hg, _, _⟩ := plot_ok hp
  obtain ⟨hd, _, _⟩ := plot_ok hq
  have eh := hard_zero hg
  have eh' := hard_zero hd
  have o1 : ∀ is, openErrM t p is = if is then (if lookM p.g then 0 else 10) else 2 := fun is => by rw [open_told ht hp, eh]
  have o2 : ∀ is, openErrM t' q is = if is then (if lookM q.g then 0 else 10) else 2 := fun is => by rw [open_told ht' hq, eh']
  rw [comes_snd, o2]
  cases hl : lookM q.g with
  | false => exact ⟨.inr rfl, fun h => absurd h (by decide)⟩
  | true =>
    have hlg := hs.look (ground_ok hg) (ground_ok hd) hl
    have ho : (openErrM t p true == 0) = true := by rw [o1, hlg]; rfl
    have ho' : (openErrM t' q true == 0) = true := by rw [o2, hl]; rfl
    have hsub := works_sub hp hq hs hst hl
    have wp := works_ok hp (open_hard ho)
    have wq := works_ok hq (open_hard ho')
    rw [hst] at wq
    obtain ⟨a1, a2, a3⟩ := hor_ok ht true
    obtain ⟨b1, b2, b3⟩ := hor_ok ht false
    obtain ⟨c1, c2, c3⟩ := hor_ok ht' true
    obtain ⟨d1, d2, d3⟩ := hor_ok ht' false
    have h1 : NowLe p.steps (worksM p) (worksM q) (horM t true) (horM t' true) := nowLe_of wp wq a1 c1 ⟨Int.le_of_eq hN.full.symm, hN.l.2, hN.g.1⟩ a2 a3 c2 c3 hN.s.1 fun i hi => (hsub i hi).2
    have h2 : NowLe p.steps (worksM q) (worksM p) (horM t' false) (horM t false) := nowLe_of wq wp d1 b1 ⟨Int.le_of_eq hN.full, hN.l.1, hN.g.2⟩ d2 d3 b2 b3 hN.s.2 fun i hi => (hsub i hi).1
    refine ⟨.inl rfl, fun _ => ⟨?_, fun hn => comes_tight ho ho' hst h1 h2 hn, ?_, fun hz => ?_⟩⟩
    · rw [comes_snd, o1, hlg]; rfl
    · rw [left_snd, left_snd, o1, o2, hlg, hl, hst]
    · refine left_tight ht ht' hp hq hst h1 h2 ?_ hz
      rw [left_snd, o2, hl, hst] at hz
      rw [left_snd, o1, hlg]
      exact hz
end
def moreM (t : TeamT) (k : Int) : TeamT :=
  ((min t.2.2.2 (t.1.1 + k % 3), min t.2.2.2 (t.1.2 + k % 3)), (max 0 (t.2.1.1 - 1), max 0 (t.2.1.2 - 1)), (min 1000 (t.2.2.1.1 + k / 3 % 3), min 1000 (t.2.2.1.2 + k / 3 % 3)), t.2.2.2)
def thinM (t : TeamT) (k : Int) : TeamT :=
  ((min t.1.2 (t.1.1 + k % 4), t.1.2), (t.2.1.1, max t.2.1.1 (t.2.1.2 - k / 4 % 2)), (min t.2.2.1.2 (t.2.2.1.1 + k / 8 % 4), t.2.2.1.2), t.2.2.2)
section
variable {t : TeamT} {k : Int}
theorem more_team (ht : teamM t = true) : teamM (moreM t k) = true := by
  have := team_ok ht
  unfold teamM inM spanM moreM
  simp only [Bool.and_eq_true, decide_eq_true_eq]
  omega
theorem thin_team (ht : teamM t = true) : teamM (thinM t k) = true := by
  have := team_ok ht
  unfold teamM inM spanM thinM
  simp only [Bool.and_eq_true, decide_eq_true_eq]
  omega
theorem thin_near (ht : teamM t = true) : NearT t (thinM t k) := by
  have := team_ok ht
  exact ⟨rfl, by unfold thinM; simp only; omega, by unfold thinM; simp only; omega, by unfold thinM; simp only; omega⟩
theorem more_less (ht : teamM t = true) (b : Bool) : Less (horM t b) (horM (moreM t k) b) ∧ (horM t b).1 ≤ (horM (moreM t k) b).1 := by
  have := team_ok ht
  cases b with
  | true => exact ⟨⟨Int.le_refl _, by show max 0 (t.2.1.2 - 1) ≤ t.2.1.2; omega, by show t.2.2.1.1 ≤ min 1000 (t.2.2.1.1 + k / 3 % 3); omega⟩, by show t.1.1 ≤ min t.2.2.2 (t.1.1 + k % 3); omega⟩
  | false => exact ⟨⟨Int.le_refl _, by show max 0 (t.2.1.1 - 1) ≤ t.2.1.1; omega, by show t.2.2.1.2 ≤ min 1000 (t.2.2.1.2 + k / 3 % 3); omega⟩, by show t.1.2 ≤ min t.2.2.2 (t.1.2 + k % 3); omega⟩
variable {p : PlotT}
theorem more_now (ht : teamM t = true) (ho : (openErrM t p true == 0) = true) (b : Bool) : NowLe p.steps (worksM p) (worksM p) (horM t b) (horM (moreM t k) b) := by
  have w := works_ok (open_plot ho) (open_hard ho)
  obtain ⟨a1, a2, a3⟩ := hor_ok ht b
  obtain ⟨c1, c2, c3⟩ := hor_ok (more_team (k := k) ht) b
  have hl := more_less (k := k) ht b
  exact nowLe_of w w a1 c1 hl.1 a2 a3 c2 c3 hl.2 fun i hi => by cases b <;> exact Int.le_refl _
theorem more_law (ht : teamM t = true) (hp : isPlotM p = true) (n : Int) :
    (comesM (moreM t k) p).2 = (comesM t p).2 ∧ (leftM (moreM t k) p n).2 = (leftM t p n).2 ∧ ((comesM t p).2 = 0 → (comesM t p).1 ≤ (comesM (moreM t k) p).1) ∧
    ((leftM t p n).2 = 0 → (leftM t p n).1.1 ≤ (leftM (moreM t k) p n).1.1 ∧ (leftM t p n).1.2 ≤ (leftM (moreM t k) p n).1.2) := by
  have ht' := more_team (k := k) ht
  have e : ∀ is, openErrM (moreM t k) p is = openErrM t p is := fun is => open_same ht ht' hp is
  refine ⟨by rw [comes_snd, comes_snd, e], by rw [left_snd, left_snd, e], fun hz => ?_, fun hz => ?_⟩
  · rw [comes_snd] at hz
    have ho : (openErrM t p true == 0) = true := by rw [hz]; rfl
    exact comes_le ho (by rw [e]; exact ho) rfl (more_now ht ho)
  · refine left_le ht ht' hp (fun b => more_now ht ?_ b) hz
    rw [left_snd] at hz
    exact (open_true ht hp (by rw [hz]; rfl)).2
theorem more_rests (ht : teamM t = true) (hz : (restsM t p).2 = 0) :
    (restsM (moreM t k) p).2 = 0 ∧ (restsM t p).1.length = p.steps.length ∧ (restsM (moreM t k) p).1.length = p.steps.length ∧ totM (restsM (moreM t k) p).1 p.steps.length ≤ totM (restsM t p).1 p.steps.length := by
  have hl := more_less (k := k) ht true
  exact rests_more ht (more_team ht) ⟨hl.1, rfl, hl.2, rfl⟩ hz
def dugM' (l : List PitT) (x : PitT) : List PitT := (l.filter fun y => decide (y.1 < x.1)) ++ x :: (l.filter fun y => decide (y.1 ≥ x.1))
def digM (p : PlotT) (x : PitT) : PlotT := ⟨⟨p.g.long, p.g.rise, p.g.change, dugM' p.g.pits x⟩, p.steps⟩
theorem dig_sub (x : PitT) : SubG p.g (digM p x).g := by
  refine ⟨rfl, rfl, rfl, fun y hy => ?_⟩
  show y ∈ dugM' p.g.pits x
  unfold dugM'
  rw [List.mem_append, List.mem_cons, List.mem_filter, List.mem_filter]
  by_cases h : y.1 < x.1
  · exact .inl ⟨hy, decide_eq_true h⟩
  · exact .inr (.inr ⟨hy, decide_eq_true (by omega)⟩)
end
end AE.Team

namespace AE.Team
open Go AE Go.Proofs AE.Soil

def dgA (x : PitT) (l : List PitT) (i : Nat) : List PitT := (l.take i).filter fun y => decide (y.1 < x.1)
def dgB (x : PitT) (l : List PitT) (i : Nat) : List PitT := dgA x l l.length ++ x :: (l.take i).filter fun y => decide (y.1 ≥ x.1)
def mHc (t : TeamT) (p : PlotT) (x : PitT) (k : Int) (l : List PitT) : Heap UU := hPlot p ++ [.one (.cells (cTeam t) 28), .one (.cells (cPlot p 0 1) 35), .one (.cells (CC.enc .pit x) 61), .one (.cells (cTeam (moreM t k)) 28), .one (.cells (cTeam (thinM t k)) 28), .one (.cells [.i p.g.long, .i p.g.rise, .i p.g.change, .gs 8 0, .sl 1 0 0 p.steps.length] 35), .one (.row .pit l 61)]
def mFr (n k : Int) : Fr := [(3, .i n), (4, .v (.int .u8 k)), (5, .ptr 2 0 0 0), (6, .ptr 3 0 0 0), (7, .ptr 4 0 0 0), (10, .b false), (11, .ptr 5 0 0 0), (12, .ptr 6 0 0 0), (13, .ptr 7 0 0 0)]
def mL1 (t : TeamT) (p : PlotT) (x : PitT) (n k : Int) : LSpec UU where
  T := { i : Nat // i ≤ p.g.pits.length }
  fr := fun i => mFr n k ++ [(158, .sl 0 0 0 p.g.pits.length), (159, .i p.g.pits.length), (160, .i i.1)]
  H := fun i => mHc t p x k (dgA x p.g.pits i.1)
  mu := fun i => p.g.pits.length - i.1
def mL2 (t : TeamT) (p : PlotT) (x : PitT) (n k : Int) : LSpec UU where
  T := { i : Nat // i ≤ p.g.pits.length }
  fr := fun i => mFr n k ++ [(188, .sl 0 0 0 p.g.pits.length), (189, .i p.g.pits.length), (190, .i i.1)]
  H := fun i => mHc t p x k (dgB x p.g.pits i.1)
  mu := fun i => p.g.pits.length - i.1
def mFr2 (t : TeamT) (p : PlotT) (n k : Int) : Fr := mFr n k ++ [(18, .i (comesM t p).1), (19, .i (comesM t p).2), (20, .ptr 9 0 0 0), (21, .i (leftM t p n).2)]
def mHcL (t : TeamT) (p : PlotT) (x : PitT) (n k : Int) : Heap UU := mHc t p x k (dgB x p.g.pits p.g.pits.length) ++ [.one (.cells [.i (leftM t p n).1.1, .i (leftM t p n).1.2] 26)]
def mHc2 (t : TeamT) (p : PlotT) (x : PitT) (n k : Int) : Heap UU := mHcL t p x n k ++ [.one (.row .int (restsM t p).1 3), .one (.row .int (restsM (moreM t k) p).1 3)]
def mLc (t : TeamT) (p : PlotT) (x : PitT) (n k : Int) : LSpec UU where
  T := Unit
  fr := fun _ => mFr2 t p n k
  H := fun _ => mHcL t p x n k
  mu := fun _ => 0
def mL3 (t : TeamT) (p : PlotT) (x : PitT) (n k : Int) : LSpec UU where
  T := { i : Nat // i ≤ (restsM t p).1.length }
  fr := fun i => mFr2 t p n k ++ [(28, .gs 11 0), (29, .i (restsM (moreM t k) p).2), (30, .i (totM (restsM t p).1 i.1)), (31, .i 0), (283, .gs 10 0), (284, .i (restsM t p).1.length), (285, .i i.1)]
  H := fun _ => mHc2 t p x n k
  mu := fun i => (restsM t p).1.length - i.1
def mL4 (t : TeamT) (p : PlotT) (x : PitT) (n k : Int) : LSpec UU where
  T := { i : Nat // i ≤ (restsM (moreM t k) p).1.length }
  fr := fun i => mFr2 t p n k ++ [(29, .i (restsM (moreM t k) p).2), (30, .i (totM (restsM t p).1 (restsM t p).1.length)), (31, .i (totM (restsM (moreM t k) p).1 i.1)), (293, .gs 11 0), (294, .i (restsM (moreM t k) p).1.length), (295, .i i.1)]
  H := fun _ => mHc2 t p x n k
  mu := fun i => (restsM (moreM t k) p).1.length - i.1
def mHc5 (t : TeamT) (p : PlotT) (x : PitT) (n k : Int) : Heap UU := mHcL t p x n k ++ [.one (.ro .plotg [((p.g.long, p.g.rise, p.g.change), (2, 0, p.g.pits.length), (2, 1, p.steps.length)), ((p.g.long, p.g.rise, p.g.change), (1, 8, 0), (2, 1, p.steps.length))])]
def mL5 (t : TeamT) (p : PlotT) (x : PitT) (n k : Int) : LSpec UU where
  T := { j : Nat // j ≤ 2 }
  fr := fun j => mFr2 t p n k ++ [(312, .sl 10 0 0 2), (313, .i 2), (314, .i j.1)]
  H := fun _ => mHc5 t p x n k
  mu := fun j => 2 - j.1
def mRule (t : TeamT) (p : PlotT) (x : PitT) (n k : Int) (key : Nat) : Option (LRule UU) := match Nat.beq key 8 with
  | true => some (.inv (mL1 t p x n k))
  | false => match Nat.beq key 15 with
    | true => some (.inv (mL2 t p x n k))
    | false => match Nat.beq key 31 with
      | true => some (.inv (mL3 t p x n k))
      | false => match Nat.beq key 36 with
        | true => some (.inv (mL4 t p x n k))
        | false => match Nat.beq key 43 with
          | true => some (.inv (mL5 t p x n k))
          | false => match Nat.beq key 26 with
            | true => some (.cut (mLc t p x n k))
            | false => match Nat.beq key 42 with
              | true => some (.cut (mLc t p x n k))
              | false => none
def mSp (key : Nat) : Option (Nat × Nat) := match Nat.beq key 43 with
  | true => some (314, 3)
  | false => none
theorem round_cond {P : Prop} (hP : P) {c c' : Int × Int} {l l' : (Int × Int) × Int} (h1 : c'.2 = 0 ∨ c'.2 = 10) (h2 : c'.2 = 0 → c.2 = 0 ∧ (c.1 ≠ 1 → c'.1 = c.1) ∧ l'.2 = l.2 ∧ (l'.2 = 0 → l.1.1 ≤ l'.1.1 ∧ l'.1.2 ≤ l.1.2)) :
    ((c'.2 != 0) = true → ((c'.2 != 10) = true → true = false) ∧ ((c'.2 != 10) = false → P)) ∧ ((c'.2 != 0) = false → ((c.2 != 0) = true → true = false) ∧ ((c.2 != 0) = false →
      ((c.1 != 1) = true → ((c'.1 != c.1) = true → true = false) ∧ ((c'.1 != c.1) = false → ((l'.2 != l.2) = true → true = false) ∧ ((l'.2 != l.2) = false → ((l'.2 == 0) = true → (l'.1.1 < l.1.1 → true = false) ∧ (¬ l'.1.1 < l.1.1 → (l'.1.2 > l.1.2 → true = false) ∧ (¬ l'.1.2 > l.1.2 → P))) ∧ ((l'.2 == 0) = false → P)))) ∧
      ((c.1 != 1) = false → ((l'.2 != l.2) = true → true = false) ∧ ((l'.2 != l.2) = false → ((l'.2 == 0) = true → (l'.1.1 < l.1.1 → true = false) ∧ (¬ l'.1.1 < l.1.1 → (l'.1.2 > l.1.2 → true = false) ∧ (¬ l'.1.2 > l.1.2 → P))) ∧ ((l'.2 == 0) = false → P))))) := by
  have hlast : c'.2 = 0 → ((l'.2 != l.2) = true → true = false) ∧ ((l'.2 != l.2) = false → ((l'.2 == 0) = true → (l'.1.1 < l.1.1 → true = false) ∧ (¬ l'.1.1 < l.1.1 → (l'.1.2 > l.1.2 → true = false) ∧ (¬ l'.1.2 > l.1.2 → P))) ∧ ((l'.2 == 0) = false → P)) := by
    intro hz
    obtain ⟨a1, a2, a3, a4⟩ := h2 hz
    refine ⟨fun h => absurd a3 (by simpa using h), fun _ => ⟨fun h0 => ?_, fun _ => hP⟩⟩
    have := a4 (eq_of_beq h0)
    exact ⟨fun h => by omega, fun _ => ⟨fun h => by omega, fun _ => hP⟩⟩
  refine ⟨fun h => ⟨fun h' => ?_, fun _ => hP⟩, fun h => ?_⟩
  · simp only [bne_iff_ne, ne_eq] at h h'
    rcases h1 with h1 | h1
    · exact absurd h1 h
    · exact absurd h1 h'
  · have hz : c'.2 = 0 := by simpa using h
    obtain ⟨a1, a2, a3, a4⟩ := h2 hz
    refine ⟨fun h => absurd a1 (by simpa using h), fun _ => ⟨fun h1 => ⟨fun h => absurd (a2 (by simpa using h1)) (by simpa using h), fun _ => hlast hz⟩, fun _ => hlast hz⟩⟩
abbrev pit0 : PitT := (0, (0, 0), (0, 0), (0, 0), 0, 0)
theorem large_smallM {p : PlotT} (h : largeM p = false) : p.g.pits.length ≤ 40 ∧ p.steps.length ≤ 40 := by
  have := of_decide_eq_false h
  omega
theorem len_dug {l : List PitT} {f g : PitT → Bool} {x : PitT} {i j : Nat} (h : l.length ≤ 40) : ((l.take i).filter f ++ x :: (l.take j).filter g).length ≤ 81 := by
  have h1 := List.length_filter_le f (l.take i)
  have h2 := List.length_filter_le g (l.take j)
  rw [List.length_take] at h1 h2
  rw [List.length_append, List.length_cons]; omega
theorem filter_suc {p : PitT → Bool} {l : List PitT} {i : Nat} (h : i < l.length) : (l.take (i + 1)).filter p = (l.take i).filter p ++ (if p (l.getD i pit0) = true then [l.getD i pit0] else []) := by
  rw [List.take_add_one, List.filter_append, List.getElem?_eq_getElem h, List.getD_eq_getElem?_getD, List.getElem?_eq_getElem h]
  simp only [Option.toList_some, Option.getD_some]
  cases hp : p l[i] <;> simp [List.filter, hp]
theorem k_mod {k : Int} (h : 0 ≤ k ∧ k ≤ 255) (d : Int) : (IntKind.i64.wrap k).tmod d = k % d ∧ (IntKind.i64.wrap k).tdiv d = k / d := by
  have : IntKind.i64.wrap k = k := wrap_id (by omega) (by omega)
  rw [this]
  exact ⟨Int.tmod_eq_emod_of_nonneg h.1, Int.tdiv_eq_ediv_of_nonneg h.1⟩
def lawMS : FSpec UU where
  X := TeamT × PlotT × PitT × Int × Int
  pick := fun args H => match args with
    | [a, b, c, d, .v (.int .u8 e)] => match avTeam a, avPlot H b, avPit c, avInt d with
      | some a, some b, some c, some d => some (a, b, c, d, e)
      | _, _, _, _ => none
    | _ => none
  args := fun x => [vTeam x.1, vPlot x.2.1 0 1, vPit x.2.2.1, .i x.2.2.2.1, .v (.int .u8 x.2.2.2.2)]
  H := fun x => hPlot x.2.1
  R := fun _ => .val ⟨.b true, [], [], []⟩
  pre := fun x => (x.2.1.g.pits.length < 9223372036854775808 ∧ x.2.1.steps.length < 9223372036854775808) ∧ 0 ≤ x.2.2.2.2 ∧ x.2.2.2.2 ≤ 255
def TlawM : Tab UU := [(18, largeS.con), (16, aliveS.con), (17, tspanS.con), (7, comesS.con), (10, leftS.con), (24, restsS.con), (20, isTeamS.con), (21, isPlotS.con)]
theorem TlawM_ok : TlawM.Sound Try.prog := .cons large_sound (.cons alive_sound (.cons tspan_sound (.cons comes_sound (.cons left_sound (.cons rests_sound (.cons fTeam_sound (.cons fPlot_sound .nil)))))))
set_option maxHeartbeats 0 in
set_option maxRecDepth 100000 in
theorem lawM_ok : ∀ x, lawMS.pre x → FunOk Try.prog 5 (lawMS.args x) (lawMS.H x) (lawMS.R x) := by
  rintro ⟨⟨⟨s0, s1⟩, ⟨l0, l1⟩, ⟨g0, g1⟩, full⟩, ⟨⟨long, rise, change, ps⟩, st⟩, ⟨pa, ⟨ph, ph2⟩, ⟨a1, a2⟩, ⟨b1, b2⟩, c1, c2⟩, n, k⟩ hx
  refine fun_ofG (T := TlawM) (L := mRule ((s0, s1), (l0, l1), (g0, g1), full) ⟨⟨long, rise, change, ps⟩, st⟩ (pa, (ph, ph2), (a1, a2), (b1, b2), c1, c2) n k) (hs := fun _ => []) (sp := mSp) hmix TlawM_ok (tl := fun _ => none) (fun _ _ h => by cases h) (it := fun _ => none) (fun _ _ h => by cases h) Try.func5 (by kernel_rfl) (by kernel_rfl) ?_
  refine Eq.mp (α :=
      let Z0 := True ∧ True ∧ True ∧ True; let Z1 := (61 : TypeId); let Z2 := True ∧ Z0; let Z3 := nat_lit 0 = nat_lit 0 ∧ nat_lit 0 = nat_lit 0 ∧ nat_lit 2 = nat_lit 2; let Z4 := ((g0, g1), full); let Z5 := nat_lit 0 = nat_lit 0 ∧ nat_lit 0 = nat_lit 0 ∧ nat_lit 0 = nat_lit 0; let Z6 := (nat_lit 1, nat_lit 8, nat_lit 0); let Z7 := (nat_lit 0, nat_lit 0, nat_lit 0); let Z8 := st = st ∧ True; let Z9 := (long, rise, change); let Z10 := (↑(List.length ps) : Int); let Z11 := nat_lit 61 = Z1; let Z12 := List.length ps < nat_lit 1000000; let Z13 := Value.int IntKind.i64 (0 : Int); let Z14 := Value.int IntKind.i64 (2 : Int); let Z15 := List.length st < nat_lit 1000000; let Z16 := Value.bool false = Value.bool false; let Z17 := True ∧ Z2; let Z18 := fun (j : Nat) => j ≤ (2 : Nat); let Z19 := List.length ps = List.length ps; let Z20 := Value.int IntKind.i64 c2 = Value.int IntKind.i64 c2; let Z21 := Value.int IntKind.i64 b1 = Value.int IntKind.i64 b1; let Z22 := Value.int IntKind.i64 a2 = Value.int IntKind.i64 a2; let Z23 := List.length st = List.length st; let Z24 := Value.int IntKind.i64 rise = Value.int IntKind.i64 rise; let Z25 := Value.int IntKind.i64 n = Value.int IntKind.i64 n; let Z26 := Value.int IntKind.i64 c1 = Value.int IntKind.i64 c1; let Z27 := Value.int IntKind.i64 s0 = Value.int IntKind.i64 s0; let Z28 := Value.int IntKind.i64 s1 = Value.int IntKind.i64 s1; let Z29 := Value.int IntKind.i64 l0 = Value.int IntKind.i64 l0; let Z30 := Value.int IntKind.i64 pa = Value.int IntKind.i64 pa; let Z31 := Value.int IntKind.i64 ph = Value.int IntKind.i64 ph; let Z32 := Value.int IntKind.i64 ph2 = Value.int IntKind.i64 ph2; let Z33 := Value.int IntKind.i64 g1 = Value.int IntKind.i64 g1; let Z34 := Value.int IntKind.i64 a1 = Value.int IntKind.i64 a1; let Z35 := Value.int IntKind.i64 b2 = Value.int IntKind.i64 b2; let Z36 := Value.int IntKind.i64 full = Value.int IntKind.i64 full; let Z37 := Value.int IntKind.i64 l1 = Value.int IntKind.i64 l1; let Z38 := Value.int IntKind.i64 g0 = Value.int IntKind.i64 g0; let Z39 := Value.int IntKind.i64 change = Value.int IntKind.i64 change; let Z40 := !isPlotM (PlotT.mk (GroundT.mk long rise change ps) st); let Z41 := Value.int IntKind.i64 long = Value.int IntKind.i64 long; let Z42 := Value.bool true = Value.bool true ∧ True; let Z43 := Value.bool true = Value.bool false ∧ True; let Z44 := List.length st < nat_lit 9223372036854775808; let Z45 := True ∧ Z17; let Z46 := Int.tmod (IntKind.wrap IntKind.i64 k) (3 : Int); let Z47 := Int.tdiv (IntKind.wrap IntKind.i64 k) (3 : Int); let Z48 := Z25 ∧ True; let Z49 := AV.v (Value.int IntKind.i64 long) = AV.v (Value.int IntKind.i64 long); let Z50 := Z20 ∧ True; let Z51 := AV.v (Value.int IntKind.i64 rise) = AV.v (Value.int IntKind.i64 rise); let Z52 := Z36 ∧ True; let Z53 := AV.v (Value.int IntKind.i64 change) = AV.v (Value.int IntKind.i64 change); let Z54 := (4 : Int) ≠ (0 : Int); let Z55 := (3 : Int) ≠ (0 : Int); let Z56 := ((b1, b2), c1, c2); let Z57 := (nat_lit 2, nat_lit 0, List.length ps); let Z58 := fun (y : PitT) => Prod.fst y; let Z59 := (nat_lit 2, nat_lit 1, List.length st); let Z60 := Value.int IntKind.i64 Z10; let Z61 := nat_lit 0 = nat_lit 0 ∧ Z19; let Z62 := True ∧ Z45; let Z63 := nat_lit 0 = nat_lit 0 ∧ Z23; let Z64 := ((0 : Int), (0 : Int)); let Z65 : Type := { j : Nat // Z18 j }; let Z66 := l0 - (1 : Int); let Z67 := l1 - (1 : Int); let Z68 := List.length (GroundT.pits (PlotT.g (PlotT.mk (GroundT.mk long rise change ps) st))); let Z69 := (3 : TypeId) = (3 : TypeId); let Z70 := AV.sl (nat_lit 1) (nat_lit 0) (nat_lit 0) (List.length st) = AV.sl (nat_lit 1) (nat_lit 0) (nat_lit 0) (List.length st); let Z71 := True ∧ Z62; let Z72 := fun (x : Z65) => Subtype.val x; let Z73 := Z1 = Z1; let Z74 := nat_lit 0 = nat_lit 0 ∧ Z61; let Z75 := IntKind.wrap IntKind.i64 Z47; let Z76 := nat_lit 0 = nat_lit 0 ∧ Z63; let Z77 := ps = ps ∧ Z8; let Z78 := True ∧ Z71; let Z79 := fun (y : PitT) => Z58 y < pa; let Z80 := fun (y : PitT) => Z58 y ≥ pa; let Z81 := fun (i : Nat) => i ≤ Z68; let Z82 := Z76 ∧ True; let Z83 := True ∧ Z77; let Z84 := IntKind.wrap IntKind.i64 Z67; let Z85 := IntKind.wrap IntKind.i64 Z66; let Z86 := ((l0, l1), Z4); let Z87 := (↑(nat_lit 1) : Int) + (1 : Int); let Z88 := (↑(nat_lit 0) : Int) + (1 : Int); let Z89 := Z12 ∧ Z15; let Z90 := fun (x : Z65) => (↑(Z72 x) : Int); let Z91 := (↑(nat_lit 0) : Int) == (1 : Int); let Z92 := Z13 = Z13; let Z93 := Z14 = Z14; let Z94 := (↑(nat_lit 1) : Int) == (1 : Int); let Z95 := s0 + Z46; let Z96 := s1 + Z46; let Z97 := (Z7, Z7); let Z98 := nat_lit 0 = nat_lit 0 ∧ Z82; let Z99 := Z12 ∧ Z44; let Z100 : Type := { i : Nat // Z81 i }; let Z101 := IntKind.wrap IntKind.i64 Z87; let Z102 := IntKind.wrap IntKind.i64 Z88; let Z103 := fun (x : Z100) => Subtype.val x; let Z104 := fun (x : Z65) => nat_lit 2 - Z72 x; let Z105 := Z26 ∧ Z50; let Z106 := Int.tmod Z75 (3 : Int); let Z107 := Z33 ∧ Z52; let Z108 := fun (x : Z65) => Value.int IntKind.i64 (Z90 x); let Z109 := ((0 : Int), Z64); let Z110 := ((a1, a2), Z56); let Z111 := IntKind.wrap IntKind.i64 Z95; let Z112 := IntKind.wrap IntKind.i64 Z96; let Z113 := (Z6, Z59); let Z114 := Value.int IntKind.i64 Z102; let Z115 := Value.int IntKind.i64 Z101; let Z116 := fun (x : Z100) => List.take (Z103 x) ps; let Z117 := Z60 = Z60; let Z118 := fun (x : Z100) => (↑(Z103 x) : Int); let Z119 := max (0 : Int) Z84; let Z120 := max (0 : Int) Z85; let Z121 := (Z57, Z59); let Z122 := fun (t : Z65) => Z90 t < (2 : Int); let Z123 := min full Z112; let Z124 := min full Z111; let Z125 := fun (t : Z100) => Int.toNat (Z118 t); let Z126 := Z42 ∧ Z83; let Z127 := Z43 ∧ Z83; let Z128 := ((s0, s1), Z86); let Z129 := Value.int IntKind.i64 Z119; let Z130 := fun (x : Z100) => Value.int IntKind.i64 (Z118 x); let Z131 := True ∧ Z126; let Z132 := Value.int IntKind.i64 Z120; let Z133 := True ∧ Z127; let Z134 := g0 + Z106; let Z135 := g1 + Z106; let Z136 := (Z64, Z64); let Z137 := Z39 ∧ Z98; let Z138 := Value.int IntKind.i64 Z123; let Z139 := Value.int IntKind.i64 Z124; let Z140 := True ∧ Z131; let Z141 := teamM Z128; let Z142 := moreM Z128 k; let Z143 := thinM Z128 k; let Z144 := Z35 ∧ Z105; let Z145 := Z38 ∧ Z107; let Z146 := Z74 ∧ Z82; let Z147 := True ∧ Z140; let Z148 := fun (x : Z100) => List.length ps - Z103 x; let Z149 := !Z141; let Z150 := IntKind.wrap IntKind.i64 Z134; let Z151 := IntKind.wrap IntKind.i64 Z135; let Z152 := True ∧ Z147; let Z153 := fun (t : Z100) => (0 : Int) ≤ Z118 t; let Z154 := ((ph, ph2), Z110); let Z155 := fun (t : Z100) => nat_lit 0 + Z125 t; let Z156 := comesM Z128 (PlotT.mk (GroundT.mk long rise change ps) st); let Z157 := restsM Z128 (PlotT.mk (GroundT.mk long rise change ps) st); let Z158 := leftM Z128 (PlotT.mk (GroundT.mk long rise change ps) st) n; let Z159 := fun (t : Z100) => Z118 t < Z10; let Z160 := fun (t : Z100) => Z118 t + (1 : Int); let Z161 := comesM Z142 (PlotT.mk (GroundT.mk long rise change ps) st); let Z162 := restsM Z142 (PlotT.mk (GroundT.mk long rise change ps) st); let Z163 := fun (x : Z100) => Z13 = Z130 x; let Z164 := leftM Z142 (PlotT.mk (GroundT.mk long rise change ps) st) n; let Z165 := Prod.fst Z156; let Z166 := Prod.snd Z156; let Z167 := Prod.fst Z142; let Z168 := Prod.snd Z143; let Z169 := (Z9, Z113); let Z170 := Prod.snd Z142; let Z171 := Prod.fst Z143; let Z172 := fun (t : Z100) => (0 : Nat) + Z125 t; let Z173 := Z24 ∧ Z137; let Z174 := Prod.snd Z157; let Z175 : List Int := Prod.fst Z157; let Z176 := Prod.snd Z158; let Z177 := Prod.fst Z158; let Z178 := fun (x : Z100) => Z163 x ∧ True; let Z179 := Prod.fst Z161; let Z180 := Prod.snd Z161; let Z181 := fun (t : Z100) => IntKind.wrap IntKind.i64 (Z160 t); let Z182 := Z21 ∧ Z144; let Z183 := Z37 ∧ Z145; let Z184 := Prod.snd Z171; let Z185 := Prod.snd Z167; let Z186 := Z39 ∧ Z146; let Z187 := Prod.fst Z167; let Z188 := Prod.fst Z171; let Z189 := Prod.snd Z162; let Z190 : List Int := Prod.fst Z162; let Z191 := Value.int IntKind.i64 Z166; let Z192 := Prod.fst Z164; let Z193 := min (1000 : Int) Z150; let Z194 := Prod.snd Z164; let Z195 := min (1000 : Int) Z151; let Z196 := Value.int IntKind.i64 Z165; let Z197 := List.length Z175; let Z198 := Prod.fst Z177; let Z199 := Prod.snd Z177; let Z200 := (Z9, Z121); let Z201 := fun (t : Z100) => Z155 t < List.length ps; let Z202 := Value.int IntKind.i64 Z176; let Z203 := fun (t : Z100) => Value.int IntKind.i64 (Z181 t); let Z204 := List.length Z190; let Z205 := Prod.snd Z192; let Z206 := Prod.fst Z192; let Z207 := fun (x t : Z65) => Z104 x < Z104 t; let Z208 := Prod.snd Z170; let Z209 := List.length Z175; let Z210 := (pa, Z154); let Z211 := Prod.fst Z170; let Z212 := Prod.snd Z168; let Z213 := Prod.fst Z168; let Z214 := Value.int IntKind.i64 Z185; let Z215 := Value.int IntKind.i64 Z184; let Z216 := Value.int IntKind.i64 Z188; let Z217 := Value.int IntKind.i64 Z187; let Z218 := Value.int IntKind.i64 Z189; let Z219 := Value.int IntKind.i64 Z193; let Z220 := Value.int IntKind.i64 Z195; let Z221 := fun (i : Nat) => i ≤ Z197; let Z222 := Value.int IntKind.i64 Z199; let Z223 := Value.int IntKind.i64 Z198; let Z224 := (↑Z197 : Int); let Z225 := fun (x : Z65) => Z115 = Z108 x; let Z226 := fun (x : Z65) => Z114 = Z108 x; let Z227 := List.length Z190; let Z228 := Prod.snd Z213; let Z229 := Prod.fst Z211; let Z230 := Prod.snd Z211; let Z231 := Prod.fst Z213; let Z232 := (Z64, Z136); let Z233 := fun (i : Nat) => i ≤ Z204; let Z234 := fun (x : Z65) => Z226 x ∧ True; let Z235 := fun (x : Z65) => Z225 x ∧ True; let Z236 := Prod.fst Z208; let Z237 := Prod.snd Z208; let Z238 := (Z109, Z97); let Z239 := Prod.snd Z212; let Z240 := Prod.fst Z212; let Z241 := (↑Z204 : Int); let Z242 : Type := { i : Nat // Z221 i }; let Z243 := (↑Z209 : Int); let Z244 := Z41 ∧ Z173; let Z245 : List ((Int × Int × Int) × Sd × Sd) := [Z169]; let Z246 := Value.int IntKind.i64 Z224; let Z247 := fun (x : Z242) => Subtype.val x; let Z248 := Z244 ∧ True; let Z249 := Value.int IntKind.i64 Z228; let Z250 := Value.int IntKind.i64 Z231; let Z251 := Value.int IntKind.i64 Z229; let Z252 := Value.int IntKind.i64 Z230; let Z253 := Prod.snd Z236; let Z254 := Prod.fst Z240; let Z255 := Prod.snd Z240; let Z256 := Prod.fst Z236; let Z257 := Z22 ∧ Z182; let Z258 := Z29 ∧ Z183; let Z259 := Z166 != (0 : Int); let Z260 : Type := { i : Nat // Z233 i }; let Z261 := (↑Z227 : Int); let Z262 := Z165 != (1 : Int); let Z263 := Z24 ∧ Z186; let Z264 := Value.int IntKind.i64 Z239; let Z265 := Value.int IntKind.i64 Z237; let Z266 := Z166 == (0 : Int); let Z267 := Value.int IntKind.i64 Z241; let Z268 := fun (x : Z260) => Subtype.val x; let Z269 := Z174 == (0 : Int); let Z270 := fun (t : Z65) => decide (Z122 t); let Z271 := Z176 == (0 : Int); let Z272 := Z262 = true; let Z273 := Z259 = true; let Z274 := Z262 = false; let Z275 := Z259 = false; let Z276 := fun (x : Z242) => (↑(Z247 x) : Int); let Z277 := Value.int IntKind.i64 Z253; let Z278 := Value.int IntKind.i64 Z254; let Z279 := Value.int IntKind.i64 Z256; let Z280 := Value.int IntKind.i64 Z255; let Z281 := Z189 != (0 : Int); let Z282 := Z271 = true; let Z283 := fun (t : Z65) => Z270 t = true; let Z284 := Z271 = false; let Z285 := fun (t : Z65) => Z270 t = false; let Z286 := fun (t : Z242) => Int.toNat (Z276 t); let Z287 := fun (x : Z260) => (↑(Z268 x) : Int); let Z288 := fun (x : Z242) => Value.int IntKind.i64 (Z276 x); let Z289 := fun (t : Z260) => Int.toNat (Z287 t); let Z290 := fun (x : Z260) => Value.int IntKind.i64 (Z287 x); let Z291 := Z34 ∧ Z257; let Z292 := Z28 ∧ Z258; let Z293 := Z41 ∧ Z263; let Z294 := Z293 ∧ True; let Z295 := fun (t : Z242) => nat_lit 0 + Z286 t; let Z296 := fun (x : Z100) => Z117 ∧ Z178 x; let Z297 := fun (t : Z260) => nat_lit 0 + Z289 t; let Z298 := fun (x t : Z100) => Z148 x < Z148 t; let Z299 := fun (x : Z65) => Z93 ∧ Z234 x; let Z300 := fun (x : Z65) => Z93 ∧ Z235 x; let Z301 := (Z64, Z232); let Z302 := fun (t : Z100) => Z153 t ∧ Z159 t; let Z303 := Z27 ∧ Z292; let Z304 := Z32 ∧ Z291; let Z305 := Z293 ∧ Z48; let Z306 := fun (t x : Z100) => Z203 t = Z130 x; let Z307 := fun (x : Z65) => Z3 ∧ Z299 x; let Z308 := fun (x : Z65) => Z3 ∧ Z300 x; let Z309 := fun (t x : Z100) => Z306 t x ∧ True; let Z310 := fun (x : Z100) => Z74 ∧ Z296 x; let Z311 := Z31 ∧ Z304; let Z312 := Z179 < Z165; let Z313 := fun (t : Z100) => decide (Z159 t); let Z314 := totM Z175 Z197; let Z315 := Z273 → Z133; let Z316 := Z175 = Z175; let Z317 := ((0 : Int), Z301); let Z318 := Z191 = Z191; let Z319 := Z196 = Z196; let Z320 := fun (t : Z100) => Z313 t = true; let Z321 := fun (t : Z100) => Z313 t = false; let Z322 := Value.int IntKind.i64 Z314; let Z323 := fun (y : PitT) => decide (Z79 y); let Z324 := fun (y : PitT) => decide (Z80 y); let Z325 := Z166 != Z180; let Z326 := Z202 = Z202; let Z327 := Z190 = Z190; let Z328 := fun (x : Z100) => Z5 ∧ Z310 x; let Z329 := Z326 ∧ True; let Z330 := fun (t : Z65) => Z285 t → Z152; let Z331 := Z176 != Z194; let Z332 := Z205 < Z199; let Z333 := Z206 < Z198; let Z334 := fun (x : Z242) => totM Z175 (Z247 x); let Z335 := Z215 = Z215; let Z336 := Z217 = Z217; let Z337 := Z214 = Z214; let Z338 := Z216 = Z216; let Z339 := Z30 ∧ Z311; let Z340 := Z218 = Z218; let Z341 := Z222 = Z222; let Z342 := Z223 = Z223; let Z343 := Z341 ∧ True; let Z344 := fun (x : Z242) => Value.int IntKind.i64 (Z334 x); let Z345 := fun (x : Z260) => totM Z190 (Z268 x); let Z346 := fun (x : Z100) => Z5 ∧ Z328 x; let Z347 := Z5 ∧ Z329; let Z348 : List ((Int × Int × Int) × Sd × Sd) := Z200 :: Z245; let Z349 := Z69 ∧ Z316; let Z350 := fun (x : Z242) => Z197 - Z247 x; let Z351 := fun (x : Z260) => Value.int IntKind.i64 (Z345 x); let Z352 : List PitT := List.filter (fun (y : PitT) => Z323 y) (List.take (List.length ps) ps); let Z353 : List PitT := List.filter (fun (y : PitT) => Z324 y) (List.take (List.length ps) ps); let Z354 := fun (t x : Z100) => Z117 ∧ Z309 t x; let Z355 := Z69 ∧ Z327; let Z356 := Z249 = Z249; let Z357 := Z252 = Z252; let Z358 := Z251 = Z251; let Z359 := Z250 = Z250; let Z360 := fun (x : Z260) => Z204 - Z268 x; let Z361 := Z355 ∧ True; let Z362 := fun (t : Z242) => Z276 t < Z224; let Z363 := fun (x : Z100) => Z5 ∧ Z346 x; let Z364 := Z265 = Z265; let Z365 := Z264 = Z264; let Z366 := Z364 ∧ True; let Z367 := Z365 ∧ True; let Z368 := fun (t : Z260) => Z287 t < Z241; let Z369 := Z280 = Z280; let Z370 := Z279 = Z279; let Z371 := Z278 = Z278; let Z372 := Z277 = Z277; let Z373 := Z293 ∧ Z248; let Z374 := fun (x : Z100) => Z16 ∧ Z363 x; let Z375 := Z373 ∧ True; let Z376 := fun (t x : Z100) => Z74 ∧ Z354 t x; let Z377 := fun (x : Z100) => List.filter (fun (y : PitT) => Z324 y) (Z116 x); let Z378 := fun (x : Z100) => List.filter (fun (y : PitT) => Z323 y) (Z116 x); let Z379 := fun (t : Z100) => List.length (Z378 t); let Z380 := fun (x : Z100) => Z5 ∧ Z374 x; let Z381 := fun (t : Z100) => List.getD ps (Z155 t) Z317; let Z382 := fun (t x : Z100) => Z5 ∧ Z376 t x; let Z383 := fun (t : Z100) => List.getD ps (Z172 t) Z317; let Z384 := fun (t : Z100) => Z379 t + nat_lit 1; let Z385 := fun (x : Z100) => Z5 ∧ Z380 x; let Z386 := fun (t x : Z100) => Z5 ∧ Z382 t x; let Z387 := fun (t : Z100) => Z384 t ≤ nat_lit 1099511627776; let Z388 := fun (t : Z100) => Prod.snd (Z381 t); let Z389 := fun (t : Z100) => Prod.fst (Z381 t); let Z390 := Z303 ∧ Z294; let Z391 := fun (t : Z100) => Value.int IntKind.i64 (Z389 t); let Z392 := fun (x : Z100) => Z5 ∧ Z385 x; let Z393 := fun (t : Z100) => Z389 t ≥ pa; let Z394 := fun (t : Z100) => Z389 t < pa; let Z395 := fun (t : Z100) => AV.v (Z391 t); let Z396 := fun (t : Z100) => Prod.snd (Z383 t); let Z397 := fun (t : Z100) => Prod.fst (Z383 t); let Z398 := fun (t x : Z100) => Z5 ∧ Z386 t x; let Z399 := fun (t : Z100) => Value.int IntKind.i64 (Z397 t); let Z400 := fun (t : Z100) => Prod.snd (Z388 t); let Z401 := fun (t : Z100) => Prod.fst (Z388 t); let Z402 := fun (t : Z100) => AV.v (Z399 t); let Z403 := fun (t : Z100) => Prod.snd (Z401 t); let Z404 := fun (t : Z100) => Prod.fst (Z401 t); let Z405 : List PitT := Z210 :: Z353; let Z406 := fun (x : Z100) => Value.int IntKind.u8 k = Value.int IntKind.u8 k ∧ Z392 x; let Z407 := fun (t : Z100) => Prod.fst (Z396 t); let Z408 := fun (t : Z100) => Prod.snd (Z396 t); let Z409 := fun (t x : Z100) => Z16 ∧ Z398 t x; let Z410 := fun (t : Z100) => Value.int IntKind.i64 (Z403 t); let Z411 := fun (t : Z100) => Value.int IntKind.i64 (Z404 t); let Z412 := fun (t : Z100) => Prod.snd (Z400 t); let Z413 := fun (t : Z100) => Prod.fst (Z400 t); let Z414 := fun (t : Z100) => AV.v (Z411 t); let Z415 := fun (t : Z100) => AV.v (Z410 t); let Z416 := List.getD Z348 (nat_lit 1) Z238; let Z417 := List.getD Z348 (nat_lit 0) Z238; let Z418 := fun (t : Z100) => Prod.snd (Z407 t); let Z419 := fun (t : Z100) => Prod.fst (Z407 t); let Z420 := fun (t : Z100) => Prod.fst (Z413 t); let Z421 := fun (t : Z100) => Prod.snd (Z413 t); let Z422 := fun (t : Z100) => Value.int IntKind.i64 (Z418 t); let Z423 := fun (t : Z100) => Prod.fst (Z412 t); let Z424 := fun (t : Z100) => Prod.snd (Z412 t); let Z425 := fun (t : Z100) => Prod.snd (Z408 t); let Z426 := fun (t : Z100) => Prod.fst (Z408 t); let Z427 := fun (t : Z100) => AV.v (Z422 t); let Z428 := fun (t : Z100) => Value.int IntKind.i64 (Z420 t); let Z429 := fun (t : Z100) => Value.int IntKind.i64 (Z421 t); let Z430 := fun (t : Z100) => Prod.fst (Z424 t); let Z431 := fun (t : Z100) => AV.v (Z428 t); let Z432 := fun (t x : Z100) => Z5 ∧ Z409 t x; let Z433 := fun (t : Z100) => Prod.fst (Z423 t); let Z434 := fun (t : Z100) => AV.v (Z429 t); let Z435 := fun (t : Z100) => Prod.snd (Z424 t); let Z436 := fun (t : Z100) => Prod.snd (Z423 t); let Z437 := fun (x : Z100) => Z25 ∧ Z406 x; let Z438 := fun (t : Z100) => Prod.snd (Z426 t); let Z439 := fun (t : Z100) => Prod.fst (Z426 t); let Z440 := Prod.fst Z417; let Z441 := Prod.snd Z416; let Z442 := Prod.fst Z416; let Z443 := Prod.snd Z417; let Z444 := fun (t : Z100) => Prod.snd (Z425 t); let Z445 := fun (t : Z100) => Prod.fst (Z425 t); let Z446 := fun (t : Z100) => Value.int IntKind.i64 (Z436 t); let Z447 := fun (t : Z100) => Value.int IntKind.i64 (Z435 t); let Z448 := fun (t : Z100) => Value.int IntKind.i64 (Z433 t); let Z449 := fun (t : Z100) => Value.int IntKind.i64 (Z430 t); let Z450 := fun (t : Z100) => Value.int IntKind.i64 (Z438 t); let Z451 := fun (t : Z100) => AV.v (Z448 t); let Z452 := fun (t : Z100) => AV.v (Z446 t); let Z453 := fun (t : Z100) => AV.v (Z449 t); let Z454 := fun (t : Z100) => AV.v (Z447 t); let Z455 := fun (t : Z100) => Prod.fst (Z445 t); let Z456 := fun (t : Z100) => Prod.snd (Z444 t); let Z457 := fun (t : Z100) => AV.v (Z450 t); let Z458 := fun (t : Z100) => Prod.fst (Z444 t); let Z459 := fun (t : Z100) => Prod.snd (Z445 t); let Z460 := fun (x : Z65) => Z326 ∧ Z307 x; let Z461 := fun (x : Z65) => Z326 ∧ Z308 x; let Z462 := Prod.snd Z443; let Z463 := Prod.snd Z441; let Z464 := Prod.fst Z443; let Z465 := Prod.fst Z442; let Z466 := Prod.fst Z440; let Z467 := Prod.snd Z440; let Z468 := Prod.snd Z442; let Z469 := fun (x : Z100) => Z210 :: Z377 x; let Z470 := fun (t x : Z100) => Z5 ∧ Z432 t x; let Z471 := fun (t : Z100) => Value.int IntKind.i64 (Z456 t); let Z472 := fun (t : Z100) => Value.int IntKind.i64 (Z459 t); let Z473 := Prod.snd Z468; let Z474 := Prod.snd Z467; let Z475 := Prod.fst Z468; let Z476 := Prod.fst Z467; let Z477 := fun (t : Z100) => AV.v (Z471 t); let Z478 := fun (t : Z100) => AV.v (Z472 t); let Z479 := Value.int IntKind.i64 Z466; let Z480 := Value.int IntKind.i64 Z465; let Z481 := Prod.snd Z462; let Z482 := Prod.snd Z464; let Z483 := Prod.snd Z463; let Z484 := Value.int IntKind.i64 Z473; let Z485 := Value.int IntKind.i64 Z475; let Z486 := Value.int IntKind.i64 Z474; let Z487 := Value.int IntKind.i64 Z476; let Z488 := Prod.snd Z481; let Z489 := Prod.snd Z482; let Z490 := Prod.snd Z483; let Z491 := fun (x : Z65) => Z5 ∧ Z461 x; let Z492 := fun (x : Z65) => Z5 ∧ Z460 x; let Z493 := fun (t x : Z100) => Z5 ∧ Z470 t x; let Z494 := Z489 = List.length ps; let Z495 := Z488 = List.length st; let Z496 := Z490 = List.length st; let Z497 := nat_lit 0 = nat_lit 0 ∧ Z494; let Z498 := nat_lit 0 = nat_lit 0 ∧ Z496; let Z499 := nat_lit 0 = nat_lit 0 ∧ Z495; let Z500 := nat_lit 0 = nat_lit 0 ∧ Z497; let Z501 := nat_lit 0 = nat_lit 0 ∧ Z498; let Z502 := nat_lit 0 = nat_lit 0 ∧ Z499; let Z503 := fun (t : Z260) => Z345 t > Z314; let Z504 := Z502 ∧ True; let Z505 := Z501 ∧ True; let Z506 := Z318 ∧ Z347; let Z507 := fun (t x : Z100) => Value.int IntKind.u8 k = Value.int IntKind.u8 k ∧ Z493 t x; let Z508 := Z342 ∧ Z343; let Z509 := Z508 ∧ True; let Z510 := fun (t x : Z100) => Z25 ∧ Z507 t x; let Z511 := Z349 ∧ Z361; let Z512 := fun (t : Z242) => decide (Z362 t); let Z513 := Z372 ∧ Z366; let Z514 := Z369 ∧ Z367; let Z515 := fun (t : Z260) => decide (Z368 t); let Z516 := fun (x : Z65) => Z318 ∧ Z492 x; let Z517 := fun (x : Z65) => Z318 ∧ Z491 x; let Z518 := fun (t : Z100) => decide (Z393 t); let Z519 := fun (t : Z100) => decide (Z394 t); let Z520 : List PitT := Z352 ++ Z405; let Z521 := Z319 ∧ Z506; let Z522 := List.length Z520; let Z523 := List.length Z520; let Z524 := Z522 < nat_lit 1000000; let Z525 := Z5 ∧ Z521; let Z526 := Z524 ∧ Z15; let Z527 := fun (x : Z100) => Z352 ++ Z469 x; let Z528 := fun (t : Z100) => Z395 t = Z402 t; let Z529 := Z5 ∧ Z525; let Z530 := Z5 ∧ Z529; let Z531 := fun (t : Z100) => (Z419 t, Z403 t); let Z532 := Z16 ∧ Z530; let Z533 := fun (t : Z100) => Z414 t = Z414 t; let Z534 := Z508 ∧ Z375; let Z535 := fun (t : Z100) => Z415 t = Z427 t; let Z536 := Z5 ∧ Z532; let Z537 := fun (t : Z100) => (Z439 t, Z421 t); let Z538 := fun (t : Z100) => Z431 t = Z431 t; let Z539 := Z5 ∧ Z536; let Z540 := fun (t : Z100) => Z434 t = Z457 t; let Z541 := fun (t : Z100) => (Z458 t, Z435 t); let Z542 := fun (t : Z100) => (Z455 t, Z436 t); let Z543 := fun (t : Z100) => Z451 t = Z451 t; let Z544 := fun (t : Z100) => Z453 t = Z453 t; let Z545 := Z5 ∧ Z539; let Z546 := Z370 ∧ Z513; let Z547 := Z371 ∧ Z514; let Z548 := fun (t : Z100) => Z452 t = Z478 t; let Z549 := fun (t : Z100) => Z454 t = Z477 t; let Z550 := fun (t : Z100) => Z549 t ∧ True; let Z551 := Z479 = Z479; let Z552 := Z480 = Z480; let Z553 := Value.int IntKind.u8 k = Value.int IntKind.u8 k ∧ Z545; let Z554 := Z484 = Z484; let Z555 := Z487 = Z487; let Z556 := Z485 = Z485; let Z557 := Z486 = Z486; let Z558 := fun (x : Z65) => Z319 ∧ Z516 x; let Z559 := fun (x : Z65) => Z319 ∧ Z517 x; let Z560 := Z25 ∧ Z553; let Z561 := fun (x : Z65) => Z5 ∧ Z558 x; let Z562 := fun (x : Z65) => Z5 ∧ Z559 x; let Z563 := fun (x : Z65) => Z5 ∧ Z561 x; let Z564 := fun (x : Z65) => Z5 ∧ Z562 x; let Z565 := Z500 ∧ Z504; let Z566 := fun (t : Z260) => decide (Z503 t); let Z567 := fun (x : Z65) => Z5 ∧ Z563 x; let Z568 := fun (x : Z65) => Z5 ∧ Z564 x; let Z569 := fun (x : Z65) => Z16 ∧ Z568 x; let Z570 := fun (x : Z65) => Z16 ∧ Z567 x; let Z571 := fun (x : Z65) => Z5 ∧ Z570 x; let Z572 := fun (x : Z65) => Z5 ∧ Z569 x; let Z573 := Z508 ∧ Z511; let Z574 := fun (x : Z65) => Z5 ∧ Z571 x; let Z575 := fun (x : Z65) => Z5 ∧ Z572 x; let Z576 := fun (x : Z65) => Z5 ∧ Z574 x; let Z577 := fun (x : Z65) => Z5 ∧ Z575 x; let Z578 := fun (x : Z65) => Value.int IntKind.u8 k = Value.int IntKind.u8 k ∧ Z576 x; let Z579 := fun (x : Z65) => Value.int IntKind.u8 k = Value.int IntKind.u8 k ∧ Z577 x; let Z580 := fun (x : Z65) => Z25 ∧ Z578 x; let Z581 := fun (x : Z65) => Z25 ∧ Z579 x; let Z582 := Z357 ∧ Z546; let Z583 := Z356 ∧ Z547; let Z584 := GroundT.mk Z466 Z476 Z474 ps; let Z585 := PlotT.mk Z584 st; let Z586 := isPlotM Z585; let Z587 := !Z586; let Z588 := comesM Z128 Z585; let Z589 := leftM Z128 Z585 n; let Z590 := comesM Z143 Z585; let Z591 := leftM Z143 Z585 n; let Z592 := Prod.fst Z588; let Z593 := Prod.snd Z588; let Z594 := Prod.fst Z589; let Z595 := Prod.snd Z589; let Z596 := Prod.snd Z590; let Z597 := Prod.fst Z590; let Z598 := Z358 ∧ Z582; let Z599 := Z359 ∧ Z583; let Z600 := Prod.fst Z591; let Z601 := Prod.snd Z591; let Z602 := Prod.fst Z594; let Z603 := Prod.snd Z594; let Z604 := Z520 = Z520; let Z605 := Prod.fst Z600; let Z606 := Prod.snd Z600; let Z607 := Z523 = Z522; let Z608 := nat_lit 0 = nat_lit 0 ∧ Z607; let Z609 := Z604 ∧ Z8; let Z610 := Z593 != (0 : Int); let Z611 := Z593 != (10 : Int); let Z612 := nat_lit 0 = nat_lit 0 ∧ Z608; let Z613 := Z595 == (0 : Int); let Z614 := Z596 != (0 : Int); let Z615 := Z596 != (10 : Int); let Z616 := Z601 == (0 : Int); let Z617 := nat_lit 8 = nat_lit 8 ∧ Z612; let Z618 := Z613 = true; let Z619 := Z613 = false; let Z620 := Z73 ∧ Z604; let Z621 := Z616 = true; let Z622 := Z616 = false; let Z623 := fun (t : Z100) => Z527 t = Z520; let Z624 := fun (t : Z100) => Z73 ∧ Z623 t; let Z625 := Z592 != Z165; let Z626 := Z595 != Z176; let Z627 := Z597 != Z165; let Z628 := Z603 > Z199; let Z629 := Z602 < Z198; let Z630 := Z601 != Z176; let Z631 := Z626 = true; let Z632 := Z626 = false; let Z633 := Z605 < Z198; let Z634 := Z606 > Z199; let Z635 := Z630 = true; let Z636 := Z630 = false; let Z637 := Z631 → Z133; let Z638 := Z635 → Z133; let Z639 := Z335 ∧ Z599; let Z640 := Z337 ∧ Z598; let Z641 := fun (t : Z100) => (Z542 t, Z541 t); let Z642 := fun (t : Z100) => Z544 t ∧ Z550 t; let Z643 := Z557 ∧ Z565; let Z644 := Z336 ∧ Z640; let Z645 := Z338 ∧ Z639; let Z646 := Z617 ∧ Z505; let Z647 := Z620 ∧ Z509; let Z648 := fun (t : Z100) => Z624 t ∧ Z509; let Z649 := GroundT.mk Z465 Z475 Z473 Z520; let Z650 := PlotT.mk Z649 st; let Z651 := isPlotM Z650; let Z652 := !Z651; let Z653 := Z644 ∧ Z294; let Z654 := Z244 ∧ Z647; let Z655 := comesM Z128 Z650; let Z656 := leftM Z128 Z650 n; let Z657 := comesM Z143 Z650; let Z658 := leftM Z143 Z650 n; let Z659 := Prod.snd Z655; let Z660 := Prod.fst Z655; let Z661 := Prod.fst Z656; let Z662 := Prod.snd Z656; let Z663 := Prod.snd Z657; let Z664 := Prod.fst Z657; let Z665 := Prod.snd Z658; let Z666 := Prod.fst Z658; let Z667 := Prod.snd Z661; let Z668 := Prod.fst Z661; let Z669 := Prod.fst Z666; let Z670 := Prod.snd Z666; let Z671 := fun (t : Z100) => Z244 ∧ Z648 t; let Z672 := Z659 != (0 : Int); let Z673 := Z659 != (10 : Int); let Z674 := Z662 == (0 : Int); let Z675 := Z663 != (0 : Int); let Z676 := Z663 != (10 : Int); let Z677 := Z665 == (0 : Int); let Z678 := Z674 = true; let Z679 := Z674 = false; let Z680 := Z677 = true; let Z681 := Z677 = false; let Z682 := Z660 != Z165; let Z683 := Z662 != Z176; let Z684 := Z664 != Z165; let Z685 := Z667 > Z199; let Z686 := Z668 < Z198; let Z687 := Z665 != Z176; let Z688 := Z683 = true; let Z689 := Z683 = false; let Z690 := Z669 < Z198; let Z691 := Z670 > Z199; let Z692 := Z687 = true; let Z693 := Z687 = false; let Z694 := Z620 ∧ Z534; let Z695 := Z688 → Z133; let Z696 := Z692 → Z133; let Z697 := Z244 ∧ Z694; let Z698 := Z620 ∧ Z573; let Z699 := fun (t : Z100) => (Z537 t, Z641 t); let Z700 := fun (t : Z100) => Z548 t ∧ Z642 t; let Z701 := Z244 ∧ Z698; let Z702 := Z555 ∧ Z643; let Z703 := Z554 ∧ Z646; let Z704 := fun (t : Z100) => (Z531 t, Z699 t); let Z705 := fun (t : Z100) => Z543 t ∧ Z700 t; let Z706 := Z551 ∧ Z702; let Z707 := Z706 ∧ True; let Z708 := Z706 ∧ Z48; let Z709 := Z556 ∧ Z703; let Z710 := fun (t : Z100) => (Z389 t, Z704 t); let Z711 := fun (t : Z100) => [Z710 t]; let Z712 := fun (t : Z100) => List.drop (0 : Nat) (Z711 t); let Z713 := fun (t : Z100) => List.take (1 : Nat) (Z712 t); let Z714 := Z645 ∧ Z654; let Z715 := fun (t : Z100) => Z645 ∧ Z671 t; let Z716 := Z645 ∧ Z697; let Z717 := fun (t : Z100) => Z540 t ∧ Z705 t; let Z718 := Z645 ∧ Z701; let Z719 := Z552 ∧ Z709; let Z720 := Z719 ∧ True; let Z721 := Z719 ∧ Z48; let Z722 := decide Z312; let Z723 := fun (t : Z100) => Z538 t ∧ Z717 t; let Z724 := Z644 ∧ Z714; let Z725 := fun (t : Z100) => Z644 ∧ Z715 t; let Z726 := fun (t : Z100) => Z535 t ∧ Z723 t; let Z727 := Z339 ∧ Z724; let Z728 := fun (t : Z100) => Z339 ∧ Z725 t; let Z729 := Z644 ∧ Z716; let Z730 := Z293 ∧ Z727; let Z731 := fun (t : Z100) => Z293 ∧ Z728 t; let Z732 := Z644 ∧ Z718; let Z733 := Z339 ∧ Z729; let Z734 := Z303 ∧ Z730; let Z735 := st = st ∧ Z734; let Z736 := ps = ps ∧ Z735; let Z737 := True ∧ Z736; let Z738 := fun (t : Z100) => Z303 ∧ Z731 t; let Z739 := fun (t : Z100) => st = st ∧ Z738 t; let Z740 := fun (t : Z100) => ps = ps ∧ Z739 t; let Z741 := fun (t : Z100) => True ∧ Z740 t; let Z742 := Z293 ∧ Z733; let Z743 := Z339 ∧ Z732; let Z744 := fun (t : Z100) => Z533 t ∧ Z726 t; let Z745 := Z303 ∧ Z742; let Z746 := st = st ∧ Z745; let Z747 := ps = ps ∧ Z746; let Z748 := True ∧ Z747; let Z749 := Z293 ∧ Z743; let Z750 := Z303 ∧ Z749; let Z751 := st = st ∧ Z750; let Z752 := ps = ps ∧ Z751; let Z753 := True ∧ Z752; let Z754 := Z560 ∧ Z737; let Z755 := ∃ (x : Unit), Z754; let Z756 := True ∧ Z755; let Z757 := decide Z332; let Z758 := decide Z333; let Z759 := Z758 = true; let Z760 := Z757 = true; let Z761 := Z757 = false; let Z762 := Z758 = false; let Z763 := fun (t : Z100) => Z560 ∧ Z741 t; let Z764 := fun (t : Z100) => ∃ (x : Unit), Z763 t; let Z765 := fun (t : Z100) => True ∧ Z764 t; let Z766 := fun (t : Z100) => Z528 t ∧ Z744 t; let Z767 := fun (t : Z100) => nat_lit 1 = nat_lit 1 ∧ Z766 t; let Z768 := Z760 → Z133; let Z769 := Z759 → Z133; let Z770 := fun (t : Z100) => Z284 → Z765 t; let Z771 := fun (x : Z65) => Z580 x ∧ Z748; let Z772 := fun (x : Z65) => Z581 x ∧ Z748; let Z773 := fun (x t : Z65) => Z772 x ∧ Z207 x t; let Z774 := fun (x t : Z65) => Z771 x ∧ Z207 x t; let Z775 := fun (t : Z65) => ∃ (x : Z65), Z774 x t; let Z776 := fun (t : Z65) => ∃ (x : Z65), Z773 x t; let Z777 := fun (t : Z65) => True ∧ Z776 t; let Z778 := fun (t : Z65) => True ∧ Z775 t; let Z779 := fun (t : Z65) => Z619 → Z778 t; let Z780 := fun (t : Z65) => Z622 → Z778 t; let Z781 := fun (t : Z65) => Z679 → Z777 t; let Z782 := fun (t : Z65) => Z681 → Z777 t; let Z783 := decide Z629; let Z784 := decide Z628; let Z785 := Z784 = true; let Z786 := Z783 = true; let Z787 := Z784 = false; let Z788 := Z783 = false; let Z789 := Z785 → Z133; let Z790 := Z786 → Z133; let Z791 := decide Z633; let Z792 := decide Z634; let Z793 := Z792 = true; let Z794 := Z791 = true; let Z795 := Z791 = false; let Z796 := Z792 = false; let Z797 := Z794 → Z133; let Z798 := Z793 → Z133; let Z799 := decide Z686; let Z800 := decide Z685; let Z801 := Z800 = true; let Z802 := Z799 = true; let Z803 := Z800 = false; let Z804 := Z799 = false; let Z805 := Z801 → Z133; let Z806 := Z802 → Z133; let Z807 := decide Z690; let Z808 := decide Z691; let Z809 := Z807 = true; let Z810 := Z808 = true; let Z811 := Z807 = false; let Z812 := Z808 = false; let Z813 := Z810 → Z133; let Z814 := Z809 → Z133; let Z815 := fun (t : Z100) => Z761 → Z765 t; let Z816 := fun (t : Z65) => Z787 → Z778 t; let Z817 := fun (t : Z65) => Z796 → Z778 t; let Z818 := fun (t : Z65) => Z803 → Z777 t; let Z819 := fun (t : Z65) => Z812 → Z777 t; let Z820 := fun (t : Z100) => Z768 ∧ Z815 t; let Z821 := fun (t : Z100) => Z762 → Z820 t; let Z822 := fun (t : Z65) => Z789 ∧ Z816 t; let Z823 := fun (t : Z65) => Z798 ∧ Z817 t; let Z824 := fun (t : Z65) => Z805 ∧ Z818 t; let Z825 := fun (t : Z65) => Z813 ∧ Z819 t; let Z826 := fun (t : Z100) => Z769 ∧ Z821 t; let Z827 := fun (t : Z100) => Z282 → Z826 t; let Z828 := fun (t : Z65) => Z788 → Z822 t; let Z829 := fun (t : Z65) => Z795 → Z823 t; let Z830 := fun (t : Z100) => Z827 t ∧ Z770 t; let Z831 := fun (t : Z65) => Z804 → Z824 t; let Z832 := fun (t : Z65) => Z811 → Z825 t; let Z833 := fun (t : Z65) => Z790 ∧ Z828 t; let Z834 := fun (t : Z65) => Z797 ∧ Z829 t; let Z835 := fun (t : Z65) => Z618 → Z833 t; let Z836 := fun (t : Z65) => Z621 → Z834 t; let Z837 := fun (t : Z65) => Z806 ∧ Z831 t; let Z838 := fun (t : Z65) => Z814 ∧ Z832 t; let Z839 := fun (t : Z65) => Z678 → Z837 t; let Z840 := fun (t : Z65) => Z680 → Z838 t; let Z841 := fun (t : Z65) => Z835 t ∧ Z779 t; let Z842 := fun (t : Z65) => Z836 t ∧ Z780 t; let Z843 := fun (t : Z65) => Z632 → Z841 t; let Z844 := fun (t : Z65) => Z636 → Z842 t; let Z845 := fun (t : Z65) => Z637 ∧ Z843 t; let Z846 := fun (t : Z65) => Z638 ∧ Z844 t; let Z847 := fun (t : Z65) => Z839 t ∧ Z781 t; let Z848 := fun (t : Z65) => Z840 t ∧ Z782 t; let Z849 := fun (t : Z65) => Z689 → Z847 t; True ∧ Z294 ∧ Z77 ∧ (largeM (PlotT.mk (GroundT.mk long rise change ps) st) = true → Z152) ∧ (largeM (PlotT.mk (GroundT.mk long rise change ps) st) = false → True ∧ (Z303 ∧ True) ∧ True ∧ (Z149 = true → Z152) ∧ (Z149 = false → Z99 ∧ Z294 ∧ Z77 ∧ (Z40 = true → Z152) ∧ (Z40 = false → Z55 ∧ Z55 ∧ True ∧ (Z139 = Z139 ∧ Z138 = Z138 ∧ True) ∧ True ∧ True ∧ (Z132 = Z132 ∧ Z129 = Z129 ∧ True) ∧ True ∧ Z55 ∧ Z55 ∧ Z55 ∧ Z55 ∧ True ∧ (Z219 = Z219 ∧ Z220 = Z220 ∧ True) ∧ True ∧ Z54 ∧ Z54 ∧ (2 : Int) ≠ (0 : Int) ∧ (8 : Int) ≠ (0 : Int) ∧ Z54 ∧ (∃ (x : Z100), (True ∧ True ∧ True ∧ Z78) ∧ (True ∧ True ∧ Z62 ∧ Z17 ∧ Z78 ∧ Z62 ∧ Z62 ∧ (True ∧ True ∧ True ∧ nat_lit 0 = nat_lit 0 ∧ True ∧ True) ∧ Z378 x = [] ∧ True) ∧ Z437 x ∧ True ∧ ps = ps ∧ st = st ∧ Z303 ∧ Z293 ∧ Z339 ∧ (Z139 = Z217 ∧ Z138 = Z214 ∧ Z132 = Z251 ∧ Z129 = Z252 ∧ Z219 = Z279 ∧ Z220 = Z277 ∧ Value.int IntKind.i64 full = Z265 ∧ True) ∧ (Value.int IntKind.i64 (min s1 (IntKind.wrap IntKind.i64 (s0 + Int.tmod (IntKind.wrap IntKind.i64 k) (4 : Int)))) = Z216 ∧ Value.int IntKind.i64 s1 = Z215 ∧ Value.int IntKind.i64 l0 = Z250 ∧ Value.int IntKind.i64 (max l0 (IntKind.wrap IntKind.i64 (l1 - Int.tmod (IntKind.wrap IntKind.i64 (Int.tdiv (IntKind.wrap IntKind.i64 k) (4 : Int))) (2 : Int)))) = Z249 ∧ Value.int IntKind.i64 (min g1 (IntKind.wrap IntKind.i64 (g0 + Int.tmod (IntKind.wrap IntKind.i64 (Int.tdiv (IntKind.wrap IntKind.i64 k) (8 : Int))) (4 : Int)))) = Z278 ∧ Value.int IntKind.i64 g1 = Z280 ∧ Value.int IntKind.i64 full = Z264 ∧ True) ∧ (Z41 ∧ Z24 ∧ Z39 ∧ Value.slice none (nat_lit 0) (nat_lit 0) = Value.slice none (nat_lit 0) (nat_lit 0) ∧ Z82) ∧ True ∧ True) ∧ ∀ (t : Z100), (Z320 t → Z302 t ∧ Z201 t ∧ (Z519 t = true → Z767 t ∧ nat_lit 1 ≤ nat_lit 1 ∧ Z387 t ∧ True ∧ ∃ (x : Z100), (Z510 t x ∧ True ∧ ps = ps ∧ st = st ∧ Z303 ∧ Z293 ∧ Z339 ∧ Z644 ∧ Z645 ∧ Z244 ∧ (Z11 ∧ Z378 t ++ Z713 t = Z378 x) ∧ True) ∧ Z298 x t) ∧ (Z519 t = false → True ∧ ∃ (x : Z100), (Z510 t x ∧ True ∧ ps = ps ∧ st = st ∧ Z303 ∧ Z293 ∧ Z339 ∧ Z644 ∧ Z645 ∧ Z244 ∧ (Z73 ∧ Z378 t = Z378 x) ∧ True) ∧ Z298 x t)) ∧ (Z321 t → (nat_lit 1 = nat_lit 1 ∧ AV.v (Value.int IntKind.i64 pa) = AV.v (Value.int IntKind.i64 pa) ∧ AV.v (Value.int IntKind.i64 ph) = AV.v (Value.int IntKind.i64 ph) ∧ AV.v (Value.int IntKind.i64 ph2) = AV.v (Value.int IntKind.i64 ph2) ∧ AV.v (Value.int IntKind.i64 a1) = AV.v (Value.int IntKind.i64 a1) ∧ AV.v (Value.int IntKind.i64 a2) = AV.v (Value.int IntKind.i64 a2) ∧ AV.v (Value.int IntKind.i64 b1) = AV.v (Value.int IntKind.i64 b1) ∧ AV.v (Value.int IntKind.i64 b2) = AV.v (Value.int IntKind.i64 b2) ∧ AV.v (Value.int IntKind.i64 c1) = AV.v (Value.int IntKind.i64 c1) ∧ AV.v (Value.int IntKind.i64 c2) = AV.v (Value.int IntKind.i64 c2) ∧ True) ∧ nat_lit 1 ≤ nat_lit 1 ∧ Z387 t ∧ (∃ (x : Z100), Z437 x ∧ True ∧ ps = ps ∧ st = st ∧ Z303 ∧ Z293 ∧ Z339 ∧ Z644 ∧ Z645 ∧ Z244 ∧ (Z11 ∧ Z378 t ++ List.take (1 : Nat) (List.drop (0 : Nat) [Z210]) = Z527 x) ∧ True) ∧ ∀ (t : Z100), (Z320 t → Z302 t ∧ Z201 t ∧ (Z518 t = true → Z767 t ∧ nat_lit 1 ≤ nat_lit 1 ∧ List.length (Z527 t) + nat_lit 1 ≤ nat_lit 1099511627776 ∧ True ∧ ∃ (x : Z100), (Z510 t x ∧ True ∧ ps = ps ∧ st = st ∧ Z303 ∧ Z293 ∧ Z339 ∧ Z644 ∧ Z645 ∧ Z244 ∧ (Z11 ∧ Z527 t ++ Z713 t = Z527 x) ∧ True) ∧ Z298 x t) ∧ (Z518 t = false → True ∧ ∃ (x : Z100), (Z510 t x ∧ True ∧ ps = ps ∧ st = st ∧ Z303 ∧ Z293 ∧ Z339 ∧ Z644 ∧ Z645 ∧ Z244 ∧ (Z73 ∧ Z527 t = Z527 x) ∧ True) ∧ Z298 x t)) ∧ (Z321 t → Z89 ∧ Z390 ∧ Z77 ∧ Z89 ∧ (Z303 ∧ Z305) ∧ Z77 ∧ Z89 ∧ Z653 ∧ Z77 ∧ Z89 ∧ (Z644 ∧ Z305) ∧ Z77 ∧ ((Z325 = true → Z133) ∧ (Z325 = false → (Z331 = true → Z133) ∧ (Z331 = false → (Z266 = true → (Z722 = true → Z133) ∧ (Z722 = false → Z830 t)) ∧ (Z266 = false → Z830 t)))) ∧ ∀ (t : Unit), Z89 ∧ Z390 ∧ Z77 ∧ Z89 ∧ Z653 ∧ Z77 ∧ ((Z269 = true → (∃ (x : Z242), (Z25 ∧ Value.int IntKind.u8 k = Value.int IntKind.u8 k ∧ Z5 ∧ Z5 ∧ Z5 ∧ Z16 ∧ Z5 ∧ Z5 ∧ Z5 ∧ Z319 ∧ Z318 ∧ Z5 ∧ Z326 ∧ nat_lit 0 = nat_lit 0 ∧ Z340 ∧ Z13 = Z344 x ∧ Z92 ∧ nat_lit 0 = nat_lit 0 ∧ Value.int IntKind.i64 Z243 = Z246 ∧ Z13 = Z288 x ∧ True) ∧ Z753) ∧ ∀ (t : Z242), (Z512 t = true → ((0 : Int) ≤ Z276 t ∧ Z276 t < Z243) ∧ Z295 t < Z209 ∧ True ∧ ∃ (x : Z242), ((Z25 ∧ Value.int IntKind.u8 k = Value.int IntKind.u8 k ∧ Z5 ∧ Z5 ∧ Z5 ∧ Z16 ∧ Z5 ∧ Z5 ∧ Z5 ∧ Z319 ∧ Z318 ∧ Z5 ∧ Z326 ∧ nat_lit 0 = nat_lit 0 ∧ Z340 ∧ Value.int IntKind.i64 (IntKind.wrap IntKind.i64 (Z334 t + List.getD Z175 (Z295 t) (0 : Int))) = Z344 x ∧ Z92 ∧ nat_lit 0 = nat_lit 0 ∧ Z246 = Z246 ∧ Value.int IntKind.i64 (IntKind.wrap IntKind.i64 (Z276 t + (1 : Int))) = Z288 x ∧ True) ∧ Z753) ∧ Z350 x < Z350 t) ∧ (Z512 t = false → (∃ (x : Z260), (Z25 ∧ Value.int IntKind.u8 k = Value.int IntKind.u8 k ∧ Z5 ∧ Z5 ∧ Z5 ∧ Z16 ∧ Z5 ∧ Z5 ∧ Z5 ∧ Z319 ∧ Z318 ∧ Z5 ∧ Z326 ∧ Z340 ∧ Z344 t = Z322 ∧ Z13 = Z351 x ∧ nat_lit 0 = nat_lit 0 ∧ Value.int IntKind.i64 Z261 = Z267 ∧ Z13 = Z290 x ∧ True) ∧ Z753) ∧ ∀ (t : Z260), (Z515 t = true → ((0 : Int) ≤ Z287 t ∧ Z287 t < Z261) ∧ Z297 t < Z227 ∧ True ∧ ∃ (x : Z260), ((Z25 ∧ Value.int IntKind.u8 k = Value.int IntKind.u8 k ∧ Z5 ∧ Z5 ∧ Z5 ∧ Z16 ∧ Z5 ∧ Z5 ∧ Z5 ∧ Z319 ∧ Z318 ∧ Z5 ∧ Z326 ∧ Z340 ∧ Z322 = Z322 ∧ Value.int IntKind.i64 (IntKind.wrap IntKind.i64 (Z345 t + List.getD Z190 (Z297 t) (0 : Int))) = Z351 x ∧ nat_lit 0 = nat_lit 0 ∧ Z267 = Z267 ∧ Value.int IntKind.i64 (IntKind.wrap IntKind.i64 (Z287 t + (1 : Int))) = Z290 x ∧ True) ∧ Z753) ∧ Z360 x < Z360 t) ∧ (Z515 t = false → (Z281 = true → Z133) ∧ (Z281 = false → (Z566 t = true → Z133) ∧ (Z566 t = false → Z756))))) ∧ (Z269 = false → Z756)) ∧ ∀ (t : Unit), (nat_lit 2 = nat_lit 2 ∧ Z49 ∧ Z51 ∧ Z53 ∧ AV.sl (nat_lit 0) (nat_lit 0) (nat_lit 0) (List.length ps) = AV.sl (nat_lit 0) (nat_lit 0) (nat_lit 0) (List.length ps) ∧ Z70 ∧ Z49 ∧ Z51 ∧ Z53 ∧ AV.gs (nat_lit 8) (nat_lit 0) = AV.gs (nat_lit 8) (nat_lit 0) ∧ Z70 ∧ True) ∧ (∃ (x : Z65), (Z25 ∧ Value.int IntKind.u8 k = Value.int IntKind.u8 k ∧ Z5 ∧ Z5 ∧ Z5 ∧ Z16 ∧ Z5 ∧ Z5 ∧ Z5 ∧ Z319 ∧ Z318 ∧ Z5 ∧ Z326 ∧ ((10 : Nat) = (10 : Nat) ∧ Z3) ∧ Value.int IntKind.i64 (↑(nat_lit 2) : Int) = Z14 ∧ Z13 = Z108 x ∧ True) ∧ Z748) ∧ ∀ (t : Z65), ((0 : Int) ≤ Z90 t ∧ Z90 t < (↑(nat_lit 3) : Int)) ∧ (Z90 t = (↑(nat_lit 0) : Int) → (Z283 t → ((0 : Int) ≤ (↑(nat_lit 0) : Int) ∧ (↑(nat_lit 0) : Int) < (↑(nat_lit 2) : Int)) ∧ nat_lit 0 < nat_lit 2 ∧ Z99 ∧ Z707 ∧ Z77 ∧ (Z587 = true → Z778 t) ∧ (Z587 = false → (Z91 = true → Z89 ∧ (Z303 ∧ Z707) ∧ Z77 ∧ Z89 ∧ (Z303 ∧ Z708) ∧ Z77 ∧ (Z610 = true → (Z611 = true → Z133) ∧ (Z611 = false → Z778 t)) ∧ (Z610 = false → Z315 ∧ (Z275 → (Z272 → (Z625 = true → Z133) ∧ (Z625 = false → Z845 t)) ∧ (Z274 → Z845 t)))) ∧ (Z91 = false → Z89 ∧ (Z645 ∧ Z707) ∧ Z77 ∧ Z89 ∧ (Z645 ∧ Z708) ∧ Z77 ∧ (Z614 = true → (Z615 = true → Z133) ∧ (Z615 = false → Z778 t)) ∧ (Z614 = false → Z315 ∧ (Z275 → (Z272 → (Z627 = true → Z133) ∧ (Z627 = false → Z846 t)) ∧ (Z274 → Z846 t)))))) ∧ Z330 t) ∧ (Z90 t = (↑(nat_lit 1) : Int) → (Z283 t → ((0 : Int) ≤ (↑(nat_lit 1) : Int) ∧ (↑(nat_lit 1) : Int) < (↑(nat_lit 2) : Int)) ∧ nat_lit 1 < nat_lit 2 ∧ (Z524 ∧ Z44) ∧ Z720 ∧ Z609 ∧ (Z652 = true → Z777 t) ∧ (Z652 = false → (Z94 = true → Z526 ∧ (Z303 ∧ Z720) ∧ Z609 ∧ Z526 ∧ (Z303 ∧ Z721) ∧ Z609 ∧ (Z672 = true → (Z673 = true → Z133) ∧ (Z673 = false → Z777 t)) ∧ (Z672 = false → Z315 ∧ (Z275 → (Z272 → (Z682 = true → Z133) ∧ (Z682 = false → Z695 ∧ Z849 t)) ∧ (Z274 → Z695 ∧ Z849 t)))) ∧ (Z94 = false → Z526 ∧ (Z645 ∧ Z720) ∧ Z609 ∧ Z526 ∧ (Z645 ∧ Z721) ∧ Z609 ∧ (Z675 = true → (Z676 = true → Z133) ∧ (Z676 = false → Z777 t)) ∧ (Z675 = false → Z315 ∧ (Z275 → (Z272 → (Z684 = true → Z133) ∧ (Z684 = false → Z696 ∧ (Z693 → Z848 t))) ∧ (Z274 → Z696 ∧ (Z693 → Z848 t))))))) ∧ Z330 t) ∧ (Z90 t = (↑(nat_lit 2) : Int) → (Z283 t → ((0 : Int) ≤ (↑(nat_lit 2) : Int) ∧ (↑(nat_lit 2) : Int) < (↑(nat_lit 2) : Int)) ∧ nat_lit 2 < nat_lit 2 ∧ False) ∧ Z330 t) ∧ True))))))
    (by kernel_rfl) ?_
  simp only [eq_self, true_and, and_true, Int.toNat_natCast, Nat.zero_add, Nat.sub_zero, Value.int.injEq, Value.bool.injEq, decide_eq_true_eq, decide_eq_false_iff_not]
  have hk : 0 ≤ k ∧ k ≤ 255 := hx.2
  have h2' : st.length < 9223372036854775808 := hx.1.2
  refine ⟨fun _ => trivial, fun hlg => ⟨fun _ => trivial, fun hT => ?_⟩⟩
  obtain ⟨h40, h41⟩ : ps.length ≤ 40 ∧ st.length ≤ 40 := large_smallM hlg
  obtain ⟨h1, h2⟩ : ps.length < 1000000 ∧ st.length < 1000000 := ⟨by omega, by omega⟩
  have hT : teamM ((s0, s1), (l0, l1), (g0, g1), full) = true := by simpa using hT
  refine ⟨⟨h1, h2'⟩, fun _ => trivial, fun hP => ?_⟩
  have hP : isPlotM ⟨⟨long, rise, change, ps⟩, st⟩ = true := by simpa using hP
  have ht := team_ok hT
  have hS : (0 ≤ s0 ∧ s0 ≤ s1 ∧ s1 ≤ full) ∧ (0 ≤ l0 ∧ l0 ≤ l1 ∧ l1 ≤ 100) ∧ (0 ≤ g0 ∧ g0 ≤ g1 ∧ g1 ≤ 1000) ∧ full ≤ 10000 := by
    have : (0 ≤ full ∧ full ≤ 10000) ∧ (0 ≤ s0 ∧ s0 ≤ s1 ∧ s1 ≤ full) ∧ (0 ≤ l0 ∧ l0 ≤ l1 ∧ l1 ≤ 100) ∧ (0 ≤ g0 ∧ g0 ≤ g1 ∧ g1 ≤ 1000) := by simpa [and_assoc] using ht
    omega
  refine ⟨by decide, by decide, by decide, by decide, by decide, by decide, by decide, by decide, by decide, by decide, by decide, ?_⟩
  obtain ⟨m3, d3⟩ := k_mod hk 3
  obtain ⟨m4, d4⟩ := k_mod hk 4
  obtain ⟨m8, d8⟩ := k_mod hk 8
  have w1 : ∀ x y : Int, 0 ≤ x → x ≤ 10000 → 0 ≤ y → y ≤ 10000 → IntKind.i64.wrap (x + y) = x + y := fun x y _ _ _ _ => wrap_id (by omega) (by omega)
  have w2 : ∀ x y : Int, 0 ≤ x → x ≤ 10000 → 0 ≤ y → y ≤ 10000 → IntKind.i64.wrap (x - y) = x - y := fun x y _ _ _ _ => wrap_id (by omega) (by omega)
  have w3 : ∀ d : Int, 1 ≤ d → d ≤ 10 → IntKind.i64.wrap (k / d) = k / d ∧ 0 ≤ k / d := fun d hd hd2 => by
    have h0 : 0 ≤ k / d := Int.ediv_nonneg hk.1 (by omega)
    have h1 : k / d ≤ k := Int.ediv_le_self _ hk.1
    exact ⟨wrap_id (by omega) (by omega), h0⟩
  have tm : ∀ x d : Int, 0 ≤ x → x.tmod d = x % d := fun x d hx => Int.tmod_eq_emod_of_nonneg hx
  obtain ⟨hs, hl, hg, hful⟩ := hS
  refine ⟨⟨⟨0, Nat.zero_le _⟩, rfl, rfl, ?_, ?_⟩, fun t => ⟨fun htl => ?_, fun htl => ?_⟩⟩
  · rw [m3, d3, (w3 3 (by omega) (by omega)).1, tm _ _ (w3 3 (by omega) (by omega)).2, w1 s0 (k % 3) (by omega) (by omega) (by omega) (by omega), w1 s1 (k % 3) (by omega) (by omega) (by omega) (by omega), w2 l0 1 (by omega) (by omega) (by omega) (by omega), w2 l1 1 (by omega) (by omega) (by omega) (by omega), w1 g0 (k / 3 % 3) (by omega) (by omega) (by omega) (by omega), w1 g1 (k / 3 % 3) (by omega) (by omega) (by omega) (by omega)]
    exact ⟨rfl, rfl, rfl, rfl, rfl, rfl, rfl⟩
  · rw [m4, d4, d8, (w3 4 (by omega) (by omega)).1, (w3 8 (by omega) (by omega)).1, tm _ _ (w3 4 (by omega) (by omega)).2, tm _ _ (w3 8 (by omega) (by omega)).2, w1 s0 (k % 4) (by omega) (by omega) (by omega) (by omega), w2 l1 (k / 4 % 2) (by omega) (by omega) (by omega) (by omega), w1 g0 (k / 8 % 4) (by omega) (by omega) (by omega) (by omega)]
    exact ⟨rfl, rfl, rfl, rfl, rfl, rfl, rfl⟩
  · obtain ⟨i, hi⟩ := t
    have hlt : i < ps.length := by have h1 : (i : Int) < (ps.length : Int) := htl; omega
    have hfl : (List.filter (fun y => decide (y.1 < pa)) (List.take i ps)).length ≤ 40 := Nat.le_trans (List.length_filter_le _ _) (by rw [List.length_take]; omega)
    refine ⟨⟨Int.natCast_nonneg _, htl⟩, hlt, fun h => ⟨Nat.le_refl _, Nat.le_trans (Nat.add_le_add_right hfl 1) (by decide), ⟨i + 1, hlt⟩, ⟨sucI i (by omega), ?_⟩, dec1 hlt⟩, fun h => ⟨⟨i + 1, hlt⟩, ⟨sucI i (by omega), ?_⟩, dec1 hlt⟩⟩
    · have e := filter_suc (p := fun y => decide (y.1 < pa)) hlt
      rw [if_pos (show decide ((ps.getD i pit0).1 < pa) = true from decide_eq_true h)] at e
      exact e.symm
    · have e := filter_suc (p := fun y => decide (y.1 < pa)) hlt
      rw [if_neg (show ¬ decide ((ps.getD i pit0).1 < pa) = true from fun hh => h (of_decide_eq_true hh)), List.append_nil] at e
      exact e.symm
  · obtain ⟨i, hi⟩ := t
    have hie : i = ps.length := by have h1 : ¬ (i : Int) < (ps.length : Int) := htl; omega
    subst hie
    have hfl : (List.filter (fun y => decide (y.1 < pa)) (List.take ps.length ps)).length ≤ 40 := Nat.le_trans (List.length_filter_le _ _) (by rw [List.length_take]; omega)
    refine ⟨Nat.le_refl _, by show (List.filter (fun y => decide (y.1 < pa)) (List.take ps.length ps)).length + 1 ≤ _; omega, ⟨⟨0, Nat.zero_le _⟩, rfl, by simp⟩, fun t => ⟨fun htl => ?_, fun htl => ?_⟩⟩
    · obtain ⟨i, hi⟩ := t
      have hlt : i < ps.length := by have h1 : (i : Int) < (ps.length : Int) := htl; omega
      have hbig : (List.filter (fun y => decide (y.1 < pa)) (List.take ps.length ps) ++ (pa, (ph, ph2), (a1, a2), (b1, b2), c1, c2) :: List.filter (fun y => decide (y.1 ≥ pa)) (List.take i ps)).length + 1 ≤ 1099511627776 := Nat.le_trans (Nat.add_le_add_right (len_dug h40) 1) (by decide)
      refine ⟨⟨Int.natCast_nonneg _, htl⟩, hlt, fun h => ⟨Nat.le_refl _, hbig, ⟨i + 1, hlt⟩, ⟨sucI i (by omega), ?_⟩, dec1 hlt⟩, fun h => ⟨⟨i + 1, hlt⟩, ⟨sucI i (by omega), ?_⟩, dec1 hlt⟩⟩
      · have e := filter_suc (p := fun y => decide (y.1 ≥ pa)) hlt
        rw [if_pos (show decide ((ps.getD i pit0).1 ≥ pa) = true from decide_eq_true h)] at e
        rw [List.append_assoc]
        exact congrArg (fun z => List.filter (fun y => decide (y.1 < pa)) (List.take ps.length ps) ++ (pa, (ph, ph2), (a1, a2), (b1, b2), c1, c2) :: z) e.symm
      · have e := filter_suc (p := fun y => decide (y.1 ≥ pa)) hlt
        rw [if_neg (show ¬ decide ((ps.getD i pit0).1 ≥ pa) = true from fun hh => h (of_decide_eq_true hh)), List.append_nil] at e
        exact congrArg (fun z => List.filter (fun y => decide (y.1 < pa)) (List.take ps.length ps) ++ (pa, (ph, ph2), (a1, a2), (b1, b2), c1, c2) :: z) e.symm
    · obtain ⟨i, hi⟩ := t
      have hie : i = ps.length := by have h1 : ¬ (i : Int) < (ps.length : Int) := htl; omega
      subst hie
      obtain ⟨e1, e2, e3, e4⟩ := more_law (k := k) (p := ⟨⟨long, rise, change, ps⟩, st⟩) (t := ((s0, s1), (l0, l1), (g0, g1), full)) hT hP n
      refine ⟨⟨h1, h2⟩, ⟨h1, h2⟩, ⟨h1, h2⟩, ⟨h1, h2⟩, ⟨fun h => absurd e1.symm (by simpa using h), fun _ => ⟨fun h => absurd e2.symm (by simpa using h), fun _ => ?_⟩⟩, fun _ => ⟨⟨h1, h2⟩, ⟨h1, h2⟩, ⟨fun hr => ?_, fun _ => ⟨(), trivial⟩⟩, fun _ => ?_⟩⟩
      · have hq : ((leftM ((s0, s1), (l0, l1), (g0, g1), full) ⟨⟨long, rise, change, ps⟩, st⟩ n).2 == 0) = true → ((leftM (moreM ((s0, s1), (l0, l1), (g0, g1), full) k) ⟨⟨long, rise, change, ps⟩, st⟩ n).1.1 < (leftM ((s0, s1), (l0, l1), (g0, g1), full) ⟨⟨long, rise, change, ps⟩, st⟩ n).1.1 → true = false) ∧ (¬ (leftM (moreM ((s0, s1), (l0, l1), (g0, g1), full) k) ⟨⟨long, rise, change, ps⟩, st⟩ n).1.1 < (leftM ((s0, s1), (l0, l1), (g0, g1), full) ⟨⟨long, rise, change, ps⟩, st⟩ n).1.1 → ((leftM (moreM ((s0, s1), (l0, l1), (g0, g1), full) k) ⟨⟨long, rise, change, ps⟩, st⟩ n).1.2 < (leftM ((s0, s1), (l0, l1), (g0, g1), full) ⟨⟨long, rise, change, ps⟩, st⟩ n).1.2 → true = false) ∧ (¬ (leftM (moreM ((s0, s1), (l0, l1), (g0, g1), full) k) ⟨⟨long, rise, change, ps⟩, st⟩ n).1.2 < (leftM ((s0, s1), (l0, l1), (g0, g1), full) ⟨⟨long, rise, change, ps⟩, st⟩ n).1.2 → True)) := fun h => by
          have := e4 (eq_of_beq h)
          exact ⟨fun h => by omega, fun _ => ⟨fun h => by omega, fun _ => trivial⟩⟩
        refine ⟨fun h0 => ⟨fun h => ?_, fun _ => ⟨fun h => ⟨(hq h).1, fun h' => ⟨((hq h).2 h').1, fun _ => ⟨(), rfl⟩⟩⟩, fun _ => ⟨(), rfl⟩⟩⟩, fun _ => ⟨fun h => ⟨(hq h).1, fun h' => ⟨((hq h).2 h').1, fun _ => ⟨(), rfl⟩⟩⟩, fun _ => ⟨(), rfl⟩⟩⟩
        have := e3 (eq_of_beq h0)
        omega
      · obtain ⟨r1, r2, r3, r4⟩ := more_rests (k := k) (p := ⟨⟨long, rise, change, ps⟩, st⟩) (t := ((s0, s1), (l0, l1), (g0, g1), full)) hT (eq_of_beq hr)
        have r2' : (restsM ((s0, s1), (l0, l1), (g0, g1), full) ⟨⟨long, rise, change, ps⟩, st⟩).1.length = st.length := r2
        have r3' : (restsM (moreM ((s0, s1), (l0, l1), (g0, g1), full) k) ⟨⟨long, rise, change, ps⟩, st⟩).1.length = st.length := r3
        refine ⟨⟨⟨0, Nat.zero_le _⟩, rfl, rfl⟩, fun t => ⟨fun htl => ?_, fun htl => ?_⟩⟩
        · obtain ⟨i, hi⟩ := t
          have hlt : i < (restsM ((s0, s1), (l0, l1), (g0, g1), full) ⟨⟨long, rise, change, ps⟩, st⟩).1.length := by have h1 : (i : Int) < ((restsM ((s0, s1), (l0, l1), (g0, g1), full) ⟨⟨long, rise, change, ps⟩, st⟩).1.length : Int) := htl; omega
          exact ⟨⟨Int.natCast_nonneg _, htl⟩, hlt, ⟨i + 1, hlt⟩, ⟨rfl, sucI i (by omega)⟩, dec1 hlt⟩
        · obtain ⟨i, hi⟩ := t
          have hie : i = (restsM ((s0, s1), (l0, l1), (g0, g1), full) ⟨⟨long, rise, change, ps⟩, st⟩).1.length := by have h1 : ¬ (i : Int) < ((restsM ((s0, s1), (l0, l1), (g0, g1), full) ⟨⟨long, rise, change, ps⟩, st⟩).1.length : Int) := htl; omega
          subst hie
          refine ⟨⟨⟨0, Nat.zero_le _⟩, rfl, rfl, rfl⟩, fun t => ⟨fun htl => ?_, fun htl => ?_⟩⟩
          · obtain ⟨i, hi⟩ := t
            have hlt : i < (restsM (moreM ((s0, s1), (l0, l1), (g0, g1), full) k) ⟨⟨long, rise, change, ps⟩, st⟩).1.length := by have h1 : (i : Int) < ((restsM (moreM ((s0, s1), (l0, l1), (g0, g1), full) k) ⟨⟨long, rise, change, ps⟩, st⟩).1.length : Int) := htl; omega
            exact ⟨⟨Int.natCast_nonneg _, htl⟩, hlt, ⟨i + 1, hlt⟩, ⟨rfl, sucI i (by omega)⟩, dec1 hlt⟩
          · obtain ⟨i, hi⟩ := t
            have hie : i = (restsM (moreM ((s0, s1), (l0, l1), (g0, g1), full) k) ⟨⟨long, rise, change, ps⟩, st⟩).1.length := by have h1 : ¬ (i : Int) < ((restsM (moreM ((s0, s1), (l0, l1), (g0, g1), full) k) ⟨⟨long, rise, change, ps⟩, st⟩).1.length : Int) := htl; omega
            subst hie
            refine ⟨fun h => absurd r1 (by simpa using h), fun _ => ⟨fun h => ?_, fun _ => ⟨(), trivial⟩⟩⟩
            have r4' : totM (restsM (moreM ((s0, s1), (l0, l1), (g0, g1), full) k) ⟨⟨long, rise, change, ps⟩, st⟩).1 st.length ≤ totM (restsM ((s0, s1), (l0, l1), (g0, g1), full) ⟨⟨long, rise, change, ps⟩, st⟩).1 st.length := r4
            have h' : totM (restsM (moreM ((s0, s1), (l0, l1), (g0, g1), full) k) ⟨⟨long, rise, change, ps⟩, st⟩).1 (restsM (moreM ((s0, s1), (l0, l1), (g0, g1), full) k) ⟨⟨long, rise, change, ps⟩, st⟩).1.length > totM (restsM ((s0, s1), (l0, l1), (g0, g1), full) ⟨⟨long, rise, change, ps⟩, st⟩).1 (restsM ((s0, s1), (l0, l1), (g0, g1), full) ⟨⟨long, rise, change, ps⟩, st⟩).1.length := h
            rw [r2', r3'] at h'
            omega
      · refine ⟨⟨⟨0, Nat.zero_le _⟩, rfl, rfl⟩, fun t => ?_⟩
        obtain ⟨j, hj⟩ := t
        refine ⟨⟨Int.natCast_nonneg _, by show (j : Int) < 3; omega⟩, fun hj0 => ⟨fun _ => ?_, fun _ => trivial⟩, fun hj1 => ⟨fun _ => ?_, fun _ => trivial⟩, fun hj2 => ⟨fun h => ?_, fun _ => trivial⟩⟩
        · have hj0 : j = 0 := by have h1 : (j : Int) = ((0 : Nat) : Int) := hj0; omega
          subst hj0
          have hN : ∃ x : { j : Nat // j ≤ 2 }, IntKind.i64.wrap (((0 : Nat) : Int) + 1) = (x.1 : Int) ∧ 2 - x.1 < 2 - 0 := ⟨⟨1, by omega⟩, sucI 0 (by omega), show 2 - 1 < 2 - 0 by omega⟩
          refine ⟨⟨by decide, by decide⟩, by decide, ⟨h1, h2'⟩, ⟨rfl, rfl⟩, fun _ => hN, fun _ => ⟨fun h => absurd h (by decide), fun _ => ⟨⟨h1, h2⟩, ⟨rfl, rfl⟩, ⟨h1, h2⟩, ⟨rfl, rfl⟩, ?_⟩⟩⟩
          have hnear := near_law (t := ((s0, s1), (l0, l1), (g0, g1), full)) (t' := thinM ((s0, s1), (l0, l1), (g0, g1), full) k) (p := ⟨⟨long, rise, change, ps⟩, st⟩) (q := ⟨⟨long, rise, change, ps⟩, st⟩) hT (thin_team hT) hP hP (SubG.refl _) rfl (thin_near hT) n
          exact round_cond hN hnear.1 hnear.2
        · have hj1 : j = 1 := by have h1 : (j : Int) = ((1 : Nat) : Int) := hj1; omega
          subst hj1
          have hN : ∃ x : { j : Nat // j ≤ 2 }, IntKind.i64.wrap (((1 : Nat) : Int) + 1) = (x.1 : Int) ∧ 2 - x.1 < 2 - 1 := ⟨⟨2, by omega⟩, sucI 1 (by omega), show 2 - 2 < 2 - 1 by omega⟩
          have hdl : (List.filter (fun y => decide (y.1 < pa)) (List.take ps.length ps) ++ (pa, (ph, ph2), (a1, a2), (b1, b2), c1, c2) :: List.filter (fun y => decide (y.1 ≥ pa)) (List.take ps.length ps)).length < 1000000 := Nat.lt_of_le_of_lt (len_dug h40) (by decide)
          have hdig : digM ⟨⟨long, rise, change, ps⟩, st⟩ (pa, (ph, ph2), (a1, a2), (b1, b2), c1, c2) = ⟨⟨long, rise, change, List.filter (fun y => decide (y.1 < pa)) (List.take ps.length ps) ++ (pa, (ph, ph2), (a1, a2), (b1, b2), c1, c2) :: List.filter (fun y => decide (y.1 ≥ pa)) (List.take ps.length ps)⟩, st⟩ := by
            unfold digM dugM'; simp only [List.take_length]
          refine ⟨⟨by decide, by decide⟩, by decide, ⟨hdl, h2'⟩, rfl, fun _ => hN, fun hq => ⟨fun _ => ⟨⟨hdl, h2⟩, rfl, ⟨hdl, h2⟩, rfl, ?_⟩, fun h => absurd h (by decide)⟩⟩
          have hq' : isPlotM (digM ⟨⟨long, rise, change, ps⟩, st⟩ (pa, (ph, ph2), (a1, a2), (b1, b2), c1, c2)) = true := by rw [hdig]; simpa using hq
          have hnear := near_law (t := ((s0, s1), (l0, l1), (g0, g1), full)) (t' := ((s0, s1), (l0, l1), (g0, g1), full)) (p := ⟨⟨long, rise, change, ps⟩, st⟩) (q := digM ⟨⟨long, rise, change, ps⟩, st⟩ (pa, (ph, ph2), (a1, a2), (b1, b2), c1, c2)) hT hT hP hq' (dig_sub (pa, (ph, ph2), (a1, a2), (b1, b2), c1, c2)) rfl (NearT.refl _) n
          rw [hdig] at hnear
          exact round_cond hN hnear.1 hnear.2
        · have hj2 : j = 2 := by have h1 : (j : Int) = ((2 : Nat) : Int) := hj2; omega
          subst hj2
          exact absurd h (show ¬ ((2 : Nat) : Int) < 2 by omega)

end AE.Team

namespace AE.Team
open Go AE Go.Proofs AE.Soil

structure KeepP (R : Prop) : Prop where
  get : R
def bigP (p : PlotT) : Prop := p.g.pits.length < 9223372036854775808 ∧ p.steps.length < 9223372036854775808

end AE.Team

namespace AE
open Go Go.ChangeShapes Go.WideShapes

theorem Keeps.but {w w' : World} (h : Keeps (fun _ => False) w w') (may : MemPlace → Prop) : w.keptBut w' may := by
  refine ⟨h.os, h.output, fun i hi => ?_⟩
  have hb := h.block i hi fun h => h
  rw [hb]
  exact (World.keptBut_refl w may).2.2 i hi
theorem Keeps.frozen {w w' : World} (h : Keeps (fun _ => False) w w') (a : Addr) (ha : a.block < w.heap.size) : w'.frozen? a = w.frozen? a := by
  unfold World.frozen?
  rw [h.block a.block ha fun h => h]
theorem post_of_keeps {P : Program} {H : Type} {enc : TypeId × Value → H} {f : Func} {s : ChangeSpec} {apart fresh handsOn again : Bool} {W W' : World} {args : Array Value} {v : Value} {ds gs : List (DataW H)} {before pa pv : List MemPlace}
    (hW : DataW.Whole enc P f.params.toList s.vars apart W args.toList ds gs before)
    (hres : ∀ (b : Nat) (sp : Nat → Bool) (hd : Bool), DataW.TrodAll enc P W' b sp hd f.resultTypes.toList (v.resultList f.resultTypes.size) (s.fn H (ds ++ gs)).results [])
    (hargs : ∀ sp : Nat → Bool, (∀ p ∈ before, sp p.block = true) → DataW.TrodAll enc P W' 0 sp true f.params.toList args.toList (s.fn H (ds ++ gs)).args pa)
    (hvars : ∀ sp : Nat → Bool, (∀ p ∈ before, sp p.block = true) → DataW.TrodVars enc P W' sp s.vars (s.fn H (ds ++ gs)).vars pv)
    (hps : before = pa ++ pv) (hk : Keeps (fun _ => False) W W')
    (hok : ∀ (j : Nat) (t : TypeId) (r : Value), f.resultTypes[j]? = some t → (v.resultList f.resultTypes.size)[j]? = some r → Value.okWide P W' .any 0 t r) :
    s.post enc P f apart fresh handsOn again W args v W' := by
  have hlt := hW.lt
  have hold : ∀ p ∈ before, (fun b => decide (b < W.heap.size)) p.block = true := fun p hp => by simpa using hlt p hp
  have hb : ∀ p, p ∈ [] ++ pa ++ pv ↔ p ∈ before := fun p => by rw [hps, List.nil_append]
  refine ⟨ds, gs, before, [], pa, pv, hW, hres _ _ _, hargs _ hold, hvars _ hold, World.keptBut_mono (fun p hp => ⟨hp, ?_⟩) (hk.but _), fun _ => ?_⟩
  · exact Or.inr (List.mem_append.1 (hps ▸ hp))
  · obtain ⟨_, _, _, _, _, hz, hn⟩ := hW
    refine ⟨hok, _, _, [] ++ pa ++ pv, ⟨[] ++ pa, pv, trodAll_append (hargs _ (fun _ _ => rfl)) (hres _ _ _), hvars _ (fun _ _ => rfl), rfl, fun b off hp => ?_, fun ha => ?_⟩, fun p hp _ => (hb p).1 hp⟩
    · have hp' := (hb _).1 hp
      rw [hk.frozen _ (hlt _ hp')]
      exact hz b off hp'
    · have := hn ha
      rwa [hps, ← List.nil_append pa] at this
end AE

namespace AE
open Go Go.ChangeShapes Go.WideShapes Go.RowKit

theorem Keeps.below {w w' : World} (h : Keeps (fun _ => False) w w') : Below w.heap.size w w' :=
  ⟨h.os, h.tape, h.output, h.size, fun k hk => h.block k hk fun e => e⟩

inductive FK where
  | int (k : IntKind)
  | bool
def FK.ok : FK → Value → Prop
  | .int k, v => ∃ n, v = .int k n ∧ (Lit.int k n).wf = true
  | .bool, v => ∃ b, v = .bool b
def FKs : List FK → List Value → Prop
  | [], vs => vs = []
  | k :: ks, vs => ∃ v r, vs = v :: r ∧ k.ok v ∧ FKs ks r
theorem FKs.append : ∀ {a b : List FK} {x y : List Value}, FKs a x → FKs b y → FKs (a ++ b) (x ++ y)
  | [], _, _, _, h, k => by cases h; exact k
  | _ :: _, _, _, _, ⟨v, r, e, h1, h2⟩, k => ⟨v, _, by rw [e]; rfl, h1, h2.append k⟩
theorem FKs.length : ∀ {a : List FK} {x : List Value}, FKs a x → x.length = a.length
  | [], _, h => by cases h; rfl
  | _ :: _, _, ⟨v, r, e, _, h⟩ => by rw [e, List.length_cons, List.length_cons, h.length]

mutual
def flat (P : Program) : Nat → TypeId → Option (List FK)
  | 0, _ => none
  | n + 1, t => match P.underlying t with
    | some .bool => some [.bool]
    | some (.int k) => some [.int k]
    | some (.struct fs) => flatFs P n 0 fs.toList
    | _ => none
def flatFs (P : Program) : Nat → Nat → List Field → Option (List FK)
  | _, _, [] => some []
  | 0, _, _ :: _ => none
  | n + 1, o, f :: fs => match Nat.beq f.offset o, flat P n f.type with
    | true, some l => match Nat.beq (P.cellsOf f.type) l.length, flatFs P n (o + l.length) fs with
      | true, some r => some (l ++ r)
      | _, _ => none
    | _, _ => none
end

section
variable {H : Type} {enc : TypeId × Value → H} {P : Program} {w : World} {base : Nat} {spare : Nat → Bool} {held : Bool}
mutual
theorem flat_ok : ∀ (n : Nat) {t : TypeId} {ks : List FK} {fuel : Nat} {cs : List Value} {x : DataW H × List MemPlace}, flat P n t = some ks → P.cellsOf t = ks.length → DataW.trod enc P w base spare held fuel t cs = some x → FKs ks cs
  | 0, t, ks, fuel, cs, x, h, _, _ => by simp [flat] at h
  | n + 1, t, ks, fuel, cs, x, h, hc, hx => by
    unfold flat at h
    split at h
    · rename_i hu
      cases h
      cases fuel with
      | zero => simp [DataW.trod] at hx
      | succ m =>
        unfold DataW.trod at hx
        rw [hu] at hx
        split at hx <;> first | (simp_all; done) | skip
        rename_i b _ _
        exact ⟨_, _, rfl, ⟨_, rfl⟩, rfl⟩
    · rename_i k hu
      cases h
      cases fuel with
      | zero => simp [DataW.trod] at hx
      | succ m =>
        unfold DataW.trod at hx
        rw [hu] at hx
        split at hx <;> first | (simp_all; done) | skip
        split at hx
        · rename_i k1 _ _ he hh
          have he' : k = k1 := by simpa using he
          subst he'
          obtain ⟨rfl, hh⟩ := hh
          exact ⟨_, _, rfl, ⟨_, rfl, hh⟩, rfl⟩
        · cases hx
    · rename_i fs hu
      obtain ⟨xs, m, _, _, hl, hlen, hf⟩ := DataW.trod_struct hu hx
      have := flatFs_ok n (cs := cs) h (fun f hm => by
        obtain ⟨i, hi, rfl⟩ := List.getElem_of_mem hm
        have h1 : i < fs.size := by simpa using hi
        have h2 := hf i fs[i] (Array.getElem?_eq_getElem h1)
        rw [List.getElem?_eq_getElem (by omega)] at h2
        exact ⟨_, m, by rw [Array.getElem_toList]; exact h2⟩) (by rw [hl, hc]; omega)
      simpa using this
    · cases h
theorem flatFs_ok : ∀ (n : Nat) {o : Nat} {fs : List Field} {ks : List FK} {cs : List Value}, flatFs P n o fs = some ks →
    (∀ f ∈ fs, ∃ y m, DataW.trod enc P w base spare held m f.type ((cs.drop f.offset).take (P.cellsOf f.type)) = some y) → cs.length = o + ks.length → FKs ks (cs.drop o)
  | n, o, [], ks, cs, h, _, hl => by
    have : ks = [] := by cases n <;> simpa [flatFs] using h.symm
    subst this
    show cs.drop o = []
    exact List.drop_eq_nil_of_le (by simpa using Nat.le_of_eq hl)
  | 0, o, f :: fs, ks, cs, h, _, _ => by simp [flatFs] at h
  | n + 1, o, f :: fs, ks, cs, h, hf, hl => by
    unfold flatFs at h
    split at h
    case h_2 => cases h
    rename_i l ho hfl
    split at h
    case h_2 => cases h
    rename_i r hc hr
    cases h
    replace ho := Nat.eq_of_beq_eq_true ho
    replace hc := Nat.eq_of_beq_eq_true hc
    obtain ⟨y, m, hy⟩ := hf f (List.mem_cons_self ..)
    have h1 := flat_ok n hfl hc hy
    have h2 := flatFs_ok n (cs := cs) hr (fun g hg => hf g (List.mem_cons_of_mem _ hg)) (by rw [hl, List.length_append]; omega)
    rw [ho, hc] at h1
    have h3 := h1.append h2
    rw [← List.drop_drop, List.take_append_drop] at h3
    exact h3
end

theorem cells_get {a : Addr} {n : Nat} {cs : List Value} (h : w.cells? base a n = some cs) : cs.length = n ∧ ∀ j, j < n → w.cell? (a.add j) = cs[j]? := by
  unfold World.cells? at h
  split at h
  · exact ⟨by simpa using mapM_some_length h, fun j hj => mapM_some_get h j j (by simp [hj])⟩
  · cases h

theorem cell_spot {a : Addr} {v : Value} (h : w.cell? a = some v) : a.spot = none := by
  unfold World.cell? at h
  split at h
  · split at h
    · cases h
    · rename_i hs; simpa using hs
  · cases h

theorem row_of_trodQ {U : Uni} (c : U.C) (Q : U.ty c → Prop) {t e : TypeId} {ks : List FK} {n fuel : Nat} {v : Value} {x : DataW H × List MemPlace} (ht : P.underlying t = some (.slice e)) (hfl : flat P n e = some ks) (hce : P.cellsOf e = ks.length) (hsz : ks.length = U.sz c) (hpos : 0 < ks.length)
    (hdec : ∀ cs, FKs ks cs → ∃ x, U.enc c x = cs.map .v ∧ Q x) (h : DataW.trod enc P w base spare held fuel t [v] = some x) :
    ∃ (l : List (U.ty c)) (p : Place), l.length < 9223372036854775808 ∧ (∀ x ∈ l, Q x) ∧ (∀ π, BlkOk π w p (.ro c l)) ∧ ∀ (π : Plc) (id k : Nat), π id k = some p → Rep π (.sl id k 0 l.length) v := by
  rcases DataW.trod_slice ht h with ⟨h0, _⟩ | ⟨a, len, cap, elems, rest, m, _, hv, _, hb, hl, hm, hlen, hel, _, _⟩
  · cases h0
    refine ⟨[], ⟨0, 0, U.sz c, none, 0, 0⟩, by simp, fun x hx => by simp at hx, fun π => ⟨rfl, fun i x hi => by simp at hi⟩, fun π id k _ => ?_⟩
    simp only [Rep]
    exact ⟨none, 0, rfl, Nat.le_refl _, fun h => absurd h (Nat.lt_irrefl 0)⟩
  · cases hv
    have each : ∀ i, i < len → ∃ x : U.ty c, Q x ∧ ∀ j a1, (U.enc c x)[j]? = some a1 → ∃ y, w.cell? ((a.add (i * P.cellsOf e)).add j) = some y ∧ a1 = .v y := by
      intro i hi
      have h1 := hel i hi
      rw [List.getElem?_eq_getElem (by omega), Option.bind_eq_some_iff] at h1
      obtain ⟨cs, hcs, htr⟩ := h1
      obtain ⟨hcl, hcg⟩ := cells_get hcs
      obtain ⟨x, hx, hQ⟩ := hdec cs (flat_ok n hfl hce htr)
      refine ⟨x, hQ, fun j a1 hj => ?_⟩
      rw [hx, List.getElem?_map] at hj
      cases hc : cs[j]? with
      | none => rw [hc] at hj; cases hj
      | some y =>
        rw [hc] at hj
        have hjl := (List.getElem?_eq_some_iff.1 hc).1
        exact ⟨y, by rw [hcg j (by omega), hc], by simpa using hj.symm⟩
    have spot : 0 < len → a.spot = none := by
      intro h0
      obtain ⟨x, _, hx⟩ := each 0 h0
      have hl2 := U.len c x
      obtain ⟨y, hy, _⟩ := hx 0 ((U.enc c x)[0]'(by omega)) (List.getElem?_eq_getElem _)
      have h9 : (a.add (0 * P.cellsOf e)).add 0 = a := by simp [Addr.add]
      rw [h9] at hy
      exact cell_spot hy
    have : ∃ l : List (U.ty c), l.length = len ∧ ∀ i x, l[i]? = some x → Q x ∧ ∀ j a1, (U.enc c x)[j]? = some a1 → ∃ y, w.cell? ((a.add (i * P.cellsOf e)).add j) = some y ∧ a1 = .v y := by
      refine ⟨(List.range len).pmap (fun i hi => (each i hi).choose) (fun i hi => List.mem_range.1 hi), by simp, fun i x hi => ?_⟩
      rw [List.getElem?_pmap] at hi
      by_cases h0 : i < len
      · rw [Option.pmap_eq_some_iff] at hi
        obtain ⟨i', h1, h2, rfl⟩ := hi
        have : i' = i := by rw [List.getElem?_range h0] at h2; exact (Option.some.inj h2).symm
        subst this
        exact (each i' h1).choose_spec
      · simp [List.getElem?_eq_none (show (List.range len).length ≤ i by simp; omega)] at hi
    obtain ⟨l, hll, hl2⟩ := this
    have hQl : ∀ x ∈ l, Q x := fun x hx => by
      obtain ⟨i, hi⟩ := List.getElem?_of_mem hx
      exact (hl2 i x hi).1
    have hml : maxLen = 9223372036854775807 := by decide
    refine ⟨l, ⟨a.block, a.off, U.sz c, none, 0, 0⟩, by omega, hQl, fun π => ⟨rfl, fun i x hi j a1 hj => ?_⟩, fun π id k hp => ?_⟩
    · obtain ⟨y, hy, rfl⟩ := (hl2 i x hi).2 j a1 hj
      have hi' := (List.getElem?_eq_some_iff.1 hi).1
      have hs := spot (by omega)
      refine ⟨y, ?_, by simp [Rep]⟩
      rw [← hy]
      congr 1
      cases a
      simp only at hs
      subst hs
      simp only [Addr.add, hce, hsz]
      split <;> split <;> simp_all
    · simp only [Rep]
      refine ⟨some a, cap, by rw [hll], by omega, fun h0 => ⟨_, hp, ?_⟩⟩
      have hs := spot (by omega)
      cases a
      simp only at hs
      subst hs
      simp
theorem row_of_trod {U : Uni} (c : U.C) {t e : TypeId} {ks : List FK} {n fuel : Nat} {v : Value} {x : DataW H × List MemPlace} (ht : P.underlying t = some (.slice e)) (hfl : flat P n e = some ks) (hce : P.cellsOf e = ks.length) (hsz : ks.length = U.sz c) (hpos : 0 < ks.length)
    (hdec : ∀ cs, FKs ks cs → ∃ x, U.enc c x = cs.map .v) (h : DataW.trod enc P w base spare held fuel t [v] = some x) :
    ∃ (l : List (U.ty c)) (p : Place), l.length < 9223372036854775808 ∧ (∀ π, BlkOk π w p (.ro c l)) ∧ ∀ (π : Plc) (id k : Nat), π id k = some p → Rep π (.sl id k 0 l.length) v := by
  obtain ⟨l, p, a, _, b, d⟩ := row_of_trodQ c (fun _ => True) ht hfl hce hsz hpos (fun cs hc => by
    obtain ⟨x, hx⟩ := hdec cs hc
    exact ⟨x, hx, trivial⟩) h
  exact ⟨l, p, a, b, d⟩
end

def rosPlc (ps : List Place) : Plc := fun id k => if k = 0 then ps[id]? else none
theorem rosPlc_fresh (ps : List Place) : Fresh (rosPlc ps) ps.length := by
  intro id k h
  unfold rosPlc
  split
  · rw [List.getElem?_eq_none h]
  · rfl
def roH {U : Uni} (bs : List ((c : U.C) × List (U.ty c))) : Heap U := bs.map fun b => .one (.ro b.1 b.2)
theorem roH_at {U : Uni} {bs : List ((c : U.C) × List (U.ty c))} {id k : Nat} {b : AB1 U} (h : (roH bs).at id k = some b) : k = 0 ∧ ∃ c, bs[id]? = some c ∧ b = .ro c.1 c.2 := by
  unfold Heap.at roH at h
  rw [List.getElem?_map] at h
  cases hb : bs[id]? with
  | none => rw [hb] at h; cases h
  | some c =>
    rw [hb] at h
    simp only [Option.map_some] at h
    split at h
    · rename_i e; exact ⟨e, c, rfl, by simpa using h.symm⟩
    · cases h
theorem roH_conc {U : Uni} {w : World} {bs : List ((c : U.C) × List (U.ty c))} {ps : List Place} (hl : ps.length = bs.length) (h : ∀ (i : Nat) (b : (c : U.C) × List (U.ty c)) (p : Place), bs[i]? = some b → ps[i]? = some p → ∀ π, BlkOk (U := U) π w p (.ro b.1 b.2)) : Conc (rosPlc ps) (roH bs) w where
  ok := fun id k b hb => by
    obtain ⟨rfl, c, hc, rfl⟩ := roH_at hb
    have h1 := (List.getElem?_eq_some_iff.1 hc).1
    refine ⟨ps[id], ?_, h id c _ hc (List.getElem?_eq_getElem (by omega)) _⟩
    unfold rosPlc
    rw [if_pos rfl, List.getElem?_eq_getElem (by omega)]
  sep := fun id k b id' k' b' p p' hb _ _ ho => by
    obtain ⟨rfl, c, hc, rfl⟩ := roH_at hb
    cases ho

theorem trodAll_stays {H : Type} {enc : TypeId × Value → H} {P : Program} (hl : laidOutB P = true) {W W' : World} {sp' : Nat → Bool} : ∀ {ts : List TypeId} {vs : List Value} {ds : List (DataW H)} {ps : List MemPlace},
    (ts.all fun t => P.readableRec t && decide (t < P.types.size)) = true → DataW.TrodAll enc P W 0 (fun _ => true) true ts vs ds ps → (∀ p ∈ ps, W.sameAt W' p) → (∀ p ∈ ps, sp' p.block = true) → DataW.TrodAll enc P W' 0 sp' true ts vs ds ps
  | [], [], [], _, _, h, _, _ => h
  | _ :: _, _ :: _, _ :: _, _, ht, ⟨p, q, h1, h2, e⟩, hs, hp => by
    simp only [List.all_cons, Bool.and_eq_true, decide_eq_true_eq] at ht
    exact ⟨p, q, WideElems.Trod_stays hl ht.1.1 ht.1.2 h1 (fun x hx => hs x (by rw [e]; exact List.mem_append_left _ hx)) (fun x hx => hp x (by rw [e]; exact List.mem_append_left _ hx)),
      trodAll_stays hl ht.2 h2 (fun x hx => hs x (by rw [e]; exact List.mem_append_right _ hx)) (fun x hx => hp x (by rw [e]; exact List.mem_append_right _ hx)), e⟩

theorem law_lifted {C : Checked} {f : FuncId} {fn : Func} {s : ChangeSpec} {conds : List PathCond} (own : ownKnob C.prog.godebug = none) {os : Os} (started : os.Started) {H : Type} {enc : TypeId × Value → H} (noInit : C.prog.inits.idxOf? f = none) (hfn : C.prog.funcs[f]? = some fn)
    (witness : ∃ (w : World) (tape : Tape) (i : Input), w.os = os ∧ (w.forCall tape i).Shaped C.prog ∧ i.vars = [] ∧ Input.okWide C.prog (w.forCall tape i) .any w.heap.size f i ∧ s.pre6 enc C.prog fn conds false (w.forCall tape i).memory i.args ∧ ({} : Assume).holds C.prog (lone (Frame.enter C.prog f i.args .normal) [] (w.forCall tape i)))
    (hl : laidOutB C.prog = true) (hts : (fn.params.toList.all fun t => C.prog.readableRec t && decide (t < C.prog.types.size)) = true) {rt : TypeId} (hrt : fn.resultTypes = #[rt]) (hb : C.prog.underlying rt = some .bool)
    (hvars : s.vars = []) (hspec : ∀ ds : List (DataW H), ds.length = fn.params.size → (s.fn H ds).results = [.lit (.bool true)] ∧ (s.fn H ds).args = ds ∧ (s.fn H ds).vars = [])
    (walk : ∀ (W : World) (args : Array Value) (ds : List (DataW H)) (ps : List MemPlace), DataW.TrodAll enc C.prog W 0 (fun _ => true) true fn.params.toList args.toList ds ps → (∀ (j : Nat) t v, fn.params[j]? = some t → args[j]? = some v → ∃ base, Value.okWide C.prog W .any base t v) →
      Calls C.prog f args W fun e w' => e = .returned (.bool true) ∧ Keeps (fun _ => False) W w') :
    ReturnsInHanded {} C os f .any (s.pre6 enc C.prog fn conds false) (s.post enc C.prog fn false true false false) := by
  refine returnsInHanded_of_change (C := C) own started noInit hfn witness ?_
  intro W base args ds gs before hval hW hcnd _
  have hW' := hW
  obtain ⟨p, q, hA, hV, rfl, hfz, hnd⟩ := hW
  rw [hvars] at hV
  obtain ⟨rfl, rfl⟩ := trodVars_none hV
  simp only [List.append_nil] at hW'
  have hlen : ds.length = fn.params.size := by
    have : ∀ {ts : List TypeId} {vs : List Value} {ds : List (DataW H)} {ps : List MemPlace}, DataW.TrodAll enc C.prog W 0 (fun _ => true) true ts vs ds ps → ds.length = ts.length := by
      intro ts
      induction ts with
      | nil => intro vs ds ps h; obtain ⟨_, rfl, _⟩ := trodAll_nil h; rfl
      | cons t ts ih =>
        intro vs ds ps h
        obtain ⟨_, _, _, ds', _, _, _, rfl, _, _, h2⟩ := trodAll_cons h
        simp [ih h2]
    rw [this hA]; simp
  obtain ⟨s1, s2, s3⟩ := hspec (ds ++ []) (by simpa using hlen)
  refine (walk W args ds p hA fun j t v h1 h2 => ⟨base, hval j t v h1 h2⟩).mono fun e W' ⟨he, hg⟩ => ?_
  subst he
  refine ⟨_, rfl, post_of_keeps (pa := p) (pv := []) hW' (fun b sp hd => ?_) (fun sp hsp => ?_) (fun sp _ => ?_) (by simp) hg ?_⟩
  · rw [s1, hrt]
    exact trodAll_cons_mk (shut_bool hb _) trodAll_mk0
  · rw [s2, List.append_nil]
    have hlt := hW'.lt
    exact trodAll_stays hl hts hA (fun x hx => hg.below.same (by simpa using hlt x hx)) fun x hx => hsp x hx
  · rw [s3, hvars]; rfl
  · exact ok_one hrt rfl (okWide_bool_mk hb _)

theorem agg_of_cells {v : Value} {l : List Value} (h : v.cells.toList = l) (hl : l.length ≠ 1) : v = .agg l.toArray := by
  cases v with
  | agg cs => simp only [Value.cells] at h; rw [← h]
  | _ => simp only [Value.cells] at h; rw [← h] at hl; exact absurd rfl hl
theorem flat_cells {H : Type} {enc : TypeId × Value → H} {P : Program} {w : World} {base : Nat} {spare : Nat → Bool} {held : Bool} {t : TypeId} {v : Value} {d : DataW H} {ps : List MemPlace} {ks : List FK} (n : Nat) (hfl : flat P n t = some ks) (hce : P.cellsOf t = ks.length) (h : DataW.Trod enc P w base spare held t v d ps) : FKs ks v.cells.toList := by
  obtain ⟨fuel, h⟩ := h
  exact flat_ok n hfl hce h
theorem flat_agg {H : Type} {enc : TypeId × Value → H} {P : Program} {w : World} {base : Nat} {spare : Nat → Bool} {held : Bool} {t : TypeId} {v : Value} {d : DataW H} {ps : List MemPlace} {ks : List FK} (n : Nat) (hfl : flat P n t = some ks) (hce : P.cellsOf t = ks.length) (hne : ks.length ≠ 1) (h : DataW.Trod enc P w base spare held t v d ps) : ∃ l, FKs ks l ∧ v = .agg l.toArray := by
  have h1 := flat_cells n hfl hce h
  exact ⟨_, h1, agg_of_cells rfl (by rw [h1.length]; exact hne)⟩
end AE

namespace AE.Soil
open Go AE Go.Proofs Go.ChangeShapes Go.WideShapes Go.RowKit

theorem laidOut : laidOutB Try.prog = true := by kernel_rfl
theorem flatP : flat Try.prog 30 61 = some [.int .i64, .int .i64, .int .i64, .int .i64, .int .i64, .int .i64, .int .i64, .int .i64, .int .i64] := by kernel_rfl
theorem decP (cs : List Value) (h : FKs [.int .i64, .int .i64, .int .i64, .int .i64, .int .i64, .int .i64, .int .i64, .int .i64, .int .i64] cs) : ∃ x : PitT, CC.enc .pit x = cs.map .v := by
  obtain ⟨_, _, rfl, ⟨a, rfl, _⟩, _, _, rfl, ⟨b, rfl, _⟩, _, _, rfl, ⟨c, rfl, _⟩, _, _, rfl, ⟨d, rfl, _⟩, _, _, rfl, ⟨e, rfl, _⟩, _, _, rfl, ⟨f, rfl, _⟩, _, _, rfl, ⟨g, rfl, _⟩, _, _, rfl, ⟨i, rfl, _⟩, _, _, rfl, ⟨j, rfl, _⟩, h⟩ := h
  cases h
  exact ⟨(a, (b, c), (d, e), (f, g), (i, j)), rfl⟩
theorem in_u8 {n : Int} (h : (Lit.int .u8 n).wf = true) : 0 ≤ n ∧ n ≤ 255 := by
  simp only [Lit.wf, Bool.and_eq_true, decide_eq_true_eq] at h
  have h1 : IntKind.u8.min = 0 := by decide
  have h2 : IntKind.u8.max = 255 := by decide
  omega
def bigG (g : GroundT) : Prop := g.pits.length < 9223372036854775808

section
variable {H : Type} {enc : TypeId × Value → H} {w : World} {d : DataW H} {ps : List MemPlace} {v : Value}
end
end AE.Soil

namespace AE.Team
open Go AE Go.Proofs AE.Soil Go.ChangeShapes Go.WideShapes Go.RowKit

theorem flatS : flat Try.prog 30 55 = some [.int .i64, .int .i64, .int .i64] := by kernel_rfl
theorem flatT : flat Try.prog 30 28 = some [.int .i64, .int .i64, .int .i64, .int .i64, .int .i64, .int .i64, .int .i64] := by kernel_rfl
theorem decS (cs : List Value) (h : FKs [.int .i64, .int .i64, .int .i64] cs) : ∃ x : StepT, CC.enc .tstep x = cs.map .v := by
  obtain ⟨_, _, rfl, ⟨a, rfl, _⟩, _, _, rfl, ⟨b, rfl, _⟩, _, _, rfl, ⟨c, rfl, _⟩, h⟩ := h
  cases h
  exact ⟨(a, b, c), rfl⟩
section
variable {H : Type} {enc : TypeId × Value → H} {w : World} {d : DataW H} {ps : List MemPlace} {v : Value}
set_option maxRecDepth 100000 in
theorem open_teamA (h : DataW.Trod enc Try.prog w 0 (fun _ => true) true 28 v d ps) : ∃ x : TeamT, ∀ π : Plc, Rep π (vTeam x) v := by
  obtain ⟨l, hk, rfl⟩ := flat_agg 30 flatT (by kernel_rfl) (by decide) h
  obtain ⟨_, _, rfl, ⟨a, rfl, _⟩, _, _, rfl, ⟨b, rfl, _⟩, _, _, rfl, ⟨c, rfl, _⟩, _, _, rfl, ⟨d, rfl, _⟩, _, _, rfl, ⟨e, rfl, _⟩, _, _, rfl, ⟨f, rfl, _⟩, _, _, rfl, ⟨g, rfl, _⟩, hz⟩ := hk
  cases hz
  refine ⟨((a, b), (c, d), (e, f), g), fun π => ?_⟩
  simp only [vTeam, Rep]
  exact ⟨_, rfl, RepL.cons (by simp [Rep]) (RepL.cons (by simp [Rep]) (RepL.cons (by simp [Rep]) (RepL.cons (by simp [Rep]) (RepL.cons (by simp [Rep]) (RepL.cons (by simp [Rep]) (RepL.cons (by simp [Rep]) (RepL.nil π)))))))⟩
set_option maxRecDepth 100000 in
theorem ground_cells {m : Nat} {l : List Value} {y : DataW H × List MemPlace} (h : DataW.trod enc Try.prog w 0 (fun _ => true) true m 32 l = some y) :
    ∃ (x : GroundT) (p : Place) (s : Value), bigG x ∧ (∀ π, BlkOk π w p (.ro (U := UU) .pit x.pits)) ∧ l = [.int .i64 x.long, .int .i64 x.rise, .int .i64 x.change, s] ∧ ∀ (π : Plc) (id : Nat), π id 0 = some p → Rep π (.sl id 0 0 x.pits.length) s := by
  obtain ⟨xs, m, _, _, hl, hlen, hf⟩ := DataW.trod_struct Try.underlying32 h
  have hc : Try.prog.cellsOf 32 = 4 := by kernel_rfl
  have c3 : Try.prog.cellsOf 3 = 1 := by kernel_rfl
  have c22 : Try.prog.cellsOf 30 = 1 := by kernel_rfl
  have fl3 : flat Try.prog 30 3 = some [.int .i64] := by kernel_rfl
  rw [hc] at hl
  have hx : ∀ i, i < 4 → ∃ y, xs[i]? = some y := fun i hi => ⟨_, List.getElem?_eq_getElem (by have : xs.length = 4 := hlen; omega)⟩
  match l, hl with
  | [a, b, c, e], _ =>
  obtain ⟨y0, e0⟩ := hx 0 (by omega)
  obtain ⟨y1, e1⟩ := hx 1 (by omega)
  obtain ⟨y2, e2⟩ := hx 2 (by omega)
  obtain ⟨y3, e3⟩ := hx 3 (by omega)
  have f0 : DataW.trod enc Try.prog w 0 (fun _ => true) true m 3 (([a, b, c, e].drop 0).take (Try.prog.cellsOf 3)) = xs[0]? := hf 0 _ rfl
  have f1 : DataW.trod enc Try.prog w 0 (fun _ => true) true m 3 (([a, b, c, e].drop 1).take (Try.prog.cellsOf 3)) = xs[1]? := hf 1 _ rfl
  have f2 : DataW.trod enc Try.prog w 0 (fun _ => true) true m 3 (([a, b, c, e].drop 2).take (Try.prog.cellsOf 3)) = xs[2]? := hf 2 _ rfl
  have f3 : DataW.trod enc Try.prog w 0 (fun _ => true) true m 30 (([a, b, c, e].drop 3).take (Try.prog.cellsOf 30)) = xs[3]? := hf 3 _ rfl
  rw [e0, c3] at f0
  rw [e1, c3] at f1
  rw [e2, c3] at f2
  rw [e3, c22] at f3
  obtain ⟨_, _, h0, ⟨n0, rfl, w0⟩, r0⟩ := flat_ok 30 fl3 c3 f0
  obtain ⟨_, _, h1, ⟨n1, rfl, w1⟩, r1⟩ := flat_ok 30 fl3 c3 f1
  obtain ⟨_, _, h2, ⟨n2, rfl, w2⟩, r2⟩ := flat_ok 30 fl3 c3 f2
  have h0' : a = .int .i64 n0 := (List.cons.inj h0).1
  have h1' : b = .int .i64 n1 := (List.cons.inj h1).1
  have h2' : c = .int .i64 n2 := (List.cons.inj h2).1
  obtain ⟨cs, p, hcs, hp, hpr⟩ := row_of_trod (U := UU) CC.pit Try.underlying30 flatP (by kernel_rfl) rfl (by decide) AE.Soil.decP f3
  subst h0' h1' h2'
  exact ⟨⟨n0, n1, n2, cs⟩, p, e, hcs, hp, rfl, fun π id h3 => hpr π id 0 h3⟩
set_option maxRecDepth 100000 in
theorem open_plotA (h : DataW.Trod enc Try.prog w 0 (fun _ => true) true 35 v d ps) :
    ∃ (x : PlotT) (p q : Place), bigP x ∧ (∀ π, BlkOk π w p (.ro (U := UU) .pit x.g.pits)) ∧ (∀ π, BlkOk π w q (.ro (U := UU) .tstep x.steps)) ∧ ∀ (π : Plc) (a b : Nat), π a 0 = some p → π b 0 = some q → Rep π (vPlot x a b) v := by
  obtain ⟨fuel, h⟩ := h
  obtain ⟨xs, m, _, _, hl, hlen, hf⟩ := DataW.trod_struct Try.underlying35 h
  have hc : Try.prog.cellsOf 35 = 5 := by kernel_rfl
  have c4 : Try.prog.cellsOf 32 = 4 := by kernel_rfl
  have c1 : Try.prog.cellsOf 33 = 1 := by kernel_rfl
  rw [hc] at hl
  have hv := agg_of_cells (v := v) rfl (by omega)
  obtain ⟨l, hl2⟩ : ∃ l, v.cells.toList = l := ⟨_, rfl⟩
  rw [hl2] at hl hv hf
  subst hv
  have hx : ∀ i, i < 2 → ∃ y, xs[i]? = some y := fun i hi => ⟨_, List.getElem?_eq_getElem (by have : xs.length = 2 := hlen; omega)⟩
  match l, hl with
  | [a, b, c, e, s], _ =>
  obtain ⟨y0, e0⟩ := hx 0 (by omega)
  obtain ⟨y1, e1⟩ := hx 1 (by omega)
  have f0 : DataW.trod enc Try.prog w 0 (fun _ => true) true m 32 (([a, b, c, e, s].drop 0).take (Try.prog.cellsOf 32)) = xs[0]? := hf 0 _ rfl
  have f1 : DataW.trod enc Try.prog w 0 (fun _ => true) true m 33 (([a, b, c, e, s].drop 4).take (Try.prog.cellsOf 33)) = xs[1]? := hf 1 _ rfl
  rw [e0, c4] at f0
  rw [e1, c1] at f1
  obtain ⟨g, p, sv, hg, hp, hcells, hr⟩ := ground_cells f0
  obtain ⟨cs, q, hcs, hq, hqr⟩ := row_of_trod (U := UU) CC.tstep Try.underlying33 flatS (by kernel_rfl) rfl (by decide) decS f1
  have hcells' : [a, b, c, e] = [.int .i64 g.long, .int .i64 g.rise, .int .i64 g.change, sv] := hcells
  simp only [List.cons.injEq, and_true] at hcells'
  obtain ⟨rfl, rfl, rfl, rfl⟩ := hcells'
  refine ⟨⟨g, cs⟩, p, q, ⟨hg, hcs⟩, hp, hq, fun π i j h1 h2 => ?_⟩
  simp only [vPlot, cPlot, Rep]
  exact ⟨_, rfl, RepL.cons (by simp [Rep]) (RepL.cons (by simp [Rep]) (RepL.cons (by simp [Rep]) (RepL.cons (hr π i h1) (RepL.cons (hqr π j 0 h2) (RepL.nil π)))))⟩
end
theorem walk_plot {f : FuncId} {W : World} {args : Array Value} {x : PlotT} {p q : Place} {al : List AV} (h : FunOk Try.prog f al (hPlot x) (.val ⟨.b true, [], [], []⟩)) (hp : ∀ π, BlkOk π W p (.ro (U := UU) .pit x.g.pits)) (hq : ∀ π, BlkOk π W q (.ro (U := UU) .tstep x.steps))
    (hr : RepL (rosPlc [p, q]) al args.toList) : Calls Try.prog f args W fun e w' => e = .returned (.bool true) ∧ Keeps (fun _ => False) W w' := by
  have hc : Conc (rosPlc [p, q]) (hPlot x) W := roH_conc (U := UU) (bs := [⟨CC.pit, x.g.pits⟩, ⟨CC.tstep, x.steps⟩]) rfl fun i b p' hb hp' π => by
    match i with
    | 0 => cases hb; cases hp'; exact hp π
    | 1 => cases hb; cases hp'; exact hq π
    | i + 2 => cases hb
  have hF := h (rosPlc [p, q]) W args.toList (rosPlc_fresh [p, q]) hc hr
  refine hF.mono fun e w' hh => ?_
  obtain ⟨v, πn, rfl, hpo⟩ := hh
  have hb := rep_v hpo.rep
  subst hb
  refine ⟨rfl, hpo.keeps.weaken fun n _ hn => ?_⟩
  obtain ⟨id, k, p, b0, hu, _⟩ := hn
  rcases hu with ⟨b, hb⟩ | hb <;> cases hb
end AE.Team

namespace AE.Team
open Go AE Go.Proofs AE.Soil Go.ChangeShapes Go.WideShapes Go.RowKit

section
variable {H : Type} {enc : TypeId × Value → H} {w : World} {d : DataW H} {ps : List MemPlace} {v : Value}
theorem repL_map (π : Plc) : ∀ l : List Value, RepL π (l.map fun v => (AV.v v)) l
  | [] => RepL.nil π
  | v :: l => RepL.cons (by simp [Rep]) (repL_map π l)
theorem open_pitA (h : DataW.Trod enc Try.prog w 0 (fun _ => true) true 61 v d ps) : ∃ x : PitT, ∀ π : Plc, Rep π (vPit x) v := by
  obtain ⟨l, hk, rfl⟩ := flat_agg 30 flatP (by kernel_rfl) (by decide) h
  obtain ⟨x, hx⟩ := AE.Soil.decP _ hk
  refine ⟨x, fun π => ?_⟩
  have hx' : CC.enc .pit x = l.map fun v => (AV.v v) := hx
  simp only [vPit, Rep]
  rw [hx']
  exact ⟨_, rfl, repL_map π _⟩
theorem trodAll_five {P : Program} {base : Nat} {spare : Nat → Bool} {held : Bool} {t t' t'' t3 t4 : TypeId} {args : Array Value} {ds : List (DataW H)} {ps : List MemPlace} (h : DataW.TrodAll enc P w base spare held [t, t', t'', t3, t4] args.toList ds ps) :
    ∃ v v' v'' v3 v4 d d' d'' d3 d4 p p' p'' p3 p4, args = #[v, v', v'', v3, v4] ∧ ds = [d, d', d'', d3, d4] ∧ ps = p ++ p' ++ p'' ++ p3 ++ p4 ∧ DataW.Trod enc P w base spare held t v d p ∧ DataW.Trod enc P w base spare held t' v' d' p' ∧ DataW.Trod enc P w base spare held t'' v'' d'' p'' ∧ DataW.Trod enc P w base spare held t3 v3 d3 p3 ∧ DataW.Trod enc P w base spare held t4 v4 d4 p4 := by
  obtain ⟨v, vs, d, ds', p, q, hargs, rfl, rfl, hd, hrest⟩ := trodAll_cons h
  obtain ⟨v', vs', d', ds'', p', q', rfl, rfl, rfl, hd', hrest'⟩ := trodAll_cons hrest
  obtain ⟨v'', vs'', d'', ds''', p'', q'', rfl, rfl, rfl, hd'', hrest''⟩ := trodAll_cons hrest'
  obtain ⟨v3, vs3, d3, ds3, p3, q3, rfl, rfl, rfl, hd3, hrest3⟩ := trodAll_cons hrest''
  obtain ⟨v4, vs4, d4, ds4, p4, q4, rfl, rfl, rfl, hd4, hrest4⟩ := trodAll_cons hrest3
  obtain ⟨rfl, rfl, rfl⟩ := trodAll_nil hrest4
  exact ⟨v, v', v'', v3, v4, d, d', d'', d3, d4, p, p', p'', p3, p4, by cases args; simp_all, rfl, by simp, hd, hd', hd'', hd3, hd4⟩
end
end AE.Team
