/- An own symbolic executor for the model's code, and what the functions beneath the law compute, joined out of: TmRD, TmRE, TmZ, PrR, AeR, SsR, TmAr. No condition. -/
import Derived.Test.YtlhpkhpgjccbpaaM5
import Derived.Test.YtlhpkhpgjccbpaaRows
import Derived.ProofKit
import Derived.OpenShut
import Derived.Below
import Derived.Carry
import Derived.ChangeArms

set_option linter.unusedSimpArgs false
set_option linter.unusedVariables false
namespace AE.Team
open Go AE Go.Proofs AE.Soil

section
variable {l : List StepT} {w : List Span} {h : HorT}
/-- The minutes before a furrow. -/
def minM (l : List StepT) (w : List Span) (h : HorT) (i : Nat) : Int := (tryM l w h i (goM l w h i).2).1
theorem go_get : ∀ (n i : Nat), i < n → (goM l w h n).1.getD i 0 = minM l w h i
  | 0, i, hi => absurd hi (Nat.not_lt_zero i)
  | n + 1, i, hi => by
    show ((goM l w h n).1 ++ [minM l w h n]).getD i 0 = _
    have hl := go_len l w h n
    by_cases h1 : i < n
    · rw [getD_app_left _ (by omega)]; exact go_get n i h1
    · have e : i = (goM l w h n).1.length + 0 := by omega
      rw [e, getD_app_at, hl]; rfl
structure FOk (l : List StepT) (w : List Span) (h : HorT) : Prop where
  hor : HorOk h
  s0 : 0 ≤ h.1
  s1 : h.1 ≤ h.2.2.2.1
  st : StepsOk l w
  z : ∀ i, i < l.length → (l.getD i (0, 0, 0)).2.2 = 0
theorem FOk.no (f : FOk l w h) {i : Nat} (hi : i < l.length) : (stpM l i).1 = false := by
  unfold stpM
  exact decide_eq_false (by rw [f.z i hi]; decide)
theorem suit_eq (f : FOk l w h) {i : Nat} (hi : i < l.length) (now m : Int) : suitM (.inr (trialM l w h i now)) m = decide (furrowM h (w.getD i (0, 0)) (restM h m now) ≥ 0) := by
  show decide (stepM (trialM l w h i now) (restM h m now) ≥ 0) = _
  rw [step_furrow (f.no hi)]
theorem go_suc (f : FOk l w h) {i : Nat} (hi : i < l.length) : (goM l w h (i + 1)).2 = furrowM h (w.getD i (0, 0)) (restM h (minM l w h i) (goM l w h i).2) := by
  show stepM (trialM l w h i (goM l w h i).2) (restM h (minM l w h i) (goM l w h i).2) = _
  rw [step_furrow (f.no hi)]
theorem min_ok (f : FOk l w h) {i : Nat} (hi : i < l.length) (hok : okAtM l w h i = true) : 0 ≤ minM l w h i ∧ minM l w h i ≤ h.2.2.2.1 ∧ 0 ≤ (goM l w h (i + 1)).2 ∧ ∀ j, 0 ≤ j → j < minM l w h i → furrowM h (w.getD i (0, 0)) (restM h j (goM l w h i).2) < 0 := by
  obtain ⟨a1, a2, a3, a4⟩ := first_true (p := fun m => suitM (.inr (trialM l w h i (goM l w h i).2)) m) (to := h.2.2.2.1) hok
  refine ⟨a1, a2, ?_, fun j h0 h1 => ?_⟩
  · rw [go_suc f hi]
    have a3' : suitM (.inr (trialM l w h i (goM l w h i).2)) (minM l w h i) = true := a3
    rw [suit_eq f hi] at a3'
    exact of_decide_eq_true a3'
  · have := a4 j h0 h1
    have this' : suitM (.inr (trialM l w h i (goM l w h i).2)) j = false := this
    rw [suit_eq f hi] at this'
    have := of_decide_eq_false this'
    omega
/-- Behind each furrow: not below nothing, not above all. -/
theorem go_bound (f : FOk l w h) : ∀ i, i ≤ l.length → (∀ j, j < i → okAtM l w h j = true) → 0 ≤ (goM l w h i).2 ∧ (goM l w h i).2 ≤ h.2.2.2.1
  | 0, _, _ => ⟨f.s0, f.s1⟩
  | i + 1, hi, hok => by
    have ih := go_bound f i (by omega) fun j hj => hok j (by omega)
    have hm := min_ok f (by omega) (hok i (by omega))
    refine ⟨hm.2.2.1, ?_⟩
    rw [go_suc f (by omega)]
    have hf1 := f.hor.f1
    have hf0 := f.hor.f0
    have hmb := mul_bound f.hor.g0 f.hor.g1 hm.1 (show minM l w h i ≤ 10000 by omega)
    have er := rest_eq f.hor hm.1 (show minM l w h i ≤ 10000 by omega) (show -1000000000 ≤ (goM l w h i).2 by omega) (by omega)
    rw [er, furrow_eq f.hor (f.st.work i (by omega)) (by omega) (by omega)]
    have := cost_bound f.hor (f.st.work i (by omega))
    omega
theorem rest_zero (f : FOk l w h) {now : Int} (h0 : 0 ≤ now) (h1 : now ≤ h.2.2.2.1) : restM h 0 now = now := by
  have hf1 := f.hor.f1
  rw [rest_eq f.hor (Int.le_refl _) (by decide) (by omega) (by omega)]
  omega
/-- The rests that are told bring the team where Rests sees it. -/
theorem sim_go (f : FOk l w h) {r : List Int} {n : Nat} (hn : n ≤ l.length) (hok : ∀ j, j < n → okAtM l w h j = true) (hr : ∀ j, j < n → r.getD j 0 = minM l w h j) : ∀ i, i ≤ n → simM w h r i = (goM l w h i).2
  | 0, _ => rfl
  | i + 1, hi => by
    have ih := sim_go f hn hok hr i (by omega)
    have hb := go_bound f i (by omega) fun j hj => hok j (by omega)
    have hm := min_ok f (show i < l.length by omega) (hok i (by omega))
    rw [go_suc f (by omega)]
    show furrowM h (w.getD i (0, 0)) (if r.getD i 0 > 0 then restM h (r.getD i 0) (simM w h r i) else simM w h r i) = _
    rw [ih, hr i (by omega)]
    by_cases hp : minM l w h i > 0
    · rw [if_pos hp]
    · rw [if_neg hp, show minM l w h i = 0 by omega, rest_zero f hb.1 hb.2]
/-- A minute less, and the furrow is too much. -/
theorem sim_less (f : FOk l w h) {r : List Int} {i : Nat} (hi : i < l.length) (hok : ∀ j, j < i + 1 → okAtM l w h j = true) (hr : ∀ j, j < i → r.getD j 0 = minM l w h j) (hk : 0 < minM l w h i) (hri : r.getD i 0 = minM l w h i - 1) : simM w h r (i + 1) < 0 := by
  have e := sim_go f (n := i) (by omega) (fun j hj => hok j (by omega)) hr i (Nat.le_refl _)
  have hb := go_bound f i (by omega) fun j hj => hok j (by omega)
  have hm := min_ok f hi (hok i (by omega))
  show furrowM h (w.getD i (0, 0)) (if r.getD i 0 > 0 then restM h (r.getD i 0) (simM w h r i) else simM w h r i) < 0
  rw [e, hri]
  have := hm.2.2.2 (minM l w h i - 1) (by omega) (by omega)
  by_cases hp : minM l w h i - 1 > 0
  · rw [if_pos hp]; exact this
  · rw [if_neg hp]
    rw [show minM l w h i - 1 = 0 by omega, rest_zero f hb.1 hb.2] at this
    exact this
/-- Who is safe need not rest. -/
theorem go_safe (f : FOk l w h) (hs : (failedM l w h).2 = false) : ∀ i, i ≤ l.length → (goM l w h i).2 = nowM l w h i ∧ ∀ j, j < i → okAtM l w h j = true ∧ minM l w h j = 0
  | 0, _ => ⟨rfl, fun j hj => absurd hj (Nat.not_lt_zero j)⟩
  | i + 1, hi => by
    obtain ⟨e, hj⟩ := go_safe f hs i (by omega)
    have hb := go_bound f i (by omega) fun j h => (hj j h).1
    have hnow : 0 ≤ nowM l w h (i + 1) := by
      by_cases h0 : 0 ≤ nowM l w h (i + 1)
      · exact h0
      · have : (failedM l w h).2 = true := (fail_iff _ _ _).2 ⟨i, by omega, by omega⟩
        rw [hs] at this; cases this
    have en : nowM l w h (i + 1) = furrowM h (w.getD i (0, 0)) (nowM l w h i) := now_furrow w h (f.no (by omega))
    have h0 : suitM (.inr (trialM l w h i (goM l w h i).2)) 0 = true := by
      rw [suit_eq f (by omega), rest_zero f hb.1 hb.2, e, ← en]
      exact decide_eq_true hnow
    have hok : okAtM l w h i = true := by
      cases hh : okAtM l w h i with
      | true => rfl
      | false =>
        have := (first_false (p := fun m => suitM (.inr (trialM l w h i (goM l w h i).2)) m) (to := h.2.2.2.1) hh).2 0 (Int.le_refl _) f.hor.f0
        have this' : suitM (.inr (trialM l w h i (goM l w h i).2)) 0 = false := this
        rw [h0] at this'; cases this'
    have hmz : minM l w h i = 0 := by
      obtain ⟨a1, a2, a3, a4⟩ := first_true (p := fun m => suitM (.inr (trialM l w h i (goM l w h i).2)) m) (to := h.2.2.2.1) hok
      have a1' : 0 ≤ minM l w h i := a1
      by_cases hp : 0 < minM l w h i
      · have := a4 0 (Int.le_refl _) hp
        have this' : suitM (.inr (trialM l w h i (goM l w h i).2)) 0 = false := this
        rw [h0] at this'; cases this'
      · omega
    refine ⟨?_, fun j hj2 => ?_⟩
    · rw [go_suc f (by omega), hmz, rest_zero f hb.1 hb.2, e, ← en]
    · rcases Nat.lt_or_eq_of_le (Nat.le_of_lt_succ hj2) with h2 | rfl
      · exact hj j h2
      · exact ⟨hok, hmz⟩
/-- Who need not rest is safe. -/
theorem safe_go (f : FOk l w h) (hok : ∀ j, j < l.length → okAtM l w h j = true ∧ minM l w h j = 0) : (failedM l w h).2 = false := by
  have key : ∀ i, i ≤ l.length → (goM l w h i).2 = nowM l w h i := by
    intro i
    induction i with
    | zero => intro _; rfl
    | succ i ih =>
      intro hi
      have hb := go_bound f i (by omega) fun j hj => (hok j (by omega)).1
      rw [go_suc f (by omega), (hok i (by omega)).2, rest_zero f hb.1 hb.2, ih (by omega)]
      exact (now_furrow w h (f.no (by omega))).symm
  cases hh : (failedM l w h).2 with
  | false => rfl
  | true =>
    obtain ⟨i, hi, hlt⟩ := (fail_iff _ _ _).1 hh
    have := (go_bound f (i + 1) (by omega) fun j hj => (hok j (by omega)).1).1
    rw [key (i + 1) (by omega)] at this
    omega
end
end AE.Team

namespace AE.Team
open Go AE Go.Proofs AE.Soil

section
variable {t : TeamT} {p : PlotT}
theorem all_furrows (h : (!p.steps.any fun s => sfM none s) = true) : ∀ i, i < p.steps.length → (p.steps.getD i (0, 0, 0)).2.2 = 0 := by
  intro i hi
  have h' : (p.steps.any fun s => sfM none s) = false := by simpa using h
  rw [List.any_eq_false] at h'
  have := h' (p.steps.getD i (0, 0, 0)) (by rw [List.getD_eq_getElem?_getD, List.getElem?_eq_getElem hi]; exact List.getElem_mem hi)
  simpa [sfM] using this
theorem fok_of (ho : (openErrM t p true == 0) = true) (h : (!p.steps.any fun s => sfM none s) = true) : FOk p.steps (worksM p) (worstM t) := by
  obtain ⟨a1, a2, a3⟩ := hor_ok (open_team ho) true
  exact ⟨a1, a2, a3, works_ok (open_plot ho) (open_hard ho), all_furrows h⟩
theorem comes_known {q : PlotT} (h : ((comesM t q).2 == 0) = true) : (openErrM t q true == 0) = true := by
  cases e : openErrM t q true == 0 with
  | true => rfl
  | false => rw [comes_err e] at h; rw [show (openErrM t q true == 0) = true from h] at e; cases e
theorem always_known {q : PlotT} (h : alwaysM t q = true) : (openErrM t q true == 0) = true := by
  unfold alwaysM at h
  rw [Bool.and_eq_true] at h
  exact comes_known h.1
/-- A rest too short before a furrow: it is not safe. -/
theorem rested_no (ho : (openErrM t p true == 0) = true) (h : (!p.steps.any fun s => sfM none s) = true) {r : List Int} {i : Nat} (hi : i < p.steps.length) (hok : ∀ j, j < i + 1 → okAtM p.steps (worksM p) (worstM t) j = true) (hr : ∀ j, j < i → r.getD j 0 = minM p.steps (worksM p) (worstM t) j) (hk : 0 < minM p.steps (worksM p) (worstM t) i) (hri : r.getD i 0 = minM p.steps (worksM p) (worstM t) i - 1) : (restedM t p r).1 = false := by
  have f := fok_of ho h
  have hn := sim_less f hi hok hr hk hri
  have hf := sim_fail (g := p.g) (h := worstM t) (r := r) f.z hi hn
  unfold restedM
  split
  · rfl
  · show alwaysM t (withRestsM p r) = false
    cases e : alwaysM t (withRestsM p r) with
    | false => rfl
    | true =>
      have ho2 := always_known e
      rw [always_eq ho2] at e
      have e' : (!(failedM (insM r p.steps p.steps.length) (wI p.g (insM r p.steps p.steps.length)) (worstM t)).2) = true := e
      rw [hf] at e'; cases e'
/-- With the rests that are told a team is safe. -/
theorem rested_yes (ho : (openErrM t p true == 0) = true) (h : (!p.steps.any fun s => sfM none s) = true) {r : List Int} (hok : ∀ j, j < p.steps.length → okAtM p.steps (worksM p) (worstM t) j = true) (hr : ∀ j, j < p.steps.length → r.getD j 0 = minM p.steps (worksM p) (worstM t) j) (hk : (restedM t p r).2 = true) : (restedM t p r).1 = true := by
  have f := fok_of ho h
  have hf1 := f.hor.f1
  unfold restedM at hk ⊢
  split at hk
  · cases hk
  · rename_i htoo
    rw [if_neg htoo]
    have ho2 := comes_known (t := t) (q := withRestsM p r) hk
    show alwaysM t (withRestsM p r) = true
    rw [always_eq ho2]
    show (!(failedM (insM r p.steps p.steps.length) (wI p.g (insM r p.steps p.steps.length)) (worstM t)).2) = true
    cases e : (failedM (insM r p.steps p.steps.length) (wI p.g (insM r p.steps p.steps.length)) (worstM t)).2 with
    | false => rfl
    | true =>
      obtain ⟨j, hj, hlt⟩ := (fail_iff _ _ _).1 e
      have hs1 := f.s1
      have := sim_safe (g := p.g) (st := p.steps) (r := r) f.hor f.z (fun i hi => by rw [hr i hi]; have := (min_ok f hi (hok i hi)).2.1; omega) f.s0 (by omega) (fun i hi => by
        have e1 := sim_go f (Nat.le_refl _) hok hr (i + 1) hi
        have hb := go_bound f (i + 1) hi fun j hj => hok j (by omega)
        have e2 : simM (wI p.g p.steps) (worstM t) r (i + 1) = (goM p.steps (worksM p) (worstM t) (i + 1)).2 := e1
        rw [e2]; omega) p.steps.length (Nat.le_refl _) j hj
      omega
/-- A sum of minutes. -/
def totM (l : List Int) : Nat → Int
  | 0 => 0
  | i + 1 => W (totM l i + l.getD i 0)
theorem tot_bound {l : List Int} {n : Nat} (hn : n ≤ 1000) (hl : ∀ i, i < n → 0 ≤ l.getD i 0 ∧ l.getD i 0 ≤ 10000) : ∀ i, i ≤ n → 0 ≤ totM l i ∧ totM l i ≤ 10000 * i ∧ ((totM l i == 0) = true ↔ ∀ j, j < i → l.getD j 0 = 0)
  | 0, _ => ⟨Int.le_refl _, by show (0 : Int) ≤ 10000 * ((0 : Nat) : Int); omega, fun _ j hj => absurd hj (Nat.not_lt_zero j), fun _ => rfl⟩
  | i + 1, hi => by
    obtain ⟨h1, h2, h3⟩ := tot_bound hn hl i (by omega)
    have hb := hl i (by omega)
    have e : totM l (i + 1) = totM l i + l.getD i 0 := wrap_id (by omega) (by omega)
    rw [e]
    refine ⟨by omega, by omega, fun hz j hj => ?_, fun hz => ?_⟩
    · have hz' : totM l i + l.getD i 0 = 0 := by simpa using hz
      rcases Nat.lt_or_eq_of_le (Nat.le_of_lt_succ hj) with h4 | rfl
      · exact h3.1 (by rw [show totM l i = 0 by omega]; rfl) j h4
      · omega
    · have := h3.2 fun j hj => hz j (by omega)
      have h0 : totM l i = 0 := by simpa using this
      rw [h0, hz i (by omega)]; rfl
/-- What Rests tells. -/
theorem rests_law (ho : (openErrM t p true == 0) = true) (h : (!p.steps.any fun s => sfM none s) = true) :
    (restsM t p = ([], 11) ∧ ((comesM t p).1 == 2) = false) ∨
    (restsM t p = ((goM p.steps (worksM p) (worstM t) p.steps.length).1, 0) ∧ (∀ j, j < p.steps.length → okAtM p.steps (worksM p) (worstM t) j = true) ∧
      (totM (goM p.steps (worksM p) (worstM t) p.steps.length).1 p.steps.length == 0) = ((comesM t p).1 == 2)) := by
  have f := fok_of ho h
  have hf1 := f.hor.f1
  have hl := f.st.len
  rw [ans_two ho]
  by_cases hall : ∀ j, j < p.steps.length → okAtM p.steps (worksM p) (worstM t) j = true
  · right
    refine ⟨rests_ok' h ho hall, hall, ?_⟩
    have hg : ∀ i, i < p.steps.length → (goM p.steps (worksM p) (worstM t) p.steps.length).1.getD i 0 = minM p.steps (worksM p) (worstM t) i := fun i hi => go_get _ i hi
    have tb := (tot_bound (l := (goM p.steps (worksM p) (worstM t) p.steps.length).1) hl (fun i hi => by
      rw [hg i hi]
      have := min_ok f hi (hall i hi)
      omega) p.steps.length (Nat.le_refl _)).2.2
    show _ = !(failedM p.steps (worksM p) (worstM t)).2
    cases hs : (failedM p.steps (worksM p) (worstM t)).2 with
    | false =>
      have := (go_safe f hs p.steps.length (Nat.le_refl _)).2
      rw [tb.2 fun j hj => by rw [hg j hj]; exact (this j hj).2]; rfl
    | true =>
      cases hz : totM (goM p.steps (worksM p) (worstM t) p.steps.length).1 p.steps.length == 0 with
      | false => rfl
      | true =>
        have hz' := tb.1 hz
        have := safe_go f fun j hj => ⟨hall j hj, by rw [← hg j hj]; exact hz' j hj⟩
        rw [hs] at this; cases this
  · left
    obtain ⟨j, hj⟩ := Classical.not_forall.1 hall
    obtain ⟨hjl, hjn⟩ := Classical.not_imp.1 hj
    have hjf : okAtM p.steps (worksM p) (worstM t) j = false := by simpa using hjn
    refine ⟨rests_bad h ho hjl hjf, ?_⟩
    show (!(failedM p.steps (worksM p) (worstM t)).2) = false
    cases hs : (failedM p.steps (worksM p) (worstM t)).2 with
    | true => rfl
    | false =>
      have := ((go_safe f hs p.steps.length (Nat.le_refl _)).2 j hjl).1
      rw [hjf] at this; cases this
end
end AE.Team

namespace AE.Team
open Go AE Go.Proofs AE.Soil

def rsFr (t : TeamT) (p : PlotT) : Fr := [(2, .ptr 2 0 0 0), (3, .ptr 3 0 0 0), (4, .b false), (5, .i (comesM t p).1), (6, .i (comesM t p).2), (7, .i (leastM t p).1), (8, .i (leastM t p).2), (9, .fn (.func 22) [] [.ptr 2 0 0 0, .ptr 3 0 0 0])]
def rsHc (t : TeamT) (p : PlotT) : Heap UU := hPlot p ++ [.one (.cells (cTeam t) 28), .one (.cells (cPlot p 0 1) 35)]
def rsL1 (t : TeamT) (p : PlotT) : LSpec UU where
  T := { i : Nat // i ≤ p.steps.length ∧ ∀ j, j < i → sfM none (p.steps.getD j (0, 0, 0)) = false }
  fr := fun i => rsFr t p ++ [(144, .sl 1 0 0 p.steps.length), (145, .i p.steps.length), (146, .i i.1)]
  H := fun _ => rsHc t p
  mu := fun i => p.steps.length - i.1
def rsL2 (t : TeamT) (p : PlotT) : LSpec UU where
  T := { i : Nat // i ≤ (restsM t p).1.length ∧ ∀ j, j < i → 0 ≤ (restsM t p).1.getD j 0 }
  fr := fun i => rsFr t p ++ [(14, .gs 4 0), (16, .fn (.func 25) [] [.ptr 3 0 0 0, .ptr 2 0 0 0]), (17, .i (totM (restsM t p).1 i.1)), (204, .gs 4 0), (205, .i (restsM t p).1.length), (206, .i i.1)]
  H := fun _ => rsHc t p ++ [.one (.row .int (restsM t p).1 3)]
  mu := fun i => (restsM t p).1.length - i.1
def rsL3 (t : TeamT) (p : PlotT) : LSpec UU where
  T := { i : Nat // i ≤ (restsM t p).1.length }
  fr := fun i => rsFr t p ++ [(14, .gs 4 0), (16, .fn (.func 25) [] [.ptr 3 0 0 0, .ptr 2 0 0 0]), (234, .gs 4 0), (235, .i (restsM t p).1.length), (236, .i i.1)]
  H := fun _ => rsHc t p ++ [.one (.row .int (restsM t p).1 3)]
  mu := fun i => (restsM t p).1.length - i.1
def rsRule (t : TeamT) (p : PlotT) (k : Nat) : Option (LRule UU) := match Nat.beq k 11 with
  | true => some (.inv (rsL1 t p))
  | false => match Nat.beq k 27 with
    | true => some (.inv (rsL2 t p))
    | false => some (.inv (rsL3 t p))
structure KeepP (R : Prop) : Prop where
  get : R
theorem suff_of {G : Prop} (R : Prop) (h : KeepP R → G) (hR : R) : G := h ⟨hR⟩
theorem set_other {l : List Int} {i j : Nat} {x : Int} (h : j ≠ i) : (l.set i x).getD j 0 = l.getD j 0 := by
  simp only [List.getD_eq_getElem?_getD]
  rw [List.getElem?_set_ne (Ne.symm h)]
theorem set_same {l : List Int} {i : Nat} {x : Int} (h : i < l.length) : (l.set i x).getD i 0 = x := by
  simp only [List.getD_eq_getElem?_getD]
  rw [List.getElem?_set_self h]; rfl
theorem nxt' {n i : Nat} (h : ∃ x : { i : Nat // i ≤ n }, IntKind.i64.wrap ((i : Int) + 1) = (x.1 : Int) ∧ n - x.1 < n - i) (hs : IntKind.i64.wrap ((i : Int) + 1) = ((i + 1 : Nat) : Int)) : ∃ x : { i : Nat // i ≤ n }, ((i + 1 : Nat) : Int) = (x.1 : Int) ∧ n - x.1 < n - i := by
  obtain ⟨x, hx1, hx2⟩ := h
  exact ⟨x, by rw [← hs]; exact hx1, hx2⟩
theorem law_err {q : Int} {a b : Bool} {m n : Nat} (hne : (q != 0) = true) (key : (q == 1) = !(a && b)) (h1 : m < 1000000) (h2 : n < 9223372036854775808) : ((q == q) = true → (((0 : Int) == 0) = true → (((0 : Int) == 0) = true → ((q != 0) = true → (a = true → (m < 1000000 ∧ n < 9223372036854775808) ∧ (((q == 1) == !b) = true → True) ∧ (((q == 1) == !b) = false → true = false)) ∧ (a = false → (((q == 1) == true) = true → True) ∧ (((q == 1) == true) = false → true = false))) ∧ ((q != 0) = false → true = false)) ∧ (((0 : Int) == 0) = false → true = false)) ∧ (((0 : Int) == 0) = false → true = false)) ∧ ((q == q) = false → true = false) := by
  rw [key]
  refine ⟨fun _ => ⟨fun _ => ⟨fun _ => ⟨fun _ => ⟨fun ha => ⟨⟨h1, h2⟩, fun _ => trivial, fun h => ?_⟩, fun ha => ⟨fun _ => trivial, fun h => ?_⟩⟩, fun h => absurd (hne.symm.trans h) (by decide)⟩, fun h => absurd h (by decide)⟩, fun h => absurd h (by decide)⟩, fun h => absurd h (by simp)⟩
  · rw [ha] at h; cases b <;> simp at h
  · rw [ha] at h; simp at h
def bigP (p : PlotT) : Prop := p.g.pits.length < 9223372036854775808 ∧ p.steps.length < 9223372036854775808
theorem large_small {p : PlotT} (h : largeM p = false) : p.g.pits.length < 1000000 ∧ p.steps.length < 1000000 := by
  have h1 := of_decide_eq_false h
  omega
def lawRS : FSpec UU := { oneS fun _ => .val ⟨.b true, [], [], []⟩ with pre := fun (x : TeamT × PlotT) => bigP x.2 }
def TlawR : Tab UU := [(18, largeS.con), (16, aliveS.con), (7, comesS.con), (19, leastS.con), (24, restsS.con), (20, isTeamS.con), (21, isPlotS.con), (22, lwithS.con), (25, lrestedS.con)]
theorem TlawR_ok : TlawR.Sound Try.prog := .cons large_sound (.cons alive_sound (.cons comes_sound (.cons least_sound (.cons rests_sound (.cons fTeam_sound (.cons fPlot_sound (.cons lwith_sound (.cons lrested_sound .nil))))))))
set_option maxHeartbeats 0 in
set_option maxRecDepth 100000 in
theorem lawR_ok : ∀ x, lawRS.pre x → FunOk Try.prog 4 (lawRS.args x) (lawRS.H x) (lawRS.R x) := by
  rintro ⟨⟨⟨s0, s1⟩, ⟨l0, l1⟩, ⟨g0, g1⟩, full⟩, ⟨⟨long, rise, change, ps⟩, st⟩⟩ hx
  refine fun_of (T := TlawR) (L := rsRule ((s0, s1), (l0, l1), (g0, g1), full) ⟨⟨long, rise, change, ps⟩, st⟩) (hs := fun _ => []) hmix TlawR_ok Try.func4 (by kernel_rfl) (by kernel_rfl) ?_
  refine Eq.mp (α :=
      let Z0 := (25 : FuncId); let Z1 := (22 : FuncId); let Z2 := ((g0, g1), full); let Z3 := nat_lit 0 = nat_lit 0 ∧ nat_lit 0 = nat_lit 0 ∧ nat_lit 0 = nat_lit 0; let Z4 := Fn.func Z1; let Z5 := Fn.func Z0; let Z6 := st = st ∧ True; let Z7 := List.length st < nat_lit 1000; let Z8 := List.length ps < nat_lit 1000000; let Z9 := Value.int IntKind.i64 (0 : Int); let Z10 := (↑(List.length st) : Int); let Z11 := List.length st < nat_lit 1000000; let Z12 := Value.bool false = Value.bool false; let Z13 := Z3 ∧ True; let Z14 := List.length ps = List.length ps; let Z15 := Value.int IntKind.i64 l1 = Value.int IntKind.i64 l1; let Z16 := Value.int IntKind.i64 g0 = Value.int IntKind.i64 g0; let Z17 := Value.int IntKind.i64 rise = Value.int IntKind.i64 rise; let Z18 := Value.int IntKind.i64 change = Value.int IntKind.i64 change; let Z19 := Value.int IntKind.i64 s0 = Value.int IntKind.i64 s0; let Z20 := Value.int IntKind.i64 s1 = Value.int IntKind.i64 s1; let Z21 := Value.int IntKind.i64 l0 = Value.int IntKind.i64 l0; let Z22 := Value.int IntKind.i64 full = Value.int IntKind.i64 full; let Z23 := !isPlotM (PlotT.mk (GroundT.mk long rise change ps) st); let Z24 := Value.int IntKind.i64 g1 = Value.int IntKind.i64 g1; let Z25 := Value.int IntKind.i64 long = Value.int IntKind.i64 long; let Z26 := List.length st = List.length st; let Z27 := Value.bool true = Value.bool true ∧ True; let Z28 := Value.bool true = Value.bool false ∧ True; let Z29 := List.length st < nat_lit 9223372036854775808; let Z30 := Fn.func (nat_lit 22) = Z4; let Z31 := Fn.func (nat_lit 25) = Z5; let Z32 := Z22 ∧ True; let Z33 := List.length (PlotT.steps (PlotT.mk (GroundT.mk long rise change ps) st)); let Z34 := Value.int IntKind.i64 Z10; let Z35 := nat_lit 0 = nat_lit 0 ∧ Z14; let Z36 := (6 : Nat) = (6 : Nat); let Z37 := nat_lit 0 = nat_lit 0 ∧ Z26; let Z38 := ((0 : Int), (0 : Int)); let Z39 := (3 : TypeId) = (3 : TypeId); let Z40 := nat_lit 0 = nat_lit 0 ∧ Z35; let Z41 := fun (i : Nat) => i ≤ Z33; let Z42 := nat_lit 0 = nat_lit 0 ∧ Z37; let Z43 := ps = ps ∧ Z6; let Z44 := Z4 = Z4; let Z45 := Z5 = Z5; let Z46 := Z42 ∧ True; let Z47 := True ∧ Z43; let Z48 := ((l0, l1), Z2); let Z49 := Z10 > (6 : Int); let Z50 := Z3 ∧ Z13; let Z51 := Z8 ∧ Z11; let Z52 := True ∧ Z50; let Z53 := Z8 ∧ Z29; let Z54 := Z24 ∧ Z32; let Z55 := ((0 : Int), Z38); let Z56 := Z34 = Z34; let Z57 := Z27 ∧ Z47; let Z58 := Z28 ∧ Z47; let Z59 := Z22 ∧ Z50; let Z60 := ((s0, s1), Z48); let Z61 := True ∧ Z57; let Z62 := True ∧ Z58; let Z63 := Z30 ∧ Z52; let Z64 := Z31 ∧ Z52; let Z65 := True ∧ Z61; let Z66 := teamM Z60; let Z67 := withM Z60 full; let Z68 := Z16 ∧ Z54; let Z69 := True ∧ Z65; let Z70 := Z40 ∧ Z46; let Z71 := !Z66; let Z72 := fun (j : Nat) => List.getD (PlotT.steps (PlotT.mk (GroundT.mk long rise change ps) st)) j Z55; let Z73 := Z66 = true; let Z74 := Z66 = false; let Z75 := True ∧ Z69; let Z76 := Z44 ∧ Z52; let Z77 := Z45 ∧ Z52; let Z78 := restsM Z60 (PlotT.mk (GroundT.mk long rise change ps) st); let Z79 := leastM Z60 (PlotT.mk (GroundT.mk long rise change ps) st); let Z80 := comesM Z60 (PlotT.mk (GroundT.mk long rise change ps) st); let Z81 := fun (j : Nat) => sfM none (Z72 j); let Z82 := alwaysM Z67 (PlotT.mk (GroundT.mk long rise change ps) st); let Z83 := Prod.snd Z80; let Z84 := Prod.fst Z80; let Z85 := Prod.snd Z79; let Z86 := Prod.fst Z79; let Z87 := Prod.snd Z78; let Z88 : List Int := Prod.fst Z78; let Z89 := fun (j : Nat) => Z81 j = false; let Z90 := Z82 = true; let Z91 := Z82 = false; let Z92 := Z15 ∧ Z68; let Z93 := decide Z49; let Z94 := Z18 ∧ Z70; let Z95 := Value.int IntKind.i64 Z85; let Z96 := Value.int IntKind.i64 Z83; let Z97 := Value.int IntKind.i64 Z86; let Z98 := Value.int IntKind.i64 Z84; let Z99 := List.length Z88; let Z100 := Z86 > full; let Z101 := s0 ≥ Z86; let Z102 := fun (j i : Nat) => j < i → Z89 j; let Z103 := Z93 = true; let Z104 := Z93 = false; let Z105 : List Int := List.drop (nat_lit 0) Z88; let Z106 := List.length Z88; let Z107 := fun (i : Nat) => ∀ (j : Nat), Z102 j i; let Z108 := fun (i : Nat) => i ≤ Z99; let Z109 := (↑Z99 : Int); let Z110 := Z86 > (0 : Int); let Z111 := Z86 < (0 : Int); let Z112 := fun (j : Nat) => List.getD Z88 j (0 : Int); let Z113 := Z99 = List.length st; let Z114 := (↑Z106 : Int); let Z115 : Type := { i : Nat // Z108 i }; let Z116 := Value.int IntKind.i64 Z109; let Z117 : List Int := List.drop (0 : Nat) Z88; let Z118 := fun (x : Z115) => Subtype.val x; let Z119 := Z86 - (1 : Int); let Z120 := Z21 ∧ Z92; let Z121 := Z83 != (0 : Int); let Z122 := Z85 != (0 : Int); let Z123 := Z84 != (2 : Int); let Z124 := Z85 != (11 : Int); let Z125 := Z17 ∧ Z94; let Z126 := Z84 == (2 : Int); let Z127 := Z84 == (0 : Int); let Z128 := Z83 == (1 : Int); let Z129 := Z86 == (0 : Int); let Z130 := Z85 == (0 : Int); let Z131 := nat_lit 0 + Z106; let Z132 := Z87 != (0 : Int); let Z133 := Value.int IntKind.i64 Z114; let Z134 := Z87 == (1 : Int); let Z135 := Z87 == (11 : Int); let Z136 := Z123 = true; let Z137 := Z122 = true; let Z138 := Z121 = true; let Z139 := Z122 = false; let Z140 := fun (x : Z115) => (↑(Z118 x) : Int); let Z141 := IntKind.wrap IntKind.i64 Z119; let Z142 := Z123 = false; let Z143 := Z121 = false; let Z144 := Z124 = true; let Z145 := Z124 = false; let Z146 := Z130 = true; let Z147 := Z127 = true; let Z148 := Z129 = true; let Z149 := Z129 = false; let Z150 := Z130 = false; let Z151 := Z127 = false; let Z152 := Z132 = true; let Z153 := Z132 = false; let Z154 := fun (j : Nat) => (0 : Int) ≤ Z112 j; let Z155 := Z134 = true; let Z156 := Z7 ∧ Z113; let Z157 := Z134 = false; let Z158 := Z135 = true; let Z159 := fun (t : Z115) => Int.toNat (Z140 t); let Z160 := Z135 = false; let Z161 := fun (x : Z115) => Value.int IntKind.i64 (Z140 x); let Z162 := Value.int IntKind.i64 Z141; let Z163 := fun (j i : Nat) => j < i → Z154 j; let Z164 := fun (i : Nat) => Z41 i ∧ Z107 i; let Z165 := fun (i : Nat) => ∀ (j : Nat), Z163 j i; let Z166 := Z20 ∧ Z120; let Z167 := Z25 ∧ Z125; let Z168 := Z128 == true; let Z169 := Z114 == (0 : Int); let Z170 := fun (t : Z115) => (0 : Int) ≤ Z140 t; let Z171 := Z167 ∧ True; let Z172 := fun (t : Z115) => nat_lit 0 + Z159 t; let Z173 : Type := { i : Nat // Z164 i }; let Z174 := Z8 ∧ Z156; let Z175 := fun (x : Z173) => Subtype.val x; let Z176 := Z168 = true; let Z177 := Z168 = false; let Z178 := Z169 = true; let Z179 := Z114 != Z10; let Z180 := Z169 = false; let Z181 := fun (t : Z115) => Z140 t + (1 : Int); let Z182 := fun (x : Z115) => Z9 = Z161 x; let Z183 := Z179 = true; let Z184 := Z179 = false; let Z185 := fun (t : Z115) => (0 : Nat) + Z159 t; let Z186 := withM Z60 Z86; let Z187 := fun (x : Z115) => Z182 x ∧ True; let Z188 := fun (x : Z173) => (↑(Z175 x) : Int); let Z189 := Z90 → Z62; let Z190 := Z128 == Z23; let Z191 := fun (t : Z115) => IntKind.wrap IntKind.i64 (Z181 t); let Z192 := fun (t : Z173) => Int.toNat (Z188 t); let Z193 := Z19 ∧ Z166; let Z194 := fun (t : Z115) => Int.toNat (Z191 t); let Z195 := fun (x : Z173) => Value.int IntKind.i64 (Z188 x); let Z196 := Z190 = true; let Z197 := Z193 ∧ True; let Z198 := Z190 = false; let Z199 := fun (t : Z115) => Value.int IntKind.i64 (Z191 t); let Z200 := restedM Z60 (PlotT.mk (GroundT.mk long rise change ps) st) Z88; let Z201 := fun (x : Z173) => List.length st - Z175 x; let Z202 := alwaysM Z186 (PlotT.mk (GroundT.mk long rise change ps) st); let Z203 := !Z202; let Z204 := Z103 → Z75; let Z205 := fun (t : Z173) => (0 : Int) ≤ Z188 t; let Z206 := Prod.snd Z200; let Z207 := Prod.fst Z200; let Z208 := fun (t : Z173) => nat_lit 0 + Z192 t; let Z209 := fun (t : Z115) => (0 : Int) ≤ Z191 t; let Z210 := fun (t : Z115) => nat_lit 0 + Z194 t; let Z211 := !Z207; let Z212 := Z206 = true; let Z213 := fun (t : Z173) => Z188 t < Z10; let Z214 := Z206 = false; let Z215 := fun (t : Z173) => Z188 t + (1 : Int); let Z216 := fun (x : Z173) => Z9 = Z195 x; let Z217 := Z211 = true; let Z218 := Z211 = false; let Z219 := Z143 → Z62; let Z220 := Z142 → Z62; let Z221 := Z144 → Z62; let Z222 := Z149 → Z62; let Z223 := Z151 → Z62; let Z224 := Z88 = Z88; let Z225 := fun (x : Z173) => Z216 x ∧ True; let Z226 := withM Z60 Z141; let Z227 := fun (t : Z115) => (0 : Nat) + Z194 t; let Z228 := Z157 → Z62; let Z229 := Z160 → Z62; let Z230 := Z96 = Z96; let Z231 := fun (t : Z173) => IntKind.wrap IntKind.i64 (Z215 t); let Z232 := Z95 = Z95; let Z233 := Z97 = Z97; let Z234 := Z98 = Z98; let Z235 := Z224 ∧ True; let Z236 := Z85 == Z83; let Z237 := fun (t : Z173) => Z208 t < List.length st; let Z238 := Z136 → Z75; let Z239 := Z106 = Z99; let Z240 := Z236 = true; let Z241 := Z236 = false; let Z242 := fun (t : Z173) => Value.int IntKind.i64 (Z231 t); let Z243 := nat_lit 0 = nat_lit 0 ∧ Z239; let Z244 := alwaysM Z226 (PlotT.mk (GroundT.mk long rise change ps) st); let Z245 := nat_lit 0 = nat_lit 0 ∧ Z243; let Z246 := Z177 → Z62; let Z247 := Z180 → Z62; let Z248 : List Int := List.take Z106 Z105; let Z249 := nat_lit 4 = nat_lit 4 ∧ Z245; let Z250 := Z183 → Z62; let Z251 := Z39 ∧ Z224; let Z252 := Z176 → Z75; let Z253 := Z178 → Z75; let Z254 := fun (x : Z115) => Z99 - Z118 x; let Z255 := Z251 ∧ True; let Z256 : List Int := List.take Z106 Z117; let Z257 := Z131 ≤ Z106; let Z258 := List.length Z248; let Z259 := Z116 = Z116; let Z260 := Z198 → Z62; let Z261 := Z133 = Z116; let Z262 := fun (t : Z115) => Z140 t < Z109; let Z263 := fun (t : Z173) => List.getD st (Z208 t) Z55; let Z264 := Z196 → Z75; let Z265 := fun (t : Z115) => Z140 t < Z114; let Z266 := fun (i : Nat) => Z108 i ∧ Z165 i; let Z267 := nat_lit 0 + Z258; let Z268 := fun (t : Z173) => Prod.snd (Z263 t); let Z269 := fun (x : Z173) => Z56 ∧ Z225 x; let Z270 : Type := { i : Nat // Z266 i }; let Z271 := fun (t : Z115) => Z172 t < Z106; let Z272 := Z217 → Z62; let Z273 := fun (x : Z270) => Subtype.val x; let Z274 := fun (t : Z173) => Prod.snd (Z268 t); let Z275 := Z267 ≤ nat_lit 1099511627776; let Z276 := fun (t : Z115) => List.getD Z88 (Z172 t) (0 : Int); let Z277 := Z249 ∧ Z50; let Z278 := fun (x : Z270) => (↑(Z273 x) : Int); let Z279 := Z241 → Z62; let Z280 := fun (t : Z270) => Int.toNat (Z278 t); let Z281 := fun (x : Z270) => Value.int IntKind.i64 (Z278 x); let Z282 := fun (t : Z115) => Z191 t < Z114; let Z283 := fun (t : Z270) => (0 : Int) ≤ Z278 t; let Z284 := fun (t : Z270) => nat_lit 0 + Z280 t; let Z285 := fun (x : Z173) => Z42 ∧ Z269 x; let Z286 := fun (t : Z173) => Z274 t != (0 : Int); let Z287 := fun (t : Z115) => Z276 t == (0 : Int); let Z288 := fun (t : Z270) => Z278 t + (1 : Int); let Z289 := fun (t : Z173) => Z286 t = true; let Z290 := fun (t : Z173) => Z286 t = false; let Z291 : List Int := [] ++ Z248; let Z292 := fun (t : Z115) => Z287 t = true; let Z293 := fun (t : Z115) => Z287 t = false; let Z294 := fun (x : Z270) => Z9 = Z281 x; let Z295 := fun (x : Z270) => Z294 x ∧ True; let Z296 := fun (t : Z270) => IntKind.wrap IntKind.i64 (Z288 t); let Z297 := fun (t x : Z115) => Z199 t = Z161 x; let Z298 : List Int := [] ++ Z256; let Z299 := List.length Z291; let Z300 := fun (t x : Z115) => Z297 t x ∧ True; let Z301 := fun (t : Z270) => Value.int IntKind.i64 (Z296 t); let Z302 := Z193 ∧ Z171; let Z303 := (↑Z299 : Int); let Z304 := st = st ∧ Z302; let Z305 := ps = ps ∧ Z304; let Z306 := True ∧ Z305; let Z307 := fun (x : Z270) => totM Z88 (Z273 x); let Z308 := fun (x t : Z173) => Z201 x < Z201 t; let Z309 := fun (x : Z173) => Z63 ∧ Z285 x; let Z310 := fun (x : Z270) => Value.int IntKind.i64 (Z307 x); let Z311 := Z193 ∧ Z235; let Z312 := fun (t : Z173) => Z205 t ∧ Z213 t; let Z313 := fun (x : Z270) => Z99 - Z273 x; let Z314 := Z167 ∧ Z255; let Z315 := fun (t x : Z173) => Z242 t = Z195 x; let Z316 := fun (t x : Z173) => Z315 t x ∧ True; let Z317 := fun (t : Z270) => Z278 t < Z109; let Z318 := fun (x : Z270) => Z9 = Z310 x; let Z319 := fun (t : Z270) => Z307 t == (0 : Int); let Z320 := fun (t : Z270) => Z278 t < Z114; let Z321 := fun (t : Z173) => decide (Z213 t); let Z322 := fun (t : Z115) => Z170 t ∧ Z265 t; let Z323 := Z238 ∧ Z220; let Z324 := fun (t : Z270) => Z284 t < Z106; let Z325 := fun (t : Z173) => Z321 t = true; let Z326 := fun (t : Z173) => Z321 t = false; let Z327 := fun (x : Z115) => Z261 ∧ Z187 x; let Z328 := fun (t : Z270) => List.getD Z88 (Z284 t) (0 : Int); let Z329 := fun (x : Z115) => nat_lit 0 = nat_lit 0 ∧ Z327 x; let Z330 := fun (t : Z270) => Z328 t < (0 : Int); let Z331 := fun (t x : Z173) => Z56 ∧ Z316 t x; let Z332 := Z252 ∧ Z246; let Z333 := Z253 ∧ Z247; let Z334 := fun (t : Z115) => Z140 t < Z303; let Z335 := fun (t : Z115) => Z172 t < Z299; let Z336 := fun (x t : Z115) => Z254 x < Z254 t; let Z337 := fun (t : Z115) => List.getD Z291 (Z172 t) (0 : Int); let Z338 := fun (t x : Z173) => Z42 ∧ Z331 t x; let Z339 := Z264 ∧ Z260; let Z340 := fun (t : Z115) => decide (Z262 t); let Z341 := fun (t : Z115) => Z340 t = true; let Z342 := fun (t : Z115) => Z340 t = false; let Z343 := fun (t : Z115) => List.getD Z298 (Z185 t) (0 : Int); let Z344 := fun (x : Z115) => Z77 ∧ Z329 x; let Z345 := fun (t : Z115) => Z337 t - (1 : Int); let Z346 := fun (x : Z115) => nat_lit 0 = nat_lit 0 ∧ Z344 x; let Z347 := fun (t : Z115) => IntKind.wrap IntKind.i64 (Z345 t); let Z348 := Z167 ∧ Z311; let Z349 := fun (t : Z115) => Value.int IntKind.i64 (Z347 t); let Z350 := fun (t : Z115) => AV.v (Z349 t); let Z351 := Z43 ∧ Z339; let Z352 := fun (t : Z115) => Z343 t - (1 : Int); let Z353 := Z74 → Z332; let Z354 := fun (t : Z115) => [Z350 t]; let Z355 := fun (t : Z270) => Z319 t == Z126; let Z356 := st = st ∧ Z348; let Z357 := fun (t : Z115) => IntKind.wrap IntKind.i64 (Z352 t); let Z358 := fun (t : Z270) => !Z355 t; let Z359 := fun (t : Z270) => Z358 t = true; let Z360 := fun (t : Z270) => Z358 t = false; let Z361 := ps = ps ∧ Z356; let Z362 := Z193 ∧ Z314; let Z363 := fun (x : Z270) => Z261 ∧ Z295 x; let Z364 := fun (t x : Z115) => Z259 ∧ Z300 t x; let Z365 := Z178 → Z323; let Z366 := fun (x : Z270) => nat_lit 0 = nat_lit 0 ∧ Z363 x; let Z367 := fun (t x : Z115) => nat_lit 0 = nat_lit 0 ∧ Z364 t x; let Z368 := st = st ∧ Z362; let Z369 := fun (t x : Z173) => Z76 ∧ Z338 t x; let Z370 := fun (x : Z173) => Z232 ∧ Z309 x; let Z371 := fun (t : Z115) => Z342 t → Z75; let Z372 := fun (t : Z115) => decide (Z282 t); let Z373 := ps = ps ∧ Z368; let Z374 := fun (t : Z115) => Z372 t = true; let Z375 := Z155 → Z333; let Z376 := True ∧ Z373; let Z377 := fun (t : Z115) => Z372 t = false; let Z378 := fun (x : Z115) => Z76 ∧ Z346 x; let Z379 := fun (t x : Z270) => Z301 t = Z281 x; let Z380 := fun (t x : Z270) => Z379 t x ∧ True; let Z381 := fun (t : Z115) => Z170 t ∧ Z334 t; let Z382 := fun (t : Z270) => Z359 t → Z62; let Z383 := fun (t x : Z115) => Z77 ∧ Z367 t x; let Z384 := fun (t x : Z115) => nat_lit 0 = nat_lit 0 ∧ Z383 t x; let Z385 := Z171 ∧ Z351; let Z386 := fun (t : Z270) => Z283 t ∧ Z320 t; let Z387 := Z53 ∧ Z385; let Z388 := fun (t x : Z115) => Z76 ∧ Z384 t x; let Z389 := fun (x t : Z270) => Z313 x < Z313 t; let Z390 := fun (t x : Z173) => Z232 ∧ Z369 t x; let Z391 := fun (x : Z173) => Z233 ∧ Z370 x; let Z392 := Z365 ∧ Z247; let Z393 := fun (t : Z270) => decide (Z317 t); let Z394 := fun (t : Z270) => Z307 t + Z328 t; let Z395 := Z375 ∧ Z228; let Z396 := fun (t : Z270) => Z393 t = true; let Z397 := fun (t : Z270) => Z393 t = false; let Z398 := fun (x : Z115) => Z232 ∧ Z378 x; let Z399 := fun (t : Z270) => IntKind.wrap IntKind.i64 (Z394 t); let Z400 := Z73 → Z387; let Z401 := fun (t : Z270) => Value.int IntKind.i64 (Z399 t); let Z402 := Z43 ∧ Z395; let Z403 := fun (t x : Z270) => Z259 ∧ Z380 t x; let Z404 := fun (t x : Z270) => nat_lit 0 = nat_lit 0 ∧ Z403 t x; let Z405 := fun (t : Z270) => decide (Z330 t); let Z406 := fun (t : Z270) => Z405 t = true; let Z407 := fun (t : Z270) => Z405 t = false; let Z408 := Z158 → Z392; let Z409 := fun (t x : Z115) => Z232 ∧ Z388 t x; let Z410 := fun (t : Z270) => Z406 t → Z62; let Z411 := fun (x : Z270) => Z318 x ∧ Z366 x; let Z412 := fun (t x : Z173) => Z233 ∧ Z390 t x; let Z413 := fun (x : Z173) => Z230 ∧ Z391 x; let Z414 := fun (t : Z115) => List.set Z291 (Z172 t) (Z347 t); let Z415 := fun (t : Z115) => List.length (Z414 t); let Z416 := fun (x : Z115) => Z233 ∧ Z398 x; let Z417 := fun (t : Z115) => (↑(Z415 t) : Int); let Z418 := fun (t : Z115) => List.set Z298 (Z185 t) (Z357 t); let Z419 := fun (x : Z270) => Z64 ∧ Z411 x; let Z420 := fun (t : Z115) => List.length (Z418 t); let Z421 := fun (x : Z270) => nat_lit 0 = nat_lit 0 ∧ Z419 x; let Z422 := fun (t : Z115) => Z420 t = List.length st; let Z423 := fun (t : Z115) => Z7 ∧ Z422 t; let Z424 := fun (t : Z115) => Z354 t = Z354 t; let Z425 := fun (t : Z115) => Z8 ∧ Z423 t; let Z426 := fun (t : Z115) => restedM Z60 (PlotT.mk (GroundT.mk long rise change ps) st) (Z418 t); let Z427 := Z408 ∧ Z229; let Z428 := fun (t : Z115) => Prod.fst (Z426 t); let Z429 := fun (x : Z270) => Z76 ∧ Z421 x; let Z430 := fun (t : Z115) => Z428 t = true; let Z431 := fun (t : Z115) => Z428 t = false; let Z432 := fun (t x : Z115) => Z233 ∧ Z409 t x; let Z433 := Z302 ∧ Z402; let Z434 := fun (t : Z115) => Z191 t < Z417 t; let Z435 := fun (t x : Z270) => Z401 t = Z310 x; let Z436 := fun (t x : Z173) => Z230 ∧ Z412 t x; let Z437 := fun (x : Z173) => Z234 ∧ Z413 x; let Z438 := fun (t : Z115) => Z210 t < Z415 t; let Z439 := Z51 ∧ Z433; let Z440 := fun (t : Z115) => List.getD (Z414 t) (Z210 t) (0 : Int); let Z441 := fun (t : Z115) => Z430 t → Z62; let Z442 := fun (x : Z173) => Z12 ∧ Z437 x; let Z443 := fun (x : Z115) => Z230 ∧ Z416 x; let Z444 := fun (t : Z115) => Z440 t + (1 : Int); let Z445 := fun (x : Z173) => Z3 ∧ Z442 x; let Z446 := fun (t : Z115) => IntKind.wrap IntKind.i64 (Z444 t); let Z447 := fun (t : Z115) => Value.int IntKind.i64 (Z446 t); let Z448 := fun (t : Z115) => AV.v (Z447 t); let Z449 := fun (x : Z173) => Z3 ∧ Z445 x; let Z450 := Z152 → Z427; let Z451 := fun (t : Z115) => [Z448 t]; let Z452 := fun (t : Z115) => List.getD (Z418 t) (Z227 t) (0 : Int); let Z453 := fun (t : Z115) => Z452 t + (1 : Int); let Z454 := fun (t : Z115) => IntKind.wrap IntKind.i64 (Z453 t); let Z455 := fun (x : Z270) => Z232 ∧ Z429 x; let Z456 := Z400 ∧ Z353; let Z457 := True ∧ Z456; let Z458 := fun (t x : Z115) => Z230 ∧ Z432 t x; let Z459 := fun (t : Z115) => Z209 t ∧ Z434 t; let Z460 := fun (t x : Z173) => Z234 ∧ Z436 t x; let Z461 := fun (t x : Z173) => Z12 ∧ Z460 t x; let Z462 := fun (x : Z115) => Z234 ∧ Z443 x; let Z463 := fun (t x : Z173) => Z3 ∧ Z461 t x; let Z464 := fun (x : Z115) => Z12 ∧ Z462 x; let Z465 := fun (t x : Z173) => Z3 ∧ Z463 t x; let Z466 := fun (x : Z115) => Z3 ∧ Z464 x; let Z467 := fun (x : Z115) => Z3 ∧ Z466 x; let Z468 := fun (t : Z173) => Z289 t → Z439; let Z469 := Z197 ∧ Z457; let Z470 := True ∧ Z469; let Z471 := fun (x : Z270) => Z233 ∧ Z455 x; let Z472 := fun (t x : Z115) => Z234 ∧ Z458 t x; let Z473 := fun (t x : Z115) => Z12 ∧ Z472 t x; let Z474 := fun (t x : Z115) => Z3 ∧ Z473 t x; let Z475 := fun (x : Z173) => Z449 x ∧ Z306; let Z476 := fun (t x : Z115) => Z3 ∧ Z474 t x; let Z477 := Z138 → Z470; let Z478 := fun (x : Z270) => Z230 ∧ Z471 x; let Z479 := fun (t x : Z173) => Z465 t x ∧ Z306; let Z480 := Z477 ∧ Z219; let Z481 := ∃ (x : Z173), Z475 x; let Z482 := fun (x : Z270) => Z234 ∧ Z478 x; let Z483 := fun (x : Z270) => Z12 ∧ Z482 x; let Z484 := fun (x : Z270) => Z3 ∧ Z483 x; let Z485 := Z148 → Z480; let Z486 := fun (x : Z270) => Z3 ∧ Z484 x; let Z487 := fun (t : Z115) => Z415 t = Z420 t; let Z488 := fun (t x : Z270) => Z435 t x ∧ Z404 t x; let Z489 := fun (t : Z115) => nat_lit 0 = nat_lit 0 ∧ Z487 t; let Z490 := fun (t : Z115) => nat_lit 0 = nat_lit 0 ∧ Z489 t; let Z491 := fun (x : Z115) => Z467 x ∧ Z376; let Z492 := fun (t : Z115) => Z418 t = Z418 t; let Z493 := fun (t : Z115) => Z492 t ∧ True; let Z494 := fun (t : Z115) => Z36 ∧ Z490 t; let Z495 := fun (t : Z115) => Z494 t ∧ Z50; let Z496 := fun (t x : Z270) => Z77 ∧ Z488 t x; let Z497 := fun (t x : Z270) => nat_lit 0 = nat_lit 0 ∧ Z496 t x; let Z498 := fun (t x : Z173) => Z479 t x ∧ Z308 x t; let Z499 := Z485 ∧ Z222; let Z500 := fun (t x : Z115) => Z476 t x ∧ Z376; let Z501 := fun (t x : Z270) => Z76 ∧ Z497 t x; let Z502 := fun (t : Z115) => Z193 ∧ Z493 t; let Z503 := ∃ (x : Z115), Z491 x; let Z504 := Z147 → Z499; let Z505 := fun (t : Z115) => Z167 ∧ Z502 t; let Z506 := fun (t : Z115) => st = st ∧ Z505 t; let Z507 := fun (t : Z115) => List.set (Z414 t) (Z210 t) (Z446 t); let Z508 := fun (t x : Z270) => Z232 ∧ Z501 t x; let Z509 := fun (t : Z115) => List.length (Z507 t); let Z510 := fun (t : Z115) => ps = ps ∧ Z506 t; let Z511 := fun (t : Z173) => ∃ (x : Z173), Z498 t x; let Z512 := fun (t : Z173) => True ∧ Z511 t; let Z513 := fun (t : Z115) => Z451 t = Z451 t; let Z514 := Z504 ∧ Z223; let Z515 := fun (t : Z115) => List.set (Z418 t) (Z227 t) (Z454 t); let Z516 := fun (t : Z115) => List.length (Z515 t); let Z517 := fun (t : Z115) => Z516 t = List.length st; let Z518 := fun (t : Z115) => Z7 ∧ Z517 t; let Z519 := fun (x : Z270) => Z486 x ∧ Z376; let Z520 := fun (t : Z115) => Z8 ∧ Z518 t; let Z521 := fun (t : Z115) => restedM Z60 (PlotT.mk (GroundT.mk long rise change ps) st) (Z515 t); let Z522 := fun (t : Z115) => Prod.fst (Z521 t); let Z523 := fun (t x : Z270) => Z233 ∧ Z508 t x; let Z524 := fun (t : Z115) => Z522 t = true; let Z525 := fun (t : Z115) => Z522 t = false; let Z526 := fun (t x : Z115) => Z500 t x ∧ Z336 x t; let Z527 := fun (t : Z115) => Z524 t → Z62; let Z528 := Z240 → Z514; let Z529 := fun (t : Z173) => Z290 t → Z512 t; let Z530 := fun (t x : Z270) => Z230 ∧ Z523 t x; let Z531 := fun (t : Z115) => ∃ (x : Z115), Z526 t x; let Z532 := fun (t : Z115) => True ∧ Z531 t; let Z533 := Z528 ∧ Z279; let Z534 := fun (t x : Z270) => Z234 ∧ Z530 t x; let Z535 := fun (t x : Z270) => Z12 ∧ Z534 t x; let Z536 := fun (t x : Z270) => Z3 ∧ Z535 t x; let Z537 := fun (t x : Z270) => Z3 ∧ Z536 t x; let Z538 := ∃ (x : Z270), Z519 x; let Z539 := fun (t : Z115) => Z292 t → Z532 t; let Z540 := fun (t : Z115) => Z377 t → Z532 t; let Z541 := decide Z110; let Z542 := decide Z111; let Z543 := fun (t x : Z270) => Z537 t x ∧ Z376; let Z544 := decide Z101; let Z545 := decide Z100; let Z546 := Z126 == Z544; let Z547 := !Z546; let Z548 := Z547 = true; let Z549 := Z547 = false; let Z550 := Z548 → Z62; let Z551 := fun (t : Z173) => Z468 t ∧ Z529 t; let Z552 := fun (t x : Z270) => Z543 t x ∧ Z389 x t; let Z553 := fun (t : Z173) => Z237 t ∧ Z551 t; let Z554 := fun (t : Z173) => Z312 t ∧ Z553 t; let Z555 := fun (t : Z115) => Z509 t = Z516 t; let Z556 := fun (t : Z115) => nat_lit 0 = nat_lit 0 ∧ Z555 t; let Z557 := fun (t : Z115) => nat_lit 0 = nat_lit 0 ∧ Z556 t; let Z558 := fun (t : Z270) => ∃ (x : Z270), Z552 t x; let Z559 := fun (t : Z270) => True ∧ Z558 t; let Z560 := fun (t : Z115) => Z36 ∧ Z557 t; let Z561 := fun (t : Z115) => Z560 t ∧ Z50; let Z562 := fun (t : Z115) => Z515 t = Z515 t; let Z563 := fun (t : Z115) => Z562 t ∧ True; let Z564 := fun (t : Z115) => Z193 ∧ Z563 t; let Z565 := fun (t : Z173) => Z325 t → Z554 t; let Z566 := fun (t : Z115) => Z167 ∧ Z564 t; let Z567 := fun (t : Z115) => st = st ∧ Z566 t; let Z568 := fun (t : Z115) => ps = ps ∧ Z567 t; let Z569 := fun (t : Z115) => Z525 t → Z532 t; let Z570 := fun (t : Z270) => Z407 t → Z559 t; let Z571 := fun (t : Z270) => Z410 t ∧ Z570 t; let Z572 := fun (t : Z270) => Z324 t ∧ Z571 t; let Z573 := fun (t : Z270) => Z386 t ∧ Z572 t; let Z574 := fun (t : Z115) => Z527 t ∧ Z569 t; let Z575 := fun (t : Z270) => Z396 t → Z573 t; let Z576 := fun (t : Z115) => Z568 t ∧ Z574 t; let Z577 := fun (t : Z115) => Z561 t ∧ Z576 t; let Z578 := fun (t : Z115) => Z520 t ∧ Z577 t; let Z579 := fun (t : Z115) => Z513 t ∧ Z578 t; let Z580 := fun (t : Z115) => Z438 t ∧ Z579 t; let Z581 := fun (t : Z115) => Z459 t ∧ Z580 t; let Z582 := fun (t : Z115) => Z438 t ∧ Z581 t; let Z583 := fun (t : Z115) => Z459 t ∧ Z582 t; let Z584 := fun (t : Z115) => Z374 t → Z583 t; let Z585 := fun (t : Z115) => Z584 t ∧ Z540 t; let Z586 := fun (t : Z115) => Z431 t → Z585 t; let Z587 := fun (t : Z115) => Z441 t ∧ Z586 t; let Z588 := fun (t : Z115) => Z510 t ∧ Z587 t; let Z589 := fun (t : Z115) => Z495 t ∧ Z588 t; let Z590 := fun (t : Z115) => Z425 t ∧ Z589 t; let Z591 := fun (t : Z115) => Z424 t ∧ Z590 t; let Z592 := fun (t : Z115) => Z335 t ∧ Z591 t; let Z593 := fun (t : Z115) => Z381 t ∧ Z592 t; let Z594 := fun (t : Z115) => Z335 t ∧ Z593 t; let Z595 := fun (t : Z115) => Z381 t ∧ Z594 t; let Z596 := fun (t : Z115) => Z275 ∧ Z595 t; let Z597 := fun (t : Z115) => Z257 ∧ Z596 t; let Z598 := fun (t : Z115) => (nat_lit 0 = nat_lit 0 ∧ True) ∧ Z597 t; let Z599 := fun (t : Z115) => Z293 t → Z598 t; let Z600 := fun (t : Z115) => Z539 t ∧ Z599 t; let Z601 := fun (t : Z115) => Z271 t ∧ Z600 t; let Z602 := fun (t : Z115) => Z322 t ∧ Z601 t; let Z603 := fun (t : Z115) => Z341 t → Z602 t; let Z604 := fun (t : Z115) => Z603 t ∧ Z371 t; let Z605 := ∀ (t : Z115), Z604 t; let Z606 := Z503 ∧ Z605; let Z607 := fun (t : Z270) => Z360 t → Z606; let Z608 := fun (t : Z270) => Z382 t ∧ Z607 t; let Z609 := fun (t : Z270) => Z214 → Z608 t; let Z610 := fun (t : Z270) => Z218 → Z608 t; let Z611 := fun (t : Z270) => Z272 ∧ Z610 t; let Z612 := fun (t : Z270) => Z212 → Z611 t; let Z613 := fun (t : Z270) => Z612 t ∧ Z609 t; let Z614 := fun (t : Z270) => Z361 ∧ Z613 t; let Z615 := fun (t : Z270) => Z277 ∧ Z614 t; let Z616 := fun (t : Z270) => Z174 ∧ Z615 t; let Z617 := fun (t : Z270) => Z397 t → Z616 t; let Z618 := fun (t : Z270) => Z575 t ∧ Z617 t; let Z619 := ∀ (t : Z270), Z618 t; let Z620 := Z538 ∧ Z619; let Z621 := Z184 → Z620; let Z622 := Z250 ∧ Z621; let Z623 := Z153 → Z622; let Z624 := Z450 ∧ Z623; let Z625 := Z104 → Z624; let Z626 := Z204 ∧ Z625; let Z627 := Z43 ∧ Z626; let Z628 := Z302 ∧ Z627; let Z629 := Z51 ∧ Z628; let Z630 := fun (t : Z173) => Z326 t → Z629; let Z631 := fun (t : Z173) => Z565 t ∧ Z630 t; let Z632 := ∀ (t : Z173), Z631 t; let Z633 := Z481 ∧ Z632; let Z634 := Z150 → Z633; let Z635 := Z549 → Z633; let Z636 := Z550 ∧ Z635; let Z637 := Z146 → Z636; let Z638 := Z637 ∧ Z634; let Z639 := Z91 → Z638; let Z640 := Z139 → Z638; let Z641 := Z189 ∧ Z639; let Z642 := Z305 ∧ Z641; let Z643 := Z59 ∧ Z642; let Z644 := Z51 ∧ Z643; let Z645 := Z145 → Z644; True ∧ Z171 ∧ Z43 ∧ (largeM (PlotT.mk (GroundT.mk long rise change ps) st) = true → Z75) ∧ (largeM (PlotT.mk (GroundT.mk long rise change ps) st) = false → Z51 ∧ Z302 ∧ Z43 ∧ Z51 ∧ Z302 ∧ Z43 ∧ (Z138 → Z533) ∧ (Z143 → True ∧ Z197 ∧ True ∧ (Z71 = true → Z533) ∧ (Z71 = false → Z53 ∧ Z171 ∧ Z43 ∧ (Z23 = true → Z533) ∧ (Z23 = false → (Z146 → (Z542 = true → Z62) ∧ (Z542 = false → (Z545 = true → Z62) ∧ (Z545 = false → Z51 ∧ (Z233 ∧ Z50) ∧ Z305 ∧ (Z203 = true → Z62) ∧ (Z203 = false → (Z541 = true → Z51 ∧ (Z162 = Z162 ∧ Z50) ∧ Z305 ∧ (Z244 = true → Z62) ∧ (Z244 = false → (Z137 → Z221 ∧ Z645) ∧ Z640)) ∧ (Z541 = false → (Z137 → Z221 ∧ Z645) ∧ Z640))))) ∧ (Z150 → (Z137 → Z221 ∧ Z645) ∧ Z640))))))
    (by kernel_rfl) ?_
  simp only [eq_self, true_and, and_true, Int.toNat_natCast, Nat.zero_add, Nat.sub_zero, Value.int.injEq, Value.bool.injEq, decide_eq_true_eq, decide_eq_false_iff_not]
  have h2' : st.length < 9223372036854775808 := hx.2
  refine ⟨fun _ => trivial, fun hlg => ?_⟩
  obtain ⟨h1, h2⟩ : ps.length < 1000000 ∧ st.length < 1000000 := large_small hlg
  refine ⟨⟨h1, h2⟩, ⟨h1, h2⟩, ?_⟩
  cases hop : (openErrM ((s0, s1), (l0, l1), (g0, g1), full) ⟨⟨long, rise, change, ps⟩, st⟩ true == 0) with
  | false =>
    have hne : (openErrM ((s0, s1), (l0, l1), (g0, g1), full) ⟨⟨long, rise, change, ps⟩, st⟩ true != 0) = true := by rw [bne, hop]; rfl
    have e1 := err_one hop
    simp only [comes_err hop, least_err hop]
    revert hne e1
    generalize openErrM ((s0, s1), (l0, l1), (g0, g1), full) ⟨⟨long, rise, change, ps⟩, st⟩ true = q
    intro hne e1
    have key : (q == 1) = !(teamM ((s0, s1), (l0, l1), (g0, g1), full) && isPlotM ⟨⟨long, rise, change, ps⟩, st⟩) := e1
    refine ⟨fun _ => law_err hne key h1 h2', fun h => absurd (hne.symm.trans h) (by decide)⟩
  | true =>
    have hC : (comesM ((s0, s1), (l0, l1), (g0, g1), full) ⟨⟨long, rise, change, ps⟩, st⟩).2 = 0 := by rw [comes_told hop]
    have hT : teamM ((s0, s1), (l0, l1), (g0, g1), full) = true := open_team hop
    have hP : isPlotM ⟨⟨long, rise, change, ps⟩, st⟩ = true := open_plot hop
    refine ⟨fun h => absurd h (by rw [hC]; decide), fun _ => ⟨fun h => absurd h (by rw [hT]; decide), fun _ => ⟨⟨h1, h2'⟩, fun h => absurd h (by rw [hP]; decide), fun _ => ?_⟩⟩⟩
    have ht := team_ok hT
    have hful : full ≤ 10000 := ht.1.2
    have hpl := plot_ok hP
    have hst12 : st.length ≤ 12 := hpl.2.1
    apply suff_of
    case h =>
      intro hR
      rcases least_law hop with ⟨f0, m0, m1, ha, hb, hc⟩ | ⟨f11, hfull⟩
      · have m1' : (leastM ((s0, s1), (l0, l1), (g0, g1), full) ⟨⟨long, rise, change, ps⟩, st⟩).1 ≤ full := m1
        have hw : IntKind.i64.wrap ((leastM ((s0, s1), (l0, l1), (g0, g1), full) ⟨⟨long, rise, change, ps⟩, st⟩).1 - 1) = (leastM ((s0, s1), (l0, l1), (g0, g1), full) ⟨⟨long, rise, change, ps⟩, st⟩).1 - 1 := wrap_id (by omega) (by omega)
        refine ⟨fun _ => ⟨fun h => absurd h (by omega), fun _ => ⟨fun h => absurd h (by omega), fun _ => ⟨⟨h1, h2⟩, fun h => absurd h (by rw [ha]; decide), fun _ => ⟨fun hpos => ⟨⟨h1, h2⟩, fun h => ?_, fun _ => ?_⟩, fun _ => ?_⟩⟩⟩⟩, fun h => absurd h (by rw [f0]; decide)⟩
        · rw [hw, hb hpos] at h; cases h
        all_goals
          refine ⟨fun h => absurd h (by rw [f0]; decide), fun _ => ⟨fun _ => ⟨fun h => ?_, fun _ => hR.get⟩, fun h => absurd h (by rw [f0]; decide)⟩⟩
          have hc' : ((comesM ((s0, s1), (l0, l1), (g0, g1), full) ⟨⟨long, rise, change, ps⟩, st⟩).1 == 2) = decide (s0 ≥ (leastM ((s0, s1), (l0, l1), (g0, g1), full) ⟨⟨long, rise, change, ps⟩, st⟩).1) := hc
          rw [hc'] at h
          simp at h
      · refine ⟨fun h => absurd h (by rw [f11]; decide), fun _ => ⟨fun _ => ⟨fun h => absurd h (by rw [f11]; decide), fun _ => ⟨⟨h1, h2⟩, fun h => ?_, fun _ => ⟨fun h => absurd h (by rw [f11]; decide), fun _ => hR.get⟩⟩⟩, fun h => absurd h (by rw [f11]; decide)⟩⟩
        have hfull' : alwaysM (withM ((s0, s1), (l0, l1), (g0, g1), full) full) ⟨⟨long, rise, change, ps⟩, st⟩ = false := hfull
        rw [hfull'] at h; cases h
    case hR =>
      refine ⟨⟨⟨0, Nat.zero_le _, fun j hj => absurd hj (Nat.not_lt_zero j)⟩, rfl⟩, fun t => ⟨fun ht => ?_, fun ht => ?_⟩⟩
      · obtain ⟨i, hi, h0⟩ := t
        have hlt : i < st.length := by have h1 : (i : Int) < (st.length : Int) := ht; omega
        refine ⟨⟨Int.natCast_nonneg _, ht⟩, hlt, fun hr => ⟨⟨h1, h2⟩, ?_⟩, fun hr => ⟨⟨i + 1, hlt, below_succ h0 ?_⟩, sucI i (by omega), dec1 hlt⟩⟩
        · have hs : sfM none (st.getD i (0, 0, 0)) = true := by
            have hr' : ((st.getD i (0, 0, 0)).2.2 != 0) = true := hr
            exact hr'
          have e := rests_any (t := ((s0, s1), (l0, l1), (g0, g1), full)) (p := ⟨⟨long, rise, change, ps⟩, st⟩) (by
            rw [Bool.not_eq_false', List.any_eq_true]
            exact ⟨_, by rw [List.getD_eq_getElem?_getD, List.getElem?_eq_getElem hlt]; exact List.getElem_mem hlt, hs⟩)
          rw [e]
          exact ⟨fun _ => ⟨fun _ => trivial, fun h => absurd h (by decide)⟩, fun h => absurd h (by decide)⟩
        · exact hr
      · obtain ⟨i, hi, h0⟩ := t
        have hie : i = st.length := by have h1 : ¬ (i : Int) < (st.length : Int) := ht; omega
        subst hie
        have hany : (!st.any fun s => sfM none s) = true := by
          rw [Bool.not_eq_true', List.any_eq_false]
          intro x hx
          obtain ⟨j, hj, rfl⟩ := List.getElem_of_mem hx
          have := h0 j hj
          simpa [List.getD_eq_getElem?_getD, hj] using this
        refine ⟨⟨h1, h2⟩, fun _ => trivial, fun h6 => ?_⟩
        rcases rests_law hop hany with ⟨e, hn2⟩ | ⟨e, hok, hsum⟩
        · have hg : (restsM ((s0, s1), (l0, l1), (g0, g1), full) ⟨⟨long, rise, change, ps⟩, st⟩).2 = 11 := by rw [e]
          have hl0 : (restsM ((s0, s1), (l0, l1), (g0, g1), full) ⟨⟨long, rise, change, ps⟩, st⟩).1 = [] := by rw [e]
          refine ⟨fun _ => ⟨fun _ => ⟨fun _ => ⟨fun _ => trivial, fun h => ?_⟩, fun h => absurd h (by rw [hl0]; decide)⟩, fun h => absurd h (by rw [hg]; decide)⟩, fun h => absurd h (by rw [hg]; decide)⟩
          rw [bne, hn2] at h; cases h
        · have hg : (restsM ((s0, s1), (l0, l1), (g0, g1), full) ⟨⟨long, rise, change, ps⟩, st⟩).2 = 0 := by rw [e]
          have hlen : (restsM ((s0, s1), (l0, l1), (g0, g1), full) ⟨⟨long, rise, change, ps⟩, st⟩).1.length = st.length := by rw [e]; exact go_len _ _ _ _
          have hget : ∀ j, j < st.length → (restsM ((s0, s1), (l0, l1), (g0, g1), full) ⟨⟨long, rise, change, ps⟩, st⟩).1.getD j 0 = minM st (worksM ⟨⟨long, rise, change, ps⟩, st⟩) (worstM ((s0, s1), (l0, l1), (g0, g1), full)) j := fun j hj => by rw [e]; exact go_get _ _ hj
          have f := fok_of hop hany
          have hmin : ∀ j, j < st.length → 0 ≤ (restsM ((s0, s1), (l0, l1), (g0, g1), full) ⟨⟨long, rise, change, ps⟩, st⟩).1.getD j 0 ∧ (restsM ((s0, s1), (l0, l1), (g0, g1), full) ⟨⟨long, rise, change, ps⟩, st⟩).1.getD j 0 ≤ 10000 := fun j hj => by
            rw [hget j hj]
            have := min_ok f hj (hok j hj)
            have h3 : minM st (worksM ⟨⟨long, rise, change, ps⟩, st⟩) (worstM ((s0, s1), (l0, l1), (g0, g1), full)) j ≤ full := this.2.1
            have h4 : 0 ≤ minM st (worksM ⟨⟨long, rise, change, ps⟩, st⟩) (worstM ((s0, s1), (l0, l1), (g0, g1), full)) j := this.1
            omega
          refine ⟨fun h => absurd h (by rw [hg]; decide), fun _ => ⟨fun h => absurd h (by rw [hlen]; simp), fun _ => ⟨⟨⟨0, Nat.zero_le _, fun j hj => absurd hj (Nat.not_lt_zero j)⟩, rfl, rfl⟩, fun t => ⟨fun ht => ?_, fun ht => ?_⟩⟩⟩⟩
          · obtain ⟨i, hi, h0⟩ := t
            have hlt : i < (restsM ((s0, s1), (l0, l1), (g0, g1), full) ⟨⟨long, rise, change, ps⟩, st⟩).1.length := by have h1 : (i : Int) < ((restsM ((s0, s1), (l0, l1), (g0, g1), full) ⟨⟨long, rise, change, ps⟩, st⟩).1.length : Int) := ht; omega
            have hm := hmin i (by omega)
            exact ⟨⟨Int.natCast_nonneg _, ht⟩, hlt, fun h => absurd h (by show ¬ (restsM ((s0, s1), (l0, l1), (g0, g1), full) ⟨⟨long, rise, change, ps⟩, st⟩).1.getD i 0 < 0; omega), fun _ => ⟨⟨i + 1, hlt, below_succ h0 hm.1⟩, ⟨rfl, sucI i (by omega)⟩, dec1 hlt⟩⟩
          · obtain ⟨i, hi, h0⟩ := t
            have hie : i = (restsM ((s0, s1), (l0, l1), (g0, g1), full) ⟨⟨long, rise, change, ps⟩, st⟩).1.length := by have h1 : ¬ (i : Int) < ((restsM ((s0, s1), (l0, l1), (g0, g1), full) ⟨⟨long, rise, change, ps⟩, st⟩).1.length : Int) := ht; omega
            subst hie
            refine ⟨⟨h1, by omega, hlen⟩, ?_⟩
            apply suff_of
            case h =>
              intro hS
              refine ⟨fun hk => ⟨fun h => ?_, fun _ => hS.get⟩, fun _ => hS.get⟩
              have := rested_yes hop hany hok hget hk
              rw [this] at h; cases h
            case hR =>
              refine ⟨fun h => ?_, fun _ => ⟨⟨⟨0, Nat.zero_le _⟩, rfl⟩, fun t => ⟨fun ht => ?_, fun _ => trivial⟩⟩⟩
              · have hsum' : (totM (restsM ((s0, s1), (l0, l1), (g0, g1), full) ⟨⟨long, rise, change, ps⟩, st⟩).1 (restsM ((s0, s1), (l0, l1), (g0, g1), full) ⟨⟨long, rise, change, ps⟩, st⟩).1.length == 0) = ((comesM ((s0, s1), (l0, l1), (g0, g1), full) ⟨⟨long, rise, change, ps⟩, st⟩).1 == 2) := by rw [hlen, e]; exact hsum
                rw [hsum'] at h; simp at h
              · obtain ⟨i, hi⟩ := t
                have hlt : i < (restsM ((s0, s1), (l0, l1), (g0, g1), full) ⟨⟨long, rise, change, ps⟩, st⟩).1.length := by have h1 : (i : Int) < ((restsM ((s0, s1), (l0, l1), (g0, g1), full) ⟨⟨long, rise, change, ps⟩, st⟩).1.length : Int) := ht; omega
                have hlt' : i < st.length := by omega
                have hm := hmin i (by omega)
                have hLL : ([] : List Int) ++ List.take (restsM ((s0, s1), (l0, l1), (g0, g1), full) ⟨⟨long, rise, change, ps⟩, st⟩).1.length (List.drop 0 (restsM ((s0, s1), (l0, l1), (g0, g1), full) ⟨⟨long, rise, change, ps⟩, st⟩).1) = (restsM ((s0, s1), (l0, l1), (g0, g1), full) ⟨⟨long, rise, change, ps⟩, st⟩).1 := by simp
                have nxt : ∃ x : { i : Nat // i ≤ (restsM ((s0, s1), (l0, l1), (g0, g1), full) ⟨⟨long, rise, change, ps⟩, st⟩).1.length }, IntKind.i64.wrap ((i : Int) + 1) = (x.1 : Int) ∧ (restsM ((s0, s1), (l0, l1), (g0, g1), full) ⟨⟨long, rise, change, ps⟩, st⟩).1.length - x.1 < (restsM ((s0, s1), (l0, l1), (g0, g1), full) ⟨⟨long, rise, change, ps⟩, st⟩).1.length - i := ⟨⟨i + 1, hlt⟩, sucI i (by omega), dec1 hlt⟩
                have hb : 0 ≤ (i : Int) ∧ (i : Int) < ((restsM ((s0, s1), (l0, l1), (g0, g1), full) ⟨⟨long, rise, change, ps⟩, st⟩).1.length : Int) := ⟨Int.natCast_nonneg _, ht⟩
                have hsu : IntKind.i64.wrap ((i : Int) + 1) = ((i + 1 : Nat) : Int) := sucI i (by omega)
                have hw : IntKind.i64.wrap ((restsM ((s0, s1), (l0, l1), (g0, g1), full) ⟨⟨long, rise, change, ps⟩, st⟩).1.getD i 0 - 1) = (restsM ((s0, s1), (l0, l1), (g0, g1), full) ⟨⟨long, rise, change, ps⟩, st⟩).1.getD i 0 - 1 := wrap_id (by omega) (by omega)
                simp only [hLL, hsu, Int.toNat_natCast, hw, List.length_set]
                refine ⟨hb, hlt, fun _ => nxt' nxt hsu, fun hz => ⟨Nat.le_refl _, ?_, hb, hlt, hb, hlt, ⟨h1, by omega, hlen⟩, fun h => ?_, fun _ => ⟨fun hi1 => ⟨⟨Int.natCast_nonneg _, hi1⟩, ?_, ⟨Int.natCast_nonneg _, hi1⟩, ?_, ⟨h1, by omega, hlen⟩, fun h => ?_, fun _ => ?_⟩, fun _ => ?_⟩⟩⟩
                · have := List.length_take_le (restsM ((s0, s1), (l0, l1), (g0, g1), full) ⟨⟨long, rise, change, ps⟩, st⟩).1.length (List.drop 0 (restsM ((s0, s1), (l0, l1), (g0, g1), full) ⟨⟨long, rise, change, ps⟩, st⟩).1)
                  omega
                · have hz' : ¬ (restsM ((s0, s1), (l0, l1), (g0, g1), full) ⟨⟨long, rise, change, ps⟩, st⟩).1.getD i 0 = 0 := by simpa using hz
                  have := rested_no (r := (restsM ((s0, s1), (l0, l1), (g0, g1), full) ⟨⟨long, rise, change, ps⟩, st⟩).1.set i ((restsM ((s0, s1), (l0, l1), (g0, g1), full) ⟨⟨long, rise, change, ps⟩, st⟩).1.getD i 0 - 1)) hop hany hlt' (fun j hj => hok j (by show j < st.length; omega)) (fun j hj => by rw [set_other (by omega)]; exact hget j (by omega)) (by rw [← hget i hlt']; omega) (by rw [set_same hlt, hget i hlt'])
                  rw [this] at h; cases h
                · have h9 : ((i + 1 : Nat) : Int) < ((restsM ((s0, s1), (l0, l1), (g0, g1), full) ⟨⟨long, rise, change, ps⟩, st⟩).1.length : Int) := hi1
                  omega
                · have h9 : ((i + 1 : Nat) : Int) < ((restsM ((s0, s1), (l0, l1), (g0, g1), full) ⟨⟨long, rise, change, ps⟩, st⟩).1.length : Int) := hi1
                  omega
                · have hz' : ¬ (restsM ((s0, s1), (l0, l1), (g0, g1), full) ⟨⟨long, rise, change, ps⟩, st⟩).1.getD i 0 = 0 := by simpa using hz
                  have := rested_no (r := ((restsM ((s0, s1), (l0, l1), (g0, g1), full) ⟨⟨long, rise, change, ps⟩, st⟩).1.set i ((restsM ((s0, s1), (l0, l1), (g0, g1), full) ⟨⟨long, rise, change, ps⟩, st⟩).1.getD i 0 - 1)).set (i + 1) (IntKind.i64.wrap (((restsM ((s0, s1), (l0, l1), (g0, g1), full) ⟨⟨long, rise, change, ps⟩, st⟩).1.set i ((restsM ((s0, s1), (l0, l1), (g0, g1), full) ⟨⟨long, rise, change, ps⟩, st⟩).1.getD i 0 - 1)).getD (i + 1) 0 + 1))) hop hany hlt' (fun j hj => hok j (by show j < st.length; omega)) (fun j hj => by rw [set_other (by omega), set_other (by omega)]; exact hget j (by omega)) (by rw [← hget i hlt']; omega) (by rw [set_other (by omega), set_same hlt, hget i hlt'])
                  rw [this] at h; cases h
                · exact nxt' nxt hsu
                · exact nxt' nxt hsu

end AE.Team

namespace AE
open Go Go.ChangeShapes Go.WideShapes

theorem Keeps.but {w w' : World} (h : Keeps (fun _ => False) w w') (may : MemPlace → Prop) : w.keptBut w' may := by
  refine ⟨h.os, h.output, fun i hi => ?_⟩
  have hb := h.block i hi fun h => h
  rw [hb]
  exact (World.keptBut_refl w may).2.2 i hi
theorem Keeps.frozen {w w' : World} (h : Keeps (fun _ => False) w w') (a : Addr) (ha : a.block < w.heap.size) : w'.frozen? a = w.frozen? a := by
  unfold World.frozen?
  rw [h.block a.block ha fun h => h]
theorem post_of_keeps {P : Program} {H : Type} {enc : TypeId × Value → H} {f : Func} {s : ChangeSpec} {apart fresh handsOn again : Bool} {W W' : World} {args : Array Value} {v : Value} {ds gs : List (DataW H)} {before pa pv : List MemPlace}
    (hW : DataW.Whole enc P f.params.toList s.vars apart W args.toList ds gs before)
    (hres : ∀ (b : Nat) (sp : Nat → Bool) (hd : Bool), DataW.TrodAll enc P W' b sp hd f.resultTypes.toList (v.resultList f.resultTypes.size) (s.fn H (ds ++ gs)).results [])
    (hargs : ∀ sp : Nat → Bool, (∀ p ∈ before, sp p.block = true) → DataW.TrodAll enc P W' 0 sp true f.params.toList args.toList (s.fn H (ds ++ gs)).args pa)
    (hvars : ∀ sp : Nat → Bool, (∀ p ∈ before, sp p.block = true) → DataW.TrodVars enc P W' sp s.vars (s.fn H (ds ++ gs)).vars pv)
    (hps : before = pa ++ pv) (hk : Keeps (fun _ => False) W W')
    (hok : ∀ (j : Nat) (t : TypeId) (r : Value), f.resultTypes[j]? = some t → (v.resultList f.resultTypes.size)[j]? = some r → Value.okWide P W' .any 0 t r) :
    s.post enc P f apart fresh handsOn again W args v W' := by
  have hlt := hW.lt
  have hold : ∀ p ∈ before, (fun b => decide (b < W.heap.size)) p.block = true := fun p hp => by simpa using hlt p hp
  have hb : ∀ p, p ∈ [] ++ pa ++ pv ↔ p ∈ before := fun p => by rw [hps, List.nil_append]
  refine ⟨ds, gs, before, [], pa, pv, hW, hres _ _ _, hargs _ hold, hvars _ hold, World.keptBut_mono (fun p hp => ⟨hp, ?_⟩) (hk.but _), fun _ => ?_⟩
  · exact Or.inr (List.mem_append.1 (hps ▸ hp))
  · obtain ⟨_, _, _, _, _, hz, hn⟩ := hW
    refine ⟨hok, _, _, [] ++ pa ++ pv, ⟨[] ++ pa, pv, trodAll_append (hargs _ (fun _ _ => rfl)) (hres _ _ _), hvars _ (fun _ _ => rfl), rfl, fun b off hp => ?_, fun ha => ?_⟩, fun p hp _ => (hb p).1 hp⟩
    · have hp' := (hb _).1 hp
      rw [hk.frozen _ (hlt _ hp')]
      exact hz b off hp'
    · have := hn ha
      rwa [hps, ← List.nil_append pa] at this
end AE

namespace AE
open Go Go.ChangeShapes Go.WideShapes Go.RowKit

theorem Keeps.below {w w' : World} (h : Keeps (fun _ => False) w w') : Below w.heap.size w w' :=
  ⟨h.os, h.tape, h.output, h.size, fun k hk => h.block k hk fun e => e⟩

/-- What a cell of a flat type holds. -/
inductive FK where
  | int (k : IntKind)
  | bool
def FK.ok : FK → Value → Prop
  | .int k, v => ∃ n, v = .int k n ∧ (Lit.int k n).wf = true
  | .bool, v => ∃ b, v = .bool b
def FKs : List FK → List Value → Prop
  | [], vs => vs = []
  | k :: ks, vs => ∃ v r, vs = v :: r ∧ k.ok v ∧ FKs ks r
theorem FKs.append : ∀ {a b : List FK} {x y : List Value}, FKs a x → FKs b y → FKs (a ++ b) (x ++ y)
  | [], _, _, _, h, k => by cases h; exact k
  | _ :: _, _, _, _, ⟨v, r, e, h1, h2⟩, k => ⟨v, _, by rw [e]; rfl, h1, h2.append k⟩
theorem FKs.length : ∀ {a : List FK} {x : List Value}, FKs a x → x.length = a.length
  | [], _, h => by cases h; rfl
  | _ :: _, _, ⟨v, r, e, _, h⟩ => by rw [e, List.length_cons, List.length_cons, h.length]

mutual
def flat (P : Program) : Nat → TypeId → Option (List FK)
  | 0, _ => none
  | n + 1, t => match P.underlying t with
    | some .bool => some [.bool]
    | some (.int k) => some [.int k]
    | some (.struct fs) => flatFs P n 0 fs.toList
    | _ => none
def flatFs (P : Program) : Nat → Nat → List Field → Option (List FK)
  | _, _, [] => some []
  | 0, _, _ :: _ => none
  | n + 1, o, f :: fs => match Nat.beq f.offset o, flat P n f.type with
    | true, some l => match Nat.beq (P.cellsOf f.type) l.length, flatFs P n (o + l.length) fs with
      | true, some r => some (l ++ r)
      | _, _ => none
    | _, _ => none
end

section
variable {H : Type} {enc : TypeId × Value → H} {P : Program} {w : World} {base : Nat} {spare : Nat → Bool} {held : Bool}
mutual
theorem flat_ok : ∀ (n : Nat) {t : TypeId} {ks : List FK} {fuel : Nat} {cs : List Value} {x : DataW H × List MemPlace}, flat P n t = some ks → P.cellsOf t = ks.length → DataW.trod enc P w base spare held fuel t cs = some x → FKs ks cs
  | 0, t, ks, fuel, cs, x, h, _, _ => by simp [flat] at h
  | n + 1, t, ks, fuel, cs, x, h, hc, hx => by
    unfold flat at h
    split at h
    · rename_i hu
      cases h
      cases fuel with
      | zero => simp [DataW.trod] at hx
      | succ m =>
        unfold DataW.trod at hx
        rw [hu] at hx
        split at hx <;> first | (simp_all; done) | skip
        rename_i b _ _
        exact ⟨_, _, rfl, ⟨_, rfl⟩, rfl⟩
    · rename_i k hu
      cases h
      cases fuel with
      | zero => simp [DataW.trod] at hx
      | succ m =>
        unfold DataW.trod at hx
        rw [hu] at hx
        split at hx <;> first | (simp_all; done) | skip
        split at hx
        · rename_i k1 _ _ he hh
          have he' : k = k1 := by simpa using he
          subst he'
          obtain ⟨rfl, hh⟩ := hh
          exact ⟨_, _, rfl, ⟨_, rfl, hh⟩, rfl⟩
        · cases hx
    · rename_i fs hu
      obtain ⟨xs, m, _, _, hl, hlen, hf⟩ := DataW.trod_struct hu hx
      have := flatFs_ok n (cs := cs) h (fun f hm => by
        obtain ⟨i, hi, rfl⟩ := List.getElem_of_mem hm
        have h1 : i < fs.size := by simpa using hi
        have h2 := hf i fs[i] (Array.getElem?_eq_getElem h1)
        rw [List.getElem?_eq_getElem (by omega)] at h2
        exact ⟨_, m, by rw [Array.getElem_toList]; exact h2⟩) (by rw [hl, hc]; omega)
      simpa using this
    · cases h
theorem flatFs_ok : ∀ (n : Nat) {o : Nat} {fs : List Field} {ks : List FK} {cs : List Value}, flatFs P n o fs = some ks →
    (∀ f ∈ fs, ∃ y m, DataW.trod enc P w base spare held m f.type ((cs.drop f.offset).take (P.cellsOf f.type)) = some y) → cs.length = o + ks.length → FKs ks (cs.drop o)
  | n, o, [], ks, cs, h, _, hl => by
    have : ks = [] := by cases n <;> simpa [flatFs] using h.symm
    subst this
    show cs.drop o = []
    exact List.drop_eq_nil_of_le (by simpa using Nat.le_of_eq hl)
  | 0, o, f :: fs, ks, cs, h, _, _ => by simp [flatFs] at h
  | n + 1, o, f :: fs, ks, cs, h, hf, hl => by
    unfold flatFs at h
    split at h
    case h_2 => cases h
    rename_i l ho hfl
    split at h
    case h_2 => cases h
    rename_i r hc hr
    cases h
    replace ho := Nat.eq_of_beq_eq_true ho
    replace hc := Nat.eq_of_beq_eq_true hc
    obtain ⟨y, m, hy⟩ := hf f (List.mem_cons_self ..)
    have h1 := flat_ok n hfl hc hy
    have h2 := flatFs_ok n (cs := cs) hr (fun g hg => hf g (List.mem_cons_of_mem _ hg)) (by rw [hl, List.length_append]; omega)
    rw [ho, hc] at h1
    have h3 := h1.append h2
    rw [← List.drop_drop, List.take_append_drop] at h3
    exact h3
end

theorem cells_get {a : Addr} {n : Nat} {cs : List Value} (h : w.cells? base a n = some cs) : cs.length = n ∧ ∀ j, j < n → w.cell? (a.add j) = cs[j]? := by
  unfold World.cells? at h
  split at h
  · exact ⟨by simpa using mapM_some_length h, fun j hj => mapM_some_get h j j (by simp [hj])⟩
  · cases h

theorem cell_spot {a : Addr} {v : Value} (h : w.cell? a = some v) : a.spot = none := by
  unfold World.cell? at h
  split at h
  · split at h
    · cases h
    · rename_i hs; simpa using hs
  · cases h

/-- A slice of flat elements, read as data, is a row of the executor's memory. -/
theorem row_of_trodQ {U : Uni} (c : U.C) (Q : U.ty c → Prop) {t e : TypeId} {ks : List FK} {n fuel : Nat} {v : Value} {x : DataW H × List MemPlace} (ht : P.underlying t = some (.slice e)) (hfl : flat P n e = some ks) (hce : P.cellsOf e = ks.length) (hsz : ks.length = U.sz c) (hpos : 0 < ks.length)
    (hdec : ∀ cs, FKs ks cs → ∃ x, U.enc c x = cs.map .v ∧ Q x) (h : DataW.trod enc P w base spare held fuel t [v] = some x) :
    ∃ (l : List (U.ty c)) (p : Place), l.length < 9223372036854775808 ∧ (∀ x ∈ l, Q x) ∧ (∀ π, BlkOk π w p (.ro c l)) ∧ ∀ (π : Plc) (id k : Nat), π id k = some p → Rep π (.sl id k 0 l.length) v := by
  rcases DataW.trod_slice ht h with ⟨h0, _⟩ | ⟨a, len, cap, elems, rest, m, _, hv, _, hb, hl, hm, hlen, hel, _, _⟩
  · cases h0
    refine ⟨[], ⟨0, 0, U.sz c, none, 0, 0⟩, by simp, fun x hx => by simp at hx, fun π => ⟨rfl, fun i x hi => by simp at hi⟩, fun π id k _ => ?_⟩
    simp only [Rep]
    exact ⟨none, 0, rfl, Nat.le_refl _, fun h => absurd h (Nat.lt_irrefl 0)⟩
  · cases hv
    have each : ∀ i, i < len → ∃ x : U.ty c, Q x ∧ ∀ j a1, (U.enc c x)[j]? = some a1 → ∃ y, w.cell? ((a.add (i * P.cellsOf e)).add j) = some y ∧ a1 = .v y := by
      intro i hi
      have h1 := hel i hi
      rw [List.getElem?_eq_getElem (by omega), Option.bind_eq_some_iff] at h1
      obtain ⟨cs, hcs, htr⟩ := h1
      obtain ⟨hcl, hcg⟩ := cells_get hcs
      obtain ⟨x, hx, hQ⟩ := hdec cs (flat_ok n hfl hce htr)
      refine ⟨x, hQ, fun j a1 hj => ?_⟩
      rw [hx, List.getElem?_map] at hj
      cases hc : cs[j]? with
      | none => rw [hc] at hj; cases hj
      | some y =>
        rw [hc] at hj
        have hjl := (List.getElem?_eq_some_iff.1 hc).1
        exact ⟨y, by rw [hcg j (by omega), hc], by simpa using hj.symm⟩
    have spot : 0 < len → a.spot = none := by
      intro h0
      obtain ⟨x, _, hx⟩ := each 0 h0
      have hl2 := U.len c x
      obtain ⟨y, hy, _⟩ := hx 0 ((U.enc c x)[0]'(by omega)) (List.getElem?_eq_getElem _)
      have h9 : (a.add (0 * P.cellsOf e)).add 0 = a := by simp [Addr.add]
      rw [h9] at hy
      exact cell_spot hy
    have : ∃ l : List (U.ty c), l.length = len ∧ ∀ i x, l[i]? = some x → Q x ∧ ∀ j a1, (U.enc c x)[j]? = some a1 → ∃ y, w.cell? ((a.add (i * P.cellsOf e)).add j) = some y ∧ a1 = .v y := by
      refine ⟨(List.range len).pmap (fun i hi => (each i hi).choose) (fun i hi => List.mem_range.1 hi), by simp, fun i x hi => ?_⟩
      rw [List.getElem?_pmap] at hi
      by_cases h0 : i < len
      · rw [Option.pmap_eq_some_iff] at hi
        obtain ⟨i', h1, h2, rfl⟩ := hi
        have : i' = i := by rw [List.getElem?_range h0] at h2; exact (Option.some.inj h2).symm
        subst this
        exact (each i' h1).choose_spec
      · simp [List.getElem?_eq_none (show (List.range len).length ≤ i by simp; omega)] at hi
    obtain ⟨l, hll, hl2⟩ := this
    have hQl : ∀ x ∈ l, Q x := fun x hx => by
      obtain ⟨i, hi⟩ := List.getElem?_of_mem hx
      exact (hl2 i x hi).1
    have hml : maxLen = 9223372036854775807 := by decide
    refine ⟨l, ⟨a.block, a.off, U.sz c, none, 0, 0⟩, by omega, hQl, fun π => ⟨rfl, fun i x hi j a1 hj => ?_⟩, fun π id k hp => ?_⟩
    · obtain ⟨y, hy, rfl⟩ := (hl2 i x hi).2 j a1 hj
      have hi' := (List.getElem?_eq_some_iff.1 hi).1
      have hs := spot (by omega)
      refine ⟨y, ?_, by simp [Rep]⟩
      rw [← hy]
      congr 1
      cases a
      simp only at hs
      subst hs
      simp only [Addr.add, hce, hsz]
      split <;> split <;> simp_all
    · simp only [Rep]
      refine ⟨some a, cap, by rw [hll], by omega, fun h0 => ⟨_, hp, ?_⟩⟩
      have hs := spot (by omega)
      cases a
      simp only at hs
      subst hs
      simp
/-- A slice of flat elements, read as data, is a row of the executor's memory. -/
theorem row_of_trod {U : Uni} (c : U.C) {t e : TypeId} {ks : List FK} {n fuel : Nat} {v : Value} {x : DataW H × List MemPlace} (ht : P.underlying t = some (.slice e)) (hfl : flat P n e = some ks) (hce : P.cellsOf e = ks.length) (hsz : ks.length = U.sz c) (hpos : 0 < ks.length)
    (hdec : ∀ cs, FKs ks cs → ∃ x, U.enc c x = cs.map .v) (h : DataW.trod enc P w base spare held fuel t [v] = some x) :
    ∃ (l : List (U.ty c)) (p : Place), l.length < 9223372036854775808 ∧ (∀ π, BlkOk π w p (.ro c l)) ∧ ∀ (π : Plc) (id k : Nat), π id k = some p → Rep π (.sl id k 0 l.length) v := by
  obtain ⟨l, p, a, _, b, d⟩ := row_of_trodQ c (fun _ => True) ht hfl hce hsz hpos (fun cs hc => by
    obtain ⟨x, hx⟩ := hdec cs hc
    exact ⟨x, hx, trivial⟩) h
  exact ⟨l, p, a, b, d⟩
end

/-- Rows that are only read, as memory. -/
def rosPlc (ps : List Place) : Plc := fun id k => if k = 0 then ps[id]? else none
theorem rosPlc_fresh (ps : List Place) : Fresh (rosPlc ps) ps.length := by
  intro id k h
  unfold rosPlc
  split
  · rw [List.getElem?_eq_none h]
  · rfl
def roH {U : Uni} (bs : List ((c : U.C) × List (U.ty c))) : Heap U := bs.map fun b => .one (.ro b.1 b.2)
theorem roH_at {U : Uni} {bs : List ((c : U.C) × List (U.ty c))} {id k : Nat} {b : AB1 U} (h : (roH bs).at id k = some b) : k = 0 ∧ ∃ c, bs[id]? = some c ∧ b = .ro c.1 c.2 := by
  unfold Heap.at roH at h
  rw [List.getElem?_map] at h
  cases hb : bs[id]? with
  | none => rw [hb] at h; cases h
  | some c =>
    rw [hb] at h
    simp only [Option.map_some] at h
    split at h
    · rename_i e; exact ⟨e, c, rfl, by simpa using h.symm⟩
    · cases h
theorem roH_conc {U : Uni} {w : World} {bs : List ((c : U.C) × List (U.ty c))} {ps : List Place} (hl : ps.length = bs.length) (h : ∀ (i : Nat) (b : (c : U.C) × List (U.ty c)) (p : Place), bs[i]? = some b → ps[i]? = some p → ∀ π, BlkOk (U := U) π w p (.ro b.1 b.2)) : Conc (rosPlc ps) (roH bs) w where
  ok := fun id k b hb => by
    obtain ⟨rfl, c, hc, rfl⟩ := roH_at hb
    have h1 := (List.getElem?_eq_some_iff.1 hc).1
    refine ⟨ps[id], ?_, h id c _ hc (List.getElem?_eq_getElem (by omega)) _⟩
    unfold rosPlc
    rw [if_pos rfl, List.getElem?_eq_getElem (by omega)]
  sep := fun id k b id' k' b' p p' hb _ _ ho => by
    obtain ⟨rfl, c, hc, rfl⟩ := roH_at hb
    cases ho

/-- Arguments read in a world that keeps all that was there as they read before. -/
theorem trodAll_stays {H : Type} {enc : TypeId × Value → H} {P : Program} (hl : laidOutB P = true) {W W' : World} {sp' : Nat → Bool} : ∀ {ts : List TypeId} {vs : List Value} {ds : List (DataW H)} {ps : List MemPlace},
    (ts.all fun t => P.readableRec t && decide (t < P.types.size)) = true → DataW.TrodAll enc P W 0 (fun _ => true) true ts vs ds ps → (∀ p ∈ ps, W.sameAt W' p) → (∀ p ∈ ps, sp' p.block = true) → DataW.TrodAll enc P W' 0 sp' true ts vs ds ps
  | [], [], [], _, _, h, _, _ => h
  | _ :: _, _ :: _, _ :: _, _, ht, ⟨p, q, h1, h2, e⟩, hs, hp => by
    simp only [List.all_cons, Bool.and_eq_true, decide_eq_true_eq] at ht
    exact ⟨p, q, WideElems.Trod_stays hl ht.1.1 ht.1.2 h1 (fun x hx => hs x (by rw [e]; exact List.mem_append_left _ hx)) (fun x hx => hp x (by rw [e]; exact List.mem_append_left _ hx)),
      trodAll_stays hl ht.2 h2 (fun x hx => hs x (by rw [e]; exact List.mem_append_right _ hx)) (fun x hx => hp x (by rw [e]; exact List.mem_append_right _ hx)), e⟩

/-- A law without named variables, by its walk: 'it returns true; the arguments read as they did'. -/
theorem law_lifted {C : Checked} {f : FuncId} {fn : Func} {s : ChangeSpec} {conds : List PathCond} (own : ownKnob C.prog.godebug = none) {os : Os} (started : os.Started) {H : Type} {enc : TypeId × Value → H} (noInit : C.prog.inits.idxOf? f = none) (hfn : C.prog.funcs[f]? = some fn)
    (witness : ∃ (w : World) (tape : Tape) (i : Input), w.os = os ∧ (w.forCall tape i).Shaped C.prog ∧ i.vars = [] ∧ Input.okWide C.prog (w.forCall tape i) .any w.heap.size f i ∧ s.pre6 enc C.prog fn conds false (w.forCall tape i).memory i.args ∧ ({} : Assume).holds C.prog (lone (Frame.enter C.prog f i.args .normal) [] (w.forCall tape i)))
    (hl : laidOutB C.prog = true) (hts : (fn.params.toList.all fun t => C.prog.readableRec t && decide (t < C.prog.types.size)) = true) {rt : TypeId} (hrt : fn.resultTypes = #[rt]) (hb : C.prog.underlying rt = some .bool)
    (hvars : s.vars = []) (hspec : ∀ ds : List (DataW H), ds.length = fn.params.size → (s.fn H ds).results = [.lit (.bool true)] ∧ (s.fn H ds).args = ds ∧ (s.fn H ds).vars = [])
    (walk : ∀ (W : World) (args : Array Value) (ds : List (DataW H)) (ps : List MemPlace), DataW.TrodAll enc C.prog W 0 (fun _ => true) true fn.params.toList args.toList ds ps → (∀ (j : Nat) t v, fn.params[j]? = some t → args[j]? = some v → ∃ base, Value.okWide C.prog W .any base t v) →
      Calls C.prog f args W fun e w' => e = .returned (.bool true) ∧ Keeps (fun _ => False) W w') :
    ReturnsInHanded {} C os f .any (s.pre6 enc C.prog fn conds false) (s.post enc C.prog fn false true false false) := by
  refine returnsInHanded_of_change (C := C) own started noInit hfn witness ?_
  intro W base args ds gs before hval hW hcnd _
  have hW' := hW
  obtain ⟨p, q, hA, hV, rfl, hfz, hnd⟩ := hW
  rw [hvars] at hV
  obtain ⟨rfl, rfl⟩ := trodVars_none hV
  simp only [List.append_nil] at hW'
  have hlen : ds.length = fn.params.size := by
    have : ∀ {ts : List TypeId} {vs : List Value} {ds : List (DataW H)} {ps : List MemPlace}, DataW.TrodAll enc C.prog W 0 (fun _ => true) true ts vs ds ps → ds.length = ts.length := by
      intro ts
      induction ts with
      | nil => intro vs ds ps h; obtain ⟨_, rfl, _⟩ := trodAll_nil h; rfl
      | cons t ts ih =>
        intro vs ds ps h
        obtain ⟨_, _, _, ds', _, _, _, rfl, _, _, h2⟩ := trodAll_cons h
        simp [ih h2]
    rw [this hA]; simp
  obtain ⟨s1, s2, s3⟩ := hspec (ds ++ []) (by simpa using hlen)
  refine (walk W args ds p hA fun j t v h1 h2 => ⟨base, hval j t v h1 h2⟩).mono fun e W' ⟨he, hg⟩ => ?_
  subst he
  refine ⟨_, rfl, post_of_keeps (pa := p) (pv := []) hW' (fun b sp hd => ?_) (fun sp hsp => ?_) (fun sp _ => ?_) (by simp) hg ?_⟩
  · rw [s1, hrt]
    exact trodAll_cons_mk (shut_bool hb _) trodAll_mk0
  · rw [s2, List.append_nil]
    have hlt := hW'.lt
    exact trodAll_stays hl hts hA (fun x hx => hg.below.same (by simpa using hlt x hx)) fun x hx => hsp x hx
  · rw [s3, hvars]; rfl
  · exact ok_one hrt rfl (okWide_bool_mk hb _)

theorem agg_of_cells {v : Value} {l : List Value} (h : v.cells.toList = l) (hl : l.length ≠ 1) : v = .agg l.toArray := by
  cases v with
  | agg cs => simp only [Value.cells] at h; rw [← h]
  | _ => simp only [Value.cells] at h; rw [← h] at hl; exact absurd rfl hl
/-- A flat value read as data: its cells. -/
theorem flat_cells {H : Type} {enc : TypeId × Value → H} {P : Program} {w : World} {base : Nat} {spare : Nat → Bool} {held : Bool} {t : TypeId} {v : Value} {d : DataW H} {ps : List MemPlace} {ks : List FK} (n : Nat) (hfl : flat P n t = some ks) (hce : P.cellsOf t = ks.length) (h : DataW.Trod enc P w base spare held t v d ps) : FKs ks v.cells.toList := by
  obtain ⟨fuel, h⟩ := h
  exact flat_ok n hfl hce h
theorem flat_agg {H : Type} {enc : TypeId × Value → H} {P : Program} {w : World} {base : Nat} {spare : Nat → Bool} {held : Bool} {t : TypeId} {v : Value} {d : DataW H} {ps : List MemPlace} {ks : List FK} (n : Nat) (hfl : flat P n t = some ks) (hce : P.cellsOf t = ks.length) (hne : ks.length ≠ 1) (h : DataW.Trod enc P w base spare held t v d ps) : ∃ l, FKs ks l ∧ v = .agg l.toArray := by
  have h1 := flat_cells n hfl hce h
  exact ⟨_, h1, agg_of_cells rfl (by rw [h1.length]; exact hne)⟩
end AE

namespace AE.Soil
open Go AE Go.Proofs Go.ChangeShapes Go.WideShapes Go.RowKit

theorem laidOut : laidOutB Try.prog = true := by kernel_rfl
theorem flatP : flat Try.prog 30 61 = some [.int .i64, .int .i64, .int .i64, .int .i64, .int .i64, .int .i64, .int .i64, .int .i64, .int .i64] := by kernel_rfl
theorem decP (cs : List Value) (h : FKs [.int .i64, .int .i64, .int .i64, .int .i64, .int .i64, .int .i64, .int .i64, .int .i64, .int .i64] cs) : ∃ x : PitT, CC.enc .pit x = cs.map .v := by
  obtain ⟨_, _, rfl, ⟨a, rfl, _⟩, _, _, rfl, ⟨b, rfl, _⟩, _, _, rfl, ⟨c, rfl, _⟩, _, _, rfl, ⟨d, rfl, _⟩, _, _, rfl, ⟨e, rfl, _⟩, _, _, rfl, ⟨f, rfl, _⟩, _, _, rfl, ⟨g, rfl, _⟩, _, _, rfl, ⟨i, rfl, _⟩, _, _, rfl, ⟨j, rfl, _⟩, h⟩ := h
  cases h
  exact ⟨(a, (b, c), (d, e), (f, g), (i, j)), rfl⟩
def bigG (g : GroundT) : Prop := g.pits.length < 9223372036854775808

section
variable {H : Type} {enc : TypeId × Value → H} {w : World} {d : DataW H} {ps : List MemPlace} {v : Value}
end
end AE.Soil

namespace AE.Team
open Go AE Go.Proofs AE.Soil Go.ChangeShapes Go.WideShapes Go.RowKit

theorem flatS : flat Try.prog 30 55 = some [.int .i64, .int .i64, .int .i64] := by kernel_rfl
theorem flatT : flat Try.prog 30 28 = some [.int .i64, .int .i64, .int .i64, .int .i64, .int .i64, .int .i64, .int .i64] := by kernel_rfl
theorem decS (cs : List Value) (h : FKs [.int .i64, .int .i64, .int .i64] cs) : ∃ x : StepT, CC.enc .tstep x = cs.map .v := by
  obtain ⟨_, _, rfl, ⟨a, rfl, _⟩, _, _, rfl, ⟨b, rfl, _⟩, _, _, rfl, ⟨c, rfl, _⟩, h⟩ := h
  cases h
  exact ⟨(a, b, c), rfl⟩
section
variable {H : Type} {enc : TypeId × Value → H} {w : World} {d : DataW H} {ps : List MemPlace} {v : Value}
set_option maxRecDepth 100000 in
theorem open_teamA (h : DataW.Trod enc Try.prog w 0 (fun _ => true) true 28 v d ps) : ∃ x : TeamT, ∀ π : Plc, Rep π (vTeam x) v := by
  obtain ⟨l, hk, rfl⟩ := flat_agg 30 flatT (by kernel_rfl) (by decide) h
  obtain ⟨_, _, rfl, ⟨a, rfl, _⟩, _, _, rfl, ⟨b, rfl, _⟩, _, _, rfl, ⟨c, rfl, _⟩, _, _, rfl, ⟨d, rfl, _⟩, _, _, rfl, ⟨e, rfl, _⟩, _, _, rfl, ⟨f, rfl, _⟩, _, _, rfl, ⟨g, rfl, _⟩, hz⟩ := hk
  cases hz
  refine ⟨((a, b), (c, d), (e, f), g), fun π => ?_⟩
  simp only [vTeam, Rep]
  exact ⟨_, rfl, RepL.cons (by simp [Rep]) (RepL.cons (by simp [Rep]) (RepL.cons (by simp [Rep]) (RepL.cons (by simp [Rep]) (RepL.cons (by simp [Rep]) (RepL.cons (by simp [Rep]) (RepL.cons (by simp [Rep]) (RepL.nil π)))))))⟩
set_option maxRecDepth 100000 in
theorem ground_cells {m : Nat} {l : List Value} {y : DataW H × List MemPlace} (h : DataW.trod enc Try.prog w 0 (fun _ => true) true m 32 l = some y) :
    ∃ (x : GroundT) (p : Place) (s : Value), bigG x ∧ (∀ π, BlkOk π w p (.ro (U := UU) .pit x.pits)) ∧ l = [.int .i64 x.long, .int .i64 x.rise, .int .i64 x.change, s] ∧ ∀ (π : Plc) (id : Nat), π id 0 = some p → Rep π (.sl id 0 0 x.pits.length) s := by
  obtain ⟨xs, m, _, _, hl, hlen, hf⟩ := DataW.trod_struct Try.underlying32 h
  have hc : Try.prog.cellsOf 32 = 4 := by kernel_rfl
  have c3 : Try.prog.cellsOf 3 = 1 := by kernel_rfl
  have c22 : Try.prog.cellsOf 30 = 1 := by kernel_rfl
  have fl3 : flat Try.prog 30 3 = some [.int .i64] := by kernel_rfl
  rw [hc] at hl
  have hx : ∀ i, i < 4 → ∃ y, xs[i]? = some y := fun i hi => ⟨_, List.getElem?_eq_getElem (by have : xs.length = 4 := hlen; omega)⟩
  match l, hl with
  | [a, b, c, e], _ =>
  obtain ⟨y0, e0⟩ := hx 0 (by omega)
  obtain ⟨y1, e1⟩ := hx 1 (by omega)
  obtain ⟨y2, e2⟩ := hx 2 (by omega)
  obtain ⟨y3, e3⟩ := hx 3 (by omega)
  have f0 : DataW.trod enc Try.prog w 0 (fun _ => true) true m 3 (([a, b, c, e].drop 0).take (Try.prog.cellsOf 3)) = xs[0]? := hf 0 _ rfl
  have f1 : DataW.trod enc Try.prog w 0 (fun _ => true) true m 3 (([a, b, c, e].drop 1).take (Try.prog.cellsOf 3)) = xs[1]? := hf 1 _ rfl
  have f2 : DataW.trod enc Try.prog w 0 (fun _ => true) true m 3 (([a, b, c, e].drop 2).take (Try.prog.cellsOf 3)) = xs[2]? := hf 2 _ rfl
  have f3 : DataW.trod enc Try.prog w 0 (fun _ => true) true m 30 (([a, b, c, e].drop 3).take (Try.prog.cellsOf 30)) = xs[3]? := hf 3 _ rfl
  rw [e0, c3] at f0
  rw [e1, c3] at f1
  rw [e2, c3] at f2
  rw [e3, c22] at f3
  obtain ⟨_, _, h0, ⟨n0, rfl, w0⟩, r0⟩ := flat_ok 30 fl3 c3 f0
  obtain ⟨_, _, h1, ⟨n1, rfl, w1⟩, r1⟩ := flat_ok 30 fl3 c3 f1
  obtain ⟨_, _, h2, ⟨n2, rfl, w2⟩, r2⟩ := flat_ok 30 fl3 c3 f2
  have h0' : a = .int .i64 n0 := (List.cons.inj h0).1
  have h1' : b = .int .i64 n1 := (List.cons.inj h1).1
  have h2' : c = .int .i64 n2 := (List.cons.inj h2).1
  obtain ⟨cs, p, hcs, hp, hpr⟩ := row_of_trod (U := UU) CC.pit Try.underlying30 flatP (by kernel_rfl) rfl (by decide) AE.Soil.decP f3
  subst h0' h1' h2'
  exact ⟨⟨n0, n1, n2, cs⟩, p, e, hcs, hp, rfl, fun π id h3 => hpr π id 0 h3⟩
set_option maxRecDepth 100000 in
theorem open_plotA (h : DataW.Trod enc Try.prog w 0 (fun _ => true) true 35 v d ps) :
    ∃ (x : PlotT) (p q : Place), bigP x ∧ (∀ π, BlkOk π w p (.ro (U := UU) .pit x.g.pits)) ∧ (∀ π, BlkOk π w q (.ro (U := UU) .tstep x.steps)) ∧ ∀ (π : Plc) (a b : Nat), π a 0 = some p → π b 0 = some q → Rep π (vPlot x a b) v := by
  obtain ⟨fuel, h⟩ := h
  obtain ⟨xs, m, _, _, hl, hlen, hf⟩ := DataW.trod_struct Try.underlying35 h
  have hc : Try.prog.cellsOf 35 = 5 := by kernel_rfl
  have c4 : Try.prog.cellsOf 32 = 4 := by kernel_rfl
  have c1 : Try.prog.cellsOf 33 = 1 := by kernel_rfl
  rw [hc] at hl
  have hv := agg_of_cells (v := v) rfl (by omega)
  obtain ⟨l, hl2⟩ : ∃ l, v.cells.toList = l := ⟨_, rfl⟩
  rw [hl2] at hl hv hf
  subst hv
  have hx : ∀ i, i < 2 → ∃ y, xs[i]? = some y := fun i hi => ⟨_, List.getElem?_eq_getElem (by have : xs.length = 2 := hlen; omega)⟩
  match l, hl with
  | [a, b, c, e, s], _ =>
  obtain ⟨y0, e0⟩ := hx 0 (by omega)
  obtain ⟨y1, e1⟩ := hx 1 (by omega)
  have f0 : DataW.trod enc Try.prog w 0 (fun _ => true) true m 32 (([a, b, c, e, s].drop 0).take (Try.prog.cellsOf 32)) = xs[0]? := hf 0 _ rfl
  have f1 : DataW.trod enc Try.prog w 0 (fun _ => true) true m 33 (([a, b, c, e, s].drop 4).take (Try.prog.cellsOf 33)) = xs[1]? := hf 1 _ rfl
  rw [e0, c4] at f0
  rw [e1, c1] at f1
  obtain ⟨g, p, sv, hg, hp, hcells, hr⟩ := ground_cells f0
  obtain ⟨cs, q, hcs, hq, hqr⟩ := row_of_trod (U := UU) CC.tstep Try.underlying33 flatS (by kernel_rfl) rfl (by decide) decS f1
  have hcells' : [a, b, c, e] = [.int .i64 g.long, .int .i64 g.rise, .int .i64 g.change, sv] := hcells
  simp only [List.cons.injEq, and_true] at hcells'
  obtain ⟨rfl, rfl, rfl, rfl⟩ := hcells'
  refine ⟨⟨g, cs⟩, p, q, ⟨hg, hcs⟩, hp, hq, fun π i j h1 h2 => ?_⟩
  simp only [vPlot, cPlot, Rep]
  exact ⟨_, rfl, RepL.cons (by simp [Rep]) (RepL.cons (by simp [Rep]) (RepL.cons (by simp [Rep]) (RepL.cons (hr π i h1) (RepL.cons (hqr π j 0 h2) (RepL.nil π)))))⟩
end
/-- A law that takes a plot and more: its walk. -/
theorem walk_plot {f : FuncId} {W : World} {args : Array Value} {x : PlotT} {p q : Place} {al : List AV} (h : FunOk Try.prog f al (hPlot x) (.val ⟨.b true, [], [], []⟩)) (hp : ∀ π, BlkOk π W p (.ro (U := UU) .pit x.g.pits)) (hq : ∀ π, BlkOk π W q (.ro (U := UU) .tstep x.steps))
    (hr : RepL (rosPlc [p, q]) al args.toList) : Calls Try.prog f args W fun e w' => e = .returned (.bool true) ∧ Keeps (fun _ => False) W w' := by
  have hc : Conc (rosPlc [p, q]) (hPlot x) W := roH_conc (U := UU) (bs := [⟨CC.pit, x.g.pits⟩, ⟨CC.tstep, x.steps⟩]) rfl fun i b p' hb hp' π => by
    match i with
    | 0 => cases hb; cases hp'; exact hp π
    | 1 => cases hb; cases hp'; exact hq π
    | i + 2 => cases hb
  have hF := h (rosPlc [p, q]) W args.toList (rosPlc_fresh [p, q]) hc hr
  refine hF.mono fun e w' hh => ?_
  obtain ⟨v, πn, rfl, hpo⟩ := hh
  have hb := rep_v hpo.rep
  subst hb
  refine ⟨rfl, hpo.keeps.weaken fun n _ hn => ?_⟩
  obtain ⟨id, k, p, b0, hu, _⟩ := hn
  rcases hu with ⟨b, hb⟩ | hb <;> cases hb
end AE.Team
