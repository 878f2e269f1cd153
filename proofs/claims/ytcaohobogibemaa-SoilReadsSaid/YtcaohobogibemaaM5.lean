/- An own symbolic executor for the model's code, and what the functions beneath the law compute, joined out of: SoRD0, SoRD, SoRE, SoEA, SoEB, SoRF, SoRG, PrR, AeR, SsR. No condition. -/
import Derived.Test.YtcaohobogibemaaM4
import Derived.Test.YtcaohobogibemaaRows
import Derived.ProofKit
import Derived.OpenShut
import Derived.Below
import Derived.Carry
import Derived.ChangeArms

set_option linter.unusedSimpArgs false
set_option linter.unusedVariables false
namespace AE.Soil
open Go AE Go.Proofs

def d0 : Span := (0, 0)
/-- All places, and what pits tell. -/
def base0M (g : GroundT) (i : Nat) : List Span := (List.range i).map fun _ => ((0 : Int), (1000 : Int))
def base1M (g : GroundT) : Nat → List Span
  | 0 => base0M g (nM g)
  | i + 1 => (base1M g i).set (g.pits.getD i pit0).1.toNat (g.pits.getD i pit0).2.1
/-- One place and the one ahead of it narrow each other. -/
def pairM (r : Int) (l : List Span) (x : Nat) : List Span :=
  (l.set (x - 1) (max (l.getD (x - 1) (0, 0)).1 (W ((l.getD x (0, 0)).1 - r)), min (l.getD (x - 1) (0, 0)).2 (W ((l.getD x (0, 0)).2 + r)))).set x (max (l.getD x (0, 0)).1 (W ((l.getD (x - 1) (0, 0)).1 - r)), min (l.getD x (0, 0)).2 (W ((l.getD (x - 1) (0, 0)).2 + r)))
/-- A way along all places: up to a place. -/
def sweepM (r : Int) (l : List Span) : Nat → List Span
  | 0 => l
  | x + 1 => pairM r (sweepM r l x) (x + 1)
def roundM (g : GroundT) : Nat → List Span
  | 0 => base1M g g.pits.length
  | k + 1 => sweepM g.rise (roundM g k) (nM g - 1)
theorem pair_len (r : Int) (l : List Span) (x : Nat) : (pairM r l x).length = l.length := by unfold pairM; rw [List.length_set, List.length_set]
theorem sweep_len (r : Int) (l : List Span) : ∀ x, (sweepM r l x).length = l.length
  | 0 => rfl
  | x + 1 => by unfold sweepM; rw [pair_len, sweep_len r l x]
theorem base1_len (g : GroundT) : ∀ i, (base1M g i).length = nM g
  | 0 => by simp [base1M, base0M]
  | i + 1 => by unfold base1M; rw [List.length_set, base1_len g i]
theorem round_len (g : GroundT) : ∀ k, (roundM g k).length = nM g
  | 0 => base1_len g _
  | k + 1 => by unfold roundM; rw [sweep_len, round_len g k]
theorem getD_set {α : Type} (l : List α) (i j : Nat) (x d : α) (hi : i < l.length) : (l.set i x).getD j d = if i = j then x else l.getD j d := by
  rw [List.getD_eq_getElem?_getD, List.getElem?_set]
  split
  · simp [hi]
  · rw [List.getD_eq_getElem?_getD]
/-- Nothing that is told is too much, and all numbers are small. -/
structure Snd (g : GroundT) (l : List Span) : Prop where
  len : l.length = nM g
  lo : ∀ k : Nat, k < nM g → 0 ≤ (l.getD k (0, 0)).1 ∧ (l.getD k (0, 0)).1 ≤ (hardM g (k : Int)).1
  hi : ∀ k : Nat, k < nM g → (hardM g (k : Int)).2 ≤ (l.getD k (0, 0)).2 ∧ (l.getD k (0, 0)).2 ≤ 1000
theorem lo_le {g : GroundT} (hg : GOk g) {k : Int} (hk : Pl g k) : (hardM g k).1 ≤ 1000 := by
  refine (hard_lo hg hk 1000).2 ⟨by decide, fun p hp => ?_⟩
  have h := (hg.pits p hp).hard
  have := h.1; have := h.2.1; have := h.2.2
  have := DR_nonneg p.1 k g.rise hg.rise.1
  omega
theorem hi_ge {g : GroundT} (hg : GOk g) {k : Int} (hk : Pl g k) : 0 ≤ (hardM g k).2 := by
  refine (hard_hi hg hk 0).2 ⟨by decide, fun p hp => ?_⟩
  have h := (hg.pits p hp).hard
  have := h.1; have := h.2.1; have := h.2.2
  have := DR_nonneg p.1 k g.rise hg.rise.1
  omega
theorem base1_suc (g : GroundT) (i : Nat) : base1M g (i + 1) = (base1M g i).set (g.pits.getD i pit0).1.toNat (g.pits.getD i pit0).2.1 := rfl
theorem base1_snd {g : GroundT} (hg : GOk g) : ∀ i, i ≤ g.pits.length → Snd g (base1M g i)
  | 0, _ => by
    have e : ∀ k : Nat, k < nM g → (base1M g 0).getD k (0, 0) = (0, 1000) := fun k hk => by
      show (base0M g (nM g)).getD k (0, 0) = _
      unfold base0M
      rw [map_get _ _ _ _ hk]
    refine ⟨base1_len g 0, fun k hk => ?_, fun k hk => ?_⟩
    · rw [e k hk]; exact ⟨Int.le_refl _, hard_ge0 hg (pl_of hg hk)⟩
    · rw [e k hk]; exact ⟨hard_le1000 hg (pl_of hg hk), Int.le_refl _⟩
  | i + 1, h => by
    obtain ⟨h1, h2, h3⟩ := base1_snd hg i (by omega)
    have hm : g.pits.getD i pit0 ∈ g.pits := by rw [List.getD_eq_getElem?_getD, List.getElem?_eq_getElem (show i < g.pits.length by omega)]; exact List.getElem_mem _
    have hp := hg.pits _ hm
    have hpt := hard_pit hg hm
    have hat := hp.at_
    have hh := hp.hard
    have hn := (n_ok hg).1
    have hlt : (g.pits.getD i pit0).1.toNat < (base1M g i).length := by rw [h1]; omega
    refine ⟨base1_len g _, fun k hk => ?_, fun k hk => ?_⟩
    · rw [base1_suc, getD_set _ _ _ _ _ hlt]
      split
      · rename_i he
        have e : ((k : Nat) : Int) = (g.pits.getD i pit0).1 := by omega
        rw [e]; exact ⟨hh.1, hpt.1⟩
      · exact h2 k hk
    · rw [base1_suc, getD_set _ _ _ _ _ hlt]
      split
      · rename_i he
        have e : ((k : Nat) : Int) = (g.pits.getD i pit0).1 := by omega
        rw [e]; exact ⟨hpt.2, hh.2.2⟩
      · exact h3 k hk
/-- A pair, place by place. -/
theorem pair_get {g : GroundT} (hg : GOk g) {l : List Span} (h : Snd g l) {x : Nat} (h0 : 0 < x) (hx : x < nM g) (k : Nat) : (pairM g.rise l x).getD k (0, 0) = if x = k then (max (l.getD x (0, 0)).1 ((l.getD (x - 1) (0, 0)).1 - g.rise), min (l.getD x (0, 0)).2 ((l.getD (x - 1) (0, 0)).2 + g.rise)) else if x - 1 = k then (max (l.getD (x - 1) (0, 0)).1 ((l.getD x (0, 0)).1 - g.rise), min (l.getD (x - 1) (0, 0)).2 ((l.getD x (0, 0)).2 + g.rise)) else l.getD k (0, 0) := by
  have hr := hg.rise
  have a1 := h.lo x hx
  have a2 := h.hi x hx
  have b1 := h.lo (x - 1) (by omega)
  have b2 := h.hi (x - 1) (by omega)
  have c1 := lo_le hg (pl_of hg hx)
  have c2 := hi_ge hg (pl_of hg hx)
  have e1 := lo_le hg (pl_of hg (show x - 1 < nM g by omega))
  have e2 := hi_ge hg (pl_of hg (show x - 1 < nM g by omega))
  unfold pairM
  rw [getD_set _ _ _ _ _ (by rw [List.length_set, h.len]; exact hx), getD_set _ _ _ _ _ (by rw [h.len]; omega)]
  rw [show W ((l.getD x (0, 0)).1 - g.rise) = (l.getD x (0, 0)).1 - g.rise from wrap_id (by omega) (by omega), show W ((l.getD x (0, 0)).2 + g.rise) = (l.getD x (0, 0)).2 + g.rise from wrap_id (by omega) (by omega), show W ((l.getD (x - 1) (0, 0)).1 - g.rise) = (l.getD (x - 1) (0, 0)).1 - g.rise from wrap_id (by omega) (by omega), show W ((l.getD (x - 1) (0, 0)).2 + g.rise) = (l.getD (x - 1) (0, 0)).2 + g.rise from wrap_id (by omega) (by omega)]
theorem pair_snd {g : GroundT} (hg : GOk g) {l : List Span} (h : Snd g l) {x : Nat} (h0 : 0 < x) (hx : x < nM g) : Snd g (pairM g.rise l x) := by
  have px := pl_of hg hx
  have py := pl_of hg (show x - 1 < nM g by omega)
  have hd : D ((x : Nat) : Int) ((x - 1 : Nat) : Int) = 1 := by unfold D; omega
  have hd2 : D ((x - 1 : Nat) : Int) ((x : Nat) : Int) = 1 := by unfold D; omega
  have l1 := lip_lo hg px py
  have l2 := lip_lo hg py px
  have u1 := lip_hi hg px py
  have u2 := lip_hi hg py px
  rw [hd, Int.one_mul] at l1 u1
  rw [hd2, Int.one_mul] at l2 u2
  have a1 := h.lo x hx
  have a2 := h.hi x hx
  have b1 := h.lo (x - 1) (by omega)
  have b2 := h.hi (x - 1) (by omega)
  refine ⟨by rw [pair_len]; exact h.len, fun k hk => ?_, fun k hk => ?_⟩
  · rw [pair_get hg h h0 hx]
    split
    · rename_i e; subst e; dsimp only; omega
    · split
      · rename_i e; subst e; dsimp only; omega
      · exact h.lo k hk
  · rw [pair_get hg h h0 hx]
    split
    · rename_i e; subst e; dsimp only; omega
    · split
      · rename_i e; subst e; dsimp only; omega
      · exact h.hi k hk
theorem pair_mono {g : GroundT} (hg : GOk g) {l : List Span} (h : Snd g l) {x : Nat} (h0 : 0 < x) (hx : x < nM g) (k : Nat) : (l.getD k (0, 0)).1 ≤ ((pairM g.rise l x).getD k (0, 0)).1 ∧ ((pairM g.rise l x).getD k (0, 0)).2 ≤ (l.getD k (0, 0)).2 := by
  rw [pair_get hg h h0 hx]
  split
  · rename_i e; subst e; dsimp only; omega
  · split
    · rename_i e; subst e; dsimp only; omega
    · exact ⟨Int.le_refl _, Int.le_refl _⟩
theorem sweep_snd {g : GroundT} (hg : GOk g) {l : List Span} (h : Snd g l) : ∀ x, x < nM g → Snd g (sweepM g.rise l x)
  | 0, _ => h
  | x + 1, hx => pair_snd hg (sweep_snd hg h x (by omega)) (by omega) hx
theorem sweep_mono {g : GroundT} (hg : GOk g) {l : List Span} (h : Snd g l) (k : Nat) : ∀ x, x < nM g → (l.getD k (0, 0)).1 ≤ ((sweepM g.rise l x).getD k (0, 0)).1 ∧ ((sweepM g.rise l x).getD k (0, 0)).2 ≤ (l.getD k (0, 0)).2
  | 0, _ => ⟨Int.le_refl _, Int.le_refl _⟩
  | x + 1, hx => by
    have h1 := sweep_mono hg h k x (by omega)
    have h2 := pair_mono hg (sweep_snd hg h x (by omega)) (x := x + 1) (by omega) hx k
    show _ ≤ ((pairM g.rise (sweepM g.rise l x) (x + 1)).getD k (0, 0)).1 ∧ _
    exact ⟨Int.le_trans h1.1 h2.1, Int.le_trans h2.2 h1.2⟩
/-- What a pit tells is known at a place. -/
def Knows (g : GroundT) (l : List Span) (p : PitT) (k : Nat) : Prop := p.2.1.1 - D p.1 (k : Int) * g.rise ≤ (l.getD k (0, 0)).1 ∧ (l.getD k (0, 0)).2 ≤ p.2.1.2 + D p.1 (k : Int) * g.rise
theorem Knows.mono {g : GroundT} {l m : List Span} {p : PitT} {k : Nat} (h : Knows g l p k) (hm : (l.getD k (0, 0)).1 ≤ (m.getD k (0, 0)).1 ∧ (m.getD k (0, 0)).2 ≤ (l.getD k (0, 0)).2) : Knows g m p k := ⟨Int.le_trans h.1 hm.1, Int.le_trans hm.2 h.2⟩
/-- It goes on to the place behind. -/
theorem knows_right {g : GroundT} (hg : GOk g) {l : List Span} (h : Snd g l) {x : Nat} (h0 : 0 < x) (hx : x < nM g) {p : PitT} (hp : p.1 ≤ ((x - 1 : Nat) : Int)) (hk : Knows g l p (x - 1)) : Knows g (pairM g.rise l x) p x := by
  unfold Knows at *
  rw [pair_get hg h h0 hx, if_pos rfl]
  have hd : D p.1 (x : Int) = D p.1 ((x - 1 : Nat) : Int) + 1 := by unfold D; omega
  rw [hd, Int.add_mul, Int.one_mul]
  dsimp only
  omega
/-- It goes back to the place ahead. -/
theorem knows_left {g : GroundT} (hg : GOk g) {l : List Span} (h : Snd g l) {x : Nat} (h0 : 0 < x) (hx : x < nM g) {p : PitT} (hp : (x : Int) ≤ p.1) (hk : Knows g l p x) : Knows g (pairM g.rise l x) p (x - 1) := by
  unfold Knows at *
  rw [pair_get hg h h0 hx, if_neg (by omega), if_pos rfl]
  have hd : D p.1 ((x - 1 : Nat) : Int) = D p.1 (x : Int) + 1 := by unfold D; omega
  rw [hd, Int.add_mul, Int.one_mul]
  dsimp only
  omega
/-- A sweep: all behind a pit know it, and one place more ahead of it. -/
theorem sweep_knows {g : GroundT} (hg : GOk g) {l : List Span} (h : Snd g l) {p : PitT} {a r : Nat} (ha : p.1 = (a : Int)) (han : a < nM g) (hk : ∀ k : Nat, k ≤ a → a ≤ k + r → Knows g l p k) : ∀ x, x < nM g → (∀ k : Nat, a ≤ k → k ≤ x → Knows g (sweepM g.rise l x) p k) ∧ (∀ k : Nat, k ≤ a → k < x → a ≤ k + (r + 1) → Knows g (sweepM g.rise l x) p k)
  | 0, _ => ⟨fun k h1 h2 => by
      have : k = 0 := by omega
      subst this
      exact hk 0 (by omega) (by omega), fun k _ h2 => absurd h2 (Nat.not_lt_zero k)⟩
  | x + 1, hx => by
    obtain ⟨i1, i2⟩ := sweep_knows hg h ha han hk x (by omega)
    have hs := sweep_snd hg h x (by omega)
    have hm := fun k => pair_mono hg hs (x := x + 1) (by omega) hx k
    refine ⟨fun k h1 h2 => ?_, fun k h1 h2 h3 => ?_⟩
    · show Knows g (pairM g.rise (sweepM g.rise l x) (x + 1)) p k
      rcases Nat.lt_or_eq_of_le h2 with h2 | rfl
      · exact (i1 k h1 (by omega)).mono (hm k)
      · by_cases he : a = x + 1
        · refine Knows.mono (hk (x + 1) (by omega) (by omega)) ?_
          exact sweep_mono hg h (x + 1) (x + 1) hx
        · exact knows_right hg hs (by omega) hx (by rw [ha]; show (a : Int) ≤ ((x : Nat) : Int); omega) (i1 x (by omega) (Nat.le_refl x))
    · show Knows g (pairM g.rise (sweepM g.rise l x) (x + 1)) p k
      rcases Nat.lt_or_eq_of_le (Nat.le_of_lt_succ h2) with h2 | rfl
      · exact (i2 k h1 h2 h3).mono (hm k)
      · by_cases he : a ≤ k + r
        · exact Knows.mono (hk k h1 he) (sweep_mono hg h k (k + 1) hx)
        · have h4 : Knows g (sweepM g.rise l k) p (k + 1) := Knows.mono (hk (k + 1) (by omega) (by omega)) (sweep_mono hg h (k + 1) k (by omega))
          exact knows_left hg hs (x := k + 1) (by omega) hx (by rw [ha]; show ((k + 1 : Nat) : Int) ≤ (a : Int); omega) h4
theorem round_snd {g : GroundT} (hg : GOk g) : ∀ k, Snd g (roundM g k)
  | 0 => base1_snd hg _ (Nat.le_refl _)
  | k + 1 => sweep_snd hg (round_snd hg k) _ (by have := (n_ok hg).2.1; omega)
theorem base1_pit {g : GroundT} (hg : GOk g) : ∀ i, i ≤ g.pits.length → ∀ j, j < i → (base1M g i).getD (g.pits.getD j pit0).1.toNat (0, 0) = (g.pits.getD j pit0).2.1
  | 0, _, j, hj => absurd hj (Nat.not_lt_zero j)
  | i + 1, h, j, hj => by
    have hmem : ∀ j, j < g.pits.length → g.pits.getD j pit0 ∈ g.pits := fun j hj => by rw [List.getD_eq_getElem?_getD, List.getElem?_eq_getElem hj]; exact List.getElem_mem _
    have hi := (hg.pits _ (hmem i (by omega))).at_
    have hn := (n_ok hg).1
    show ((base1M g i).set _ _).getD _ _ = _
    rw [getD_set _ _ _ _ _ (by rw [base1_len]; omega)]
    by_cases he : j = i
    · subst he; rw [if_pos rfl]
    · have hlt : (g.pits.getD j pit0).1 < (g.pits.getD i pit0).1 := by
        have := List.pairwise_iff_getElem.1 hg.inc j i (by omega) (by omega) (by omega)
        rw [List.getD_eq_getElem?_getD, List.getD_eq_getElem?_getD, List.getElem?_eq_getElem (show j < g.pits.length by omega), List.getElem?_eq_getElem (show i < g.pits.length by omega)]
        exact this
      have hj0 := (hg.pits _ (hmem j (by omega))).at_
      rw [if_neg (by omega)]
      exact base1_pit hg i (by omega) j (by omega)
theorem round_knows {g : GroundT} (hg : GOk g) {p : PitT} (hp : p ∈ g.pits) {a : Nat} (ha : p.1 = (a : Int)) (han : a < nM g) : ∀ r, (∀ k : Nat, k ≤ a → a ≤ k + r → Knows g (roundM g r) p k) ∧ (0 < r → ∀ k : Nat, a ≤ k → k < nM g → Knows g (roundM g r) p k)
  | 0 => by
    refine ⟨fun k h1 h2 => ?_, fun h => absurd h (Nat.lt_irrefl 0)⟩
    have hka : k = a := by omega
    subst hka
    obtain ⟨j, hj, hje⟩ := List.getElem_of_mem hp
    have he : g.pits.getD j pit0 = p := by rw [List.getD_eq_getElem?_getD, List.getElem?_eq_getElem hj, ← hje]; rfl
    have hb := base1_pit hg g.pits.length (Nat.le_refl _) j hj
    rw [he, ha, Int.toNat_natCast] at hb
    show Knows g (base1M g g.pits.length) p k
    unfold Knows
    rw [hb, ha, D_self]
    omega
  | r + 1 => by
    obtain ⟨i1, _⟩ := round_knows hg hp ha han r
    have hn := (n_ok hg).2.1
    obtain ⟨s1, s2⟩ := sweep_knows hg (round_snd hg r) ha han i1 (nM g - 1) (by omega)
    refine ⟨fun k h1 h2 => ?_, fun _ k h1 h2 => s1 k h1 (by omega)⟩
    by_cases hk : k < nM g - 1
    · exact s2 k h1 hk h2
    · exact s1 k (by omega) (by omega)
/-- After as many rounds as there are places all is told. -/
theorem round_all {g : GroundT} (hg : GOk g) : roundM g (nM g) = hardsM g (nM g) := by
  have hn := (n_ok hg).2.1
  have hs := round_snd hg (nM g)
  refine List.ext_getElem (by rw [hs.len, hards_len]) fun k h1 h2 => ?_
  have hk : k < nM g := by rw [hs.len] at h1; exact h1
  have e1 : (roundM g (nM g))[k] = (roundM g (nM g)).getD k (0, 0) := by rw [List.getD_eq_getElem?_getD, List.getElem?_eq_getElem h1]; rfl
  have e2 : (hardsM g (nM g))[k] = (hardsM g (nM g)).getD k (0, 0) := by rw [List.getD_eq_getElem?_getD, List.getElem?_eq_getElem h2]; rfl
  rw [e1, e2, hards_get hk]
  have pk := pl_of hg hk
  have hl := hs.lo k hk
  have hh := hs.hi k hk
  have kn : ∀ p ∈ g.pits, Knows g (roundM g (nM g)) p k := fun p hp => by
    have hat := (hg.pits p hp).at_
    obtain ⟨a, ha⟩ := Int.eq_ofNat_of_zero_le hat.1
    have han : a < nM g := by have := (n_ok hg).1; omega
    obtain ⟨r1, r2⟩ := round_knows hg hp ha han (nM g)
    by_cases h : a ≤ k
    · exact r2 hn k h hk
    · exact r1 k (by omega) (by omega)
  refine Prod.ext ?_ ?_
  · refine Int.le_antisymm hl.2 ((hard_lo hg pk _).2 ⟨hl.1, fun p hp => (kn p hp).1⟩)
  · refine Int.le_antisymm ((hard_hi hg pk _).2 ⟨hh.2, fun p hp => (kn p hp).2⟩) hh.1
end AE.Soil

namespace AE.Soil
open Go AE Go.Proofs

def hokM (g : GroundT) : Bool := (List.range (nM g)).all fun k => !decide ((hardM g (k : Int)).1 > (hardM g (k : Int)).2)
theorem hok_bad {g : GroundT} {k : Nat} (hk : k < nM g) (h : (hardM g (k : Int)).1 > (hardM g (k : Int)).2) : hokM g = false := by
  unfold hokM
  rw [List.all_eq_false]
  exact ⟨k, List.mem_range.2 hk, by rw [decide_eq_true h]; decide⟩
theorem hok_all {g : GroundT} : hokM g = true ↔ ∀ k : Nat, k < nM g → ¬ (hardM g (k : Int)).1 > (hardM g (k : Int)).2 := by
  unfold hokM
  rw [List.all_eq_true]
  simp only [List.mem_range, Bool.not_eq_true', decide_eq_false_iff_not]
def rhdH (g : GroundT) (l : List Span) : Heap UU := [.one (.ro .pit g.pits), .one (.cells (cGround g 0) 24), .one (.row .span l 28)]
def rhdL1 (g : GroundT) : LSpec UU where
  T := { x : Nat // x ≤ nM g }
  fr := fun x => [(1, .ptr 1 0 0 0), (4, .gs 2 0), (5, .i x.1)]
  H := fun x => rhdH g (base0M g x.1)
  mu := fun x => nM g - x.1
def rhdL2 (g : GroundT) : LSpec UU where
  T := { i : Nat // i ≤ g.pits.length }
  fr := fun i => [(1, .ptr 1 0 0 0), (4, .gs 2 0), (6, .i i.1)]
  H := fun i => rhdH g (base1M g i.1)
  mu := fun i => g.pits.length - i.1
def rhdL3 (g : GroundT) : LSpec UU where
  T := { k : Nat // k ≤ nM g }
  fr := fun k => [(1, .ptr 1 0 0 0), (4, .gs 2 0), (7, .i k.1)]
  H := fun k => rhdH g (roundM g k.1)
  mu := fun k => nM g - k.1
def rhdL4 (g : GroundT) : LSpec UU where
  T := { p : Nat × Nat // p.1 < nM g ∧ p.2 ≤ nM g - 1 }
  fr := fun p => [(1, .ptr 1 0 0 0), (4, .gs 2 0), (7, .i p.1.1), (8, .i ((p.1.2 + 1 : Nat) : Int))]
  H := fun p => rhdH g (sweepM g.rise (roundM g p.1.1) p.1.2)
  mu := fun p => nM g - p.1.2
def rhdL5 (g : GroundT) : LSpec UU where
  T := { x : Nat // x ≤ nM g ∧ ∀ k : Nat, k < x → ¬ (hardM g (k : Int)).1 > (hardM g (k : Int)).2 }
  fr := fun x => [(1, .ptr 1 0 0 0), (4, .gs 2 0), (11, .i x.1)]
  H := fun _ => rhdH g (roundM g (nM g))
  mu := fun x => nM g - x.1
def rhdLs (g : GroundT) (k : Nat) : Option (LRule UU) :=
  match k with
  | 3 => some (.inv (rhdL1 g))
  | 7 => some (.inv (rhdL2 g))
  | 11 => some (.inv (rhdL3 g))
  | 14 => some (.invR (rhdL4 g) fun a b => b.1.1 = a.1.1)
  | 20 => some (.inv (rhdL5 g))
  | _ => none
def rhdS : FSpec2 UU where
  X := GroundT
  pick := fun args H => match args with
    | [a] => avGround H a
    | _ => none
  args := fun x => [vGround x 0]
  H := fun x => [.one (.ro .pit x.pits)]
  c := fun x => hokM x
  R := fun x => .val ⟨.tup [.gs 1 0, .b true], [], [], [.row .span (hardsM x (nM x)) 28]⟩
  R' := fun _ => .val ⟨.tup [.v (.slice none 0 0), .b false], [], [], []⟩
  pre := fun x => groundM x = true
set_option maxHeartbeats 0 in
set_option maxRecDepth 100000 in
theorem rhd_ok : ∀ x, rhdS.pre x → (rhdS.c x = true → FunOk Try.prog 36 (rhdS.args x) (rhdS.H x) (rhdS.R x)) ∧ (rhdS.c x = false → FunOk Try.prog 36 (rhdS.args x) (rhdS.H x) (rhdS.R' x)) := by
  rintro ⟨long, rise, change, ps⟩ hx
  refine fun_of2 (T := []) (L := rhdLs ⟨long, rise, change, ps⟩) (hs := fun _ => []) (sp := fun _ => none) hmix .nil (td := fun _ => none) (fun _ _ h => by cases h) (it := fun _ => none) (fun _ _ h => by cases h) Try.func36 (by kernel_rfl) (by kernel_rfl) ?_
  refine Eq.mp (α :=
      let Z0 := True ∧ True; let Z1 : Option Addr := none; let Z2 := Value.bool true; let Z3 := Value.bool false; let Z4 := GroundT.mk long rise change ps; let Z5 := Value.int IntKind.i64 change; let Z6 := Value.int IntKind.i64 rise; let Z7 := List.length ps; let Z8 := Value.int IntKind.i64 long; let Z9 := nat_lit 0 = nat_lit 0 ∧ nat_lit 0 = nat_lit 0; let Z10 := fun (k : Nat) => (↑k : Int); let Z11 := (1 : Int); let Z12 := (0 : Int); let Z13 := nM Z4; let Z14 := nat_lit 0 = nat_lit 0 ∧ Z0; let Z15 : List (Int × Int) := []; let Z16 := Value.slice Z1 (nat_lit 0) (nat_lit 0); let Z17 := (0 : Nat); let Z18 := (1 : Nat); let Z19 := hokM Z4; let Z20 : List PitT := GroundT.pits Z4; let Z21 := (1000 : Int); let Z22 := List.length ps; let Z23 := ps = ps; let Z24 := (28 : TypeId); let Z25 := nat_lit 0 = nat_lit 0 ∧ Z9; let Z26 := Z23 ∧ True; let Z27 := (↑Z7 : Int); let Z28 := Z19 = true; let Z29 := Value.int IntKind.i64 Z12; let Z30 := Z19 = false; let Z31 := fun (x : Nat) => x ≤ Z13; let Z32 := Z7 = Z7; let Z33 := List.length Z20; let Z34 := Value.int IntKind.i64 Z21; let Z35 := True ∧ Z26; let Z36 := AV.v Z29; let Z37 := Z5 = Z5; let Z38 := Z8 = Z8; let Z39 := Z6 = Z6; let Z40 := AV.v Z34; let Z41 := fun (k : Nat) => hardM Z4 (Z10 k); let Z42 : List Span := roundM Z4 Z13; let Z43 : List Span := hardsM Z4 Z13; let Z44 := fun (p : Nat × Nat) => Prod.fst p < Z13; let Z45 := nat_lit 0 = nat_lit 0 ∧ Z32; let Z46 : Type := { x : Nat // Z31 x }; let Z47 := Z16 = Z16; let Z48 := (Z12, Z12); let Z49 := fun (i : Nat) => i ≤ Z33; let Z50 := fun (k : Nat) => Prod.fst (Z41 k); let Z51 := fun (k : Nat) => Prod.snd (Z41 k); let Z52 := fun (x : Z46) => Subtype.val x; let Z53 := Z24 = Z24; let Z54 := nat_lit 0 = nat_lit 0 ∧ Z45; let Z55 := Z54 ∧ True; let Z56 := List.length Z42; let Z57 : Type := { i : Nat // Z49 i }; let Z58 := fun (x : Z57) => Subtype.val x; let Z59 := fun (x : Z46) => (↑(Z52 x) : Int); let Z60 := Z13 - Z18; let Z61 := fun (x : Z46) => base0M Z4 (Z52 x); let Z62 := fun (x : Z46) => roundM Z4 (Z52 x); let Z63 := (↑Z56 : Int); let Z64 := fun (x : Z46) => Value.int IntKind.i64 (Z59 x); let Z65 := fun (t : Z46) => Z59 t ≤ long; let Z66 := fun (x : Z57) => (↑(Z58 x) : Int); let Z67 := fun (x : Z57) => base1M Z4 (Z58 x); let Z68 := fun (t : Z57) => Int.toNat (Z66 t); let Z69 := fun (p : Nat × Nat) => Prod.snd p ≤ Z60; let Z70 := fun (x : Z57) => Value.int IntKind.i64 (Z66 x); let Z71 := fun (x : Z46) => Z13 - Z52 x; let Z72 := Z37 ∧ Z55; let Z73 := fun (x : Z57) => Z7 - Z58 x; let Z74 := fun (t : Z57) => List.length (Z67 t); let Z75 := (Z48, Z48); let Z76 := fun (k : Nat) => Z50 k > Z51 k; let Z77 := fun (t : Z57) => Z12 ≤ Z66 t; let Z78 := fun (k : Nat) => ¬Z76 k; let Z79 := fun (t : Z57) => nat_lit 0 + Z68 t; let Z80 := fun (x : Z46) => Z29 = Z64 x; let Z81 := fun (x : Z46) => Z80 x ∧ True; let Z82 := fun (t : Z57) => Z66 t < Z27; let Z83 := fun (k x : Nat) => k < x → Z78 k; let Z84 := fun (t : Z57) => Z17 + Z68 t; let Z85 := fun (p : Nat × Nat) => Z44 p ∧ Z69 p; let Z86 := fun (x : Nat) => ∀ (k : Nat), Z83 k x; let Z87 := Z39 ∧ Z72; let Z88 := fun (t : Z57) => Z79 t < Z22; let Z89 : Type := { p : Nat × Nat // Z85 p }; let Z90 := fun (x : Z89) => Subtype.val x; let Z91 := fun (x : Nat) => Z31 x ∧ Z86 x; let Z92 := fun (x : Z89) => Prod.snd (Z90 x); let Z93 := fun (x : Z89) => Prod.fst (Z90 x); let Z94 := Z38 ∧ Z87; let Z95 := (Z48, Z75); let Z96 : Type := { x : Nat // Z91 x }; let Z97 := fun (t : Z46) => decide (Z65 t); let Z98 := fun (x : Z96) => Subtype.val x; let Z99 := fun (x : Z89) => (↑(Z93 x) : Int); let Z100 := fun (x : Z89) => roundM Z4 (Z93 x); let Z101 := fun (t : Z46) => Z97 t = true; let Z102 := fun (t : Z46) => Z97 t = false; let Z103 := fun (x : Z89) => Z92 x + nat_lit 1; let Z104 := fun (x : Z89) => Value.int IntKind.i64 (Z99 x); let Z106 := fun (x : Z96) => (↑(Z98 x) : Int); let Z109 := fun (x : Z89) => (↑(Z103 x) : Int); let Z110 := fun (x : Z89) => Z13 - Z92 x; let Z115 := fun (x : Z96) => Z13 - Z98 x; let Z118 := fun (t : Z89) => (↑(Z92 t + Z18) : Int); let Z119 := fun (t : Z96) => nat_lit 0 + Int.toNat (Z106 t); let Z123 := fun (t : Z89) => nat_lit 0 + Int.toNat (Z109 t); let Z126 := fun (t : Z57) => decide (Z82 t); let Z127 := fun (t : Z89) => IntKind.wrap IntKind.i64 (Z109 t - Z11); let Z130 := fun (t : Z89) => Z17 + Int.toNat (Z118 t); let Z136 := fun (t : Z89) => nat_lit 0 + Int.toNat (Z127 t); let Z137 := (Z12, Z48, Z95); let Z138 := fun (t : Z96) => List.getD Z42 (Z119 t) Z48; let Z139 := fun (t : Z89) => Z17 + Int.toNat (IntKind.wrap IntKind.i64 (Z118 t - Z11)); let Z143 := fun (x : Z89) => sweepM rise (Z100 x) (Z92 x); let Z144 := fun (t : Z89) => List.length (Z143 t); let Z145 := fun (t : Z89) => (↑(Z144 t) : Int); let Z146 := fun (t : Z57) => List.getD ps (Z79 t) Z137; let Z147 := fun (t : Z96) => decide (Z106 t ≤ long); let Z148 := fun (t : Z57) => List.getD ps (Z84 t) Z137; let Z149 := fun (t : Z57) => Prod.fst (Z146 t); let Z151 := fun (t : Z89) => decide (Z109 t ≤ long); let Z153 := fun (t : Z57) => Prod.fst (Prod.snd (Z146 t)); let Z157 := fun (t : Z57) => Prod.fst (Prod.snd (Z148 t)); let Z161 := fun (t : Z89) => List.getD (Z143 t) (Z123 t) Z48; let Z164 := fun (t : Z89) => Z127 t < Z145 t; let Z165 := fun (t : Z89) => Z136 t < Z144 t; let Z167 := fun (t : Z89) => List.getD (Z143 t) (Z130 t) Z48; let Z172 := fun (t : Z89) => List.getD (Z143 t) (Z136 t) Z48; let Z179 := fun (t : Z89) => List.getD (Z143 t) (Z139 t) Z48; let Z187 := fun (t : Z96) => decide (Prod.fst (Z138 t) > Prod.snd (Z138 t)); let Z188 := fun (t : Z89) => max (Prod.fst (Z172 t)) (IntKind.wrap IntKind.i64 (Prod.fst (Z161 t) - rise)); let Z189 := fun (t : Z89) => max (Prod.fst (Z179 t)) (IntKind.wrap IntKind.i64 (Prod.fst (Z167 t) - rise)); let Z190 := fun (t : Z89) => max (Prod.fst (Z167 t)) (IntKind.wrap IntKind.i64 (Prod.fst (Z179 t) - rise)); let Z191 := fun (t : Z89) => min (Prod.snd (Z167 t)) (IntKind.wrap IntKind.i64 (Prod.snd (Z179 t) + rise)); let Z192 := fun (t : Z89) => min (Prod.snd (Z179 t)) (IntKind.wrap IntKind.i64 (Prod.snd (Z167 t) + rise)); let Z201 := fun (t : Z89) => List.length (List.set (Z143 t) (Z136 t) (Z188 t, Z192 t)); (∃ (x : Z46), (True ∧ Z14) ∧ (True ∧ (True ∧ True ∧ True ∧ Z0) ∧ Z61 x = Z15 ∧ True) ∧ (Z25 ∧ Z47 ∧ Z81 x) ∧ True ∧ Z23 ∧ Z94 ∧ Z0) ∧ ∀ (t : Z46), (Z101 t → (nat_lit 1 = nat_lit 1 ∧ Z36 = Z36 ∧ Z40 = Z40 ∧ True) ∧ nat_lit 1 ≤ nat_lit 1 ∧ List.length (Z61 t) + nat_lit 1 ≤ nat_lit 1099511627776 ∧ True ∧ ∃ (x : Z46), ((Z25 ∧ nat_lit 0 = nat_lit 0 ∧ Value.int IntKind.i64 (IntKind.wrap IntKind.i64 (Z59 t + Z11)) = Z64 x ∧ True) ∧ True ∧ Z23 ∧ Z94 ∧ (nat_lit 28 = Z24 ∧ Z61 t ++ List.take Z18 (List.drop Z17 ((Z12, Z21) :: Z15)) = Z61 x) ∧ True) ∧ Z71 x < Z71 t) ∧ (Z102 t → (∃ (x : Z57), (Z25 ∧ nat_lit 0 = nat_lit 0 ∧ Z29 = Z70 x ∧ True) ∧ True ∧ Z23 ∧ Z94 ∧ (Z53 ∧ Z61 t = Z67 x) ∧ True) ∧ ∀ (t : Z57), (Z126 t = true → (Z77 t ∧ Z82 t) ∧ Z88 t ∧ (Z77 t ∧ Z82 t) ∧ Z88 t ∧ (Z12 ≤ Z149 t ∧ Z149 t < (↑(Z74 t) : Int)) ∧ nat_lit 0 + Int.toNat (Z149 t) < Z74 t ∧ [AV.v (Value.int IntKind.i64 (Prod.fst (Z157 t))), AV.v (Value.int IntKind.i64 (Prod.snd (Z153 t)))] = [AV.v (Value.int IntKind.i64 (Prod.fst (Z153 t))), AV.v (Value.int IntKind.i64 (Prod.snd (Z153 t)))] ∧ True ∧ ∃ (x : Z57), ((Z25 ∧ nat_lit 0 = nat_lit 0 ∧ Value.int IntKind.i64 (IntKind.wrap IntKind.i64 (Z66 t + Z11)) = Z70 x ∧ True) ∧ True ∧ Z23 ∧ Z94 ∧ (Z53 ∧ List.set (Z67 t) (Z17 + Int.toNat (Prod.fst (Z148 t))) (Prod.fst (Z153 t), Prod.snd (Z157 t)) = Z67 x) ∧ True) ∧ Z73 x < Z73 t) ∧ (Z126 t = false → (∃ (x : Z46), (Z25 ∧ nat_lit 0 = nat_lit 0 ∧ Z81 x) ∧ True ∧ Z23 ∧ Z94 ∧ (Z53 ∧ Z67 t = Z62 x) ∧ True) ∧ ∀ (t : Z46), (Z101 t → ∃ (x : Z89), ((Z25 ∧ nat_lit 0 = nat_lit 0 ∧ Z64 t = Z104 x ∧ Value.int IntKind.i64 Z11 = Value.int IntKind.i64 (Z109 x) ∧ True) ∧ True ∧ Z23 ∧ Z94 ∧ (Z53 ∧ Z62 t = Z143 x) ∧ True) ∧ Z93 x = Z93 x ∧ ∀ (t_1 : Z89), Z93 t_1 = Z93 x → (Z151 t_1 = true → (Z12 ≤ Z127 t_1 ∧ Z164 t_1) ∧ Z165 t_1 ∧ (Z12 ≤ Z109 t_1 ∧ Z109 t_1 < Z145 t_1) ∧ Z123 t_1 < Z144 t_1 ∧ (Z12 ≤ Z127 t_1 ∧ Z164 t_1) ∧ Z165 t_1 ∧ [AV.v (Value.int IntKind.i64 (Z188 t_1)), AV.v (Value.int IntKind.i64 (Z192 t_1))] = [AV.v (Value.int IntKind.i64 (Z189 t_1)), AV.v (Value.int IntKind.i64 (Z192 t_1))] ∧ (Z12 ≤ Z109 t_1 ∧ Z109 t_1 < (↑(Z201 t_1) : Int)) ∧ Z123 t_1 < Z201 t_1 ∧ [AV.v (Value.int IntKind.i64 (max (Prod.fst (Z161 t_1)) (IntKind.wrap IntKind.i64 (Prod.fst (Z172 t_1) - rise)))), AV.v (Value.int IntKind.i64 (Z191 t_1))] = [AV.v (Value.int IntKind.i64 (Z190 t_1)), AV.v (Value.int IntKind.i64 (Z191 t_1))] ∧ True ∧ ∃ (x_1 : Z89), ((Z25 ∧ nat_lit 0 = nat_lit 0 ∧ Z104 t_1 = Z104 x_1 ∧ Value.int IntKind.i64 (IntKind.wrap IntKind.i64 (Z109 t_1 + Z11)) = Value.int IntKind.i64 (Z109 x_1) ∧ True) ∧ True ∧ Z23 ∧ Z94 ∧ (Z53 ∧ List.set (List.set (Z143 t_1) (Z139 t_1) (Z189 t_1, min (Prod.snd (Z172 t_1)) (IntKind.wrap IntKind.i64 (Prod.snd (Z161 t_1) + rise)))) (Z130 t_1) (Z190 t_1, min (Prod.snd (Z161 t_1)) (IntKind.wrap IntKind.i64 (Prod.snd (Z172 t_1) + rise))) = Z143 x_1) ∧ True) ∧ Z110 x_1 < Z110 t_1 ∧ Z93 x_1 = Z93 x) ∧ (Z151 t_1 = false → True ∧ ∃ (x : Z46), ((Z25 ∧ nat_lit 0 = nat_lit 0 ∧ Value.int IntKind.i64 (IntKind.wrap IntKind.i64 (Z99 t_1 + Z11)) = Z64 x ∧ True) ∧ True ∧ Z23 ∧ Z94 ∧ (Z53 ∧ Z143 t_1 = Z62 x) ∧ True) ∧ Z71 x < Z71 t)) ∧ (Z102 t → (∃ (x : Z96), (Z25 ∧ nat_lit 0 = nat_lit 0 ∧ Z29 = Value.int IntKind.i64 (Z106 x) ∧ True) ∧ True ∧ Z23 ∧ Z94 ∧ (Z53 ∧ Z62 t = Z42) ∧ True) ∧ ∀ (t : Z96), (Z147 t = true → (Z12 ≤ Z106 t ∧ Z106 t < Z63) ∧ Z119 t < Z56 ∧ (Z12 ≤ Z106 t ∧ Z106 t < Z63) ∧ Z119 t < Z56 ∧ (Z187 t = true → (Z28 → True ∧ (Z14 ∧ True) ∧ (True ∧ Z43 = Z15 ∧ True) ∧ ((Z47 ∧ Z2 = Z3 ∧ True) ∧ True) ∧ True ∧ Z23 ∧ Z0) ∧ (Z30 → True ∧ ((Z47 ∧ Z3 = Z3 ∧ True) ∧ True) ∧ Z35)) ∧ (Z187 t = false → True ∧ ∃ (x : Z96), ((Z25 ∧ nat_lit 0 = nat_lit 0 ∧ Value.int IntKind.i64 (IntKind.wrap IntKind.i64 (Z106 t + Z11)) = Value.int IntKind.i64 (Z106 x) ∧ True) ∧ True ∧ Z23 ∧ Z94 ∧ (Z53 ∧ Z42 = Z42) ∧ True) ∧ Z115 x < Z115 t)) ∧ (Z147 t = false → (Z28 → True ∧ ((nat_lit 0 = nat_lit 0 ∧ Z2 = Z2 ∧ True) ∧ True) ∧ True ∧ Z23 ∧ (Z53 ∧ Z42 = Z43) ∧ True) ∧ (Z30 → True ∧ ((False ∧ Z3 = Z2 ∧ True) ∧ True) ∧ Z35))))))
    (by kernel_rfl) ?_
  simp only [eq_self, true_and, and_true, Int.toNat_natCast, Nat.zero_add, Nat.sub_zero, Value.int.injEq, Value.bool.injEq, decide_eq_true_eq, decide_eq_false_iff_not]
  have hg : groundM ⟨long, rise, change, ps⟩ = true := hx
  have ok := ground_ok hg
  obtain ⟨n0, n1, n2⟩ := n_ok ok
  have n0' : ((nM ⟨long, rise, change, ps⟩ : Nat) : Int) = long + 1 := n0
  have h8 : ps.length ≤ 8 := ok.len
  have hb1 := base1_len ⟨long, rise, change, ps⟩
  have hrl := round_len ⟨long, rise, change, ps⟩
  refine ⟨⟨⟨0, Nat.zero_le _⟩, rfl, rfl⟩, fun t => ⟨fun ht => ?_, fun ht => ⟨⟨⟨0, Nat.zero_le _⟩, rfl, ?_⟩, fun t2 => ⟨fun ht2 => ?_, fun ht2 => ⟨⟨⟨0, Nat.zero_le _⟩, rfl, ?_⟩, fun t3 => ⟨fun ht3 => ?_, fun ht3 => ⟨⟨⟨0, Nat.zero_le _, fun k hk => absurd hk (Nat.not_lt_zero k)⟩, rfl, ?_⟩, fun t5 => ⟨fun ht5 => ?_, fun ht5 => ?_⟩⟩⟩⟩⟩⟩⟩⟩
  · obtain ⟨x, hx⟩ := t
    have hlt : x < nM ⟨long, rise, change, ps⟩ := by have h0 : (x : Int) ≤ long := ht; omega
    have hbl : (base0M ⟨long, rise, change, ps⟩ x).length = x := by unfold base0M; simp
    refine ⟨Nat.le_refl _, by show (base0M ⟨long, rise, change, ps⟩ x).length + 1 ≤ _; omega, ⟨x + 1, hlt⟩, ⟨sucI x (by omega), ?_⟩, dec1 hlt⟩
    show base0M ⟨long, rise, change, ps⟩ x ++ [(0, 1000)] = base0M ⟨long, rise, change, ps⟩ (x + 1)
    unfold base0M
    rw [List.range_succ, List.map_append]; rfl
  · obtain ⟨x, hx⟩ := t
    have hxe : x = nM ⟨long, rise, change, ps⟩ := by have h0 : ¬ (x : Int) ≤ long := ht; have h1 : x ≤ nM ⟨long, rise, change, ps⟩ := hx; omega
    subst hxe; rfl
  · obtain ⟨i, hi⟩ := t2
    have hlt : i < ps.length := by have h0 : (i : Int) < (ps.length : Int) := ht2; omega
    have hm : ps.getD i pit0 ∈ ps := getD_mem pit0 hlt
    have hat := (ok.pits _ hm).at_
    have hat1 : 0 ≤ (ps.getD i pit0).1 := hat.1
    have hat2 : (ps.getD i pit0).1 ≤ long := hat.2
    have hb := hb1 i
    exact ⟨⟨Int.natCast_nonneg _, ht2⟩, hlt, ⟨Int.natCast_nonneg _, ht2⟩, hlt, ⟨hat1, by show (ps.getD i pit0).1 < ((base1M ⟨long, rise, change, ps⟩ i).length : Int); omega⟩, by show (ps.getD i pit0).1.toNat < (base1M ⟨long, rise, change, ps⟩ i).length; omega, ⟨i + 1, hlt⟩, ⟨sucI i (by omega), rfl⟩, dec1 hlt⟩
  · obtain ⟨i, hi⟩ := t2
    have hie : i = ps.length := by have h0 : ¬ (i : Int) < (ps.length : Int) := ht2; omega
    subst hie; rfl
  · obtain ⟨k, hk⟩ := t3
    have hkl : k < nM ⟨long, rise, change, ps⟩ := by have h0 : (k : Int) ≤ long := ht3; omega
    refine ⟨⟨(k, 0), hkl, Nat.zero_le _⟩, ⟨⟨rfl, rfl⟩, rfl⟩, fun p hp => ?_⟩
    obtain ⟨⟨k', j⟩, p1, p2⟩ := p
    have hp' : k' = k := hp
    subst hp'
    have p2' : j ≤ nM ⟨long, rise, change, ps⟩ - 1 := p2
    have hsl : (sweepM rise (roundM ⟨long, rise, change, ps⟩ k') j).length = nM ⟨long, rise, change, ps⟩ := by rw [sweep_len, hrl]
    have hw : IntKind.i64.wrap (((j + 1 : Nat) : Int) - 1) = (j : Int) := by rw [wrap_id (by omega) (by omega)]; omega
    simp only [hw, Int.toNat_natCast]
    refine ⟨fun hj => ?_, fun hj => ?_⟩
    · have hj' : j + 1 < nM ⟨long, rise, change, ps⟩ := by have h0 : ((j + 1 : Nat) : Int) ≤ long := hj; omega
      have hi1 : (0 : Int) ≤ (j : Int) ∧ (j : Int) < ((sweepM rise (roundM ⟨long, rise, change, ps⟩ k') j).length : Int) := by omega
      have hi2 : j < (sweepM rise (roundM ⟨long, rise, change, ps⟩ k') j).length := by omega
      have hi3 : (0 : Int) ≤ ((j + 1 : Nat) : Int) ∧ ((j + 1 : Nat) : Int) < ((sweepM rise (roundM ⟨long, rise, change, ps⟩ k') j).length : Int) := by omega
      have hi4 : j + 1 < (sweepM rise (roundM ⟨long, rise, change, ps⟩ k') j).length := by omega
      refine ⟨hi1, hi2, hi3, hi4, hi1, hi2, by rw [List.length_set]; exact hi3, by rw [List.length_set]; exact hi4, ⟨(k', j + 1), p1, by show j + 1 ≤ _; omega⟩, ⟨⟨rfl, sucI (j + 1) (by omega)⟩, ?_⟩, ?_, rfl⟩
      · rfl
      · show nM ⟨long, rise, change, ps⟩ - (j + 1) < nM ⟨long, rise, change, ps⟩ - j; omega
    · have hje : j = nM ⟨long, rise, change, ps⟩ - 1 := by have h0 : ¬ ((j + 1 : Nat) : Int) ≤ long := hj; omega
      refine ⟨⟨k' + 1, hkl⟩, ⟨sucI k' (by omega), ?_⟩, dec1 hkl⟩
      show sweepM rise (roundM ⟨long, rise, change, ps⟩ k') j = roundM ⟨long, rise, change, ps⟩ (k' + 1)
      rw [hje]; rfl
  · obtain ⟨k, hk⟩ := t3
    have hke : k = nM ⟨long, rise, change, ps⟩ := by have h0 : ¬ (k : Int) ≤ long := ht3; have h1 : k ≤ nM ⟨long, rise, change, ps⟩ := hk; omega
    subst hke; rfl
  · obtain ⟨x, hx, hall⟩ := t5
    have hlt : x < nM ⟨long, rise, change, ps⟩ := by have h0 : (x : Int) ≤ long := ht5; omega
    have hln := hrl (nM ⟨long, rise, change, ps⟩)
    have hi1 : (0 : Int) ≤ (x : Int) ∧ (x : Int) < ((roundM ⟨long, rise, change, ps⟩ (nM ⟨long, rise, change, ps⟩)).length : Int) := by omega
    have hi2 : x < (roundM ⟨long, rise, change, ps⟩ (nM ⟨long, rise, change, ps⟩)).length := by omega
    have he : (roundM ⟨long, rise, change, ps⟩ (nM ⟨long, rise, change, ps⟩)).getD x (0, 0) = hardM ⟨long, rise, change, ps⟩ (x : Int) := by rw [round_all ok, hards_get hlt]
    refine ⟨hi1, hi2, hi1, hi2, fun hb => ?_, fun hb => ⟨⟨x + 1, hlt, fun k hk => ?_⟩, sucI x (by omega), dec1 hlt⟩⟩
    · have hb' : ((roundM ⟨long, rise, change, ps⟩ (nM ⟨long, rise, change, ps⟩)).getD x (0, 0)).1 > ((roundM ⟨long, rise, change, ps⟩ (nM ⟨long, rise, change, ps⟩)).getD x (0, 0)).2 := hb
      rw [he] at hb'
      have := hok_bad hlt hb'
      exact ⟨fun h => absurd h (by rw [this]; decide), fun _ => trivial⟩
    · have hb' : ¬ ((roundM ⟨long, rise, change, ps⟩ (nM ⟨long, rise, change, ps⟩)).getD x (0, 0)).1 > ((roundM ⟨long, rise, change, ps⟩ (nM ⟨long, rise, change, ps⟩)).getD x (0, 0)).2 := hb
      rw [he] at hb'
      rcases Nat.lt_or_eq_of_le (Nat.le_of_lt_succ hk) with h1 | rfl
      · exact hall k h1
      · exact hb'
  · obtain ⟨x, hx, hall⟩ := t5
    have hxe : x = nM ⟨long, rise, change, ps⟩ := by have h0 : ¬ (x : Int) ≤ long := ht5; have h1 : x ≤ nM ⟨long, rise, change, ps⟩ := hx; omega
    subst hxe
    have := hok_all.2 hall
    exact ⟨fun _ => round_all ok, fun h => absurd h (by rw [this]; decide)⟩

theorem rhd_sound : Sound Try.prog 36 rhdS.con := FSpec2.sound _ (enter_of Try.func36 (by kernel_rfl) (by kernel_rfl)) rhd_ok
end AE.Soil

namespace AE.Soil
open Go AE Go.Proofs

def rtruthM (g : GroundT) : Bool := hokM g && decide (((rMixM g 0).length : Int) > 0)
def Ttr : Tab UU := [(36, rhdS.con), (37, rmixS.con)]
theorem Ttr_ok : Ttr.Sound Try.prog := .cons rhd_sound (.cons rmix_sound .nil)
def rtruthS : FSpec UU where
  X := GroundT
  pick := fun args H => match args with
    | [a] => avGround H a
    | _ => none
  args := fun (x : GroundT) => [vGround x 0]
  H := fun (x : GroundT) => [.one (.ro .pit x.pits)]
  R := fun (x : GroundT) => .val ⟨.b (rtruthM x), [], [], []⟩
  pre := fun (x : GroundT) => groundM x = true
set_option maxHeartbeats 0 in
set_option maxRecDepth 100000 in
theorem rtruth_ok : ∀ x, rtruthS.pre x → FunOk Try.prog 57 (rtruthS.args x) (rtruthS.H x) (rtruthS.R x) := by
  rintro ⟨long, rise, change, ps⟩ hx
  refine fun_of (T := Ttr) (L := fun _ => none) (hs := fun _ => []) hmix Ttr_ok Try.func57 (by kernel_rfl) (by kernel_rfl) ?_
  refine Eq.mp (α :=
      let Z0 := GroundT.mk long rise change ps; let Z1 := Value.int IntKind.i64 change; let Z2 := List.length ps; let Z3 := Value.int IntKind.i64 long; let Z4 := Value.int IntKind.i64 rise; let Z5 := (0 : Int); let Z10 := Value.bool (rtruthM Z0); let Z11 := ps = ps ∧ True; let Z12 := Z2 < nat_lit 1000; let Z13 := Value.int IntKind.i64 Z5; let Z14 := Z5 ≤ long; let Z16 := True ∧ Z11; let Z17 := long ≤ (40 : Int); let Z23 := Z10 = Value.bool false; let Z24 := Z5 ≤ Z5; let Z40 := Z3 = Z3 ∧ Z4 = Z4 ∧ Z1 = Z1 ∧ (nat_lit 0 = nat_lit 0 ∧ nat_lit 0 = nat_lit 0 ∧ Z2 = Z2) ∧ True; let Z44 := decide ((↑(List.length (rMixM Z0 Z5)) : Int) > Z5); groundM Z0 = true ∧ (hokM Z0 = true → (Z40 ∧ True) ∧ Z11 ∧ (true = true → (Z12 ∧ (Z14 ∧ Z17) ∧ Z24 ∧ Z14) ∧ (Z40 ∧ Z13 = Z13 ∧ True) ∧ Z11 ∧ True ∧ (Value.bool Z44 = Z10 ∧ True) ∧ Z16) ∧ (true = false → True ∧ (Z23 ∧ True) ∧ Z16)) ∧ (hokM Z0 = false → (Z40 ∧ True) ∧ Z11 ∧ (false = true → (Z12 ∧ (Z14 ∧ Z17) ∧ Z24 ∧ Z14) ∧ (Z40 ∧ Z13 = Z13 ∧ True) ∧ Z11 ∧ True ∧ (Value.bool Z44 = Z10 ∧ True) ∧ Z16) ∧ (false = false → True ∧ (Z23 ∧ True) ∧ Z16)))
    (by kernel_rfl) ?_
  simp only [eq_self, true_and, and_true, Int.toNat_natCast, Nat.zero_add, Nat.sub_zero, Value.int.injEq, Value.bool.injEq, decide_eq_true_eq, decide_eq_false_iff_not]
  have hg : groundM ⟨long, rise, change, ps⟩ = true := hx
  have ok := ground_ok hg
  have h8 : ps.length ≤ 8 := ok.len
  have hl : 0 ≤ long ∧ long ≤ 40 := ok.long
  refine ⟨hg, fun h => ⟨fun _ => ⟨⟨by omega, hl, Int.le_refl _, hl.1⟩, ?_⟩, fun h => absurd h (by decide)⟩, fun h => ⟨fun h => absurd h (by decide), fun _ => ?_⟩⟩
  · unfold rtruthM; rw [h, Bool.true_and]
  · unfold rtruthM; rw [h, Bool.false_and]

theorem rtruth_sound : Sound Try.prog 57 rtruthS.con := FSpec.sound _ (enter_of Try.func57 (by kernel_rfl) (by kernel_rfl)) rtruth_ok
def rcheckM (g : GroundT) (v : Bool) : Int := if groundM g then (if v then (if rtruthM g then 0 else 10) else 2) else 1
def Tck : Tab UU := [(24, isGroundS.con), (57, rtruthS.con)]
theorem Tck_ok : Tck.Sound Try.prog := .cons rGround_sound (.cons rtruth_sound .nil)
def rcheckS : FSpec UU where
  X := GroundT × Bool
  pick := fun args H => match args with
    | [a, b] => match avGround H a, avBool b with
      | some a, some b => some (a, b)
      | _, _ => none
    | _ => none
  args := fun x => [vGround x.1 0, .b x.2]
  H := fun x => [.one (.ro .pit x.1.pits)]
  R := fun x => .val ⟨.i (rcheckM x.1 x.2), [], [], []⟩
  pre := fun x => x.1.pits.length < 1000000
set_option maxHeartbeats 0 in
set_option maxRecDepth 100000 in
theorem rcheck_ok : ∀ x, rcheckS.pre x → FunOk Try.prog 34 (rcheckS.args x) (rcheckS.H x) (rcheckS.R x) := by
  rintro ⟨⟨long, rise, change, ps⟩, v⟩ hx
  refine fun_of (T := Tck) (L := fun _ => none) (hs := fun _ => []) hmix Tck_ok Try.func34 (by kernel_rfl) (by kernel_rfl) ?_
  refine Eq.mp (α :=
      let Z0 := GroundT.mk long rise change ps; let Z1 := Value.int IntKind.i64 rise; let Z2 := Value.int IntKind.i64 long; let Z3 := Value.int IntKind.i64 change; let Z4 := List.length ps; let Z6 := groundM Z0; let Z7 := ps = ps; let Z13 := True ∧ Z7 ∧ True; let Z17 := Value.int IntKind.i64 (rcheckM Z0 v); Z4 < nat_lit 1000000 ∧ ((Z2 = Z2 ∧ Z1 = Z1 ∧ Z3 = Z3 ∧ (nat_lit 0 = nat_lit 0 ∧ nat_lit 0 = nat_lit 0 ∧ Z4 = Z4) ∧ True) ∧ True) ∧ (Z7 ∧ True) ∧ ((!Z6) = true → True ∧ (Value.int IntKind.i64 (1 : Int) = Z17 ∧ True) ∧ Z13) ∧ ((!Z6) = false → ((!v) = true → True ∧ (Value.int IntKind.i64 (2 : Int) = Z17 ∧ True) ∧ Z13) ∧ ((!v) = false → Z6 = true ∧ ((Z2 = Z2 ∧ Z1 = Z1 ∧ Z3 = Z3 ∧ (nat_lit 0 = nat_lit 0 ∧ nat_lit 0 = nat_lit 0 ∧ Z4 = Z4) ∧ True) ∧ True) ∧ (Z7 ∧ True) ∧ ((!rtruthM Z0) = true → True ∧ (Value.int IntKind.i64 (10 : Int) = Z17 ∧ True) ∧ Z13) ∧ ((!rtruthM Z0) = false → True ∧ (Value.int IntKind.i64 (0 : Int) = Z17 ∧ True) ∧ Z13))))
    (by kernel_rfl) ?_
  simp only [eq_self, true_and, and_true, Int.toNat_natCast, Nat.zero_add, Nat.sub_zero, Value.int.injEq, Value.bool.injEq, decide_eq_true_eq, decide_eq_false_iff_not]
  refine ⟨hx, fun h => ?_, fun h => ⟨fun h2 => ?_, fun h2 => ⟨?_, fun h3 => ?_, fun h3 => ?_⟩⟩⟩
  · have h' : groundM ⟨long, rise, change, ps⟩ = false := by simpa using h
    unfold rcheckM; rw [h']; rfl
  all_goals have h' : groundM ⟨long, rise, change, ps⟩ = true := by simpa using h
  · have h2' : v = false := by simpa using h2
    unfold rcheckM; rw [h', h2']; rfl
  · exact h'
  · have h2' : v = true := by simpa using h2
    have h3' : rtruthM ⟨long, rise, change, ps⟩ = false := by simpa using h3
    unfold rcheckM; rw [h', h2', h3']; rfl
  · have h2' : v = true := by simpa using h2
    have h3' : rtruthM ⟨long, rise, change, ps⟩ = true := by simpa using h3
    unfold rcheckM; rw [h', h2', h3']; rfl

theorem rcheck_sound : Sound Try.prog 34 rcheckS.con := FSpec.sound _ (enter_of Try.func34 (by kernel_rfl) (by kernel_rfl)) rcheck_ok
theorem check0 {g : GroundT} {v : Bool} (h : rcheckM g v = 0) : groundM g = true ∧ v = true ∧ hokM g = true ∧ 0 < (rMixM g 0).length ∧ rtruthM g = true := by
  unfold rcheckM at h
  cases hg : groundM g with
  | false => rw [hg] at h; exact absurd h (by simp)
  | true =>
    cases v with
    | false => rw [hg] at h; exact absurd h (by simp)
    | true =>
      cases ht : rtruthM g with
      | false => rw [hg, ht] at h; exact absurd h (by simp)
      | true =>
        have ht' := ht
        unfold rtruthM at ht'
        rw [Bool.and_eq_true, decide_eq_true_eq] at ht'
        exact ⟨rfl, rfl, ht'.1, by omega, rfl⟩
/-! ### Hard -/
def rhardM (g : GroundT) (a : Int) : Span × Int := if rcheckM g (inM a 0 g.long) = 0 then (hardM g a, 0) else ((0, 0), rcheckM g (inM a 0 g.long))
def Trh : Tab UU := [(35, rAtS.con), (34, rcheckS.con), (36, rhdS.con)]
theorem Trh_ok : Trh.Sound Try.prog := .cons rAt_sound (.cons rcheck_sound (.cons rhd_sound .nil))
def rhardS : FSpec UU where
  X := GroundT × Int
  pick := fun args H => avGr2 H args
  args := fun x => [vGround x.1 0, .i x.2]
  H := fun x => [.one (.ro .pit x.1.pits)]
  R := fun x => .val ⟨.tup [vSpan (rhardM x.1 x.2).1, .i (rhardM x.1 x.2).2], [], [], []⟩
  pre := fun x => x.1.pits.length < 1000000
set_option maxHeartbeats 0 in
set_option maxRecDepth 100000 in
theorem rhard_ok : ∀ x, rhardS.pre x → FunOk Try.prog 10 (rhardS.args x) (rhardS.H x) (rhardS.R x) := by
  rintro ⟨⟨long, rise, change, ps⟩, a⟩ hx
  refine fun_of (T := Trh) (L := fun _ => none) (hs := fun _ => []) hmix Trh_ok Try.func10 (by kernel_rfl) (by kernel_rfl) ?_
  refine Eq.mp (α :=
      let Z0 := GroundT.mk long rise change ps; let Z1 := Value.int IntKind.i64 rise; let Z2 := Value.int IntKind.i64 long; let Z3 := Value.int IntKind.i64 change; let Z4 := List.length ps; let Z5 := (0 : Int); let Z10 := inM a Z5 long; let Z11 := ps = ps ∧ True; let Z12 := Value.int IntKind.i64 Z5; let Z19 := Prod.fst (rhardM Z0 a); let Z20 := nat_lit 0 + Int.toNat a; let Z28 := Value.int IntKind.i64 (Prod.snd (rhardM Z0 a)); let Z30 := Value.int IntKind.i64 (Prod.fst Z19); let Z31 := Value.int IntKind.i64 (Prod.snd Z19); let Z33 := List.length (hardsM Z0 (nM Z0)); let Z34 := rcheckM Z0 Z10 != Z5; let Z37 := List.getD (hardsM Z0 (nM Z0)) Z20 (Z5, Z5); let Z38 := Z2 = Z2 ∧ Z1 = Z1 ∧ Z3 = Z3 ∧ (nat_lit 0 = nat_lit 0 ∧ nat_lit 0 = nat_lit 0 ∧ Z4 = Z4) ∧ True; True ∧ (Z38 ∧ Value.int IntKind.i64 a = Value.int IntKind.i64 a ∧ True) ∧ Z11 ∧ Z4 < nat_lit 1000000 ∧ (Z38 ∧ Value.bool Z10 = Value.bool Z10 ∧ True) ∧ Z11 ∧ (Z34 = true → True ∧ (((Z12 = Z30 ∧ Z12 = Z31 ∧ True) ∧ Value.int IntKind.i64 (rcheckM Z0 Z10) = Z28 ∧ True) ∧ True) ∧ True ∧ Z11) ∧ (Z34 = false → groundM Z0 = true ∧ (hokM Z0 = true → (Z38 ∧ True) ∧ Z11 ∧ (Z5 ≤ a ∧ a < (↑Z33 : Int)) ∧ Z20 < Z33 ∧ True ∧ (((Value.int IntKind.i64 (Prod.fst Z37) = Z30 ∧ Value.int IntKind.i64 (Prod.snd Z37) = Z31 ∧ True) ∧ Z12 = Z28 ∧ True) ∧ True) ∧ True ∧ Z11) ∧ (hokM Z0 = false → (Z38 ∧ True) ∧ Z11 ∧ False)))
    (by kernel_rfl) ?_
  simp only [eq_self, true_and, and_true, Int.toNat_natCast, Nat.zero_add, Nat.sub_zero, Value.int.injEq, Value.bool.injEq, decide_eq_true_eq, decide_eq_false_iff_not]
  refine ⟨hx, fun h => ?_, fun h => ?_⟩
  · have h' : ¬ rcheckM ⟨long, rise, change, ps⟩ (inM a 0 long) = 0 := by simpa using h
    have e : rhardM ⟨long, rise, change, ps⟩ a = ((0, 0), rcheckM ⟨long, rise, change, ps⟩ (inM a 0 long)) := if_neg h'
    rw [e]; exact ⟨⟨rfl, rfl⟩, rfl⟩
  · have h' : rcheckM ⟨long, rise, change, ps⟩ (inM a 0 long) = 0 := by simpa using h
    obtain ⟨hg, hv, hh, _, _⟩ := check0 h'
    have ok := ground_ok hg
    have hp : Pl ⟨long, rise, change, ps⟩ a := inM_iff.1 hv
    obtain ⟨k, rfl, hk⟩ := place_of ok hp
    have e : rhardM ⟨long, rise, change, ps⟩ (k : Int) = (hardM ⟨long, rise, change, ps⟩ (k : Int), 0) := if_pos h'
    have hln := hards_len ⟨long, rise, change, ps⟩ (nM ⟨long, rise, change, ps⟩)
    rw [e, Int.toNat_natCast, hards_get hk]
    exact ⟨hg, fun _ => ⟨⟨Int.natCast_nonneg _, by omega⟩, by omega, ⟨rfl, rfl⟩, rfl⟩, fun h => absurd h (by rw [hh]; decide)⟩

theorem rhard_sound : Sound Try.prog 10 rhardS.con := FSpec.sound _ (enter_of Try.func10 (by kernel_rfl) (by kernel_rfl)) rhard_ok
/-! ### Class -/
def rclassOM (g : GroundT) (a : Int) : Int × Int := if rcheckM g (inM a 0 g.long) = 0 then (rclassM g a, 0) else (0, rcheckM g (inM a 0 g.long))
def Trc : Tab UU := [(35, rAtS.con), (34, rcheckS.con), (41, rclassS.con)]
theorem Trc_ok : Trc.Sound Try.prog := .cons rAt_sound (.cons rcheck_sound (.cons rclass_sound .nil))
def rclassOS : FSpec UU where
  X := GroundT × Int
  pick := fun args H => avGr2 H args
  args := fun x => [vGround x.1 0, .i x.2]
  H := fun x => [.one (.ro .pit x.1.pits)]
  R := fun x => .val ⟨.tup [.i (rclassOM x.1 x.2).1, .i (rclassOM x.1 x.2).2], [], [], []⟩
  pre := fun x => x.1.pits.length < 1000000
set_option maxHeartbeats 0 in
set_option maxRecDepth 100000 in
theorem rclassO_ok : ∀ x, rclassOS.pre x → FunOk Try.prog 14 (rclassOS.args x) (rclassOS.H x) (rclassOS.R x) := by
  rintro ⟨⟨long, rise, change, ps⟩, a⟩ hx
  refine fun_of (T := Trc) (L := fun _ => none) (hs := fun _ => []) hmix Trc_ok Try.func14 (by kernel_rfl) (by kernel_rfl) ?_
  refine Eq.mp (α :=
      let Z0 := GroundT.mk long rise change ps; let Z1 := Value.int IntKind.i64 change; let Z2 := Value.int IntKind.i64 long; let Z3 := List.length ps; let Z4 := Value.int IntKind.i64 rise; let Z5 := Value.int IntKind.i64 a; let Z6 := (0 : Int); let Z9 := inM a Z6 long; let Z10 := ps = ps ∧ True; let Z11 := Value.int IntKind.i64 Z6; let Z18 := Z4 = Z4; let Z19 := Z2 = Z2; let Z20 := Z1 = Z1; let Z23 := Value.int IntKind.i64 (Prod.snd (rclassOM Z0 a)); let Z24 := Value.int IntKind.i64 (Prod.fst (rclassOM Z0 a)); let Z26 := nat_lit 0 = nat_lit 0 ∧ nat_lit 0 = nat_lit 0 ∧ Z3 = Z3; let Z28 := rcheckM Z0 Z9 != Z6; True ∧ ((Z19 ∧ Z18 ∧ Z20 ∧ Z26 ∧ True) ∧ Z5 = Z5 ∧ True) ∧ Z10 ∧ Z3 < nat_lit 1000000 ∧ ((Z19 ∧ Z18 ∧ Z20 ∧ Z26 ∧ True) ∧ Value.bool Z9 = Value.bool Z9 ∧ True) ∧ Z10 ∧ (Z28 = true → True ∧ ((Z11 = Z24 ∧ Value.int IntKind.i64 (rcheckM Z0 Z9) = Z23 ∧ True) ∧ True) ∧ True ∧ Z10) ∧ (Z28 = false → (Z3 < nat_lit 1000 ∧ (Z6 ≤ long ∧ long ≤ (40 : Int)) ∧ Z6 ≤ a ∧ a ≤ long) ∧ ((Z19 ∧ Z18 ∧ Z20 ∧ Z26 ∧ True) ∧ Z5 = Z5 ∧ True) ∧ Z10 ∧ True ∧ ((Value.int IntKind.i64 (rclassM Z0 a) = Z24 ∧ Z11 = Z23 ∧ True) ∧ True) ∧ True ∧ Z10))
    (by kernel_rfl) ?_
  simp only [eq_self, true_and, and_true, Int.toNat_natCast, Nat.zero_add, Nat.sub_zero, Value.int.injEq, Value.bool.injEq, decide_eq_true_eq, decide_eq_false_iff_not]
  refine ⟨hx, fun h => ?_, fun h => ?_⟩
  · have h' : ¬ rcheckM ⟨long, rise, change, ps⟩ (inM a 0 long) = 0 := by simpa using h
    have e : rclassOM ⟨long, rise, change, ps⟩ a = (0, rcheckM ⟨long, rise, change, ps⟩ (inM a 0 long)) := if_neg h'
    rw [e]; exact ⟨rfl, rfl⟩
  · have h' : rcheckM ⟨long, rise, change, ps⟩ (inM a 0 long) = 0 := by simpa using h
    obtain ⟨hg, hv, hh, _, _⟩ := check0 h'
    have ok := ground_ok hg
    have h8 : ps.length ≤ 8 := ok.len
    have hl : 0 ≤ long ∧ long ≤ 40 := ok.long
    have e : rclassOM ⟨long, rise, change, ps⟩ a = (rclassM ⟨long, rise, change, ps⟩ a, 0) := if_pos h'
    rw [e]
    exact ⟨⟨by omega, hl, inM_iff.1 hv⟩, rfl, rfl⟩

theorem rclassO_sound : Sound Try.prog 14 rclassOS.con := FSpec.sound _ (enter_of Try.func14 (by kernel_rfl) (by kernel_rfl)) rclassO_ok
/-! ### Work -/
def rsumN (a b : Int) : Nat := (b + 1 - a).toNat
def rsumL (g : GroundT) (a b : Int) : LSpec UU where
  T := { i : Nat // i ≤ rsumN a b }
  fr := fun i => [(2, .i b), (6, .ptr 1 0 0 0), (7, .gs 2 0), (9, .ptr 3 0 0 0), (10, .i (a + (i.1 : Int)))]
  H := fun i => [.one (.ro .pit g.pits), .one (.cells [.i 0, .i 0] 28), .one (.row .span (hardsM g (nM g)) 28), .one (.cells [.i (workAtM g a i.1).1, .i (workAtM g a i.1).2] 28)]
  mu := fun i => rsumN a b - i.1
def rsumM (g : GroundT) (a b : Int) : Span := workAtM g a (rsumN a b)
def avGr3 (H : Heap UU) : List AV → Option (GroundT × Int × Int)
  | [a, b, c] => match avGround H a, avInt b, avInt c with
    | some a, some b, some c => some (a, b, c)
    | _, _, _ => none
  | _ => none
def Trs : Tab UU := [(36, rhdS.con)]
theorem Trs_ok : Trs.Sound Try.prog := .cons rhd_sound .nil
def rsumS : FSpec UU where
  X := GroundT × Int × Int
  pick := fun args H => avGr3 H args
  args := fun x => [vGround x.1 0, .i x.2.1, .i x.2.2]
  H := fun x => [.one (.ro .pit x.1.pits)]
  R := fun x => .val ⟨vSpan (rsumM x.1 x.2.1 x.2.2), [], [], []⟩
  pre := fun x => groundM x.1 = true ∧ hokM x.1 = true ∧ 0 ≤ x.2.1 ∧ x.2.1 ≤ x.2.2 ∧ x.2.2 ≤ x.1.long
set_option maxHeartbeats 0 in
set_option maxRecDepth 100000 in
theorem rsum_ok : ∀ x, rsumS.pre x → FunOk Try.prog 43 (rsumS.args x) (rsumS.H x) (rsumS.R x) := by
  rintro ⟨⟨long, rise, change, ps⟩, a, b⟩ hx
  refine fun_of (T := Trs) (L := fun _ => some (.inv (rsumL ⟨long, rise, change, ps⟩ a b))) (hs := fun _ => []) hmix Trs_ok Try.func43 (by kernel_rfl) (by kernel_rfl) ?_
  refine Eq.mp (α :=
      let Z0 := rsumN a b; let Z1 := GroundT.mk long rise change ps; let Z2 := Value.int IntKind.i64 b; let Z3 := Value.int IntKind.i64 rise; let Z4 := Value.int IntKind.i64 change; let Z5 := List.length ps; let Z6 := True ∧ True ∧ True; let Z7 := Value.int IntKind.i64 long; let Z8 := nat_lit 0 = nat_lit 0 ∧ nat_lit 0 = nat_lit 0; let Z9 := (0 : Int); let Z10 := (1 : Int); let Z11 := nM Z1; let Z12 := Value.slice none (nat_lit 0) (nat_lit 0); let Z13 := hokM Z1; let Z14 := ps = ps; let Z15 := (28 : TypeId); let Z16 := fun (i : Nat) => i ≤ Z0; let Z17 := rsumM Z1 a b; let Z18 := nat_lit 0 = nat_lit 0 ∧ Z8; let Z19 := Z14 ∧ True; let Z20 := Value.int IntKind.i64 Z9; let Z21 := Prod.snd Z17; let Z22 := Prod.fst Z17; let Z23 := Z5 = Z5; let Z24 := True ∧ Z19; let Z25 := Z7 = Z7; let Z26 := Z3 = Z3; let Z27 := Z4 = Z4; let Z28 := Z2 = Z2; let Z29 : Type := { i : Nat // Z16 i }; let Z30 : List Span := hardsM Z1 Z11; let Z31 := fun (x : Z29) => Subtype.val x; let Z32 := nat_lit 0 = nat_lit 0 ∧ Z23; let Z33 := (Z9, Z9); let Z34 := Value.int IntKind.i64 Z21; let Z35 := Value.int IntKind.i64 Z22; let Z36 := b + Z10; let Z37 := Z15 = Z15; let Z38 := nat_lit 0 = nat_lit 0 ∧ Z32; let Z39 := fun (x : Z29) => (↑(Z31 x) : Int); let Z40 := Z38 ∧ True; let Z41 := List.length Z30; let Z42 := fun (x : Z29) => workAtM Z1 a (Z31 x); let Z43 := Z20 = Z20; let Z44 := fun (x : Z29) => Prod.snd (Z42 x); let Z45 := Z43 ∧ True; let Z46 := fun (x : Z29) => Prod.fst (Z42 x); let Z47 := Z36 - a; let Z48 := (↑Z41 : Int); let Z49 := Int.toNat Z47; let Z50 := fun (x : Z29) => a + Z39 x; let Z51 := fun (x : Z29) => Value.int IntKind.i64 (Z46 x); let Z52 := fun (x : Z29) => Value.int IntKind.i64 (Z44 x); let Z53 := fun (t : Z29) => Int.toNat (Z50 t); let Z54 := Z27 ∧ Z40; let Z55 := fun (x : Z29) => Value.int IntKind.i64 (Z50 x); let Z56 := Z30 = Z30; let Z57 := fun (t : Z29) => Z50 t ≤ b; let Z58 := fun (t : Z29) => Z9 ≤ Z50 t; let Z59 := fun (x : Z29) => Value.int IntKind.i64 a = Z55 x; let Z60 := fun (t : Z29) => nat_lit 0 + Z53 t; let Z72 := fun (x : Z29) => Z49 - Z31 x; let Z79 := fun (t : Z29) => Z60 t < Z41; let Z80 := fun (t : Z29) => decide (Z57 t); let Z83 := fun (t : Z29) => List.getD Z30 (Z60 t) Z33; let Z92 := fun (t : Z29) => Z58 t ∧ Z50 t < Z48; let Z118 := fun (t : Z29) => ∃ (x : Z29), ((Z28 ∧ Z18 ∧ nat_lit 0 = nat_lit 0 ∧ Z18 ∧ Value.int IntKind.i64 (IntKind.wrap IntKind.i64 (Z50 t + Z10)) = Z55 x ∧ True) ∧ True ∧ Z14 ∧ (Z43 ∧ Z45) ∧ (Z37 ∧ Z56) ∧ (Value.int IntKind.i64 (IntKind.wrap IntKind.i64 (Z46 t + Prod.fst (Z83 t))) = Z51 x ∧ Value.int IntKind.i64 (IntKind.wrap IntKind.i64 (Z44 t + Prod.snd (Z83 t))) = Z52 x ∧ True) ∧ True) ∧ Z72 x < Z72 t; groundM Z1 = true ∧ (Z13 = true → ((Z25 ∧ Z26 ∧ Z54) ∧ True) ∧ Z19 ∧ (∃ (x : Z29), (Z28 ∧ Z18 ∧ nat_lit 0 = nat_lit 0 ∧ Z18 ∧ Z59 x ∧ True) ∧ True ∧ Z14 ∧ (Z43 ∧ Z45) ∧ (Z37 ∧ Z56) ∧ (Z20 = Z51 x ∧ Z20 = Z52 x ∧ True) ∧ True) ∧ ∀ (t : Z29), (Z80 t = true → Z92 t ∧ Z79 t ∧ Z92 t ∧ Z79 t ∧ True ∧ Z118 t) ∧ (Z80 t = false → True ∧ ((Z51 t = Z35 ∧ Z52 t = Z34 ∧ True) ∧ True) ∧ Z24)) ∧ (Z13 = false → ((Z25 ∧ Z26 ∧ Z54) ∧ True) ∧ Z19 ∧ (∃ (x : Z29), (True ∧ True ∧ nat_lit 0 = nat_lit 0 ∧ Z6) ∧ (True ∧ Z6 ∧ Z30 = [] ∧ Z6 ∧ True) ∧ (Z28 ∧ Z18 ∧ Z12 = Z12 ∧ Z18 ∧ Z59 x ∧ True) ∧ True ∧ Z14 ∧ (Z43 ∧ Z45) ∧ True ∧ (Z20 = Z51 x ∧ Z20 = Z52 x ∧ True) ∧ True) ∧ ∀ (t : Z29), (Z80 t = true → Z92 t ∧ Z79 t ∧ Z92 t ∧ Z79 t ∧ True ∧ Z118 t) ∧ (Z80 t = false → True ∧ ((Z51 t = Z35 ∧ Z52 t = Z34 ∧ True) ∧ True) ∧ Z24)))
    (by kernel_rfl) ?_
  simp only [eq_self, true_and, and_true, Int.toNat_natCast, Nat.zero_add, Nat.sub_zero, Value.int.injEq, Value.bool.injEq, decide_eq_true_eq, decide_eq_false_iff_not]
  obtain ⟨hg, hh, ha, hab, hb⟩ := hx
  have hg' : groundM ⟨long, rise, change, ps⟩ = true := hg
  have hh' : hokM ⟨long, rise, change, ps⟩ = true := hh
  have ha' : 0 ≤ a := ha
  have hab' : a ≤ b := hab
  have hb' : b ≤ long := hb
  have ok := ground_ok hg'
  obtain ⟨n0, n1, n2⟩ := n_ok ok
  have n0' : ((nM ⟨long, rise, change, ps⟩ : Nat) : Int) = long + 1 := n0
  have hln := hards_len ⟨long, rise, change, ps⟩ (nM ⟨long, rise, change, ps⟩)
  refine ⟨hg', fun _ => ⟨⟨⟨0, Nat.zero_le _⟩, by show a = a + ((0 : Nat) : Int); simp, rfl, rfl⟩, fun t => ⟨fun ht => ?_, fun ht => ?_⟩⟩, fun h => absurd h (by rw [hh']; decide)⟩
  · obtain ⟨i, hi⟩ := t
    have hle : a + (i : Int) ≤ b := ht
    have hlt : i < rsumN a b := by unfold rsumN; omega
    have e1 : (a + (i : Int)).toNat = a.toNat + i := by omega
    have b1 : 0 ≤ a + (i : Int) ∧ a + (i : Int) < ((hardsM ⟨long, rise, change, ps⟩ (nM ⟨long, rise, change, ps⟩)).length : Int) := by omega
    have b2 : (a + (i : Int)).toNat < (hardsM ⟨long, rise, change, ps⟩ (nM ⟨long, rise, change, ps⟩)).length := by omega
    refine ⟨b1, b2, b1, b2, ⟨i + 1, hlt⟩, ⟨?_, ?_, ?_⟩, dec1 hlt⟩
    · show IntKind.i64.wrap (a + (i : Int) + 1) = a + ((i + 1 : Nat) : Int)
      rw [wrap_id (by omega) (by omega)]; omega
    · show IntKind.i64.wrap ((workAtM ⟨long, rise, change, ps⟩ a i).1 + ((hardsM ⟨long, rise, change, ps⟩ (nM ⟨long, rise, change, ps⟩)).getD (a + (i : Int)).toNat (0, 0)).1) = _
      rw [e1]; rfl
    · show IntKind.i64.wrap ((workAtM ⟨long, rise, change, ps⟩ a i).2 + ((hardsM ⟨long, rise, change, ps⟩ (nM ⟨long, rise, change, ps⟩)).getD (a + (i : Int)).toNat (0, 0)).2) = _
      rw [e1]; rfl
  · obtain ⟨i, hi⟩ := t
    have hlt : ¬ a + (i : Int) ≤ b := ht
    have hie : i = rsumN a b := by have h1 : i ≤ rsumN a b := hi; unfold rsumN at *; omega
    subst hie
    exact ⟨rfl, rfl⟩

theorem rsum_sound : Sound Try.prog 43 rsumS.con := FSpec.sound _ (enter_of Try.func43 (by kernel_rfl) (by kernel_rfl)) rsum_ok
def rwokM (g : GroundT) (a b : Int) : Bool := inM a 0 g.long && (inM b 0 g.long && decide (a ≤ b))
def rworkM (g : GroundT) (a b : Int) : Span × Int := if rcheckM g (rwokM g a b) = 0 then (rsumM g a b, 0) else ((0, 0), rcheckM g (rwokM g a b))
def Trw : Tab UU := [(35, rAtS.con), (34, rcheckS.con), (43, rsumS.con)]
theorem Trw_ok : Trw.Sound Try.prog := .cons rAt_sound (.cons rcheck_sound (.cons rsum_sound .nil))
def rworkS : FSpec UU where
  X := GroundT × Int × Int
  pick := fun args H => avGr3 H args
  args := fun x => [vGround x.1 0, .i x.2.1, .i x.2.2]
  H := fun x => [.one (.ro .pit x.1.pits)]
  R := fun x => .val ⟨.tup [vSpan (rworkM x.1 x.2.1 x.2.2).1, .i (rworkM x.1 x.2.1 x.2.2).2], [], [], []⟩
  pre := fun x => x.1.pits.length < 1000000
set_option maxHeartbeats 0 in
set_option maxRecDepth 100000 in
theorem rwork_ok : ∀ x, rworkS.pre x → FunOk Try.prog 16 (rworkS.args x) (rworkS.H x) (rworkS.R x) := by
  rintro ⟨⟨long, rise, change, ps⟩, a, b⟩ hx
  refine fun_of (T := Trw) (L := fun _ => none) (hs := fun _ => []) hmix Trw_ok Try.func16 (by kernel_rfl) (by kernel_rfl) ?_
  refine Eq.mp (α :=
      let Z0 := Value.bool false; let Z1 := GroundT.mk long rise change ps; let Z2 := Value.int IntKind.i64 b; let Z3 := Value.int IntKind.i64 rise; let Z4 := Value.int IntKind.i64 change; let Z5 := List.length ps; let Z6 := Value.int IntKind.i64 long; let Z7 := Value.int IntKind.i64 a; let Z8 := a ≤ b; let Z9 := b ≤ long; let Z10 := (0 : Int); let Z17 := rcheckM Z1 false; let Z19 := ps = ps ∧ True; let Z20 := Z5 < nat_lit 1000000; let Z21 := hokM Z1 = true; let Z22 := Value.int IntKind.i64 Z10; let Z24 := groundM Z1 = true; let Z27 := Z10 ≤ a; let Z29 := True ∧ Z19; let Z31 := Z7 = Z7; let Z35 := Prod.fst (rworkM Z1 a b); let Z39 := Value.int IntKind.i64 Z17; let Z40 := Z2 = Z2 ∧ True; let Z46 := Value.int IntKind.i64 (Prod.snd (rworkM Z1 a b)); let Z49 := Value.int IntKind.i64 (Prod.fst Z35); let Z50 := Value.int IntKind.i64 (Prod.snd Z35); let Z52 := Z17 != Z10; let Z55 := Z52 = false; let Z56 := Z22 = Z46; let Z59 := Z22 = Z50; let Z60 := Z22 = Z49; let Z65 := Value.int IntKind.i64 (Prod.snd (rsumM Z1 a b)) = Z50; let Z66 := Value.int IntKind.i64 (Prod.fst (rsumM Z1 a b)) = Z49; let Z70 := Z6 = Z6 ∧ Z3 = Z3 ∧ Z4 = Z4 ∧ (nat_lit 0 = nat_lit 0 ∧ nat_lit 0 = nat_lit 0 ∧ Z5 = Z5) ∧ True; let Z71 := decide Z8; let Z78 := rcheckM Z1 Z71 != Z10; True ∧ (Z70 ∧ Z31 ∧ True) ∧ Z19 ∧ (inM a Z10 long = true → True ∧ (Z70 ∧ Z40) ∧ Z19 ∧ (inM b Z10 long = true → Z20 ∧ (Z70 ∧ Value.bool Z71 = Value.bool Z71 ∧ True) ∧ Z19 ∧ (Z78 = true → True ∧ (((Z60 ∧ Z59 ∧ True) ∧ Value.int IntKind.i64 (rcheckM Z1 Z71) = Z46 ∧ True) ∧ True) ∧ Z29) ∧ (Z78 = false → (Z24 ∧ Z21 ∧ Z27 ∧ Z8 ∧ Z9) ∧ (Z70 ∧ Z31 ∧ Z40) ∧ Z19 ∧ True ∧ (((Z66 ∧ Z65 ∧ True) ∧ Z56 ∧ True) ∧ True) ∧ Z29)) ∧ (inM b Z10 long = false → Z20 ∧ (Z70 ∧ Z0 = Z0 ∧ True) ∧ Z19 ∧ (Z52 = true → True ∧ (((Z60 ∧ Z59 ∧ True) ∧ Z39 = Z46 ∧ True) ∧ True) ∧ Z29) ∧ (Z55 → (Z24 ∧ Z21 ∧ Z27 ∧ Z8 ∧ Z9) ∧ (Z70 ∧ Z31 ∧ Z40) ∧ Z19 ∧ True ∧ (((Z66 ∧ Z65 ∧ True) ∧ Z56 ∧ True) ∧ True) ∧ Z29))) ∧ (inM a Z10 long = false → Z20 ∧ (Z70 ∧ Z0 = Z0 ∧ True) ∧ Z19 ∧ (Z52 = true → True ∧ (((Z60 ∧ Z59 ∧ True) ∧ Z39 = Z46 ∧ True) ∧ True) ∧ Z29) ∧ (Z55 → (Z24 ∧ Z21 ∧ Z27 ∧ Z8 ∧ Z9) ∧ (Z70 ∧ Z31 ∧ Z40) ∧ Z19 ∧ True ∧ (((Z66 ∧ Z65 ∧ True) ∧ Z56 ∧ True) ∧ True) ∧ Z29)))
    (by kernel_rfl) ?_
  simp only [eq_self, true_and, and_true, Int.toNat_natCast, Nat.zero_add, Nat.sub_zero, Value.int.injEq, Value.bool.injEq, decide_eq_true_eq, decide_eq_false_iff_not]
  have key : ∀ w : Bool, w = rwokM ⟨long, rise, change, ps⟩ a b → ps.length < 1000000 ∧ ((rcheckM ⟨long, rise, change, ps⟩ w != 0) = true → (0 = (rworkM ⟨long, rise, change, ps⟩ a b).1.1 ∧ 0 = (rworkM ⟨long, rise, change, ps⟩ a b).1.2) ∧ rcheckM ⟨long, rise, change, ps⟩ w = (rworkM ⟨long, rise, change, ps⟩ a b).2) ∧ ((rcheckM ⟨long, rise, change, ps⟩ w != 0) = false → (groundM ⟨long, rise, change, ps⟩ = true ∧ hokM ⟨long, rise, change, ps⟩ = true ∧ 0 ≤ a ∧ a ≤ b ∧ b ≤ long) ∧ ((rsumM ⟨long, rise, change, ps⟩ a b).1 = (rworkM ⟨long, rise, change, ps⟩ a b).1.1 ∧ (rsumM ⟨long, rise, change, ps⟩ a b).2 = (rworkM ⟨long, rise, change, ps⟩ a b).1.2) ∧ 0 = (rworkM ⟨long, rise, change, ps⟩ a b).2) := by
    intro w hw
    subst hw
    refine ⟨hx, fun h => ?_, fun h => ?_⟩
    · have h' : ¬ rcheckM ⟨long, rise, change, ps⟩ (rwokM ⟨long, rise, change, ps⟩ a b) = 0 := by simpa using h
      have e : rworkM ⟨long, rise, change, ps⟩ a b = ((0, 0), rcheckM ⟨long, rise, change, ps⟩ (rwokM ⟨long, rise, change, ps⟩ a b)) := if_neg h'
      rw [e]; exact ⟨⟨rfl, rfl⟩, rfl⟩
    · have h' : rcheckM ⟨long, rise, change, ps⟩ (rwokM ⟨long, rise, change, ps⟩ a b) = 0 := by simpa using h
      obtain ⟨hg, hv, hh, _, _⟩ := check0 h'
      have e : rworkM ⟨long, rise, change, ps⟩ a b = (rsumM ⟨long, rise, change, ps⟩ a b, 0) := if_pos h'
      rw [e]
      unfold rwokM at hv
      simp only [Bool.and_eq_true, inM_iff, decide_eq_true_eq] at hv
      exact ⟨⟨hg, hh, hv.1.1, hv.2.2, hv.2.1.2⟩, ⟨rfl, rfl⟩, rfl⟩
  refine ⟨fun h1 => ⟨fun h2 => key _ ?_, fun h2 => key _ ?_⟩, fun h1 => key _ ?_⟩
  · show _ = (inM a 0 long && (inM b 0 long && decide (a ≤ b))); rw [h1, h2]; rfl
  · show _ = (inM a 0 long && (inM b 0 long && decide (a ≤ b))); rw [h1, h2]; rfl
  · show _ = (inM a 0 long && (inM b 0 long && decide (a ≤ b))); rw [h1]; rfl

theorem rwork_sound : Sound Try.prog 16 rworkS.con := FSpec.sound _ (enter_of Try.func16 (by kernel_rfl) (by kernel_rfl)) rwork_ok
/-! ### Parts -/
def spAM (l : List M2) : Nat → Span
  | 0 => ((l.getD 0 (0, 0)).1, (l.getD 0 (0, 0)).1)
  | i + 1 => joinM (spAM l i) (l.getD i (0, 0)).1
def spBM (l : List M2) : Nat → Span
  | 0 => ((l.getD 0 (0, 0)).2, (l.getD 0 (0, 0)).2)
  | i + 1 => joinM (spBM l i) (l.getD i (0, 0)).2
def spCM (l : List M2) : Nat → Span
  | 0 => (rclayM (l.getD 0 (0, 0)), rclayM (l.getD 0 (0, 0)))
  | i + 1 => joinM (spCM l i) (rclayM (l.getD i (0, 0)))
def rptL (l : List M2) (ps : List PitT) : LSpec UU where
  T := { i : Nat // i ≤ l.length }
  fr := fun i => [(4, .ptr 1 0 0 0), (5, .ptr 2 0 0 0), (6, .ptr 3 0 0 0), (9, .gs 4 0), (10, .ptr 5 0 0 0), (11, .ptr 6 0 0 0), (12, .ptr 7 0 0 0), (13, .i i.1)]
  H := fun i => [.one (.ro .pit ps), .one (.cells [.i 0, .i 0] 28), .one (.cells [.i 0, .i 0] 28), .one (.cells [.i 0, .i 0] 28), .one (.row .rmix l 84), .one (.cells [.i (spAM l i.1).1, .i (spAM l i.1).2] 28), .one (.cells [.i (spBM l i.1).1, .i (spBM l i.1).2] 28), .one (.cells [.i (spCM l i.1).1, .i (spCM l i.1).2] 28)]
  mu := fun i => l.length - i.1
def rpartsM (g : GroundT) (a : Int) : Mix3 × Int := if rcheckM g (inM a 0 g.long) = 0 then ((spAM (rMixM g a) (rMixM g a).length, spBM (rMixM g a) (rMixM g a).length, spCM (rMixM g a) (rMixM g a).length), 0) else (m0, rcheckM g (inM a 0 g.long))
def Trp : Tab UU := [(35, rAtS.con), (34, rcheckS.con), (37, rmixS.con), (38, rclayS.con), (39, joinS.con)]
theorem Trp_ok : Trp.Sound Try.prog := .cons rAt_sound (.cons rcheck_sound (.cons rmix_sound (.cons rclay_sound (.cons join_sound .nil))))
def rpartsS : FSpec UU where
  X := GroundT × Int
  pick := fun args H => avGr2 H args
  args := fun x => [vGround x.1 0, .i x.2]
  H := fun x => [.one (.ro .pit x.1.pits)]
  R := fun x => .val ⟨.tup [vSpan (rpartsM x.1 x.2).1.1, vSpan (rpartsM x.1 x.2).1.2.1, vSpan (rpartsM x.1 x.2).1.2.2, .i (rpartsM x.1 x.2).2], [], [], []⟩
  pre := fun x => x.1.pits.length < 1000000 ∧ (rcheckM x.1 (inM x.2 0 x.1.long) = 0 → 0 < (rMixM x.1 x.2).length)
set_option maxHeartbeats 0 in
set_option maxRecDepth 100000 in
theorem rparts_ok : ∀ x, rpartsS.pre x → FunOk Try.prog 12 (rpartsS.args x) (rpartsS.H x) (rpartsS.R x) := by
  rintro ⟨⟨long, rise, change, ps⟩, a⟩ hx
  refine fun_of (T := Trp) (L := fun _ => some (.inv (rptL (rMixM ⟨long, rise, change, ps⟩ a) ps))) (hs := fun _ => []) hmix Trp_ok Try.func12 (by kernel_rfl) (by kernel_rfl) ?_
  refine Eq.mp (α :=
      let Z0 := GroundT.mk long rise change ps; let Z1 := List.length ps; let Z2 := Value.int IntKind.i64 rise; let Z3 := Value.int IntKind.i64 change; let Z4 := Value.int IntKind.i64 long; let Z5 := Value.int IntKind.i64 a; let Z7 := (0 : Int); let Z8 : List M2 := rMixM Z0 a; let Z9 := ps = ps; let Z10 := (84 : TypeId); let Z12 := inM a Z7 long; let Z13 := nat_lit 0 = nat_lit 0 ∧ nat_lit 0 = nat_lit 0 ∧ nat_lit 0 = nat_lit 0; let Z14 := Z9 ∧ True; let Z15 := Value.int IntKind.i64 Z7; let Z16 := List.length Z8; let Z21 := Z3 = Z3; let Z22 := Z2 = Z2; let Z23 := Z4 = Z4; let Z25 := Prod.fst (rpartsM Z0 a); let Z27 := List.length Z8; let Z29 := (Z7, Z7); let Z32 := Value.int IntKind.i64 (Prod.snd (rpartsM Z0 a)); let Z35 := nat_lit 0 = nat_lit 0 ∧ nat_lit 0 = nat_lit 0 ∧ Z1 = Z1; let Z36 := nat_lit 0 < Z27; let Z37 := (↑Z27 : Int); let Z39 : Type := { i : Nat // i ≤ Z16 }; let Z40 := Prod.fst Z25; let Z41 := Prod.snd Z25; let Z42 := Z8 = Z8; let Z43 := fun (x : Z39) => Subtype.val x; let Z48 := Prod.fst Z41; let Z49 := Prod.snd Z41; let Z50 := fun (x : Z39) => (↑(Z43 x) : Int); let Z51 := Value.int IntKind.i64 (Prod.snd Z40); let Z52 := Value.int IntKind.i64 (Prod.fst Z40); let Z57 := List.getD Z8 (nat_lit 0) Z29; let Z60 := fun (x : Z39) => spBM Z8 (Z43 x); let Z61 := fun (x : Z39) => spAM Z8 (Z43 x); let Z62 := fun (x : Z39) => spCM Z8 (Z43 x); let Z65 := rcheckM Z0 Z12 != Z7; let Z69 := Value.int IntKind.i64 (Prod.snd Z48); let Z70 := Value.int IntKind.i64 (Prod.fst Z49); let Z71 := Value.int IntKind.i64 (Prod.snd Z49); let Z72 := Value.int IntKind.i64 (Prod.fst Z48); let Z79 := Value.int IntKind.i64 (rclayM Z57); let Z80 := Value.int IntKind.i64 (Prod.fst Z57); let Z81 := Value.int IntKind.i64 (Prod.snd Z57); let Z82 := fun (t : Z39) => Z7 ≤ Z50 t; let Z83 := fun (t : Z39) => nat_lit 0 + Int.toNat (Z50 t); let Z84 := fun (x : Z39) => Value.int IntKind.i64 (Prod.snd (Z60 x)); let Z85 := fun (x : Z39) => Value.int IntKind.i64 (Prod.fst (Z61 x)); let Z86 := fun (x : Z39) => Value.int IntKind.i64 (Prod.fst (Z60 x)); let Z87 := fun (x : Z39) => Value.int IntKind.i64 (Prod.snd (Z62 x)); let Z88 := fun (x : Z39) => Value.int IntKind.i64 (Prod.snd (Z61 x)); let Z89 := fun (x : Z39) => Value.int IntKind.i64 (Prod.fst (Z62 x)); let Z91 := fun (x : Z39) => Z16 - Z43 x; let Z93 := Z7 ≤ Z7 ∧ Z7 < Z37; let Z94 := Z15 = Z15 ∧ Z15 = Z15 ∧ True; let Z95 := fun (t : Z39) => Z50 t < Z37; let Z96 := fun (t : Z39) => Z83 t < Z27; let Z98 := fun (t : Z39) => List.getD Z8 (Z83 t) Z29; let Z99 := fun (t : Z39) => rclayM (Z98 t); let Z100 := fun (t : Z39) => Prod.snd (Z98 t); let Z101 := fun (t : Z39) => Prod.fst (Z98 t); let Z104 := fun (t : Z39) => Value.int IntKind.i64 (Z101 t); let Z105 := fun (t : Z39) => Value.int IntKind.i64 (Z100 t); let Z110 := fun (t : Z39) => decide (Z95 t); True ∧ ((Z23 ∧ Z22 ∧ Z21 ∧ Z35 ∧ True) ∧ Z5 = Z5 ∧ True) ∧ Z14 ∧ Z1 < nat_lit 1000000 ∧ ((Z23 ∧ Z22 ∧ Z21 ∧ Z35 ∧ True) ∧ Value.bool Z12 = Value.bool Z12 ∧ True) ∧ Z14 ∧ (Z65 = true → True ∧ (((Z15 = Z52 ∧ Z15 = Z51 ∧ True) ∧ (Z15 = Z72 ∧ Z15 = Z69 ∧ True) ∧ (Z15 = Z70 ∧ Z15 = Z71 ∧ True) ∧ Value.int IntKind.i64 (rcheckM Z0 Z12) = Z32 ∧ True) ∧ True) ∧ True ∧ Z14) ∧ (Z65 = false → (Z1 < nat_lit 1000 ∧ (Z7 ≤ long ∧ long ≤ (40 : Int)) ∧ Z7 ≤ a ∧ a ≤ long) ∧ ((Z23 ∧ Z22 ∧ Z21 ∧ Z35 ∧ True) ∧ Z5 = Z5 ∧ True) ∧ Z14 ∧ Z93 ∧ Z36 ∧ Z93 ∧ Z36 ∧ Z93 ∧ Z36 ∧ Z93 ∧ Z36 ∧ Z93 ∧ Z36 ∧ True ∧ ((Z80 = Z80 ∧ Z81 = Z81 ∧ True) ∧ True) ∧ True ∧ Z93 ∧ Z36 ∧ True ∧ ((Z80 = Z80 ∧ Z81 = Z81 ∧ True) ∧ True) ∧ True ∧ (∃ (x : Z39), (Z13 ∧ Z13 ∧ Z13 ∧ nat_lit 0 = nat_lit 0 ∧ Z13 ∧ Z13 ∧ Z13 ∧ Z15 = Value.int IntKind.i64 (Z50 x) ∧ True) ∧ True ∧ Z9 ∧ Z94 ∧ Z94 ∧ Z94 ∧ (Z10 = Z10 ∧ Z42) ∧ (Z80 = Z85 x ∧ Z80 = Z88 x ∧ True) ∧ (Z81 = Z86 x ∧ Z81 = Z84 x ∧ True) ∧ (Z79 = Z89 x ∧ Z79 = Z87 x ∧ True) ∧ True) ∧ ∀ (t : Z39), (Z110 t = true → (Z82 t ∧ Z95 t) ∧ Z96 t ∧ True ∧ ((Z85 t = Z85 t ∧ Z88 t = Z88 t ∧ True) ∧ Z104 t = Z104 t ∧ True) ∧ True ∧ (Z82 t ∧ Z95 t) ∧ Z96 t ∧ True ∧ ((Z86 t = Z86 t ∧ Z84 t = Z84 t ∧ True) ∧ Z105 t = Z105 t ∧ True) ∧ True ∧ (Z82 t ∧ Z95 t) ∧ Z96 t ∧ True ∧ ((Z104 t = Z104 t ∧ Z105 t = Z105 t ∧ True) ∧ True) ∧ True ∧ True ∧ ((Z89 t = Z89 t ∧ Z87 t = Z87 t ∧ True) ∧ Value.int IntKind.i64 (Z99 t) = Value.int IntKind.i64 (Z99 t) ∧ True) ∧ True ∧ True ∧ ∃ (x : Z39), ((Z13 ∧ Z13 ∧ Z13 ∧ nat_lit 0 = nat_lit 0 ∧ Z13 ∧ Z13 ∧ Z13 ∧ Value.int IntKind.i64 (IntKind.wrap IntKind.i64 (Z50 t + (1 : Int))) = Value.int IntKind.i64 (Z50 x) ∧ True) ∧ True ∧ Z9 ∧ Z94 ∧ Z94 ∧ Z94 ∧ (Z10 = Z10 ∧ Z42) ∧ (Value.int IntKind.i64 (Prod.fst (joinM (Z61 t) (Z101 t))) = Z85 x ∧ Value.int IntKind.i64 (Prod.snd (joinM (Z61 t) (Z101 t))) = Z88 x ∧ True) ∧ (Value.int IntKind.i64 (Prod.fst (joinM (Z60 t) (Z100 t))) = Z86 x ∧ Value.int IntKind.i64 (Prod.snd (joinM (Z60 t) (Z100 t))) = Z84 x ∧ True) ∧ (Value.int IntKind.i64 (Prod.fst (joinM (Z62 t) (Z99 t))) = Z89 x ∧ Value.int IntKind.i64 (Prod.snd (joinM (Z62 t) (Z99 t))) = Z87 x ∧ True) ∧ True) ∧ Z91 x < Z91 t) ∧ (Z110 t = false → True ∧ (((Z85 t = Z52 ∧ Z88 t = Z51 ∧ True) ∧ (Z86 t = Z72 ∧ Z84 t = Z69 ∧ True) ∧ (Z89 t = Z70 ∧ Z87 t = Z71 ∧ True) ∧ Z15 = Z32 ∧ True) ∧ True) ∧ True ∧ Z14)))
    (by kernel_rfl) ?_
  simp only [eq_self, true_and, and_true, Int.toNat_natCast, Nat.zero_add, Nat.sub_zero, Value.int.injEq, Value.bool.injEq, decide_eq_true_eq, decide_eq_false_iff_not]
  obtain ⟨hx1, hx2⟩ := hx
  refine ⟨hx1, fun h => ?_, fun h => ?_⟩
  · have h' : ¬ rcheckM ⟨long, rise, change, ps⟩ (inM a 0 long) = 0 := by simpa using h
    have e : rpartsM ⟨long, rise, change, ps⟩ a = (m0, rcheckM ⟨long, rise, change, ps⟩ (inM a 0 long)) := if_neg h'
    rw [e]; exact ⟨⟨rfl, rfl⟩, ⟨rfl, rfl⟩, ⟨rfl, rfl⟩, rfl⟩
  · have h' : rcheckM ⟨long, rise, change, ps⟩ (inM a 0 long) = 0 := by simpa using h
    obtain ⟨hg, hv, hh, _, _⟩ := check0 h'
    have ok := ground_ok hg
    have h8 : ps.length ≤ 8 := ok.len
    have hl : 0 ≤ long ∧ long ≤ 40 := ok.long
    have hpos : 0 < (rMixM ⟨long, rise, change, ps⟩ a).length := hx2 h'
    have e : rpartsM ⟨long, rise, change, ps⟩ a = ((spAM (rMixM ⟨long, rise, change, ps⟩ a) (rMixM ⟨long, rise, change, ps⟩ a).length, spBM (rMixM ⟨long, rise, change, ps⟩ a) (rMixM ⟨long, rise, change, ps⟩ a).length, spCM (rMixM ⟨long, rise, change, ps⟩ a) (rMixM ⟨long, rise, change, ps⟩ a).length), 0) := if_pos h'
    have hlen : (rMixM ⟨long, rise, change, ps⟩ a).length ≤ 231 * 231 := by
      have h := cross_len (fwM ⟨long, rise, change, ps⟩ a) (bwM ⟨long, rise, change, ps⟩ a) _ (Nat.le_refl _)
      rw [List.take_length] at h
      exact Nat.le_trans h (Nat.mul_le_mul (ch_len _ _ _ _) (ch_len _ _ _ _))
    rw [e]
    clear e
    revert hpos hlen
    generalize rMixM ⟨long, rise, change, ps⟩ a = l
    intro hpos hlen
    have q1 : (0 : Int) ≤ 0 ∧ (0 : Int) < (l.length : Int) := by omega
    refine ⟨⟨by omega, hl, inM_iff.1 hv⟩, q1, hpos, q1, hpos, q1, hpos, q1, hpos, q1, hpos, q1, hpos, ⟨⟨0, Nat.zero_le _⟩, rfl, ⟨rfl, rfl⟩, ⟨rfl, rfl⟩, rfl, rfl⟩, fun t => ⟨fun ht => ?_, fun ht => ?_⟩⟩
    · obtain ⟨i, hi⟩ := t
      have hlt : i < l.length := by have h0 : (i : Int) < (l.length : Int) := ht; omega
      have r1 : (0 : Int) ≤ (i : Int) ∧ (i : Int) < (l.length : Int) := by omega
      refine ⟨r1, hlt, r1, hlt, r1, hlt, ⟨i + 1, hlt⟩, ⟨sucI i (by omega), ?_⟩, dec1 hlt⟩
      exact ⟨⟨rfl, rfl⟩, ⟨rfl, rfl⟩, rfl, rfl⟩
    · obtain ⟨i, hi⟩ := t
      have hie : i = l.length := by have h0 : ¬ (i : Int) < (l.length : Int) := ht; omega
      subst hie
      exact ⟨⟨rfl, rfl⟩, ⟨rfl, rfl⟩, ⟨rfl, rfl⟩, rfl⟩

theorem rparts_sound : Sound Try.prog 12 rpartsS.con := FSpec.sound _ (enter_of Try.func12 (by kernel_rfl) (by kernel_rfl)) rparts_ok
end AE.Soil

namespace AE.Soil
open Go AE Go.Proofs

def avSpan2 : AV → Option Span
  | .agg [a, b] => match avInt a, avInt b with
    | some a, some b => some (a, b)
    | _, _ => none
  | _ => none
def with1S : FSpec UU where
  X := Span × Span
  pick := fun args _ => match args with
    | [a, b] => match avSpan2 a, avSpan2 b with
      | some a, some b => some (a, b)
      | _, _ => none
    | _ => none
  args := fun x => [vSpan x.1, vSpan x.2]
  H := fun _ => []
  R := fun x => .val ⟨vSpan (bothM x.1 x.2), [], [], []⟩
def Tspan1 : Tab UU := [(23, lspanS.con)]
theorem Tspan1_ok : Tspan1.Sound Try.prog := .cons lspan_sound .nil
set_option maxRecDepth 100000 in
theorem with1_ok : ∀ x, with1S.pre x → FunOk Try.prog 69 (with1S.args x) (with1S.H x) (with1S.R x) := by
  rintro ⟨⟨a, b⟩, ⟨c, d⟩⟩ _
  refine fun_of (T := Tspan1) (L := fun _ => none) (hs := fun _ => []) hmix Tspan1_ok Try.func69 (by kernel_rfl) (by kernel_rfl) ?_
  refine Eq.mp (α :=
      let Z2 := Value.int IntKind.i64 (min b d); let Z3 := Value.int IntKind.i64 (max a c); let Z4 := bothM (a, b) (c, d); True ∧ (Z3 = Z3 ∧ Z2 = Z2 ∧ True) ∧ True ∧ True ∧ ((Z3 = Value.int IntKind.i64 (Prod.fst Z4) ∧ Z2 = Value.int IntKind.i64 (Prod.snd Z4) ∧ True) ∧ True) ∧ True ∧ True)
    (by kernel_rfl) ?_
  simp only [eq_self, true_and, and_true, Int.toNat_natCast, Nat.zero_add, Nat.sub_zero, Value.int.injEq, Value.bool.injEq, decide_eq_true_eq, decide_eq_false_iff_not]
  simp [bothM]

theorem with1_sound : Sound Try.prog 69 with1S.con := FSpec.sound _ (enter_of Try.func69 (by kernel_rfl) (by kernel_rfl)) with1_ok
/-! ### with -/
def mergeM (o p : PitT) : PitT := (o.1, bothM o.2.1 p.2.1, bothM o.2.2.1 p.2.2.1, bothM o.2.2.2.1 p.2.2.2.1, bothM o.2.2.2.2 p.2.2.2.2)
def wstepM (p o : PitT) (r : List PitT × Bool) : List PitT × Bool :=
  if !r.2 && decide (o.1 > p.1) then (if o.1 = p.1 then ((r.1 ++ [p]) ++ [mergeM o p], true) else ((r.1 ++ [p]) ++ [o], true)) else (if o.1 = p.1 then (r.1 ++ [mergeM o p], true) else (r.1 ++ [o], r.2))
def wAtM (l : List PitT) (p : PitT) : Nat → List PitT × Bool
  | 0 => ([], false)
  | i + 1 => wstepM p (l.getD i pit0) (wAtM l p i)
def withM (l : List PitT) (p : PitT) : List PitT := if (wAtM l p l.length).2 then (wAtM l p l.length).1 else (wAtM l p l.length).1 ++ [p]
theorem w_ny {l : List PitT} {p : PitT} {i : Nat} (h : (wAtM l p i).2 = false) (h1 : (l.getD i pit0).1 > p.1) (h2 : ¬ (l.getD i pit0).1 = p.1) : wAtM l p (i + 1) = (((wAtM l p i).1 ++ [p]) ++ [l.getD i pit0], true) := by
  show wstepM _ _ _ = _
  unfold wstepM
  rw [h, decide_eq_true h1, if_pos (by decide), if_neg h2]
theorem w_m {l : List PitT} {p : PitT} {i : Nat} (h : (!(wAtM l p i).2 && decide ((l.getD i pit0).1 > p.1)) = false) (h2 : (l.getD i pit0).1 = p.1) : wAtM l p (i + 1) = ((wAtM l p i).1 ++ [mergeM (l.getD i pit0) p], true) := by
  show wstepM _ _ _ = _
  unfold wstepM
  rw [h, if_neg (by decide), if_pos h2]
theorem w_n {l : List PitT} {p : PitT} {i : Nat} (h : (!(wAtM l p i).2 && decide ((l.getD i pit0).1 > p.1)) = false) (h2 : ¬ (l.getD i pit0).1 = p.1) : wAtM l p (i + 1) = ((wAtM l p i).1 ++ [l.getD i pit0], (wAtM l p i).2) := by
  show wstepM _ _ _ = _
  unfold wstepM
  rw [h, if_neg (by decide), if_neg h2]
theorem w_len (l : List PitT) (p : PitT) : ∀ i, (wAtM l p i).1.length ≤ 2 * i
  | 0 => Nat.le_refl 0
  | i + 1 => by
    have := w_len l p i
    show (wstepM _ _ _).1.length ≤ _
    unfold wstepM
    split <;> split <;> simp <;> omega
def wL (g : GroundT) (p : PitT) : LSpec UU where
  T := { i : Nat // i ≤ g.pits.length }
  fr := fun i => [(2, .ptr 1 0 0 0), (3, .ptr 2 0 0 0), (4, .ptr 3 0 0 0), (6, .fn (.func 69) [] []), (7, .ptr 4 0 0 0), (8, .b (wAtM g.pits p i.1).2), (14, .sl 0 0 0 g.pits.length), (15, .i g.pits.length), (16, .i i.1)]
  H := fun i => [.one (.ro .pit g.pits), .one (.cells (cGround g 0) 24), .one (.cells (CC.enc .pit p) 54), .one (.cells [.i 0, .i 0, .i 0, .v (.slice none 0 0)] 24), .one (.cells [.i g.long, .i g.rise, .i g.change, .gs 5 0] 24), .one (.row .pit (wAtM g.pits p i.1).1 54)]
  mu := fun i => g.pits.length - i.1
def Twith : Tab UU := [(69, with1S.con), (24, isGroundS.con)]
theorem Twith_ok : Twith.Sound Try.prog := .cons with1_sound (.cons rGround_sound .nil)
def withGM (g : GroundT) (p : PitT) : GroundT := ⟨g.long, g.rise, g.change, withM g.pits p⟩
def withS : FSpec UU where
  X := GroundT × PitT
  pick := fun args H => match args with
    | [a, b] => match avGround H a, avPit b with
      | some a, some b => some (a, b)
      | _, _ => none
    | _ => none
  args := fun x => [vGround x.1 0, vPit x.2]
  H := fun x => [.one (.ro .pit x.1.pits)]
  R := fun x => .val ⟨.tup [.agg [.i x.1.long, .i x.1.rise, .i x.1.change, .gs 1 0], .b (groundM (withGM x.1 x.2))], [], [], [.row .pit (withM x.1.pits x.2) 54]⟩
  pre := fun x => x.1.pits.length < 1000
set_option maxHeartbeats 0 in
set_option maxRecDepth 100000 in
theorem with_ok : ∀ x, withS.pre x → FunOk Try.prog 55 (withS.args x) (withS.H x) (withS.R x) := by
  rintro ⟨⟨long, rise, change, ps⟩, p⟩ hx
  obtain ⟨pa, ⟨ph, ph2⟩, ⟨ps1, ps2⟩, ⟨pi1, pi2⟩, pc1, pc2⟩ := p
  refine fun_of (T := Twith) (L := fun _ => some (.inv (wL ⟨long, rise, change, ps⟩ (pa, (ph, ph2), (ps1, ps2), (pi1, pi2), pc1, pc2)))) (hs := fun _ => []) hmix Twith_ok Try.func55 (by kernel_rfl) (by kernel_rfl) ?_
  refine Eq.mp (α :=
      let Z0 := True ∧ True; let Z1 : Option Addr := none; let Z2 := Value.bool true; let Z3 := (ps1, ps2); let Z4 := (ph, ph2); let Z5 := (pi1, pi2); let Z6 := (pc1, pc2); let Z7 := nat_lit 0 = nat_lit 0 ∧ True; let Z8 := GroundT.mk long rise change ps; let Z9 := nat_lit 1 ≤ nat_lit 1; let Z10 := Value.int IntKind.i64 change; let Z11 := Value.int IntKind.i64 ps2; let Z12 := Value.int IntKind.i64 pc2; let Z13 := Value.int IntKind.i64 ph; let Z14 := Value.int IntKind.i64 ph2; let Z15 := Value.int IntKind.i64 pi2; let Z16 := List.length ps; let Z17 := Value.int IntKind.i64 long; let Z18 := Value.int IntKind.i64 rise; let Z19 := Value.int IntKind.i64 pa; let Z20 := Value.int IntKind.i64 pi1; let Z21 := Value.int IntKind.i64 ps1; let Z22 := Value.int IntKind.i64 pc1; let Z23 := True ∧ Z0; let Z24 := nat_lit 0 = nat_lit 0 ∧ nat_lit 0 = nat_lit 0; let Z25 := AV.v Z19; let Z26 := (0 : Int); let Z27 := AV.v Z15; let Z28 := AV.v Z22; let Z29 := AV.v Z13; let Z30 := AV.v Z14; let Z31 := AV.v Z21; let Z32 := AV.v Z11; let Z33 := AV.v Z12; let Z34 := AV.v Z20; let Z35 := (1 : Int); let Z36 : List (Int × Span × Span × Span × Span) := []; let Z37 := Value.slice Z1 (nat_lit 0) (nat_lit 0); let Z38 := (0 : Nat); let Z39 := (1 : Nat); let Z40 := (7 : Nat); let Z41 := True ∧ Z23; let Z42 : List PitT := GroundT.pits Z8; let Z43 := ps = ps; let Z44 := (54 : TypeId); let Z45 := (69 : FuncId); let Z46 := True ∧ Z41; let Z47 := nat_lit 0 = nat_lit 0 ∧ Z24; let Z48 := Fn.func Z45; let Z49 := (↑Z16 : Int); let Z50 := nat_lit 54 = Z44; let Z51 := Value.int IntKind.i64 Z26; let Z52 := True ∧ Z46; let Z53 := Z16 = Z16; let Z54 := List.length Z42; let Z55 := Z20 = Z20; let Z56 := Z11 = Z11; let Z57 := Z19 = Z19; let Z58 := Z13 = Z13; let Z59 := Z14 = Z14; let Z60 := Z17 = Z17; let Z61 := Z21 = Z21; let Z62 := Z22 = Z22; let Z63 := Z18 = Z18; let Z64 := Z15 = Z15; let Z65 := Z10 = Z10; let Z66 := Z12 = Z12; let Z67 := Z27 = Z27; let Z68 := Z34 = Z34; let Z69 := Z29 = Z29; let Z70 := Z56 ∧ True; let Z71 := Z64 ∧ True; let Z72 := Z28 = Z28; let Z73 := Z33 = Z33; let Z74 := Z30 = Z30; let Z75 := Z59 ∧ True; let Z76 := Z32 = Z32; let Z77 := Z31 = Z31; let Z78 := Z25 = Z25; let Z79 := Z66 ∧ True; let Z80 := (Z5, Z6); let Z81 := Value.int IntKind.i64 Z49; let Z82 := nat_lit 0 = nat_lit 0 ∧ Z53; let Z83 := Z37 = Z37; let Z84 := (Z26, Z26); let Z85 := Z73 ∧ True; let Z86 := fun (i : Nat) => i ≤ Z54; let Z87 := Z65 ∧ Z7; let Z88 := Z83 ∧ True; let Z89 := nat_lit 0 = nat_lit 0 ∧ Z82; let Z90 := Z48 = Z48; let Z91 := Z89 ∧ True; let Z92 : Type := { i : Nat // Z86 i }; let Z93 := fun (x : Z92) => Subtype.val x; let Z94 := Z51 = Z51; let Z95 := Z90 ∧ Z0; let Z96 := Z58 ∧ Z75; let Z97 := Z62 ∧ Z79; let Z98 := Z55 ∧ Z71; let Z99 := Z61 ∧ Z70; let Z100 := (Z3, Z80); let Z101 := fun (x : Z92) => (↑(Z93 x) : Int); let Z102 := Z98 ∧ True; let Z103 := Z97 ∧ True; let Z104 := Z96 ∧ True; let Z105 := Z99 ∧ True; let Z106 := fun (t : Z92) => Int.toNat (Z101 t); let Z107 := Z63 ∧ Z87; let Z108 := Z72 ∧ Z85; let Z109 := Z81 = Z81; let Z110 := fun (x : Z92) => Value.int IntKind.i64 (Z101 x); let Z111 := Z65 ∧ Z91; let Z112 := fun (x : Z92) => Z16 - Z93 x; let Z113 := (Z84, Z84); let Z114 := fun (t : Z92) => nat_lit 0 + Z106 t; let Z115 := Z64 ∧ Z97; let Z116 := Z94 ∧ Z88; let Z117 := fun (t : Z92) => Z101 t < Z49; let Z118 := fun (t : Z92) => Z101 t + Z35; let Z119 := (Z4, Z100); let Z120 := Z60 ∧ Z107; let Z121 := fun (t : Z92) => Z38 + Z106 t; let Z122 := Z67 ∧ Z108; let Z123 := Z63 ∧ Z111; let Z124 := fun (t : Z92) => IntKind.wrap IntKind.i64 (Z118 t); let Z125 := fun (t : Z92) => Value.int IntKind.i64 (Z124 t); let Z126 := Z55 ∧ Z115; let Z127 := (pa, Z119); let Z128 := Z60 ∧ Z123; let Z129 : List PitT := withM ps Z127; let Z130 := Z68 ∧ Z122; let Z131 := (Z84, Z113); let Z132 := withGM Z8 Z127; let Z133 := Z56 ∧ Z126; let Z134 := Z94 ∧ Z116; let Z135 := groundM Z132; let Z136 := Value.bool Z135; let Z137 : List (Int × Span × Span × Span × Span) := Z127 :: Z36; let Z138 := Z76 ∧ Z130; let Z139 := fun (x t : Z92) => Z112 x < Z112 t; let Z140 : List (Int × Span × Span × Span × Span) := List.drop (nat_lit 0) Z137; let Z141 := Z61 ∧ Z133; let Z142 := fun (x : Z92) => wAtM ps Z127 (Z93 x); let Z143 : List (Int × Span × Span × Span × Span) := List.drop Z38 Z137; let Z144 : List (Int × Span × Span × Span × Span) := List.take (nat_lit 1) Z140; let Z145 := fun (t x : Z92) => Z125 t = Z110 x; let Z146 := fun (x : Z92) => Prod.snd (Z142 x); let Z147 := fun (x : Z92) => Prod.fst (Z142 x); let Z148 := fun (t x : Z92) => Z145 t x ∧ True; let Z149 := (Z84, Z131); let Z150 := fun (t : Z92) => !Z146 t; let Z151 := Z94 ∧ Z134; let Z152 := Z77 ∧ Z138; let Z153 := fun (x : Z92) => Value.bool (Z146 x); let Z154 := Z59 ∧ Z141; let Z155 := fun (t : Z92) => List.length (Z147 t); let Z156 := fun (t : Z92) => decide (Z117 t); let Z157 := fun (t : Z92) => Z150 t = true; let Z158 := fun (t : Z92) => Z150 t = false; let Z159 := fun (t : Z92) => List.length (Z147 t); let Z160 := fun (x : Z92) => Z153 x = Z2; let Z161 : List (Int × Span × Span × Span × Span) := List.take Z39 Z143; let Z162 := Z58 ∧ Z154; let Z163 := fun (t : Z92) => Z159 t + nat_lit 1; let Z164 := Z74 ∧ Z152; let Z165 := (Z26, Z149); let Z166 := fun (t : Z92) => Z163 t ≤ nat_lit 1099511627776; let Z167 := Z57 ∧ Z162; let Z168 := Z69 ∧ Z164; let Z169 := fun (t x : Z92) => Z109 ∧ Z148 t x; let Z170 := Z78 ∧ Z168; let Z171 := nat_lit 1 = nat_lit 1 ∧ Z170; let Z172 := fun (t x : Z92) => Z89 ∧ Z169 t x; let Z173 := fun (t : Z92) => List.getD ps (Z114 t) Z165; let Z174 := fun (t : Z92) => List.getD ps (Z121 t) Z165; let Z175 := fun (t : Z92) => Prod.snd (Z173 t); let Z176 := fun (t : Z92) => Prod.fst (Z173 t); let Z177 := fun (t : Z92) => Value.int IntKind.i64 (Z176 t); let Z178 := fun (t : Z92) => Z176 t > pa; let Z179 := fun (t : Z92) => AV.v (Z177 t); let Z180 := fun (t : Z92) => Prod.snd (Z174 t); let Z181 := fun (t : Z92) => Prod.fst (Z174 t); let Z182 := fun (t : Z92) => Value.int IntKind.i64 (Z181 t); let Z183 := fun (t : Z92) => Z176 t == pa; let Z184 := fun (t : Z92) => Prod.snd (Z175 t); let Z185 := fun (t : Z92) => Prod.fst (Z175 t); let Z186 := fun (t : Z92) => AV.v (Z182 t); let Z187 := fun (t x : Z92) => Z153 t = Z153 x; let Z188 := fun (t : Z92) => Prod.snd (Z185 t); let Z189 := fun (t : Z92) => Z183 t = true; let Z190 := fun (t : Z92) => Prod.fst (Z185 t); let Z191 := fun (t : Z92) => Z183 t = false; let Z192 := fun (t : Z92) => Prod.snd (Z180 t); let Z193 := fun (t : Z92) => Prod.fst (Z180 t); let Z194 := fun (t : Z92) => bothM (Z185 t) Z4; let Z195 := fun (t : Z92) => Value.int IntKind.i64 (Z190 t); let Z196 := fun (t : Z92) => Value.int IntKind.i64 (Z188 t); let Z197 := fun (t : Z92) => Prod.snd (Z184 t); let Z198 := fun (t : Z92) => Prod.fst (Z184 t); let Z199 := fun (t : Z92) => AV.v (Z195 t); let Z200 := fun (t : Z92) => AV.v (Z196 t); let Z201 := fun (t : Z92) => Prod.snd (Z193 t); let Z202 := fun (t : Z92) => Prod.fst (Z193 t); let Z203 := fun (t : Z92) => Prod.fst (Z194 t); let Z204 := fun (t : Z92) => Prod.snd (Z194 t); let Z205 := fun (t : Z92) => Prod.snd (Z198 t); let Z206 := fun (t : Z92) => Prod.fst (Z198 t); let Z207 := fun (t : Z92) => bothM (Z193 t) Z4; let Z208 := fun (t : Z92) => Value.int IntKind.i64 (Z201 t); let Z209 := fun (t : Z92) => Prod.fst (Z197 t); let Z210 := fun (t : Z92) => Prod.snd (Z197 t); let Z211 := fun (t : Z92) => Value.int IntKind.i64 (Z204 t); let Z212 := fun (t : Z92) => Value.int IntKind.i64 (Z203 t); let Z213 := fun (t : Z92) => Prod.snd (Z192 t); let Z214 := fun (t : Z92) => Prod.fst (Z192 t); let Z215 := fun (t : Z92) => bothM (Z198 t) Z3; let Z216 := fun (t : Z92) => AV.v (Z208 t); let Z217 := fun (t : Z92) => AV.v (Z212 t); let Z218 := fun (t : Z92) => AV.v (Z211 t); let Z219 := fun (t : Z92) => Value.int IntKind.i64 (Z205 t); let Z220 := fun (t : Z92) => Value.int IntKind.i64 (Z206 t); let Z221 := fun (t : Z92) => Prod.snd (Z207 t); let Z222 := fun (t : Z92) => Prod.fst (Z207 t); let Z223 := fun (t : Z92) => AV.v (Z219 t); let Z224 := fun (t : Z92) => AV.v (Z220 t); let Z225 := fun (t : Z92) => Prod.snd (Z210 t); let Z226 := fun (t : Z92) => Prod.snd (Z209 t); let Z227 := fun (t : Z92) => Prod.fst (Z210 t); let Z228 := fun (t : Z92) => Prod.fst (Z209 t); let Z229 := fun (t : Z92) => Prod.snd (Z214 t); let Z230 := fun (t : Z92) => Prod.fst (Z214 t); let Z231 := fun (t : Z92) => Prod.fst (Z215 t); let Z232 := fun (t : Z92) => Prod.snd (Z215 t); let Z233 := fun (t : Z92) => Prod.snd (Z213 t); let Z234 := fun (t : Z92) => Prod.fst (Z213 t); let Z235 := fun (t : Z92) => Value.int IntKind.i64 (Z221 t); let Z236 := fun (t : Z92) => bothM (Z210 t) Z6; let Z237 := fun (t : Z92) => bothM (Z209 t) Z5; let Z238 := fun (t : Z92) => bothM (Z214 t) Z3; let Z239 := fun (t : Z92) => Value.int IntKind.i64 (Z225 t); let Z240 := fun (t : Z92) => Value.int IntKind.i64 (Z228 t); let Z241 := fun (t : Z92) => AV.v (Z235 t); let Z242 := fun (t : Z92) => Value.int IntKind.i64 (Z227 t); let Z243 := fun (t : Z92) => Value.int IntKind.i64 (Z226 t); let Z244 := fun (t : Z92) => Value.int IntKind.i64 (Z229 t); let Z245 := fun (t : Z92) => Value.int IntKind.i64 (Z231 t); let Z246 := fun (t : Z92) => Value.int IntKind.i64 (Z232 t); let Z247 := fun (t : Z92) => AV.v (Z240 t); let Z248 := fun (t : Z92) => AV.v (Z242 t); let Z249 := fun (t : Z92) => AV.v (Z243 t); let Z250 := fun (t : Z92) => AV.v (Z239 t); let Z251 := fun (t : Z92) => Prod.snd (Z233 t); let Z252 := fun (t : Z92) => Prod.snd (Z234 t); let Z253 := fun (t : Z92) => Prod.fst (Z233 t); let Z254 := fun (t : Z92) => Prod.fst (Z234 t); let Z255 := fun (t : Z92) => AV.v (Z244 t); let Z256 := fun (t : Z92) => Prod.fst (Z237 t); let Z257 := fun (t : Z92) => Prod.fst (Z236 t); let Z258 := fun (t : Z92) => AV.v (Z245 t); let Z259 := fun (t : Z92) => AV.v (Z246 t); let Z260 := fun (t : Z92) => Prod.snd (Z237 t); let Z261 := fun (t : Z92) => Prod.snd (Z236 t); let Z262 := fun (t : Z92) => Prod.snd (Z238 t); let Z263 := fun (t : Z92) => Prod.fst (Z238 t); let Z264 := fun (t : Z92) => bothM (Z233 t) Z6; let Z265 := fun (t : Z92) => bothM (Z234 t) Z5; let Z266 := fun (t : Z92) => Value.int IntKind.i64 (Z251 t); let Z267 := fun (t : Z92) => Value.int IntKind.i64 (Z252 t); let Z268 := fun (t : Z92) => Value.int IntKind.i64 (Z261 t); let Z269 := fun (t : Z92) => Value.int IntKind.i64 (Z260 t); let Z270 := fun (t : Z92) => Value.int IntKind.i64 (Z256 t); let Z271 := fun (t : Z92) => Value.int IntKind.i64 (Z257 t); let Z272 := fun (t : Z92) => Z147 t ++ Z144; let Z273 := fun (t : Z92) => Value.int IntKind.i64 (Z262 t); let Z274 := fun (t : Z92) => AV.v (Z266 t); let Z275 := fun (t : Z92) => AV.v (Z267 t); let Z276 := fun (t : Z92) => AV.v (Z270 t); let Z277 := fun (t : Z92) => AV.v (Z269 t); let Z278 := fun (t : Z92) => AV.v (Z271 t); let Z279 := fun (t : Z92) => AV.v (Z268 t); let Z280 := fun (t : Z92) => Prod.fst (Z265 t); let Z281 := fun (t : Z92) => Prod.snd (Z264 t); let Z282 := fun (t : Z92) => Prod.fst (Z264 t); let Z283 := fun (t : Z92) => Prod.snd (Z265 t); let Z284 := fun (t : Z92) => AV.v (Z273 t); let Z285 := fun (t : Z92) => List.length (Z272 t); let Z286 := fun (t : Z92) => Value.int IntKind.i64 (Z281 t); let Z287 := fun (t : Z92) => Value.int IntKind.i64 (Z283 t); let Z288 := fun (t : Z92) => List.length (Z272 t); let Z289 := fun (t : Z92) => AV.v (Z287 t); let Z290 := fun (t : Z92) => AV.v (Z286 t); let Z291 := fun (t : Z92) => Z147 t ++ Z161; let Z292 := fun (t : Z92) => Z288 t + nat_lit 1; let Z293 := fun (t : Z92) => Z292 t ≤ nat_lit 1099511627776; let Z294 := fun (x t : Z92) => Z160 x ∧ Z172 t x; let Z295 := fun (x t : Z92) => Z47 ∧ Z294 x t; let Z296 := fun (x t : Z92) => Z95 ∧ Z295 x t; let Z297 := fun (x t : Z92) => Z47 ∧ Z296 x t; let Z298 := fun (x t : Z92) => Z47 ∧ Z297 x t; let Z299 := fun (x t : Z92) => Z47 ∧ Z298 x t; let Z300 := fun (t x : Z92) => Z187 t x ∧ Z172 t x; let Z301 := fun (t : Z92) => decide (Z178 t); let Z302 := fun (t x : Z92) => Z47 ∧ Z300 t x; let Z303 := fun (t : Z92) => Z179 t = Z186 t; let Z304 := fun (t x : Z92) => Z95 ∧ Z302 t x; let Z305 := fun (t x : Z92) => Z47 ∧ Z304 t x; let Z306 := fun (t : Z92) => (Z202 t, Z188 t); let Z307 := fun (t : Z92) => Z196 t = Z196 t; let Z308 := fun (t : Z92) => Z195 t = Z195 t; let Z309 := fun (t : Z92) => Z199 t = Z199 t; let Z310 := fun (t : Z92) => Z307 t ∧ True; let Z311 := fun (t x : Z92) => Z47 ∧ Z305 t x; let Z312 := fun (t : Z92) => Z200 t = Z216 t; let Z313 := fun (t : Z92) => (Z222 t, Z204 t); let Z314 := fun (t x : Z92) => Z47 ∧ Z311 t x; let Z315 := fun (t : Z92) => Z217 t = Z217 t; let Z316 := fun (t : Z92) => (Z230 t, Z205 t); let Z317 := fun (t : Z92) => Z219 t = Z219 t; let Z318 := fun (t : Z92) => Z220 t = Z220 t; let Z319 := fun (t : Z92) => Z317 t ∧ True; let Z320 := fun (t : Z92) => Z224 t = Z224 t; let Z321 := fun (t : Z92) => Z218 t = Z241 t; let Z322 := fun (t : Z92) => Z223 t = Z255 t; let Z323 := fun (t : Z92) => (Z253 t, Z225 t); let Z324 := fun (t : Z92) => (Z254 t, Z226 t); let Z325 := fun (t : Z92) => Z242 t = Z242 t; let Z326 := fun (t : Z92) => Z240 t = Z240 t; let Z327 := fun (t : Z92) => Z243 t = Z243 t; let Z328 := fun (t : Z92) => Z239 t = Z239 t; let Z329 := fun (t : Z92) => (Z263 t, Z232 t); let Z330 := fun (t : Z92) => Z248 t = Z248 t; let Z331 := fun (t : Z92) => Z247 t = Z247 t; let Z332 := fun (t : Z92) => Z328 t ∧ True; let Z333 := fun (t : Z92) => Z327 t ∧ True; let Z334 := fun (t : Z92) => Z258 t = Z258 t; let Z335 := fun (t : Z92) => Z250 t = Z274 t; let Z336 := fun (t : Z92) => Z249 t = Z275 t; let Z337 := fun (t : Z92) => Z335 t ∧ True; let Z338 := fun (t : Z92) => Z259 t = Z284 t; let Z339 := fun (t : Z92) => (Z280 t, Z260 t); let Z340 := fun (t : Z92) => (Z282 t, Z261 t); let Z341 := fun (t : Z92) => Z278 t = Z278 t; let Z342 := fun (t : Z92) => Z276 t = Z276 t; let Z343 := fun (t : Z92) => Z279 t = Z290 t; let Z344 := fun (t : Z92) => Z277 t = Z289 t; let Z345 := fun (t : Z92) => Z343 t ∧ True; let Z346 := fun (t : Z92) => Z308 t ∧ Z310 t; let Z347 := fun (t : Z92) => Z346 t ∧ Z104; let Z348 := fun (t : Z92) => Z318 t ∧ Z319 t; let Z349 := fun (t : Z92) => Z326 t ∧ Z333 t; let Z350 := fun (t : Z92) => Z325 t ∧ Z332 t; let Z351 := fun (t : Z92) => (Z324 t, Z323 t); let Z352 := fun (t : Z92) => Z348 t ∧ Z105; let Z353 := fun (t : Z92) => Z330 t ∧ Z337 t; let Z354 := fun (t : Z92) => (Z339 t, Z340 t); let Z355 := fun (t : Z92) => Z350 t ∧ Z103; let Z356 := fun (t : Z92) => Z349 t ∧ Z102; let Z357 := fun (t : Z92) => Z341 t ∧ Z345 t; let Z358 := fun (t : Z92) => (Z316 t, Z351 t); let Z359 := fun (t : Z92) => Z336 t ∧ Z353 t; let Z360 := fun (t : Z92) => (Z329 t, Z354 t); let Z361 := fun (t : Z92) => Z344 t ∧ Z357 t; let Z362 := fun (t : Z92) => (Z306 t, Z358 t); let Z363 := fun (t : Z92) => Z331 t ∧ Z359 t; let Z364 := fun (t : Z92) => (Z313 t, Z360 t); let Z365 := fun (t : Z92) => Z342 t ∧ Z361 t; let Z366 := fun (t : Z92) => (Z176 t, Z362 t); let Z367 := fun (t : Z92) => Z366 t :: Z36; let Z368 := fun (t : Z92) => List.drop Z38 (Z367 t); let Z369 := fun (t : Z92) => List.take Z39 (Z368 t); let Z373 := fun (t : Z92) => List.take Z39 (List.drop Z38 ((Z176 t, Z364 t) :: Z36)); let Z403 := fun (t : Z92) => ∃ (x : Z92), (Z299 x t ∧ True ∧ Z43 ∧ Z128 ∧ Z167 ∧ Z151 ∧ Z120 ∧ (Z50 ∧ Z147 t ++ Z373 t = Z147 x) ∧ True) ∧ Z139 x t; let Z405 := fun (t : Z92) => ∃ (x : Z92), (Z314 t x ∧ True ∧ Z43 ∧ Z128 ∧ Z167 ∧ Z151 ∧ Z120 ∧ (Z50 ∧ Z147 t ++ Z369 t = Z147 x) ∧ True) ∧ Z139 x t; let Z415 := fun (t : Z92) => nat_lit 1 = nat_lit 1 ∧ Z303 t ∧ Z309 t ∧ Z312 t ∧ Z320 t ∧ Z322 t ∧ Z363 t; let Z417 := fun (t : Z92) => nat_lit 1 = nat_lit 1 ∧ Z303 t ∧ Z315 t ∧ Z321 t ∧ Z334 t ∧ Z338 t ∧ Z365 t; (∃ (x : Z92), (True ∧ True ∧ True ∧ Z0 ∧ Z52) ∧ (True ∧ Z46 ∧ (True ∧ True ∧ True ∧ True ∧ Z52) ∧ Z46 ∧ (True ∧ True ∧ True ∧ Z7) ∧ Z147 x = Z36 ∧ True) ∧ (Z47 ∧ Z47 ∧ Z47 ∧ (Fn.func (nat_lit 69) = Z48 ∧ Z0) ∧ Z47 ∧ Z153 x = Value.bool false ∧ Z89 ∧ Z109 ∧ Z51 = Z110 x ∧ True) ∧ True ∧ Z43 ∧ Z128 ∧ Z167 ∧ Z151 ∧ (Z60 ∧ Z63 ∧ Z65 ∧ Z88) ∧ Z0) ∧ ∀ (t : Z92), (Z156 t = true → (Z26 ≤ Z101 t ∧ Z117 t) ∧ Z114 t < List.length ps ∧ (Z157 t → (Z301 t = true → Z171 ∧ Z9 ∧ Z166 t ∧ (Z189 t → True ∧ Z347 t ∧ True ∧ True ∧ Z352 t ∧ True ∧ True ∧ Z356 t ∧ True ∧ True ∧ Z355 t ∧ True ∧ Z417 t ∧ Z9 ∧ Z293 t ∧ True ∧ ∃ (x : Z92), (Z299 x t ∧ True ∧ Z43 ∧ Z128 ∧ Z167 ∧ Z151 ∧ Z120 ∧ (Z50 ∧ Z291 t ++ Z373 t = Z147 x) ∧ True) ∧ Z139 x t) ∧ (Z191 t → Z415 t ∧ Z9 ∧ Z293 t ∧ True ∧ ∃ (x : Z92), (Z299 x t ∧ True ∧ Z43 ∧ Z128 ∧ Z167 ∧ Z151 ∧ Z120 ∧ (Z50 ∧ Z291 t ++ Z369 t = Z147 x) ∧ True) ∧ Z139 x t)) ∧ (Z301 t = false → (Z189 t → True ∧ Z347 t ∧ True ∧ True ∧ Z352 t ∧ True ∧ True ∧ Z356 t ∧ True ∧ True ∧ Z355 t ∧ True ∧ Z417 t ∧ Z9 ∧ Z166 t ∧ True ∧ Z403 t) ∧ (Z191 t → Z415 t ∧ Z9 ∧ Z166 t ∧ True ∧ Z405 t))) ∧ (Z158 t → (Z189 t → True ∧ Z347 t ∧ True ∧ True ∧ Z352 t ∧ True ∧ True ∧ Z356 t ∧ True ∧ True ∧ Z355 t ∧ True ∧ Z417 t ∧ Z9 ∧ Z166 t ∧ True ∧ Z403 t) ∧ (Z191 t → Z415 t ∧ Z9 ∧ Z166 t ∧ True ∧ Z405 t))) ∧ (Z156 t = false → (Z157 t → Z171 ∧ Z9 ∧ Z166 t ∧ Z285 t < nat_lit 1000000 ∧ ((Z60 ∧ Z63 ∧ Z65 ∧ (Z40 = Z40 ∧ nat_lit 0 = nat_lit 0 ∧ nat_lit 0 = nat_lit 0 ∧ Z288 t = Z285 t) ∧ True) ∧ True) ∧ (Z291 t = Z272 t ∧ True) ∧ True ∧ ((Z120 ∧ Value.bool (groundM (GroundT.mk long rise change (Z291 t))) = Z136 ∧ True) ∧ True) ∧ True ∧ Z43 ∧ (Z50 ∧ Z291 t = Z129) ∧ True) ∧ (Z158 t → Z155 t < nat_lit 1000000 ∧ ((Z60 ∧ Z63 ∧ Z65 ∧ (nat_lit 5 = nat_lit 5 ∧ nat_lit 0 = nat_lit 0 ∧ nat_lit 0 = nat_lit 0 ∧ Z159 t = Z155 t) ∧ True) ∧ True) ∧ (Z147 t = Z147 t ∧ True) ∧ True ∧ ((Z120 ∧ Value.bool (groundM (GroundT.mk long rise change (Z147 t))) = Z136 ∧ True) ∧ True) ∧ True ∧ Z43 ∧ (Z44 = Z44 ∧ Z147 t = Z129) ∧ True)))
    (by kernel_rfl) ?_
  simp only [eq_self, true_and, and_true, Int.toNat_natCast, Nat.zero_add, Nat.sub_zero, Value.int.injEq, Value.bool.injEq, decide_eq_true_eq, decide_eq_false_iff_not]
  obtain ⟨p, hpe⟩ : ∃ p : PitT, p = (pa, (ph, ph2), (ps1, ps2), (pi1, pi2), pc1, pc2) := ⟨_, rfl⟩
  have hpa : pa = p.1 := by rw [hpe]
  have hxl : ps.length < 1000 := hx
  have hs : ∀ x : PitT, List.take 1 (List.drop 0 [x]) = [x] := fun _ => rfl
  have e1 : (ph, ph2) = p.2.1 := by rw [hpe]
  have e2 : (ps1, ps2) = p.2.2.1 := by rw [hpe]
  have e3 : (pi1, pi2) = p.2.2.2.1 := by rw [hpe]
  have e4 : (pc1, pc2) = p.2.2.2.2 := by rw [hpe]
  simp only [hs]
  rw [← hpe]
  simp only [e1, e2, e3, e4, hpa]
  clear e1 e2 e3 e4 hpa hpe hx
  refine ⟨⟨⟨0, Nat.zero_le _⟩, rfl, rfl, rfl⟩, fun t => ⟨fun ht => ?_, fun ht => ?_⟩⟩
  · obtain ⟨i, hi⟩ := t
    have hlt : i < ps.length := by have h0 : (i : Int) < (ps.length : Int) := ht; omega
    have hwl := w_len ps p i
    have hsu := sucI i (by omega)
    have hb : (wAtM ps p i).1.length + 1 ≤ 1099511627776 := by omega
    have hb2 : ((wAtM ps p i).1 ++ [p]).length + 1 ≤ 1099511627776 := by simp; omega
    have cy := @w_ny ps p i
    have cm := @w_m ps p i
    have cn := @w_n ps p i
    refine ⟨⟨Int.natCast_nonneg _, ht⟩, hlt, fun hput => ⟨fun hgt => ⟨Nat.le_refl _, hb, fun he => ?_, fun hne => ⟨Nat.le_refl _, hb2, ⟨i + 1, hlt⟩, ?_, dec1 hlt⟩⟩, fun hgt => ⟨fun he => ⟨Nat.le_refl _, hb, ⟨i + 1, hlt⟩, ?_, dec1 hlt⟩, fun hne => ⟨Nat.le_refl _, hb, ⟨i + 1, hlt⟩, ?_, dec1 hlt⟩⟩⟩, fun hput => ⟨fun he => ⟨Nat.le_refl _, hb, ⟨i + 1, hlt⟩, ?_, dec1 hlt⟩, fun hne => ⟨Nat.le_refl _, hb, ⟨i + 1, hlt⟩, ?_, dec1 hlt⟩⟩⟩
    · have he' : (ps.getD i pit0).1 = p.1 := by simpa using he
      have hgt' : (ps.getD i pit0).1 > p.1 := hgt
      omega
    · have hne' : ¬ (ps.getD i pit0).1 = p.1 := by simpa using hne
      have hp' : (wAtM ps p i).2 = false := by simpa using hput
      rw [cy hp' hgt hne']
      exact ⟨⟨rfl, hsu⟩, rfl⟩
    · have he' : (ps.getD i pit0).1 = p.1 := by simpa using he
      have hc : (!(wAtM ps p i).2 && decide ((ps.getD i pit0).1 > p.1)) = false := by rw [decide_eq_false (by omega), Bool.and_false]
      rw [cm hc he']
      exact ⟨⟨rfl, hsu⟩, rfl⟩
    · have hne' : ¬ (ps.getD i pit0).1 = p.1 := by simpa using hne
      have hc : (!(wAtM ps p i).2 && decide ((ps.getD i pit0).1 > p.1)) = false := by rw [decide_eq_false hgt, Bool.and_false]
      rw [cn hc hne']
      exact ⟨⟨rfl, hsu⟩, rfl⟩
    · have he' : (ps.getD i pit0).1 = p.1 := by simpa using he
      have hc : (!(wAtM ps p i).2 && decide ((ps.getD i pit0).1 > p.1)) = false := by rw [hput, Bool.false_and]
      rw [cm hc he']
      exact ⟨⟨rfl, hsu⟩, rfl⟩
    · have hne' : ¬ (ps.getD i pit0).1 = p.1 := by simpa using hne
      have hc : (!(wAtM ps p i).2 && decide ((ps.getD i pit0).1 > p.1)) = false := by rw [hput, Bool.false_and]
      rw [cn hc hne']
      exact ⟨⟨rfl, hsu⟩, rfl⟩
  · obtain ⟨i, hi⟩ := t
    have hie : i = ps.length := by have h0 : ¬ (i : Int) < (ps.length : Int) := ht; omega
    subst hie
    have hwl := w_len ps p ps.length
    have b1 : (wAtM ps p ps.length).1.length + 1 ≤ 1099511627776 := by omega
    have b2 : (wAtM ps p ps.length).1.length < 1000000 := by omega
    have b3 : ((wAtM ps p ps.length).1 ++ [p]).length < 1000000 := by simp; omega
    refine ⟨fun hput => ?_, fun hput => ?_⟩
    · have hp' : (wAtM ps p ps.length).2 = false := by simpa using hput
      have e : withM ps p = (wAtM ps p ps.length).1 ++ [p] := by unfold withM; rw [hp']; rfl
      exact ⟨Nat.le_refl _, b1, b3, by unfold withGM; rw [e], e.symm⟩
    · have hp' : (wAtM ps p ps.length).2 = true := by simpa using hput
      have e : withM ps p = (wAtM ps p ps.length).1 := by unfold withM; rw [hp']; rfl
      exact ⟨b2, by unfold withGM; rw [e], e.symm⟩

theorem with_sound : Sound Try.prog 55 withS.con := FSpec.sound _ (enter_of Try.func55 (by kernel_rfl) (by kernel_rfl)) with_ok

/-! ### a pit that tells nothing, or of one number of a kind -/
def anyPM (at_ : Int) : PitT := (at_, (0, 1000), (0, 20), (0, 20), 0, 20)
def lanyS : FSpec UU where
  X := Int
  pick := fun args _ => match args with
    | [a] => avInt a
    | _ => none
  args := fun (x : Int) => [.i x]
  H := fun _ => []
  R := fun (x : Int) => .val ⟨.agg [.i x, .i 0, .i 1000, .i 0, .i 20, .i 0, .i 20, .i 0, .i 20], [], [], []⟩
def Tpit1 : Tab UU := [(28, lpitS.con)]
theorem Tpit1_ok : Tpit1.Sound Try.prog := .cons lpit_sound .nil
set_option maxRecDepth 100000 in
theorem lany_ok : ∀ x, lanyS.pre x → FunOk Try.prog 26 (lanyS.args x) (lanyS.H x) (lanyS.R x) := by
  intro (x : Int) _
  refine fun_of (T := Tpit1) (L := fun _ => none) (hs := fun _ => []) hmix Tpit1_ok Try.func26 (by kernel_rfl) (by kernel_rfl) ?_
  refine Eq.mp (α :=
      let Z0 := Value.int IntKind.i64 x; let Z4 := Value.int IntKind.i64 (0 : Int); let Z5 := Value.int IntKind.i64 (20 : Int); let Z6 := Value.int IntKind.i64 (1000 : Int); let Z8 := Z4 = Z4; let Z9 := Z5 = Z5; True ∧ (Z0 = Z0 ∧ Z8 ∧ Z6 = Z6 ∧ Z8 ∧ Z9 ∧ Z8 ∧ Z9 ∧ Z8 ∧ Z9 ∧ True) ∧ True ∧ True ∧ ((Z0 = Z0 ∧ Z8 ∧ Z6 = Z6 ∧ Z8 ∧ Z9 ∧ Z8 ∧ Z9 ∧ Z8 ∧ Z9 ∧ True) ∧ True) ∧ True ∧ True)
    (by kernel_rfl) ?_
  simp only [eq_self, true_and, and_true, Int.toNat_natCast, Nat.zero_add, Nat.sub_zero, Value.int.injEq, Value.bool.injEq, decide_eq_true_eq, decide_eq_false_iff_not]

theorem lany_sound : Sound Try.prog 26 lanyS.con := FSpec.sound _ (enter_of Try.func26 (by kernel_rfl) (by kernel_rfl)) lany_ok
def toldPM : Nat → Int → Int → PitT
  | 0, a, n => (a, (n, n), (0, 20), (0, 20), 0, 20)
  | 1, a, n => (a, (0, 1000), (n, n), (0, 20), 0, 20)
  | 2, a, n => (a, (0, 1000), (0, 20), (n, n), 0, 20)
  | _, a, n => (a, (0, 1000), (0, 20), (0, 20), n, n)
def toldS : FSpec UU where
  X := Nat × Int × Int
  pick := fun args H => match args with
    | [n, a, k] => match avInt n, avCell H a, avCell H k with
      | some n, some a, some k => match avInt a, avInt k with
        | some a, some k => some (k.toNat, a, n)
        | _, _ => none
      | _, _, _ => none
    | _ => none
  args := fun x => [.i x.2.2, .ptr 0 0 0 0, .ptr 1 0 0 0]
  H := fun x => [.one (.rc [.i x.2.1] 3), .one (.rc [.i (x.1 : Nat)] 3)]
  R := fun x => .val ⟨vPit (toldPM x.1 x.2.1 x.2.2), [], [], []⟩
  pre := fun x => x.1 < 4
def Ttold : Tab UU := [(26, lanyS.con), (23, lspanS.con)]
theorem Ttold_ok : Ttold.Sound Try.prog := .cons lany_sound (.cons lspan_sound .nil)
set_option maxRecDepth 100000 in
theorem told0_ok (a n : Int) : FunOk Try.prog 25 [.i n, .ptr 0 0 0 0, .ptr 1 0 0 0] [.one (.rc (U := UU) [.i a] 3), .one (.rc [.i 0] 3)] (.val ⟨.agg [.i a, .i n, .i n, .i 0, .i 20, .i 0, .i 20, .i 0, .i 20], [], [], []⟩) := by
  refine fun_of (T := Ttold) (L := fun _ => none) (hs := fun _ => []) hmix Ttold_ok Try.func25 (by kernel_rfl) (by kernel_rfl) ?_
  refine Eq.mp (α :=
      let Z0 := Value.int IntKind.i64 n; let Z1 := Value.int IntKind.i64 a; let Z2 := (0 : Int); let Z4 := (3 : Nat); let Z5 := Value.int IntKind.i64 Z2; let Z6 := Value.int IntKind.i64 (20 : Int); let Z7 := Z0 = Z0; let Z8 := Z1 = Z1; let Z10 := Z5 = Z5; let Z11 := Z6 = Z6; True ∧ (Z8 ∧ True) ∧ True ∧ (nat_lit 4 = nat_lit 4 ∧ AV.ptr Z4 (nat_lit 0) (nat_lit 0) (nat_lit 1) = AV.ptr (nat_lit 3) (nat_lit 0) (nat_lit 0) (nat_lit 1) ∧ AV.ptr Z4 (nat_lit 0) (nat_lit 0) (nat_lit 3) = AV.ptr (nat_lit 3) (nat_lit 0) (nat_lit 0) (nat_lit 3) ∧ AV.ptr Z4 (nat_lit 0) (nat_lit 0) (nat_lit 5) = AV.ptr (nat_lit 3) (nat_lit 0) (nat_lit 0) (nat_lit 5) ∧ AV.ptr Z4 (nat_lit 0) (nat_lit 0) (nat_lit 7) = AV.ptr (nat_lit 3) (nat_lit 0) (nat_lit 0) (nat_lit 7) ∧ True) ∧ (Z2 ≤ Z2 ∧ Z2 < (↑(nat_lit 4) : Int)) ∧ nat_lit 0 < nat_lit 4 ∧ True ∧ (Z7 ∧ Z7 ∧ True) ∧ True ∧ True ∧ ((Z8 ∧ Z7 ∧ Z7 ∧ Z10 ∧ Z11 ∧ Z10 ∧ Z11 ∧ Z10 ∧ Z11 ∧ True) ∧ True) ∧ True ∧ (Z8 ∧ True) ∧ (Z10 ∧ True) ∧ True)
    (by kernel_rfl) ?_
  simp only [eq_self, true_and, and_true, Int.toNat_natCast, Nat.zero_add, Nat.sub_zero, Value.int.injEq, Value.bool.injEq, decide_eq_true_eq, decide_eq_false_iff_not]
  decide

set_option maxRecDepth 100000 in
theorem told1_ok (a n : Int) : FunOk Try.prog 25 [.i n, .ptr 0 0 0 0, .ptr 1 0 0 0] [.one (.rc (U := UU) [.i a] 3), .one (.rc [.i 1] 3)] (.val ⟨.agg [.i a, .i 0, .i 1000, .i n, .i n, .i 0, .i 20, .i 0, .i 20], [], [], []⟩) := by
  refine fun_of (T := Ttold) (L := fun _ => none) (hs := fun _ => []) hmix Ttold_ok Try.func25 (by kernel_rfl) (by kernel_rfl) ?_
  refine Eq.mp (α :=
      let Z0 := Value.int IntKind.i64 a; let Z1 := Value.int IntKind.i64 n; let Z2 := (0 : Int); let Z3 := (1 : Int); let Z5 := (3 : Nat); let Z7 := Value.int IntKind.i64 Z3; let Z8 := Value.int IntKind.i64 Z2; let Z9 := Value.int IntKind.i64 (20 : Int); let Z10 := Value.int IntKind.i64 (1000 : Int); let Z11 := Z0 = Z0; let Z12 := Z1 = Z1; let Z14 := Z8 = Z8; True ∧ (Z11 ∧ True) ∧ True ∧ (nat_lit 4 = nat_lit 4 ∧ AV.ptr Z5 (nat_lit 0) (nat_lit 0) (nat_lit 1) = AV.ptr (nat_lit 3) (nat_lit 0) (nat_lit 0) (nat_lit 1) ∧ AV.ptr Z5 (nat_lit 0) (nat_lit 0) (nat_lit 3) = AV.ptr (nat_lit 3) (nat_lit 0) (nat_lit 0) (nat_lit 3) ∧ AV.ptr Z5 (nat_lit 0) (nat_lit 0) (nat_lit 5) = AV.ptr (nat_lit 3) (nat_lit 0) (nat_lit 0) (nat_lit 5) ∧ AV.ptr Z5 (nat_lit 0) (nat_lit 0) (nat_lit 7) = AV.ptr (nat_lit 3) (nat_lit 0) (nat_lit 0) (nat_lit 7) ∧ True) ∧ (Z2 ≤ Z3 ∧ Z3 < (↑(nat_lit 4) : Int)) ∧ nat_lit 1 < nat_lit 4 ∧ True ∧ (Z12 ∧ Z12 ∧ True) ∧ True ∧ True ∧ ((Z11 ∧ Z14 ∧ Z10 = Z10 ∧ Z12 ∧ Z12 ∧ Z14 ∧ Z9 = Z9 ∧ Z14 ∧ Z9 = Z9 ∧ True) ∧ True) ∧ True ∧ (Z11 ∧ True) ∧ (Z7 = Z7 ∧ True) ∧ True)
    (by kernel_rfl) ?_
  simp only [eq_self, true_and, and_true, Int.toNat_natCast, Nat.zero_add, Nat.sub_zero, Value.int.injEq, Value.bool.injEq, decide_eq_true_eq, decide_eq_false_iff_not]
  decide

set_option maxRecDepth 100000 in
theorem told2_ok (a n : Int) : FunOk Try.prog 25 [.i n, .ptr 0 0 0 0, .ptr 1 0 0 0] [.one (.rc (U := UU) [.i a] 3), .one (.rc [.i 2] 3)] (.val ⟨.agg [.i a, .i 0, .i 1000, .i 0, .i 20, .i n, .i n, .i 0, .i 20], [], [], []⟩) := by
  refine fun_of (T := Ttold) (L := fun _ => none) (hs := fun _ => []) hmix Ttold_ok Try.func25 (by kernel_rfl) (by kernel_rfl) ?_
  refine Eq.mp (α :=
      let Z0 := Value.int IntKind.i64 a; let Z1 := Value.int IntKind.i64 n; let Z2 := (0 : Int); let Z3 := (2 : Int); let Z5 := (3 : Nat); let Z7 := Value.int IntKind.i64 Z3; let Z8 := Value.int IntKind.i64 Z2; let Z9 := Value.int IntKind.i64 (20 : Int); let Z10 := Value.int IntKind.i64 (1000 : Int); let Z11 := Z0 = Z0; let Z12 := Z1 = Z1; let Z14 := Z8 = Z8; True ∧ (Z11 ∧ True) ∧ True ∧ (nat_lit 4 = nat_lit 4 ∧ AV.ptr Z5 (nat_lit 0) (nat_lit 0) (nat_lit 1) = AV.ptr (nat_lit 3) (nat_lit 0) (nat_lit 0) (nat_lit 1) ∧ AV.ptr Z5 (nat_lit 0) (nat_lit 0) (nat_lit 3) = AV.ptr (nat_lit 3) (nat_lit 0) (nat_lit 0) (nat_lit 3) ∧ AV.ptr Z5 (nat_lit 0) (nat_lit 0) (nat_lit 5) = AV.ptr (nat_lit 3) (nat_lit 0) (nat_lit 0) (nat_lit 5) ∧ AV.ptr Z5 (nat_lit 0) (nat_lit 0) (nat_lit 7) = AV.ptr (nat_lit 3) (nat_lit 0) (nat_lit 0) (nat_lit 7) ∧ True) ∧ (Z2 ≤ Z3 ∧ Z3 < (↑(nat_lit 4) : Int)) ∧ nat_lit 2 < nat_lit 4 ∧ True ∧ (Z12 ∧ Z12 ∧ True) ∧ True ∧ True ∧ ((Z11 ∧ Z14 ∧ Z10 = Z10 ∧ Z14 ∧ Z9 = Z9 ∧ Z12 ∧ Z12 ∧ Z14 ∧ Z9 = Z9 ∧ True) ∧ True) ∧ True ∧ (Z11 ∧ True) ∧ (Z7 = Z7 ∧ True) ∧ True)
    (by kernel_rfl) ?_
  simp only [eq_self, true_and, and_true, Int.toNat_natCast, Nat.zero_add, Nat.sub_zero, Value.int.injEq, Value.bool.injEq, decide_eq_true_eq, decide_eq_false_iff_not]
  decide

set_option maxRecDepth 100000 in
theorem told3_ok (a n : Int) : FunOk Try.prog 25 [.i n, .ptr 0 0 0 0, .ptr 1 0 0 0] [.one (.rc (U := UU) [.i a] 3), .one (.rc [.i 3] 3)] (.val ⟨.agg [.i a, .i 0, .i 1000, .i 0, .i 20, .i 0, .i 20, .i n, .i n], [], [], []⟩) := by
  refine fun_of (T := Ttold) (L := fun _ => none) (hs := fun _ => []) hmix Ttold_ok Try.func25 (by kernel_rfl) (by kernel_rfl) ?_
  refine Eq.mp (α :=
      let Z0 := Value.int IntKind.i64 a; let Z1 := Value.int IntKind.i64 n; let Z2 := (0 : Int); let Z3 := (3 : Int); let Z5 := (3 : Nat); let Z7 := Value.int IntKind.i64 Z3; let Z8 := Value.int IntKind.i64 Z2; let Z9 := Value.int IntKind.i64 (20 : Int); let Z10 := Value.int IntKind.i64 (1000 : Int); let Z11 := Z1 = Z1; let Z12 := Z0 = Z0; let Z15 := Z8 = Z8; True ∧ (Z12 ∧ True) ∧ True ∧ (nat_lit 4 = nat_lit 4 ∧ AV.ptr Z5 (nat_lit 0) (nat_lit 0) (nat_lit 1) = AV.ptr (nat_lit 3) (nat_lit 0) (nat_lit 0) (nat_lit 1) ∧ AV.ptr Z5 (nat_lit 0) (nat_lit 0) (nat_lit 3) = AV.ptr (nat_lit 3) (nat_lit 0) (nat_lit 0) (nat_lit 3) ∧ AV.ptr Z5 (nat_lit 0) (nat_lit 0) (nat_lit 5) = AV.ptr (nat_lit 3) (nat_lit 0) (nat_lit 0) (nat_lit 5) ∧ AV.ptr Z5 (nat_lit 0) (nat_lit 0) (nat_lit 7) = AV.ptr (nat_lit 3) (nat_lit 0) (nat_lit 0) (nat_lit 7) ∧ True) ∧ (Z2 ≤ Z3 ∧ Z3 < (↑(nat_lit 4) : Int)) ∧ nat_lit 3 < nat_lit 4 ∧ True ∧ (Z11 ∧ Z11 ∧ True) ∧ True ∧ True ∧ ((Z12 ∧ Z15 ∧ Z10 = Z10 ∧ Z15 ∧ Z9 = Z9 ∧ Z15 ∧ Z9 = Z9 ∧ Z11 ∧ Z11 ∧ True) ∧ True) ∧ True ∧ (Z12 ∧ True) ∧ (Z7 = Z7 ∧ True) ∧ True)
    (by kernel_rfl) ?_
  simp only [eq_self, true_and, and_true, Int.toNat_natCast, Nat.zero_add, Nat.sub_zero, Value.int.injEq, Value.bool.injEq, decide_eq_true_eq, decide_eq_false_iff_not]
  decide

theorem toldP_ok : ∀ x, toldS.pre x → FunOk Try.prog 25 (toldS.args x) (toldS.H x) (toldS.R x) := by
  rintro ⟨k, a, n⟩ hk
  have hk' : k < 4 := hk
  match k, hk' with
  | 0, _ => exact told0_ok a n
  | 1, _ => exact told1_ok a n
  | 2, _ => exact told2_ok a n
  | 3, _ => exact told3_ok a n
  | k + 4, h => exact absurd h (by omega)
theorem toldP_sound : Sound Try.prog 25 toldS.con := FSpec.sound _ (enter_of Try.func25 (by kernel_rfl) (by kernel_rfl)) toldP_ok
/-! ### is there a truth with a pit more? -/
def canM (g : GroundT) (p : PitT) : Bool := groundM (withGM g p) && ((hardOM (withGM g p) 0).2 == 0)
def canS : FSpec UU where
  X := GroundT × PitT
  pick := fun args H => match args with
    | [a, b] => match avGround H a, avPit b with
      | some a, some b => some (a, b)
      | _, _ => none
    | _ => none
  args := fun x => [vGround x.1 0, vPit x.2]
  H := fun x => [.one (.ro .pit x.1.pits)]
  R := fun x => .val ⟨.b (canM x.1 x.2), [], [], []⟩
  pre := fun x => x.1.pits.length < 1000
def Tcan : Tab UU := [(55, withS.con), (9, hardOS.con)]
theorem Tcan_ok : Tcan.Sound Try.prog := .cons with_sound (.cons hardO_sound .nil)
theorem with_len (l : List PitT) (p : PitT) : (withM l p).length ≤ 2 * l.length + 1 := by
  have := w_len l p l.length
  unfold withM
  split
  · omega
  · simp; omega
set_option maxHeartbeats 0 in
set_option maxRecDepth 100000 in
theorem lcan_ok : ∀ x, canS.pre x → FunOk Try.prog 27 (canS.args x) (canS.H x) (canS.R x) := by
  rintro ⟨⟨long, rise, change, ps⟩, p⟩ hx
  obtain ⟨pa, ⟨ph, ph2⟩, ⟨ps1, ps2⟩, ⟨pi1, pi2⟩, pc1, pc2⟩ := p
  refine fun_of (T := Tcan) (L := fun _ => none) (hs := fun _ => []) hmix Tcan_ok Try.func27 (by kernel_rfl) (by kernel_rfl) ?_
  refine Eq.mp (α :=
      let Z4 := GroundT.mk long rise change ps; let Z5 := List.length ps; let Z6 := Value.int IntKind.i64 long; let Z7 := Value.int IntKind.i64 rise; let Z8 := Value.int IntKind.i64 change; let Z9 := (0 : Int); let Z10 := ps = ps; let Z12 := Value.int IntKind.i64 Z9; let Z20 := (pa, (ph, ph2), (ps1, ps2), (pi1, pi2), pc1, pc2); let Z21 : List PitT := withM ps Z20; let Z24 := List.length Z21; Z5 < nat_lit 1000 ∧ ((Z6 = Z6 ∧ Z7 = Z7 ∧ Z8 = Z8 ∧ (nat_lit 0 = nat_lit 0 ∧ nat_lit 0 = nat_lit 0 ∧ Z5 = Z5) ∧ True) ∧ (Value.int IntKind.i64 pa = Value.int IntKind.i64 pa ∧ Value.int IntKind.i64 ph = Value.int IntKind.i64 ph ∧ Value.int IntKind.i64 ph2 = Value.int IntKind.i64 ph2 ∧ Value.int IntKind.i64 ps1 = Value.int IntKind.i64 ps1 ∧ Value.int IntKind.i64 ps2 = Value.int IntKind.i64 ps2 ∧ Value.int IntKind.i64 pi1 = Value.int IntKind.i64 pi1 ∧ Value.int IntKind.i64 pi2 = Value.int IntKind.i64 pi2 ∧ Value.int IntKind.i64 pc1 = Value.int IntKind.i64 pc1 ∧ Value.int IntKind.i64 pc2 = Value.int IntKind.i64 pc2 ∧ True) ∧ True) ∧ (Z10 ∧ True) ∧ ((!groundM (withGM Z4 Z20)) = true → True ∧ (Value.bool (canM Z4 Z20) = Value.bool false ∧ True) ∧ True ∧ Z10 ∧ True) ∧ ((!groundM (withGM Z4 Z20)) = false → Z24 < nat_lit 1000000 ∧ ((Z6 = Z6 ∧ Z7 = Z7 ∧ Z8 = Z8 ∧ (nat_lit 3 = nat_lit 3 ∧ nat_lit 0 = nat_lit 0 ∧ nat_lit 0 = nat_lit 0 ∧ List.length Z21 = Z24) ∧ True) ∧ Z12 = Z12 ∧ True) ∧ (Z21 = Z21 ∧ True) ∧ True ∧ (Value.bool (Prod.snd (hardOM (GroundT.mk long rise change Z21) Z9) == Z9) = Value.bool (canM Z4 Z20) ∧ True) ∧ True ∧ Z10 ∧ True))
    (by kernel_rfl) ?_
  simp only [eq_self, true_and, and_true, Int.toNat_natCast, Nat.zero_add, Nat.sub_zero, Value.int.injEq, Value.bool.injEq, decide_eq_true_eq, decide_eq_false_iff_not]
  have hxl : ps.length < 1000 := hx
  have hw := with_len ps (pa, (ph, ph2), (ps1, ps2), (pi1, pi2), pc1, pc2)
  refine ⟨hxl, fun h => ?_, fun h => ⟨by omega, ?_⟩⟩
  · have h' : groundM (withGM ⟨long, rise, change, ps⟩ (pa, (ph, ph2), (ps1, ps2), (pi1, pi2), pc1, pc2)) = false := by simpa using h
    unfold canM; rw [h', Bool.false_and]
  · have h' : groundM (withGM ⟨long, rise, change, ps⟩ (pa, (ph, ph2), (ps1, ps2), (pi1, pi2), pc1, pc2)) = true := by simpa using h
    unfold canM; rw [h', Bool.true_and]; rfl

theorem lcan_sound : Sound Try.prog 27 canS.con := FSpec.sound _ (enter_of Try.func27 (by kernel_rfl) (by kernel_rfl)) lcan_ok
end AE.Soil

namespace AE.Soil
open Go AE Go.Proofs

/-- A row of pits with one more, or with what it tells besides. -/
def insM : List PitT → PitT → List PitT
  | [], p => [p]
  | o :: l, p => if o.1 > p.1 then p :: o :: l else if o.1 = p.1 then mergeM o p :: l else o :: insM l p
theorem wAt_fold (l : List PitT) (p : PitT) : ∀ i, i ≤ l.length → wAtM l p i = (l.take i).foldl (fun r o => wstepM p o r) ([], false)
  | 0, _ => rfl
  | i + 1, h => by
    rw [take_snoc l i (by omega) pit0, List.foldl_append, ← wAt_fold l p i (by omega)]; rfl
theorem fold_put (p : PitT) : ∀ (l : List PitT) (a : List PitT), (∀ o ∈ l, p.1 < o.1) → l.foldl (fun r o => wstepM p o r) (a, true) = (a ++ l, true)
  | [], a, _ => by simp
  | o :: l, a, h => by
    have h1 := h o List.mem_cons_self
    rw [List.foldl_cons]
    have e : wstepM p o (a, true) = (a ++ [o], true) := by
      unfold wstepM
      rw [if_neg (by simp), if_neg (by omega)]
    rw [e, fold_put p l _ fun o ho => h o (List.mem_cons_of_mem _ ho), List.append_assoc]; rfl
def finM (r : List PitT × Bool) (p : PitT) : List PitT := if r.2 then r.1 else r.1 ++ [p]
theorem fold_ins (p : PitT) : ∀ (l : List PitT) (a : List PitT), (l.Pairwise fun p q => p.1 < q.1) → finM (l.foldl (fun r o => wstepM p o r) (a, false)) p = a ++ insM l p
  | [], a, _ => rfl
  | o :: l, a, h => by
    obtain ⟨h1, h2⟩ := List.pairwise_cons.1 h
    rw [List.foldl_cons]
    unfold insM
    by_cases c1 : o.1 > p.1
    · have e : wstepM p o (a, false) = ((a ++ [p]) ++ [o], true) := by
        unfold wstepM
        rw [decide_eq_true c1, if_pos (by rfl), if_neg (by omega)]
      rw [e, if_pos c1, fold_put p l _ fun q hq => by have := h1 q hq; omega]
      show (a ++ [p]) ++ [o] ++ l = _
      simp
    · rw [if_neg c1]
      by_cases c2 : o.1 = p.1
      · have e : wstepM p o (a, false) = (a ++ [mergeM o p], true) := by
          unfold wstepM
          rw [decide_eq_false c1, if_neg (by simp), if_pos c2]
        rw [e, if_pos c2, fold_put p l _ fun q hq => by have := h1 q hq; omega]
        show a ++ [mergeM o p] ++ l = _
        simp
      · have e : wstepM p o (a, false) = (a ++ [o], false) := by
          unfold wstepM
          rw [decide_eq_false c1, if_neg (by simp), if_neg c2]
        rw [e, if_neg c2, fold_ins p l _ h2]
        simp
theorem with_ins {l : List PitT} (p : PitT) (h : l.Pairwise fun p q => p.1 < q.1) : withM l p = insM l p := by
  have e := wAt_fold l p l.length (Nat.le_refl _)
  rw [List.take_length] at e
  have := fold_ins p l [] h
  unfold withM
  rw [e]
  simpa [finM] using this
theorem ins_mem (p : PitT) : ∀ {l : List PitT}, (l.Pairwise fun p q => p.1 < q.1) → ∀ q, q ∈ insM l p ↔ (q ∈ l ∧ q.1 ≠ p.1) ∨ (∃ o ∈ l, o.1 = p.1 ∧ q = mergeM o p) ∨ ((∀ o ∈ l, o.1 ≠ p.1) ∧ q = p)
  | [], _, q => by simp [insM]
  | o :: l, h, q => by
    obtain ⟨h1, h2⟩ := List.pairwise_cons.1 h
    unfold insM
    by_cases c1 : o.1 > p.1
    · rw [if_pos c1]
      have hne : ∀ r ∈ o :: l, r.1 ≠ p.1 := fun r hr => by
        rcases List.mem_cons.1 hr with rfl | hr
        · omega
        · have := h1 r hr; omega
      constructor
      · intro hq
        rcases List.mem_cons.1 hq with rfl | hq
        · exact .inr (.inr ⟨hne, rfl⟩)
        · exact .inl ⟨hq, hne q hq⟩
      · rintro (⟨hq, _⟩ | ⟨r, hr, he, _⟩ | ⟨_, rfl⟩)
        · exact List.mem_cons_of_mem _ hq
        · exact absurd he (hne r hr)
        · exact List.mem_cons_self
    · rw [if_neg c1]
      by_cases c2 : o.1 = p.1
      · rw [if_pos c2]
        constructor
        · intro hq
          rcases List.mem_cons.1 hq with rfl | hq
          · exact .inr (.inl ⟨o, List.mem_cons_self, c2, rfl⟩)
          · exact .inl ⟨List.mem_cons_of_mem _ hq, by have := h1 q hq; omega⟩
        · rintro (⟨hq, hne⟩ | ⟨r, hr, he, rfl⟩ | ⟨hall, _⟩)
          · rcases List.mem_cons.1 hq with rfl | hq
            · exact absurd c2 hne
            · exact List.mem_cons_of_mem _ hq
          · rcases List.mem_cons.1 hr with rfl | hr
            · exact List.mem_cons_self
            · have := h1 r hr; omega
          · exact absurd c2 (hall o List.mem_cons_self)
      · rw [if_neg c2, List.mem_cons, ins_mem p h2 q]
        constructor
        · rintro (rfl | ⟨hq, hne⟩ | ⟨r, hr, he, rfl⟩ | ⟨hall, rfl⟩)
          · exact .inl ⟨List.mem_cons_self, c2⟩
          · exact .inl ⟨List.mem_cons_of_mem _ hq, hne⟩
          · exact .inr (.inl ⟨r, List.mem_cons_of_mem _ hr, he, rfl⟩)
          · exact .inr (.inr ⟨fun r hr => by
              rcases List.mem_cons.1 hr with rfl | hr
              · exact c2
              · exact hall r hr, rfl⟩)
        · rintro (⟨hq, hne⟩ | ⟨r, hr, he, rfl⟩ | ⟨hall, rfl⟩)
          · rcases List.mem_cons.1 hq with rfl | hq
            · exact .inl rfl
            · exact .inr (.inl ⟨hq, hne⟩)
          · rcases List.mem_cons.1 hr with rfl | hr
            · exact absurd he c2
            · exact .inr (.inr (.inl ⟨r, hr, he, rfl⟩))
          · exact .inr (.inr (.inr ⟨fun r hr => hall r (List.mem_cons_of_mem _ hr), rfl⟩))
theorem ins_inc (p : PitT) : ∀ {l : List PitT}, (l.Pairwise fun p q => p.1 < q.1) → (insM l p).Pairwise fun p q => p.1 < q.1
  | [], _ => by simp [insM]
  | o :: l, h => by
    obtain ⟨h1, h2⟩ := List.pairwise_cons.1 h
    unfold insM
    by_cases c1 : o.1 > p.1
    · rw [if_pos c1]
      refine List.pairwise_cons.2 ⟨fun q hq => ?_, h⟩
      rcases List.mem_cons.1 hq with rfl | hq
      · exact c1
      · have := h1 q hq; omega
    · rw [if_neg c1]
      by_cases c2 : o.1 = p.1
      · rw [if_pos c2]
        exact List.pairwise_cons.2 ⟨fun q hq => h1 q hq, h2⟩
      · rw [if_neg c2]
        refine List.pairwise_cons.2 ⟨fun q hq => ?_, ins_inc p h2⟩
        rcases (ins_mem p h2 q).1 hq with ⟨hq, _⟩ | ⟨r, hr, _, rfl⟩ | ⟨_, rfl⟩
        · exact h1 q hq
        · exact h1 r hr
        · omega
theorem ins_len (p : PitT) : ∀ l : List PitT, (insM l p).length ≤ l.length + 1
  | [] => Nat.le_refl _
  | o :: l => by
    have := ins_len p l
    unfold insM
    split
    · simp
    · split <;> simp
      omega
theorem both_in {a b : Span} {v : Int} : In (bothM a b) v ↔ In a v ∧ In b v := by
  unfold In bothM
  dsimp only
  constructor
  · rintro ⟨h1, h2⟩; exact ⟨⟨by omega, by omega⟩, by omega, by omega⟩
  · rintro ⟨⟨h1, h2⟩, h3, h4⟩; exact ⟨by omega, by omega⟩
/-- What all pits tell, told of a row with one more. -/
theorem ins_all {l : List PitT} (hl : l.Pairwise fun p q => p.1 < q.1) (p : PitT) (F : PitT → Prop) (hF : ∀ o, o.1 = p.1 → (F (mergeM o p) ↔ F o ∧ F p)) : (∀ q ∈ insM l p, F q) ↔ (∀ q ∈ l, F q) ∧ F p := by
  constructor
  · intro h
    by_cases hc : ∃ o ∈ l, o.1 = p.1
    · obtain ⟨o, ho, he⟩ := hc
      have hm := (hF o he).1 (h _ ((ins_mem p hl _).2 (.inr (.inl ⟨o, ho, he, rfl⟩))))
      refine ⟨fun q hq => ?_, hm.2⟩
      by_cases hq2 : q.1 = p.1
      · rw [pit_uniq hl hq ho (by omega)]; exact hm.1
      · exact h q ((ins_mem p hl _).2 (.inl ⟨hq, hq2⟩))
    · have hall : ∀ o ∈ l, o.1 ≠ p.1 := fun o ho he => hc ⟨o, ho, he⟩
      exact ⟨fun q hq => h q ((ins_mem p hl _).2 (.inl ⟨hq, hall q hq⟩)), h p ((ins_mem p hl _).2 (.inr (.inr ⟨hall, rfl⟩)))⟩
  · rintro ⟨h1, h2⟩ q hq
    rcases (ins_mem p hl _).1 hq with ⟨hq, _⟩ | ⟨o, ho, he, rfl⟩ | ⟨_, rfl⟩
    · exact h1 q hq
    · exact (hF o he).2 ⟨h1 o ho, h2⟩
    · exact h2
theorem htr_with {g : GroundT} (hg : GOk g) (p : PitT) (h : Int → Int) : HTr (withGM g p) h ↔ HTr g h ∧ In p.2.1 (h p.1) := by
  have hi := ins_all hg.inc p (fun q => q.2.1.1 ≤ h q.1 ∧ h q.1 ≤ q.2.1.2) fun o he => by
    show In (bothM o.2.1 p.2.1) (h o.1) ↔ In o.2.1 (h o.1) ∧ In p.2.1 (h p.1)
    rw [both_in, he]
  rw [← with_ins p hg.inc] at hi
  constructor
  · rintro ⟨h1, h2, h3⟩
    obtain ⟨h4, h5⟩ := hi.1 h3
    exact ⟨⟨h1, h2, h4⟩, h5⟩
  · rintro ⟨⟨h1, h2, h3⟩, h4⟩
    exact ⟨h1, h2, hi.2 ⟨h3, h4⟩⟩
/-- A mix that a pit lets in. -/
def Fit (p : PitT) (x : T3) : Prop := In p.2.2.1 x.1 ∧ In p.2.2.2.1 x.2.1 ∧ In p.2.2.2.2 x.2.2
theorem merge_fit (o p : PitT) (x : T3) : Fit (mergeM o p) x ↔ Fit o x ∧ Fit p x := by
  unfold Fit mergeM
  dsimp only
  rw [both_in, both_in, both_in]
  constructor
  · rintro ⟨⟨h1, h2⟩, ⟨h3, h4⟩, h5, h6⟩; exact ⟨⟨h1, h3, h5⟩, h2, h4, h6⟩
  · rintro ⟨⟨h1, h3, h5⟩, h2, h4, h6⟩; exact ⟨⟨h1, h2⟩, ⟨h3, h4⟩, h5, h6⟩
theorem al_with {g : GroundT} (hg : GOk g) (p : PitT) (k : Nat) (x : T3) : Al (withGM g p) k x ↔ Al g k x ∧ (p.1 = (k : Int) → Fit p x) := by
  have hi := ins_all hg.inc p (fun q => q.1 = (k : Int) → Fit q x) fun o he => by
    show (o.1 = (k : Int) → Fit (mergeM o p) x) ↔ _
    rw [merge_fit, he]
    exact ⟨fun h => ⟨fun e => (h e).1, fun e => (h e).2⟩, fun h e => ⟨h.1 e, h.2 e⟩⟩
  rw [← with_ins p hg.inc] at hi
  constructor
  · rintro ⟨h1, h2⟩
    obtain ⟨h3, h4⟩ := hi.1 h2
    exact ⟨⟨h1, h3⟩, h4⟩
  · rintro ⟨⟨h1, h2⟩, h3⟩
    exact ⟨h1, hi.2 ⟨h2, h3⟩⟩
theorem mtr_with {g : GroundT} (hg : GOk g) (p : PitT) {a : Nat} (ha : p.1 = (a : Int)) (hn : a < nM g) (m : Nat → T3) : MTr (withGM g p) m ↔ MTr g m ∧ Fit p (m a) := by
  constructor
  · rintro ⟨h1, h2⟩
    exact ⟨⟨fun k hk => ((al_with hg p k _).1 (h1 k hk)).1, h2⟩, ((al_with hg p a _).1 (h1 a hn)).2 ha⟩
  · rintro ⟨⟨h1, h2⟩, h3⟩
    exact ⟨fun k hk => (al_with hg p k _).2 ⟨h1 k hk, fun e => by rwa [show k = a by omega]⟩, h2⟩
/-- A span that is valid, or of one number. -/
def SpOne (s : Span) (n : Int) : Prop := SpOk s n ∨ s.1 = s.2
structure POne (p : PitT) : Prop where
  hard : SpOne p.2.1 1000
  sand : SpOne p.2.2.1 20
  silt : SpOne p.2.2.2.1 20
  clay : SpOne p.2.2.2.2 20
theorem sp_one {s : Span} {n v : Int} (h : SpOne s n) (hv : In s v) (h0 : 0 ≤ v ∧ v ≤ n) : SpOk s n := by
  rcases h with h | h
  · exact h
  · obtain ⟨h1, h2⟩ := hv
    exact ⟨by omega, by omega, by omega⟩
theorem sp_both {a b : Span} {n v : Int} (h : SpOk a n) (ha : In a v) (hb : In b v) : SpOk (bothM a b) n := by
  obtain ⟨h1, h2, h3⟩ := h
  obtain ⟨h4, h5⟩ := ha
  obtain ⟨h6, h7⟩ := hb
  unfold SpOk bothM
  dsimp only
  exact ⟨by omega, by omega, by omega⟩
theorem with_gok {g : GroundT} (hg : GOk g) (h7 : g.pits.length ≤ 7) {p : PitT} (hp : POne p) (hpl : Pl g p.1) {h : Int → Int} {m : Nat → T3} {a : Nat} (ha : p.1 = (a : Int)) (hn : a < nM g) (th : HTr g h) (tm : MTr g m) (f1 : In p.2.1 (h p.1)) (f2 : Fit p (m a)) : GOk (withGM g p) where
  long := hg.long
  rise := hg.rise
  change := hg.change
  len := by
    show (withM g.pits p).length ≤ 8
    rw [with_ins p hg.inc]
    have := ins_len p g.pits
    omega
  inc := by
    show (withM g.pits p).Pairwise _
    rw [with_ins p hg.inc]; exact ins_inc p hg.inc
  pits := fun q hq => by
    have hq' : q ∈ insM g.pits p := by rw [← with_ins p hg.inc]; exact hq
    obtain ⟨⟨x0, x1, x2, x3⟩, xp⟩ := tm.al a hn
    obtain ⟨k1, k2, k3⟩ := f2
    rcases (ins_mem p hg.inc q).1 hq' with ⟨hq, _⟩ | ⟨o, ho, he, rfl⟩ | ⟨_, rfl⟩
    · exact hg.pits q hq
    · have ok := hg.pits o ho
      have hh := th.pits o ho
      obtain ⟨j1, j2, j3⟩ := xp o ho (by omega)
      rw [he] at hh
      exact ⟨ok.at_, sp_both ok.hard hh f1, sp_both ok.sand j1 k1, sp_both ok.silt j2 k2, sp_both ok.clay j3 k3⟩
    · exact ⟨hpl, sp_one hp.hard f1 (th.bound _ hpl), sp_one hp.sand k1 ⟨x1, by omega⟩, sp_one hp.silt k2 ⟨x2, by omega⟩, sp_one hp.clay k3 ⟨x3, by omega⟩⟩
theorem can_iff {g : GroundT} (hg : GOk g) (h7 : g.pits.length ≤ 7) {p : PitT} (hp : POne p) {a : Nat} (ha : p.1 = (a : Int)) (hn : a < nM g) : canM g p = true ↔ ∃ h m, HTr g h ∧ MTr g m ∧ In p.2.1 (h p.1) ∧ Fit p (m a) := by
  have hpl : Pl g p.1 := by rw [ha]; exact pl_of hg hn
  unfold canM
  rw [Bool.and_eq_true]
  constructor
  · rintro ⟨h1, h2⟩
    have ok := ground_ok h1
    have hl : lookM (withGM g p) = true := by
      have e := hard_told h1 (k := 0) ⟨Int.le_refl _, ok.long.1⟩
      rw [e] at h2
      cases hc : lookM (withGM g p) with
      | true => rfl
      | false => rw [hc] at h2; exact absurd h2 (by simp)
    obtain ⟨⟨h, th⟩, m, tm⟩ := (look_truth ok).1 hl
    obtain ⟨t1, t2⟩ := (htr_with hg p h).1 th
    obtain ⟨t3, t4⟩ := (mtr_with hg p ha hn m).1 tm
    exact ⟨h, m, t1, t3, t2, t4⟩
  · rintro ⟨h, m, th, tm, f1, f2⟩
    have ok := with_gok hg h7 hp hpl ha hn th tm f1 f2
    have h1 := ground_of ok
    have hl := (look_truth ok).2 ⟨⟨h, (htr_with hg p h).2 ⟨th, f1⟩⟩, m, (mtr_with hg p ha hn m).2 ⟨tm, f2⟩⟩
    refine ⟨h1, ?_⟩
    rw [hard_told h1 (k := 0) ⟨Int.le_refl _, ok.long.1⟩, hl]; rfl
/-! ### the ends -/
theorem all_sp (n : Int) (h : 0 ≤ n) : SpOk (0, n) n := ⟨Int.le_refl _, h, Int.le_refl _⟩
theorem all_in {g : GroundT} {m : Nat → T3} (t : MTr g m) {a : Nat} (hn : a < nM g) : In (0, 20) (m a).1 ∧ In (0, 20) (m a).2.1 ∧ In (0, 20) (m a).2.2 := by
  obtain ⟨⟨x0, x1, x2, x3⟩, _⟩ := t.al a hn
  unfold In
  dsimp only
  exact ⟨⟨x1, by omega⟩, ⟨x2, by omega⟩, x3, by omega⟩
theorem can_hard {g : GroundT} (hg : GOk g) (h7 : g.pits.length ≤ 7) (hl : lookM g = true) {a : Nat} (hn : a < nM g) (n : Int) : canM g (toldPM 0 (a : Int) n) = true ↔ In (hardM g (a : Int)) n := by
  have hp : POne (toldPM 0 (a : Int) n) := ⟨.inr rfl, .inl (all_sp 20 (by decide)), .inl (all_sp 20 (by decide)), .inl (all_sp 20 (by decide))⟩
  rw [can_iff hg h7 hp (a := a) rfl hn]
  constructor
  · rintro ⟨h, m, th, tm, ⟨f1, f2⟩, f3⟩
    have e : h (a : Int) = n := by
      have f1' : n ≤ h (a : Int) := f1
      have f2' : h (a : Int) ≤ n := f2
      omega
    rw [← e]
    exact th.inside hg (pl_of hg hn)
  · rintro ⟨h1, h2⟩
    obtain ⟨_, m, tm⟩ := (look_truth hg).1 hl
    have th := hard_any hg (look_hok hg hl) (pl_of hg hn) h1 h2
    have e := hard_any_at (g := g) (a := (a : Int)) (n := n) h1
    refine ⟨_, m, th, tm, ?_, all_in tm hn⟩
    show n ≤ max (hardM g (a : Int)).1 (n - D (a : Int) (a : Int) * g.rise) ∧ max (hardM g (a : Int)).1 (n - D (a : Int) (a : Int) * g.rise) ≤ n
    rw [e]; exact ⟨Int.le_refl _, Int.le_refl _⟩
theorem hard_in {g : GroundT} {h : Int → Int} (t : HTr g h) {a : Int} (ha : Pl g a) : In (0, 1000) (h a) := t.bound a ha
/-- A pit that tells of mixes alone. -/
theorem can_mix {g : GroundT} (hg : GOk g) (h7 : g.pits.length ≤ 7) (hl : lookM g = true) {p : PitT} (hp : POne p) (h0 : p.2.1 = (0, 1000)) {a : Nat} (ha : p.1 = (a : Int)) (hn : a < nM g) : canM g p = true ↔ ∃ x, Mem ((boxesM g).getD a m0) x ∧ Fit p x := by
  rw [can_iff hg h7 hp ha hn]
  constructor
  · rintro ⟨h, m, th, tm, f1, f2⟩
    exact ⟨m a, (box_truth hg hn _).2 ⟨m, tm, rfl⟩, f2⟩
  · rintro ⟨x, hx, hf⟩
    obtain ⟨m, tm, rfl⟩ := (box_truth hg hn x).1 hx
    obtain ⟨⟨h, th⟩, _⟩ := (look_truth hg).1 hl
    exact ⟨h, m, th, tm, by rw [h0]; exact hard_in th (by rw [ha]; exact pl_of hg hn), hf⟩
theorem mem_all {m : Mix3} (h : Good m) {x : T3} (hx : Mem m x) : In (0, 20) x.1 ∧ In (0, 20) x.2.1 ∧ In (0, 20) x.2.2 := by
  obtain ⟨h0, h1, h2, h3⟩ := hx.ok3 h
  exact ⟨⟨h1, by show x.1 ≤ 20; omega⟩, ⟨h2, by show x.2.1 ≤ 20; omega⟩, h3, by show x.2.2 ≤ 20; omega⟩
theorem can_sand {g : GroundT} (hg : GOk g) (h7 : g.pits.length ≤ 7) (hl : lookM g = true) {a : Nat} (hn : a < nM g) (n : Int) : canM g (toldPM 1 (a : Int) n) = true ↔ In ((boxesM g).getD a m0).1 n := by
  have hp : POne (toldPM 1 (a : Int) n) := ⟨.inl (all_sp 1000 (by decide)), .inr rfl, .inl (all_sp 20 (by decide)), .inl (all_sp 20 (by decide))⟩
  rw [can_mix hg h7 hl hp rfl (a := a) rfl hn]
  have hgd := (stage2 hg hn).1
  constructor
  · rintro ⟨x, hx, ⟨f1, f2⟩, _⟩
    have f1' : n ≤ x.1 := f1
    have f2' : x.1 ≤ n := f2
    rw [show n = x.1 by omega]; exact hx.2.1
  · intro h
    obtain ⟨x, hx, rfl⟩ := (box_tight hg hl hn).lowA h
    obtain ⟨_, k2, k3⟩ := mem_all hgd hx
    exact ⟨x, hx, ⟨Int.le_refl _, Int.le_refl _⟩, k2, k3⟩
theorem can_silt {g : GroundT} (hg : GOk g) (h7 : g.pits.length ≤ 7) (hl : lookM g = true) {a : Nat} (hn : a < nM g) (n : Int) : canM g (toldPM 2 (a : Int) n) = true ↔ In ((boxesM g).getD a m0).2.1 n := by
  have hp : POne (toldPM 2 (a : Int) n) := ⟨.inl (all_sp 1000 (by decide)), .inl (all_sp 20 (by decide)), .inr rfl, .inl (all_sp 20 (by decide))⟩
  rw [can_mix hg h7 hl hp rfl (a := a) rfl hn]
  have hgd := (stage2 hg hn).1
  constructor
  · rintro ⟨x, hx, _, ⟨f1, f2⟩, _⟩
    have f1' : n ≤ x.2.1 := f1
    have f2' : x.2.1 ≤ n := f2
    rw [show n = x.2.1 by omega]; exact hx.2.2.1
  · intro h
    obtain ⟨x, hx, rfl⟩ := (box_tight hg hl hn).lowB h
    obtain ⟨k1, _, k3⟩ := mem_all hgd hx
    exact ⟨x, hx, k1, ⟨Int.le_refl _, Int.le_refl _⟩, k3⟩
theorem can_clay {g : GroundT} (hg : GOk g) (h7 : g.pits.length ≤ 7) (hl : lookM g = true) {a : Nat} (hn : a < nM g) (n : Int) : canM g (toldPM 3 (a : Int) n) = true ↔ In ((boxesM g).getD a m0).2.2 n := by
  have hp : POne (toldPM 3 (a : Int) n) := ⟨.inl (all_sp 1000 (by decide)), .inl (all_sp 20 (by decide)), .inl (all_sp 20 (by decide)), .inr rfl⟩
  rw [can_mix hg h7 hl hp rfl (a := a) rfl hn]
  have hgd := (stage2 hg hn).1
  constructor
  · rintro ⟨x, hx, _, _, f1, f2⟩
    have f1' : n ≤ x.2.2 := f1
    have f2' : x.2.2 ≤ n := f2
    rw [show n = x.2.2 by omega]; exact hx.2.2.2
  · intro h
    obtain ⟨x, hx, rfl⟩ := (box_tight hg hl hn).lowC h
    obtain ⟨k1, k2, _⟩ := mem_all hgd hx
    exact ⟨x, hx, k1, k2, Int.le_refl _, Int.le_refl _⟩
theorem spc (lo hi n : Int) (h : (decide (0 ≤ lo) && decide (lo ≤ hi) && decide (hi ≤ n)) = true) : SpOk (lo, hi) n := by
  simp only [Bool.and_eq_true, decide_eq_true_eq] at h
  exact ⟨h.1.1, h.1.2, h.2⟩
/-- The pits that tell of a class. -/
def clsPM : Nat → Int → PitT
  | 0, a => (a, (0, 1000), (0, 13), (0, 11), 0, 7)
  | 1, a => (a, (0, 1000), (14, 20), (0, 20), 0, 7)
  | 2, a => (a, (0, 1000), (0, 13), (12, 20), 0, 7)
  | _, a => (a, (0, 1000), (0, 20), (0, 20), 8, 20)
theorem cls_fit {x : T3} (h : Ok3 x) (a : Int) : (Fit (clsPM 0 a) x ↔ clsM x = 0) ∧ (Fit (clsPM 1 a) x ↔ clsM x = 1) ∧ (Fit (clsPM 2 a) x ↔ clsM x = 2) ∧ (Fit (clsPM 3 a) x ↔ clsM x = 3) := by
  obtain ⟨h0, h1, h2, h3⟩ := h
  simp only [Fit, clsPM, In, clsM]
  refine ⟨?_, ?_, ?_, ?_⟩ <;> split <;> (try split) <;> (try split) <;> constructor <;> intro k <;> first | (exact ⟨⟨by omega, by omega⟩, ⟨by omega, by omega⟩, by omega, by omega⟩) | omega
theorem can_cls {g : GroundT} (hg : GOk g) (h7 : g.pits.length ≤ 7) (hl : lookM g = true) {a : Nat} (hn : a < nM g) : ∃ c3 c1 c2 c0 : Bool, classesM ((boxesM g).getD a m0) = bitsM c3 c1 c2 c0 ∧ canM g (clsPM 0 (a : Int)) = c0 ∧ canM g (clsPM 1 (a : Int)) = c1 ∧ canM g (clsPM 2 (a : Int)) = c2 ∧ canM g (clsPM 3 (a : Int)) = c3 ∧ (c3 || c1 || c2 || c0) = true := by
  have hgd := (stage2 hg hn).1
  obtain ⟨c3, c1, c2, c0, e, i3, i1, i2, i0⟩ := class_bits hgd
  have hb : ∀ b c : Bool, (b = true ↔ c = true) → b = c := by decide
  have a20 := all_sp 20 (by decide)
  have a1000 := all_sp 1000 (by decide)
  refine ⟨c3, c1, c2, c0, e, hb _ _ ?_, hb _ _ ?_, hb _ _ ?_, hb _ _ ?_, ?_⟩
  · rw [can_mix hg h7 hl (p := clsPM 0 (a : Int)) ⟨.inl a1000, .inl (spc 0 13 20 (by decide)), .inl (spc 0 11 20 (by decide)), .inl (spc 0 7 20 (by decide))⟩ rfl (a := a) rfl hn, i0]
    exact exists_congr fun x => ⟨fun ⟨p, q⟩ => ⟨p, (cls_fit (p.ok3 hgd) _).1.1 q⟩, fun ⟨p, q⟩ => ⟨p, (cls_fit (p.ok3 hgd) _).1.2 q⟩⟩
  · rw [can_mix hg h7 hl (p := clsPM 1 (a : Int)) ⟨.inl a1000, .inl (spc 14 20 20 (by decide)), .inl (spc 0 20 20 (by decide)), .inl (spc 0 7 20 (by decide))⟩ rfl (a := a) rfl hn, i1]
    exact exists_congr fun x => ⟨fun ⟨p, q⟩ => ⟨p, (cls_fit (p.ok3 hgd) _).2.1.1 q⟩, fun ⟨p, q⟩ => ⟨p, (cls_fit (p.ok3 hgd) _).2.1.2 q⟩⟩
  · rw [can_mix hg h7 hl (p := clsPM 2 (a : Int)) ⟨.inl a1000, .inl (spc 0 13 20 (by decide)), .inl (spc 12 20 20 (by decide)), .inl (spc 0 7 20 (by decide))⟩ rfl (a := a) rfl hn, i2]
    exact exists_congr fun x => ⟨fun ⟨p, q⟩ => ⟨p, (cls_fit (p.ok3 hgd) _).2.2.1.1 q⟩, fun ⟨p, q⟩ => ⟨p, (cls_fit (p.ok3 hgd) _).2.2.1.2 q⟩⟩
  · rw [can_mix hg h7 hl (p := clsPM 3 (a : Int)) ⟨.inl a1000, .inl (spc 0 20 20 (by decide)), .inl (spc 0 20 20 (by decide)), .inl (spc 8 20 20 (by decide))⟩ rfl (a := a) rfl hn, i3]
    exact exists_congr fun x => ⟨fun ⟨p, q⟩ => ⟨p, (cls_fit (p.ok3 hgd) _).2.2.2.1 q⟩, fun ⟨p, q⟩ => ⟨p, (cls_fit (p.ok3 hgd) _).2.2.2.2 q⟩⟩
  · obtain ⟨x, hx⟩ := (box_tight hg hl hn).ex
    have hcases : clsM x = 3 ∨ clsM x = 1 ∨ clsM x = 2 ∨ clsM x = 0 := by unfold clsM; split <;> (try split) <;> (try split) <;> simp
    rcases hcases with h | h | h | h
    · rw [i3.2 ⟨x, hx, h⟩]; rfl
    · rw [i1.2 ⟨x, hx, h⟩]; cases c3 <;> rfl
    · rw [i2.2 ⟨x, hx, h⟩]; cases c3 <;> cases c1 <;> rfl
    · rw [i0.2 ⟨x, hx, h⟩]; cases c3 <;> cases c1 <;> cases c2 <;> rfl
end AE.Soil

namespace AE.Soil
open Go AE Go.Proofs

def t3 (m : M2) : T3 := (m.1, m.2, 20 - m.1 - m.2)
theorem t3_of {x : T3} (h : Ok3 x) : t3 (x.1, x.2.1) = x := by
  obtain ⟨h0, _⟩ := h
  unfold t3
  exact Prod.ext rfl (Prod.ext rfl (by dsimp only; omega))
theorem clay_eq {m : M2} (h : Ok3 (t3 m)) : rclayM m = (t3 m).2.2 := by
  obtain ⟨h0, h1, h2, h3⟩ := h
  unfold t3 at h1 h2 h3
  dsimp only at h1 h2 h3
  unfold rclayM
  rw [show W (20 - m.1) = 20 - m.1 from wrap_id (by omega) (by omega), show W (20 - m.1 - m.2) = 20 - m.1 - m.2 from wrap_id (by omega) (by omega)]; rfl
theorem mem_row {s t : Nat} {m : M2} : m ∈ rowM s t ↔ m.1 = (s : Int) ∧ 0 ≤ m.2 ∧ m.2 < (t : Int) := by
  unfold rowM
  rw [List.mem_map]
  constructor
  · rintro ⟨b, hb, rfl⟩
    rw [List.mem_range] at hb
    exact ⟨rfl, Int.natCast_nonneg _, by dsimp only; omega⟩
  · rintro ⟨h1, h2, h3⟩
    obtain ⟨b, hb⟩ := Int.eq_ofNat_of_zero_le h2
    exact ⟨b, List.mem_range.2 (by omega), Prod.ext h1.symm hb.symm⟩
theorem mem_rows {m : M2} : ∀ {s : Nat}, m ∈ rowsM s ↔ 0 ≤ m.1 ∧ m.1 < (s : Int) ∧ 0 ≤ m.2 ∧ m.2 < ((21 - m.1.toNat : Nat) : Int)
  | 0 => by simp [rowsM]; intros; omega
  | s + 1 => by
    unfold rowsM
    rw [List.mem_append, mem_rows, mem_row]
    constructor
    · rintro (⟨h1, h2, h3, h4⟩ | ⟨h1, h2, h3⟩)
      · exact ⟨h1, by omega, h3, h4⟩
      · exact ⟨by omega, by omega, h2, by rw [h1, Int.toNat_natCast]; exact h3⟩
    · rintro ⟨h1, h2, h3, h4⟩
      by_cases h : m.1 = (s : Int)
      · refine .inr ⟨h, h3, ?_⟩
        rw [h, Int.toNat_natCast] at h4; exact h4
      · exact .inl ⟨h1, by omega, h3, h4⟩
theorem mem_all2 {l : List PitT} {m : M2} : m ∈ allM l ↔ Ok3 (t3 m) := by
  rw [all_rows, mem_rows]
  unfold Ok3 t3
  dsimp only
  constructor
  · rintro ⟨h1, h2, h3, h4⟩; exact ⟨by omega, h1, h3, by omega⟩
  · rintro ⟨_, h1, h2, h3⟩; exact ⟨h1, by omega, h2, by omega⟩
theorem fit_iff {l : List PitT} {k : Nat} {m : M2} (h : Ok3 (t3 m)) : rfitM l (k : Int) m = true ↔ ∀ p ∈ l, p.1 = (k : Int) → Fit p (t3 m) := by
  unfold rfitM
  rw [List.all_eq_true]
  refine forall_congr' fun p => ?_
  refine imp_congr_right fun _ => ?_
  unfold rfit1M Fit In
  rw [clay_eq h]
  simp only [Bool.or_eq_true, Bool.not_eq_true', beq_eq_false_iff_ne, Bool.and_eq_true, inM_iff]
  constructor
  · rintro (hn | ⟨⟨h1, h2⟩, h3⟩) hk
    · exact absurd hk hn
    · exact ⟨h1, h2, h3⟩
  · intro hh
    by_cases hk : p.1 = (k : Int)
    · obtain ⟨h1, h2, h3⟩ := hh hk
      exact .inr ⟨⟨h1, h2⟩, h3⟩
    · exact .inl hk
theorem near_iff {c : Int} (hc : 0 ≤ c ∧ c ≤ 20) {a b : M2} (ha : Ok3 (t3 a)) (hb : Ok3 (t3 b)) : rnearM c a b = true ↔ Near c (t3 a) (t3 b) := by
  unfold rnearM
  rw [clay_eq ha, clay_eq hb]
  obtain ⟨_, a1, a2, a3⟩ := ha
  obtain ⟨_, b1, b2, b3⟩ := hb
  unfold t3 at *
  dsimp only at *
  rw [show W (a.1 - b.1) = a.1 - b.1 from wrap_id (by omega) (by omega), show W (a.2 - b.2) = a.2 - b.2 from wrap_id (by omega) (by omega), show W (20 - a.1 - a.2 - (20 - b.1 - b.2)) = 20 - a.1 - a.2 - (20 - b.1 - b.2) from wrap_id (by omega) (by omega), show W (0 - c) = 0 - c from wrap_id (by omega) (by omega)]
  simp only [Bool.and_eq_true, inM_iff]
  unfold Near
  dsimp only
  constructor
  · rintro ⟨⟨h1, h2⟩, h3⟩; exact ⟨⟨by omega, by omega⟩, ⟨by omega, by omega⟩, by omega, by omega⟩
  · rintro ⟨h1, h2, h3⟩; exact ⟨⟨⟨by omega, by omega⟩, by omega, by omega⟩, by omega, by omega⟩
/-- The reference's mixes along the places are chains. -/
theorem ch_mem {g : GroundT} (hg : GOk g) {e st : Int} {ix : Nat → Nat} : ∀ (k : Nat), (∀ i, i ≤ k → xAtM e st i = ((ix i : Nat) : Int)) → ∀ m : M2, m ∈ chM g e st k ↔ Ch (fun i => Al g (ix i)) g.change k (t3 m)
  | 0, hix, m => by
    rw [ch_step]
    unfold stepLM takesM canPM firstM
    rw [List.mem_filter, mem_all2, hix 0 (Nat.le_refl 0)]
    simp only [beq_self_eq_true, Bool.true_or, Bool.true_and]
    show Ok3 (t3 m) ∧ _ ↔ Al g (ix 0) (t3 m)
    constructor
    · rintro ⟨h1, h2⟩; exact ⟨h1, (fit_iff h1).1 h2⟩
    · rintro ⟨h1, h2⟩; exact ⟨h1, (fit_iff h1).2 h2⟩
  | k + 1, hix, m => by
    have ih := ch_mem hg (e := e) (st := st) (ix := ix) k (fun i hi => hix i (by omega))
    rw [ch_step]
    unfold stepLM takesM canPM firstM
    rw [List.mem_filter, mem_all2, hix (k + 1) (Nat.le_refl _)]
    show Ok3 (t3 m) ∧ ((k + 1 == 0 || (chM g e st k).any fun a => rnearM g.change a m) && rfitM g.pits ((ix (k + 1) : Nat) : Int) m) = true ↔ Al g (ix (k + 1)) (t3 m) ∧ ∃ y, Ch (fun i => Al g (ix i)) g.change k y ∧ Near g.change y (t3 m)
    rw [show (k + 1 == 0) = false from rfl, Bool.false_or, Bool.and_eq_true, List.any_eq_true]
    constructor
    · rintro ⟨h1, ⟨a, ha, hn⟩, h3⟩
      have hc := (ih a).1 ha
      have hok : Ok3 (t3 a) := hc.head.1
      exact ⟨⟨h1, (fit_iff h1).1 h3⟩, t3 a, hc, (near_iff hg.change hok h1).1 hn⟩
    · rintro ⟨⟨h1, h2⟩, y, hy, hn⟩
      have hok : Ok3 y := hy.head.1
      refine ⟨h1, ⟨(y.1, y.2.1), (ih _).2 (by rw [t3_of hok]; exact hy), (near_iff hg.change (by rw [t3_of hok]; exact hok) h1).2 (by rw [t3_of hok]; exact hn)⟩, (fit_iff h1).2 h2⟩
theorem eq2_iff (x y : M2) : eq2M x y = true ↔ x = y := by
  unfold eq2M
  simp only [Bool.and_true, Bool.and_eq_true, beq_iff_eq]
  exact ⟨fun h => Prod.ext h.1 h.2, fun h => by subst h; exact ⟨rfl, rfl⟩⟩
theorem mem_cross {a b : List M2} {m : M2} : m ∈ crossM a b ↔ m ∈ a ∧ m ∈ b := by
  unfold crossM innM
  rw [List.mem_flatMap]
  constructor
  · rintro ⟨x, hx, hm⟩
    obtain ⟨y, hy, rfl⟩ := List.mem_map.1 hm
    rw [List.mem_filter, eq2_iff] at hy
    exact ⟨hx, by rw [hy.2]; exact hy.1⟩
  · rintro ⟨h1, h2⟩
    exact ⟨m, h1, List.mem_map.2 ⟨m, List.mem_filter.2 ⟨h2, (eq2_iff m m).2 rfl⟩, rfl⟩⟩
/-- The reference's mixes of a place are those that the program's box holds. -/
theorem rmix_mem {g : GroundT} (hg : GOk g) {k : Nat} (hk : k < nM g) (m : M2) : m ∈ rMixM g (k : Int) ↔ Mem ((boxesM g).getD k m0) (t3 m) := by
  have hn := (n_ok hg).1
  have e1 : ((((k : Nat) : Int) - 0) * 1).toNat = k := by omega
  have e2 : ((((k : Nat) : Int) - g.long) * (-1)).toNat = nM g - 1 - k := by omega
  have f1 := ch_mem hg (e := 0) (st := 1) (ix := fun i => i) k (fun i _ => by unfold xAtM; omega) m
  have f2 := ch_mem hg (e := g.long) (st := -1) (ix := fun i => nM g - 1 - i) (nM g - 1 - k) (fun i hi => by unfold xAtM; omega) m
  unfold rMixM fwM bwM
  rw [mem_cross, e1, e2, f1, f2, box_truth hg hk]
  constructor
  · rintro ⟨h1, h2⟩; exact both_truth hk h1 h2
  · rintro ⟨w, t, hw⟩
    rw [← hw]
    exact ⟨t.fwd hk, t.bwd hk⟩
theorem rmix_some {g : GroundT} (hg : GOk g) {k : Nat} (hk : k < nM g) : 0 < (rMixM g (k : Int)).length ↔ ∃ w, MTr g w := by
  rw [← box_some hg hk, (stage2 hg hk).1.ex_iff, List.length_pos_iff_exists_mem]
  constructor
  · rintro ⟨m, hm⟩; exact ⟨_, (rmix_mem hg hk m).1 hm⟩
  · rintro ⟨x, hx⟩
    have hok := hx.ok3 (stage2 hg hk).1
    exact ⟨(x.1, x.2.1), (rmix_mem hg hk _).2 (by rw [t3_of hok]; exact hx)⟩
theorem truth_look {g : GroundT} (hg : GOk g) : rtruthM g = lookM g := by
  have hb : ∀ a b : Bool, (a = true ↔ b = true) → a = b := by decide
  refine hb _ _ ?_
  have hn := (n_ok hg).2.1
  have h0 := rmix_some hg hn
  rw [show ((0 : Nat) : Int) = 0 from rfl] at h0
  rw [look_truth hg, ← hok_iff hg, ← h0]
  unfold rtruthM
  rw [Bool.and_eq_true, decide_eq_true_eq, hok_all]
  constructor
  · rintro ⟨h1, h2⟩
    refine ⟨fun k hk => ?_, by omega⟩
    obtain ⟨j, rfl, hj⟩ := place_of hg hk
    have := h1 j hj
    omega
  · rintro ⟨h1, h2⟩
    exact ⟨fun k hk => by have := h1 _ (pl_of hg hk); omega, by omega⟩
theorem check_err (g : GroundT) (v : Bool) (a : Ask) (l : List Int) (h : l.all (askM a g.long) = v) : openErrM g a l = rcheckM g v := by
  unfold openErrM rcheckM
  rw [h]
  cases hg : groundM g with
  | false => rfl
  | true => rw [truth_look (ground_ok hg)]
theorem hard_same (g : GroundT) (a : Int) : hardOM g a = rhardM g a := by
  unfold hardOM rhardM
  rw [check_err g (inM a 0 g.long) .place [a] (by simp [askM])]
  simp only [beq_iff_eq]
theorem work_same (g : GroundT) (a b : Int) : workOM g a b = rworkM g a b := by
  unfold workOM rworkM workErrM
  rw [check_err g (rwokM g a b) (.span (spanOkM a b)) [a, b] (by
    unfold rwokM spanOkM
    simp only [List.all_cons, List.all_nil, askM, Bool.and_true]
    cases inM a 0 g.long <;> cases inM b 0 g.long <;> cases decide (a ≤ b) <;> rfl)]
  simp only [beq_iff_eq]
  split
  · rename_i h
    obtain ⟨hg, hv, _⟩ := check0 h
    have ok := ground_ok hg
    have hl := ok.long
    unfold rwokM at hv
    simp only [Bool.and_eq_true, inM_iff, decide_eq_true_eq] at hv
    have hw : W (b + 1) = b + 1 := wrap_id (by omega) (by omega)
    have e : workNM a b = rsumN a b := by unfold workNM rsumN; rw [hw]; omega
    unfold rsumM
    rw [e]
  · rfl
/-! ### parts -/
def joinsM (f : M2 → Int) (l : List M2) : Nat → Span
  | 0 => (f (l.getD 0 (0, 0)), f (l.getD 0 (0, 0)))
  | i + 1 => joinM (joinsM f l i) (f (l.getD i (0, 0)))
theorem spA_eq (l : List M2) : ∀ i, spAM l i = joinsM (fun m => m.1) l i
  | 0 => rfl
  | i + 1 => by unfold spAM joinsM; rw [spA_eq l i]
theorem spB_eq (l : List M2) : ∀ i, spBM l i = joinsM (fun m => m.2) l i
  | 0 => rfl
  | i + 1 => by unfold spBM joinsM; rw [spB_eq l i]
theorem spC_eq (l : List M2) : ∀ i, spCM l i = joinsM rclayM l i
  | 0 => rfl
  | i + 1 => by unfold spCM joinsM; rw [spC_eq l i]
theorem joins_inv (f : M2 → Int) {l : List M2} (h : 0 < l.length) : ∀ i, i ≤ l.length → (∃ m ∈ l, f m = (joinsM f l i).1) ∧ (∃ m ∈ l, f m = (joinsM f l i).2) ∧ ∀ j, j < i → (joinsM f l i).1 ≤ f (l.getD j (0, 0)) ∧ f (l.getD j (0, 0)) ≤ (joinsM f l i).2
  | 0, _ => ⟨⟨_, getD_mem (0, 0) h, rfl⟩, ⟨_, getD_mem (0, 0) h, rfl⟩, fun j hj => absurd hj (Nat.not_lt_zero j)⟩
  | i + 1, hi => by
    obtain ⟨⟨a, ha, ea⟩, ⟨b, hb, eb⟩, hall⟩ := joins_inv f h i (by omega)
    have hm := getD_mem (l := l) (0, 0) (show i < l.length by omega)
    unfold joinsM joinM
    refine ⟨?_, ?_, fun j hj => ?_⟩
    · by_cases hc : (joinsM f l i).1 ≤ f (l.getD i (0, 0))
      · exact ⟨a, ha, by dsimp only; omega⟩
      · exact ⟨_, hm, by dsimp only; omega⟩
    · by_cases hc : f (l.getD i (0, 0)) ≤ (joinsM f l i).2
      · exact ⟨b, hb, by dsimp only; omega⟩
      · exact ⟨_, hm, by dsimp only; omega⟩
    · rcases Nat.lt_or_eq_of_le (Nat.le_of_lt_succ hj) with hlt | rfl
      · have := hall j hlt; dsimp only; omega
      · dsimp only; omega
theorem joins_span (f : M2 → Int) {l : List M2} {s : Span} (h : 0 < l.length) (hin : ∀ m ∈ l, In s (f m)) (hlo : ∃ m ∈ l, f m = s.1) (hhi : ∃ m ∈ l, f m = s.2) : joinsM f l l.length = s := by
  obtain ⟨⟨a, ha, ea⟩, ⟨b, hb, eb⟩, hall⟩ := joins_inv f h l.length (Nat.le_refl _)
  have hall' : ∀ m ∈ l, (joinsM f l l.length).1 ≤ f m ∧ f m ≤ (joinsM f l l.length).2 := fun m hm => by
    obtain ⟨j, hj, rfl⟩ := List.getElem_of_mem hm
    have := hall j hj
    rw [List.getD_eq_getElem?_getD, List.getElem?_eq_getElem hj] at this
    exact this
  obtain ⟨c, hc, ec⟩ := hlo
  obtain ⟨d, hd, ed⟩ := hhi
  have h1 := hall' c hc
  have h2 := hall' d hd
  have h3 := hin a ha
  have h4 := hin b hb
  unfold In at h3 h4
  exact Prod.ext (by omega) (by omega)
theorem parts_same (g : GroundT) (a : Int) : partsOM g a = rpartsM g a := by
  unfold partsOM rpartsM
  rw [check_err g (inM a 0 g.long) .place [a] (by simp [askM])]
  simp only [beq_iff_eq]
  split
  · rename_i h
    obtain ⟨hg, hv, _, _, ht⟩ := check0 h
    have ok := ground_ok hg
    obtain ⟨k, rfl, hk⟩ := place_of ok (inM_iff.1 hv)
    have hl : lookM g = true := by rw [← truth_look ok]; exact ht
    have t := box_tight ok hl hk
    have hgd := (stage2 ok hk).1
    have hpos : 0 < (rMixM g (k : Int)).length := (rmix_some ok hk).2 ((look_truth ok).1 hl).2
    rw [Int.toNat_natCast, spA_eq, spB_eq, spC_eq]
    have memof : ∀ x, Mem ((boxesM g).getD k m0) x → (x.1, x.2.1) ∈ rMixM g (k : Int) := fun x hx => (rmix_mem ok hk _).2 (by rw [t3_of (hx.ok3 hgd)]; exact hx)
    have clof : ∀ x, Mem ((boxesM g).getD k m0) x → rclayM (x.1, x.2.1) = x.2.2 := fun x hx => by
      have hok := hx.ok3 hgd
      rw [clay_eq (by rw [t3_of hok]; exact hok), t3_of hok]
    have eA : joinsM (fun m => m.1) (rMixM g (k : Int)) (rMixM g (k : Int)).length = ((boxesM g).getD k m0).1 := by
      refine joins_span _ hpos (fun m hm => ((rmix_mem ok hk m).1 hm).2.1) ?_ ?_
      · obtain ⟨x, hx, e⟩ := t.lowA ⟨Int.le_refl _, t.a.2.1⟩; exact ⟨_, memof x hx, e⟩
      · obtain ⟨x, hx, e⟩ := t.lowA ⟨t.a.2.1, Int.le_refl _⟩; exact ⟨_, memof x hx, e⟩
    have eB : joinsM (fun m => m.2) (rMixM g (k : Int)) (rMixM g (k : Int)).length = ((boxesM g).getD k m0).2.1 := by
      refine joins_span _ hpos (fun m hm => ((rmix_mem ok hk m).1 hm).2.2.1) ?_ ?_
      · obtain ⟨x, hx, e⟩ := t.lowB ⟨Int.le_refl _, t.b.2.1⟩; exact ⟨_, memof x hx, e⟩
      · obtain ⟨x, hx, e⟩ := t.lowB ⟨t.b.2.1, Int.le_refl _⟩; exact ⟨_, memof x hx, e⟩
    have eC : joinsM rclayM (rMixM g (k : Int)) (rMixM g (k : Int)).length = ((boxesM g).getD k m0).2.2 := by
      refine joins_span _ hpos (fun m hm => ?_) ?_ ?_
      · have hx := (rmix_mem ok hk m).1 hm
        rw [clay_eq (hx.ok3 hgd)]; exact hx.2.2.2
      · obtain ⟨x, hx, e⟩ := t.lowC ⟨Int.le_refl _, t.c.2.1⟩; exact ⟨_, memof x hx, (clof x hx).trans e⟩
      · obtain ⟨x, hx, e⟩ := t.lowC ⟨t.c.2.1, Int.le_refl _⟩; exact ⟨_, memof x hx, (clof x hx).trans e⟩
    rw [eA, eB, eC]
  · rfl
/-! ### classes -/
def anyC (l : List M2) (n : Int) : Bool := l.any fun m => rofM m == n
theorem anyC_snoc (l : List M2) (m : M2) (n : Int) : anyC (l ++ [m]) n = (anyC l n || (rofM m == n)) := by unfold anyC; rw [List.any_append]; simp
theorem cset_bits (l : List M2) : ∀ i, i ≤ l.length → csetM l i = bitsM (anyC (l.take i) 3) (anyC (l.take i) 1) (anyC (l.take i) 2) (anyC (l.take i) 0)
  | 0, _ => rfl
  | i + 1, h => by
    show addM (csetM l i) (rofM (l.getD i (0, 0))) = _
    rw [cset_bits l i (by omega), take_snoc l i h (0, 0), anyC_snoc, anyC_snoc, anyC_snoc, anyC_snoc]
    rcases rof_range (l.getD i (0, 0)) with e | e | e | e
    · rw [e, add0]; simp
    · rw [e, add1]; simp
    · rw [e, add2]; simp
    · rw [e, add3]; simp
theorem class_same (g : GroundT) (a : Int) : classOM g a = rclassOM g a := by
  unfold classOM rclassOM
  rw [check_err g (inM a 0 g.long) .place [a] (by simp [askM])]
  simp only [beq_iff_eq]
  split
  · rename_i h
    obtain ⟨hg, hv, _, _, ht⟩ := check0 h
    have ok := ground_ok hg
    obtain ⟨k, rfl, hk⟩ := place_of ok (inM_iff.1 hv)
    have hgd := (stage2 ok hk).1
    obtain ⟨c3, c1, c2, c0, e, i3, i1, i2, i0⟩ := class_bits hgd
    have hcb := cset_bits (rMixM g (k : Int)) _ (Nat.le_refl _)
    rw [List.take_length] at hcb
    unfold rclassM
    rw [Int.toNat_natCast, e, hcb]
    have key : ∀ (c : Bool) (n : Int), (c = true ↔ ∃ x, Mem ((boxesM g).getD k m0) x ∧ clsM x = n) → c = anyC (rMixM g (k : Int)) n := fun c n hc => by
      have hb : ∀ a b : Bool, (a = true ↔ b = true) → a = b := by decide
      refine hb _ _ ?_
      rw [hc]
      unfold anyC
      rw [List.any_eq_true]
      constructor
      · rintro ⟨x, hx, hn⟩
        have hok := hx.ok3 hgd
        refine ⟨(x.1, x.2.1), (rmix_mem ok hk _).2 (by rw [t3_of hok]; exact hx), ?_⟩
        rw [beq_iff_eq, ← hn]
        unfold rofM clsM
        rw [clay_eq (by rw [t3_of hok]; exact hok), t3_of hok]
      · rintro ⟨m, hm, hn⟩
        have hx := (rmix_mem ok hk m).1 hm
        refine ⟨t3 m, hx, ?_⟩
        rw [beq_iff_eq] at hn
        rw [← hn]
        unfold rofM clsM
        rw [clay_eq (hx.ok3 hgd)]; rfl
    rw [key c3 3 i3, key c1 1 i1, key c2 2 i2, key c0 0 i0]
  · rfl
/-- Where nothing is wrong there are mixes. -/
theorem parts_pre {g : GroundT} {a : Int} (h : rcheckM g (inM a 0 g.long) = 0) : 0 < (rMixM g a).length := by
  obtain ⟨hg, hv, _, _, ht⟩ := check0 h
  have ok := ground_ok hg
  obtain ⟨k, rfl, hk⟩ := place_of ok (inM_iff.1 hv)
  have hl : lookM g = true := by rw [← truth_look ok]; exact ht
  exact (rmix_some ok hk).2 ((look_truth ok).1 hl).2
end AE.Soil

namespace AE.Soil
open Go AE Go.Proofs

def Tlr : Tab UU := [(8, awakeS.con), (7, farGS.con), (9, hardOS.con), (10, rhardS.con), (11, partsOS.con), (12, rpartsS.con), (13, classOS.con), (14, rclassOS.con), (15, workOS.con), (16, rworkS.con)]
theorem Tlr_ok : Tlr.Sound Try.prog := .cons awake_sound (.cons farG_sound (.cons hardO_sound (.cons rhard_sound (.cons partsO_sound (.cons rparts_sound (.cons classO_sound (.cons rclassO_sound (.cons workO_sound (.cons rwork_sound .nil)))))))))
def lawRS : FSpec UU where
  X := GroundT × Int × Int
  pick := fun args H => avGr3 H args
  args := fun x => [vGround x.1 0, .i x.2.1, .i x.2.2]
  H := fun x => [.one (.ro .pit x.1.pits)]
  R := fun _ => .val ⟨.b true, [], [], []⟩
  pre := fun x => x.1.pits.length < 9223372036854775808
set_option maxHeartbeats 0 in
set_option maxRecDepth 100000 in
theorem lawR_ok : ∀ x, lawRS.pre x → FunOk Try.prog 3 (lawRS.args x) (lawRS.H x) (lawRS.R x) := by
  rintro ⟨⟨long, rise, change, ps⟩, a, b⟩ hx
  refine fun_of (T := Tlr) (L := fun _ => none) (hs := fun _ => []) hmix Tlr_ok Try.func3 (by kernel_rfl) (by kernel_rfl) ?_
  refine Eq.mp (α :=
      let Z0 := Value.bool true; let Z1 := Value.bool false; let Z2 := GroundT.mk long rise change ps; let Z3 := List.length ps; let Z4 := Value.int IntKind.i64 change; let Z5 := Value.int IntKind.i64 long; let Z6 := Value.int IntKind.i64 rise; let Z7 := Value.int IntKind.i64 a; let Z8 := Value.int IntKind.i64 b; let Z9 := (0 : Int); let Z10 := (12 : Int); let Z11 := ps = ps; let Z12 := hardOM Z2 a; let Z13 := rhardM Z2 a; let Z14 := partsOM Z2 a; let Z15 := rpartsM Z2 a; let Z16 := classOM Z2 a; let Z17 := rclassOM Z2 a; let Z18 := rworkM Z2 a b; let Z19 := workOM Z2 a b; let Z20 := Z11 ∧ True; let Z21 := Z0 = Z0; let Z22 := Z3 < nat_lit 1000000; let Z23 := Z0 = Z1; let Z24 := Value.int IntKind.i64 Z10; let Z25 := Prod.fst Z16; let Z26 := Prod.snd Z16; let Z27 := Prod.fst Z17; let Z28 := Z3 = Z3; let Z33 := Z7 = Z7; let Z36 := Prod.fst Z13; let Z38 := Prod.fst Z12; let Z41 := Prod.fst Z14; let Z42 := Prod.fst Z15; let Z47 := Prod.fst Z19; let Z49 := Prod.fst Z18; let Z64 := Prod.fst Z42; let Z65 := Prod.snd Z41; let Z66 := Prod.snd Z42; let Z67 := Prod.fst Z41; let Z74 := Prod.snd Z65; let Z76 := Prod.fst Z66; let Z77 := Prod.fst Z65; let Z78 := Prod.snd Z66; let Z80 := True ∧ (Z23 ∧ True) ∧ True ∧ Z20; let Z93 := Z25 == Z27; let Z94 := Z26 == Prod.snd Z17; let Z95 := Prod.snd Z12 == Prod.snd Z13; let Z96 := Prod.snd Z14 == Prod.snd Z15; let Z97 := Prod.snd Z19 == Prod.snd Z18; let Z99 := Prod.fst Z38 == Prod.fst Z36; let Z100 := Prod.fst Z47 == Prod.fst Z49; let Z102 := Prod.snd Z38 == Prod.snd Z36 && true; let Z104 := Prod.snd Z47 == Prod.snd Z49 && true; let Z105 := Z5 = Z5 ∧ Z6 = Z6 ∧ Z4 = Z4 ∧ (nat_lit 0 = nat_lit 0 ∧ nat_lit 0 = nat_lit 0 ∧ Z28) ∧ True; let Z107 := Prod.fst Z67 == Prod.fst Z64; let Z108 := Prod.snd Z67 == Prod.snd Z64 && true; let Z109 := Prod.fst Z74 == Prod.fst Z78; let Z111 := Prod.fst Z77 == Prod.fst Z76; let Z113 := Z105 ∧ Z33 ∧ True; let Z114 := Prod.snd Z74 == Prod.snd Z78 && true; let Z115 := Prod.snd Z77 == Prod.snd Z76 && true; Z3 < nat_lit 9223372036854775808 ∧ (Z105 ∧ Z24 = Z24 ∧ True) ∧ Z20 ∧ (farGM Z2 Z10 = true → True ∧ True ∧ True ∧ True ∧ (Z21 ∧ True) ∧ True ∧ Z20) ∧ (farGM Z2 Z10 = false → Z22 ∧ Z113 ∧ Z20 ∧ Z22 ∧ Z113 ∧ Z20 ∧ Z22 ∧ Z113 ∧ Z20 ∧ (Z22 ∧ (rcheckM Z2 (inM a Z9 long) = Z9 → nat_lit 0 < List.length (rMixM Z2 a))) ∧ Z113 ∧ Z20 ∧ Z22 ∧ Z113 ∧ Z20 ∧ Z22 ∧ Z113 ∧ Z20 ∧ Z22 ∧ (Z105 ∧ Z33 ∧ Z8 = Z8 ∧ True) ∧ Z20 ∧ Z22 ∧ (Z105 ∧ Z33 ∧ Z8 = Z8 ∧ True) ∧ Z20 ∧ ((Z99 && Z102) = true → (Z95 = true → ((Z107 && Z108) = true → ((Z111 && Z115) = true → ((Z109 && Z114) = true → (Z96 = true → (Z93 = true → (Z94 = true → ((Z100 && Z104) = true → (Z97 = true → True ∧ True ∧ True ∧ True ∧ (Z21 ∧ True) ∧ True ∧ Z20) ∧ (Z97 = false → Z80)) ∧ ((Z100 && Z104) = false → Z80)) ∧ (Z94 = false → Z80)) ∧ (Z93 = false → Z80)) ∧ (Z96 = false → Z80)) ∧ ((Z109 && Z114) = false → Z80)) ∧ ((Z111 && Z115) = false → Z80)) ∧ ((Z107 && Z108) = false → Z80)) ∧ (Z95 = false → Z80)) ∧ ((Z99 && Z102) = false → Z80)))
    (by kernel_rfl) ?_
  simp only [eq_self, true_and, and_true, Int.toNat_natCast, Nat.zero_add, Nat.sub_zero, Value.int.injEq, Value.bool.injEq, decide_eq_true_eq, decide_eq_false_iff_not]
  refine ⟨hx, fun _ => trivial, fun hf => ?_⟩
  have hN : ps.length < 1000000 := by
    have h1 : ¬ ((ps.length : Nat) : Int) > 30 := by
      intro h
      have hh : farGM ⟨long, rise, change, ps⟩ 12 = true := by unfold farGM; rw [decide_eq_true h, Bool.true_or]
      rw [hh] at hf; exact absurd hf (by decide)
    omega
  simp only [hard_same, parts_same, class_same, work_same, beq_self_eq_true, Bool.true_and, Bool.and_true]
  simp [hN]
  exact fun h => parts_pre h

end AE.Soil

namespace AE
open Go Go.ChangeShapes Go.WideShapes

theorem Keeps.but {w w' : World} (h : Keeps (fun _ => False) w w') (may : MemPlace → Prop) : w.keptBut w' may := by
  refine ⟨h.os, h.output, fun i hi => ?_⟩
  have hb := h.block i hi fun h => h
  rw [hb]
  exact (World.keptBut_refl w may).2.2 i hi
theorem Keeps.frozen {w w' : World} (h : Keeps (fun _ => False) w w') (a : Addr) (ha : a.block < w.heap.size) : w'.frozen? a = w.frozen? a := by
  unfold World.frozen?
  rw [h.block a.block ha fun h => h]
theorem post_of_keeps {P : Program} {H : Type} {enc : TypeId × Value → H} {f : Func} {s : ChangeSpec} {apart fresh handsOn again : Bool} {W W' : World} {args : Array Value} {v : Value} {ds gs : List (DataW H)} {before pa pv : List MemPlace}
    (hW : DataW.Whole enc P f.params.toList s.vars apart W args.toList ds gs before)
    (hres : ∀ (b : Nat) (sp : Nat → Bool) (hd : Bool), DataW.TrodAll enc P W' b sp hd f.resultTypes.toList (v.resultList f.resultTypes.size) (s.fn H (ds ++ gs)).results [])
    (hargs : ∀ sp : Nat → Bool, (∀ p ∈ before, sp p.block = true) → DataW.TrodAll enc P W' 0 sp true f.params.toList args.toList (s.fn H (ds ++ gs)).args pa)
    (hvars : ∀ sp : Nat → Bool, (∀ p ∈ before, sp p.block = true) → DataW.TrodVars enc P W' sp s.vars (s.fn H (ds ++ gs)).vars pv)
    (hps : before = pa ++ pv) (hk : Keeps (fun _ => False) W W')
    (hok : ∀ (j : Nat) (t : TypeId) (r : Value), f.resultTypes[j]? = some t → (v.resultList f.resultTypes.size)[j]? = some r → Value.okWide P W' .any 0 t r) :
    s.post enc P f apart fresh handsOn again W args v W' := by
  have hlt := hW.lt
  have hold : ∀ p ∈ before, (fun b => decide (b < W.heap.size)) p.block = true := fun p hp => by simpa using hlt p hp
  have hb : ∀ p, p ∈ [] ++ pa ++ pv ↔ p ∈ before := fun p => by rw [hps, List.nil_append]
  refine ⟨ds, gs, before, [], pa, pv, hW, hres _ _ _, hargs _ hold, hvars _ hold, World.keptBut_mono (fun p hp => ⟨hp, ?_⟩) (hk.but _), fun _ => ?_⟩
  · exact Or.inr (List.mem_append.1 (hps ▸ hp))
  · obtain ⟨_, _, _, _, _, hz, hn⟩ := hW
    refine ⟨hok, _, _, [] ++ pa ++ pv, ⟨[] ++ pa, pv, trodAll_append (hargs _ (fun _ _ => rfl)) (hres _ _ _), hvars _ (fun _ _ => rfl), rfl, fun b off hp => ?_, fun ha => ?_⟩, fun p hp _ => (hb p).1 hp⟩
    · have hp' := (hb _).1 hp
      rw [hk.frozen _ (hlt _ hp')]
      exact hz b off hp'
    · have := hn ha
      rwa [hps, ← List.nil_append pa] at this
end AE

namespace AE
open Go Go.ChangeShapes Go.WideShapes Go.RowKit

theorem Keeps.below {w w' : World} (h : Keeps (fun _ => False) w w') : Below w.heap.size w w' :=
  ⟨h.os, h.tape, h.output, h.size, fun k hk => h.block k hk fun e => e⟩

/-- What a cell of a flat type holds. -/
inductive FK where
  | int (k : IntKind)
  | bool
def FK.ok : FK → Value → Prop
  | .int k, v => ∃ n, v = .int k n ∧ (Lit.int k n).wf = true
  | .bool, v => ∃ b, v = .bool b
def FKs : List FK → List Value → Prop
  | [], vs => vs = []
  | k :: ks, vs => ∃ v r, vs = v :: r ∧ k.ok v ∧ FKs ks r
theorem FKs.append : ∀ {a b : List FK} {x y : List Value}, FKs a x → FKs b y → FKs (a ++ b) (x ++ y)
  | [], _, _, _, h, k => by cases h; exact k
  | _ :: _, _, _, _, ⟨v, r, e, h1, h2⟩, k => ⟨v, _, by rw [e]; rfl, h1, h2.append k⟩
theorem FKs.length : ∀ {a : List FK} {x : List Value}, FKs a x → x.length = a.length
  | [], _, h => by cases h; rfl
  | _ :: _, _, ⟨v, r, e, _, h⟩ => by rw [e, List.length_cons, List.length_cons, h.length]

mutual
def flat (P : Program) : Nat → TypeId → Option (List FK)
  | 0, _ => none
  | n + 1, t => match P.underlying t with
    | some .bool => some [.bool]
    | some (.int k) => some [.int k]
    | some (.struct fs) => flatFs P n 0 fs.toList
    | _ => none
def flatFs (P : Program) : Nat → Nat → List Field → Option (List FK)
  | _, _, [] => some []
  | 0, _, _ :: _ => none
  | n + 1, o, f :: fs => match Nat.beq f.offset o, flat P n f.type with
    | true, some l => match Nat.beq (P.cellsOf f.type) l.length, flatFs P n (o + l.length) fs with
      | true, some r => some (l ++ r)
      | _, _ => none
    | _, _ => none
end

section
variable {H : Type} {enc : TypeId × Value → H} {P : Program} {w : World} {base : Nat} {spare : Nat → Bool} {held : Bool}
mutual
theorem flat_ok : ∀ (n : Nat) {t : TypeId} {ks : List FK} {fuel : Nat} {cs : List Value} {x : DataW H × List MemPlace}, flat P n t = some ks → P.cellsOf t = ks.length → DataW.trod enc P w base spare held fuel t cs = some x → FKs ks cs
  | 0, t, ks, fuel, cs, x, h, _, _ => by simp [flat] at h
  | n + 1, t, ks, fuel, cs, x, h, hc, hx => by
    unfold flat at h
    split at h
    · rename_i hu
      cases h
      cases fuel with
      | zero => simp [DataW.trod] at hx
      | succ m =>
        unfold DataW.trod at hx
        rw [hu] at hx
        split at hx <;> first | (simp_all; done) | skip
        rename_i b _ _
        exact ⟨_, _, rfl, ⟨_, rfl⟩, rfl⟩
    · rename_i k hu
      cases h
      cases fuel with
      | zero => simp [DataW.trod] at hx
      | succ m =>
        unfold DataW.trod at hx
        rw [hu] at hx
        split at hx <;> first | (simp_all; done) | skip
        split at hx
        · rename_i k1 _ _ he hh
          have he' : k = k1 := by simpa using he
          subst he'
          obtain ⟨rfl, hh⟩ := hh
          exact ⟨_, _, rfl, ⟨_, rfl, hh⟩, rfl⟩
        · cases hx
    · rename_i fs hu
      obtain ⟨xs, m, _, _, hl, hlen, hf⟩ := DataW.trod_struct hu hx
      have := flatFs_ok n (cs := cs) h (fun f hm => by
        obtain ⟨i, hi, rfl⟩ := List.getElem_of_mem hm
        have h1 : i < fs.size := by simpa using hi
        have h2 := hf i fs[i] (Array.getElem?_eq_getElem h1)
        rw [List.getElem?_eq_getElem (by omega)] at h2
        exact ⟨_, m, by rw [Array.getElem_toList]; exact h2⟩) (by rw [hl, hc]; omega)
      simpa using this
    · cases h
theorem flatFs_ok : ∀ (n : Nat) {o : Nat} {fs : List Field} {ks : List FK} {cs : List Value}, flatFs P n o fs = some ks →
    (∀ f ∈ fs, ∃ y m, DataW.trod enc P w base spare held m f.type ((cs.drop f.offset).take (P.cellsOf f.type)) = some y) → cs.length = o + ks.length → FKs ks (cs.drop o)
  | n, o, [], ks, cs, h, _, hl => by
    have : ks = [] := by cases n <;> simpa [flatFs] using h.symm
    subst this
    show cs.drop o = []
    exact List.drop_eq_nil_of_le (by simpa using Nat.le_of_eq hl)
  | 0, o, f :: fs, ks, cs, h, _, _ => by simp [flatFs] at h
  | n + 1, o, f :: fs, ks, cs, h, hf, hl => by
    unfold flatFs at h
    split at h
    case h_2 => cases h
    rename_i l ho hfl
    split at h
    case h_2 => cases h
    rename_i r hc hr
    cases h
    replace ho := Nat.eq_of_beq_eq_true ho
    replace hc := Nat.eq_of_beq_eq_true hc
    obtain ⟨y, m, hy⟩ := hf f (List.mem_cons_self ..)
    have h1 := flat_ok n hfl hc hy
    have h2 := flatFs_ok n (cs := cs) hr (fun g hg => hf g (List.mem_cons_of_mem _ hg)) (by rw [hl, List.length_append]; omega)
    rw [ho, hc] at h1
    have h3 := h1.append h2
    rw [← List.drop_drop, List.take_append_drop] at h3
    exact h3
end

theorem cells_get {a : Addr} {n : Nat} {cs : List Value} (h : w.cells? base a n = some cs) : cs.length = n ∧ ∀ j, j < n → w.cell? (a.add j) = cs[j]? := by
  unfold World.cells? at h
  split at h
  · exact ⟨by simpa using mapM_some_length h, fun j hj => mapM_some_get h j j (by simp [hj])⟩
  · cases h

theorem cell_spot {a : Addr} {v : Value} (h : w.cell? a = some v) : a.spot = none := by
  unfold World.cell? at h
  split at h
  · split at h
    · cases h
    · rename_i hs; simpa using hs
  · cases h

/-- A slice of flat elements, read as data, is a row of the executor's memory. -/
theorem row_of_trodQ {U : Uni} (c : U.C) (Q : U.ty c → Prop) {t e : TypeId} {ks : List FK} {n fuel : Nat} {v : Value} {x : DataW H × List MemPlace} (ht : P.underlying t = some (.slice e)) (hfl : flat P n e = some ks) (hce : P.cellsOf e = ks.length) (hsz : ks.length = U.sz c) (hpos : 0 < ks.length)
    (hdec : ∀ cs, FKs ks cs → ∃ x, U.enc c x = cs.map .v ∧ Q x) (h : DataW.trod enc P w base spare held fuel t [v] = some x) :
    ∃ (l : List (U.ty c)) (p : Place), l.length < 9223372036854775808 ∧ (∀ x ∈ l, Q x) ∧ (∀ π, BlkOk π w p (.ro c l)) ∧ ∀ (π : Plc) (id k : Nat), π id k = some p → Rep π (.sl id k 0 l.length) v := by
  rcases DataW.trod_slice ht h with ⟨h0, _⟩ | ⟨a, len, cap, elems, rest, m, _, hv, _, hb, hl, hm, hlen, hel, _, _⟩
  · cases h0
    refine ⟨[], ⟨0, 0, U.sz c, none, 0, 0⟩, by simp, fun x hx => by simp at hx, fun π => ⟨rfl, fun i x hi => by simp at hi⟩, fun π id k _ => ?_⟩
    simp only [Rep]
    exact ⟨none, 0, rfl, Nat.le_refl _, fun h => absurd h (Nat.lt_irrefl 0)⟩
  · cases hv
    have each : ∀ i, i < len → ∃ x : U.ty c, Q x ∧ ∀ j a1, (U.enc c x)[j]? = some a1 → ∃ y, w.cell? ((a.add (i * P.cellsOf e)).add j) = some y ∧ a1 = .v y := by
      intro i hi
      have h1 := hel i hi
      rw [List.getElem?_eq_getElem (by omega), Option.bind_eq_some_iff] at h1
      obtain ⟨cs, hcs, htr⟩ := h1
      obtain ⟨hcl, hcg⟩ := cells_get hcs
      obtain ⟨x, hx, hQ⟩ := hdec cs (flat_ok n hfl hce htr)
      refine ⟨x, hQ, fun j a1 hj => ?_⟩
      rw [hx, List.getElem?_map] at hj
      cases hc : cs[j]? with
      | none => rw [hc] at hj; cases hj
      | some y =>
        rw [hc] at hj
        have hjl := (List.getElem?_eq_some_iff.1 hc).1
        exact ⟨y, by rw [hcg j (by omega), hc], by simpa using hj.symm⟩
    have spot : 0 < len → a.spot = none := by
      intro h0
      obtain ⟨x, _, hx⟩ := each 0 h0
      have hl2 := U.len c x
      obtain ⟨y, hy, _⟩ := hx 0 ((U.enc c x)[0]'(by omega)) (List.getElem?_eq_getElem _)
      have h9 : (a.add (0 * P.cellsOf e)).add 0 = a := by simp [Addr.add]
      rw [h9] at hy
      exact cell_spot hy
    have : ∃ l : List (U.ty c), l.length = len ∧ ∀ i x, l[i]? = some x → Q x ∧ ∀ j a1, (U.enc c x)[j]? = some a1 → ∃ y, w.cell? ((a.add (i * P.cellsOf e)).add j) = some y ∧ a1 = .v y := by
      refine ⟨(List.range len).pmap (fun i hi => (each i hi).choose) (fun i hi => List.mem_range.1 hi), by simp, fun i x hi => ?_⟩
      rw [List.getElem?_pmap] at hi
      by_cases h0 : i < len
      · rw [Option.pmap_eq_some_iff] at hi
        obtain ⟨i', h1, h2, rfl⟩ := hi
        have : i' = i := by rw [List.getElem?_range h0] at h2; exact (Option.some.inj h2).symm
        subst this
        exact (each i' h1).choose_spec
      · simp [List.getElem?_eq_none (show (List.range len).length ≤ i by simp; omega)] at hi
    obtain ⟨l, hll, hl2⟩ := this
    have hQl : ∀ x ∈ l, Q x := fun x hx => by
      obtain ⟨i, hi⟩ := List.getElem?_of_mem hx
      exact (hl2 i x hi).1
    have hml : maxLen = 9223372036854775807 := by decide
    refine ⟨l, ⟨a.block, a.off, U.sz c, none, 0, 0⟩, by omega, hQl, fun π => ⟨rfl, fun i x hi j a1 hj => ?_⟩, fun π id k hp => ?_⟩
    · obtain ⟨y, hy, rfl⟩ := (hl2 i x hi).2 j a1 hj
      have hi' := (List.getElem?_eq_some_iff.1 hi).1
      have hs := spot (by omega)
      refine ⟨y, ?_, by simp [Rep]⟩
      rw [← hy]
      congr 1
      cases a
      simp only at hs
      subst hs
      simp only [Addr.add, hce, hsz]
      split <;> split <;> simp_all
    · simp only [Rep]
      refine ⟨some a, cap, by rw [hll], by omega, fun h0 => ⟨_, hp, ?_⟩⟩
      have hs := spot (by omega)
      cases a
      simp only at hs
      subst hs
      simp
/-- A slice of flat elements, read as data, is a row of the executor's memory. -/
theorem row_of_trod {U : Uni} (c : U.C) {t e : TypeId} {ks : List FK} {n fuel : Nat} {v : Value} {x : DataW H × List MemPlace} (ht : P.underlying t = some (.slice e)) (hfl : flat P n e = some ks) (hce : P.cellsOf e = ks.length) (hsz : ks.length = U.sz c) (hpos : 0 < ks.length)
    (hdec : ∀ cs, FKs ks cs → ∃ x, U.enc c x = cs.map .v) (h : DataW.trod enc P w base spare held fuel t [v] = some x) :
    ∃ (l : List (U.ty c)) (p : Place), l.length < 9223372036854775808 ∧ (∀ π, BlkOk π w p (.ro c l)) ∧ ∀ (π : Plc) (id k : Nat), π id k = some p → Rep π (.sl id k 0 l.length) v := by
  obtain ⟨l, p, a, _, b, d⟩ := row_of_trodQ c (fun _ => True) ht hfl hce hsz hpos (fun cs hc => by
    obtain ⟨x, hx⟩ := hdec cs hc
    exact ⟨x, hx, trivial⟩) h
  exact ⟨l, p, a, b, d⟩
end

/-- Rows that are only read, as memory. -/
def rosPlc (ps : List Place) : Plc := fun id k => if k = 0 then ps[id]? else none
theorem rosPlc_fresh (ps : List Place) : Fresh (rosPlc ps) ps.length := by
  intro id k h
  unfold rosPlc
  split
  · rw [List.getElem?_eq_none h]
  · rfl
def roH {U : Uni} (bs : List ((c : U.C) × List (U.ty c))) : Heap U := bs.map fun b => .one (.ro b.1 b.2)
theorem roH_at {U : Uni} {bs : List ((c : U.C) × List (U.ty c))} {id k : Nat} {b : AB1 U} (h : (roH bs).at id k = some b) : k = 0 ∧ ∃ c, bs[id]? = some c ∧ b = .ro c.1 c.2 := by
  unfold Heap.at roH at h
  rw [List.getElem?_map] at h
  cases hb : bs[id]? with
  | none => rw [hb] at h; cases h
  | some c =>
    rw [hb] at h
    simp only [Option.map_some] at h
    split at h
    · rename_i e; exact ⟨e, c, rfl, by simpa using h.symm⟩
    · cases h
theorem roH_conc {U : Uni} {w : World} {bs : List ((c : U.C) × List (U.ty c))} {ps : List Place} (hl : ps.length = bs.length) (h : ∀ (i : Nat) (b : (c : U.C) × List (U.ty c)) (p : Place), bs[i]? = some b → ps[i]? = some p → ∀ π, BlkOk (U := U) π w p (.ro b.1 b.2)) : Conc (rosPlc ps) (roH bs) w where
  ok := fun id k b hb => by
    obtain ⟨rfl, c, hc, rfl⟩ := roH_at hb
    have h1 := (List.getElem?_eq_some_iff.1 hc).1
    refine ⟨ps[id], ?_, h id c _ hc (List.getElem?_eq_getElem (by omega)) _⟩
    unfold rosPlc
    rw [if_pos rfl, List.getElem?_eq_getElem (by omega)]
  sep := fun id k b id' k' b' p p' hb _ _ ho => by
    obtain ⟨rfl, c, hc, rfl⟩ := roH_at hb
    cases ho
theorem roH_length {U : Uni} (bs : List ((c : U.C) × List (U.ty c))) : (roH bs).length = bs.length := by simp [roH]
/-- A call that owns nothing of its memory keeps all that was there. -/
theorem keeps_of_ro {U : Uni} {bs : List ((c : U.C) × List (U.ty c))} {w w' : World} {O : Nat → Prop} (h : Keeps O w w') (hO : ∀ n, ¬ O n) : Keeps (fun _ => False) w w' := h.weaken fun n _ hn => hO n hn

/-- Arguments read in a world that keeps all that was there as they read before. -/
theorem trodAll_stays {H : Type} {enc : TypeId × Value → H} {P : Program} (hl : laidOutB P = true) {W W' : World} {sp' : Nat → Bool} : ∀ {ts : List TypeId} {vs : List Value} {ds : List (DataW H)} {ps : List MemPlace},
    (ts.all fun t => P.readableRec t && decide (t < P.types.size)) = true → DataW.TrodAll enc P W 0 (fun _ => true) true ts vs ds ps → (∀ p ∈ ps, W.sameAt W' p) → (∀ p ∈ ps, sp' p.block = true) → DataW.TrodAll enc P W' 0 sp' true ts vs ds ps
  | [], [], [], _, _, h, _, _ => h
  | _ :: _, _ :: _, _ :: _, _, ht, ⟨p, q, h1, h2, e⟩, hs, hp => by
    simp only [List.all_cons, Bool.and_eq_true, decide_eq_true_eq] at ht
    exact ⟨p, q, WideElems.Trod_stays hl ht.1.1 ht.1.2 h1 (fun x hx => hs x (by rw [e]; exact List.mem_append_left _ hx)) (fun x hx => hp x (by rw [e]; exact List.mem_append_left _ hx)),
      trodAll_stays hl ht.2 h2 (fun x hx => hs x (by rw [e]; exact List.mem_append_right _ hx)) (fun x hx => hp x (by rw [e]; exact List.mem_append_right _ hx)), e⟩

/-- A law without named variables, by its walk: 'it returns true; the arguments read as they did'. -/
theorem law_lifted {C : Checked} {f : FuncId} {fn : Func} {s : ChangeSpec} {conds : List PathCond} (own : ownKnob C.prog.godebug = none) {os : Os} (started : os.Started) {H : Type} {enc : TypeId × Value → H} (noInit : C.prog.inits.idxOf? f = none) (hfn : C.prog.funcs[f]? = some fn)
    (witness : ∃ (w : World) (tape : Tape) (i : Input), w.os = os ∧ (w.forCall tape i).Shaped C.prog ∧ i.vars = [] ∧ Input.okWide C.prog (w.forCall tape i) .any w.heap.size f i ∧ s.pre6 enc C.prog fn conds false (w.forCall tape i).memory i.args ∧ ({} : Assume).holds C.prog (lone (Frame.enter C.prog f i.args .normal) [] (w.forCall tape i)))
    (hl : laidOutB C.prog = true) (hts : (fn.params.toList.all fun t => C.prog.readableRec t && decide (t < C.prog.types.size)) = true) {rt : TypeId} (hrt : fn.resultTypes = #[rt]) (hb : C.prog.underlying rt = some .bool)
    (hvars : s.vars = []) (hspec : ∀ ds : List (DataW H), ds.length = fn.params.size → (s.fn H ds).results = [.lit (.bool true)] ∧ (s.fn H ds).args = ds ∧ (s.fn H ds).vars = [])
    (walk : ∀ (W : World) (args : Array Value) (ds : List (DataW H)) (ps : List MemPlace), DataW.TrodAll enc C.prog W 0 (fun _ => true) true fn.params.toList args.toList ds ps → (∀ (j : Nat) t v, fn.params[j]? = some t → args[j]? = some v → ∃ base, Value.okWide C.prog W .any base t v) →
      Calls C.prog f args W fun e w' => e = .returned (.bool true) ∧ Keeps (fun _ => False) W w') :
    ReturnsInHanded {} C os f .any (s.pre6 enc C.prog fn conds false) (s.post enc C.prog fn false true false false) := by
  refine returnsInHanded_of_change (C := C) own started noInit hfn witness ?_
  intro W base args ds gs before hval hW hcnd _
  have hW' := hW
  obtain ⟨p, q, hA, hV, rfl, hfz, hnd⟩ := hW
  rw [hvars] at hV
  obtain ⟨rfl, rfl⟩ := trodVars_none hV
  simp only [List.append_nil] at hW'
  have hlen : ds.length = fn.params.size := by
    have : ∀ {ts : List TypeId} {vs : List Value} {ds : List (DataW H)} {ps : List MemPlace}, DataW.TrodAll enc C.prog W 0 (fun _ => true) true ts vs ds ps → ds.length = ts.length := by
      intro ts
      induction ts with
      | nil => intro vs ds ps h; obtain ⟨_, rfl, _⟩ := trodAll_nil h; rfl
      | cons t ts ih =>
        intro vs ds ps h
        obtain ⟨_, _, _, ds', _, _, _, rfl, _, _, h2⟩ := trodAll_cons h
        simp [ih h2]
    rw [this hA]; simp
  obtain ⟨s1, s2, s3⟩ := hspec (ds ++ []) (by simpa using hlen)
  refine (walk W args ds p hA fun j t v h1 h2 => ⟨base, hval j t v h1 h2⟩).mono fun e W' ⟨he, hg⟩ => ?_
  subst he
  refine ⟨_, rfl, post_of_keeps (pa := p) (pv := []) hW' (fun b sp hd => ?_) (fun sp hsp => ?_) (fun sp _ => ?_) (by simp) hg ?_⟩
  · rw [s1, hrt]
    exact trodAll_cons_mk (shut_bool hb _) trodAll_mk0
  · rw [s2, List.append_nil]
    have hlt := hW'.lt
    exact trodAll_stays hl hts hA (fun x hx => hg.below.same (by simpa using hlt x hx)) fun x hx => hsp x hx
  · rw [s3, hvars]; rfl
  · exact ok_one hrt rfl (okWide_bool_mk hb _)

theorem agg_of_cells {v : Value} {l : List Value} (h : v.cells.toList = l) (hl : l.length ≠ 1) : v = .agg l.toArray := by
  cases v with
  | agg cs => simp only [Value.cells] at h; rw [← h]
  | _ => simp only [Value.cells] at h; rw [← h] at hl; exact absurd rfl hl
theorem cells_of_one2 {v : Value} {x : Value} (hx : ∀ cs, v ≠ .agg cs) (h : v.cells.toList = [x]) : v = x := by
  cases v with
  | agg cs => exact absurd rfl (hx cs)
  | _ => simpa [Value.cells] using h
/-- A flat value read as data: its cells. -/
theorem flat_cells {H : Type} {enc : TypeId × Value → H} {P : Program} {w : World} {base : Nat} {spare : Nat → Bool} {held : Bool} {t : TypeId} {v : Value} {d : DataW H} {ps : List MemPlace} {ks : List FK} (n : Nat) (hfl : flat P n t = some ks) (hce : P.cellsOf t = ks.length) (h : DataW.Trod enc P w base spare held t v d ps) : FKs ks v.cells.toList := by
  obtain ⟨fuel, h⟩ := h
  exact flat_ok n hfl hce h
theorem flat_agg {H : Type} {enc : TypeId × Value → H} {P : Program} {w : World} {base : Nat} {spare : Nat → Bool} {held : Bool} {t : TypeId} {v : Value} {d : DataW H} {ps : List MemPlace} {ks : List FK} (n : Nat) (hfl : flat P n t = some ks) (hce : P.cellsOf t = ks.length) (hne : ks.length ≠ 1) (h : DataW.Trod enc P w base spare held t v d ps) : ∃ l, FKs ks l ∧ v = .agg l.toArray := by
  have h1 := flat_cells n hfl hce h
  exact ⟨_, h1, agg_of_cells rfl (by rw [h1.length]; exact hne)⟩
theorem RepL.ofV {π : Plc} : ∀ (l : List Value), RepL π (l.map .v) l
  | [] => RepL.nil π
  | x :: l => RepL.cons (by simp [Rep]) (RepL.ofV l)
end AE

namespace AE.Soil
open Go AE Go.Proofs Go.ChangeShapes Go.WideShapes Go.RowKit

theorem laidOut : laidOutB Try.prog = true := by kernel_rfl
theorem flatP : flat Try.prog 30 54 = some [.int .i64, .int .i64, .int .i64, .int .i64, .int .i64, .int .i64, .int .i64, .int .i64, .int .i64] := by kernel_rfl
theorem decP (cs : List Value) (h : FKs [.int .i64, .int .i64, .int .i64, .int .i64, .int .i64, .int .i64, .int .i64, .int .i64, .int .i64] cs) : ∃ x : PitT, CC.enc .pit x = cs.map .v := by
  obtain ⟨_, _, rfl, ⟨a, rfl, _⟩, _, _, rfl, ⟨b, rfl, _⟩, _, _, rfl, ⟨c, rfl, _⟩, _, _, rfl, ⟨d, rfl, _⟩, _, _, rfl, ⟨e, rfl, _⟩, _, _, rfl, ⟨f, rfl, _⟩, _, _, rfl, ⟨g, rfl, _⟩, _, _, rfl, ⟨i, rfl, _⟩, _, _, rfl, ⟨j, rfl, _⟩, h⟩ := h
  cases h
  exact ⟨(a, (b, c), (d, e), (f, g), (i, j)), rfl⟩
theorem in_u8 {n : Int} (h : (Lit.int .u8 n).wf = true) : 0 ≤ n ∧ n ≤ 255 := by
  simp only [Lit.wf, Bool.and_eq_true, decide_eq_true_eq] at h
  have h1 : IntKind.u8.min = 0 := by decide
  have h2 : IntKind.u8.max = 255 := by decide
  omega
theorem in_i16 {n : Int} (h : (Lit.int .i16 n).wf = true) : -32768 ≤ n ∧ n ≤ 32767 := by
  simp only [Lit.wf, Bool.and_eq_true, decide_eq_true_eq] at h
  have h1 : IntKind.i16.min = -32768 := by decide
  have h2 : IntKind.i16.max = 32767 := by decide
  omega
theorem in_i64 {n : Int} (h : (Lit.int .i64 n).wf = true) : -9223372036854775808 ≤ n ∧ n ≤ 9223372036854775807 := by
  simp only [Lit.wf, Bool.and_eq_true, decide_eq_true_eq] at h
  have h1 : IntKind.i64.min = -9223372036854775808 := by decide
  have h2 : IntKind.i64.max = 9223372036854775807 := by decide
  omega
def bigG (g : GroundT) : Prop := g.pits.length < 9223372036854775808

section
variable {H : Type} {enc : TypeId × Value → H} {w : World} {d : DataW H} {ps : List MemPlace} {v : Value}
set_option maxRecDepth 100000 in
theorem open_ground (h : DataW.Trod enc Try.prog w 0 (fun _ => true) true 24 v d ps) :
    ∃ (x : GroundT) (p : Place), bigG x ∧ (∀ π, BlkOk π w p (.ro (U := UU) .pit x.pits)) ∧ ((-9223372036854775808 ≤ x.long ∧ x.long ≤ 9223372036854775807) ∧ (-9223372036854775808 ≤ x.rise ∧ x.rise ≤ 9223372036854775807) ∧ (-9223372036854775808 ≤ x.change ∧ x.change ≤ 9223372036854775807)) ∧ ∀ π : Plc, π 0 0 = some p → Rep π (vGround x 0) v := by
  obtain ⟨fuel, h⟩ := h
  obtain ⟨xs, m, _, _, hl, hlen, hf⟩ := DataW.trod_struct Try.underlying24 h
  have hc : Try.prog.cellsOf 24 = 4 := by kernel_rfl
  have c3 : Try.prog.cellsOf 3 = 1 := by kernel_rfl
  have c22 : Try.prog.cellsOf 22 = 1 := by kernel_rfl
  have fl3 : flat Try.prog 30 3 = some [.int .i64] := by kernel_rfl
  rw [hc] at hl
  have hv := agg_of_cells (v := v) rfl (by omega)
  obtain ⟨l, hl2⟩ : ∃ l, v.cells.toList = l := ⟨_, rfl⟩
  rw [hl2] at hl hv hf
  subst hv
  have hx : ∀ i, i < 4 → ∃ y, xs[i]? = some y := fun i hi => ⟨_, List.getElem?_eq_getElem (by have : xs.length = 4 := hlen; omega)⟩
  match l, hl with
  | [a, b, c, e], _ =>
  obtain ⟨y0, e0⟩ := hx 0 (by omega)
  obtain ⟨y1, e1⟩ := hx 1 (by omega)
  obtain ⟨y2, e2⟩ := hx 2 (by omega)
  obtain ⟨y3, e3⟩ := hx 3 (by omega)
  have f0 : DataW.trod enc Try.prog w 0 (fun _ => true) true m 3 (([a, b, c, e].drop 0).take (Try.prog.cellsOf 3)) = xs[0]? := hf 0 _ rfl
  have f1 : DataW.trod enc Try.prog w 0 (fun _ => true) true m 3 (([a, b, c, e].drop 1).take (Try.prog.cellsOf 3)) = xs[1]? := hf 1 _ rfl
  have f2 : DataW.trod enc Try.prog w 0 (fun _ => true) true m 3 (([a, b, c, e].drop 2).take (Try.prog.cellsOf 3)) = xs[2]? := hf 2 _ rfl
  have f3 : DataW.trod enc Try.prog w 0 (fun _ => true) true m 22 (([a, b, c, e].drop 3).take (Try.prog.cellsOf 22)) = xs[3]? := hf 3 _ rfl
  rw [e0, c3] at f0
  rw [e1, c3] at f1
  rw [e2, c3] at f2
  rw [e3, c22] at f3
  obtain ⟨_, _, h0, ⟨n0, rfl, w0⟩, r0⟩ := flat_ok 30 fl3 c3 f0
  obtain ⟨_, _, h1, ⟨n1, rfl, w1⟩, r1⟩ := flat_ok 30 fl3 c3 f1
  obtain ⟨_, _, h2, ⟨n2, rfl, w2⟩, r2⟩ := flat_ok 30 fl3 c3 f2
  have h0' : a = .int .i64 n0 := (List.cons.inj h0).1
  have h1' : b = .int .i64 n1 := (List.cons.inj h1).1
  have h2' : c = .int .i64 n2 := (List.cons.inj h2).1
  obtain ⟨cs, p, hcs, hp, hpr⟩ := row_of_trod (U := UU) CC.pit Try.underlying22 flatP (by kernel_rfl) rfl (by decide) decP f3
  refine ⟨⟨n0, n1, n2, cs⟩, p, hcs, hp, ⟨in_i64 w0, in_i64 w1, in_i64 w2⟩, fun π h3 => ?_⟩
  subst h0' h1' h2'
  simp only [vGround, Rep]
  exact ⟨_, rfl, RepL.cons (by simp [Rep]) (RepL.cons (by simp [Rep]) (RepL.cons (by simp [Rep]) (RepL.cons (hpr π 0 0 h3) (RepL.nil π))))⟩
end
/-- A law that takes a ground and more: its walk. -/
theorem walk_of {f : FuncId} {W : World} {args : Array Value} {x : GroundT} {p : Place} {al : List AV} (h : FunOk Try.prog f al [.one (.ro (U := UU) .pit x.pits)] (.val ⟨.b true, [], [], []⟩)) (hp : ∀ π, BlkOk π W p (.ro (U := UU) .pit x.pits))
    (hr : RepL (rosPlc [p]) al args.toList) : Calls Try.prog f args W fun e w' => e = .returned (.bool true) ∧ Keeps (fun _ => False) W w' := by
  have hc : Conc (rosPlc [p]) [.one (.ro (U := UU) .pit x.pits)] W := roH_conc (U := UU) (bs := [⟨CC.pit, x.pits⟩]) rfl fun i b p' hb hp' π => by
    match i with
    | 0 => cases hb; cases hp'; exact hp π
    | i + 1 => cases hb
  have hF := h (rosPlc [p]) W args.toList (rosPlc_fresh [p]) hc hr
  refine hF.mono fun e w' hh => ?_
  obtain ⟨v, πn, rfl, hpo⟩ := hh
  have hb := rep_v hpo.rep
  subst hb
  refine ⟨rfl, hpo.keeps.weaken fun n _ hn => ?_⟩
  obtain ⟨id, k, p, b0, hu, _⟩ := hn
  rcases hu with ⟨b, hb⟩ | hb <;> cases hb
end AE.Soil
