/- The layer 'protest': what a hearing is, in plain Lean. No condition. -/
import Derived.Test.YtfhpdgmhdppggaaPrB
namespace AE.Pr
open Go AE

/-- Claims, each one heard once. -/
def ddM (l : List Cl) : List Cl := l.foldl (fun acc c => if c ∈ acc then acc else acc ++ [c]) []
def saysM (l : List Cl) (k : Int) : List Ci := ((ddM l).filter fun c => c.1 == k).map ciM
theorem ddM_snoc (l : List Cl) (c : Cl) : ddM (l ++ [c]) = if c ∈ ddM l then ddM l else ddM l ++ [c] := by
  unfold ddM; rw [List.foldl_append]; rfl
theorem mem_ddM' (c : Cl) : ∀ (l acc : List Cl), c ∈ l.foldl (fun acc c => if c ∈ acc then acc else acc ++ [c]) acc ↔ c ∈ acc ∨ c ∈ l
  | [], acc => by simp
  | d :: l, acc => by
    rw [List.foldl_cons, mem_ddM' c l]
    split
    · rename_i h
      constructor
      · rintro (h1 | h1)
        · exact .inl h1
        · exact .inr (List.mem_cons_of_mem _ h1)
      · rintro (h1 | h1)
        · exact .inl h1
        · rcases List.mem_cons.1 h1 with rfl | h1
          · exact .inl h
          · exact .inr h1
    · simp [or_assoc]
theorem mem_ddM (l : List Cl) (c : Cl) : c ∈ ddM l ↔ c ∈ l := by
  unfold ddM; rw [mem_ddM']; simp
theorem saysM_dup (l : List Cl) (c : Cl) (k : Int) (h : c ∈ l) : saysM (l ++ [c]) k = saysM l k := by
  unfold saysM; rw [ddM_snoc, if_pos ((mem_ddM l c).2 h)]
theorem saysM_new (l : List Cl) (c : Cl) (k : Int) (h : c ∉ l) : saysM (l ++ [c]) k = if c.1 = k then saysM l k ++ [ciM c] else saysM l k := by
  unfold saysM; rw [ddM_snoc, if_neg (fun h1 => h ((mem_ddM l c).1 h1)), List.filter_append, List.map_append]
  by_cases hc : c.1 = k
  · simp [hc]
  · simp [hc]
theorem ddM_length' : ∀ (l acc : List Cl), (l.foldl (fun acc c => if c ∈ acc then acc else acc ++ [c]) acc).length ≤ acc.length + l.length
  | [], acc => by simp
  | d :: l, acc => by
    rw [List.foldl_cons]
    have := ddM_length' l (if d ∈ acc then acc else acc ++ [d])
    have h2 : (if d ∈ acc then acc else acc ++ [d]).length ≤ acc.length + 1 := by split <;> simp
    rw [List.length_cons]; omega
theorem saysM_length (l : List Cl) (k : Int) : (saysM l k).length ≤ l.length := by
  unfold saysM
  rw [List.length_map]
  refine Nat.le_trans (List.length_filter_le _ _) ?_
  have := ddM_length' l []
  simpa [ddM] using this
theorem take_snoc {α : Type} (l : List α) (i : Nat) (h : i < l.length) (d : α) : l.take (i + 1) = l.take i ++ [l.getD i d] := by
  rw [List.take_add_one, List.getD_eq_getElem?_getD, List.getElem?_eq_getElem h]; rfl
theorem mem_take_getD {α : Type} (l : List α) (i : Nat) (d : α) (x : α) (hi : i ≤ l.length) : x ∈ l.take i ↔ ∃ j, j < i ∧ l.getD j d = x := by
  rw [List.mem_take_iff_getElem]
  constructor
  · rintro ⟨j, hj, rfl⟩
    exact ⟨j, by omega, by rw [List.getD_eq_getElem?_getD, List.getElem?_eq_getElem (by omega)]; rfl⟩
  · rintro ⟨j, hj, rfl⟩
    exact ⟨j, by omega, by rw [List.getD_eq_getElem?_getD, List.getElem?_eq_getElem (by omega)]; rfl⟩
/-- What a valid hearing's numbers are. -/
structure HearOk (x : HT) : Prop where
  f : 0 ≤ x.1.1 ∧ x.1.1 ≤ 6
  w : 0 ≤ x.1.2.1 ∧ x.1.2.1 ≤ 6
  l : 0 ≤ x.1.2.2 ∧ x.1.2.2 ≤ x.1.2.1
  cs : x.2.1.length ≤ 14
  ks : x.2.2.length ≤ 4
  claims : ∀ c ∈ x.2.1, (0 ≤ c.2.1 ∧ c.2.1 ≤ 2) ∧ (0 ≤ c.1 ∧ c.1 < x.1.2.1) ∧ wordM x.1.1 x.1.2.1 c.2.2.1 = true ∧ (c.2.1 ≠ 0 → wordM x.1.1 x.1.2.1 c.2.2.2 = true)
  known : ∀ c ∈ x.2.2, wordM x.1.1 x.1.2.1 c = true
theorem hear_ok {x : HT} (h : hearM x = true) : HearOk x := by
  obtain ⟨⟨f, w, li⟩, cs, ks⟩ := x
  simp only [hearM, Bool.and_eq_true, Bool.not_eq_true', List.any_eq_false, decide_eq_true_eq, inM] at h
  obtain ⟨⟨⟨⟨⟨hf, hw⟩, hl⟩, hc, hk⟩, h1⟩, h2⟩ := h
  have hW : W (w - 1) = w - 1 := wrap_id (by omega) (by omega)
  refine ⟨hf, hw, hl, hc, hk, fun c hcm => ?_, fun c hcm => by simpa using h2 c hcm⟩
  have := h1 c hcm
  simp only [badCM, inM, hW, Bool.or_eq_true, Bool.not_eq_true', Bool.and_eq_true, not_or] at this
  obtain ⟨⟨⟨a1, a2⟩, a3⟩, a4⟩ := this
  rw [Bool.not_eq_false, Bool.and_eq_true, decide_eq_true_eq, decide_eq_true_eq] at a1 a2
  rw [Bool.not_eq_false] at a3
  refine ⟨a1, ⟨a2.1, by have := a2.2; show c.1 < w; omega⟩, a3, fun hne => ?_⟩
  by_cases hb : wordM f w c.2.2.2 = true
  · exact hb
  · exact absurd (show (c.2.1 != 0) = true ∧ wordM f w c.2.2.2 = false from ⟨by simpa using hne, by simpa using hb⟩) a4

theorem eqCl (a b : Cl) : (a.1 == b.1 && (a.2.1 == b.2.1 && (a.2.2.1.1 == b.2.2.1.1 && (a.2.2.1.2.1 == b.2.2.1.2.1 && (a.2.2.1.2.2 == b.2.2.1.2.2 && true)) && ((a.2.2.2.1 == b.2.2.2.1 && (a.2.2.2.2.1 == b.2.2.2.2.1 && (a.2.2.2.2.2 == b.2.2.2.2.2 && true))) && true)))) = true ↔ a = b := by
  obtain ⟨a0, a1, ⟨a2, a3, a4⟩, ⟨a5, a6, a7⟩⟩ := a
  obtain ⟨b0, b1, ⟨b2, b3, b4⟩, ⟨b5, b6, b7⟩⟩ := b
  simp only [Bool.and_true, Bool.and_eq_true, beq_iff_eq, Prod.mk.injEq]

/-! ### truths -/
/-- A hearing as the program keeps it: facts, witnesses, liars; what is known; what each witness claims. -/
abbrev RT := (Int × Int × Int) × List W3 × List Ci × List Ci × List Ci × List Ci × List Ci × List Ci
def rowK (x : RT) : Nat → List Ci
  | 0 => x.2.2.1
  | 1 => x.2.2.2.1
  | 2 => x.2.2.2.2.1
  | 3 => x.2.2.2.2.2.1
  | 4 => x.2.2.2.2.2.2.1
  | 5 => x.2.2.2.2.2.2.2
  | _ => []
def claimM (t : Int × Int) (c : Ci) : Bool := if c.1 then rightM t c.2.2.1 || rightM t c.2.2.2 else if c.2.1 then !rightM t c.2.2.1 || rightM t c.2.2.2 else rightM t c.2.2.1
def okCi (c : Ci) : Prop := okW c.2.2.1 ∧ ((c.1 = true ∨ c.2.1 = true) → okW c.2.2.2)
def liesM (t : Int × Int) (l : List Ci) : Bool := l.any fun y => !claimM t y
def tM (a b : Nat) : Int × Int := ((a : Int), (b : Int))
def sayM (x : RT) (heard : Int) (t : Int × Int) (k : Nat) : Bool := !(hasM heard k && (liesM t (rowK x k) != hasM t.2 k))
def isM (x : RT) (heard : Int) (t : Int × Int) : Bool :=
  decide (popM t.2 ≤ x.1.2.2) && (List.range x.1.2.1.toNat).all (sayM x heard t) && x.2.1.all (rightM t)
def lineM (x : RT) (heard : Int) (a n : Nat) : List (Int × Int) := ((List.range n).filter fun b => isM x heard (tM a b)).map fun b => tM a b
def preM (x : RT) (heard : Int) (a b : Nat) : List (Int × Int) := ((List.range a).flatMap fun a => lineM x heard a (2 ^ x.1.2.1.toNat)) ++ lineM x heard a b
def allM (x : RT) (heard : Int) : List (Int × Int) := preM x heard (2 ^ x.1.1.toNat) 0
theorem preM_zero (x : RT) (heard : Int) : preM x heard 0 0 = [] := rfl
theorem preM_line (x : RT) (heard : Int) (a : Nat) : preM x heard a (2 ^ x.1.2.1.toNat) = preM x heard (a + 1) 0 := by
  unfold preM
  rw [List.range_succ, List.flatMap_append]
  simp [lineM]
theorem preM_yes (x : RT) (heard : Int) (a b : Nat) (h : isM x heard (tM a b) = true) : preM x heard a (b + 1) = preM x heard a b ++ [tM a b] := by
  unfold preM lineM
  rw [List.range_succ, List.filter_append, List.map_append]
  simp [h]
theorem preM_no (x : RT) (heard : Int) (a b : Nat) (h : isM x heard (tM a b) = false) : preM x heard a (b + 1) = preM x heard a b := by
  unfold preM lineM
  rw [List.range_succ, List.filter_append, List.map_append]
  simp [h]
theorem lineM_length (x : RT) (heard : Int) (a n : Nat) : (lineM x heard a n).length ≤ n := by
  unfold lineM
  rw [List.length_map]
  exact Nat.le_trans (List.length_filter_le _ _) (by simp)
/-- What is so of a hearing that is looked at. -/
structure RtOk (x : RT) : Prop where
  f : 0 ≤ x.1.1 ∧ x.1.1 ≤ 6
  w : 0 ≤ x.1.2.1 ∧ x.1.2.1 ≤ 6
  ks : x.2.1.length < 1000
  known : ∀ c ∈ x.2.1, okW c
  rows : ∀ k, (rowK x k).length < 1000 ∧ ∀ c ∈ rowK x k, okCi c
theorem pow_le {n : Int} (h : 0 ≤ n ∧ n ≤ 6) : 2 ^ n.toNat ≤ 64 := by
  have : n.toNat ≤ 6 := by omega
  exact Nat.le_trans (Nat.pow_le_pow_right (by omega) this) (by decide)
theorem preM_length (x : RT) (hx : RtOk x) (heard : Int) (a b : Nat) (ha : a ≤ 64) (hb : b ≤ 64) : (preM x heard a b).length ≤ 5000 := by
  unfold preM
  rw [List.length_append, List.length_flatMap]
  have h1 : ((List.range a).map fun a => (lineM x heard a (2 ^ x.1.2.1.toNat)).length).sum ≤ a * 64 := by
    have : ∀ l : List Nat, (l.map fun a => (lineM x heard a (2 ^ x.1.2.1.toNat)).length).sum ≤ l.length * 64 := by
      intro l
      induction l with
      | nil => simp
      | cons y l ih =>
        have h2 := lineM_length x heard y (2 ^ x.1.2.1.toNat)
        have h3 := pow_le hx.w
        simp only [List.map_cons, List.sum_cons, List.length_cons]; omega
    simpa using this (List.range a)
  have h2 := lineM_length x heard a b
  have : a * 64 ≤ 64 * 64 := Nat.mul_le_mul_right _ ha
  omega
end AE.Pr
