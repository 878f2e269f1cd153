/- The layer 'protest': numbers of the iterator. No condition. -/
import Derived.Test.YtfhpdgmhdppggaaPrC
namespace AE.Pr
open Go AE Go.Proofs

theorem powW (n : Nat) (h : n ≤ 6) : IntKind.u64.wrap (1 * 2 ^ min n 64) = ((2 ^ n : Nat) : Int) := by
  have : ∀ n : Fin 7, IntKind.u64.wrap (1 * 2 ^ min n.val 64) = ((2 ^ n.val : Nat) : Int) := by decide +kernel
  exact this ⟨n, by omega⟩
theorem everyW (n : Nat) (h : n ≤ 6) : IntKind.u64.wrap (everyM n + 1) = ((2 ^ n : Nat) : Int) := by
  have : ∀ n : Fin 7, IntKind.u64.wrap (everyM n.val + 1) = ((2 ^ n.val : Nat) : Int) := by decide +kernel
  exact this ⟨n, by omega⟩
theorem everyB (n : Nat) (h : n ≤ 6) : 0 ≤ everyM n ∧ everyM n < 64 := by
  have : ∀ n : Fin 7, 0 ≤ everyM n.val ∧ everyM n.val < 64 := by decide +kernel
  exact this ⟨n, by omega⟩
theorem sucW (b : Nat) (h : b < 64) : IntKind.u64.wrap ((b : Int) + 1) = ((b + 1 : Nat) : Int) := by
  have : ∀ n : Fin 64, IntKind.u64.wrap ((n.val : Int) + 1) = ((n.val + 1 : Nat) : Int) := by decide +kernel
  exact this ⟨b, h⟩
theorem pow64 (n : Nat) (h : n ≤ 6) : 2 ^ n ≤ 64 := Nat.le_trans (Nat.pow_le_pow_right (by omega) h) (by decide)
theorem dec1 {N b : Nat} (h : b < N) : N - (b + 1) < N - b := by omega
theorem isM_big {x : RT} {heard : Int} {t : Int × Int} (h : popM t.2 > x.1.2.2) : isM x heard t = false := by
  have : decide (popM t.2 ≤ x.1.2.2) = false := by simp; omega
  unfold isM; rw [this]; rfl
theorem isM_says {x : RT} {heard : Int} {t : Int × Int} {k : Nat} (hk : k < x.1.2.1.toNat) (h : sayM x heard t k = false) : isM x heard t = false := by
  have : (List.range x.1.2.1.toNat).all (sayM x heard t) = false := by
    rw [List.all_eq_false]; exact ⟨k, List.mem_range.2 hk, by simp [h]⟩
  unfold isM; rw [this]; simp
theorem isM_known {x : RT} {heard : Int} {t : Int × Int} {j : Nat} (hj : j < x.2.1.length) (h : rightM t (x.2.1.getD j dfW) = false) : isM x heard t = false := by
  have : x.2.1.all (rightM t) = false := by
    rw [List.all_eq_false]
    refine ⟨x.2.1[j], List.getElem_mem hj, ?_⟩
    rw [List.getD_eq_getElem?_getD, List.getElem?_eq_getElem hj] at h
    simpa using h
  unfold isM; rw [this]; simp
theorem isM_true {x : RT} {heard : Int} {t : Int × Int} (h1 : popM t.2 ≤ x.1.2.2) (h2 : ∀ k, k < x.1.2.1.toNat → sayM x heard t k = true) (h3 : ∀ j, j < x.2.1.length → rightM t (x.2.1.getD j dfW) = true) : isM x heard t = true := by
  have a : (List.range x.1.2.1.toNat).all (sayM x heard t) = true := by
    rw [List.all_eq_true]; intro k hk; exact h2 k (List.mem_range.1 hk)
  have b : x.2.1.all (rightM t) = true := by
    rw [List.all_eq_true]
    intro y hy
    obtain ⟨j, hj, rfl⟩ := List.getElem_of_mem hy
    have := h3 j hj
    rwa [List.getD_eq_getElem?_getD, List.getElem?_eq_getElem hj] at this
  unfold isM; rw [a, b]; simp [h1]
theorem sayM_no {x : RT} {heard : Int} {t : Int × Int} {k : Nat} (h1 : hasM heard k = true) (h2 : (!(liesM t (rowK x k) == hasM t.2 k)) = true) : sayM x heard t k = false := by
  unfold sayM; rw [h1, bne, h2]; rfl
theorem sayM_yes {x : RT} {heard : Int} {t : Int × Int} {k : Nat} (h2 : (!(liesM t (rowK x k) == hasM t.2 k)) = false) : sayM x heard t k = true := by
  unfold sayM; rw [bne, h2]; simp
theorem sayM_off {x : RT} {heard : Int} {t : Int × Int} {k : Nat} (h1 : hasM heard k = false) : sayM x heard t k = true := by
  unfold sayM; rw [h1]; rfl
theorem below_succ {p : Nat → Prop} {k : Nat} (h : ∀ j, j < k → p j) (hk : p k) : ∀ j, j < k + 1 → p j := by
  intro j hj
  rcases Nat.lt_or_eq_of_le (Nat.le_of_lt_succ hj) with h1 | rfl
  · exact h j h1
  · exact hk
end AE.Pr
