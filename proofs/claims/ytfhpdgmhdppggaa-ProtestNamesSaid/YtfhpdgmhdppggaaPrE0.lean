/- The layer 'protest': a hearing that was opened. No condition. -/
import Derived.Test.YtfhpdgmhdppggaaPrD
namespace AE.Pr
open Go AE Go.Proofs

/-- A hearing as the program keeps it. -/
abbrev rtM (x : HT) : RT := (x.1, x.2.2, saysM x.2.1 0, saysM x.2.1 1, saysM x.2.1 2, saysM x.2.1 3, saysM x.2.1 4, saysM x.2.1 5)
theorem okW_of {f w : Int} {c : W3} (hf : 0 ≤ f ∧ f ≤ 6) (hw : 0 ≤ w ∧ w ≤ 6) (h : wordM f w c = true) : okW c := by
  unfold wordM inM at h
  rw [Bool.and_eq_true, decide_eq_true_eq, decide_eq_true_eq] at h
  have h2 := h.2
  cases hp : c.1 with
  | true =>
    rw [hp, if_pos rfl] at h2
    have h3 : W (w - 1) = w - 1 := wrap_id (by omega) (by omega)
    rw [h3] at h2
    exact ⟨h.1, by omega⟩
  | false =>
    rw [hp, if_neg (by simp)] at h2
    have h3 : W (f - 1) = f - 1 := wrap_id (by omega) (by omega)
    rw [h3] at h2
    exact ⟨h.1, by omega⟩
theorem says_ok {x : HT} (h : HearOk x) (k : Int) : (saysM x.2.1 k).length < 1000 ∧ ∀ c ∈ saysM x.2.1 k, okCi c := by
  refine ⟨?_, fun c hc => ?_⟩
  · have h1 := saysM_length x.2.1 k
    have h2 := h.cs
    omega
  · unfold saysM at hc
    obtain ⟨d, hd, rfl⟩ := List.mem_map.1 hc
    have hd2 := (mem_ddM _ _).1 (List.mem_filter.1 hd).1
    obtain ⟨_, _, h3, h4⟩ := h.claims d hd2
    refine ⟨okW_of h.f h.w h3, fun hh => okW_of h.f h.w (h4 fun h0 => ?_)⟩
    rcases hh with hh | hh
    · have h5 : d.2.1 = 1 := of_decide_eq_true hh
      omega
    · have h5 : d.2.1 = 2 := of_decide_eq_true hh
      omega
theorem rt_ok {x : HT} (h : HearOk x) : RtOk (rtM x) where
  f := h.f
  w := h.w
  ks := by have := h.ks; show x.2.2.length < 1000; omega
  known := fun c hc => okW_of h.f h.w (h.known c hc)
  rows := fun k => by
    match k with
    | 0 => exact says_ok h 0
    | 1 => exact says_ok h 1
    | 2 => exact says_ok h 2
    | 3 => exact says_ok h 3
    | 4 => exact says_ok h 4
    | 5 => exact says_ok h 5
    | k + 6 => exact ⟨by simp [rowK], fun c hc => by simp [rowK] at hc⟩
/-- All truths of a hearing, if some witnesses are heard. -/
def truthsM (x : HT) (heard : Int) : List (Int × Int) := allM (rtM x) heard
/-- All witnesses. -/
def everyH (x : HT) : Int := everyM x.1.2.1.toNat
def allH (x : HT) : List (Int × Int) := truthsM x (everyH x)
/-- Count: how many truths there are; the error. -/
def countM (x : HT) : Int × Int := if hearM x then (((allH x).length : Int), 0) else (0, 1)
theorem mem_allM {x : RT} (hx : RtOk x) {heard : Int} {t : Int × Int} (h : t ∈ allM x heard) : okT t ∧ isM x heard t = true := by
  unfold allM preM at h
  have key : ∀ a n, a < 64 → n ≤ 64 → t ∈ lineM x heard a n → okT t ∧ isM x heard t = true := by
    intro a n ha hn ht
    unfold lineM at ht
    obtain ⟨b, hb, rfl⟩ := List.mem_map.1 ht
    obtain ⟨hb1, hb2⟩ := List.mem_filter.1 hb
    have hb3 := List.mem_range.1 hb1
    exact ⟨⟨⟨Int.natCast_nonneg _, by show (a : Int) < 64; omega⟩, ⟨Int.natCast_nonneg _, by show (b : Int) < 64; omega⟩⟩, hb2⟩
  rcases List.mem_append.1 h with h | h
  · obtain ⟨a, ha, ht⟩ := List.mem_flatMap.1 h
    have h1 := List.mem_range.1 ha
    have h2 := pow_le hx.f
    exact key a _ (by omega) (pow_le hx.w) ht
  · unfold lineM at h
    simp at h
/-- Was a word not right, was it right, in some truth; what is told of it. -/
def wrongsM (l : List (Int × Int)) (w : W3) : Bool := l.any fun t => !rightM t w
def rightsM (l : List (Int × Int)) (w : W3) : Bool := l.any fun t => rightM t w
def verdictM (l : List (Int × Int)) (w : W3) : Int := if !wrongsM l w && rightsM l w then 2 else if wrongsM l w && !rightsM l w then 0 else 1
def ruleM (x : HT) (w : W3) : Int × Int :=
  if hearM x && wordM x.1.1 x.1.2.1 w then (if ((allH x).length : Int) > 0 then (verdictM (allH x) w, 0) else (0, 10)) else (0, openErrM x)
theorem any_take {α : Type} (p : α → Bool) (l : List α) (i : Nat) (h : i < l.length) (d : α) : (l.take (i + 1)).any p = ((l.take i).any p || p (l.getD i d)) := by
  rw [take_snoc l i h d, List.any_append]; simp
end AE.Pr
