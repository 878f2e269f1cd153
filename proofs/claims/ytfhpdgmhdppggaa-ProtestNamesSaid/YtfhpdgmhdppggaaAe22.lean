/- An own symbolic executor: regions whose order is open: frames and memory in whatever order. No condition. -/
import Derived.Test.YtfhpdgmhdppggaaAe21
namespace AE
open Go

variable {U : Uni}

/-! ### memory, place by place -/
theorem upds_congr : ∀ (l : List (Nat × Nat × AB1 U)) {H H' : Heap U} {i : Nat}, H[i]? = H'[i]? → (H.upds l)[i]? = (H'.upds l)[i]?
  | [], H, H', i, h => h
  | (id, k, b) :: l, H, H', i, h => by
    refine upds_congr l (H := H.set id k b) (H' := H'.set id k b) ?_
    unfold Heap.set; rw [setNth_get, setNth_get]; split <;> rw [h]
theorem upds_other : ∀ (l : List (Nat × Nat × AB1 U)) {H : Heap U} {i : Nat}, i ∉ l.map (·.1) → (H.upds l)[i]? = H[i]?
  | [], H, i, _ => rfl
  | (id, k, b) :: l, H, i, h => by
    simp at h
    rw [Heap.upds, upds_other l (by simpa using h.2)]
    unfold Heap.set; rw [setNth_get, if_neg h.1]
theorem kills_congr : ∀ (l : List (Nat × Nat)) {H H' : Heap U} {i : Nat}, H[i]? = H'[i]? → (H.kills l)[i]? = (H'.kills l)[i]?
  | [], H, H', i, h => h
  | (id, k) :: l, H, H', i, h => by
    refine kills_congr l (H := H.kill id) (H' := H'.kill id) ?_
    unfold Heap.kill; rw [setNth_get, setNth_get]; split <;> rw [h]
theorem kills_other : ∀ (l : List (Nat × Nat)) {H : Heap U} {i : Nat}, i ∉ l.map (·.1) → (H.kills l)[i]? = H[i]?
  | [], H, i, _ => rfl
  | (id, k) :: l, H, i, h => by
    simp at h
    rw [Heap.kills, kills_other l (by simpa using h.2)]
    unfold Heap.kill; rw [setNth_get, if_neg h.1]

theorem app_congr {H H' : Heap U} {r : ORes U} {i : Nat} (hl : H.length = H'.length) (h : H[i]? = H'[i]?) : (H.app r)[i]? = (H'.app r)[i]? := by
  unfold Heap.app
  have h1 : ((H.kills r.kill).upds r.upd).length = H.length := by rw [Heap.upds_length, Heap.kills_length]
  have h2 : ((H'.kills r.kill).upds r.upd).length = H'.length := by rw [Heap.upds_length, Heap.kills_length]
  by_cases hi : i < H.length
  · rw [List.getElem?_append_left (by omega), List.getElem?_append_left (by omega)]
    exact upds_congr _ (kills_congr _ h)
  · rw [List.getElem?_append_right (by omega), List.getElem?_append_right (by omega), h1, h2, hl]
theorem app_other {H : Heap U} {r : ORes U} {i : Nat} (hi : i < H.length) (h : i ∉ (EK.done r).mods) : (H.app r)[i]? = H[i]? := by
  unfold Heap.app
  simp only [EK.mods, List.mem_append, not_or] at h
  rw [List.getElem?_append_left (by rw [Heap.upds_length, Heap.kills_length]; exact hi), upds_other _ h.1, kills_other _ h.2]
theorem nones_length : ∀ n, (nones U n).length = n
  | 0 => rfl
  | n + 1 => by simp [nones, nones_length n]
theorem nones_get : ∀ (n i : Nat) (x : AB U), (nones U n)[i]? = some x → x = .none
  | 0, i, x, h => by simp [nones] at h
  | n + 1, 0, x, h => by simp [nones] at h; exact h.symm
  | n + 1, i + 1, x, h => by simp [nones] at h; exact nones_get n i x h

theorem foldH_length {m : Nat → Bool} : ∀ {tbl : List (Ent U)} {i : Nat} {H : Heap U}, (foldH m tbl i H).length = H.length + newSum tbl
  | [], i, H => by simp [foldH, newSum]
  | e :: tbl, i, H => by
    unfold foldH newSum
    rw [foldH_length]
    cases hk : e.k with
    | done r =>
      cases hm : m i with
      | true => simp only [EK.newN]; rw [Heap.app_length]; omega
      | false => simp only [EK.newN]; rw [List.length_append, nones_length]; omega
    | skip => simp only [EK.newN]; omega
    | panic x => simp only [EK.newN]; omega
    | dead => simp only [EK.newN]; omega

theorem newSum_append : ∀ (a b : List (Ent U)), newSum (a ++ b) = newSum a + newSum b
  | [], b => by simp [newSum]
  | e :: a, b => by simp only [List.cons_append, newSum, newSum_append a b]; omega

/-- A place at which two ways through a region may differ: of what is there at less, all is there at more, if what is more turns nothing of it. -/
theorem foldH_le {m m' : Nat → Bool} {id : Nat} {x : AB U} (hx : x ≠ .none) : ∀ {tbl : List (Ent U)} {i : Nat} {H H' : Heap U}, H.length = H'.length →
    (∀ (j : Nat) (e : Ent U), tbl[j]? = some e → m (i + j) = m' (i + j) ∨ (m (i + j) = false ∧ id ∉ e.k.mods)) → (H[id]? = H'[id]? ∨ (H[id]? = some .none)) →
    (foldH m tbl i H)[id]? = some x → (foldH m' tbl i H')[id]? = some x
  | [], i, H, H', hl, _, hh, h => by
    simp only [foldH] at h ⊢
    rcases hh with hh | hh
    · rw [← hh]; exact h
    · rw [hh] at h; simp at h; exact absurd h.symm hx
  | e :: tbl, i, H, H', hl, hd, hh, h => by
    unfold foldH at h ⊢
    have h0 := hd 0 e (by simp)
    simp only [Nat.add_zero] at h0
    have hd' : ∀ (j : Nat) (e : Ent U), tbl[j]? = some e → m (i + 1 + j) = m' (i + 1 + j) ∨ (m (i + 1 + j) = false ∧ id ∉ e.k.mods) := by
      intro j e' he'
      have := hd (j + 1) e' (by simpa using he')
      rwa [show i + (j + 1) = i + 1 + j by omega] at this
    cases hk : e.k with
    | skip => simp only [hk] at h ⊢; exact foldH_le hx hl hd' hh h
    | panic y => simp only [hk] at h ⊢; exact foldH_le hx hl hd' hh h
    | dead => simp only [hk] at h ⊢; exact foldH_le hx hl hd' hh h
    | done r =>
      simp only [hk] at h ⊢
      -- a place that holds nothing goes on to hold nothing
      have stay : ∀ (G : Heap U), G[id]? = some .none → (G.app r)[id]? = some .none := by
        intro G hG
        have hlt : id < G.length := (List.getElem?_eq_some_iff.1 hG).1
        unfold Heap.app
        rw [List.getElem?_append_left (by rw [Heap.upds_length, Heap.kills_length]; exact hlt)]
        have k1 : ∀ (l : List (Nat × Nat)) (G : Heap U), G[id]? = some .none → (G.kills l)[id]? = some .none := by
          intro l; induction l with
          | nil => intro G h; exact h
          | cons y l ih => intro G h; refine ih (G.kill y.1) ?_; unfold Heap.kill; rw [setNth_get]; split <;> simp [h]
        have k2 : ∀ (l : List (Nat × Nat × AB1 U)) (G : Heap U), G[id]? = some .none → (G.upds l)[id]? = some .none := by
          intro l; induction l with
          | nil => intro G h; exact h
          | cons y l ih => intro G h; refine ih (G.set y.1 y.2.1 y.2.2) ?_; unfold Heap.set; rw [setNth_get]; split <;> simp [h, AB.set]
        exact k2 _ _ (k1 _ _ hG)
      rcases h0 with h0 | ⟨h0, h1⟩
      · rw [← h0]
        cases hm : m i with
        | true =>
          simp only [hm] at h
          refine foldH_le hx (by rw [Heap.app_length, Heap.app_length, hl]) hd' ?_ h
          rcases hh with hh | hh
          · exact .inl (app_congr hl hh)
          · exact .inr (stay H hh)
        | false =>
          simp only [hm] at h
          refine foldH_le hx (by simp [hl]) hd' ?_ h
          rcases hh with hh | hh
          · left
            by_cases hi : id < H.length
            · rw [List.getElem?_append_left hi, List.getElem?_append_left (by omega)]; exact hh
            · rw [List.getElem?_append_right (by omega), List.getElem?_append_right (by omega), hl]
          · right; rw [List.getElem?_append_left (List.getElem?_eq_some_iff.1 hh).1]; exact hh
      · simp only [h0] at h
        cases hm' : m' i with
        | false =>
          simp only
          refine foldH_le hx (by simp [hl]) hd' ?_ h
          rcases hh with hh | hh
          · left
            by_cases hi : id < H.length
            · rw [List.getElem?_append_left hi, List.getElem?_append_left (by omega)]; exact hh
            · rw [List.getElem?_append_right (by omega), List.getElem?_append_right (by omega), hl]
          · right; rw [List.getElem?_append_left (List.getElem?_eq_some_iff.1 hh).1]; exact hh
        | true =>
          simp only
          refine foldH_le hx (by rw [Heap.app_length, List.length_append, nones_length, hl]) hd' ?_ h
          rw [hk] at h1
          by_cases hi : id < H.length
          · rw [List.getElem?_append_left hi, app_other (by omega) h1]; exact hh
          · by_cases hi2 : id - H.length < r.new.length
            · right
              rw [List.getElem?_append_right (by omega)]
              have hlt : id - H.length < (nones U r.new.length).length := by rw [nones_length]; exact hi2
              rw [List.getElem?_eq_getElem hlt]
              exact congrArg some (nones_get _ _ _ (List.getElem?_eq_getElem hlt))
            · left
              rw [List.getElem?_eq_none (by rw [List.length_append, nones_length]; omega), List.getElem?_eq_none (by rw [Heap.app_length]; omega)]

/-- One operation more: at a place that it neither turns nor makes, nothing is otherwise; at others, what it made of what lay there. -/
theorem foldH_more {m m' : Nat → Bool} {n : Nat} {r : ORes U} : ∀ {tbl : List (Ent U)} {i : Nat} {H : Heap U} {e : Ent U}, i ≤ n → tbl[n - i]? = some e → e.k = .done r → m n = false → m' n = true → (∀ j, j ≠ n → m' j = m j) →
    (∀ (j : Nat) (ej : Ent U), tbl[j]? = some ej → n < i + j → m (i + j) = true → ∀ id ∈ ej.k.mods, id ∉ e.k.mods ∧ ¬ (H.length + newSum (tbl.take (n - i)) ≤ id ∧ id < H.length + newSum (tbl.take (n - i)) + r.new.length)) →
    ∃ X : Heap U, X.length = H.length + newSum (tbl.take (n - i)) ∧ ∀ id, (id ∈ e.k.mods → id < X.length →
        (foldH m' tbl i H)[id]? = (X.app r)[id]? ∧ (foldH m tbl i H)[id]? = X[id]?) ∧
      ((X.length ≤ id ∧ id < X.length + r.new.length) → (foldH m' tbl i H)[id]? = (X.app r)[id]?) ∧
      (id ∉ e.k.mods → ¬ (X.length ≤ id ∧ id < X.length + r.new.length) → (foldH m' tbl i H)[id]? = (foldH m tbl i H)[id]?)
  | [], i, H, e, hi, he, _, _, _, _, _ => by simp at he
  | e0 :: tbl, i, H, e, hi, he, hk, hm, hm', hmm, hoth => by
    rcases Nat.lt_or_ge i n with hlt | hge
    · -- before it
      have e1 : n - i = (n - (i + 1)) + 1 := by omega
      have he' : tbl[n - (i + 1)]? = some e := by rw [e1] at he; simpa using he
      have hmi : m' i = m i := hmm i (by omega)
      unfold foldH
      rw [hmi]
      generalize hG : (match e0.k with
        | .done r => match m i with
          | true => H.app r
          | false => H ++ nones U r.new.length
        | _ => H) = G
      have hGl : G.length = H.length + e0.k.newN := by
        rw [← hG]
        cases hk0 : e0.k with
        | done r0 =>
          cases hmi2 : m i with
          | true => simp only [EK.newN]; rw [Heap.app_length]
          | false => simp only [EK.newN]; rw [List.length_append, nones_length]
        | skip => simp [EK.newN]
        | panic x => simp [EK.newN]
        | dead => simp [EK.newN]
      have hsum : G.length + newSum (tbl.take (n - (i + 1))) = H.length + newSum ((e0 :: tbl).take (n - i)) := by
        rw [e1, List.take_succ_cons, newSum, hGl]; omega
      obtain ⟨X, hX, hXX⟩ := foldH_more (i := i + 1) (H := G) (m := m) (m' := m') (by omega) he' hk hm hm' hmm (fun j ej hj hnj hmj id hid => by
        have := hoth (j + 1) ej (by simpa using hj) (by omega) (by rw [show i + (j + 1) = i + 1 + j by omega]; exact hmj) id hid
        rw [← hsum] at this; exact this)
      subst hG
      exact ⟨X, by rw [hX, hsum], hXX⟩
    · -- the operation itself
      have hin : i = n := by omega
      subst hin
      simp at he; subst he
      simp only [Nat.sub_self, List.take_zero, newSum, Nat.add_zero] at hoth ⊢
      refine ⟨H, rfl, ?_⟩
      -- behind it both ways go alike
      have after : ∀ (l : List (Ent U)) (k : Nat) (A B : Heap U) (id : Nat), i < k → A.length = B.length → (∀ (j : Nat) (ej : Ent U), l[j]? = some ej → m (k + j) = true → id ∉ ej.k.mods) → id < A.length →
          (foldH m' l k A)[id]? = A[id]? ∧ (foldH m l k B)[id]? = B[id]? := by
        intro l
        induction l with
        | nil => intro k A B id _ _ _ _; exact ⟨rfl, rfl⟩
        | cons e1 l ih =>
          intro k A B id hik hAB hh hid
          have hh' : ∀ (j : Nat) (ej : Ent U), l[j]? = some ej → m (k + 1 + j) = true → id ∉ ej.k.mods := fun j ej hj hmj => hh (j + 1) ej (by simpa using hj) (by rw [show k + (j + 1) = k + 1 + j by omega]; exact hmj)
          have hmk : m' k = m k := hmm k (by omega)
          unfold foldH
          rw [hmk]
          cases hk1 : e1.k with
          | skip => exact ih (k + 1) A B id (by omega) hAB hh' hid
          | panic x => exact ih (k + 1) A B id (by omega) hAB hh' hid
          | dead => exact ih (k + 1) A B id (by omega) hAB hh' hid
          | done r1 =>
            cases hmk2 : m k with
            | true =>
              have hn := hh 0 e1 (by simp) (by simpa using hmk2)
              rw [hk1] at hn
              have := ih (k + 1) (A.app r1) (B.app r1) id (by omega) (by rw [Heap.app_length, Heap.app_length, hAB]) hh' (by rw [Heap.app_length]; omega)
              rw [app_other hid hn, app_other (by omega) hn] at this
              exact this
            | false =>
              have := ih (k + 1) (A ++ nones U r1.new.length) (B ++ nones U r1.new.length) id (by omega) (by simp [hAB]) hh' (by simp; omega)
              rw [List.getElem?_append_left hid, List.getElem?_append_left (by omega)] at this
              exact this
      have same : ∀ (l : List (Ent U)) (k : Nat) (A B : Heap U) (id : Nat), i < k → A.length = B.length → A[id]? = B[id]? → (foldH m' l k A)[id]? = (foldH m l k B)[id]? := by
        intro l
        induction l with
        | nil => intro k A B id _ _ h; exact h
        | cons e1 l ih =>
          intro k A B id hik hAB h
          have hmk : m' k = m k := hmm k (by omega)
          unfold foldH
          rw [hmk]
          cases hk1 : e1.k with
          | skip => exact ih (k + 1) A B id (by omega) hAB h
          | panic x => exact ih (k + 1) A B id (by omega) hAB h
          | dead => exact ih (k + 1) A B id (by omega) hAB h
          | done r1 =>
            cases hmk2 : m k with
            | true => exact ih (k + 1) _ _ id (by omega) (by rw [Heap.app_length, Heap.app_length, hAB]) (app_congr hAB h)
            | false =>
              refine ih (k + 1) _ _ id (by omega) (by simp [hAB]) ?_
              by_cases hid : id < A.length
              · rw [List.getElem?_append_left hid, List.getElem?_append_left (by omega)]; exact h
              · rw [List.getElem?_append_right (by omega), List.getElem?_append_right (by omega), hAB]
      have hlen : (H.app r).length = (H ++ nones U r.new.length).length := by rw [Heap.app_length, List.length_append, nones_length]
      intro id
      unfold foldH
      rw [hk, hm, hm']
      simp only
      have hoth' : (id ∈ (EK.done r).mods ∨ (H.length ≤ id ∧ id < H.length + r.new.length)) → ∀ (j : Nat) (ej : Ent U), tbl[j]? = some ej → m (i + 1 + j) = true → id ∉ ej.k.mods := by
        intro hid j ej hj hmj hin
        have := hoth (j + 1) ej (by simpa using hj) (by omega) (by rw [show i + (j + 1) = i + 1 + j by omega]; exact hmj) id hin
        rw [hk] at this
        rcases hid with h | h
        · exact this.1 h
        · exact this.2 h
      refine ⟨fun hid hlt => ?_, fun hid => ?_, fun hid hr => ?_⟩
      · obtain ⟨h1, h2⟩ := after tbl (i + 1) (H.app r) (H ++ nones U r.new.length) id (by omega) hlen (hoth' (.inl hid)) (by rw [Heap.app_length]; omega)
        exact ⟨h1, by rw [h2, List.getElem?_append_left hlt]⟩
      · exact (after tbl (i + 1) (H.app r) (H ++ nones U r.new.length) id (by omega) hlen (hoth' (.inr hid)) (by rw [Heap.app_length]; omega)).1
      · refine same tbl (i + 1) _ _ id (by omega) hlen ?_
        by_cases hi2 : id < H.length
        · rw [app_other hi2 hid, List.getElem?_append_left hi2]
        · rw [List.getElem?_eq_none (by rw [Heap.app_length]; omega), List.getElem?_eq_none (by rw [List.length_append, nones_length]; omega)]
end AE
