/- An own symbolic executor: regions whose order is open: what one operation more does to frame and memory. No condition. -/
import Derived.Test.YtfhpdgmhdppggaaAe22
namespace AE
open Go

variable {U : Uni}

/-! ### frames -/
theorem foldF_congr {v : Ent U → AV} {m m' : Nat → Bool} {t : Nat} : ∀ {tbl : List (Ent U)} {i : Nat} {fr fr' : Fr}, fr.get t = fr'.get t →
    (∀ (j : Nat) (e : Ent U), tbl[j]? = some e → m (i + j) = m' (i + j) ∨ e.dst ≠ some t) → (foldF v m tbl i fr).get t = (foldF v m' tbl i fr').get t
  | [], i, fr, fr', h, _ => h
  | e :: tbl, i, fr, fr', h, hd => by
    unfold foldF
    have h0 := hd 0 e (by simp)
    simp only [Nat.add_zero] at h0
    refine foldF_congr ?_ (fun j e' he' => by have := hd (j + 1) e' (by simpa using he'); rwa [show i + (j + 1) = i + 1 + j by omega] at this)
    have hput : ∀ (f : Fr), e.dst ≠ some t → (f.put e.dst (v e)).get t = f.get t := by
      intro f hne
      cases hd' : e.dst with
      | none => rfl
      | some d =>
        simp only [Fr.put, Fr.get_cons]
        rw [if_neg (by intro e'; subst e'; exact hne hd')]
    have hput2 : (fr.put e.dst (v e)).get t = (fr'.put e.dst (v e)).get t := by
      cases hd : e.dst with
      | none => exact h
      | some d => simp only [Fr.put, Fr.get_cons]; split <;> first | rfl | exact h
    rcases h0 with h0 | h0
    · rw [h0]; cases m' i with
      | true => exact hput2
      | false => exact h
    · cases m i with
      | true => cases m' i with
        | true => exact hput2
        | false => simp only; rw [hput _ h0]; exact h
      | false => cases m' i with
        | true => simp only; rw [hput _ h0]; exact h
        | false => exact h
theorem foldF_take {v : Ent U → AV} {m : Nat → Bool} {t : Nat} : ∀ {tbl : List (Ent U)} {i n : Nat} {fr : Fr}, (∀ (j : Nat) (e : Ent U), tbl[j]? = some e → n ≤ j → m (i + j) = false ∨ e.dst ≠ some t) → (foldF v m (tbl.take n) i fr).get t = (foldF v m tbl i fr).get t
  | [], i, n, fr, _ => by simp [foldF]
  | e :: tbl, i, 0, fr, h => by
    simp only [List.take_zero]
    have : (foldF v (fun _ => false) (e :: tbl) i fr).get t = fr.get t := by
      have key : ∀ (l : List (Ent U)) (i : Nat) (fr : Fr), foldF v (fun _ => false) l i fr = fr := by
        intro l; induction l with
        | nil => intro i fr; rfl
        | cons x l ih => intro i fr; unfold foldF; exact ih _ _
      rw [key]
    show fr.get t = _
    rw [← this]
    refine foldF_congr rfl fun j e' he' => ?_
    rcases h j e' he' (by omega) with h | h
    · exact .inl h.symm
    · exact .inr h
  | e :: tbl, i, n + 1, fr, h => by
    rw [List.take_succ_cons]
    unfold foldF
    exact foldF_take fun j e' he' hj => by
      have := h (j + 1) e' (by simpa using he') (by omega)
      rwa [show i + (j + 1) = i + 1 + j by omega] at this
/-- The last that writes a slot. -/
theorem foldF_last {v : Ent U → AV} {m : Nat → Bool} {d : Nat} : ∀ {tbl : List (Ent U)} {i n : Nat} {fr : Fr} {e : Ent U}, tbl[n]? = some e → m (i + n) = true → e.dst = some d →
    (∀ (j : Nat) (ej : Ent U), tbl[j]? = some ej → n < j → m (i + j) = true → ej.dst ≠ some d) → (foldF v m tbl i fr).get d = v e
  | [], i, n, fr, e, h, _, _, _ => by simp at h
  | e0 :: tbl, i, 0, fr, e, h, hm, hd, hl => by
    simp at h; subst h
    unfold foldF
    simp only [Nat.add_zero] at hm
    rw [hm, hd]
    have := foldF_take (v := v) (m := m) (t := d) (tbl := tbl) (i := i + 1) (n := 0) (fr := (fr.put (some d) (v e0))) (fun j e' he' _ => by
      cases hmj : m (i + 1 + j) with
      | false => exact .inl rfl
      | true => exact .inr (hl (j + 1) e' (by simpa using he') (by omega) (by rw [show i + (j + 1) = i + 1 + j by omega]; exact hmj)))
    simp only
    rw [← this, List.take_zero]
    show (Fr.put fr (some d) (v e0)).get d = _
    simp [Fr.put, Fr.get_cons]
  | e0 :: tbl, i, n + 1, fr, e, h, hm, hd, hl => by
    unfold foldF
    exact foldF_last (n := n) (by simpa using h) (by rw [show i + 1 + n = i + (n + 1) by omega]; exact hm) hd fun j ej hj hnj hmj => hl (j + 1) ej (by simpa using hj) (by omega) (by rw [show i + (j + 1) = i + 1 + j by omega]; exact hmj)

/-! ### memory -/
theorem app_stay {H : Heap U} {r : ORes U} {id : Nat} (hG : H[id]? = some .none) : (H.app r)[id]? = some .none := by
  have hlt : id < H.length := (List.getElem?_eq_some_iff.1 hG).1
  unfold Heap.app
  rw [List.getElem?_append_left (by rw [Heap.upds_length, Heap.kills_length]; exact hlt)]
  have k1 : ∀ (l : List (Nat × Nat)) (G : Heap U), G[id]? = some .none → (G.kills l)[id]? = some .none := by
    intro l; induction l with
    | nil => intro G h; exact h
    | cons y l ih => intro G h; refine ih (G.kill y.1) ?_; unfold Heap.kill; rw [setNth_get]; split <;> simp [h]
  have k2 : ∀ (l : List (Nat × Nat × AB1 U)) (G : Heap U), G[id]? = some .none → (G.upds l)[id]? = some .none := by
    intro l; induction l with
    | nil => intro G h; exact h
    | cons y l ih => intro G h; refine ih (G.set y.1 y.2.1 y.2.2) ?_; unfold Heap.set; rw [setNth_get]; split <;> simp [h, AB.set]
  exact k2 _ _ (k1 _ _ hG)
theorem foldH_stay {m : Nat → Bool} {id : Nat} : ∀ {tbl : List (Ent U)} {i : Nat} {H : Heap U}, H[id]? = some .none → (foldH m tbl i H)[id]? = some .none
  | [], i, H, h => h
  | e :: tbl, i, H, h => by
    unfold foldH
    refine foldH_stay ?_
    cases e.k with
    | done r => cases m i with
      | true => exact app_stay h
      | false => simp only; rw [List.getElem?_append_left (List.getElem?_eq_some_iff.1 h).1]; exact h
    | skip => exact h
    | panic x => exact h
    | dead => exact h
def stepH (m : Nat → Bool) (i : Nat) (e : Ent U) (H : Heap U) : Heap U :=
  match e.k with
  | .done r => match m i with
    | true => H.app r
    | false => H ++ nones U r.new.length
  | _ => H
theorem foldH_cons {m : Nat → Bool} {i : Nat} {e : Ent U} {tbl : List (Ent U)} {H : Heap U} : foldH m (e :: tbl) i H = foldH m tbl (i + 1) (stepH m i e H) := rfl
theorem stepH_length {m : Nat → Bool} {i : Nat} {e0 : Ent U} {H : Heap U} : (stepH m i e0 H).length = H.length + e0.k.newN := by
  unfold stepH
  cases hk0 : e0.k with
  | done r0 =>
    cases hmi2 : m i with
    | true => simp only [EK.newN]; rw [Heap.app_length]
    | false => simp only [EK.newN]; rw [List.length_append, nones_length]
  | skip => simp [EK.newN]
  | panic x => simp [EK.newN]
  | dead => simp [EK.newN]
/-- What has not been done has made nothing. -/
theorem foldH_none {m : Nat → Bool} {n id : Nat} {r : ORes U} : ∀ {tbl : List (Ent U)} {i : Nat} {H : Heap U} {e : Ent U}, tbl[n]? = some e → e.k = .done r → m (i + n) = false →
    H.length + newSum (tbl.take n) ≤ id → id < H.length + newSum (tbl.take n) + r.new.length → (foldH m tbl i H)[id]? = some .none := by
  induction n with
  | zero =>
    intro tbl i H e h hk hm h1 h2
    cases tbl with
    | nil => simp at h
    | cons e0 tbl =>
      simp at h; subst h
      simp only [List.take_zero, newSum, Nat.add_zero] at h1 h2 hm
      unfold foldH
      rw [hk, hm]
      refine foldH_stay ?_
      simp only
      have hlt : id - H.length < (nones U r.new.length).length := by rw [nones_length]; omega
      rw [List.getElem?_append_right h1, List.getElem?_eq_getElem hlt]
      exact congrArg some (nones_get _ _ _ (List.getElem?_eq_getElem hlt))
  | succ n ih =>
    intro tbl i H e h hk hm h1 h2
    cases tbl with
    | nil => simp at h
    | cons e0 tbl =>
      rw [foldH_cons]
      rw [List.take_succ_cons, newSum] at h1 h2
      exact ih (by simpa using h) hk (by rw [show i + 1 + n = i + (n + 1) by omega]; exact hm) (by rw [stepH_length]; omega) (by rw [stepH_length]; omega)
theorem foldH_same {m m' : Nat → Bool} : ∀ {tbl : List (Ent U)} {i : Nat} {H : Heap U}, (∀ (j : Nat) (e : Ent U), tbl[j]? = some e → m (i + j) = m' (i + j) ∨ ∀ r, e.k ≠ .done r) → foldH m tbl i H = foldH m' tbl i H
  | [], i, H, _ => rfl
  | e :: tbl, i, H, h => by
    have h0 := h 0 e (by simp)
    simp only [Nat.add_zero] at h0
    have : stepH m i e H = stepH m' i e H := by
      unfold stepH
      rcases h0 with h0 | h0
      · rw [h0]
      · cases hk : e.k with
        | done r => exact absurd hk (h0 r)
        | _ => rfl
    rw [foldH_cons, foldH_cons, this]
    exact foldH_same fun j e' he' => by have := h (j + 1) e' (by simpa using he'); rwa [show i + (j + 1) = i + 1 + j by omega] at this
theorem foldH_append {m : Nat → Bool} : ∀ {a b : List (Ent U)} {i : Nat} {H : Heap U}, foldH m (a ++ b) i H = foldH m b (i + a.length) (foldH m a i H)
  | [], b, i, H => by simp [foldH]
  | e :: a, b, i, H => by
    simp only [List.cons_append]
    rw [foldH_cons, foldH_cons, foldH_append, List.length_cons, show i + 1 + a.length = i + (a.length + 1) by omega]
theorem foldH_off {m : Nat → Bool} {id : Nat} : ∀ {tbl : List (Ent U)} {i : Nat} {H : Heap U}, (∀ (j : Nat) (e : Ent U), tbl[j]? = some e → m (i + j) = false) → id < H.length → (foldH m tbl i H)[id]? = H[id]?
  | [], i, H, _, _ => rfl
  | e :: tbl, i, H, h, hl => by
    unfold foldH
    have h0 := h 0 e (by simp)
    simp only [Nat.add_zero] at h0
    rw [h0]
    have h' : ∀ (j : Nat) (e : Ent U), tbl[j]? = some e → m (i + 1 + j) = false := fun j e' he' => by
      have := h (j + 1) e' (by simpa using he'); rwa [show i + (j + 1) = i + 1 + j by omega] at this
    cases e.k with
    | done r => rw [foldH_off h' (by simp; omega)]; simp only; rw [List.getElem?_append_left hl]
    | skip => exact foldH_off h' hl
    | panic x => exact foldH_off h' hl
    | dead => exact foldH_off h' hl
theorem foldH_take {m : Nat → Bool} {id n i : Nat} {tbl : List (Ent U)} {H : Heap U} {x : AB U} (hm : ∀ (j : Nat) (e : Ent U), tbl[j]? = some e → n ≤ j → m (i + j) = false) (h : (foldH m (tbl.take n) i H)[id]? = some x) : (foldH m tbl i H)[id]? = some x := by
  have e : foldH m tbl i H = foldH m (tbl.drop n) (i + (tbl.take n).length) (foldH m (tbl.take n) i H) := by rw [← foldH_append, List.take_append_drop]
  rw [e, foldH_off _ (List.getElem?_eq_some_iff.1 h).1, h]
  intro j e' he'
  rw [List.getElem?_drop] at he'
  have hj := (List.getElem?_eq_some_iff.1 he').1
  have := hm (n + j) e' he' (by omega)
  rw [List.length_take]
  rw [show i + min n tbl.length + j = i + (n + j) by omega]; exact this

/-! ### memory behind one operation more -/
def Turned (H H' : Heap U) (base : Nat) (r : ORes U) : Prop := ∀ id k b, H'.at id k = some b →
  (¬ (base ≤ id ∧ id < base + r.new.length) ∧ (∀ k, (id, k) ∉ r.kill) ∧ ((id, k, b) ∈ r.upd ∨ ((∀ b', (id, k, b') ∉ r.upd) ∧ H.at id k = some b))) ∨
  (base ≤ id ∧ id < base + r.new.length ∧ k = 0 ∧ r.new[id - base]? = some b)

theorem Post.le {H He : Heap U} {base : Nat} {r : ORes U} {π πn : Plc} {w w' : World} {v : Value} (h : Post He base r π πn w w' v) (hl : He.le H) : Post H base r π πn w w' v :=
  ⟨h.rep, h.sub, h.only, fun j b hb => let ⟨a, p, hp, hok, hph⟩ := h.new j b hb; ⟨a, p, hp, hok, fun hp => (hph hp).imp id fun ⟨id, k, b0, q, h1, h2, h3⟩ => ⟨id, k, b0, q, h1, hl _ _ _ h2, h3⟩⟩, h.newsep,
    fun id k b hb => let ⟨b0, p, h1, h2⟩ := h.upd id k b hb; ⟨b0, p, hl _ _ _ h1, h2⟩, fun id k hb => let ⟨b0, h1, h2⟩ := h.kill id k hb; ⟨b0, hl _ _ _ h1, h2⟩,
    h.keeps.weaken fun n _ ⟨id, k, p, b0, h1, h2, h3⟩ => ⟨id, k, p, b0, h1, hl _ _ _ h2, h3⟩⟩

theorem Conc.turned {H H' : Heap U} {base : Nat} {r : ORes U} {π πn : Plc} {w w' : World} {v : Value} (hc : Conc π H w) (hp : Post H base r π πn w w' v) (ht : Turned H H' base r) : Conc πn H' w' := by
  have place : ∀ id k p, πn id k = some p → ¬ (base ≤ id ∧ id < base + r.new.length) → π id k = some p := fun id k p h hi => by rw [← hp.only id k (by omega)]; exact h
  refine ⟨fun id k b hb => ?_, fun id k b id' k' b' p p' hb hb' hne ho hpl hpl' h1 h2 => ?_⟩
  · rcases ht id k b hb with ⟨hi, hkill, hu | ⟨hu, hold⟩⟩ | ⟨hi, hi2, rfl, hn⟩
    · obtain ⟨b0, p, _, _, _, hpl, hok, _⟩ := hp.upd _ _ _ hu
      exact ⟨p, hp.sub _ _ _ hpl, hok⟩
    · obtain ⟨p, hpl, hok⟩ := hc.ok id k b hold
      exact ⟨p, hp.sub _ _ _ hpl, (hok.block fun hph => hp.keepsOld hc hold hu (hkill k) hpl hph).mono hp.sub⟩
    · obtain ⟨_, p, hpl, hok, _⟩ := hp.new _ _ hn
      rw [show base + (id - base) = id by omega] at hpl
      exact ⟨p, hpl, hok⟩
  · -- what an old block was, before
    have old : ∀ id k b p, ¬ (base ≤ id ∧ id < base + r.new.length) → (∀ k, (id, k) ∉ r.kill) → ((id, k, b) ∈ r.upd ∨ ((∀ b, (id, k, b) ∉ r.upd) ∧ H.at id k = some b)) → πn id k = some p → b.phys p →
        ∃ b0, H.at id k = some b0 ∧ π id k = some p ∧ b0.phys p ∧ (b.own = true → b0.own = true) := by
      intro id k b p hi _ hh hpl hph
      have hpl0 := place id k p hpl hi
      rcases hh with hu | ⟨_, hold⟩
      · obtain ⟨b0, q, hb0, ho0, _, hq, _, hphys⟩ := hp.upd _ _ _ hu
        rw [hpl0] at hq; cases hq
        exact ⟨b0, hb0, hpl0, hphys hph, fun _ => ho0⟩
      · exact ⟨b, hold, hpl0, hph, fun h => h⟩
    have newOld : ∀ (j : Nat) (b : AB1 U) (id k : Nat) (p p' : Place), r.new[j]? = some b → πn (base + j) 0 = some p → b.phys p → (∃ b0, H.at id k = some b0 ∧ π id k = some p' ∧ b0.phys p') → (∀ k, (id, k) ∉ r.kill) → p.blk ≠ p'.blk := by
      intro j b id k p p' hn hpl hph ⟨b0, hb0, hpl0, hph0⟩ hkill e
      obtain ⟨_, q, hq, _, hblk⟩ := hp.new _ _ hn
      rw [hpl] at hq; cases hq
      obtain ⟨q0, hq0, hok0⟩ := hc.ok id k b0 hb0
      rw [hpl0] at hq0; cases hq0
      have hlt := hok0.lt hph0
      rcases hblk hph with h | ⟨id2, k2, b2, q2, hm, hb2, ho2, hq2, hph2, e2⟩
      · omega
      · have hne2 : id2 ≠ id := fun h => hkill k2 (h ▸ hm)
        exact hc.sep id2 k2 b2 id k b0 q2 p' hb2 hb0 (.inl hne2) ho2 hq2 hpl0 hph2 hph0 (by rw [e2, e])
    rcases ht id k b hb with ⟨hi, hkill, hh⟩ | ⟨hi, hi2, rfl, hn⟩
    · rcases ht id' k' b' hb' with ⟨hi', hkill', hh'⟩ | ⟨hi', hi2', rfl, hn'⟩
      · obtain ⟨b0, hb0, hq, hph, hown⟩ := old id k b p hi hkill hh hpl h1
        obtain ⟨b0', hb0', hq', hph', _⟩ := old id' k' b' p' hi' hkill' hh' hpl' h2
        exact hc.sep id k b0 id' k' b0' p p' hb0 hb0' hne (hown ho) hq hq' hph hph'
      · obtain ⟨b0, hb0, hq, hph, _⟩ := old id k b p hi hkill hh hpl h1
        rw [show id' = base + (id' - base) by omega] at hpl'
        exact fun e => newOld _ b' id k p' p hn' hpl' h2 ⟨b0, hb0, hq, hph⟩ hkill e.symm
    · rcases ht id' k' b' hb' with ⟨hi', hkill', hh'⟩ | ⟨hi', hi2', rfl, hn'⟩
      · obtain ⟨b0', hb0', hq', hph', _⟩ := old id' k' b' p' hi' hkill' hh' hpl' h2
        rw [show id = base + (id - base) by omega] at hpl
        exact newOld _ b id' k' p p' hn hpl h1 ⟨b0', hb0', hq', hph'⟩ hkill'
      · have hij : id - base ≠ id' - base := by
          rcases hne with h | h
          · omega
          · exact absurd rfl h
        exact hp.newsep _ _ b b' p p' hn hn' hij (by rw [show base + (id - base) = id by omega]; exact hpl) (by rw [show base + (id' - base) = id' by omega]; exact hpl') h1 h2

theorem Owned.turned {H H' : Heap U} {base : Nat} {r : ORes U} {π πn : Plc} {w w' : World} {v : Value} (hp : Post H base r π πn w w' v) (ht : Turned H H' base r) {n : Nat} (h : Owned πn H' n) : Owned π H n ∨ w.heap.size ≤ n := by
  obtain ⟨id, k, b, p, hb, ho, hpl, hph, e⟩ := h
  rcases ht id k b hb with ⟨hi, hkill, hu | ⟨hu, hold⟩⟩ | ⟨hi, hi2, rfl, hn⟩
  · obtain ⟨b0, q, hb0, ho0, _, hq, _, hphys⟩ := hp.upd _ _ _ hu
    have hq' := hp.sub _ _ _ hq
    rw [hpl] at hq'; cases hq'
    exact .inl ⟨id, k, b0, p, hb0, ho0, hq, hphys hph, e⟩
  · rw [hp.only id k (by omega)] at hpl
    exact .inl ⟨id, k, b, p, hold, ho, hpl, hph, e⟩
  · obtain ⟨_, q, hq, _, hblk⟩ := hp.new _ _ hn
    rw [show base + (id - base) = id by omega, hpl] at hq; cases hq
    rcases hblk hph with h | ⟨id2, k2, b2, q2, hm, hb2, ho2, hq2, hph2, e2⟩
    · exact .inr (by omega)
    · exact .inl ⟨id2, k2, b2, q2, hb2, ho2, hq2, hph2, by omega⟩

theorem at_congr {H H' : Heap U} {id k : Nat} (h : H[id]? = H'[id]?) : H.at id k = H'.at id k := by unfold Heap.at; rw [h]

/-- One operation more. -/
theorem foldH_turned {m m' : Nat → Bool} {n base : Nat} {r : ORes U} {tbl : List (Ent U)} {H : Heap U} {e : Ent U} (he : tbl[n]? = some e) (hk : e.k = .done r) (hm : m n = false) (hm' : m' n = true) (hmm : ∀ j, j ≠ n → m' j = m j) (hbase : base = H.length + newSum (tbl.take n))
    (hlt : ∀ id ∈ e.k.mods, id < base)
    (hoth : ∀ (j : Nat) (ej : Ent U), tbl[j]? = some ej → n < j → m j = true → ∀ id ∈ ej.k.mods, id ∉ e.k.mods ∧ ¬ (base ≤ id ∧ id < base + r.new.length)) :
    Turned (foldH m tbl 0 H) (foldH m' tbl 0 H) base r := by
  subst hbase
  obtain ⟨X, hX, hXX⟩ := foldH_more (i := 0) (H := H) (m := m) (m' := m') (n := n) (e := e) (r := r) (tbl := tbl) (by omega) (by simpa using he) hk hm hm' hmm (fun j ej hj hnj hmj id hid => by
    rw [Nat.zero_add] at hnj hmj; exact hoth j ej hj hnj hmj id hid)
  simp only [Nat.sub_zero] at hX
  intro id k b hb
  obtain ⟨h1, h2, h3⟩ := hXX id
  rw [hX] at h1 h2 h3
  by_cases hmod : id ∈ e.k.mods
  · have hl := hlt id hmod
    obtain ⟨ha, hb'⟩ := h1 hmod hl
    rw [at_congr ha] at hb
    rcases Heap.app_at hb with ⟨hi, hkill, hu⟩ | ⟨hi, _, _⟩
    · refine .inl ⟨by omega, hkill, hu.imp (fun h => h) fun ⟨h, h'⟩ => ⟨h, ?_⟩⟩
      rw [at_congr hb']; exact h'
    · omega
  · by_cases hr : H.length + newSum (tbl.take n) ≤ id ∧ id < H.length + newSum (tbl.take n) + r.new.length
    · have ha := h2 hr
      rw [at_congr ha] at hb
      rcases Heap.app_at hb with ⟨hi, _, _⟩ | ⟨hi, h, hn⟩
      · omega
      · rw [hX] at hn; exact .inr ⟨hr.1, hr.2, h, hn⟩
    · have ha := h3 hmod hr
      rw [at_congr ha] at hb
      rw [hk] at hmod
      simp only [EK.mods, List.mem_append, List.mem_map, not_or, not_exists, not_and] at hmod
      exact .inl ⟨hr, fun k hk => hmod.2 (id, k) hk rfl, .inr ⟨fun b' hb' => hmod.1 (id, k, b') hb' rfl, hb⟩⟩
end AE
