/- An own symbolic executor: frames; memory behind an operation; regions in the order of the text. No condition. -/
import Derived.Test.YtfhpdgmhdppggaaAe17
namespace AE
open Go

variable {U : Uni}

abbrev Fr := List (Nat × AV)
def Fr.get : Fr → Nat → AV
  | [], _ => .junk
  | (t, v) :: l, i => match Nat.decEq t i with
    | .isTrue _ => v
    | .isFalse _ => Fr.get l i
def Fr.eval (fr : Fr) : Operand → AV
  | .tmp t => fr.get t
  | .const v => constAV v
  | .func f => .fn (.func f) [] []
  | .global _ => .junk

def FrOk (π : Plc) (fr : Fr) (tmps : Array Value) : Prop := ∀ t, Rep π (fr.get t) (tmps.getD t undef)
theorem FrOk.mono {π π' : Plc} {fr : Fr} {tmps : Array Value} (h : FrOk π fr tmps) (hs : Sub π π') : FrOk π' fr tmps := fun t => (h t).mono hs
theorem FrOk.eval {π : Plc} {fr : Fr} {a : Act} (h : FrOk π fr a.tmps) : ∀ x, Rep π (fr.eval x) (a.eval x)
  | .tmp t => h t
  | .const v => constAV_rep π v
  | .func f => by simp only [Fr.eval, Act.eval, Rep]; exact ⟨#[], #[], rfl, RepL.nil π, RepL.nil π⟩
  | .global g => by simp [Fr.eval, Rep]
theorem Fr.get_cons (t : Nat) (v : AV) (l : Fr) (i : Nat) : Fr.get ((t, v) :: l) i = if t = i then v else l.get i := by
  show (match Nat.decEq t i with
    | .isTrue _ => v
    | .isFalse _ => Fr.get l i) = _
  split
  · rename_i e _; rw [if_pos e]
  · rename_i e _; rw [if_neg e]
theorem FrOk.put {π : Plc} {fr : Fr} {tmps : Array Value} (h : FrOk π fr tmps) {d : Nat} {x : AV} {v : Value} (hx : Rep π x v) (hd : d < tmps.size) : FrOk π ((d, x) :: fr) (tmps.setIfInBounds d v) := by
  intro t
  rw [Fr.get_cons]
  split
  · rename_i e; subst e
    have : (tmps.setIfInBounds d v).getD d undef = v := by simp [Array.getD, hd]
    rw [this]; exact hx
  · rename_i e
    have : (tmps.setIfInBounds d v).getD t undef = tmps.getD t undef := by
      simp only [Array.getD_eq_getD_getElem?, Array.getElem?_setIfInBounds_ne e]
    rw [this]; exact h t
/-- A frame with an operation's result. -/
def Fr.put (fr : Fr) (dst : Option Nat) (x : AV) : Fr :=
  match dst with
  | some d => (d, x) :: fr
  | none => fr
def dstOk (nt : Nat) : Option Nat → Bool
  | some d => Nat.blt d nt
  | none => true
theorem FrOk.putO {π : Plc} {fr : Fr} {a : Act} (h : FrOk π fr a.tmps) {dst : Option Nat} {x : AV} {v : Value} (hx : Rep π x v) (hd : dstOk a.tmps.size dst = true) : FrOk π (fr.put dst x) (a.put dst v).tmps := by
  cases dst with
  | none => exact h
  | some d => exact h.put hx (by simp [dstOk, Nat.blt] at hd; omega)
theorem Act.put_size (a : Act) (dst : Option Nat) (v : Value) : (a.put dst v).tmps.size = a.tmps.size := by cases dst <;> simp [Act.put]
theorem Act.put_defers' (a : Act) (dst : Option Nat) (v : Value) : (a.put dst v).defers = a.defers := by cases dst <;> simp [Act.put]

/-- No place has been given out from a number on. -/
def Fresh (π : Plc) (n : Nat) : Prop := ∀ id k, n ≤ id → π id k = none

theorem Post.keepsOld {H : Heap U} {base : Nat} {r : ORes U} {π πn : Plc} {w w' : World} {v : Value} (hc : Conc π H w) (hp : Post H base r π πn w w' v) {id k : Nat} {b : AB1 U} {p : Place}
    (hb : H.at id k = some b) (hu : ∀ b', (id, k, b') ∉ r.upd) (hk : (id, k) ∉ r.kill) (hpl : π id k = some p) (hph : b.phys p) : w'.heap[p.blk]? = w.heap[p.blk]? := by
  obtain ⟨p0, hp0, hok⟩ := hc.ok id k b hb
  rw [hpl] at hp0; cases hp0
  refine hp.keeps.block _ (hok.lt hph) ?_
  rintro ⟨id', k', q, b0, hm, hb0, hph0, hq, e⟩
  have hne : id ≠ id' ∨ k ≠ k' := by
    by_cases h1 : id = id'
    · by_cases h2 : k = k'
      · subst h1; subst h2
        rcases hm with ⟨b', hm⟩ | hm
        · exact absurd hm (hu b')
        · exact absurd hm hk
      · exact .inr h2
    · exact .inl h1
  have hown : b0.own = true := by
    rcases hm with ⟨b', hm⟩ | hm
    · obtain ⟨b1, _, h1, h2, _⟩ := hp.upd _ _ _ hm
      rw [hb0] at h1; cases h1; exact h2
    · obtain ⟨b1, h1, h2⟩ := hp.kill _ _ hm
      rw [hb0] at h1; cases h1; exact h2
  exact hc.sep id' k' b0 id k b q p hb0 hb (by rcases hne with h | h; exact .inl (Ne.symm h); exact .inr (Ne.symm h)) hown hq hpl hph0 hph e

theorem Conc.app {H : Heap U} {r : ORes U} {π πn : Plc} {w w' : World} {v : Value} (hc : Conc π H w) (hf : Fresh π H.length) (hp : Post H H.length r π πn w w' v) : Conc πn (H.app r) w' ∧ Fresh πn (H.app r).length := by
  have place : ∀ id k p, πn id k = some p → id < H.length → π id k = some p := fun id k p h hi => by rw [← hp.only id k (.inl hi)]; exact h
  refine ⟨⟨fun id k b hb => ?_, fun id k b id' k' b' p p' hb hb' hne ho hpl hpl' h1 h2 => ?_⟩, fun id k hi => ?_⟩
  · rcases Heap.app_at hb with ⟨hi, hkill, hu | ⟨hu, hold⟩⟩ | ⟨hi, rfl, hn⟩
    · obtain ⟨b0, p, _, _, _, hpl, hok, _⟩ := hp.upd _ _ _ hu
      exact ⟨p, hp.sub _ _ _ hpl, hok⟩
    · obtain ⟨p, hpl, hok⟩ := hc.ok id k b hold
      exact ⟨p, hp.sub _ _ _ hpl, (hok.block fun hph => hp.keepsOld hc hold hu (hkill k) hpl hph).mono hp.sub⟩
    · obtain ⟨_, p, hpl, hok, _⟩ := hp.new _ _ hn
      rw [show H.length + (id - H.length) = id by omega] at hpl
      exact ⟨p, hpl, hok⟩
  · -- what an old block was, before
    have old : ∀ id k b p, id < H.length → (∀ k, (id, k) ∉ r.kill) → ((id, k, b) ∈ r.upd ∨ ((∀ b, (id, k, b) ∉ r.upd) ∧ H.at id k = some b)) → πn id k = some p → b.phys p →
        ∃ b0, H.at id k = some b0 ∧ π id k = some p ∧ b0.phys p ∧ (b.own = true → b0.own = true) := by
      intro id k b p hi _ hh hpl hph
      have hpl0 := place id k p hpl hi
      rcases hh with hu | ⟨_, hold⟩
      · obtain ⟨b0, q, hb0, ho0, _, hq, _, hphys⟩ := hp.upd _ _ _ hu
        rw [hpl0] at hq; cases hq
        exact ⟨b0, hb0, hpl0, hphys hph, fun _ => ho0⟩
      · exact ⟨b, hold, hpl0, hph, fun h => h⟩
    have newOld : ∀ (j : Nat) (b : AB1 U) (id k : Nat) (p p' : Place), r.new[j]? = some b → πn (H.length + j) 0 = some p → b.phys p → (∃ b0, H.at id k = some b0 ∧ π id k = some p' ∧ b0.phys p') → (∀ k, (id, k) ∉ r.kill) → p.blk ≠ p'.blk := by
      intro j b id k p p' hn hpl hph ⟨b0, hb0, hpl0, hph0⟩ hkill e
      obtain ⟨_, q, hq, _, hblk⟩ := hp.new _ _ hn
      rw [hpl] at hq; cases hq
      obtain ⟨q0, hq0, hok0⟩ := hc.ok id k b0 hb0
      rw [hpl0] at hq0; cases hq0
      have hlt := hok0.lt hph0
      rcases hblk hph with h | ⟨id2, k2, b2, q2, hm, hb2, ho2, hq2, hph2, e2⟩
      · omega
      · have hne2 : id2 ≠ id := fun h => hkill k2 (h ▸ hm)
        exact hc.sep id2 k2 b2 id k b0 q2 p' hb2 hb0 (.inl hne2) ho2 hq2 hpl0 hph2 hph0 (by rw [e2, e])
    rcases Heap.app_at hb with ⟨hi, hkill, hh⟩ | ⟨hi, rfl, hn⟩
    · rcases Heap.app_at hb' with ⟨hi', hkill', hh'⟩ | ⟨hi', rfl, hn'⟩
      · obtain ⟨b0, hb0, hq, hph, hown⟩ := old id k b p hi hkill hh hpl h1
        obtain ⟨b0', hb0', hq', hph', _⟩ := old id' k' b' p' hi' hkill' hh' hpl' h2
        exact hc.sep id k b0 id' k' b0' p p' hb0 hb0' hne (hown ho) hq hq' hph hph'
      · obtain ⟨b0, hb0, hq, hph, _⟩ := old id k b p hi hkill hh hpl h1
        rw [show id' = H.length + (id' - H.length) by omega] at hpl'
        exact fun e => newOld _ b' id k p' p hn' hpl' h2 ⟨b0, hb0, hq, hph⟩ hkill e.symm
    · rcases Heap.app_at hb' with ⟨hi', hkill', hh'⟩ | ⟨hi', rfl, hn'⟩
      · obtain ⟨b0', hb0', hq', hph', _⟩ := old id' k' b' p' hi' hkill' hh' hpl' h2
        rw [show id = H.length + (id - H.length) by omega] at hpl
        exact newOld _ b id' k' p p' hn hpl h1 ⟨b0', hb0', hq', hph'⟩ hkill'
      · have hij : id - H.length ≠ id' - H.length := by
          rcases hne with h | h
          · omega
          · exact absurd rfl h
        exact hp.newsep _ _ b b' p p' hn hn' hij (by rw [show H.length + (id - H.length) = id by omega]; exact hpl) (by rw [show H.length + (id' - H.length) = id' by omega]; exact hpl') h1 h2
  · rw [Heap.app_length] at hi
    rw [hp.only id k (.inr (by omega))]
    exact hf id k (by omega)

/-- Nothing has turned but what is owned. -/
theorem Post.keepsOwned {H : Heap U} {base : Nat} {r : ORes U} {π πn : Plc} {w w' : World} {v : Value} (hp : Post H base r π πn w w' v) : Keeps (Owned π H) w w' := by
  refine hp.keeps.weaken fun n _ ⟨id, k, p, b0, hm, hb0, hph, hpl, e⟩ => ⟨id, k, b0, p, hb0, ?_, hpl, hph, e⟩
  rcases hm with ⟨b', hm⟩ | hm
  · obtain ⟨b1, _, h1, h2, _⟩ := hp.upd _ _ _ hm
    rw [hb0] at h1; cases h1; exact h2
  · obtain ⟨b1, h1, h2⟩ := hp.kill _ _ hm
    rw [hb0] at h1; cases h1; exact h2

/-- What is owned behind an operation was owned, or is new. -/
theorem Owned.app {H : Heap U} {r : ORes U} {π πn : Plc} {w w' : World} {v : Value} (hp : Post H H.length r π πn w w' v) {n : Nat} (h : Owned πn (H.app r) n) : Owned π H n ∨ w.heap.size ≤ n := by
  obtain ⟨id, k, b, p, hb, ho, hpl, hph, e⟩ := h
  rcases Heap.app_at hb with ⟨hi, hkill, hu | ⟨hu, hold⟩⟩ | ⟨hi, rfl, hn⟩
  · obtain ⟨b0, q, hb0, ho0, _, hq, _, hphys⟩ := hp.upd _ _ _ hu
    have hq' := hp.sub _ _ _ hq
    rw [hpl] at hq'; cases hq'
    exact .inl ⟨id, k, b0, p, hb0, ho0, hq, hphys hph, e⟩
  · rw [hp.only id k (.inl hi)] at hpl
    exact .inl ⟨id, k, b, p, hold, ho, hpl, hph, e⟩
  · obtain ⟨_, q, hq, _, hblk⟩ := hp.new _ _ hn
    rw [show H.length + (id - H.length) = id by omega, hpl] at hq; cases hq
    rcases hblk hph with h | ⟨id2, k2, b2, q2, hm, hb2, ho2, hq2, hph2, e2⟩
    · exact .inr (by omega)
    · exact .inl ⟨id2, k2, b2, q2, hb2, ho2, hq2, hph2, by omega⟩
end AE
