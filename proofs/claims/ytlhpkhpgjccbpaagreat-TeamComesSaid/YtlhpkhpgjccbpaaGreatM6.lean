/- An own symbolic executor for the model's code, and what the functions beneath the law compute, joined out of: SoZ0, SoZ1, SoRC, SoRD0, SoRD, SoRE, SoEA, SoEB, SoRF, TmRA, TmY, TmRB, TmRC, TmRD, TmRE, TmMA, TcA, TcB, TcC, TcD, TmZ, PrR, AeR, SsR, TmAr. No condition. -/
import Derived.Test.YtlhpkhpgjccbpaaGreatM5
import Derived.Test.YtlhpkhpgjccbpaaGreatRows
import Derived.ProofKit
import Derived.OpenShut
import Derived.Below
import Derived.Carry
import Derived.ChangeArms

set_option linter.unusedSimpArgs false
set_option linter.unusedVariables false
set_option maxHeartbeats 0
set_option maxRecDepth 100000
namespace AE.Soil
open Go AE Go.Proofs

abbrev T3 := Int × Int × Int
def Ok3 (x : T3) : Prop := x.1 + x.2.1 + x.2.2 = 20 ∧ 0 ≤ x.1 ∧ 0 ≤ x.2.1 ∧ 0 ≤ x.2.2
def In (s : Span) (n : Int) : Prop := s.1 ≤ n ∧ n ≤ s.2
def Mem (m : Mix3) (x : T3) : Prop := x.1 + x.2.1 + x.2.2 = 20 ∧ In m.1 x.1 ∧ In m.2.1 x.2.1 ∧ In m.2.2 x.2.2
structure Tight (m : Mix3) : Prop where
  a : 0 ≤ m.1.1 ∧ m.1.1 ≤ m.1.2 ∧ m.1.2 ≤ 20
  b : 0 ≤ m.2.1.1 ∧ m.2.1.1 ≤ m.2.1.2 ∧ m.2.1.2 ≤ 20
  c : 0 ≤ m.2.2.1 ∧ m.2.2.1 ≤ m.2.2.2 ∧ m.2.2.2 ≤ 20
  la : 20 ≤ m.1.1 + m.2.1.2 + m.2.2.2
  lb : 20 ≤ m.1.2 + m.2.1.1 + m.2.2.2
  lc : 20 ≤ m.1.2 + m.2.1.2 + m.2.2.1
  ha : m.1.2 + m.2.1.1 + m.2.2.1 ≤ 20
  hb : m.1.1 + m.2.1.2 + m.2.2.1 ≤ 20
  hc : m.1.1 + m.2.1.1 + m.2.2.2 ≤ 20
def Bd1 (n : Int) : Prop := -60 ≤ n ∧ n ≤ 60
structure Bd (m : Mix3) : Prop where
  a : Bd1 m.1.1 ∧ Bd1 m.1.2
  b : Bd1 m.2.1.1 ∧ Bd1 m.2.1.2
  c : Bd1 m.2.2.1 ∧ Bd1 m.2.2.2
def Good (m : Mix3) : Prop := (noneM m = true ∧ Bd m) ∨ Tight m
theorem none_iff (m : Mix3) : noneM m = true ↔ (m.1.1 > m.1.2 ∨ m.2.1.1 > m.2.1.2) ∨ m.2.2.1 > m.2.2.2 := by simp [noneM]
theorem some_iff (m : Mix3) : noneM m = false ↔ m.1.1 ≤ m.1.2 ∧ m.2.1.1 ≤ m.2.1.2 ∧ m.2.2.1 ≤ m.2.2.2 := by
  cases h : noneM m with
  | true => rw [none_iff] at h; constructor <;> intro h2 <;> first | (cases h2; done) | omega
  | false =>
    have : ¬ noneM m = true := by rw [h]; decide
    rw [none_iff] at this
    exact ⟨fun _ => by omega, fun _ => rfl⟩
theorem Tight.some {m : Mix3} (h : Tight m) : noneM m = false := (some_iff m).2 ⟨h.a.2.1, h.b.2.1, h.c.2.1⟩
theorem Tight.bd {m : Mix3} (h : Tight m) : Bd m where
  a := by have := h.a; unfold Bd1; omega
  b := by have := h.b; unfold Bd1; omega
  c := by have := h.c; unfold Bd1; omega
theorem Good.bd {m : Mix3} (h : Good m) : Bd m := by
  rcases h with h | h
  · exact h.2
  · exact h.bd
theorem Good.tight {m : Mix3} (h : Good m) (hs : noneM m = false) : Tight m := by
  rcases h with h | h
  · rw [h.1] at hs; cases hs
  · exact h
theorem pt3 {p1 q1 p2 q2 p3 q3 s : Int} (h1 : p1 ≤ q1) (h2 : p2 ≤ q2) (h3 : p3 ≤ q3) (hl : p1 + p2 + p3 ≤ s) (hh : s ≤ q1 + q2 + q3) : ∃ x : T3, x.1 + x.2.1 + x.2.2 = s ∧ In (p1, q1) x.1 ∧ In (p2, q2) x.2.1 ∧ In (p3, q3) x.2.2 := by
  obtain ⟨a, ha⟩ : ∃ a, a = max p1 (s - q2 - q3) := ⟨_, rfl⟩
  obtain ⟨b, hb⟩ : ∃ b, b = max p2 (s - a - q3) := ⟨_, rfl⟩
  refine ⟨(a, b, s - a - b), ?_, ⟨?_, ?_⟩, ⟨?_, ?_⟩, ?_, ?_⟩ <;> dsimp only <;> omega
theorem Tight.lowA {m : Mix3} (h : Tight m) {v : Int} (hv : In m.1 v) : ∃ x, Mem m x ∧ x.1 = v := by
  obtain ⟨ha, hb, hc, la, lb, lc, ka, kb, kc⟩ := h
  obtain ⟨v1, v2⟩ := hv
  obtain ⟨x, h1, h2, h3, h4⟩ := pt3 (p1 := v) (q1 := v) (p2 := m.2.1.1) (q2 := m.2.1.2) (p3 := m.2.2.1) (q3 := m.2.2.2) (s := 20) (Int.le_refl _) hb.2.1 hc.2.1 (by omega) (by omega)
  have e : x.1 = v := by have := h2.1; have := h2.2; dsimp only at *; omega
  exact ⟨x, ⟨h1, by rw [e]; exact ⟨v1, v2⟩, h3, h4⟩, e⟩
theorem Tight.ex {m : Mix3} (h : Tight m) : ∃ x, Mem m x := by
  obtain ⟨x, hx, _⟩ := h.lowA ⟨Int.le_refl _, h.a.2.1⟩
  exact ⟨x, hx⟩
theorem Mem.some {m : Mix3} {x : T3} (h : Mem m x) : noneM m = false := by
  obtain ⟨_, h1, h2, h3⟩ := h
  exact (some_iff m).2 ⟨Int.le_trans h1.1 h1.2, Int.le_trans h2.1 h2.2, Int.le_trans h3.1 h3.2⟩
theorem Good.ex_iff {m : Mix3} (h : Good m) : noneM m = false ↔ ∃ x, Mem m x := ⟨fun hs => (h.tight hs).ex, fun ⟨_, hx⟩ => hx.some⟩
theorem Mem.ok3 {m : Mix3} (h : Good m) {x : T3} (hx : Mem m x) : Ok3 x := by
  have t := h.tight hx.some
  obtain ⟨h0, h1, h2, h3⟩ := hx
  exact ⟨h0, Int.le_trans t.a.1 h1.1, Int.le_trans t.b.1 h2.1, Int.le_trans t.c.1 h3.1⟩
theorem one_eq {a b c : Span} (hb : Bd1 b.1 ∧ Bd1 b.2) (hc : Bd1 c.1 ∧ Bd1 c.2) : oneM a b c = (max (max 0 a.1) (20 - b.2 - c.2), min (min 20 a.2) (20 - b.1 - c.1)) := by
  obtain ⟨⟨b1, b2⟩, b3, b4⟩ := hb
  obtain ⟨⟨c1, c2⟩, c3, c4⟩ := hc
  unfold oneM
  rw [show W (20 - b.2) = 20 - b.2 from wrap_id (by omega) (by omega), show W (20 - b.1) = 20 - b.1 from wrap_id (by omega) (by omega), show W (20 - b.2 - c.2) = 20 - b.2 - c.2 from wrap_id (by omega) (by omega), show W (20 - b.1 - c.1) = 20 - b.1 - c.1 from wrap_id (by omega) (by omega)]
theorem tight_eq {m : Mix3} (h : Bd m) : tightM m = ((max (max 0 m.1.1) (20 - m.2.1.2 - m.2.2.2), min (min 20 m.1.2) (20 - m.2.1.1 - m.2.2.1)), (max (max 0 m.2.1.1) (20 - m.1.2 - m.2.2.2), min (min 20 m.2.1.2) (20 - m.1.1 - m.2.2.1)), (max (max 0 m.2.2.1) (20 - m.1.2 - m.2.1.2), min (min 20 m.2.2.2) (20 - m.1.1 - m.2.1.1))) := by
  unfold tightM
  rw [one_eq h.b h.c, one_eq h.a h.c, one_eq h.a h.b]
theorem max3 {L a b c : Int} (h : L = max (max a b) c) : a ≤ L ∧ b ≤ L ∧ c ≤ L ∧ (L = a ∨ L = b ∨ L = c) := by omega
theorem min3 {L a b c : Int} (h : L = min (min a b) c) : L ≤ a ∧ L ≤ b ∧ L ≤ c ∧ (L = a ∨ L = b ∨ L = c) := by omega
theorem tight_mem {m : Mix3} (h : Bd m) (x : T3) : Mem (tightM m) x ↔ Mem m x ∧ Ok3 x := by
  rw [tight_eq h]
  unfold Mem Ok3 In
  dsimp only
  simp only [Int.max_le, Int.le_min]
  constructor
  · rintro ⟨h0, h1, h2, h3⟩
    exact ⟨⟨h0, ⟨h1.1.1.2, h1.2.1.2⟩, ⟨h2.1.1.2, h2.2.1.2⟩, ⟨h3.1.1.2, h3.2.1.2⟩⟩, h0, h1.1.1.1, h2.1.1.1, h3.1.1.1⟩
  · rintro ⟨⟨h0, h1, h2, h3⟩, _, h4, h5, h6⟩
    refine ⟨h0, ⟨⟨⟨h4, h1.1⟩, ?_⟩, ⟨?_, h1.2⟩, ?_⟩, ⟨⟨⟨h5, h2.1⟩, ?_⟩, ⟨?_, h2.2⟩, ?_⟩, ⟨⟨h6, h3.1⟩, ?_⟩, ⟨?_, h3.2⟩, ?_⟩ <;> omega
theorem end_lo {a1 a2 b1 b2 c1 c2 La Ha Lb Hb Lc Hc : Int} (la : La = max (max 0 a1) (20 - b2 - c2)) (ha : Ha = min (min 20 a2) (20 - b1 - c1)) (lb : Lb = max (max 0 b1) (20 - a2 - c2)) (hb : Hb = min (min 20 b2) (20 - a1 - c1)) (lc : Lc = max (max 0 c1) (20 - a2 - b2)) (hc : Hc = min (min 20 c2) (20 - a1 - b1))
    (na : La ≤ Ha) (nb : Lb ≤ Hb) (nc : Lc ≤ Hc) : 20 ≤ La + Hb + Hc := by
  obtain ⟨f1, f2, f3, _⟩ := max3 la
  obtain ⟨_, _, f6, _⟩ := min3 ha
  obtain ⟨g1, g2, _, _⟩ := max3 lb
  obtain ⟨_, f9, _, f7⟩ := min3 hb
  obtain ⟨g3, g4, _, _⟩ := max3 lc
  obtain ⟨_, f10, _, f8⟩ := min3 hc
  clear la ha lb hb lc hc
  rcases f7 with e1 | e1 | e1 <;> rcases f8 with e2 | e2 | e2 <;> omega
theorem end_hi {a1 a2 b1 b2 c1 c2 La Ha Lb Hb Lc Hc : Int} (la : La = max (max 0 a1) (20 - b2 - c2)) (ha : Ha = min (min 20 a2) (20 - b1 - c1)) (lb : Lb = max (max 0 b1) (20 - a2 - c2)) (hb : Hb = min (min 20 b2) (20 - a1 - c1)) (lc : Lc = max (max 0 c1) (20 - a2 - b2)) (hc : Hc = min (min 20 c2) (20 - a1 - b1))
    (na : La ≤ Ha) (nb : Lb ≤ Hb) (nc : Lc ≤ Hc) (wb : 0 ≤ b1 ∨ a2 + c1 ≤ 20) (wc : 0 ≤ c1 ∨ a2 + b1 ≤ 20) : Ha + Lb + Lc ≤ 20 := by
  obtain ⟨f1, f2, f3, _⟩ := max3 la
  obtain ⟨h1, h2, h3, _⟩ := min3 ha
  obtain ⟨g1, g2, _, f7⟩ := max3 lb
  obtain ⟨k1, k2, k3, _⟩ := min3 hb
  obtain ⟨g3, g4, _, f8⟩ := max3 lc
  obtain ⟨k4, k5, k6, _⟩ := min3 hc
  clear la ha lb hb lc hc
  rcases f7 with e1 | e1 | e1 <;> rcases f8 with e2 | e2 | e2 <;> omega
theorem six_ends {a1 a2 b1 b2 c1 c2 La Ha Lb Hb Lc Hc : Int} (la : La = max (max 0 a1) (20 - b2 - c2)) (ha : Ha = min (min 20 a2) (20 - b1 - c1)) (lb : Lb = max (max 0 b1) (20 - a2 - c2)) (hb : Hb = min (min 20 b2) (20 - a1 - c1)) (lc : Lc = max (max 0 c1) (20 - a2 - b2)) (hc : Hc = min (min 20 c2) (20 - a1 - b1))
    (na : La ≤ Ha) (nb : Lb ≤ Hb) (nc : Lc ≤ Hc) (wab : 0 ≤ b1 ∨ a2 + c1 ≤ 20) (wac : 0 ≤ c1 ∨ a2 + b1 ≤ 20) (wba : 0 ≤ a1 ∨ b2 + c1 ≤ 20) (wbc : 0 ≤ c1 ∨ b2 + a1 ≤ 20) (wca : 0 ≤ a1 ∨ c2 + b1 ≤ 20) (wcb : 0 ≤ b1 ∨ c2 + a1 ≤ 20) : Tight ((La, Ha), (Lb, Hb), (Lc, Hc)) := by
  have s1 : 20 - c2 - b2 = 20 - b2 - c2 := by omega
  have s2 : 20 - c1 - b1 = 20 - b1 - c1 := by omega
  have s3 : 20 - c2 - a2 = 20 - a2 - c2 := by omega
  have s4 : 20 - c1 - a1 = 20 - a1 - c1 := by omega
  have s5 : 20 - b2 - a2 = 20 - a2 - b2 := by omega
  have s6 : 20 - b1 - a1 = 20 - a1 - b1 := by omega
  have r1 := end_lo la ha lb hb lc hc na nb nc
  have r2 := end_lo (a1 := b1) (a2 := b2) (b1 := a1) (b2 := a2) (c1 := c1) (c2 := c2) lb hb la ha (by rw [s5]; exact lc) (by rw [s6]; exact hc) nb na nc
  have r3 := end_lo (a1 := c1) (a2 := c2) (b1 := a1) (b2 := a2) (c1 := b1) (c2 := b2) lc hc (by rw [s1]; exact la) (by rw [s2]; exact ha) (by rw [s3]; exact lb) (by rw [s4]; exact hb) nc na nb
  have t1 := end_hi la ha lb hb lc hc na nb nc wab wac
  have t2 := end_hi (a1 := b1) (a2 := b2) (b1 := a1) (b2 := a2) (c1 := c1) (c2 := c2) lb hb la ha (by rw [s5]; exact lc) (by rw [s6]; exact hc) nb na nc wba wbc
  have t3 := end_hi (a1 := c1) (a2 := c2) (b1 := a1) (b2 := a2) (c1 := b1) (c2 := b2) lc hc (by rw [s1]; exact la) (by rw [s2]; exact ha) (by rw [s3]; exact lb) (by rw [s4]; exact hb) nc na nb wca wcb
  have f1 := (max3 la).1
  have f2 := (min3 ha).1
  have f3 := (max3 lb).1
  have f4 := (min3 hb).1
  have f5 := (max3 lc).1
  have f6 := (min3 hc).1
  exact ⟨⟨f1, na, f2⟩, ⟨f3, nb, f4⟩, ⟨f5, nc, f6⟩, r1, by show 20 ≤ Ha + Lb + Hc; clear la ha lb hb lc hc; omega, by show 20 ≤ Ha + Hb + Lc; clear la ha lb hb lc hc; omega, t1, by show La + Hb + Lc ≤ 20; clear la ha lb hb lc hc; omega, by show La + Lb + Hc ≤ 20; clear la ha lb hb lc hc; omega⟩
structure Pw (m : Mix3) : Prop where
  ab : 0 ≤ m.2.1.1 ∨ m.1.2 + m.2.2.1 ≤ 20
  ac : 0 ≤ m.2.2.1 ∨ m.1.2 + m.2.1.1 ≤ 20
  ba : 0 ≤ m.1.1 ∨ m.2.1.2 + m.2.2.1 ≤ 20
  bc : 0 ≤ m.2.2.1 ∨ m.2.1.2 + m.1.1 ≤ 20
  ca : 0 ≤ m.1.1 ∨ m.2.2.2 + m.2.1.1 ≤ 20
  cb : 0 ≤ m.2.1.1 ∨ m.2.2.2 + m.1.1 ≤ 20
theorem tight_good {m : Mix3} (h : Bd m) (w : Pw m) (hs : noneM (tightM m) = false) : Tight (tightM m) := by
  rw [tight_eq h] at hs ⊢
  obtain ⟨na, nb, nc⟩ := (some_iff _).1 hs
  exact six_ends rfl rfl rfl rfl rfl rfl na nb nc w.ab w.ac w.ba w.bc w.ca w.cb
theorem tight_bd {m : Mix3} (h : Bd m) (ha : m.1.1 ≤ 20 ∧ 0 ≤ m.1.2) (hb : m.2.1.1 ≤ 20 ∧ 0 ≤ m.2.1.2) (hc : m.2.2.1 ≤ 20 ∧ 0 ≤ m.2.2.2) : Bd (tightM m) := by
  rw [tight_eq h]
  obtain ⟨⟨⟨a1, a2⟩, a3, a4⟩, ⟨⟨b1, b2⟩, b3, b4⟩, ⟨c1, c2⟩, c3, c4⟩ := h
  have up : ∀ x y z : Int, x ≤ 20 → 0 ≤ y → 0 ≤ z → Bd1 (max (max 0 x) (20 - y - z)) := fun x y z _ _ _ => by unfold Bd1; omega
  have dn : ∀ x y z : Int, 0 ≤ x → y ≤ 20 → z ≤ 20 → Bd1 (min (min 20 x) (20 - y - z)) := fun x y z _ _ _ => by unfold Bd1; omega
  exact ⟨⟨up _ _ _ ha.1 hb.2 hc.2, dn _ _ _ ha.2 hb.1 hc.1⟩, ⟨up _ _ _ hb.1 ha.2 hc.2, dn _ _ _ hb.2 ha.1 hc.1⟩, ⟨up _ _ _ hc.1 ha.2 hb.2, dn _ _ _ hc.2 ha.1 hb.1⟩⟩
theorem meet_mem (m o : Mix3) (x : T3) : Mem (meetM m o) x ↔ Mem m x ∧ Mem o x := by
  unfold Mem meetM bothM In
  dsimp only
  constructor
  · rintro ⟨h0, h1, h2, h3⟩
    exact ⟨⟨h0, by omega, by omega, by omega⟩, h0, by omega, by omega, by omega⟩
  · rintro ⟨⟨h0, h1, h2, h3⟩, _, h4, h5, h6⟩
    exact ⟨h0, by omega, by omega, by omega⟩
theorem meet_bd {m o : Mix3} (h : Bd m) (k : Bd o) : Bd (meetM m o) := by
  obtain ⟨ha, hb, hc⟩ := h
  obtain ⟨ka, kb, kc⟩ := k
  unfold Bd1 at *
  constructor <;> unfold meetM bothM Bd1 <;> dsimp only <;> omega
theorem and_mem {m o : Mix3} (h : Good m) (k : Bd o) (x : T3) : Mem (andM m o) x ↔ Mem m x ∧ Mem o x := by
  unfold andM
  by_cases hc : meetM m o = m ∨ noneM (meetM m o) = true
  · rw [if_pos hc]; exact meet_mem m o x
  · rw [if_neg hc, tight_mem (meet_bd h.bd k), meet_mem]
    exact ⟨fun hx => hx.1, fun hx => ⟨hx, hx.1.ok3 h⟩⟩
theorem and_good {m o : Mix3} (h : Good m) (k : Bd o) : Good (andM m o) := by
  unfold andM
  by_cases hc : meetM m o = m ∨ noneM (meetM m o) = true
  · rw [if_pos hc]
    rcases hc with hc | hc
    · rw [hc]; exact h
    · exact .inl ⟨hc, meet_bd h.bd k⟩
  · rw [if_neg hc]
    have hb := meet_bd h.bd k
    have hs : noneM (meetM m o) = false := by simpa using fun h => hc (.inr h)
    obtain ⟨h1, h2, h3⟩ := (some_iff _).1 hs
    have b1 : (meetM m o).1.1 ≤ (meetM m o).1.2 ∧ (meetM m o).1.2 ≤ m.1.2 ∧ m.1.1 ≤ (meetM m o).1.1 := ⟨h1, by unfold meetM bothM; dsimp only; omega, by unfold meetM bothM; dsimp only; omega⟩
    have b2 : (meetM m o).2.1.1 ≤ (meetM m o).2.1.2 ∧ (meetM m o).2.1.2 ≤ m.2.1.2 ∧ m.2.1.1 ≤ (meetM m o).2.1.1 := ⟨h2, by unfold meetM bothM; dsimp only; omega, by unfold meetM bothM; dsimp only; omega⟩
    have b3 : (meetM m o).2.2.1 ≤ (meetM m o).2.2.2 ∧ (meetM m o).2.2.2 ≤ m.2.2.2 ∧ m.2.2.1 ≤ (meetM m o).2.2.1 := ⟨h3, by unfold meetM bothM; dsimp only; omega, by unfold meetM bothM; dsimp only; omega⟩
    have hm : noneM m = false := (some_iff m).2 ⟨by omega, by omega, by omega⟩
    have t := h.tight hm
    have ta := t.a
    have tb := t.b
    have tc := t.c
    cases hn : noneM (tightM (meetM m o)) with
    | false => exact .inr (tight_good hb ⟨.inl (by omega), .inl (by omega), .inl (by omega), .inl (by omega), .inl (by omega), .inl (by omega)⟩ hn)
    | true => exact .inl ⟨hn, tight_bd hb ⟨by omega, by omega⟩ ⟨by omega, by omega⟩ ⟨by omega, by omega⟩⟩
def Near (c : Int) (x y : T3) : Prop := (x.1 - y.1 ≤ c ∧ y.1 - x.1 ≤ c) ∧ (x.2.1 - y.2.1 ≤ c ∧ y.2.1 - x.2.1 ≤ c) ∧ (x.2.2 - y.2.2 ≤ c ∧ y.2.2 - x.2.2 ≤ c)
theorem Near.symm {c : Int} {x y : T3} (h : Near c x y) : Near c y x := ⟨h.1.symm, h.2.1.symm, h.2.2.symm⟩
theorem wide_eq {s : Span} {c : Int} (hs : 0 ≤ s.1 ∧ s.2 ≤ 20) (h2 : s.1 ≤ 20 ∧ 0 ≤ s.2) (hc : 0 ≤ c ∧ c ≤ 20) : wideM s c = (s.1 - c, s.2 + c) := by
  unfold wideM
  rw [show W (s.1 - c) = s.1 - c from wrap_id (by omega) (by omega), show W (s.2 + c) = s.2 + c from wrap_id (by omega) (by omega)]
theorem next_eq {m : Mix3} (h : Tight m) {c : Int} (hc : 0 ≤ c ∧ c ≤ 20) : nextM m c = tightM ((m.1.1 - c, m.1.2 + c), (m.2.1.1 - c, m.2.1.2 + c), (m.2.2.1 - c, m.2.2.2 + c)) := by
  have ta := h.a
  have tb := h.b
  have tc := h.c
  unfold nextM
  rw [h.some, if_neg (by decide), wide_eq ⟨by omega, by omega⟩ ⟨by omega, by omega⟩ hc, wide_eq ⟨by omega, by omega⟩ ⟨by omega, by omega⟩ hc, wide_eq ⟨by omega, by omega⟩ ⟨by omega, by omega⟩ hc]
theorem next_bd {m : Mix3} (h : Tight m) {c : Int} (hc : 0 ≤ c ∧ c ≤ 20) : Bd ((m.1.1 - c, m.1.2 + c), (m.2.1.1 - c, m.2.1.2 + c), (m.2.2.1 - c, m.2.2.2 + c)) := by
  have ta := h.a
  have tb := h.b
  have tc := h.c
  constructor <;> unfold Bd1 <;> dsimp only <;> omega
theorem cut2 {l h y c : Int} (h0 : l ≤ h) (h1 : l - c ≤ y) (h2 : y ≤ h + c) (hc : 0 ≤ c) : ∃ p q : Int, l ≤ p ∧ y - c ≤ p ∧ q ≤ h ∧ q ≤ y + c ∧ (p = l ∨ p = y - c) ∧ (q = h ∨ q = y + c) ∧ p ≤ q := ⟨max l (y - c), min h (y + c), by omega, by omega, by omega, by omega, by omega, by omega, by omega⟩
theorem next_mem {m : Mix3} (h : Good m) {c : Int} (hc : 0 ≤ c ∧ c ≤ 20) (y : T3) : Mem (nextM m c) y ↔ Ok3 y ∧ ∃ x, Mem m x ∧ Near c x y := by
  cases hs : noneM m with
  | true =>
    have e : nextM m c = m := by unfold nextM; rw [hs]; rfl
    rw [e]
    constructor
    · intro hy; have := hy.some; rw [hs] at this; cases this
    · rintro ⟨_, x, hx, _⟩; have := hx.some; rw [hs] at this; cases this
  | false =>
    have t := h.tight hs
    rw [next_eq t hc, tight_mem (next_bd t hc)]
    constructor
    · rintro ⟨⟨h0, ⟨h1, h2⟩, ⟨h3, h4⟩, h5, h6⟩, hy⟩
      refine ⟨hy, ?_⟩
      dsimp only at h1 h2 h3 h4 h5 h6
      obtain ⟨ta, tb, tc, la, lb, lc, ka, kb, kc⟩ := t
      obtain ⟨p1, q1, a1, a2, a3, a4, g1, k1, r1⟩ := cut2 (y := y.1) ta.2.1 h1 h2 hc.1
      obtain ⟨p2, q2, b1, b2, b3, b4, g2, k2, r2⟩ := cut2 (y := y.2.1) tb.2.1 h3 h4 hc.1
      obtain ⟨p3, q3, c1, c2, c3, c4, g3, k3, r3⟩ := cut2 (y := y.2.2) tc.2.1 h5 h6 hc.1
      have hy1 := hy.1
      have rl : p1 + p2 + p3 ≤ 20 := by
        clear k1 k2 k3 r1 r2 r3 a1 a2 a3 a4 b1 b2 b3 b4 c1 c2 c3 c4
        rcases g1 with g1 | g1 <;> rcases g2 with g2 | g2 <;> rcases g3 with g3 | g3 <;> omega
      have rh : 20 ≤ q1 + q2 + q3 := by
        clear g1 g2 g3 r1 r2 r3 rl a1 a2 a3 a4 b1 b2 b3 b4 c1 c2 c3 c4
        rcases k1 with k1 | k1 <;> rcases k2 with k2 | k2 <;> rcases k3 with k3 | k3 <;> omega
      obtain ⟨x, x0, ⟨x1, x2⟩, ⟨x3, x4⟩, x5, x6⟩ := pt3 r1 r2 r3 rl rh
      dsimp only at x1 x2 x3 x4 x5 x6
      exact ⟨x, ⟨x0, ⟨by omega, by omega⟩, ⟨by omega, by omega⟩, by omega, by omega⟩, ⟨by omega, by omega⟩, ⟨by omega, by omega⟩, by omega, by omega⟩
    · rintro ⟨hy, x, ⟨x0, ⟨x1, x2⟩, ⟨x3, x4⟩, x5, x6⟩, ⟨n1, n2⟩, ⟨n3, n4⟩, n5, n6⟩
      exact ⟨⟨hy.1, ⟨by dsimp only; omega, by dsimp only; omega⟩, ⟨by dsimp only; omega, by dsimp only; omega⟩, by dsimp only; omega, by dsimp only; omega⟩, hy⟩
theorem next_good {m : Mix3} (h : Good m) {c : Int} (hc : 0 ≤ c ∧ c ≤ 20) : Good (nextM m c) := by
  cases hs : noneM m with
  | true =>
    have e : nextM m c = m := by unfold nextM; rw [hs]; rfl
    rw [e]; exact h
  | false =>
    have t := h.tight hs
    obtain ⟨x, hx⟩ := t.ex
    have hm := (next_mem h hc x).2 ⟨hx.ok3 h, x, hx, ⟨by omega, by omega⟩, ⟨by omega, by omega⟩, by omega, by omega⟩
    have hn := hm.some
    rw [next_eq t hc] at hn ⊢
    obtain ⟨ta, tb, tc, la, lb, lc, ka, kb, kc⟩ := t
    exact .inr (tight_good (next_bd (h.tight hs) hc) ⟨.inr (by dsimp only; omega), .inr (by dsimp only; omega), .inr (by dsimp only; omega), .inr (by dsimp only; omega), .inr (by dsimp only; omega), .inr (by dsimp only; omega)⟩ hn)
theorem next_bd' {m : Mix3} (h : Good m) {c : Int} (hc : 0 ≤ c ∧ c ≤ 20) : Bd (nextM m c) := (next_good h hc).bd
end AE.Soil

namespace AE.Soil
open Go AE Go.Proofs

def Al (g : GroundT) (k : Nat) (x : T3) : Prop := Ok3 x ∧ ∀ p ∈ g.pits, p.1 = (k : Int) → In p.2.2.1 x.1 ∧ In p.2.2.2.1 x.2.1 ∧ In p.2.2.2.2 x.2.2
theorem any_tight : Tight anyM := ⟨by decide, by decide, by decide, by decide, by decide, by decide, by decide, by decide, by decide⟩
theorem any_mem (x : T3) : Mem anyM x ↔ Ok3 x := by
  unfold Mem Ok3 In anyM
  dsimp only
  constructor
  · rintro ⟨h0, h1, h2, h3⟩; exact ⟨h0, h1.1, h2.1, h3.1⟩
  · rintro ⟨h0, h1, h2, h3⟩; exact ⟨h0, ⟨h1, by omega⟩, ⟨h2, by omega⟩, h3, by omega⟩
theorem pit_bd {n : Int} {p : PitT} (h : PitOk n p) : Bd p.2.2 := by
  obtain ⟨_, _, h1, h2, h3⟩ := h
  unfold SpOk at h1 h2 h3
  constructor <;> unfold Bd1 <;> omega
theorem pit_uniq {l : List PitT} (h : l.Pairwise fun p q => p.1 < q.1) {p q : PitT} (hp : p ∈ l) (hq : q ∈ l) (e : p.1 = q.1) : p = q := by
  obtain ⟨i, hi, rfl⟩ := List.getElem_of_mem hp
  obtain ⟨j, hj, rfl⟩ := List.getElem_of_mem hq
  rcases Nat.lt_trichotomy i j with hlt | rfl | hlt
  · have := List.pairwise_iff_getElem.1 h i j hi hj hlt; omega
  · rfl
  · have := List.pairwise_iff_getElem.1 h j i hj hi hlt; omega
theorem mixAt_ok {g : GroundT} (hg : GOk g) (k : Nat) : Good (mixAtM (pmapM g.pits) (k : Int)) ∧ ∀ x, Mem (mixAtM (pmapM g.pits) (k : Int)) x ↔ Al g k x := by
  cases hf : mfind UU MM.pits [(k : Int)] (pmapM g.pits) with
  | none =>
    have e : mixAtM (pmapM g.pits) (k : Int) = anyM := mixAt_no (by unfold mhasM; rw [hf]; rfl)
    rw [e]
    refine ⟨.inr any_tight, fun x => ?_⟩
    rw [any_mem]
    refine ⟨fun h => ⟨h, fun p hp hk => ?_⟩, fun h => h.1⟩
    have hn := List.find?_eq_none.1 hf (p.1, p.2.2) (List.mem_map.2 ⟨p, hp, rfl⟩)
    exact absurd (by rw [← hk]; exact decide_eq_true rfl) hn
  | some v =>
    have hm := List.mem_of_find?_eq_some hf
    have hk : [(k : Int)] = UU.mkey MM.pits v := of_decide_eq_true (List.find?_some (p := fun e => decide ([(k : Int)] = UU.mkey MM.pits e)) hf)
    obtain ⟨p, hp, hpe⟩ := List.mem_map.1 (show v ∈ g.pits.map (fun p => (p.1, p.2.2)) from hm)
    have hpk : p.1 = (k : Int) := by
      have h1 : [(k : Int)] = [v.1] := hk
      rw [← hpe] at h1
      exact (List.cons.inj h1).1.symm
    have e : mixAtM (pmapM g.pits) (k : Int) = andM anyM p.2.2 := by
      rw [mixAt_yes (by unfold mhasM; rw [hf]; rfl)]
      unfold mgetM
      rw [hf, ← hpe]; rfl
    rw [e]
    have hb := pit_bd (hg.pits p hp)
    refine ⟨and_good (.inr any_tight) hb, fun x => ?_⟩
    rw [and_mem (.inr any_tight) hb, any_mem]
    constructor
    · rintro ⟨h1, h2⟩
      refine ⟨h1, fun q hq hqk => ?_⟩
      rw [pit_uniq hg.inc hq hp (by rw [hqk, hpk])]
      exact h2.2
    · rintro ⟨h1, h2⟩
      exact ⟨h1, h1.1, h2 p hp hpk⟩
def Ch (A : Nat → T3 → Prop) (c : Int) : Nat → T3 → Prop
  | 0, x => A 0 x
  | k + 1, x => A (k + 1) x ∧ ∃ y, Ch A c k y ∧ Near c y x
theorem Ch.head {A : Nat → T3 → Prop} {c : Int} : ∀ {k : Nat} {x : T3}, Ch A c k x → A k x
  | 0, _, h => h
  | _ + 1, _, h => h.1
theorem ch_ex {A : Nat → T3 → Prop} {c : Int} : ∀ {k : Nat} {x : T3}, Ch A c k x → ∃ m : Nat → T3, m k = x ∧ (∀ i, i ≤ k → Ch A c i (m i)) ∧ ∀ i, i < k → Near c (m i) (m (i + 1))
  | 0, x, h => ⟨fun _ => x, rfl, fun i hi => by rw [Nat.le_zero.1 hi]; exact h, fun i hi => absurd hi (Nat.not_lt_zero i)⟩
  | k + 1, x, h => by
    obtain ⟨ha, y, hy, hn⟩ := h
    obtain ⟨m, hm, h1, h2⟩ := ch_ex hy
    refine ⟨fun i => if i ≤ k then m i else x, if_neg (by omega), fun i hi => ?_, fun i hi => ?_⟩
    · show Ch A c i (if i ≤ k then m i else x)
      by_cases hc : i ≤ k
      · rw [if_pos hc]; exact h1 i hc
      · rw [if_neg hc]
        have : i = k + 1 := by omega
        subst this
        exact ⟨ha, y, hy, hn⟩
    · show Near c (if i ≤ k then m i else x) (if i + 1 ≤ k then m (i + 1) else x)
      rw [if_pos (by omega : i ≤ k)]
      by_cases hc : i + 1 ≤ k
      · rw [if_pos hc]; exact h2 i (by omega)
      · rw [if_neg hc]
        have : i = k := by omega
        subst this
        rw [hm]; exact hn
theorem ch_of {A : Nat → T3 → Prop} {c : Int} {m : Nat → T3} : ∀ {k : Nat}, (∀ i, i ≤ k → A i (m i)) → (∀ i, i < k → Near c (m i) (m (i + 1))) → Ch A c k (m k)
  | 0, h, _ => h 0 (Nat.le_refl 0)
  | k + 1, h, hn => ⟨h _ (Nat.le_refl _), m k, ch_of (fun i hi => h i (by omega)) (fun i hi => hn i (by omega)), hn k (by omega)⟩
theorem ch_iff {A B : Nat → T3 → Prop} {c : Int} : ∀ {k : Nat} {x : T3}, (∀ i, i ≤ k → ∀ x, A i x ↔ B i x) → (Ch A c k x ↔ Ch B c k x)
  | 0, x, h => h 0 (Nat.le_refl 0) x
  | k + 1, x, h => by
    unfold Ch
    rw [h (k + 1) (Nat.le_refl _) x]
    constructor
    · rintro ⟨h1, y, h2, h3⟩; exact ⟨h1, y, (ch_iff fun i hi => h i (by omega)).1 h2, h3⟩
    · rintro ⟨h1, y, h2, h3⟩; exact ⟨h1, y, (ch_iff fun i hi => h i (by omega)).2 h2, h3⟩
theorem acc_ok {l : List Mix3} {b : Bool} {c : Int} (hc : 0 ≤ c ∧ c ≤ 20) (hl : ∀ j, j < l.length → Good (l.getD j m0)) : ∀ k, k < l.length → Good (accM l b c k) ∧ ∀ x, Mem (accM l b c k) x ↔ Ch (fun i x => Mem (l.getD (idxM l.length b i) m0) x) c k x
  | 0, hk => ⟨hl _ (idx_lt b hk), fun x => Iff.rfl⟩
  | k + 1, hk => by
    obtain ⟨h1, h2⟩ := acc_ok hc hl k (by omega)
    have hg := hl _ (idx_lt b hk)
    refine ⟨and_good hg (next_bd' h1 hc), fun x => ?_⟩
    show Mem (andM (l.getD (idxM l.length b (k + 1)) m0) (nextM (accM l b c k) c)) x ↔ _
    rw [and_mem hg (next_bd' h1 hc), next_mem h1 hc]
    constructor
    · rintro ⟨h3, _, y, h4, h5⟩; exact ⟨h3, y, (h2 y).1 h4, h5⟩
    · rintro ⟨h3, y, h4, h5⟩; exact ⟨h3, h3.ok3 hg, y, (h2 y).2 h4, h5⟩
theorem pass_at {l : List Mix3} {b : Bool} {c : Int} {j : Nat} (hj : j < l.length) : (passM l b c l.length).getD j m0 = accM l b c (idxM l.length b j) := by
  unfold passM
  rw [map_get _ _ _ _ hj, if_pos (idx_lt b hj)]
theorem stage0 {g : GroundT} (hg : GOk g) {j : Nat} (hj : j < nM g) : Good ((stageM g 0).getD j m0) ∧ ∀ x, Mem ((stageM g 0).getD j m0) x ↔ Al g j x := by
  have e : (stageM g 0).getD j m0 = mixAtM (pmapM g.pits) (j : Int) := by
    unfold stageM mixesM
    rw [map_get _ _ _ _ hj, if_pos hj]
  rw [e]; exact mixAt_ok hg j
theorem stage1 {g : GroundT} (hg : GOk g) {j : Nat} (hj : j < nM g) : Good ((stageM g 1).getD j m0) ∧ ∀ x, Mem ((stageM g 1).getD j m0) x ↔ Ch (Al g) g.change j x := by
  have hlen := stage_len g 0
  have e : (stageM g 1).getD j m0 = accM (stageM g 0) false g.change j := by
    have := pass_at (l := stageM g 0) (b := false) (c := g.change) (j := j) (by omega)
    rw [hlen] at this; exact this
  rw [e]
  obtain ⟨h1, h2⟩ := acc_ok (l := stageM g 0) (b := false) hg.change (fun i hi => (stage0 hg (by omega)).1) j (by omega)
  refine ⟨h1, fun x => ?_⟩
  rw [h2]
  exact ch_iff fun i hi x => (stage0 hg (by show (idxM _ false i) < _; unfold idxM; rw [if_neg (by decide)]; omega)).2 x
theorem stage2 {g : GroundT} (hg : GOk g) {j : Nat} (hj : j < nM g) : Good ((boxesM g).getD j m0) ∧ ∀ x, Mem ((boxesM g).getD j m0) x ↔ Ch (fun i => Ch (Al g) g.change (nM g - 1 - i)) g.change (nM g - 1 - j) x := by
  have hlen := stage_len g 1
  have e : (boxesM g).getD j m0 = accM (stageM g 1) true g.change (nM g - 1 - j) := by
    have := pass_at (l := stageM g 1) (b := true) (c := g.change) (j := j) (by omega)
    rw [hlen] at this; exact this
  rw [e]
  obtain ⟨h1, h2⟩ := acc_ok (l := stageM g 1) (b := true) hg.change (fun i hi => (stage1 hg (by omega)).1) (nM g - 1 - j) (by omega)
  refine ⟨h1, fun x => ?_⟩
  rw [h2, hlen]
  exact ch_iff fun i hi x => (stage1 hg (by unfold idxM; rw [if_pos rfl]; omega)).2 x
structure MTr (g : GroundT) (m : Nat → T3) : Prop where
  al : ∀ k, k < nM g → Al g k (m k)
  near : ∀ k, k + 1 < nM g → Near g.change (m k) (m (k + 1))
theorem both_truth {g : GroundT} {j : Nat} (hj : j < nM g) {x : T3} (h1 : Ch (Al g) g.change j x) (h2 : Ch (fun i => Al g (nM g - 1 - i)) g.change (nM g - 1 - j) x) : ∃ m, MTr g m ∧ m j = x := by
  obtain ⟨l, hl, l1, l2⟩ := ch_ex h1
  obtain ⟨r, hr, r1, r2⟩ := ch_ex h2
  refine ⟨fun i => if i ≤ j then l i else r (nM g - 1 - i), ⟨fun k hk => ?_, fun k hk => ?_⟩, by show (if j ≤ j then l j else _) = x; rw [if_pos (Nat.le_refl j)]; exact hl⟩
  · show Al g k (if k ≤ j then l k else r (nM g - 1 - k))
    by_cases hc : k ≤ j
    · rw [if_pos hc]; exact (l1 k hc).head
    · rw [if_neg hc]
      have := (r1 (nM g - 1 - k) (by omega)).head
      rwa [show nM g - 1 - (nM g - 1 - k) = k by omega] at this
  · show Near g.change (if k ≤ j then l k else r (nM g - 1 - k)) (if k + 1 ≤ j then l (k + 1) else r (nM g - 1 - (k + 1)))
    by_cases hc : k + 1 ≤ j
    · rw [if_pos hc, if_pos (by omega)]; exact l2 k (by omega)
    · rw [if_neg hc]
      have hn := r2 (nM g - 1 - (k + 1)) (by omega)
      rw [show nM g - 1 - (k + 1) + 1 = nM g - 1 - k by omega] at hn
      by_cases hc2 : k ≤ j
      · rw [if_pos hc2]
        have : k = j := by omega
        subst this
        rw [hl, ← hr]; exact hn.symm
      · rw [if_neg hc2]; exact hn.symm
theorem MTr.fwd {g : GroundT} {m : Nat → T3} (t : MTr g m) {j : Nat} (hj : j < nM g) : Ch (Al g) g.change j (m j) := ch_of (fun i hi => t.al i (by omega)) (fun i hi => t.near i (by omega))
theorem MTr.bwd {g : GroundT} {m : Nat → T3} (t : MTr g m) {j : Nat} (hj : j < nM g) : Ch (fun i => Al g (nM g - 1 - i)) g.change (nM g - 1 - j) (m j) := by
  have := ch_of (A := fun i => Al g (nM g - 1 - i)) (c := g.change) (m := fun i => m (nM g - 1 - i)) (k := nM g - 1 - j) (fun i hi => t.al _ (by omega)) (fun i hi => by
    have := t.near (nM g - 1 - (i + 1)) (by omega)
    rw [show nM g - 1 - (i + 1) + 1 = nM g - 1 - i by omega] at this
    exact this.symm)
  rwa [show nM g - 1 - (nM g - 1 - j) = j by omega] at this
theorem box_truth {g : GroundT} (hg : GOk g) {j : Nat} (hj : j < nM g) (x : T3) : Mem ((boxesM g).getD j m0) x ↔ ∃ m, MTr g m ∧ m j = x := by
  rw [(stage2 hg hj).2]
  constructor
  · intro h
    obtain ⟨r, hr, r1, _⟩ := ch_ex h
    have h1 := (r1 (nM g - 1 - j) (Nat.le_refl _)).head
    rw [hr, show nM g - 1 - (nM g - 1 - j) = j by omega] at h1
    refine both_truth hj h1 ?_
    obtain ⟨r, rfl, r1, r2⟩ := ch_ex h
    exact ch_of (fun i hi => (r1 i hi).head.head) r2
  · rintro ⟨m, t, rfl⟩
    have := ch_of (A := fun i => Ch (Al g) g.change (nM g - 1 - i)) (c := g.change) (m := fun i => m (nM g - 1 - i)) (k := nM g - 1 - j) (fun i hi => t.fwd (by omega)) (fun i hi => by
      have := t.near (nM g - 1 - (i + 1)) (by omega)
      rw [show nM g - 1 - (i + 1) + 1 = nM g - 1 - i by omega] at this
      exact this.symm)
    rwa [show nM g - 1 - (nM g - 1 - j) = j by omega] at this
theorem box_some {g : GroundT} (hg : GOk g) {j : Nat} (hj : j < nM g) : noneM ((boxesM g).getD j m0) = false ↔ ∃ m, MTr g m := by
  rw [(stage2 hg hj).1.ex_iff]
  constructor
  · rintro ⟨x, hx⟩
    obtain ⟨m, t, _⟩ := (box_truth hg hj x).1 hx
    exact ⟨m, t⟩
  · rintro ⟨m, t⟩
    exact ⟨m j, (box_truth hg hj _).2 ⟨m, t, rfl⟩⟩
theorem look_truth {g : GroundT} (hg : GOk g) : lookM g = true ↔ (∃ h, HTr g h) ∧ ∃ m, MTr g m := by
  rw [look_iff]
  obtain ⟨n0, n1, n2⟩ := n_ok hg
  constructor
  · intro h
    refine ⟨(hok_iff hg).1 fun k hk => ?_, (box_some hg n1).1 (h 0 n1).2⟩
    obtain ⟨j, rfl, hj⟩ := place_of hg hk
    exact (h j hj).1
  · rintro ⟨⟨h, t⟩, hm⟩ j hj
    exact ⟨t.ok hg _ (pl_of hg hj), (box_some hg hj).2 hm⟩
end AE.Soil

namespace AE.Soil
open Go AE Go.Proofs

def eq2M (x y : M2) : Bool := x.1 == y.1 && (x.2 == y.2 && true)
def innM (x : M2) (b : List M2) : List M2 := (b.filter (eq2M x)).map fun _ => x
def crossM (a b : List M2) : List M2 := a.flatMap fun x => innM x b
def fwM (g : GroundT) (at_ : Int) : List M2 := chM g 0 1 ((at_ - 0) * 1).toNat
def bwM (g : GroundT) (at_ : Int) : List M2 := chM g g.long (-1) ((at_ - g.long) * (-1)).toNat
def rMixM (g : GroundT) (at_ : Int) : List M2 := crossM (fwM g at_) (bwM g at_)
theorem ch_len (g : GroundT) (e st : Int) (k : Nat) : (chM g e st k).length ≤ 231 := by
  rw [ch_step]
  have := List.length_filter_le (takesM g (xAtM e st k) (firstM k) (prM g e st k)) (allM g.pits)
  rw [all_len] at this
  exact this
theorem inn_len (x : M2) (b : List M2) : (innM x b).length ≤ b.length := by unfold innM; rw [List.length_map]; exact List.length_filter_le _ _
theorem cross_len (a b : List M2) : ∀ i, i ≤ a.length → (crossM (a.take i) b).length ≤ i * b.length
  | 0, _ => by simp [crossM]
  | i + 1, h => by
    have := cross_len a b i (by omega)
    have h2 := inn_len (a.getD i (0, 0)) b
    unfold crossM at *
    rw [take_snoc a i h (0, 0), List.flatMap_append, List.length_append, Nat.add_mul, Nat.one_mul]
    simp only [List.flatMap_cons, List.flatMap_nil, List.append_nil]
    omega
theorem cross_suc (a b : List M2) {i : Nat} (h : i < a.length) : crossM (a.take (i + 1)) b = crossM (a.take i) b ++ innM (a.getD i (0, 0)) b := by
  unfold crossM
  rw [take_snoc a i h (0, 0), List.flatMap_append]
  simp
theorem inn_yes (x : M2) (b : List M2) {k : Nat} (h : k < b.length) (he : eq2M x (b.getD k (0, 0)) = true) : innM x (b.take (k + 1)) = innM x (b.take k) ++ [x] := by
  unfold innM
  rw [take_snoc b k h (0, 0), List.filter_append, List.map_append]
  congr 1
  rw [List.filter_cons_of_pos he]; rfl
theorem inn_no (x : M2) (b : List M2) {k : Nat} (h : k < b.length) (he : eq2M x (b.getD k (0, 0)) = false) : innM x (b.take (k + 1)) = innM x (b.take k) := by
  unfold innM
  rw [take_snoc b k h (0, 0), List.filter_append, List.map_append, List.filter_cons_of_neg (by rw [he]; decide)]
  simp
def mxH (g : GroundT) (at_ : Int) (out : List M2) : Heap UU := [.one (.ro .pit g.pits), .one (.row .rmix (fwM g at_) 154), .one (.row .rmix (bwM g at_) 154), .one (.row .rmix out 154)]
def mxL1 (g : GroundT) (at_ : Int) : LSpec UU where
  T := { i : Nat // i ≤ (fwM g at_).length }
  fr := fun i => [(5, .gs 1 0), (6, .gs 2 0), (7, .gs 3 0), (8, .i i.1)]
  H := fun i => mxH g at_ (crossM ((fwM g at_).take i.1) (bwM g at_))
  mu := fun i => (fwM g at_).length - i.1
def mxL2 (g : GroundT) (at_ : Int) : LSpec UU where
  T := { p : Nat × Nat // p.1 < (fwM g at_).length ∧ p.2 ≤ (bwM g at_).length }
  fr := fun p => [(5, .gs 1 0), (6, .gs 2 0), (7, .gs 3 0), (8, .i p.1.1), (9, .i p.1.2)]
  H := fun p => mxH g at_ (crossM ((fwM g at_).take p.1.1) (bwM g at_) ++ innM ((fwM g at_).getD p.1.1 (0, 0)) ((bwM g at_).take p.1.2))
  mu := fun p => (bwM g at_).length - p.1.2
def mxLs (g : GroundT) (at_ : Int) (k : Nat) : Option (LRule UU) :=
  match k with
  | 4 => some (.inv (mxL1 g at_))
  | 7 => some (.invR (mxL2 g at_) fun a b => b.1.1 = a.1.1)
  | _ => none
def Tmx : Tab UU := [(104, alongS.con)]
theorem Tmx_ok : Tmx.Sound Tryz.prog := .cons along_sound .nil
def rmixS : FSpec UU where
  X := GroundT × Int
  pick := fun args H => avGr2 H args
  args := fun x => [vGround x.1 0, .i x.2]
  H := fun x => [.one (.ro .pit x.1.pits)]
  R := fun x => .val ⟨.gs 1 0, [], [], [.row .rmix (rMixM x.1 x.2) 154]⟩
  pre := fun x => x.1.pits.length < 1000 ∧ (0 ≤ x.1.long ∧ x.1.long ≤ 40) ∧ (0 ≤ x.2 ∧ x.2 ≤ x.1.long)
theorem rmix_ok : ∀ x, rmixS.pre x → FunOk Tryz.prog 82 (rmixS.args x) (rmixS.H x) (rmixS.R x) := by
  rintro ⟨⟨long, rise, change, ps⟩, a⟩ hx
  refine fun_of (T := Tmx) (L := mxLs ⟨long, rise, change, ps⟩ a) (hs := fun _ => []) hmix Tmx_ok Tryz.func82 (by kernel_rfl) (by kernel_rfl) ?_
  refine Eq.mp (α :=
      let Ad := (154 : TypeId); let Ak := ps = ps ∧ True; let Al := List.length ps < nat_lit 1000; let Am := Value.int IntKind.i64 (1 : Int); let A8 := Value.int IntKind.i64 (0 : Int); let Ae := List.length (fwM (GroundT.mk long rise change ps) a); let An := List.length (bwM (GroundT.mk long rise change ps) a); let A3 := (-1 : Int); let Ao := (0 : Int) ≤ a; let Ap := Value.int IntKind.i64 a = Value.int IntKind.i64 a; let Aq := Value.int IntKind.i64 long = Value.int IntKind.i64 long; let Ar := List.length (fwM (GroundT.mk long rise change ps) a); let As := List.length (bwM (GroundT.mk long rise change ps) a); let A9 := ((0 : Int), (0 : Int)); let At := Value.int IntKind.i64 A3; let A2 := Ad = Ad; let Au := (↑Ar : Int); let A1 : Type := { i : Nat // (i ≤ Ae) }; let Af := fun (x : A1) => Subtype.val x; let Av := Ao ∧ (a ≤ (40 : Int)); let Aw := fun (x : A1) => (↑(Af x) : Int); let Ag := fun (x : A1) => Value.int IntKind.i64 (Aw x); let Aa := A2 ∧ bwM (GroundT.mk long rise change ps) a = bwM (GroundT.mk long rise change ps) a; let Ab := A2 ∧ fwM (GroundT.mk long rise change ps) a = fwM (GroundT.mk long rise change ps) a; let Ax := fun (x : A1) => Ae - Af x; let Ac := fun (x : A1) => crossM ((List.take (Af x) (fwM (GroundT.mk long rise change ps) a))) (bwM (GroundT.mk long rise change ps) a); let A0 : Type := { p : Nat × Nat // ((Prod.fst p < Ae) ∧ Prod.snd p ≤ An) }; let Ay := fun (x : A0) => Subtype.val x; let Ah := fun (x : A0) => Prod.snd (Ay x); let A4 := fun (x : A0) => Prod.fst (Ay x); let A6 := fun (x : A0) => (↑(A4 x) : Int); let A7 := fun (x : A0) => (↑(Ah x) : Int); let Az := Aq ∧ (Value.int IntKind.i64 rise = Value.int IntKind.i64 rise) ∧ (Value.int IntKind.i64 change = Value.int IntKind.i64 change) ∧ (nat_lit 0 = nat_lit 0 ∧ nat_lit 0 = nat_lit 0 ∧ List.length ps = List.length ps) ∧ True; let AA := fun (t : A0) => Int.toNat (A6 t); let Ai := fun (x : A0) => Value.int IntKind.i64 (A6 x); let AB := fun (x : A0) => Value.int IntKind.i64 (A7 x); let AC := fun (t : A0) => nat_lit 0 + (Int.toNat (A7 t)); let AD := fun (t : A0) => nat_lit 0 + AA t; let AE := fun (x : A0) => An - Ah x; let AF := fun (t : A0) => A7 t < ((↑As : Int)); let AG := fun (t : A0) => AD t < Ar; let AH := fun (t : A0) => List.getD (bwM (GroundT.mk long rise change ps) a) (AC t) A9; let AI := fun (t : A0) => List.getD (fwM (GroundT.mk long rise change ps) a) (AD t) A9; let AJ := fun (t : A0) => Prod.snd (AI t); let Aj := fun (t : A0) => Prod.fst (AI t); let AK := fun (t : A1) => decide ((Aw t < Au)); let AL := fun (t : A0) => List.getD (fwM (GroundT.mk long rise change ps) a) (((0 : Nat) + AA t)) A9; let AM := fun (t x : A0) => A4 t = A4 x; let AN := fun (t : A0) => AV.v ((Value.int IntKind.i64 (AJ t))); let AO := fun (t : A0) => ((0 : Int) ≤ A6 t) ∧ A6 t < Au; let AP := fun (t : A0) => decide (AF t); let AQ := fun (t : A0) => Aj t == (Prod.fst (AH t)); let AR := fun (t : A0) => (AJ t == (Prod.snd (AH t))) && true; let A5 := fun (x : A0) => (crossM ((List.take (A4 x) (fwM (GroundT.mk long rise change ps) a))) (bwM (GroundT.mk long rise change ps) a)) ++ (innM ((List.getD (fwM (GroundT.mk long rise change ps) a) (A4 x) A9)) ((List.take (Ah x) (bwM (GroundT.mk long rise change ps) a)))); let AS := fun (x t x_1 : A0) => (AE x < AE t) ∧ AM x x_1; let AT := fun (t x : A0) => nat_lit 0 = nat_lit 0 ∧ ((Ai t = Ai x) ∧ (((Value.int IntKind.i64 ((IntKind.wrap IntKind.i64 ((A7 t + (1 : Int)))))) = AB x) ∧ True)); (Al ∧ ((0 : Int) ≤ (0 : Int) ∧ (0 : Int) ≤ (40 : Int)) ∧ Av ∧ ((1 : Int) = (1 : Int) ∧ Ao ∨ (1 : Int) = A3 ∧ a ≤ (0 : Int))) ∧ (Az ∧ Ap ∧ A8 = A8 ∧ Am = Am ∧ True) ∧ Ak ∧ (Al ∧ ((0 : Int) ≤ long ∧ long ≤ (40 : Int)) ∧ Av ∧ (A3 = (1 : Int) ∧ long ≤ a ∨ A3 = A3 ∧ a ≤ long)) ∧ (Az ∧ Ap ∧ Aq ∧ At = At ∧ True) ∧ Ak ∧ (∃ (x : A1), (True ∧ True ∧ nat_lit 0 = nat_lit 0 ∧ True ∧ True) ∧ (True ∧ True ∧ True ∧ Ac x = [] ∧ True) ∧ (nat_lit 0 = nat_lit 0 ∧ nat_lit 0 = nat_lit 0 ∧ Value.slice none (nat_lit 0) (nat_lit 0) = Value.slice none (nat_lit 0) (nat_lit 0) ∧ A8 = Ag x ∧ True) ∧ True ∧ ps = ps ∧ (A2 ∧ chM (GroundT.mk long rise change ps) (0 : Int) (1 : Int) (Int.toNat ((a - (0 : Int)) * (1 : Int))) = fwM (GroundT.mk long rise change ps) a) ∧ (A2 ∧ chM (GroundT.mk long rise change ps) long A3 (Int.toNat ((a - long) * A3)) = bwM (GroundT.mk long rise change ps) a) ∧ True ∧ True) ∧ ∀ (t : A1), (AK t = true → ∃ (x : A0), ((nat_lit 0 = nat_lit 0 ∧ nat_lit 0 = nat_lit 0 ∧ nat_lit 0 = nat_lit 0 ∧ Ag t = Ai x ∧ A8 = AB x ∧ True) ∧ True ∧ ps = ps ∧ Ab ∧ Aa ∧ (A2 ∧ Ac t = A5 x) ∧ True) ∧ A4 x = A4 x ∧ ∀ (t_1 : A0), AM t_1 x → (AP t_1 = true → AO t_1 ∧ AG t_1 ∧ ((0 : Int) ≤ A7 t_1 ∧ AF t_1) ∧ AC t_1 < As ∧ ((AQ t_1 && AR t_1) = true → AO t_1 ∧ AG t_1 ∧ (nat_lit 1 = nat_lit 1 ∧ AV.v (Value.int IntKind.i64 (Aj t_1)) = AV.v (Value.int IntKind.i64 (Prod.fst (AL t_1))) ∧ AN t_1 = AN t_1 ∧ True) ∧ nat_lit 1 ≤ nat_lit 1 ∧ List.length (A5 t_1) + nat_lit 1 ≤ nat_lit 1099511627776 ∧ True ∧ ∃ (x_1 : A0), ((nat_lit 0 = nat_lit 0 ∧ nat_lit 0 = nat_lit 0 ∧ AT t_1 x_1) ∧ True ∧ ps = ps ∧ Ab ∧ Aa ∧ (nat_lit 154 = Ad ∧ A5 t_1 ++ List.take (1 : Nat) (List.drop (0 : Nat) [(Aj t_1, Prod.snd (AL t_1))]) = A5 x_1) ∧ True) ∧ AS x_1 t_1 x) ∧ ((AQ t_1 && AR t_1) = false → True ∧ ∃ (x_1 : A0), ((nat_lit 0 = nat_lit 0 ∧ nat_lit 0 = nat_lit 0 ∧ AT t_1 x_1) ∧ True ∧ ps = ps ∧ Ab ∧ Aa ∧ (A2 ∧ A5 t_1 = A5 x_1) ∧ True) ∧ AS x_1 t_1 x)) ∧ (AP t_1 = false → True ∧ ∃ (x : A1), ((nat_lit 0 = nat_lit 0 ∧ nat_lit 0 = nat_lit 0 ∧ nat_lit 0 = nat_lit 0 ∧ Value.int IntKind.i64 (IntKind.wrap IntKind.i64 (A6 t_1 + (1 : Int))) = Ag x ∧ True) ∧ True ∧ ps = ps ∧ Ab ∧ Aa ∧ (A2 ∧ A5 t_1 = Ac x) ∧ True) ∧ Ax x < Ax t)) ∧ (AK t = false → True ∧ (nat_lit 0 = nat_lit 0 ∧ True) ∧ True ∧ ps = ps ∧ (A2 ∧ Ac t = rMixM (GroundT.mk long rise change ps) a) ∧ True))
    (by kernel_rfl) ?_
  simp only [eq_self, AE.goS]
  obtain ⟨h1, ⟨l0, l1⟩, a0, a1⟩ := hx
  have hps : ps.length < 1000 := h1
  have l0' : 0 ≤ long := l0
  have l1' : long ≤ 40 := l1
  have a0' : 0 ≤ a := a0
  have a1' : a ≤ long := a1
  have hA : (fwM ⟨long, rise, change, ps⟩ a).length ≤ 231 := ch_len _ _ _ _
  have hB : (bwM ⟨long, rise, change, ps⟩ a).length ≤ 231 := ch_len _ _ _ _
  refine ⟨⟨hps, ⟨Int.le_refl _, by decide⟩, ⟨a0', by omega⟩, .inl a0'⟩, ⟨hps, ⟨l0', l1'⟩, ⟨a0', by omega⟩, .inr a1'⟩, ⟨⟨0, Nat.zero_le _⟩, rfl, rfl, rfl, rfl⟩, ?_⟩
  have hM : rMixM ⟨long, rise, change, ps⟩ a = crossM (fwM ⟨long, rise, change, ps⟩ a) (bwM ⟨long, rise, change, ps⟩ a) := rfl
  rw [hM]
  revert hA hB
  generalize fwM ⟨long, rise, change, ps⟩ a = A
  generalize bwM ⟨long, rise, change, ps⟩ a = B
  intro hA hB t
  refine ⟨fun ht => ?_, fun ht => ?_⟩
  · obtain ⟨i, hi⟩ := t
    have hlt : i < A.length := by have h0 : (i : Int) < (A.length : Int) := ht; omega
    refine ⟨⟨(i, 0), hlt, Nat.zero_le _⟩, ⟨⟨rfl, rfl⟩, ?_⟩, fun p hp => ?_⟩
    · show crossM (A.take i) B = crossM (A.take i) B ++ innM (A.getD i (0, 0)) []
      rw [show innM (A.getD i (0, 0)) [] = [] from rfl, List.append_nil]
    obtain ⟨⟨i', k⟩, p1, p2⟩ := p
    have hp' : i' = i := hp
    subst hp'
    have hcl := cross_len A B i' (by omega)
    have hmul : i' * B.length ≤ 231 * 231 := Nat.mul_le_mul (by omega) hB
    refine ⟨fun hk => ?_, fun hk => ?_⟩
    · have hkl : k < B.length := by have h0 : (k : Int) < (B.length : Int) := hk; omega
      have hin := inn_len (A.getD i' (0, 0)) (B.take k)
      rw [List.length_take] at hin
      have hbd : (crossM (A.take i') B ++ innM (A.getD i' (0, 0)) (B.take k)).length + 1 ≤ 1099511627776 := by rw [List.length_append]; omega
      refine ⟨⟨Int.natCast_nonneg _, ht⟩, hlt, ⟨Int.natCast_nonneg _, hk⟩, hkl, fun he => ⟨⟨Int.natCast_nonneg _, ht⟩, hlt, Nat.le_refl _, hbd, ⟨(i', k + 1), p1, hkl⟩, ⟨⟨rfl, sucI k (by omega)⟩, ?_⟩, dec1 hkl, rfl⟩, fun he => ⟨⟨(i', k + 1), p1, hkl⟩, ⟨⟨rfl, sucI k (by omega)⟩, ?_⟩, dec1 hkl, rfl⟩⟩
      · show crossM (A.take i') B ++ innM (A.getD i' (0, 0)) (B.take k) ++ [A.getD i' (0, 0)] = crossM (A.take i') B ++ innM (A.getD i' (0, 0)) (B.take (k + 1))
        rw [inn_yes _ _ hkl he, List.append_assoc]
      · show crossM (A.take i') B ++ innM (A.getD i' (0, 0)) (B.take k) = crossM (A.take i') B ++ innM (A.getD i' (0, 0)) (B.take (k + 1))
        rw [inn_no _ _ hkl he]
    · have hkl : k = B.length := by have h0 : ¬ (k : Int) < (B.length : Int) := hk; have h1 : k ≤ B.length := p2; omega
      refine ⟨⟨i' + 1, hlt⟩, ⟨sucI i' (by omega), ?_⟩, dec1 hlt⟩
      show crossM (A.take i') B ++ innM (A.getD i' (0, 0)) (B.take k) = crossM (A.take (i' + 1)) B
      rw [cross_suc A B hlt, hkl, List.take_length]
  · obtain ⟨i, hi⟩ := t
    have hie : i = A.length := by have h0 : ¬ (i : Int) < (A.length : Int) := ht; omega
    subst hie
    show crossM (A.take A.length) B = _
    rw [List.take_length]

theorem rmix_sound : Sound Tryz.prog 82 rmixS.con := FSpec.sound _ (enter_of Tryz.func82 (by kernel_rfl) (by kernel_rfl)) rmix_ok
end AE.Soil

namespace AE.Soil
open Go AE Go.Proofs

def d0 : Span := (0, 0)
def base0M (g : GroundT) (i : Nat) : List Span := (List.range i).map fun _ => ((0 : Int), (1000 : Int))
def base1M (g : GroundT) : Nat → List Span
  | 0 => base0M g (nM g)
  | i + 1 => (base1M g i).set (g.pits.getD i pit0).1.toNat (g.pits.getD i pit0).2.1
def pairM (r : Int) (l : List Span) (x : Nat) : List Span :=
  (l.set (x - 1) (max (l.getD (x - 1) (0, 0)).1 (W ((l.getD x (0, 0)).1 - r)), min (l.getD (x - 1) (0, 0)).2 (W ((l.getD x (0, 0)).2 + r)))).set x (max (l.getD x (0, 0)).1 (W ((l.getD (x - 1) (0, 0)).1 - r)), min (l.getD x (0, 0)).2 (W ((l.getD (x - 1) (0, 0)).2 + r)))
def sweepM (r : Int) (l : List Span) : Nat → List Span
  | 0 => l
  | x + 1 => pairM r (sweepM r l x) (x + 1)
def roundM (g : GroundT) : Nat → List Span
  | 0 => base1M g g.pits.length
  | k + 1 => sweepM g.rise (roundM g k) (nM g - 1)
theorem pair_len (r : Int) (l : List Span) (x : Nat) : (pairM r l x).length = l.length := by unfold pairM; rw [List.length_set, List.length_set]
theorem sweep_len (r : Int) (l : List Span) : ∀ x, (sweepM r l x).length = l.length
  | 0 => rfl
  | x + 1 => by unfold sweepM; rw [pair_len, sweep_len r l x]
theorem base1_len (g : GroundT) : ∀ i, (base1M g i).length = nM g
  | 0 => by simp [base1M, base0M]
  | i + 1 => by unfold base1M; rw [List.length_set, base1_len g i]
theorem round_len (g : GroundT) : ∀ k, (roundM g k).length = nM g
  | 0 => base1_len g _
  | k + 1 => by unfold roundM; rw [sweep_len, round_len g k]
theorem getD_set {α : Type} (l : List α) (i j : Nat) (x d : α) (hi : i < l.length) : (l.set i x).getD j d = if i = j then x else l.getD j d := by
  rw [List.getD_eq_getElem?_getD, List.getElem?_set]
  split
  · simp [hi]
  · rw [List.getD_eq_getElem?_getD]
structure Snd (g : GroundT) (l : List Span) : Prop where
  len : l.length = nM g
  lo : ∀ k : Nat, k < nM g → 0 ≤ (l.getD k (0, 0)).1 ∧ (l.getD k (0, 0)).1 ≤ (hardM g (k : Int)).1
  hi : ∀ k : Nat, k < nM g → (hardM g (k : Int)).2 ≤ (l.getD k (0, 0)).2 ∧ (l.getD k (0, 0)).2 ≤ 1000
theorem lo_le {g : GroundT} (hg : GOk g) {k : Int} (hk : Pl g k) : (hardM g k).1 ≤ 1000 := by
  refine (hard_lo hg hk 1000).2 ⟨by decide, fun p hp => ?_⟩
  have h := (hg.pits p hp).hard
  have := h.1; have := h.2.1; have := h.2.2
  have := DR_nonneg p.1 k g.rise hg.rise.1
  omega
theorem hi_ge {g : GroundT} (hg : GOk g) {k : Int} (hk : Pl g k) : 0 ≤ (hardM g k).2 := by
  refine (hard_hi hg hk 0).2 ⟨by decide, fun p hp => ?_⟩
  have h := (hg.pits p hp).hard
  have := h.1; have := h.2.1; have := h.2.2
  have := DR_nonneg p.1 k g.rise hg.rise.1
  omega
theorem base1_suc (g : GroundT) (i : Nat) : base1M g (i + 1) = (base1M g i).set (g.pits.getD i pit0).1.toNat (g.pits.getD i pit0).2.1 := rfl
theorem base1_snd {g : GroundT} (hg : GOk g) : ∀ i, i ≤ g.pits.length → Snd g (base1M g i)
  | 0, _ => by
    have e : ∀ k : Nat, k < nM g → (base1M g 0).getD k (0, 0) = (0, 1000) := fun k hk => by
      show (base0M g (nM g)).getD k (0, 0) = _
      unfold base0M
      rw [map_get _ _ _ _ hk]
    refine ⟨base1_len g 0, fun k hk => ?_, fun k hk => ?_⟩
    · rw [e k hk]; exact ⟨Int.le_refl _, hard_ge0 hg (pl_of hg hk)⟩
    · rw [e k hk]; exact ⟨hard_le1000 hg (pl_of hg hk), Int.le_refl _⟩
  | i + 1, h => by
    obtain ⟨h1, h2, h3⟩ := base1_snd hg i (by omega)
    have hm : g.pits.getD i pit0 ∈ g.pits := by rw [List.getD_eq_getElem?_getD, List.getElem?_eq_getElem (show i < g.pits.length by omega)]; exact List.getElem_mem _
    have hp := hg.pits _ hm
    have hpt := hard_pit hg hm
    have hat := hp.at_
    have hh := hp.hard
    have hn := (n_ok hg).1
    have hlt : (g.pits.getD i pit0).1.toNat < (base1M g i).length := by rw [h1]; omega
    refine ⟨base1_len g _, fun k hk => ?_, fun k hk => ?_⟩
    · rw [base1_suc, getD_set _ _ _ _ _ hlt]
      split
      · rename_i he
        have e : ((k : Nat) : Int) = (g.pits.getD i pit0).1 := by omega
        rw [e]; exact ⟨hh.1, hpt.1⟩
      · exact h2 k hk
    · rw [base1_suc, getD_set _ _ _ _ _ hlt]
      split
      · rename_i he
        have e : ((k : Nat) : Int) = (g.pits.getD i pit0).1 := by omega
        rw [e]; exact ⟨hpt.2, hh.2.2⟩
      · exact h3 k hk
theorem pair_get {g : GroundT} (hg : GOk g) {l : List Span} (h : Snd g l) {x : Nat} (h0 : 0 < x) (hx : x < nM g) (k : Nat) : (pairM g.rise l x).getD k (0, 0) = if x = k then (max (l.getD x (0, 0)).1 ((l.getD (x - 1) (0, 0)).1 - g.rise), min (l.getD x (0, 0)).2 ((l.getD (x - 1) (0, 0)).2 + g.rise)) else if x - 1 = k then (max (l.getD (x - 1) (0, 0)).1 ((l.getD x (0, 0)).1 - g.rise), min (l.getD (x - 1) (0, 0)).2 ((l.getD x (0, 0)).2 + g.rise)) else l.getD k (0, 0) := by
  have hr := hg.rise
  have a1 := h.lo x hx
  have a2 := h.hi x hx
  have b1 := h.lo (x - 1) (by omega)
  have b2 := h.hi (x - 1) (by omega)
  have c1 := lo_le hg (pl_of hg hx)
  have c2 := hi_ge hg (pl_of hg hx)
  have e1 := lo_le hg (pl_of hg (show x - 1 < nM g by omega))
  have e2 := hi_ge hg (pl_of hg (show x - 1 < nM g by omega))
  unfold pairM
  rw [getD_set _ _ _ _ _ (by rw [List.length_set, h.len]; exact hx), getD_set _ _ _ _ _ (by rw [h.len]; omega)]
  rw [show W ((l.getD x (0, 0)).1 - g.rise) = (l.getD x (0, 0)).1 - g.rise from wrap_id (by omega) (by omega), show W ((l.getD x (0, 0)).2 + g.rise) = (l.getD x (0, 0)).2 + g.rise from wrap_id (by omega) (by omega), show W ((l.getD (x - 1) (0, 0)).1 - g.rise) = (l.getD (x - 1) (0, 0)).1 - g.rise from wrap_id (by omega) (by omega), show W ((l.getD (x - 1) (0, 0)).2 + g.rise) = (l.getD (x - 1) (0, 0)).2 + g.rise from wrap_id (by omega) (by omega)]
theorem pair_snd {g : GroundT} (hg : GOk g) {l : List Span} (h : Snd g l) {x : Nat} (h0 : 0 < x) (hx : x < nM g) : Snd g (pairM g.rise l x) := by
  have px := pl_of hg hx
  have py := pl_of hg (show x - 1 < nM g by omega)
  have hd : D ((x : Nat) : Int) ((x - 1 : Nat) : Int) = 1 := by unfold D; omega
  have hd2 : D ((x - 1 : Nat) : Int) ((x : Nat) : Int) = 1 := by unfold D; omega
  have l1 := lip_lo hg px py
  have l2 := lip_lo hg py px
  have u1 := lip_hi hg px py
  have u2 := lip_hi hg py px
  rw [hd, Int.one_mul] at l1 u1
  rw [hd2, Int.one_mul] at l2 u2
  have a1 := h.lo x hx
  have a2 := h.hi x hx
  have b1 := h.lo (x - 1) (by omega)
  have b2 := h.hi (x - 1) (by omega)
  refine ⟨by rw [pair_len]; exact h.len, fun k hk => ?_, fun k hk => ?_⟩
  · rw [pair_get hg h h0 hx]
    split
    · rename_i e; subst e; dsimp only; omega
    · split
      · rename_i e; subst e; dsimp only; omega
      · exact h.lo k hk
  · rw [pair_get hg h h0 hx]
    split
    · rename_i e; subst e; dsimp only; omega
    · split
      · rename_i e; subst e; dsimp only; omega
      · exact h.hi k hk
theorem pair_mono {g : GroundT} (hg : GOk g) {l : List Span} (h : Snd g l) {x : Nat} (h0 : 0 < x) (hx : x < nM g) (k : Nat) : (l.getD k (0, 0)).1 ≤ ((pairM g.rise l x).getD k (0, 0)).1 ∧ ((pairM g.rise l x).getD k (0, 0)).2 ≤ (l.getD k (0, 0)).2 := by
  rw [pair_get hg h h0 hx]
  split
  · rename_i e; subst e; dsimp only; omega
  · split
    · rename_i e; subst e; dsimp only; omega
    · exact ⟨Int.le_refl _, Int.le_refl _⟩
theorem sweep_snd {g : GroundT} (hg : GOk g) {l : List Span} (h : Snd g l) : ∀ x, x < nM g → Snd g (sweepM g.rise l x)
  | 0, _ => h
  | x + 1, hx => pair_snd hg (sweep_snd hg h x (by omega)) (by omega) hx
theorem sweep_mono {g : GroundT} (hg : GOk g) {l : List Span} (h : Snd g l) (k : Nat) : ∀ x, x < nM g → (l.getD k (0, 0)).1 ≤ ((sweepM g.rise l x).getD k (0, 0)).1 ∧ ((sweepM g.rise l x).getD k (0, 0)).2 ≤ (l.getD k (0, 0)).2
  | 0, _ => ⟨Int.le_refl _, Int.le_refl _⟩
  | x + 1, hx => by
    have h1 := sweep_mono hg h k x (by omega)
    have h2 := pair_mono hg (sweep_snd hg h x (by omega)) (x := x + 1) (by omega) hx k
    show _ ≤ ((pairM g.rise (sweepM g.rise l x) (x + 1)).getD k (0, 0)).1 ∧ _
    exact ⟨Int.le_trans h1.1 h2.1, Int.le_trans h2.2 h1.2⟩
def Knows (g : GroundT) (l : List Span) (p : PitT) (k : Nat) : Prop := p.2.1.1 - D p.1 (k : Int) * g.rise ≤ (l.getD k (0, 0)).1 ∧ (l.getD k (0, 0)).2 ≤ p.2.1.2 + D p.1 (k : Int) * g.rise
theorem Knows.mono {g : GroundT} {l m : List Span} {p : PitT} {k : Nat} (h : Knows g l p k) (hm : (l.getD k (0, 0)).1 ≤ (m.getD k (0, 0)).1 ∧ (m.getD k (0, 0)).2 ≤ (l.getD k (0, 0)).2) : Knows g m p k := ⟨Int.le_trans h.1 hm.1, Int.le_trans hm.2 h.2⟩
theorem knows_right {g : GroundT} (hg : GOk g) {l : List Span} (h : Snd g l) {x : Nat} (h0 : 0 < x) (hx : x < nM g) {p : PitT} (hp : p.1 ≤ ((x - 1 : Nat) : Int)) (hk : Knows g l p (x - 1)) : Knows g (pairM g.rise l x) p x := by
  unfold Knows at *
  rw [pair_get hg h h0 hx, if_pos rfl]
  have hd : D p.1 (x : Int) = D p.1 ((x - 1 : Nat) : Int) + 1 := by unfold D; omega
  rw [hd, Int.add_mul, Int.one_mul]
  dsimp only
  omega
theorem knows_left {g : GroundT} (hg : GOk g) {l : List Span} (h : Snd g l) {x : Nat} (h0 : 0 < x) (hx : x < nM g) {p : PitT} (hp : (x : Int) ≤ p.1) (hk : Knows g l p x) : Knows g (pairM g.rise l x) p (x - 1) := by
  unfold Knows at *
  rw [pair_get hg h h0 hx, if_neg (by omega), if_pos rfl]
  have hd : D p.1 ((x - 1 : Nat) : Int) = D p.1 (x : Int) + 1 := by unfold D; omega
  rw [hd, Int.add_mul, Int.one_mul]
  dsimp only
  omega
theorem sweep_knows {g : GroundT} (hg : GOk g) {l : List Span} (h : Snd g l) {p : PitT} {a r : Nat} (ha : p.1 = (a : Int)) (han : a < nM g) (hk : ∀ k : Nat, k ≤ a → a ≤ k + r → Knows g l p k) : ∀ x, x < nM g → (∀ k : Nat, a ≤ k → k ≤ x → Knows g (sweepM g.rise l x) p k) ∧ (∀ k : Nat, k ≤ a → k < x → a ≤ k + (r + 1) → Knows g (sweepM g.rise l x) p k)
  | 0, _ => ⟨fun k h1 h2 => by
      have : k = 0 := by omega
      subst this
      exact hk 0 (by omega) (by omega), fun k _ h2 => absurd h2 (Nat.not_lt_zero k)⟩
  | x + 1, hx => by
    obtain ⟨i1, i2⟩ := sweep_knows hg h ha han hk x (by omega)
    have hs := sweep_snd hg h x (by omega)
    have hm := fun k => pair_mono hg hs (x := x + 1) (by omega) hx k
    refine ⟨fun k h1 h2 => ?_, fun k h1 h2 h3 => ?_⟩
    · show Knows g (pairM g.rise (sweepM g.rise l x) (x + 1)) p k
      rcases Nat.lt_or_eq_of_le h2 with h2 | rfl
      · exact (i1 k h1 (by omega)).mono (hm k)
      · by_cases he : a = x + 1
        · refine Knows.mono (hk (x + 1) (by omega) (by omega)) ?_
          exact sweep_mono hg h (x + 1) (x + 1) hx
        · exact knows_right hg hs (by omega) hx (by rw [ha]; show (a : Int) ≤ ((x : Nat) : Int); omega) (i1 x (by omega) (Nat.le_refl x))
    · show Knows g (pairM g.rise (sweepM g.rise l x) (x + 1)) p k
      rcases Nat.lt_or_eq_of_le (Nat.le_of_lt_succ h2) with h2 | rfl
      · exact (i2 k h1 h2 h3).mono (hm k)
      · by_cases he : a ≤ k + r
        · exact Knows.mono (hk k h1 he) (sweep_mono hg h k (k + 1) hx)
        · have h4 : Knows g (sweepM g.rise l k) p (k + 1) := Knows.mono (hk (k + 1) (by omega) (by omega)) (sweep_mono hg h (k + 1) k (by omega))
          exact knows_left hg hs (x := k + 1) (by omega) hx (by rw [ha]; show ((k + 1 : Nat) : Int) ≤ (a : Int); omega) h4
theorem round_snd {g : GroundT} (hg : GOk g) : ∀ k, Snd g (roundM g k)
  | 0 => base1_snd hg _ (Nat.le_refl _)
  | k + 1 => sweep_snd hg (round_snd hg k) _ (by have := (n_ok hg).2.1; omega)
theorem base1_pit {g : GroundT} (hg : GOk g) : ∀ i, i ≤ g.pits.length → ∀ j, j < i → (base1M g i).getD (g.pits.getD j pit0).1.toNat (0, 0) = (g.pits.getD j pit0).2.1
  | 0, _, j, hj => absurd hj (Nat.not_lt_zero j)
  | i + 1, h, j, hj => by
    have hmem : ∀ j, j < g.pits.length → g.pits.getD j pit0 ∈ g.pits := fun j hj => by rw [List.getD_eq_getElem?_getD, List.getElem?_eq_getElem hj]; exact List.getElem_mem _
    have hi := (hg.pits _ (hmem i (by omega))).at_
    have hn := (n_ok hg).1
    show ((base1M g i).set _ _).getD _ _ = _
    rw [getD_set _ _ _ _ _ (by rw [base1_len]; omega)]
    by_cases he : j = i
    · subst he; rw [if_pos rfl]
    · have hlt : (g.pits.getD j pit0).1 < (g.pits.getD i pit0).1 := by
        have := List.pairwise_iff_getElem.1 hg.inc j i (by omega) (by omega) (by omega)
        rw [List.getD_eq_getElem?_getD, List.getD_eq_getElem?_getD, List.getElem?_eq_getElem (show j < g.pits.length by omega), List.getElem?_eq_getElem (show i < g.pits.length by omega)]
        exact this
      have hj0 := (hg.pits _ (hmem j (by omega))).at_
      rw [if_neg (by omega)]
      exact base1_pit hg i (by omega) j (by omega)
theorem round_knows {g : GroundT} (hg : GOk g) {p : PitT} (hp : p ∈ g.pits) {a : Nat} (ha : p.1 = (a : Int)) (han : a < nM g) : ∀ r, (∀ k : Nat, k ≤ a → a ≤ k + r → Knows g (roundM g r) p k) ∧ (0 < r → ∀ k : Nat, a ≤ k → k < nM g → Knows g (roundM g r) p k)
  | 0 => by
    refine ⟨fun k h1 h2 => ?_, fun h => absurd h (Nat.lt_irrefl 0)⟩
    have hka : k = a := by omega
    subst hka
    obtain ⟨j, hj, hje⟩ := List.getElem_of_mem hp
    have he : g.pits.getD j pit0 = p := by rw [List.getD_eq_getElem?_getD, List.getElem?_eq_getElem hj, ← hje]; rfl
    have hb := base1_pit hg g.pits.length (Nat.le_refl _) j hj
    rw [he, ha, Int.toNat_natCast] at hb
    show Knows g (base1M g g.pits.length) p k
    unfold Knows
    rw [hb, ha, D_self]
    omega
  | r + 1 => by
    obtain ⟨i1, _⟩ := round_knows hg hp ha han r
    have hn := (n_ok hg).2.1
    obtain ⟨s1, s2⟩ := sweep_knows hg (round_snd hg r) ha han i1 (nM g - 1) (by omega)
    refine ⟨fun k h1 h2 => ?_, fun _ k h1 h2 => s1 k h1 (by omega)⟩
    by_cases hk : k < nM g - 1
    · exact s2 k h1 hk h2
    · exact s1 k (by omega) (by omega)
theorem round_all {g : GroundT} (hg : GOk g) : roundM g (nM g) = hardsM g (nM g) := by
  have hn := (n_ok hg).2.1
  have hs := round_snd hg (nM g)
  refine List.ext_getElem (by rw [hs.len, hards_len]) fun k h1 h2 => ?_
  have hk : k < nM g := by rw [hs.len] at h1; exact h1
  have e1 : (roundM g (nM g))[k] = (roundM g (nM g)).getD k (0, 0) := by rw [List.getD_eq_getElem?_getD, List.getElem?_eq_getElem h1]; rfl
  have e2 : (hardsM g (nM g))[k] = (hardsM g (nM g)).getD k (0, 0) := by rw [List.getD_eq_getElem?_getD, List.getElem?_eq_getElem h2]; rfl
  rw [e1, e2, hards_get hk]
  have pk := pl_of hg hk
  have hl := hs.lo k hk
  have hh := hs.hi k hk
  have kn : ∀ p ∈ g.pits, Knows g (roundM g (nM g)) p k := fun p hp => by
    have hat := (hg.pits p hp).at_
    obtain ⟨a, ha⟩ := Int.eq_ofNat_of_zero_le hat.1
    have han : a < nM g := by have := (n_ok hg).1; omega
    obtain ⟨r1, r2⟩ := round_knows hg hp ha han (nM g)
    by_cases h : a ≤ k
    · exact r2 hn k h hk
    · exact r1 k (by omega) (by omega)
  refine Prod.ext ?_ ?_
  · refine Int.le_antisymm hl.2 ((hard_lo hg pk _).2 ⟨hl.1, fun p hp => (kn p hp).1⟩)
  · refine Int.le_antisymm ((hard_hi hg pk _).2 ⟨hh.2, fun p hp => (kn p hp).2⟩) hh.1
end AE.Soil

namespace AE.Soil
open Go AE Go.Proofs

def hokM (g : GroundT) : Bool := (List.range (nM g)).all fun k => !decide ((hardM g (k : Int)).1 > (hardM g (k : Int)).2)
theorem hok_bad {g : GroundT} {k : Nat} (hk : k < nM g) (h : (hardM g (k : Int)).1 > (hardM g (k : Int)).2) : hokM g = false := by
  unfold hokM
  rw [List.all_eq_false]
  exact ⟨k, List.mem_range.2 hk, by rw [decide_eq_true h]; decide⟩
theorem hok_all {g : GroundT} : hokM g = true ↔ ∀ k : Nat, k < nM g → ¬ (hardM g (k : Int)).1 > (hardM g (k : Int)).2 := by
  unfold hokM
  rw [List.all_eq_true]
  simp only [List.mem_range, Bool.not_eq_true', decide_eq_false_iff_not]
def rhdH (g : GroundT) (l : List Span) : Heap UU := [.one (.ro .pit g.pits), .one (.cells (cGround g 0) 28), .one (.row .span l 23)]
def rhdL1 (g : GroundT) : LSpec UU where
  T := { x : Nat // x ≤ nM g }
  fr := fun x => [(1, .ptr 1 0 0 0), (4, .gs 2 0), (5, .i x.1)]
  H := fun x => rhdH g (base0M g x.1)
  mu := fun x => nM g - x.1
def rhdL2 (g : GroundT) : LSpec UU where
  T := { i : Nat // i ≤ g.pits.length }
  fr := fun i => [(1, .ptr 1 0 0 0), (4, .gs 2 0), (6, .i i.1)]
  H := fun i => rhdH g (base1M g i.1)
  mu := fun i => g.pits.length - i.1
def rhdL3 (g : GroundT) : LSpec UU where
  T := { k : Nat // k ≤ nM g }
  fr := fun k => [(1, .ptr 1 0 0 0), (4, .gs 2 0), (7, .i k.1)]
  H := fun k => rhdH g (roundM g k.1)
  mu := fun k => nM g - k.1
def rhdL4 (g : GroundT) : LSpec UU where
  T := { p : Nat × Nat // p.1 < nM g ∧ p.2 ≤ nM g - 1 }
  fr := fun p => [(1, .ptr 1 0 0 0), (4, .gs 2 0), (7, .i p.1.1), (8, .i ((p.1.2 + 1 : Nat) : Int))]
  H := fun p => rhdH g (sweepM g.rise (roundM g p.1.1) p.1.2)
  mu := fun p => nM g - p.1.2
def rhdL5 (g : GroundT) : LSpec UU where
  T := { x : Nat // x ≤ nM g ∧ ∀ k : Nat, k < x → ¬ (hardM g (k : Int)).1 > (hardM g (k : Int)).2 }
  fr := fun x => [(1, .ptr 1 0 0 0), (4, .gs 2 0), (11, .i x.1)]
  H := fun _ => rhdH g (roundM g (nM g))
  mu := fun x => nM g - x.1
def rhdLs (g : GroundT) (k : Nat) : Option (LRule UU) :=
  match k with
  | 3 => some (.inv (rhdL1 g))
  | 7 => some (.inv (rhdL2 g))
  | 11 => some (.inv (rhdL3 g))
  | 14 => some (.invR (rhdL4 g) fun a b => b.1.1 = a.1.1)
  | 20 => some (.inv (rhdL5 g))
  | _ => none
def rhdS : FSpec2 UU where
  X := GroundT
  pick := fun args H => match args with
    | [a] => avGround H a
    | _ => none
  args := fun x => [vGround x 0]
  H := fun x => [.one (.ro .pit x.pits)]
  c := fun x => hokM x
  R := fun x => .val ⟨.tup [.gs 1 0, .b true], [], [], [.row .span (hardsM x (nM x)) 23]⟩
  R' := fun _ => .val ⟨.tup [.v (.slice none 0 0), .b false], [], [], []⟩
  pre := fun x => groundM x = true
theorem rhd_ok : ∀ x, rhdS.pre x → (rhdS.c x = true → FunOk Tryz.prog 81 (rhdS.args x) (rhdS.H x) (rhdS.R x)) ∧ (rhdS.c x = false → FunOk Tryz.prog 81 (rhdS.args x) (rhdS.H x) (rhdS.R' x)) := by
  rintro ⟨long, rise, change, ps⟩ hx
  refine fun_of2 (T := []) (L := rhdLs ⟨long, rise, change, ps⟩) (hs := fun _ => []) (sp := fun _ => none) hmix .nil (td := fun _ => none) (fun _ _ h => by cases h) (it := fun _ => none) (fun _ _ h => by cases h) Tryz.func81 (by kernel_rfl) (by kernel_rfl) ?_
  refine Eq.mp (α :=
      let Al := (23 : TypeId); let A4 := nat_lit 0 = nat_lit 0 ∧ nat_lit 0 = nat_lit 0 ∧ nat_lit 0 = nat_lit 0; let Av := hokM (GroundT.mk long rise change ps) = true; let Ag := Value.int IntKind.i64 (0 : Int); let Aw := hokM (GroundT.mk long rise change ps) = false; let Ax := fun (x : Nat) => x ≤ nM (GroundT.mk long rise change ps); let Ay := True ∧ ps = ps ∧ True; let Az := AV.v Ag; let AA := AV.v (Value.int IntKind.i64 (1000 : Int)); let AB := fun (k : Nat) => hardM (GroundT.mk long rise change ps) (↑k : Int); let AC : List Span := hardsM (GroundT.mk long rise change ps) (nM (GroundT.mk long rise change ps)); let Aa : List Span := roundM (GroundT.mk long rise change ps) (nM (GroundT.mk long rise change ps)); let A2 : Type := { x : Nat // Ax x }; let Am := Value.slice none (nat_lit 0) (nat_lit 0) = Value.slice none (nat_lit 0) (nat_lit 0); let A7 := ((0 : Int), (0 : Int)); let Ah := fun (x : A2) => Subtype.val x; let A8 := Al = Al; let AD := List.length Aa; let A1 : Type := { i : Nat // (i ≤ (List.length (GroundT.pits (GroundT.mk long rise change ps)))) }; let An := fun (x : A1) => Subtype.val x; let Ao := fun (x : A2) => (↑(Ah x) : Int); let Ai := fun (x : A2) => roundM (GroundT.mk long rise change ps) (Ah x); let Ad := fun (x : A2) => base0M (GroundT.mk long rise change ps) (Ah x); let Aj := fun (x : A2) => Value.int IntKind.i64 (Ao x); let Ae := fun (x : A1) => (↑(An x) : Int); let Af := fun (x : A1) => base1M (GroundT.mk long rise change ps) (An x); let AE := fun (t : A1) => Int.toNat (Ae t); let AF := fun (x : A1) => Value.int IntKind.i64 (Ae x); let AG := fun (x : A2) => nM (GroundT.mk long rise change ps) - Ah x; let AH := fun (x : A1) => List.length ps - An x; let AI := fun (t : A1) => List.length (Af t); let AJ := fun (t : A1) => nat_lit 0 + AE t; let AK := fun (x : A2) => (Ag = Aj x) ∧ True; let AL := fun (t : A1) => Ae t < ((↑(List.length ps) : Int)); let BG := fun (x : Nat) => ∀ (k : Nat), (k < x → (¬((Prod.fst (AB k)) > (Prod.snd (AB k))))); let AM := fun (t : A1) => AJ t < List.length ps; let A0 : Type := { p : Nat × Nat // ((Prod.fst p < nM (GroundT.mk long rise change ps)) ∧ (Prod.snd p ≤ (nM (GroundT.mk long rise change ps) - (1 : Nat)))) }; let AN := fun (x : A0) => Subtype.val x; let Ak := fun (x : A0) => Prod.snd (AN x); let Ab := fun (x : A0) => Prod.fst (AN x); let A5 := (Value.int IntKind.i64 long = Value.int IntKind.i64 long) ∧ (Value.int IntKind.i64 rise = Value.int IntKind.i64 rise) ∧ (Value.int IntKind.i64 change = Value.int IntKind.i64 change) ∧ (nat_lit 0 = nat_lit 0 ∧ nat_lit 0 = nat_lit 0 ∧ List.length ps = List.length ps) ∧ True; let A3 : Type := { x : Nat // (Ax x ∧ BG x) }; let AO := fun (t : A2) => decide ((Ao t ≤ long)); let AP := fun (x : A3) => Subtype.val x; let AQ := fun (x : A0) => (↑(Ab x) : Int); let AR := fun (t : A2) => AO t = true; let AS := fun (t : A2) => AO t = false; let Ap := fun (x : A0) => Value.int IntKind.i64 (AQ x); let AT := fun (x t : A2) => AG x < AG t; let Ac := fun (x : A3) => (↑(AP x) : Int); let AU := fun (x : A3) => Value.int IntKind.i64 (Ac x); let A9 := fun (x : A0) => (↑((Ak x + nat_lit 1)) : Int); let AW := fun (x : A0) => nM (GroundT.mk long rise change ps) - Ak x; let AX := fun (x : A0) => Value.int IntKind.i64 (A9 x); let AY := fun (x : A3) => nM (GroundT.mk long rise change ps) - AP x; let AZ := fun (t : A0) => (↑((Ak t + (1 : Nat))) : Int); let B0 := fun (t : A3) => nat_lit 0 + (Int.toNat (Ac t)); let B1 := fun (t : A1) => ((0 : Int) ≤ Ae t) ∧ AL t; let B2 := fun (t : A0) => (0 : Int) ≤ A9 t; let Aq := fun (t : A0) => nat_lit 0 + (Int.toNat (A9 t)); let B3 := fun (t : A1) => decide (AL t); let Ar := fun (t : A0) => IntKind.wrap IntKind.i64 ((A9 t - (1 : Int))); let B4 := fun (t : A0) => (0 : Nat) + (Int.toNat (AZ t)); let B5 := fun (t : A3) => B0 t < AD; let As := fun (t : A0) => nat_lit 0 + (Int.toNat (Ar t)); let B6 := ((0 : Int), ((A7, ((A7, ((A7, A7))))))); let B7 := fun (t : A3) => List.getD Aa (B0 t) A7; let B8 := fun (t : A0) => (0 : Nat) + (Int.toNat ((IntKind.wrap IntKind.i64 ((AZ t - (1 : Int)))))); let B9 := fun (t x : A0) => Ab t = Ab x; let A6 := fun (x : A0) => sweepM rise ((roundM (GroundT.mk long rise change ps) (Ab x))) (Ak x); let At := fun (t : A0) => List.length (A6 t); let Ba := fun (t : A0) => (↑(At t) : Int); let Bb := fun (t : A1) => List.getD ps (AJ t) B6; let Bc := fun (t : A3) => decide ((Ac t ≤ long)); let Bd := fun (t : A1) => List.getD ps (((0 : Nat) + AE t)) B6; let Au := fun (t : A1) => Prod.fst (Bb t); let Be := fun (t : A0) => decide ((A9 t ≤ long)); let Bf := fun (t : A1) => Prod.fst ((Prod.snd (Bb t))); let Bg := fun (t : A3) => ((0 : Int) ≤ Ac t) ∧ (Ac t < ((↑AD : Int))); let Bh := fun (t : A1) => Prod.fst (Bf t); let Bi := fun (t : A1) => Prod.fst ((Prod.snd (Bd t))); let Bj := fun (t : A1) => [(AV.v ((Value.int IntKind.i64 ((Prod.snd (Bf t))))))]; let Bk := fun (t : A0) => List.getD (A6 t) (Aq t) A7; let Bl := fun (t : A0) => Prod.fst (Bk t); let Bm := fun (t : A0) => Prod.snd (Bk t); let Bn := fun (t : A0) => As t < At t; let Bo := fun (t : A0) => List.getD (A6 t) (B4 t) A7; let Bp := fun (t : A0) => Prod.fst (Bo t); let Bq := fun (t : A0) => Prod.snd (Bo t); let Br := fun (t : A0) => List.getD (A6 t) (As t) A7; let Bs := fun (t : A0) => Prod.fst (Br t); let Bt := fun (t : A0) => Prod.snd (Br t); let Bu := fun (t : A0) => List.getD (A6 t) (B8 t) A7; let Bv := fun (t : A0) => Prod.fst (Bu t); let Bw := fun (t : A0) => Prod.snd (Bu t); let Bx := fun (t : A0) => ((0 : Int) ≤ Ar t) ∧ Ar t < Ba t; let By := fun (t : A3) => decide (((Prod.fst (B7 t)) > (Prod.snd (B7 t)))); let Bz := fun (t : A0) => max (Bs t) ((IntKind.wrap IntKind.i64 ((Bl t - rise)))); let BA := fun (t : A0) => min (Bw t) ((IntKind.wrap IntKind.i64 ((Bq t + rise)))); let BB := fun (t : A0) => max (Bp t) ((IntKind.wrap IntKind.i64 ((Bv t - rise)))); let BC := fun (t : A0) => max (Bv t) ((IntKind.wrap IntKind.i64 ((Bp t - rise)))); let BD := fun (t : A0) => AV.v ((Value.int IntKind.i64 ((min (Bq t) ((IntKind.wrap IntKind.i64 ((Bw t + rise)))))))); let BE := fun (t : A0) => [(AV.v ((Value.int IntKind.i64 (BA t))))]; let BF := fun (t : A0) => List.length (List.set (A6 t) (As t) (Bz t, BA t)); (∃ (x : A2), (True ∧ nat_lit 0 = nat_lit 0 ∧ True ∧ True) ∧ (True ∧ (True ∧ True ∧ True ∧ True ∧ True) ∧ Ad x = [] ∧ True) ∧ (A4 ∧ Am ∧ AK x) ∧ True ∧ ps = ps ∧ A5 ∧ True ∧ True) ∧ ∀ (t : A2), (AR t → (nat_lit 1 = nat_lit 1 ∧ Az = Az ∧ AA = AA ∧ True) ∧ nat_lit 1 ≤ nat_lit 1 ∧ List.length (Ad t) + nat_lit 1 ≤ nat_lit 1099511627776 ∧ True ∧ ∃ (x : A2), ((A4 ∧ nat_lit 0 = nat_lit 0 ∧ Value.int IntKind.i64 (IntKind.wrap IntKind.i64 (Ao t + (1 : Int))) = Aj x ∧ True) ∧ True ∧ ps = ps ∧ A5 ∧ (nat_lit 23 = Al ∧ Ad t ++ List.take (1 : Nat) (List.drop (0 : Nat) [((0 : Int), (1000 : Int))]) = Ad x) ∧ True) ∧ AT x t) ∧ (AS t → (∃ (x : A1), (A4 ∧ nat_lit 0 = nat_lit 0 ∧ Ag = AF x ∧ True) ∧ True ∧ ps = ps ∧ A5 ∧ (A8 ∧ Ad t = Af x) ∧ True) ∧ ∀ (t : A1), (B3 t = true → B1 t ∧ AM t ∧ B1 t ∧ AM t ∧ ((0 : Int) ≤ Au t ∧ Au t < (↑(AI t) : Int)) ∧ nat_lit 0 + Int.toNat (Au t) < AI t ∧ AV.v (Value.int IntKind.i64 (Prod.fst (Bi t))) :: Bj t = AV.v (Value.int IntKind.i64 (Bh t)) :: Bj t ∧ True ∧ ∃ (x : A1), ((A4 ∧ nat_lit 0 = nat_lit 0 ∧ Value.int IntKind.i64 (IntKind.wrap IntKind.i64 (Ae t + (1 : Int))) = AF x ∧ True) ∧ True ∧ ps = ps ∧ A5 ∧ (A8 ∧ List.set (Af t) ((0 : Nat) + Int.toNat (Prod.fst (Bd t))) (Bh t, Prod.snd (Bi t)) = Af x) ∧ True) ∧ AH x < AH t) ∧ (B3 t = false → (∃ (x : A2), (A4 ∧ nat_lit 0 = nat_lit 0 ∧ AK x) ∧ True ∧ ps = ps ∧ A5 ∧ (A8 ∧ Af t = Ai x) ∧ True) ∧ ∀ (t : A2), (AR t → ∃ (x : A0), ((A4 ∧ nat_lit 0 = nat_lit 0 ∧ Aj t = Ap x ∧ Value.int IntKind.i64 (1 : Int) = AX x ∧ True) ∧ True ∧ ps = ps ∧ A5 ∧ (A8 ∧ Ai t = A6 x) ∧ True) ∧ Ab x = Ab x ∧ ∀ (t_1 : A0), B9 t_1 x → (Be t_1 = true → Bx t_1 ∧ Bn t_1 ∧ (B2 t_1 ∧ A9 t_1 < Ba t_1) ∧ Aq t_1 < At t_1 ∧ Bx t_1 ∧ Bn t_1 ∧ AV.v (Value.int IntKind.i64 (Bz t_1)) :: BE t_1 = AV.v (Value.int IntKind.i64 (BC t_1)) :: BE t_1 ∧ (B2 t_1 ∧ A9 t_1 < (↑(BF t_1) : Int)) ∧ Aq t_1 < BF t_1 ∧ [AV.v (Value.int IntKind.i64 (max (Bl t_1) (IntKind.wrap IntKind.i64 (Bs t_1 - rise)))), BD t_1] = [AV.v (Value.int IntKind.i64 (BB t_1)), BD t_1] ∧ True ∧ ∃ (x_1 : A0), ((A4 ∧ nat_lit 0 = nat_lit 0 ∧ Ap t_1 = Ap x_1 ∧ Value.int IntKind.i64 (IntKind.wrap IntKind.i64 (A9 t_1 + (1 : Int))) = AX x_1 ∧ True) ∧ True ∧ ps = ps ∧ A5 ∧ (A8 ∧ List.set (List.set (A6 t_1) (B8 t_1) (BC t_1, min (Bt t_1) (IntKind.wrap IntKind.i64 (Bm t_1 + rise)))) (B4 t_1) (BB t_1, min (Bm t_1) (IntKind.wrap IntKind.i64 (Bt t_1 + rise))) = A6 x_1) ∧ True) ∧ AW x_1 < AW t_1 ∧ B9 x_1 x) ∧ (Be t_1 = false → True ∧ ∃ (x : A2), ((A4 ∧ nat_lit 0 = nat_lit 0 ∧ Value.int IntKind.i64 (IntKind.wrap IntKind.i64 (AQ t_1 + (1 : Int))) = Aj x ∧ True) ∧ True ∧ ps = ps ∧ A5 ∧ (A8 ∧ A6 t_1 = Ai x) ∧ True) ∧ AT x t)) ∧ (AS t → (∃ (x : A3), (A4 ∧ nat_lit 0 = nat_lit 0 ∧ Ag = AU x ∧ True) ∧ True ∧ ps = ps ∧ A5 ∧ (A8 ∧ Ai t = Aa) ∧ True) ∧ ∀ (t : A3), (Bc t = true → Bg t ∧ B5 t ∧ Bg t ∧ B5 t ∧ (By t = true → (Av → True ∧ ((nat_lit 0 = nat_lit 0 ∧ True ∧ True) ∧ True) ∧ (True ∧ AC = [] ∧ True) ∧ ((Am ∧ Value.bool true = Value.bool false ∧ True) ∧ True) ∧ True ∧ ps = ps ∧ True ∧ True) ∧ (Aw → True ∧ ((Am ∧ Value.bool false = Value.bool false ∧ True) ∧ True) ∧ Ay)) ∧ (By t = false → True ∧ ∃ (x : A3), ((A4 ∧ nat_lit 0 = nat_lit 0 ∧ Value.int IntKind.i64 (IntKind.wrap IntKind.i64 (Ac t + (1 : Int))) = AU x ∧ True) ∧ True ∧ ps = ps ∧ A5 ∧ (A8 ∧ Aa = Aa) ∧ True) ∧ AY x < AY t)) ∧ (Bc t = false → (Av → True ∧ ((nat_lit 0 = nat_lit 0 ∧ Value.bool true = Value.bool true ∧ True) ∧ True) ∧ True ∧ ps = ps ∧ (A8 ∧ Aa = AC) ∧ True) ∧ (Aw → True ∧ ((False ∧ Value.bool false = Value.bool true ∧ True) ∧ True) ∧ Ay))))))
    (by kernel_rfl) ?_
  simp only [eq_self, AE.goS]
  have hg : groundM ⟨long, rise, change, ps⟩ = true := hx
  have ok := ground_ok hg
  obtain ⟨n0, n1, n2⟩ := n_ok ok
  have n0' : ((nM ⟨long, rise, change, ps⟩ : Nat) : Int) = long + 1 := n0
  have h8 : ps.length ≤ 8 := ok.len
  have hb1 := base1_len ⟨long, rise, change, ps⟩
  have hrl := round_len ⟨long, rise, change, ps⟩
  refine ⟨⟨⟨0, Nat.zero_le _⟩, rfl, rfl⟩, fun t => ⟨fun ht => ?_, fun ht => ⟨⟨⟨0, Nat.zero_le _⟩, rfl, ?_⟩, fun t2 => ⟨fun ht2 => ?_, fun ht2 => ⟨⟨⟨0, Nat.zero_le _⟩, rfl, ?_⟩, fun t3 => ⟨fun ht3 => ?_, fun ht3 => ⟨⟨⟨0, Nat.zero_le _, fun k hk => absurd hk (Nat.not_lt_zero k)⟩, rfl, ?_⟩, fun t5 => ⟨fun ht5 => ?_, fun ht5 => ?_⟩⟩⟩⟩⟩⟩⟩⟩
  · obtain ⟨x, hx⟩ := t
    have hlt : x < nM ⟨long, rise, change, ps⟩ := by have h0 : (x : Int) ≤ long := ht; omega
    have hbl : (base0M ⟨long, rise, change, ps⟩ x).length = x := by unfold base0M; simp
    refine ⟨Nat.le_refl _, by show (base0M ⟨long, rise, change, ps⟩ x).length + 1 ≤ _; omega, ⟨x + 1, hlt⟩, ⟨sucI x (by omega), ?_⟩, dec1 hlt⟩
    show base0M ⟨long, rise, change, ps⟩ x ++ [(0, 1000)] = base0M ⟨long, rise, change, ps⟩ (x + 1)
    unfold base0M
    rw [List.range_succ, List.map_append]; rfl
  · obtain ⟨x, hx⟩ := t
    have hxe : x = nM ⟨long, rise, change, ps⟩ := by have h0 : ¬ (x : Int) ≤ long := ht; have h1 : x ≤ nM ⟨long, rise, change, ps⟩ := hx; omega
    subst hxe; rfl
  · obtain ⟨i, hi⟩ := t2
    have hlt : i < ps.length := by have h0 : (i : Int) < (ps.length : Int) := ht2; omega
    have hm : ps.getD i pit0 ∈ ps := getD_mem pit0 hlt
    have hat := (ok.pits _ hm).at_
    have hat1 : 0 ≤ (ps.getD i pit0).1 := hat.1
    have hat2 : (ps.getD i pit0).1 ≤ long := hat.2
    have hb := hb1 i
    exact ⟨⟨Int.natCast_nonneg _, ht2⟩, hlt, ⟨Int.natCast_nonneg _, ht2⟩, hlt, ⟨hat1, by show (ps.getD i pit0).1 < ((base1M ⟨long, rise, change, ps⟩ i).length : Int); omega⟩, by show (ps.getD i pit0).1.toNat < (base1M ⟨long, rise, change, ps⟩ i).length; omega, ⟨i + 1, hlt⟩, ⟨sucI i (by omega), rfl⟩, dec1 hlt⟩
  · obtain ⟨i, hi⟩ := t2
    have hie : i = ps.length := by have h0 : ¬ (i : Int) < (ps.length : Int) := ht2; omega
    subst hie; rfl
  · obtain ⟨k, hk⟩ := t3
    have hkl : k < nM ⟨long, rise, change, ps⟩ := by have h0 : (k : Int) ≤ long := ht3; omega
    refine ⟨⟨(k, 0), hkl, Nat.zero_le _⟩, ⟨⟨rfl, rfl⟩, rfl⟩, fun p hp => ?_⟩
    obtain ⟨⟨k', j⟩, p1, p2⟩ := p
    have hp' : k' = k := hp
    subst hp'
    have p2' : j ≤ nM ⟨long, rise, change, ps⟩ - 1 := p2
    have hsl : (sweepM rise (roundM ⟨long, rise, change, ps⟩ k') j).length = nM ⟨long, rise, change, ps⟩ := by rw [sweep_len, hrl]
    have hw : IntKind.i64.wrap (((j + 1 : Nat) : Int) - 1) = (j : Int) := by rw [wrap_id (by omega) (by omega)]; omega
    simp only [hw, Int.toNat_natCast]
    refine ⟨fun hj => ?_, fun hj => ?_⟩
    · have hj' : j + 1 < nM ⟨long, rise, change, ps⟩ := by have h0 : ((j + 1 : Nat) : Int) ≤ long := hj; omega
      have hi1 : (0 : Int) ≤ (j : Int) ∧ (j : Int) < ((sweepM rise (roundM ⟨long, rise, change, ps⟩ k') j).length : Int) := by omega
      have hi2 : j < (sweepM rise (roundM ⟨long, rise, change, ps⟩ k') j).length := by omega
      have hi3 : (0 : Int) ≤ ((j + 1 : Nat) : Int) ∧ ((j + 1 : Nat) : Int) < ((sweepM rise (roundM ⟨long, rise, change, ps⟩ k') j).length : Int) := by omega
      have hi4 : j + 1 < (sweepM rise (roundM ⟨long, rise, change, ps⟩ k') j).length := by omega
      refine ⟨hi1, hi2, hi3, hi4, hi1, hi2, by rw [List.length_set]; exact hi3, by rw [List.length_set]; exact hi4, ⟨(k', j + 1), p1, by show j + 1 ≤ _; omega⟩, ⟨⟨rfl, sucI (j + 1) (by omega)⟩, ?_⟩, ?_, rfl⟩
      · rfl
      · show nM ⟨long, rise, change, ps⟩ - (j + 1) < nM ⟨long, rise, change, ps⟩ - j; omega
    · have hje : j = nM ⟨long, rise, change, ps⟩ - 1 := by have h0 : ¬ ((j + 1 : Nat) : Int) ≤ long := hj; omega
      refine ⟨⟨k' + 1, hkl⟩, ⟨sucI k' (by omega), ?_⟩, dec1 hkl⟩
      show sweepM rise (roundM ⟨long, rise, change, ps⟩ k') j = roundM ⟨long, rise, change, ps⟩ (k' + 1)
      rw [hje]; rfl
  · obtain ⟨k, hk⟩ := t3
    have hke : k = nM ⟨long, rise, change, ps⟩ := by have h0 : ¬ (k : Int) ≤ long := ht3; have h1 : k ≤ nM ⟨long, rise, change, ps⟩ := hk; omega
    subst hke; rfl
  · obtain ⟨x, hx, hall⟩ := t5
    have hlt : x < nM ⟨long, rise, change, ps⟩ := by have h0 : (x : Int) ≤ long := ht5; omega
    have hln := hrl (nM ⟨long, rise, change, ps⟩)
    have hi1 : (0 : Int) ≤ (x : Int) ∧ (x : Int) < ((roundM ⟨long, rise, change, ps⟩ (nM ⟨long, rise, change, ps⟩)).length : Int) := by omega
    have hi2 : x < (roundM ⟨long, rise, change, ps⟩ (nM ⟨long, rise, change, ps⟩)).length := by omega
    have he : (roundM ⟨long, rise, change, ps⟩ (nM ⟨long, rise, change, ps⟩)).getD x (0, 0) = hardM ⟨long, rise, change, ps⟩ (x : Int) := by rw [round_all ok, hards_get hlt]
    refine ⟨hi1, hi2, hi1, hi2, fun hb => ?_, fun hb => ⟨⟨x + 1, hlt, fun k hk => ?_⟩, sucI x (by omega), dec1 hlt⟩⟩
    · have hb' : ((roundM ⟨long, rise, change, ps⟩ (nM ⟨long, rise, change, ps⟩)).getD x (0, 0)).1 > ((roundM ⟨long, rise, change, ps⟩ (nM ⟨long, rise, change, ps⟩)).getD x (0, 0)).2 := hb
      rw [he] at hb'
      have := hok_bad hlt hb'
      exact ⟨fun h => absurd h (by rw [this]; decide), fun _ => trivial⟩
    · have hb' : ¬ ((roundM ⟨long, rise, change, ps⟩ (nM ⟨long, rise, change, ps⟩)).getD x (0, 0)).1 > ((roundM ⟨long, rise, change, ps⟩ (nM ⟨long, rise, change, ps⟩)).getD x (0, 0)).2 := hb
      rw [he] at hb'
      rcases Nat.lt_or_eq_of_le (Nat.le_of_lt_succ hk) with h1 | rfl
      · exact hall k h1
      · exact hb'
  · obtain ⟨x, hx, hall⟩ := t5
    have hxe : x = nM ⟨long, rise, change, ps⟩ := by have h0 : ¬ (x : Int) ≤ long := ht5; have h1 : x ≤ nM ⟨long, rise, change, ps⟩ := hx; omega
    subst hxe
    have := hok_all.2 hall
    exact ⟨fun _ => round_all ok, fun h => absurd h (by rw [this]; decide)⟩

theorem rhd_sound : Sound Tryz.prog 81 rhdS.con := FSpec2.sound _ (enter_of Tryz.func81 (by kernel_rfl) (by kernel_rfl)) rhd_ok
end AE.Soil

namespace AE.Soil
open Go AE Go.Proofs

def rtruthM (g : GroundT) : Bool := hokM g && decide (((rMixM g 0).length : Int) > 0)
def Ttr : Tab UU := [(81, rhdS.con), (82, rmixS.con)]
theorem Ttr_ok : Ttr.Sound Tryz.prog := .cons rhd_sound (.cons rmix_sound .nil)
def rtruthS : FSpec UU where
  X := GroundT
  pick := fun args H => match args with
    | [a] => avGround H a
    | _ => none
  args := fun (x : GroundT) => [vGround x 0]
  H := fun (x : GroundT) => [.one (.ro .pit x.pits)]
  R := fun (x : GroundT) => .val ⟨.b (rtruthM x), [], [], []⟩
  pre := fun (x : GroundT) => groundM x = true
theorem rtruth_ok : ∀ x, rtruthS.pre x → FunOk Tryz.prog 27 (rtruthS.args x) (rtruthS.H x) (rtruthS.R x) := by
  rintro ⟨long, rise, change, ps⟩ hx
  refine fun_of (T := Ttr) (L := fun _ => none) (hs := fun _ => []) hmix Ttr_ok Tryz.func27 (by kernel_rfl) (by kernel_rfl) ?_
  refine Eq.mp (α :=
      let A0 := ps = ps ∧ True; let A1 := Value.int IntKind.i64 (0 : Int); let A2 := (0 : Int) ≤ long; let A3 := True ∧ A0; let A4 := True ∧ ((Value.bool (rtruthM (GroundT.mk long rise change ps)) = Value.bool false) ∧ True) ∧ A3; let A5 := (Value.int IntKind.i64 long = Value.int IntKind.i64 long) ∧ (Value.int IntKind.i64 rise = Value.int IntKind.i64 rise) ∧ (Value.int IntKind.i64 change = Value.int IntKind.i64 change) ∧ (nat_lit 0 = nat_lit 0 ∧ nat_lit 0 = nat_lit 0 ∧ List.length ps = List.length ps) ∧ True; let A6 := A5 ∧ True; let A7 := (List.length ps < nat_lit 1000) ∧ ((A2 ∧ (long ≤ (40 : Int))) ∧ (((0 : Int) ≤ (0 : Int)) ∧ A2)); let A8 := A5 ∧ (A1 = A1) ∧ True; let A9 := True ∧ ((((Value.bool (decide (((↑(List.length (rMixM (GroundT.mk long rise change ps) (0 : Int))) : Int)) > (0 : Int)))) = Value.bool (rtruthM (GroundT.mk long rise change ps))) ∧ True) ∧ A3); groundM (GroundT.mk long rise change ps) = true ∧ (hokM (GroundT.mk long rise change ps) = true → A6 ∧ A0 ∧ (true = true → A7 ∧ A8 ∧ A0 ∧ A9) ∧ (true = false → A4)) ∧ (hokM (GroundT.mk long rise change ps) = false → A6 ∧ A0 ∧ (false = true → A7 ∧ A8 ∧ A0 ∧ A9) ∧ (false = false → A4)))
    (by kernel_rfl) ?_
  simp only [eq_self, AE.goS]
  have hg : groundM ⟨long, rise, change, ps⟩ = true := hx
  have ok := ground_ok hg
  have h8 : ps.length ≤ 8 := ok.len
  have hl : 0 ≤ long ∧ long ≤ 40 := ok.long
  refine ⟨hg, fun h => ⟨fun _ => ⟨⟨by omega, hl, Int.le_refl _, hl.1⟩, ?_⟩, fun h => absurd h (by decide)⟩, fun h => ⟨fun h => absurd h (by decide), fun _ => ?_⟩⟩
  · unfold rtruthM; rw [h, Bool.true_and]
  · unfold rtruthM; rw [h, Bool.false_and]

theorem rtruth_sound : Sound Tryz.prog 27 rtruthS.con := FSpec.sound _ (enter_of Tryz.func27 (by kernel_rfl) (by kernel_rfl)) rtruth_ok
def rcheckM (g : GroundT) (v : Bool) : Int := if groundM g then (if v then (if rtruthM g then 0 else 10) else 2) else 1
theorem check0 {g : GroundT} {v : Bool} (h : rcheckM g v = 0) : groundM g = true ∧ v = true ∧ hokM g = true ∧ 0 < (rMixM g 0).length ∧ rtruthM g = true := by
  unfold rcheckM at h
  cases hg : groundM g with
  | false => rw [hg] at h; exact absurd h (by simp)
  | true =>
    cases v with
    | false => rw [hg] at h; exact absurd h (by simp)
    | true =>
      cases ht : rtruthM g with
      | false => rw [hg, ht] at h; exact absurd h (by simp)
      | true =>
        have ht' := ht
        unfold rtruthM at ht'
        rw [Bool.and_eq_true, decide_eq_true_eq] at ht'
        exact ⟨rfl, rfl, ht'.1, by omega, rfl⟩
def rsumN (a b : Int) : Nat := (b + 1 - a).toNat
def rsumL (g : GroundT) (a b : Int) : LSpec UU where
  T := { i : Nat // i ≤ rsumN a b }
  fr := fun i => [(2, .i b), (6, .ptr 1 0 0 0), (7, .gs 2 0), (9, .ptr 3 0 0 0), (10, .i (a + (i.1 : Int)))]
  H := fun i => [.one (.ro .pit g.pits), .one (.cells [.i 0, .i 0] 23), .one (.row .span (hardsM g (nM g)) 23), .one (.cells [.i (workAtM g a i.1).1, .i (workAtM g a i.1).2] 23)]
  mu := fun i => rsumN a b - i.1
def rsumM (g : GroundT) (a b : Int) : Span := workAtM g a (rsumN a b)
def avGr3 (H : Heap UU) : List AV → Option (GroundT × Int × Int)
  | [a, b, c] => match avGround H a, avInt b, avInt c with
    | some a, some b, some c => some (a, b, c)
    | _, _, _ => none
  | _ => none
def Trs : Tab UU := [(81, rhdS.con)]
theorem Trs_ok : Trs.Sound Tryz.prog := .cons rhd_sound .nil
def rsumS : FSpec UU where
  X := GroundT × Int × Int
  pick := fun args H => avGr3 H args
  args := fun x => [vGround x.1 0, .i x.2.1, .i x.2.2]
  H := fun x => [.one (.ro .pit x.1.pits)]
  R := fun x => .val ⟨vSpan (rsumM x.1 x.2.1 x.2.2), [], [], []⟩
  pre := fun x => groundM x.1 = true ∧ hokM x.1 = true ∧ 0 ≤ x.2.1 ∧ x.2.1 ≤ x.2.2 ∧ x.2.2 ≤ x.1.long
theorem rsum_ok : ∀ x, rsumS.pre x → FunOk Tryz.prog 90 (rsumS.args x) (rsumS.H x) (rsumS.R x) := by
  rintro ⟨⟨long, rise, change, ps⟩, a, b⟩ hx
  refine fun_of (T := Trs) (L := fun _ => some (.inv (rsumL ⟨long, rise, change, ps⟩ a b))) (hs := fun _ => []) hmix Trs_ok Tryz.func90 (by kernel_rfl) (by kernel_rfl) ?_
  refine Eq.mp (α :=
      let Ab := (23 : TypeId); let A2 := nat_lit 0 = nat_lit 0 ∧ nat_lit 0 = nat_lit 0 ∧ nat_lit 0 = nat_lit 0; let A5 := ps = ps ∧ True; let A4 := Value.int IntKind.i64 (0 : Int); let A6 := Value.int IntKind.i64 b = Value.int IntKind.i64 b; let A0 : Type := { i : Nat // (i ≤ rsumN a b) }; let A3 : List Span := hardsM (GroundT.mk long rise change ps) (nM (GroundT.mk long rise change ps)); let A7 := fun (x : A0) => Subtype.val x; let Ac := List.length A3; let Ad := fun (x : A0) => workAtM (GroundT.mk long rise change ps) a (A7 x); let Ae := A4 = A4; let Af := fun (x : A0) => Prod.snd (Ad x); let Ag := fun (x : A0) => Prod.fst (Ad x); let A1 := fun (x : A0) => a + ((↑(A7 x) : Int)); let A8 := fun (x : A0) => Value.int IntKind.i64 (Ag x); let A9 := fun (x : A0) => Value.int IntKind.i64 (Af x); let Ah := fun (x : A0) => Value.int IntKind.i64 (A1 x); let Ai := fun (t : A0) => nat_lit 0 + (Int.toNat (A1 t)); let Aa := Ae ∧ Ae ∧ True; let Aj := fun (x : A0) => (Int.toNat ((b + (1 : Int)) - a)) - A7 x; let Ak := (Ab = Ab) ∧ A3 = A3; let Al := fun (x : A0) => A2 ∧ (Value.int IntKind.i64 a = Ah x) ∧ True; let Am := ((Value.int IntKind.i64 long = Value.int IntKind.i64 long) ∧ (Value.int IntKind.i64 rise = Value.int IntKind.i64 rise) ∧ (Value.int IntKind.i64 change = Value.int IntKind.i64 change) ∧ (nat_lit 0 = nat_lit 0 ∧ nat_lit 0 = nat_lit 0 ∧ List.length ps = List.length ps) ∧ True) ∧ True; let An := fun (t : A0) => Ai t < Ac; let Ao := fun (t : A0) => decide ((A1 t ≤ b)); let Ap := fun (t : A0) => Ao t = true; let Aq := fun (t : A0) => List.getD A3 (Ai t) (((0 : Int), (0 : Int))); let Ar := fun (x : A0) => ((A4 = A8 x) ∧ (A4 = A9 x) ∧ True) ∧ True; let As := fun (t : A0) => ((0 : Int) ≤ A1 t) ∧ (A1 t < ((↑Ac : Int))); let At := fun (t : A0) => (Ao t = false) → (True ∧ (((A8 t = (Value.int IntKind.i64 (Prod.fst (rsumM (GroundT.mk long rise change ps) a b)))) ∧ (A9 t = (Value.int IntKind.i64 (Prod.snd (rsumM (GroundT.mk long rise change ps) a b)))) ∧ True) ∧ True) ∧ True ∧ A5); let Av := fun (t : A0) => ∃ (x : A0), (((A6 ∧ (A2 ∧ (nat_lit 0 = nat_lit 0 ∧ (A2 ∧ (((Value.int IntKind.i64 ((IntKind.wrap IntKind.i64 ((A1 t + (1 : Int)))))) = Ah x) ∧ True))))) ∧ True ∧ ps = ps ∧ Aa ∧ Ak ∧ (((Value.int IntKind.i64 ((IntKind.wrap IntKind.i64 ((Ag t + (Prod.fst (Aq t))))))) = A8 x) ∧ ((Value.int IntKind.i64 ((IntKind.wrap IntKind.i64 ((Af t + (Prod.snd (Aq t))))))) = A9 x) ∧ True) ∧ True) ∧ Aj x < Aj t); let Au := fun (t : A0) => As t ∧ An t ∧ As t ∧ An t ∧ True ∧ Av t; groundM (GroundT.mk long rise change ps) = true ∧ (hokM (GroundT.mk long rise change ps) = true → Am ∧ A5 ∧ (∃ (x : A0), (A6 ∧ A2 ∧ nat_lit 0 = nat_lit 0 ∧ Al x) ∧ True ∧ ps = ps ∧ Aa ∧ Ak ∧ Ar x) ∧ ∀ (t : A0), (Ap t → Au t) ∧ At t) ∧ (hokM (GroundT.mk long rise change ps) = false → Am ∧ A5 ∧ (∃ (x : A0), (True ∧ True ∧ nat_lit 0 = nat_lit 0 ∧ True ∧ True ∧ True) ∧ (True ∧ (True ∧ True ∧ True) ∧ A3 = [] ∧ (True ∧ True ∧ True) ∧ True) ∧ (A6 ∧ A2 ∧ Value.slice none (nat_lit 0) (nat_lit 0) = Value.slice none (nat_lit 0) (nat_lit 0) ∧ Al x) ∧ True ∧ ps = ps ∧ Aa ∧ True ∧ Ar x) ∧ ∀ (t : A0), (Ap t → Au t) ∧ At t))
    (by kernel_rfl) ?_
  simp only [eq_self, AE.goS]
  obtain ⟨hg, hh, ha, hab, hb⟩ := hx
  have hg' : groundM ⟨long, rise, change, ps⟩ = true := hg
  have hh' : hokM ⟨long, rise, change, ps⟩ = true := hh
  have ha' : 0 ≤ a := ha
  have hab' : a ≤ b := hab
  have hb' : b ≤ long := hb
  have ok := ground_ok hg'
  obtain ⟨n0, n1, n2⟩ := n_ok ok
  have n0' : ((nM ⟨long, rise, change, ps⟩ : Nat) : Int) = long + 1 := n0
  have hln := hards_len ⟨long, rise, change, ps⟩ (nM ⟨long, rise, change, ps⟩)
  refine ⟨hg', fun _ => ⟨⟨⟨0, Nat.zero_le _⟩, by show a = a + ((0 : Nat) : Int); simp, rfl, rfl⟩, fun t => ⟨fun ht => ?_, fun ht => ?_⟩⟩, fun h => absurd h (by rw [hh']; decide)⟩
  · obtain ⟨i, hi⟩ := t
    have hle : a + (i : Int) ≤ b := ht
    have hlt : i < rsumN a b := by unfold rsumN; omega
    have e1 : (a + (i : Int)).toNat = a.toNat + i := by omega
    have b1 : 0 ≤ a + (i : Int) ∧ a + (i : Int) < ((hardsM ⟨long, rise, change, ps⟩ (nM ⟨long, rise, change, ps⟩)).length : Int) := by omega
    have b2 : (a + (i : Int)).toNat < (hardsM ⟨long, rise, change, ps⟩ (nM ⟨long, rise, change, ps⟩)).length := by omega
    refine ⟨b1, b2, b1, b2, ⟨i + 1, hlt⟩, ⟨?_, ?_, ?_⟩, dec1 hlt⟩
    · show IntKind.i64.wrap (a + (i : Int) + 1) = a + ((i + 1 : Nat) : Int)
      rw [wrap_id (by omega) (by omega)]; omega
    · show IntKind.i64.wrap ((workAtM ⟨long, rise, change, ps⟩ a i).1 + ((hardsM ⟨long, rise, change, ps⟩ (nM ⟨long, rise, change, ps⟩)).getD (a + (i : Int)).toNat (0, 0)).1) = _
      rw [e1]; rfl
    · show IntKind.i64.wrap ((workAtM ⟨long, rise, change, ps⟩ a i).2 + ((hardsM ⟨long, rise, change, ps⟩ (nM ⟨long, rise, change, ps⟩)).getD (a + (i : Int)).toNat (0, 0)).2) = _
      rw [e1]; rfl
  · obtain ⟨i, hi⟩ := t
    have hlt : ¬ a + (i : Int) ≤ b := ht
    have hie : i = rsumN a b := by have h1 : i ≤ rsumN a b := hi; unfold rsumN at *; omega
    subst hie
    exact ⟨rfl, rfl⟩

theorem rsum_sound : Sound Tryz.prog 90 rsumS.con := FSpec.sound _ (enter_of Tryz.func90 (by kernel_rfl) (by kernel_rfl)) rsum_ok
def rwokM (g : GroundT) (a b : Int) : Bool := inM a 0 g.long && (inM b 0 g.long && decide (a ≤ b))
def rworkM (g : GroundT) (a b : Int) : Span × Int := if rcheckM g (rwokM g a b) = 0 then (rsumM g a b, 0) else ((0, 0), rcheckM g (rwokM g a b))
end AE.Soil

namespace AE.Soil
open Go AE Go.Proofs

def mergeM (o p : PitT) : PitT := (o.1, bothM o.2.1 p.2.1, bothM o.2.2.1 p.2.2.1, bothM o.2.2.2.1 p.2.2.2.1, bothM o.2.2.2.2 p.2.2.2.2)
def wstepM (p o : PitT) (r : List PitT × Bool) : List PitT × Bool :=
  if !r.2 && decide (o.1 > p.1) then (if o.1 = p.1 then ((r.1 ++ [p]) ++ [mergeM o p], true) else ((r.1 ++ [p]) ++ [o], true)) else (if o.1 = p.1 then (r.1 ++ [mergeM o p], true) else (r.1 ++ [o], r.2))
def wAtM (l : List PitT) (p : PitT) : Nat → List PitT × Bool
  | 0 => ([], false)
  | i + 1 => wstepM p (l.getD i pit0) (wAtM l p i)
def withM (l : List PitT) (p : PitT) : List PitT := if (wAtM l p l.length).2 then (wAtM l p l.length).1 else (wAtM l p l.length).1 ++ [p]
end AE.Soil

namespace AE.Soil
open Go AE Go.Proofs

def Fit (p : PitT) (x : T3) : Prop := In p.2.2.1 x.1 ∧ In p.2.2.2.1 x.2.1 ∧ In p.2.2.2.2 x.2.2
def SpOne (s : Span) (n : Int) : Prop := SpOk s n ∨ s.1 = s.2
structure POne (p : PitT) : Prop where
  hard : SpOne p.2.1 1000
  sand : SpOne p.2.2.1 20
  silt : SpOne p.2.2.2.1 20
  clay : SpOne p.2.2.2.2 20
end AE.Soil

namespace AE.Soil
open Go AE Go.Proofs

def t3 (m : M2) : T3 := (m.1, m.2, 20 - m.1 - m.2)
theorem t3_of {x : T3} (h : Ok3 x) : t3 (x.1, x.2.1) = x := by
  obtain ⟨h0, _⟩ := h
  unfold t3
  exact Prod.ext rfl (Prod.ext rfl (by dsimp only; omega))
theorem clay_eq {m : M2} (h : Ok3 (t3 m)) : rclayM m = (t3 m).2.2 := by
  obtain ⟨h0, h1, h2, h3⟩ := h
  unfold t3 at h1 h2 h3
  dsimp only at h1 h2 h3
  unfold rclayM
  rw [show W (20 - m.1) = 20 - m.1 from wrap_id (by omega) (by omega), show W (20 - m.1 - m.2) = 20 - m.1 - m.2 from wrap_id (by omega) (by omega)]; rfl
theorem mem_row {s t : Nat} {m : M2} : m ∈ rowM s t ↔ m.1 = (s : Int) ∧ 0 ≤ m.2 ∧ m.2 < (t : Int) := by
  unfold rowM
  rw [List.mem_map]
  constructor
  · rintro ⟨b, hb, rfl⟩
    rw [List.mem_range] at hb
    exact ⟨rfl, Int.natCast_nonneg _, by dsimp only; omega⟩
  · rintro ⟨h1, h2, h3⟩
    obtain ⟨b, hb⟩ := Int.eq_ofNat_of_zero_le h2
    exact ⟨b, List.mem_range.2 (by omega), Prod.ext h1.symm hb.symm⟩
theorem mem_rows {m : M2} : ∀ {s : Nat}, m ∈ rowsM s ↔ 0 ≤ m.1 ∧ m.1 < (s : Int) ∧ 0 ≤ m.2 ∧ m.2 < ((21 - m.1.toNat : Nat) : Int)
  | 0 => by simp [rowsM]; intros; omega
  | s + 1 => by
    unfold rowsM
    rw [List.mem_append, mem_rows, mem_row]
    constructor
    · rintro (⟨h1, h2, h3, h4⟩ | ⟨h1, h2, h3⟩)
      · exact ⟨h1, by omega, h3, h4⟩
      · exact ⟨by omega, by omega, h2, by rw [h1, Int.toNat_natCast]; exact h3⟩
    · rintro ⟨h1, h2, h3, h4⟩
      by_cases h : m.1 = (s : Int)
      · refine .inr ⟨h, h3, ?_⟩
        rw [h, Int.toNat_natCast] at h4; exact h4
      · exact .inl ⟨h1, by omega, h3, h4⟩
theorem mem_all2 {l : List PitT} {m : M2} : m ∈ allM l ↔ Ok3 (t3 m) := by
  rw [all_rows, mem_rows]
  unfold Ok3 t3
  dsimp only
  constructor
  · rintro ⟨h1, h2, h3, h4⟩; exact ⟨by omega, h1, h3, by omega⟩
  · rintro ⟨_, h1, h2, h3⟩; exact ⟨h1, by omega, h2, by omega⟩
theorem fit_iff {l : List PitT} {k : Nat} {m : M2} (h : Ok3 (t3 m)) : rfitM l (k : Int) m = true ↔ ∀ p ∈ l, p.1 = (k : Int) → Fit p (t3 m) := by
  unfold rfitM
  rw [List.all_eq_true]
  refine forall_congr' fun p => ?_
  refine imp_congr_right fun _ => ?_
  unfold rfit1M Fit In
  rw [clay_eq h]
  simp only [Bool.or_eq_true, Bool.not_eq_true', beq_eq_false_iff_ne, Bool.and_eq_true, inM_iff]
  constructor
  · rintro (hn | ⟨⟨h1, h2⟩, h3⟩) hk
    · exact absurd hk hn
    · exact ⟨h1, h2, h3⟩
  · intro hh
    by_cases hk : p.1 = (k : Int)
    · obtain ⟨h1, h2, h3⟩ := hh hk
      exact .inr ⟨⟨h1, h2⟩, h3⟩
    · exact .inl hk
theorem near_iff {c : Int} (hc : 0 ≤ c ∧ c ≤ 20) {a b : M2} (ha : Ok3 (t3 a)) (hb : Ok3 (t3 b)) : rnearM c a b = true ↔ Near c (t3 a) (t3 b) := by
  unfold rnearM
  rw [clay_eq ha, clay_eq hb]
  obtain ⟨_, a1, a2, a3⟩ := ha
  obtain ⟨_, b1, b2, b3⟩ := hb
  unfold t3 at *
  dsimp only at *
  rw [show W (a.1 - b.1) = a.1 - b.1 from wrap_id (by omega) (by omega), show W (a.2 - b.2) = a.2 - b.2 from wrap_id (by omega) (by omega), show W (20 - a.1 - a.2 - (20 - b.1 - b.2)) = 20 - a.1 - a.2 - (20 - b.1 - b.2) from wrap_id (by omega) (by omega), show W (0 - c) = 0 - c from wrap_id (by omega) (by omega)]
  simp only [Bool.and_eq_true, inM_iff]
  unfold Near
  dsimp only
  constructor
  · rintro ⟨⟨h1, h2⟩, h3⟩; exact ⟨⟨by omega, by omega⟩, ⟨by omega, by omega⟩, by omega, by omega⟩
  · rintro ⟨h1, h2, h3⟩; exact ⟨⟨⟨by omega, by omega⟩, by omega, by omega⟩, by omega, by omega⟩
theorem ch_mem {g : GroundT} (hg : GOk g) {e st : Int} {ix : Nat → Nat} : ∀ (k : Nat), (∀ i, i ≤ k → xAtM e st i = ((ix i : Nat) : Int)) → ∀ m : M2, m ∈ chM g e st k ↔ Ch (fun i => Al g (ix i)) g.change k (t3 m)
  | 0, hix, m => by
    rw [ch_step]
    unfold stepLM takesM canPM firstM
    rw [List.mem_filter, mem_all2, hix 0 (Nat.le_refl 0)]
    simp only [beq_self_eq_true, Bool.true_or, Bool.true_and]
    show Ok3 (t3 m) ∧ _ ↔ Al g (ix 0) (t3 m)
    constructor
    · rintro ⟨h1, h2⟩; exact ⟨h1, (fit_iff h1).1 h2⟩
    · rintro ⟨h1, h2⟩; exact ⟨h1, (fit_iff h1).2 h2⟩
  | k + 1, hix, m => by
    have ih := ch_mem hg (e := e) (st := st) (ix := ix) k (fun i hi => hix i (by omega))
    rw [ch_step]
    unfold stepLM takesM canPM firstM
    rw [List.mem_filter, mem_all2, hix (k + 1) (Nat.le_refl _)]
    show Ok3 (t3 m) ∧ ((k + 1 == 0 || (chM g e st k).any fun a => rnearM g.change a m) && rfitM g.pits ((ix (k + 1) : Nat) : Int) m) = true ↔ Al g (ix (k + 1)) (t3 m) ∧ ∃ y, Ch (fun i => Al g (ix i)) g.change k y ∧ Near g.change y (t3 m)
    rw [show (k + 1 == 0) = false from rfl, Bool.false_or, Bool.and_eq_true, List.any_eq_true]
    constructor
    · rintro ⟨h1, ⟨a, ha, hn⟩, h3⟩
      have hc := (ih a).1 ha
      have hok : Ok3 (t3 a) := hc.head.1
      exact ⟨⟨h1, (fit_iff h1).1 h3⟩, t3 a, hc, (near_iff hg.change hok h1).1 hn⟩
    · rintro ⟨⟨h1, h2⟩, y, hy, hn⟩
      have hok : Ok3 y := hy.head.1
      refine ⟨h1, ⟨(y.1, y.2.1), (ih _).2 (by rw [t3_of hok]; exact hy), (near_iff hg.change (by rw [t3_of hok]; exact hok) h1).2 (by rw [t3_of hok]; exact hn)⟩, (fit_iff h1).2 h2⟩
theorem eq2_iff (x y : M2) : eq2M x y = true ↔ x = y := by
  unfold eq2M
  simp only [Bool.and_true, Bool.and_eq_true, beq_iff_eq]
  exact ⟨fun h => Prod.ext h.1 h.2, fun h => by subst h; exact ⟨rfl, rfl⟩⟩
theorem mem_cross {a b : List M2} {m : M2} : m ∈ crossM a b ↔ m ∈ a ∧ m ∈ b := by
  unfold crossM innM
  rw [List.mem_flatMap]
  constructor
  · rintro ⟨x, hx, hm⟩
    obtain ⟨y, hy, rfl⟩ := List.mem_map.1 hm
    rw [List.mem_filter, eq2_iff] at hy
    exact ⟨hx, by rw [hy.2]; exact hy.1⟩
  · rintro ⟨h1, h2⟩
    exact ⟨m, h1, List.mem_map.2 ⟨m, List.mem_filter.2 ⟨h2, (eq2_iff m m).2 rfl⟩, rfl⟩⟩
theorem rmix_mem {g : GroundT} (hg : GOk g) {k : Nat} (hk : k < nM g) (m : M2) : m ∈ rMixM g (k : Int) ↔ Mem ((boxesM g).getD k m0) (t3 m) := by
  have hn := (n_ok hg).1
  have e1 : ((((k : Nat) : Int) - 0) * 1).toNat = k := by omega
  have e2 : ((((k : Nat) : Int) - g.long) * (-1)).toNat = nM g - 1 - k := by omega
  have f1 := ch_mem hg (e := 0) (st := 1) (ix := fun i => i) k (fun i _ => by unfold xAtM; omega) m
  have f2 := ch_mem hg (e := g.long) (st := -1) (ix := fun i => nM g - 1 - i) (nM g - 1 - k) (fun i hi => by unfold xAtM; omega) m
  unfold rMixM fwM bwM
  rw [mem_cross, e1, e2, f1, f2, box_truth hg hk]
  constructor
  · rintro ⟨h1, h2⟩; exact both_truth hk h1 h2
  · rintro ⟨w, t, hw⟩
    rw [← hw]
    exact ⟨t.fwd hk, t.bwd hk⟩
theorem rmix_some {g : GroundT} (hg : GOk g) {k : Nat} (hk : k < nM g) : 0 < (rMixM g (k : Int)).length ↔ ∃ w, MTr g w := by
  rw [← box_some hg hk, (stage2 hg hk).1.ex_iff, List.length_pos_iff_exists_mem]
  constructor
  · rintro ⟨m, hm⟩; exact ⟨_, (rmix_mem hg hk m).1 hm⟩
  · rintro ⟨x, hx⟩
    have hok := hx.ok3 (stage2 hg hk).1
    exact ⟨(x.1, x.2.1), (rmix_mem hg hk _).2 (by rw [t3_of hok]; exact hx)⟩
theorem truth_look {g : GroundT} (hg : GOk g) : rtruthM g = lookM g := by
  have hb : ∀ a b : Bool, (a = true ↔ b = true) → a = b := by decide
  refine hb _ _ ?_
  have hn := (n_ok hg).2.1
  have h0 := rmix_some hg hn
  rw [show ((0 : Nat) : Int) = 0 from rfl] at h0
  rw [look_truth hg, ← hok_iff hg, ← h0]
  unfold rtruthM
  rw [Bool.and_eq_true, decide_eq_true_eq, hok_all]
  constructor
  · rintro ⟨h1, h2⟩
    refine ⟨fun k hk => ?_, by omega⟩
    obtain ⟨j, rfl, hj⟩ := place_of hg hk
    have := h1 j hj
    omega
  · rintro ⟨h1, h2⟩
    exact ⟨fun k hk => by have := h1 _ (pl_of hg hk); omega, by omega⟩
theorem check_err (g : GroundT) (v : Bool) (a : Ask) (l : List Int) (h : l.all (askM a g.long) = v) : openErrM g a l = rcheckM g v := by
  unfold openErrM rcheckM
  rw [h]
  cases hg : groundM g with
  | false => rfl
  | true => rw [truth_look (ground_ok hg)]
theorem work_same (g : GroundT) (a b : Int) : workOM g a b = rworkM g a b := by
  unfold workOM rworkM workErrM
  rw [check_err g (rwokM g a b) (.span (spanOkM a b)) [a, b] (by
    unfold rwokM spanOkM
    simp only [List.all_cons, List.all_nil, askM, Bool.and_true]
    cases inM a 0 g.long <;> cases inM b 0 g.long <;> cases decide (a ≤ b) <;> rfl)]
  simp only [beq_iff_eq]
  split
  · rename_i h
    obtain ⟨hg, hv, _⟩ := check0 h
    have ok := ground_ok hg
    have hl := ok.long
    unfold rwokM at hv
    simp only [Bool.and_eq_true, inM_iff, decide_eq_true_eq] at hv
    have hw : W (b + 1) = b + 1 := wrap_id (by omega) (by omega)
    have e : workNM a b = rsumN a b := by unfold workNM rsumN; rw [hw]; omega
    unfold rsumM
    rw [e]
  · rfl
end AE.Soil

namespace AE.Team
open Go AE Go.Proofs AE.Soil

structure HorOk (h : HorT) : Prop where
  l0 : 0 ≤ h.2.1
  l1 : h.2.1 ≤ 100
  g0 : 0 ≤ h.2.2.1
  g1 : h.2.2.1 ≤ 1000
  f0 : 0 ≤ h.2.2.2.1
  f1 : h.2.2.2.1 ≤ 10000
def WOk (w : Span) : Prop := 0 ≤ w.1 ∧ w.1 ≤ w.2 ∧ w.2 ≤ 41000
theorem of_bound {w : Span} (hw : WOk w) (h : HorT) : 0 ≤ ofM h w ∧ ofM h w ≤ 41000 := by
  obtain ⟨h1, h2, h3⟩ := hw
  unfold ofM
  split <;> omega
def costM (h : HorT) (w : Span) : Int := (h.2.1 * ofM h w + 99) / 100
theorem mul_bound {a b m n : Int} (h1 : 0 ≤ a) (h2 : a ≤ m) (h3 : 0 ≤ b) (h4 : b ≤ n) : 0 ≤ a * b ∧ a * b ≤ m * n :=
  ⟨Int.mul_nonneg h1 h3, Int.mul_le_mul h2 h4 h3 (Int.le_trans h1 h2)⟩
theorem cost_bound {h : HorT} (hh : HorOk h) {w : Span} (hw : WOk w) : 0 ≤ costM h w ∧ costM h w ≤ 41001 := by
  have ho := of_bound hw h
  have hm := mul_bound hh.l0 hh.l1 ho.1 ho.2
  unfold costM
  omega
theorem furrow_eq {h : HorT} (hh : HorOk h) {w : Span} (hw : WOk w) {now : Int} (h1 : -1000000000 ≤ now) (h2 : now ≤ 1000000000) : furrowM h w now = now - costM h w := by
  have ho := of_bound hw h
  have hm := mul_bound hh.l0 hh.l1 ho.1 ho.2
  have hc := cost_bound hh hw
  unfold furrowM
  unfold costM at hc ⊢
  have e1 : W (h.2.1 * ofM h w) = h.2.1 * ofM h w := wrap_id (by omega) (by omega)
  rw [e1]
  have e2 : W (h.2.1 * ofM h w + 99) = h.2.1 * ofM h w + 99 := wrap_id (by omega) (by omega)
  rw [e2]
  have e3 : (h.2.1 * ofM h w + 99).tdiv 100 = (h.2.1 * ofM h w + 99) / 100 := Int.tdiv_eq_ediv_of_nonneg (by omega)
  rw [e3]
  have e4 : W ((h.2.1 * ofM h w + 99) / 100) = (h.2.1 * ofM h w + 99) / 100 := wrap_id (by omega) (by omega)
  rw [e4]
  exact wrap_id (by omega) (by omega)
theorem rest_eq {h : HorT} (hh : HorOk h) {r now : Int} (r0 : 0 ≤ r) (r1 : r ≤ 10000) (h1 : -1000000000 ≤ now) (h2 : now ≤ 1000000000) : restM h r now = min h.2.2.2.1 (now + h.2.2.1 * r) := by
  have hm := mul_bound hh.g0 hh.g1 r0 r1
  unfold restM
  have e1 : W (h.2.2.1 * r) = h.2.2.1 * r := wrap_id (by omega) (by omega)
  rw [e1]
  have e2 : W (now + h.2.2.1 * r) = now + h.2.2.1 * r := wrap_id (by omega) (by omega)
  rw [e2]
structure StepsOk (l : List StepT) (w : List Span) : Prop where
  len : l.length ≤ 1000
  rest : ∀ i, i < l.length → 0 ≤ (l.getD i (0, 0, 0)).2.2 ∧ (l.getD i (0, 0, 0)).2.2 ≤ 10000
  work : ∀ i, i < l.length → WOk (w.getD i (0, 0))
theorem do_bound {h : HorT} (hh : HorOk h) {s : StepT} {w : Span} (hw : WOk w) (r0 : 0 ≤ s.2.2) (r1 : s.2.2 ≤ 10000) {now : Int} (h1 : -1000000000 ≤ now) (h2 : now ≤ h.2.2.2.1) : now - 41001 ≤ doM h s w now ∧ doM h s w now ≤ h.2.2.2.1 := by
  have hf1 := hh.f1
  have hf0 := hh.f0
  unfold doM
  split
  · rw [rest_eq hh r0 r1 h1 (by omega)]
    have hm := mul_bound hh.g0 hh.g1 r0 r1
    omega
  · rw [furrow_eq hh hw h1 (by omega)]
    have hc := cost_bound hh hw
    omega
theorem now_bound {l : List StepT} {w : List Span} {h : HorT} (hs : StepsOk l w) (hh : HorOk h) (h0 : 0 ≤ h.1) (h1 : h.1 ≤ h.2.2.2.1) : ∀ i, i ≤ l.length → -(41001 * (i : Int)) ≤ nowM l w h i ∧ nowM l w h i ≤ h.2.2.2.1
  | 0, _ => ⟨by show -(41001 * ((0 : Nat) : Int)) ≤ h.1; omega, h1⟩
  | i + 1, hi => by
    have ih := now_bound hs hh h0 h1 i (by omega)
    have hl := hs.len
    have hr := hs.rest i (by omega)
    have hb := do_bound hh (hs.work i (by omega)) hr.1 hr.2 (now := nowM l w h i) (by omega) ih.2
    show -(41001 * ((i + 1 : Nat) : Int)) ≤ doM h (l.getD i (0, 0, 0)) (w.getD i (0, 0)) (nowM l w h i) ∧ doM h (l.getD i (0, 0, 0)) (w.getD i (0, 0)) (nowM l w h i) ≤ h.2.2.2.1
    omega
structure Less (h h' : HorT) : Prop where
  full : h.2.2.2.1 ≤ h'.2.2.2.1
  loss : h'.2.1 ≤ h.2.1
  gain : h.2.2.1 ≤ h'.2.2.1
theorem do_mono {h h' : HorT} (hh : HorOk h) (hh' : HorOk h') (hL : Less h h') {s : StepT} {w w' : Span} (hw : WOk w) (hw' : WOk w') (ho : ofM h' w' ≤ ofM h w) (r0 : 0 ≤ s.2.2) (r1 : s.2.2 ≤ 10000) {now now' : Int} (h1 : -1000000000 ≤ now) (h2 : now' ≤ 1000000000) (hn : now ≤ now') : doM h s w now ≤ doM h' s w' now' := by
  unfold doM
  split
  · rw [rest_eq hh r0 r1 h1 (by omega), rest_eq hh' r0 r1 (by omega) h2]
    have hm : h.2.2.1 * s.2.2 ≤ h'.2.2.1 * s.2.2 := Int.mul_le_mul_of_nonneg_right hL.gain r0
    have := hL.full
    omega
  · rw [furrow_eq hh hw h1 (by omega), furrow_eq hh' hw' (by omega) h2]
    have hb := of_bound hw' h'
    have hm : h'.2.1 * ofM h' w' ≤ h.2.1 * ofM h w := Int.mul_le_mul hL.loss ho hb.1 hh.l0
    unfold costM
    omega
theorem now_mono {l : List StepT} {w w' : List Span} {h h' : HorT} (hs : StepsOk l w) (hs' : StepsOk l w') (hh : HorOk h) (hh' : HorOk h') (hL : Less h h') (h0 : 0 ≤ h.1) (h1 : h.1 ≤ h.2.2.2.1) (h0' : 0 ≤ h'.1) (h1' : h'.1 ≤ h'.2.2.2.1) (hn : h.1 ≤ h'.1)
    (ho : ∀ i, i < l.length → ofM h' (w'.getD i (0, 0)) ≤ ofM h (w.getD i (0, 0))) : ∀ i, i ≤ l.length → nowM l w h i ≤ nowM l w' h' i
  | 0, _ => hn
  | i + 1, hi => by
    have ih := now_mono hs hs' hh hh' hL h0 h1 h0' h1' hn ho i (by omega)
    have hb := now_bound hs hh h0 h1 i (by omega)
    have hb' := now_bound hs' hh' h0' h1' i (by omega)
    have hl := hs.len
    have hr := hs.rest i (by omega)
    have hf := hh'.f1
    exact do_mono hh hh' hL (hs.work i (by omega)) (hs'.work i (by omega)) (ho i (by omega)) hr.1 hr.2 (by omega) (by omega) ih
theorem fail_iff (l : List StepT) (w : List Span) (h : HorT) : (failedM l w h).2 = true ↔ ∃ i, i < l.length ∧ nowM l w h (i + 1) < 0 := by
  unfold failedM
  split
  · rename_i i hi
    rw [List.find?_range_eq_some] at hi
    exact ⟨fun _ => ⟨i, List.mem_range.1 hi.2.1, of_decide_eq_true hi.1⟩, fun _ => rfl⟩
  · rename_i hi
    rw [List.find?_range_eq_none] at hi
    refine ⟨(fun h => nomatch h), fun ⟨i, h1, h2⟩ => ?_⟩
    have := hi i h1
    simp only [Bool.not_eq_true', decide_eq_false_iff_not] at this
    exact absurd h2 this
theorem fail_mono {l : List StepT} {w w' : List Span} {h h' : HorT} (hm : ∀ i, i ≤ l.length → nowM l w h i ≤ nowM l w' h' i) (hf : (failedM l w h).2 = false) : (failedM l w' h').2 = false := by
  cases e : (failedM l w' h').2 with
  | false => rfl
  | true =>
    obtain ⟨i, hi, hlt⟩ := (fail_iff _ _ _).1 e
    have := hm (i + 1) (by omega)
    have : (failedM l w h).2 = true := (fail_iff _ _ _).2 ⟨i, hi, by omega⟩
    rw [hf] at this; cases this
end AE.Team

namespace AE.Team
open Go AE Go.Proofs AE.Soil

def cTeam (t : TeamT) : List AV := [.i t.1.1, .i t.1.2, .i t.2.1.1, .i t.2.1.2, .i t.2.2.1.1, .i t.2.2.1.2, .i t.2.2.2]
end AE.Team

namespace AE.Team
open Go AE Go.Proofs AE.Soil

theorem comes_err {t : TeamT} {p : PlotT} (h : (openErrM t p true == 0) = false) : comesM t p = (0, openErrM t p true) := by
  unfold comesM; exact if_neg (by rw [h]; decide)
theorem open_hard {t : TeamT} {p : PlotT} {is : Bool} (h : (openErrM t p is == 0) = true) : ((hardOM p.g 0).2 == 0) = true := by
  have h1 := open_team h
  have h2 := open_plot h
  have h3 := open_is h
  unfold openErrM at h
  cases hh : (hardOM p.g 0).2 == 0 with
  | true => rfl
  | false => rw [hh, h1, h2, h3] at h; simp at h
theorem comes_told {t : TeamT} {p : PlotT} (h : (openErrM t p true == 0) = true) : comesM t p = (ansM (fallM t p true).2 (fallM t p false).2, 0) := by
  unfold comesM; exact if_pos h
theorem team_ok {t : TeamT} (h : teamM t = true) : (0 ≤ t.2.2.2 ∧ t.2.2.2 ≤ 10000) ∧ (0 ≤ t.1.1 ∧ t.1.1 ≤ t.1.2 ∧ t.1.2 ≤ t.2.2.2) ∧ (0 ≤ t.2.1.1 ∧ t.2.1.1 ≤ t.2.1.2 ∧ t.2.1.2 ≤ 100) ∧ (0 ≤ t.2.2.1.1 ∧ t.2.2.1.1 ≤ t.2.2.1.2 ∧ t.2.2.1.2 ≤ 1000) := by
  unfold teamM inM spanM at h
  simp only [Bool.and_eq_true, decide_eq_true_eq] at h
  omega
theorem hor_ok {t : TeamT} (h : teamM t = true) (b : Bool) : HorOk (horM t b) ∧ 0 ≤ (horM t b).1 ∧ (horM t b).1 ≤ (horM t b).2.2.2.1 := by
  have := team_ok h
  cases b with
  | true => exact ⟨⟨by show 0 ≤ t.2.1.2; omega, by show t.2.1.2 ≤ 100; omega, by show 0 ≤ t.2.2.1.1; omega, by show t.2.2.1.1 ≤ 1000; omega, by show 0 ≤ t.2.2.2; omega, by show t.2.2.2 ≤ 10000; omega⟩, by show 0 ≤ t.1.1; omega, by show t.1.1 ≤ t.2.2.2; omega⟩
  | false => exact ⟨⟨by show 0 ≤ t.2.1.1; omega, by show t.2.1.1 ≤ 100; omega, by show 0 ≤ t.2.2.1.2; omega, by show t.2.2.1.2 ≤ 1000; omega, by show 0 ≤ t.2.2.2; omega, by show t.2.2.2 ≤ 10000; omega⟩, by show 0 ≤ t.1.2; omega, by show t.1.2 ≤ t.2.2.2; omega⟩
theorem plot_ok {p : PlotT} (h : isPlotM p = true) : groundM p.g = true ∧ p.steps.length ≤ 12 ∧ ∀ i, i < p.steps.length → okStepM p.g.long (p.steps.getD i (0, 0, 0)) = true := by
  have h0 := h
  rw [plot_eq] at h
  simp only [Bool.and_eq_true, decide_eq_true_eq] at h
  refine ⟨h.1.1, by omega, fun i hi => ?_⟩
  cases e : okStepM p.g.long (p.steps.getD i (0, 0, 0)) with
  | true => rfl
  | false =>
    have := plot_no (p := p) hi (by show (!okStepM p.g.long (p.steps.getD i (0, 0, 0))) = true; rw [e]; rfl)
    rw [h0] at this; cases this
theorem step_rest_ok {long : Int} {s : StepT} (h : okStepM long s = true) : 0 ≤ s.2.2 ∧ s.2.2 ≤ 600 := by
  unfold okStepM inM at h
  simp only [Bool.and_eq_true, decide_eq_true_eq] at h
  exact h.1
theorem look_of {p : PlotT} (hg : groundM p.g = true) (h : ((hardOM p.g 0).2 == 0) = true) : lookM p.g = true := by
  have hok := ground_ok hg
  have h0 : Pl p.g 0 := ⟨Int.le_refl _, by have := hok.long.1; omega⟩
  rw [hard_told hg h0] at h
  cases hl : lookM p.g with
  | true => rfl
  | false => rw [hl] at h; simp at h
theorem works_ok {p : PlotT} (hp : isPlotM p = true) (hh : ((hardOM p.g 0).2 == 0) = true) : StepsOk p.steps (worksM p) := by
  obtain ⟨hg, hl, hs⟩ := plot_ok hp
  refine ⟨by omega, fun i hi => ?_, fun i hi => ?_⟩
  · have := step_rest_ok (hs i hi); omega
  · rw [works_get p i hi]
    have hsi := hs i hi
    revert hsi
    generalize p.steps.getD i (0, 0, 0) = s
    intro hsi
    unfold wM
    cases hr : s.2.2 == 0 with
    | false => exact ⟨by show (0 : Int) ≤ 0; omega, by show (0 : Int) ≤ 0; omega, by show (0 : Int) ≤ 41000; omega⟩
    | true =>
      unfold okStepM inM at hsi
      rw [hr] at hsi
      simp only [Bool.not_true, Bool.false_or, Bool.and_eq_true, decide_eq_true_eq] at hsi
      have hok := ground_ok hg
      have hlook := look_of hg hh
      have hn := n_ok hok
      have ha : Pl p.g s.1 := ⟨hsi.2.1.1, by omega⟩
      have hb : Pl p.g s.2.1 := ⟨by omega, hsi.2.2.2⟩
      have hb2 := hb.2
      have e := work_told hg ha hb hsi.2.1.2
      rw [hlook] at e
      simp only [if_true] at e ⊢
      rw [e]
      have hs := sum_bound hok (look_hok hok hlook) s.1.toNat (s.2.1.toNat + 1 - s.1.toNat) (by omega)
      have hl2 := hok.long.2
      exact ⟨hs.1, hs.2.1, by show (sumM p.g s.1.toNat (s.2.1.toNat + 1 - s.1.toNat)).2 ≤ 41000; omega⟩
theorem of_le {w : Span} (hw : WOk w) (t t' : TeamT) : ofM (horM t' false) w ≤ ofM (horM t true) w := hw.2.1
theorem less_case {t : TeamT} (h : teamM t = true) : Less (horM t true) (horM t false) := by
  have := team_ok h
  exact ⟨Int.le_refl _, by show t.2.1.1 ≤ t.2.1.2; omega, by show t.2.2.1.1 ≤ t.2.2.1.2; omega⟩
theorem case_mono {t : TeamT} {l : List StepT} {w : List Span} (h : teamM t = true) (hs : StepsOk l w) : ∀ i, i ≤ l.length → nowM l w (horM t true) i ≤ nowM l w (horM t false) i := by
  obtain ⟨a1, a2, a3⟩ := hor_ok h true
  obtain ⟨b1, b2, b3⟩ := hor_ok h false
  have := team_ok h
  exact now_mono hs hs a1 b1 (less_case h) a2 a3 b2 b3 (by show t.1.1 ≤ t.1.2; omega) fun i hi => of_le (hs.work i hi) t t
end AE.Team

namespace AE.Team
open Go AE Go.Proofs AE.Soil

section
variable {g : GroundT} {st : List StepT} {h : HorT} {r : List Int}
end
end AE.Team

namespace AE.Team
open Go AE Go.Proofs AE.Soil

section
variable {l : List StepT} {w : List Span} {h : HorT}
structure FOk (l : List StepT) (w : List Span) (h : HorT) : Prop where
  hor : HorOk h
  s0 : 0 ≤ h.1
  s1 : h.1 ≤ h.2.2.2.1
  st : StepsOk l w
  z : ∀ i, i < l.length → (l.getD i (0, 0, 0)).2.2 = 0
theorem FOk.no (f : FOk l w h) {i : Nat} (hi : i < l.length) : (stpM l i).1 = false := by
  unfold stpM
  exact decide_eq_false (by rw [f.z i hi]; decide)
end
end AE.Team

namespace AE.Team
open Go AE Go.Proofs AE.Soil

section
variable {t : TeamT} {p : PlotT}
end
end AE.Team

namespace AE.Team
open Go AE Go.Proofs AE.Soil

def NowLe (l : List StepT) (w w' : List Span) (h h' : HorT) : Prop := ∀ i, i ≤ l.length → nowM l w h i ≤ nowM l w' h' i
theorem nowLe_of {l : List StepT} {w w' : List Span} {h h' : HorT} (hs : StepsOk l w) (hs' : StepsOk l w') (hh : HorOk h) (hh' : HorOk h') (hL : Less h h') (h0 : 0 ≤ h.1) (h1 : h.1 ≤ h.2.2.2.1) (h0' : 0 ≤ h'.1) (h1' : h'.1 ≤ h'.2.2.2.1) (hn : h.1 ≤ h'.1)
    (ho : ∀ i, i < l.length → ofM h' (w'.getD i (0, 0)) ≤ ofM h (w.getD i (0, 0))) : NowLe l w w' h h' := now_mono hs hs' hh hh' hL h0 h1 h0' h1' hn ho
section
variable {t t' : TeamT} {p p' : PlotT}
theorem fall_case (ho : (openErrM t p true == 0) = true) : (failedM p.steps (worksM p) (horM t true)).2 = false → (failedM p.steps (worksM p) (horM t false)).2 = false :=
  fail_mono (case_mono (open_team ho) (works_ok (open_plot ho) (open_hard ho)))
theorem left_told {n : Int} (h : (openErrM t p (inM n 0 p.steps.length) == 0) = true) : leftM t p n = ((endM t p true n.toNat, endM t p false n.toNat), 0) := by
  unfold leftM
  rw [if_pos h]
theorem left_err {n : Int} (h : (openErrM t p (inM n 0 p.steps.length) == 0) = false) : leftM t p n = ((0, 0), openErrM t p (inM n 0 p.steps.length)) := by
  unfold leftM
  rw [if_neg (by rw [h]; decide)]
end
section
variable {l : List StepT} {w : List Span} {h h' : HorT}
structure LessH (h h' : HorT) : Prop where
  less : Less h h'
  full : h.2.2.2.1 = h'.2.2.2.1
  now : h.1 ≤ h'.1
  worst : h.2.2.2.2 = h'.2.2.2.2
end
section
variable {t t' : TeamT} {p : PlotT}
end
end AE.Team

namespace AE.Team
open Go AE Go.Proofs AE.Soil

abbrev RhT := Int × Int × Int × Bool
def rHor (t : TeamT) (r : RhT) : HorT := (r.1, r.2.1, r.2.2.1, t.2.2.2, r.2.2.2)
def vRh (r : RhT) : AV := .agg [.i r.1, .i r.2.1, .i r.2.2.1, .b r.2.2.2]
def avRh : AV → Option RhT
  | .agg [a, b, c, d] => match avInt a, avInt b, avInt c, avBool d with
    | some a, some b, some c, some d => some (a, b, c, d)
    | _, _, _, _ => none
  | _ => none
def vStepA (s : StepT) : AV := .agg [.i s.1, .i s.2.1, .i s.2.2]
def avStepA : AV → Option StepT
  | .agg [a, b, c] => match avInt a, avInt b, avInt c with
    | some a, some b, some c => some (a, b, c)
    | _, _, _ => none
  | _ => none
def afterM (t : TeamT) (g : GroundT) (r : RhT) (now : Int) (s : StepT) : Int × Bool := if s.2.2 > 0 then (restM (rHor t r) s.2.2 now, false) else (furrowM (rHor t r) (rsumM g s.1 s.2.1) now, decide (furrowM (rHor t r) (rsumM g s.1 s.2.1) now < 0))
structure GoOk (p : PlotT) : Prop where
  ground : groundM p.g = true
  hard : hokM p.g = true
  steps : ∀ i, i < p.steps.length → okStepM p.g.long (p.steps.getD i (0, 0, 0)) = true
def afterS : FSpec UU where
  X := TeamT × PlotT × RhT × Int × StepT
  pick := fun args H => match args with
    | [a, b, c, d, e] => match avTeam a, avPlot H b, avRh c, avInt d, avStepA e with
      | some a, some b, some c, some d, some e => some (a, b, c, d, e)
      | _, _, _, _, _ => none
    | _ => none
  args := fun x => [vTeam x.1, vPlot x.2.1 0 1, vRh x.2.2.1, .i x.2.2.2.1, vStepA x.2.2.2.2]
  H := fun x => hPlot x.2.1
  R := fun x => .val ⟨.tup [.i (afterM x.1 x.2.1.g x.2.2.1 x.2.2.2.1 x.2.2.2.2).1, .b (afterM x.1 x.2.1.g x.2.2.1 x.2.2.2.1 x.2.2.2.2).2], [], [], []⟩
  pre := fun x => groundM x.2.1.g = true ∧ hokM x.2.1.g = true ∧ okStepM x.2.1.g.long x.2.2.2.2 = true
def Tafter : Tab UU := [(90, rsumS.con)]
theorem Tafter_ok : Tafter.Sound Tryz.prog := .cons rsum_sound .nil
theorem ok_step {long : Int} {s : StepT} (h : okStepM long s = true) (hr : ¬ s.2.2 > 0) : 0 ≤ s.1 ∧ s.1 ≤ s.2.1 ∧ s.2.1 ≤ long := by
  unfold okStepM inM at h
  simp only [Bool.and_eq_true, Bool.or_eq_true, Bool.not_eq_true', decide_eq_true_eq, beq_eq_false_iff_ne] at h
  omega
theorem after_ok : ∀ x, afterS.pre x → FunOk Tryz.prog 51 (afterS.args x) (afterS.H x) (afterS.R x) := by
  rintro ⟨⟨⟨s0, s1⟩, ⟨l0, l1⟩, ⟨g0, g1⟩, full⟩, ⟨⟨long, rise, change, ps⟩, st⟩, ⟨r0, r1, r2, r3⟩, now, ⟨a, b, c⟩⟩ hx
  refine fun_of (T := Tafter) (L := fun _ => none) (hs := fun _ => []) hmix Tafter_ok Tryz.func51 (by kernel_rfl) (by kernel_rfl) ?_
  refine Eq.mp (α :=
      let A3 := (100 : Int) ≠ (0 : Int); let A0 := True ∧ ps = ps ∧ st = st ∧ True; let A4 := afterM (((s0, s1), (((l0, l1), (((g0, g1), full)))))) (GroundT.mk long rise change ps) ((r0, ((r1, r2, r3)))) now ((a, b, c)); let A5 := IntKind.wrap IntKind.i64 (now - (IntKind.wrap IntKind.i64 (Int.tdiv (IntKind.wrap IntKind.i64 ((IntKind.wrap IntKind.i64 (r1 * (Prod.snd (rsumM (GroundT.mk long rise change ps) a b)))) + (99 : Int))) (100 : Int)))); let A6 := IntKind.wrap IntKind.i64 (now - (IntKind.wrap IntKind.i64 (Int.tdiv (IntKind.wrap IntKind.i64 ((IntKind.wrap IntKind.i64 (r1 * (Prod.fst (rsumM (GroundT.mk long rise change ps) a b)))) + (99 : Int))) (100 : Int)))); let A1 := Value.bool (Prod.snd A4); let A2 := Value.int IntKind.i64 (Prod.fst A4); let A7 := decide (c > (0 : Int)); (A7 = true → True ∧ ((Value.int IntKind.i64 (min full (IntKind.wrap IntKind.i64 (now + IntKind.wrap IntKind.i64 (r2 * c)))) = A2 ∧ A1 = Value.bool false ∧ True) ∧ True) ∧ A0) ∧ (A7 = false → (groundM (GroundT.mk long rise change ps) = true ∧ hokM (GroundT.mk long rise change ps) = true ∧ (0 : Int) ≤ a ∧ a ≤ b ∧ b ≤ long) ∧ ((Value.int IntKind.i64 long = Value.int IntKind.i64 long ∧ Value.int IntKind.i64 rise = Value.int IntKind.i64 rise ∧ Value.int IntKind.i64 change = Value.int IntKind.i64 change ∧ (nat_lit 0 = nat_lit 0 ∧ nat_lit 0 = nat_lit 0 ∧ List.length ps = List.length ps) ∧ True) ∧ Value.int IntKind.i64 a = Value.int IntKind.i64 a ∧ Value.int IntKind.i64 b = Value.int IntKind.i64 b ∧ True) ∧ (ps = ps ∧ True) ∧ (r3 = true → A3 ∧ True ∧ ((Value.int IntKind.i64 A5 = A2 ∧ Value.bool (decide (A5 < (0 : Int))) = A1 ∧ True) ∧ True) ∧ A0) ∧ (r3 = false → A3 ∧ True ∧ ((Value.int IntKind.i64 A6 = A2 ∧ Value.bool (decide (A6 < (0 : Int))) = A1 ∧ True) ∧ True) ∧ A0)))
    (by kernel_rfl) ?_
  simp only [eq_self, AE.goS]
  obtain ⟨h1, h2, h3⟩ := hx
  refine ⟨fun hc => ?_, fun hc => ⟨⟨h1, h2, ok_step h3 hc⟩, fun hr => ⟨by decide, ?_⟩, fun hr => ⟨by decide, ?_⟩⟩⟩
  · unfold afterM
    rw [if_pos hc]
    exact ⟨rfl, rfl⟩
  · subst hr
    unfold afterM
    rw [if_neg hc]
    exact ⟨rfl, rfl⟩
  · subst hr
    unfold afterM
    rw [if_neg hc]
    exact ⟨rfl, rfl⟩

theorem after_sound : Sound Tryz.prog 51 afterS.con := FSpec.sound _ (enter_of Tryz.func51 (by kernel_rfl) (by kernel_rfl)) after_ok
def nowR (t : TeamT) (p : PlotT) (r : RhT) : Nat → Int
  | 0 => r.1
  | i + 1 => (afterM t p.g r (nowR t p r i) (p.steps.getD i (0, 0, 0))).1
def isR (t : TeamT) (p : PlotT) (r : RhT) (i : Nat) : Bool := (afterM t p.g r (nowR t p r i) (p.steps.getD i (0, 0, 0))).2
def fallRM (t : TeamT) (p : PlotT) (r : RhT) : Int := match (List.range p.steps.length).find? fun i => isR t p r i with
  | some i => i
  | none => -1
theorem fall_at {t : TeamT} {p : PlotT} {r : RhT} {i : Nat} (hi : i < p.steps.length) (h : isR t p r i = true) (h0 : ∀ j, j < i → isR t p r j = false) : fallRM t p r = i := by
  have : (List.range p.steps.length).find? (fun i => isR t p r i) = some i := by
    rw [List.find?_range_eq_some]
    exact ⟨h, List.mem_range.2 hi, fun j hj => by simp [h0 j hj]⟩
  unfold fallRM
  rw [this]
theorem fall_none {t : TeamT} {p : PlotT} {r : RhT} (h0 : ∀ j, j < p.steps.length → isR t p r j = false) : fallRM t p r = -1 := by
  have : (List.range p.steps.length).find? (fun i => isR t p r i) = none := by
    rw [List.find?_range_eq_none]
    intro j hj
    simp [h0 j hj]
  unfold fallRM
  rw [this]
def cRh (r : RhT) : List AV := [.i r.1, .i r.2.1, .i r.2.2.1, .b r.2.2.2]
def nowRM (t : TeamT) (p : PlotT) (r : RhT) (i : Nat) : Int := nowR t p r i
def fallL (t : TeamT) (p : PlotT) (r : RhT) : LSpec UU where
  T := { i : Nat // i ≤ p.steps.length ∧ ∀ j, j < i → isR t p r j = false }
  fr := fun i => [(3, .ptr 2 0 0 0), (4, .ptr 3 0 0 0), (5, .ptr 4 0 0 0), (7, .i (nowRM t p r i.1)), (8, .i i.1)]
  H := fun _ => hPlot p ++ [.one (.cells (cTeam t) 25), .one (.cells (cPlot p 0 1) 31), .one (.cells (cRh r) 85)]
  mu := fun i => p.steps.length - i.1
def failedRS : FSpec UU where
  X := TeamT × PlotT × RhT
  pick := fun args H => match args with
    | [a, b, c] => match avTeam a, avPlot H b, avRh c with
      | some a, some b, some c => some (a, b, c)
      | _, _, _ => none
    | _ => none
  args := fun x => [vTeam x.1, vPlot x.2.1 0 1, vRh x.2.2]
  H := fun x => hPlot x.2.1
  R := fun x => .val ⟨.i (fallRM x.1 x.2.1 x.2.2), [], [], []⟩
  pre := fun x => GoOk x.2.1 ∧ x.2.1.steps.length < 1000000
def TfailedR : Tab UU := [(51, afterS.con)]
theorem TfailedR_ok : TfailedR.Sound Tryz.prog := .cons after_sound .nil
theorem failedR_ok : ∀ x, failedRS.pre x → FunOk Tryz.prog 46 (failedRS.args x) (failedRS.H x) (failedRS.R x) := by
  rintro ⟨⟨⟨s0, s1⟩, ⟨l0, l1⟩, ⟨g0, g1⟩, full⟩, ⟨⟨long, rise, change, ps⟩, st⟩, ⟨r0, r1, r2, r3⟩⟩ hx
  refine fun_of (T := TfailedR) (L := fun _ => some (.inv (fallL ((s0, s1), (l0, l1), (g0, g1), full) ⟨⟨long, rise, change, ps⟩, st⟩ (r0, r1, r2, r3)))) (hs := fun _ => []) hmix TfailedR_ok Tryz.func46 (by kernel_rfl) (by kernel_rfl) ?_
  refine Eq.mp (α :=
      let A1 := nat_lit 0 = nat_lit 0 ∧ nat_lit 0 = nat_lit 0 ∧ nat_lit 0 = nat_lit 0; let A3 := (r0, ((r1, r2, r3))); let Aa := ps = ps ∧ st = st ∧ True; let Ab := True ∧ Aa; let A4 := ((s0, s1), (((l0, l1), (((g0, g1), full))))); let Ac := (Value.int IntKind.i64 r0 = Value.int IntKind.i64 r0) ∧ (Value.int IntKind.i64 r1 = Value.int IntKind.i64 r1) ∧ (Value.int IntKind.i64 r2 = Value.int IntKind.i64 r2) ∧ Value.bool r3 = Value.bool r3 ∧ True; let Ad := Value.int IntKind.i64 (fallRM A4 (PlotT.mk (GroundT.mk long rise change ps) st) A3); let Aq := fun (i : Nat) => ∀ (j : Nat), (j < i → ((isR A4 (PlotT.mk (GroundT.mk long rise change ps) st) A3 j) = false)); let Ae := (Value.int IntKind.i64 long = Value.int IntKind.i64 long) ∧ (Value.int IntKind.i64 rise = Value.int IntKind.i64 rise) ∧ (Value.int IntKind.i64 change = Value.int IntKind.i64 change) ∧ (nat_lit 0 = nat_lit 0 ∧ nat_lit 0 = nat_lit 0 ∧ List.length ps = List.length ps) ∧ (nat_lit 0 = nat_lit 0 ∧ nat_lit 0 = nat_lit 0 ∧ List.length st = List.length st) ∧ True; let Af := (Value.int IntKind.i64 s0 = Value.int IntKind.i64 s0) ∧ (Value.int IntKind.i64 s1 = Value.int IntKind.i64 s1) ∧ (Value.int IntKind.i64 l0 = Value.int IntKind.i64 l0) ∧ (Value.int IntKind.i64 l1 = Value.int IntKind.i64 l1) ∧ (Value.int IntKind.i64 g0 = Value.int IntKind.i64 g0) ∧ (Value.int IntKind.i64 g1 = Value.int IntKind.i64 g1) ∧ (Value.int IntKind.i64 full = Value.int IntKind.i64 full) ∧ True; let A0 : Type := { i : Nat // ((i ≤ (List.length (PlotT.steps (PlotT.mk (GroundT.mk long rise change ps) st)))) ∧ Aq i) }; let A7 := fun (x : A0) => Subtype.val x; let A2 := fun (x : A0) => (↑(A7 x) : Int); let A8 := fun (x : A0) => Value.int IntKind.i64 (A2 x); let Ag := fun (x : A0) => List.length st - A7 x; let Ah := fun (t : A0) => nat_lit 0 + (Int.toNat (A2 t)); let Ai := fun (t : A0) => A2 t < ((↑(List.length st) : Int)); let A5 := fun (t : A0) => List.getD st (Ah t) (((0 : Int), (((0 : Int), (0 : Int))))); let Aj := fun (t : A0) => Prod.snd (A5 t); let Ak := fun (t : A0) => Value.int IntKind.i64 ((Prod.fst (A5 t))); let Al := fun (x : A0) => nowRM A4 (PlotT.mk (GroundT.mk long rise change ps) st) A3 (A7 x); let Am := fun (t : A0) => Value.int IntKind.i64 ((Prod.snd (Aj t))); let An := fun (t : A0) => Value.int IntKind.i64 ((Prod.fst (Aj t))); let A6 := fun (x : A0) => Value.int IntKind.i64 (Al x); let Ao := ps = ps ∧ st = st ∧ Af ∧ Ae ∧ Ac ∧ True; let Ap := fun (t : A0) => decide (Ai t); let A9 := fun (t : A0) => afterM A4 (GroundT.mk long rise change ps) A3 (Al t) (A5 t); (∃ (x : A0), (A1 ∧ A1 ∧ A1 ∧ Value.int IntKind.i64 r0 = A6 x ∧ Value.int IntKind.i64 (0 : Int) = A8 x ∧ True) ∧ True ∧ Ao) ∧ ∀ (t : A0), (Ap t = true → ((0 : Int) ≤ A2 t ∧ Ai t) ∧ Ah t < List.length st ∧ (groundM (GroundT.mk long rise change ps) = true ∧ hokM (GroundT.mk long rise change ps) = true ∧ okStepM long (A5 t) = true) ∧ (Af ∧ Ae ∧ Ac ∧ A6 t = A6 t ∧ (Ak t = Ak t ∧ An t = An t ∧ Am t = Am t ∧ True) ∧ True) ∧ Aa ∧ (Prod.snd (A9 t) = true → True ∧ (A8 t = Ad ∧ True) ∧ Ab) ∧ (Prod.snd (A9 t) = false → True ∧ ∃ (x : A0), ((A1 ∧ A1 ∧ A1 ∧ Value.int IntKind.i64 (Prod.fst (A9 t)) = A6 x ∧ Value.int IntKind.i64 (IntKind.wrap IntKind.i64 (A2 t + (1 : Int))) = A8 x ∧ True) ∧ True ∧ Ao) ∧ Ag x < Ag t)) ∧ (Ap t = false → True ∧ (Value.int IntKind.i64 (-1 : Int) = Ad ∧ True) ∧ Ab))
    (by kernel_rfl) ?_
  simp only [eq_self, AE.goS]
  obtain ⟨⟨hg, hh, hst⟩, hlen⟩ := hx
  have hlen' : st.length < 1000000 := hlen
  refine ⟨⟨⟨0, Nat.zero_le _, fun j hj => absurd hj (Nat.not_lt_zero j)⟩, rfl, rfl⟩, fun t => ⟨fun ht => ?_, fun ht => ?_⟩⟩
  · obtain ⟨i, hi, h0⟩ := t
    have hlt : i < st.length := by have h1 : (i : Int) < (st.length : Int) := ht; omega
    refine ⟨⟨Int.natCast_nonneg _, ht⟩, hlt, ⟨hg, hh, hst i hlt⟩, fun h => ?_, fun h => ⟨⟨i + 1, hlt, fun j hj => ?_⟩, ⟨rfl, sucI i (by omega)⟩, dec1 hlt⟩⟩
    · exact (fall_at (t := ((s0, s1), (l0, l1), (g0, g1), full)) (p := ⟨⟨long, rise, change, ps⟩, st⟩) (r := (r0, r1, r2, r3)) hlt h h0).symm
    · rcases Nat.lt_or_eq_of_le (Nat.le_of_lt_succ hj) with h2 | rfl
      · exact h0 j h2
      · exact h
  · obtain ⟨i, hi, h0⟩ := t
    have hie : i = st.length := by have h1 : ¬ (i : Int) < (st.length : Int) := ht; omega
    subst hie
    exact (fall_none h0).symm

theorem failedR_sound : Sound Tryz.prog 46 failedRS.con := FSpec.sound _ (enter_of Tryz.func46 (by kernel_rfl) (by kernel_rfl)) failedR_ok
def gRM (s l g : Int) : Nat → List RhT
  | 0 => []
  | n + 1 => gRM s l g n ++ [(s, l, g + n, false), (s, l, g + n, true)]
def lRM (s l g : Int) (n : Nat) : Nat → List RhT
  | 0 => []
  | m + 1 => lRM s l g n m ++ gRM s (l + m) g n
def sRM (s l g : Int) (n m : Nat) : Nat → List RhT
  | 0 => []
  | k + 1 => sRM s l g n m k ++ lRM (s + k) l g n m
def wideM (s : Span) : Nat := (s.2 - s.1 + 1).toNat
def allRM (t : TeamT) : List RhT := sRM t.1.1 t.2.1.1 t.2.2.1.1 (wideM t.2.2.1) (wideM t.2.1) (wideM t.1)
theorem gR_len (s l g : Int) : ∀ n, (gRM s l g n).length = 2 * n
  | 0 => rfl
  | n + 1 => by rw [gRM, List.length_append, gR_len s l g n]; simp; omega
theorem lR_len (s l g : Int) (n : Nat) : ∀ m, (lRM s l g n m).length = 2 * n * m
  | 0 => rfl
  | m + 1 => by rw [lRM, List.length_append, lR_len s l g n m, gR_len, Nat.mul_succ]
theorem sR_len (s l g : Int) (n m : Nat) : ∀ k, (sRM s l g n m k).length = 2 * n * m * k
  | 0 => rfl
  | k + 1 => by rw [sRM, List.length_append, sR_len s l g n m k, lR_len, Nat.mul_succ]
theorem all_len (s l g : Int) (n m i j k : Nat) (hn : n ≤ 1001) (hm : m ≤ 101) (hi : i ≤ 10001) (hj : j ≤ 101) (hk : k ≤ 1001) : (sRM s l g n m i ++ lRM (s + i) l g n j ++ gRM (s + i) (l + j) g k).length ≤ 2 * 1001 * 101 * 10003 := by
  rw [List.length_append, List.length_append, sR_len, lR_len, gR_len]
  have h1 : 2 * n * m ≤ 2 * 1001 * 101 := Nat.mul_le_mul (Nat.mul_le_mul_left 2 hn) hm
  have h2 : 2 * n * m * i ≤ 2 * 1001 * 101 * 10001 - 2 * 1001 * 101 * 0 := Nat.mul_le_mul h1 hi
  have h3 : 2 * n * j ≤ 2 * 1001 * 100 + 2 * 1001 := Nat.mul_le_mul (Nat.mul_le_mul_left 2 hn) hj
  omega
def aH (t : TeamT) (l : List RhT) : Heap UU := [.one (.cells (cTeam t) 25), .one (.row .rhorse l 85)]
def aL1 (t : TeamT) : LSpec UU where
  T := { i : Nat // i ≤ wideM t.1 }
  fr := fun i => [(1, .ptr 0 0 0 0), (3, .gs 1 0), (4, .i (t.1.1 + i.1))]
  H := fun i => aH t (sRM t.1.1 t.2.1.1 t.2.2.1.1 (wideM t.2.2.1) (wideM t.2.1) i.1)
  mu := fun i => wideM t.1 - i.1
def aL2 (t : TeamT) : LSpec UU where
  T := { p : Nat × Nat // p.1 < wideM t.1 ∧ p.2 ≤ wideM t.2.1 }
  fr := fun p => [(1, .ptr 0 0 0 0), (3, .gs 1 0), (4, .i (t.1.1 + p.1.1)), (5, .i (t.2.1.1 + p.1.2))]
  H := fun p => aH t (sRM t.1.1 t.2.1.1 t.2.2.1.1 (wideM t.2.2.1) (wideM t.2.1) p.1.1 ++ lRM (t.1.1 + p.1.1) t.2.1.1 t.2.2.1.1 (wideM t.2.2.1) p.1.2)
  mu := fun p => wideM t.2.1 - p.1.2
def aL3 (t : TeamT) : LSpec UU where
  T := { p : (Nat × Nat) × Nat // p.1.1 < wideM t.1 ∧ p.1.2 < wideM t.2.1 ∧ p.2 ≤ wideM t.2.2.1 }
  fr := fun p => [(1, .ptr 0 0 0 0), (3, .gs 1 0), (4, .i (t.1.1 + p.1.1.1)), (5, .i (t.2.1.1 + p.1.1.2)), (6, .i (t.2.2.1.1 + p.1.2))]
  H := fun p => aH t (sRM t.1.1 t.2.1.1 t.2.2.1.1 (wideM t.2.2.1) (wideM t.2.1) p.1.1.1 ++ lRM (t.1.1 + p.1.1.1) t.2.1.1 t.2.2.1.1 (wideM t.2.2.1) p.1.1.2 ++ gRM (t.1.1 + p.1.1.1) (t.2.1.1 + p.1.1.2) t.2.2.1.1 p.1.2)
  mu := fun p => wideM t.2.2.1 - p.1.2
def aRule (t : TeamT) (key : Nat) : Option (LRule UU) := match Nat.beq key 3 with
  | true => some (.inv (aL1 t))
  | false => match Nat.beq key 6 with
    | true => some (.invR (aL2 t) fun a b => b.1.1 = a.1.1)
    | false => match Nat.beq key 9 with
      | true => some (.invR (aL3 t) fun a b => b.1.1 = a.1.1)
      | false => none
def allRS : FSpec UU where
  X := TeamT
  pick := fun args _ => match args with
    | [a] => avTeam a
    | _ => none
  args := fun (x : TeamT) => [vTeam x]
  H := fun _ => []
  R := fun (x : TeamT) => .val ⟨.gs 0 0, [], [], [.row .rhorse (allRM x) 85]⟩
  pre := fun (x : TeamT) => teamM x = true
theorem allR_ok : ∀ x, allRS.pre x → FunOk Tryz.prog 45 (allRS.args x) (allRS.H x) (allRS.R x) := by
  rintro ⟨⟨s0, s1⟩, ⟨l0, l1⟩, ⟨g0, g1⟩, full⟩ hx
  refine fun_of (T := []) (L := aRule ((s0, s1), (l0, l1), (g0, g1), full)) (hs := fun _ => []) hmix .nil Tryz.func45 (by kernel_rfl) (by kernel_rfl) ?_
  refine Eq.mp (α :=
      let Ah := (85 : TypeId); let A3 := nat_lit 0 = nat_lit 0 ∧ nat_lit 0 = nat_lit 0 ∧ nat_lit 0 = nat_lit 0; let AM := fun (p : (Nat × Nat) × Nat) => Prod.fst (Prod.fst p); let AN := fun (p : (Nat × Nat) × Nat) => Prod.snd (Prod.fst p); let A7 := Ah = Ah; let Ai := ((s0, s1), (((l0, l1), (((g0, g1), full))))); let As := Prod.snd Ai; let Aj := wideM (Prod.fst Ai); let At := wideM (Prod.fst As); let A2 : Type := { i : Nat // (i ≤ Aj) }; let Ak := fun (x : A2) => Subtype.val x; let AO := fun (p : (Nat × Nat) × Nat) => AM p < Aj; let AP := fun (p : (Nat × Nat) × Nat) => AN p < At; let AQ := fun (p : (Nat × Nat) × Nat) => Prod.snd p ≤ (wideM (Prod.fst (Prod.snd As))); let Au := fun (x : A2) => s0 + ((↑(Ak x) : Int)); let Av := fun (x : A2) => wideM (s0, s1) - Ak x; let Ad := fun (x : A2) => sRM s0 l0 g0 (wideM (g0, g1)) (wideM (l0, l1)) (Ak x); let Al := fun (x : A2) => Value.int IntKind.i64 (Au x); let A4 := (Value.int IntKind.i64 s0 = Value.int IntKind.i64 s0) ∧ (Value.int IntKind.i64 s1 = Value.int IntKind.i64 s1) ∧ (Value.int IntKind.i64 l0 = Value.int IntKind.i64 l0) ∧ (Value.int IntKind.i64 l1 = Value.int IntKind.i64 l1) ∧ (Value.int IntKind.i64 g0 = Value.int IntKind.i64 g0) ∧ (Value.int IntKind.i64 g1 = Value.int IntKind.i64 g1) ∧ (Value.int IntKind.i64 full = Value.int IntKind.i64 full) ∧ True; let A1 : Type := { p : Nat × Nat // ((Prod.fst p < Aj) ∧ Prod.snd p ≤ At) }; let Aw := fun (x : A1) => Subtype.val x; let A5 := fun (x : A1) => Prod.fst (Aw x); let Am := fun (x : A1) => Prod.snd (Aw x); let AR := fun (p : (Nat × Nat) × Nat) => AP p ∧ AQ p; let Ax := fun (x : A1) => l0 + ((↑(Am x) : Int)); let An := fun (x : A1) => s0 + ((↑(A5 x) : Int)); let Ay := fun (x : A1) => wideM (l0, l1) - Am x; let Ao := fun (x : A1) => Value.int IntKind.i64 (Ax x); let Ap := fun (x : A1) => Value.int IntKind.i64 (An x); let AS := fun (p : (Nat × Nat) × Nat) => AO p ∧ AR p; let A0 : Type := { p : (Nat × Nat) × Nat // AS p }; let Az := fun (x : A0) => Subtype.val x; let A6 := fun (x : A0) => Prod.fst (Az x); let Aq := fun (x : A0) => Prod.snd (Az x); let AA := fun (x : A0) => Prod.snd (A6 x); let AB := fun (x : A0) => Prod.fst (A6 x); let A8 := fun (x : A0) => g0 + ((↑(Aq x) : Int)); let AC := fun (x : A0) => wideM (g0, g1) - Aq x; let A9 := fun (x : A0) => s0 + ((↑(AB x) : Int)); let Aa := fun (x : A0) => l0 + ((↑(AA x) : Int)); let Ar := fun (x : A0) => Value.int IntKind.i64 (A8 x); let AD := fun (t : A0) => AV.v (Ar t); let Ab := fun (x : A0) => Value.int IntKind.i64 (A9 x); let Ae := fun (x : A0) => Value.int IntKind.i64 (Aa x); let Af := fun (t : A0) => AV.v (Ab t); let AE := fun (t : A0) => AV.v (Ae t); let AF := fun (t : A2) => decide ((Au t ≤ s1)); let AG := fun (t x : A1) => A5 t = A5 x; let AH := fun (t : A1) => decide ((Ax t ≤ l1)); let AI := fun (t x : A0) => A6 t = A6 x; let Ag := fun (x : A1) => (sRM s0 l0 g0 (wideM (g0, g1)) (wideM (l0, l1)) (A5 x)) ++ (lRM (An x) l0 g0 (wideM (g0, g1)) (Am x)); let AJ := fun (t : A0) => AD t = AD t; let AK := fun (t : A0) => AE t = AE t; let AL := fun (t : A0) => decide ((A8 t ≤ g1)); let Ac := fun (x : A0) => (sRM s0 l0 g0 (wideM (g0, g1)) (wideM (l0, l1)) (AB x)) ++ (lRM (A9 x) l0 g0 (wideM (g0, g1)) (AA x)) ++ gRM (A9 x) (Aa x) g0 (Aq x); (∃ (x : A2), (True ∧ nat_lit 0 = nat_lit 0 ∧ True ∧ True) ∧ ((True ∧ True ∧ True ∧ True ∧ True ∧ True ∧ True ∧ True) ∧ Ad x = [] ∧ True) ∧ (A3 ∧ Value.slice none (nat_lit 0) (nat_lit 0) = Value.slice none (nat_lit 0) (nat_lit 0) ∧ Value.int IntKind.i64 s0 = Al x ∧ True) ∧ True ∧ A4 ∧ True ∧ True) ∧ ∀ (t : A2), (AF t = true → ∃ (x : A1), ((A3 ∧ nat_lit 0 = nat_lit 0 ∧ Al t = Ap x ∧ Value.int IntKind.i64 l0 = Ao x ∧ True) ∧ True ∧ A4 ∧ (A7 ∧ Ad t = Ag x) ∧ True) ∧ A5 x = A5 x ∧ ∀ (t_1 : A1), AG t_1 x → (AH t_1 = true → ∃ (x_1 : A0), ((A3 ∧ nat_lit 0 = nat_lit 0 ∧ Ap t_1 = Ab x_1 ∧ Ao t_1 = Ae x_1 ∧ Value.int IntKind.i64 g0 = Ar x_1 ∧ True) ∧ True ∧ A4 ∧ (A7 ∧ Ag t_1 = Ac x_1) ∧ True) ∧ A6 x_1 = A6 x_1 ∧ ∀ (t : A0), AI t x_1 → (AL t = true → (nat_lit 2 = nat_lit 2 ∧ Af t = Af t ∧ AK t ∧ AJ t ∧ AV.v (Value.bool false) = AV.v (Value.bool false) ∧ Af t = Af t ∧ AK t ∧ AJ t ∧ AV.v (Value.bool true) = AV.v (Value.bool true) ∧ True) ∧ nat_lit 2 ≤ nat_lit 2 ∧ List.length (Ac t) + nat_lit 2 ≤ nat_lit 1099511627776 ∧ True ∧ ∃ (x : A0), ((A3 ∧ nat_lit 0 = nat_lit 0 ∧ Ab t = Ab x ∧ Ae t = Ae x ∧ Value.int IntKind.i64 (IntKind.wrap IntKind.i64 (A8 t + (1 : Int))) = Ar x ∧ True) ∧ True ∧ A4 ∧ (nat_lit 85 = Ah ∧ Ac t ++ List.take (2 : Nat) (List.drop (0 : Nat) [(A9 t, Aa t, A8 t, false), (A9 t, Aa t, A8 t, true)]) = Ac x) ∧ True) ∧ AC x < AC t ∧ AI x x_1) ∧ (AL t = false → True ∧ ∃ (x_2 : A1), ((A3 ∧ nat_lit 0 = nat_lit 0 ∧ Ab t = Ap x_2 ∧ Value.int IntKind.i64 (IntKind.wrap IntKind.i64 (Aa t + (1 : Int))) = Ao x_2 ∧ True) ∧ True ∧ A4 ∧ (A7 ∧ Ac t = Ag x_2) ∧ True) ∧ Ay x_2 < Ay t_1 ∧ AG x_2 x)) ∧ (AH t_1 = false → True ∧ ∃ (x : A2), ((A3 ∧ nat_lit 0 = nat_lit 0 ∧ Value.int IntKind.i64 (IntKind.wrap IntKind.i64 (An t_1 + (1 : Int))) = Al x ∧ True) ∧ True ∧ A4 ∧ (A7 ∧ Ag t_1 = Ad x) ∧ True) ∧ Av x < Av t)) ∧ (AF t = false → True ∧ (nat_lit 0 = nat_lit 0 ∧ True) ∧ True ∧ (A7 ∧ Ad t = allRM Ai) ∧ True))
    (by kernel_rfl) ?_
  simp only [eq_self, AE.goS]
  have ht := team_ok (t := ((s0, s1), (l0, l1), (g0, g1), full)) hx
  have hS : (0 ≤ s0 ∧ s0 ≤ s1 ∧ s1 ≤ full) ∧ (0 ≤ l0 ∧ l0 ≤ l1 ∧ l1 ≤ 100) ∧ (0 ≤ g0 ∧ g0 ≤ g1 ∧ g1 ≤ 1000) ∧ full ≤ 10000 := by
    have : (0 ≤ full ∧ full ≤ 10000) ∧ (0 ≤ s0 ∧ s0 ≤ s1 ∧ s1 ≤ full) ∧ (0 ≤ l0 ∧ l0 ≤ l1 ∧ l1 ≤ 100) ∧ (0 ≤ g0 ∧ g0 ≤ g1 ∧ g1 ≤ 1000) := by simpa [and_assoc] using ht
    omega
  obtain ⟨hs, hl, hg, hful⟩ := hS
  have es : ((wideM (s0, s1) : Nat) : Int) = s1 - s0 + 1 := by unfold wideM; omega
  have el : ((wideM (l0, l1) : Nat) : Int) = l1 - l0 + 1 := by unfold wideM; omega
  have eg : ((wideM (g0, g1) : Nat) : Int) = g1 - g0 + 1 := by unfold wideM; omega
  refine ⟨⟨⟨0, Nat.zero_le _⟩, rfl, by simp⟩, fun t => ⟨fun ht => ?_, fun ht => ?_⟩⟩
  · obtain ⟨i, hi⟩ := t
    have hlt : i < wideM (s0, s1) := by have h1 : s0 + (i : Int) ≤ s1 := ht; omega
    refine ⟨⟨(i, 0), hlt, Nat.zero_le _⟩, ⟨⟨rfl, by simp⟩, (List.append_nil _).symm⟩, fun t => ?_⟩
    obtain ⟨⟨i', j⟩, h1, h2⟩ := t
    intro hii
    have hii' : i' = i := hii
    subst hii'
    have h2' : j ≤ wideM (l0, l1) := h2
    refine ⟨fun hj => ?_, fun hj => ?_⟩
    · have hjl : j < wideM (l0, l1) := by have h1 : l0 + (j : Int) ≤ l1 := hj; omega
      refine ⟨⟨((i', j), 0), hlt, hjl, Nat.zero_le _⟩, ⟨⟨rfl, rfl, by simp⟩, (List.append_nil _).symm⟩, fun t => ?_⟩
      obtain ⟨⟨⟨i2, j2⟩, k⟩, h3, h4, h5⟩ := t
      intro hjj
      have hjj' : (i2, j2) = (i', j) := hjj
      cases hjj'
      have h5' : k ≤ wideM (g0, g1) := h5
      refine ⟨fun hk => ?_, fun hk => ?_⟩
      · have hkl : k < wideM (g0, g1) := by have h1 : g0 + (k : Int) ≤ g1 := hk; omega
        have hlen := all_len s0 l0 g0 (wideM (g0, g1)) (wideM (l0, l1)) i' j k (show wideM (g0, g1) ≤ 1001 by omega) (show wideM (l0, l1) ≤ 101 by omega) (by omega) (by omega) (by omega)
        have hw : IntKind.i64.wrap (g0 + (k : Int) + 1) = g0 + ((k + 1 : Nat) : Int) := by rw [wrap_id (by omega) (by omega)]; omega
        refine ⟨Nat.le_refl _, Nat.le_trans (Nat.add_le_add_right hlen 2) (by decide), ⟨((i', j), k + 1), hlt, hjl, hkl⟩, ⟨⟨rfl, rfl, hw⟩, ?_⟩, dec1 hkl, rfl⟩
        show _ ++ gRM _ _ g0 k ++ _ = _ ++ (gRM _ _ g0 k ++ _)
        rw [List.append_assoc]; rfl
      · have hke : k = wideM (g0, g1) := by have h1 : ¬ g0 + (k : Int) ≤ g1 := hk; omega
        subst hke
        have hw : IntKind.i64.wrap (l0 + (j : Int) + 1) = l0 + ((j + 1 : Nat) : Int) := by rw [wrap_id (by omega) (by omega)]; omega
        exact ⟨⟨(i', j + 1), hlt, hjl⟩, ⟨⟨rfl, hw⟩, List.append_assoc _ _ _⟩, dec1 hjl, rfl⟩
    · have hje : j = wideM (l0, l1) := by have h1 : ¬ l0 + (j : Int) ≤ l1 := hj; omega
      subst hje
      have hw : IntKind.i64.wrap (s0 + (i' : Int) + 1) = s0 + ((i' + 1 : Nat) : Int) := by rw [wrap_id (by omega) (by omega)]; omega
      exact ⟨⟨i' + 1, hlt⟩, ⟨hw, rfl⟩, dec1 hlt⟩
  · obtain ⟨i, hi⟩ := t
    have hie : i = wideM (s0, s1) := by have h1 : ¬ s0 + (i : Int) ≤ s1 := ht; have h2 : i ≤ wideM (s0, s1) := hi; omega
    subst hie
    rfl

theorem allR_sound : Sound Tryz.prog 45 allRS.con := FSpec.sound _ (enter_of Tryz.func45 (by kernel_rfl) (by kernel_rfl)) allR_ok
def checkRM (t : TeamT) (p : PlotT) (v : Bool) : Int := if teamM t && isPlotM p then (if v then (if rtruthM p.g then 0 else 10) else 2) else 1
def checkRS : FSpec UU where
  X := TeamT × PlotT × Bool
  pick := fun args H => match args with
    | [a, b, c] => match avTeam a, avPlot H b, avBool c with
      | some a, some b, some c => some (a, b, c)
      | _, _, _ => none
    | _ => none
  args := fun x => [vTeam x.1, vPlot x.2.1 0 1, .b x.2.2]
  H := fun x => hPlot x.2.1
  R := fun x => .val ⟨.i (checkRM x.1 x.2.1 x.2.2), [], [], []⟩
  pre := fun x => x.2.1.g.pits.length < 1000000 ∧ x.2.1.steps.length < 1000000
def TcheckR : Tab UU := [(25, isTeamS.con), (26, isPlotS.con), (27, rtruthS.con)]
theorem TcheckR_ok : TcheckR.Sound Tryz.prog := .cons fTeam_sound (.cons fPlot_sound (.cons rtruth_sound .nil))
theorem checkR_ok : ∀ x, checkRS.pre x → FunOk Tryz.prog 44 (checkRS.args x) (checkRS.H x) (checkRS.R x) := by
  rintro ⟨⟨⟨s0, s1⟩, ⟨l0, l1⟩, ⟨g0, g1⟩, full⟩, ⟨⟨long, rise, change, ps⟩, st⟩, v⟩ hx
  refine fun_of (T := TcheckR) (L := fun _ => none) (hs := fun _ => []) hmix TcheckR_ok Tryz.func44 (by kernel_rfl) (by kernel_rfl) ?_
  refine Eq.mp (α :=
      let A2 := Value.int IntKind.i64 rise = Value.int IntKind.i64 rise; let A3 := Value.int IntKind.i64 change = Value.int IntKind.i64 change; let A4 := Value.int IntKind.i64 long = Value.int IntKind.i64 long; let A5 := !isPlotM (PlotT.mk (GroundT.mk long rise change ps) st); let A6 := nat_lit 0 = nat_lit 0 ∧ nat_lit 0 = nat_lit 0 ∧ List.length ps = List.length ps; let A7 := ps = ps ∧ st = st ∧ True; let A0 := True ∧ A7; let A8 := ((s0, s1), (((l0, l1), (((g0, g1), full))))); let A9 := !(teamM A8); let A1 := Value.int IntKind.i64 (checkRM A8 (PlotT.mk (GroundT.mk long rise change ps) st) v); let Aa := (Value.int IntKind.i64 (1 : Int)) = A1; True ∧ ((Value.int IntKind.i64 s0 = Value.int IntKind.i64 s0 ∧ Value.int IntKind.i64 s1 = Value.int IntKind.i64 s1 ∧ Value.int IntKind.i64 l0 = Value.int IntKind.i64 l0 ∧ Value.int IntKind.i64 l1 = Value.int IntKind.i64 l1 ∧ Value.int IntKind.i64 g0 = Value.int IntKind.i64 g0 ∧ Value.int IntKind.i64 g1 = Value.int IntKind.i64 g1 ∧ Value.int IntKind.i64 full = Value.int IntKind.i64 full ∧ True) ∧ True) ∧ True ∧ (A9 = true → True ∧ (Aa ∧ True) ∧ A0) ∧ (A9 = false → (List.length ps < nat_lit 1000000 ∧ List.length st < nat_lit 9223372036854775808) ∧ ((A4 ∧ A2 ∧ A3 ∧ A6 ∧ (nat_lit 0 = nat_lit 0 ∧ nat_lit 0 = nat_lit 0 ∧ List.length st = List.length st) ∧ True) ∧ True) ∧ A7 ∧ (A5 = true → True ∧ (Aa ∧ True) ∧ A0) ∧ (A5 = false → ((!v) = true → True ∧ (Value.int IntKind.i64 (2 : Int) = A1 ∧ True) ∧ A0) ∧ ((!v) = false → groundM (GroundT.mk long rise change ps) = true ∧ ((A4 ∧ A2 ∧ A3 ∧ A6 ∧ True) ∧ True) ∧ (ps = ps ∧ True) ∧ ((!rtruthM (GroundT.mk long rise change ps)) = true → True ∧ (Value.int IntKind.i64 (10 : Int) = A1 ∧ True) ∧ A0) ∧ ((!rtruthM (GroundT.mk long rise change ps)) = false → True ∧ (Value.int IntKind.i64 (0 : Int) = A1 ∧ True) ∧ A0)))))
    (by kernel_rfl) ?_
  simp only [eq_self, AE.goS]
  have h1 : ps.length < 1000000 := hx.1
  have h2 : st.length < 1000000 := hx.2
  unfold checkRM
  refine ⟨fun h => ?_, fun h => ⟨⟨h1, by omega⟩, fun hp => ?_, fun hp => ⟨fun hv => ?_, fun hv => ⟨?_, fun hr => ?_, fun hr => ?_⟩⟩⟩⟩
  all_goals simp only [Bool.not_eq_true', Bool.not_eq_false'] at *
  · rw [h]; rfl
  · rw [h, hp]; rfl
  · rw [h, hp, hv]; rfl
  · exact (plot_ok hp).1
  · rw [h, hp, hv]; show _ = if rtruthM ⟨long, rise, change, ps⟩ = true then (0 : Int) else 10; rw [hr]; rfl
  · rw [h, hp, hv]; show _ = if rtruthM ⟨long, rise, change, ps⟩ = true then (0 : Int) else 10; rw [hr]; rfl

theorem checkR_sound : Sound Tryz.prog 44 checkRS.con := FSpec.sound _ (enter_of Tryz.func44 (by kernel_rfl) (by kernel_rfl)) checkR_ok
end AE.Team

namespace AE.Team
open Go AE Go.Proofs AE.Soil

abbrev rh0 : RhT := (0, 0, 0, false)
theorem check_ok {t : TeamT} {p : PlotT} {v : Bool} (h : checkRM t p v = 0) : teamM t = true ∧ isPlotM p = true ∧ v = true ∧ rtruthM p.g = true := by
  unfold checkRM at h
  cases ht : teamM t <;> cases hp : isPlotM p <;> cases v <;> cases hr : rtruthM p.g <;> rw [ht, hp] at h <;> simp [hr] at h ⊢
theorem check_go {t : TeamT} {p : PlotT} {v : Bool} (h : checkRM t p v = 0) : GoOk p := by
  obtain ⟨_, hp, _, hr⟩ := check_ok h
  obtain ⟨h1, _, h3⟩ := plot_ok hp
  refine ⟨h1, ?_, h3⟩
  unfold rtruthM at hr
  rw [Bool.and_eq_true] at hr
  exact hr.1
theorem all_bound {t : TeamT} (ht : teamM t = true) : (allRM t).length ≤ 3000000000 := by
  have h := team_ok ht
  unfold allRM
  rw [sR_len]
  have h1 : wideM t.2.2.1 ≤ 1001 := by unfold wideM; omega
  have h2 : wideM t.2.1 ≤ 101 := by unfold wideM; omega
  have h3 : wideM t.1 ≤ 10001 := by unfold wideM; omega
  have a1 : 2 * wideM t.2.2.1 * wideM t.2.1 ≤ 2 * 1001 * 101 := Nat.mul_le_mul (Nat.mul_le_mul_left 2 h1) h2
  have a2 : 2 * wideM t.2.2.1 * wideM t.2.1 * wideM t.1 ≤ 2 * 1001 * 101 * 10001 := Nat.mul_le_mul a1 h3
  omega
def thruM (t : TeamT) (p : PlotT) (r : RhT) : Bool := decide (fallRM t p r < 0)
def cntM (t : TeamT) (p : PlotT) (i : Nat) : Int := (((allRM t).take i).countP (thruM t p) : Nat)
def comesRM (t : TeamT) (p : PlotT) : Int × Int := if checkRM t p true = 0 then ((if cntM t p (allRM t).length = ((allRM t).length : Int) then 2 else if cntM t p (allRM t).length = 0 then 0 else 1), 0) else (0, checkRM t p true)
theorem cnt_suc {t : TeamT} {p : PlotT} {i : Nat} (h : i < (allRM t).length) : cntM t p (i + 1) = cntM t p i + (if thruM t p ((allRM t).getD i rh0) = true then 1 else 0) := by
  unfold cntM
  rw [List.take_add_one, List.countP_append, List.getElem?_eq_getElem h, List.getD_eq_getElem?_getD, List.getElem?_eq_getElem h]
  simp only [Option.toList_some, Option.getD_some, List.countP_cons, List.countP_nil]
  split <;> simp
theorem cnt_le (t : TeamT) (p : PlotT) (i : Nat) : 0 ≤ cntM t p i ∧ cntM t p i ≤ i := by
  unfold cntM
  have h1 := List.countP_le_length (p := thruM t p) (l := (allRM t).take i)
  rw [List.length_take] at h1
  omega
def rcL (t : TeamT) (p : PlotT) : LSpec UU where
  T := { i : Nat // i ≤ (allRM t).length }
  fr := fun i => [(2, .ptr 2 0 0 0), (3, .ptr 3 0 0 0), (7, .gs 4 0), (8, .i (cntM t p i.1)), (9, .i i.1)]
  H := fun _ => hPlot p ++ [.one (.cells (cTeam t) 25), .one (.cells (cPlot p 0 1) 31), .one (.row .rhorse (allRM t) 85)]
  mu := fun i => (allRM t).length - i.1
def sizeP (x : TeamT × PlotT) : Prop := x.2.g.pits.length < 1000000 ∧ x.2.steps.length < 1000000
def comesRS : FSpec UU := { oneS fun x => .val ⟨.tup [.i (comesRM x.1 x.2).1, .i (comesRM x.1 x.2).2], [], [], []⟩ with pre := sizeP }
def Tcr : Tab UU := [(44, checkRS.con), (45, allRS.con), (46, failedRS.con)]
theorem Tcr_ok : Tcr.Sound Tryz.prog := .cons checkR_sound (.cons allR_sound (.cons failedR_sound .nil))
theorem comesR_ok : ∀ x, comesRS.pre x → FunOk Tryz.prog 11 (comesRS.args x) (comesRS.H x) (comesRS.R x) := by
  rintro ⟨⟨⟨s0, s1⟩, ⟨l0, l1⟩, ⟨g0, g1⟩, full⟩, ⟨⟨long, rise, change, ps⟩, st⟩⟩ hx
  refine fun_of (T := Tcr) (L := fun _ => some (.inv (rcL ((s0, s1), (l0, l1), (g0, g1), full) ⟨⟨long, rise, change, ps⟩, st⟩))) (hs := fun _ => []) hmix Tcr_ok Tryz.func11 (by kernel_rfl) (by kernel_rfl) ?_
  refine Eq.mp (α :=
      let Ah := (85 : TypeId); let A1 := nat_lit 0 = nat_lit 0 ∧ nat_lit 0 = nat_lit 0 ∧ nat_lit 0 = nat_lit 0; let Ai := List.length st < nat_lit 1000000; let A5 := Value.int IntKind.i64 (0 : Int); let Aa := ps = ps ∧ st = st ∧ True; let A6 := True ∧ Aa; let A2 := ((s0, s1), (((l0, l1), (((g0, g1), full))))); let A3 : List RhT := allRM A2; let Aj := List.length A3; let Ak := comesRM A2 (PlotT.mk (GroundT.mk long rise change ps) st); let Al := List.length A3; let Am := checkRM A2 (PlotT.mk (GroundT.mk long rise change ps) st) true; let An := (↑Al : Int); let A0 : Type := { i : Nat // (i ≤ Aj) }; let Ab := fun (x : A0) => Subtype.val x; let Ac := Value.int IntKind.i64 (Prod.fst Ak); let Ao := Value.int IntKind.i64 (Prod.snd Ak); let A4 := fun (x : A0) => (↑(Ab x) : Int); let Ap := fun (x : A0) => Value.int IntKind.i64 (A4 x); let Aq := Am != (0 : Int); let Ar := A5 = Ac; let Ad := (A5 = Ao) ∧ True; let As := fun (t : A0) => nat_lit 0 + (Int.toNat (A4 t)); let Ae := (Value.int IntKind.i64 long = Value.int IntKind.i64 long) ∧ (Value.int IntKind.i64 rise = Value.int IntKind.i64 rise) ∧ (Value.int IntKind.i64 change = Value.int IntKind.i64 change) ∧ (nat_lit 0 = nat_lit 0 ∧ nat_lit 0 = nat_lit 0 ∧ List.length ps = List.length ps) ∧ (nat_lit 0 = nat_lit 0 ∧ nat_lit 0 = nat_lit 0 ∧ List.length st = List.length st) ∧ True; let A7 := (Value.int IntKind.i64 s0 = Value.int IntKind.i64 s0) ∧ (Value.int IntKind.i64 s1 = Value.int IntKind.i64 s1) ∧ (Value.int IntKind.i64 l0 = Value.int IntKind.i64 l0) ∧ (Value.int IntKind.i64 l1 = Value.int IntKind.i64 l1) ∧ (Value.int IntKind.i64 g0 = Value.int IntKind.i64 g0) ∧ (Value.int IntKind.i64 g1 = Value.int IntKind.i64 g1) ∧ (Value.int IntKind.i64 full = Value.int IntKind.i64 full) ∧ True; let A8 := fun (x : A0) => cntM A2 (PlotT.mk (GroundT.mk long rise change ps) st) (Ab x); let A9 := fun (x : A0) => Value.int IntKind.i64 (A8 x); let At := fun (x : A0) => Aj - Ab x; let Au := fun (t : A0) => A4 t < An; let Av := fun (t : A0) => A8 t == (0 : Int); let Aw := fun (t x : A0) => ((Value.int IntKind.i64 ((IntKind.wrap IntKind.i64 ((A4 t + (1 : Int)))))) = Ap x) ∧ True; let Af := fun (t : A0) => List.getD A3 (As t) (((0 : Int), (((0 : Int), (((0 : Int), false)))))); let Ax := fun (t : A0) => Prod.snd (Af t); let Ay := fun (t : A0) => A8 t == An; let Az := fun (t : A0) => Value.int IntKind.i64 ((Prod.fst (Af t))); let AA := fun (t : A0) => Prod.snd (Ax t); let AB := fun (t : A0) => Value.int IntKind.i64 ((Prod.fst (Ax t))); let AC := fun (t : A0) => Value.bool ((Prod.snd (AA t))); let AD := fun (t : A0) => Value.int IntKind.i64 ((Prod.fst (AA t))); let AE := fun (x t : A0) => At x < At t; let AF := fun (t : A0) => decide (Au t); let Ag := ps = ps ∧ st = st ∧ A7 ∧ Ae ∧ ((Ah = Ah) ∧ A3 = A3) ∧ True; let AG := fun (t : A0) => decide (((fallRM A2 (PlotT.mk (GroundT.mk long rise change ps) st) (Af t)) < (0 : Int))); (List.length ps < nat_lit 1000000 ∧ Ai) ∧ (A7 ∧ Ae ∧ Value.bool true = Value.bool true ∧ True) ∧ Aa ∧ (Aq = true → True ∧ ((Ar ∧ Value.int IntKind.i64 Am = Ao ∧ True) ∧ True) ∧ A6) ∧ (Aq = false → teamM A2 = true ∧ (A7 ∧ True) ∧ True ∧ (∃ (x : A0), (A1 ∧ A1 ∧ nat_lit 0 = nat_lit 0 ∧ A5 = A9 x ∧ A5 = Ap x ∧ True) ∧ True ∧ Ag) ∧ ∀ (t : A0), (AF t = true → ((0 : Int) ≤ A4 t ∧ Au t) ∧ As t < Al ∧ (GoOk (PlotT.mk (GroundT.mk long rise change ps) st) ∧ Ai) ∧ (A7 ∧ Ae ∧ (Az t = Az t ∧ AB t = AB t ∧ AD t = AD t ∧ AC t = AC t ∧ True) ∧ True) ∧ Aa ∧ (AG t = true → True ∧ ∃ (x : A0), ((A1 ∧ A1 ∧ nat_lit 0 = nat_lit 0 ∧ Value.int IntKind.i64 (IntKind.wrap IntKind.i64 (A8 t + (1 : Int))) = A9 x ∧ Aw t x) ∧ True ∧ Ag) ∧ AE x t) ∧ (AG t = false → True ∧ ∃ (x : A0), ((A1 ∧ A1 ∧ nat_lit 0 = nat_lit 0 ∧ A9 t = A9 x ∧ Aw t x) ∧ True ∧ Ag) ∧ AE x t)) ∧ (AF t = false → (Ay t = true → True ∧ ((Value.int IntKind.i64 (2 : Int) = Ac ∧ Ad) ∧ True) ∧ A6) ∧ (Ay t = false → (Av t = true → True ∧ ((Ar ∧ Ad) ∧ True) ∧ A6) ∧ (Av t = false → True ∧ ((Value.int IntKind.i64 (1 : Int) = Ac ∧ Ad) ∧ True) ∧ A6)))))
    (by kernel_rfl) ?_
  simp only [eq_self, AE.goS]
  obtain ⟨h1, h2⟩ := hx
  have h1' : ps.length < 1000000 := h1
  have h2' : st.length < 1000000 := h2
  have hI : ∀ i : Nat, i ≤ 3000000000 → IntKind.i64.wrap ((i : Int) + 1) = ((i + 1 : Nat) : Int) := fun i hi => by rw [wrap_id (by omega) (by omega)]; omega
  refine ⟨⟨h1', h2'⟩, fun hc => ?_, fun hc => ?_⟩
  · have hc' : ¬ checkRM ((s0, s1), (l0, l1), (g0, g1), full) ⟨⟨long, rise, change, ps⟩, st⟩ true = 0 := by simpa using hc
    unfold comesRM
    rw [if_neg hc']
    exact ⟨rfl, rfl⟩
  have hc' : checkRM ((s0, s1), (l0, l1), (g0, g1), full) ⟨⟨long, rise, change, ps⟩, st⟩ true = 0 := by simpa using hc
  have hT := (check_ok hc').1
  have hG := check_go hc'
  have hB := all_bound hT
  have hR : comesRM ((s0, s1), (l0, l1), (g0, g1), full) ⟨⟨long, rise, change, ps⟩, st⟩ = ((if cntM ((s0, s1), (l0, l1), (g0, g1), full) ⟨⟨long, rise, change, ps⟩, st⟩ (allRM ((s0, s1), (l0, l1), (g0, g1), full)).length = ((allRM ((s0, s1), (l0, l1), (g0, g1), full)).length : Int) then 2 else if cntM ((s0, s1), (l0, l1), (g0, g1), full) ⟨⟨long, rise, change, ps⟩, st⟩ (allRM ((s0, s1), (l0, l1), (g0, g1), full)).length = 0 then 0 else 1), 0) := by
    unfold comesRM
    rw [if_pos hc']
  refine ⟨hT, ⟨⟨0, Nat.zero_le _⟩, rfl, rfl⟩, fun t => ⟨fun ht => ?_, fun ht => ?_⟩⟩
  · obtain ⟨i, hi⟩ := t
    have hlt : i < (allRM ((s0, s1), (l0, l1), (g0, g1), full)).length := by have h1 : (i : Int) < ((allRM ((s0, s1), (l0, l1), (g0, g1), full)).length : Int) := ht; omega
    have hcl := cnt_le ((s0, s1), (l0, l1), (g0, g1), full) ⟨⟨long, rise, change, ps⟩, st⟩ i
    have hcs := cnt_suc (t := ((s0, s1), (l0, l1), (g0, g1), full)) (p := ⟨⟨long, rise, change, ps⟩, st⟩) hlt
    refine ⟨⟨Int.natCast_nonneg _, ht⟩, hlt, ⟨hG, h2'⟩, fun h => ⟨⟨i + 1, hlt⟩, ⟨?_, hI i (by omega)⟩, dec1 hlt⟩, fun h => ⟨⟨i + 1, hlt⟩, ⟨?_, hI i (by omega)⟩, dec1 hlt⟩⟩
    · rw [if_pos (show thruM ((s0, s1), (l0, l1), (g0, g1), full) ⟨⟨long, rise, change, ps⟩, st⟩ ((allRM ((s0, s1), (l0, l1), (g0, g1), full)).getD i rh0) = true from decide_eq_true h)] at hcs
      show IntKind.i64.wrap (cntM ((s0, s1), (l0, l1), (g0, g1), full) ⟨⟨long, rise, change, ps⟩, st⟩ i + 1) = cntM ((s0, s1), (l0, l1), (g0, g1), full) ⟨⟨long, rise, change, ps⟩, st⟩ (i + 1)
      rw [wrap_id (by omega) (by omega), hcs]
    · rw [if_neg (show ¬ thruM ((s0, s1), (l0, l1), (g0, g1), full) ⟨⟨long, rise, change, ps⟩, st⟩ ((allRM ((s0, s1), (l0, l1), (g0, g1), full)).getD i rh0) = true from fun hh => h (of_decide_eq_true hh))] at hcs
      show cntM ((s0, s1), (l0, l1), (g0, g1), full) ⟨⟨long, rise, change, ps⟩, st⟩ i = cntM ((s0, s1), (l0, l1), (g0, g1), full) ⟨⟨long, rise, change, ps⟩, st⟩ (i + 1)
      omega
  · obtain ⟨i, hi⟩ := t
    have hie : i = (allRM ((s0, s1), (l0, l1), (g0, g1), full)).length := by have h1 : ¬ (i : Int) < ((allRM ((s0, s1), (l0, l1), (g0, g1), full)).length : Int) := ht; omega
    subst hie
    rw [hR]
    refine ⟨fun h => ?_, fun h => ⟨fun h' => ?_, fun h' => ?_⟩⟩
    · rw [if_pos (eq_of_beq h)]; exact ⟨rfl, rfl⟩
    · rw [if_neg (show ¬ cntM ((s0, s1), (l0, l1), (g0, g1), full) ⟨⟨long, rise, change, ps⟩, st⟩ (allRM ((s0, s1), (l0, l1), (g0, g1), full)).length = ((allRM ((s0, s1), (l0, l1), (g0, g1), full)).length : Int) from by simpa using h), if_pos (eq_of_beq h')]; exact ⟨rfl, rfl⟩
    · rw [if_neg (show ¬ cntM ((s0, s1), (l0, l1), (g0, g1), full) ⟨⟨long, rise, change, ps⟩, st⟩ (allRM ((s0, s1), (l0, l1), (g0, g1), full)).length = ((allRM ((s0, s1), (l0, l1), (g0, g1), full)).length : Int) from by simpa using h), if_neg (show ¬ cntM ((s0, s1), (l0, l1), (g0, g1), full) ⟨⟨long, rise, change, ps⟩, st⟩ (allRM ((s0, s1), (l0, l1), (g0, g1), full)).length = 0 from by simpa using h')]; exact ⟨rfl, rfl⟩

theorem comesR_sound : Sound Tryz.prog 11 comesRS.con := FSpec.sound _ (enter_of Tryz.func11 (by kernel_rfl) (by kernel_rfl)) comesR_ok
def endRM (t : TeamT) (p : PlotT) (n i : Nat) : Int := nowRM t p ((allRM t).getD i rh0) n
def lfRM (t : TeamT) (p : PlotT) (n : Nat) : Nat → Span
  | 0 => (0, 0)
  | i + 1 => (min (if i = 0 then endRM t p n i else (lfRM t p n i).1) (endRM t p n i), max (if i = 0 then endRM t p n i else (lfRM t p n i).2) (endRM t p n i))
def leftRM (t : TeamT) (p : PlotT) (n : Int) : Span × Int := if checkRM t p (inM n 0 p.steps.length) = 0 then (lfRM t p n.toNat (allRM t).length, 0) else ((0, 0), checkRM t p (inM n 0 p.steps.length))
def lfHM (t : TeamT) (p : PlotT) (s : Span) : Heap UU := hPlot p ++ [.one (.cells (cTeam t) 25), .one (.cells (cPlot p 0 1) 31), .one (.cells [.i 0, .i 0] 23), .one (.row .rhorse (allRM t) 85), .one (.cells [.i s.1, .i s.2] 23)]
def lfFr (n : Int) : Fr := [(2, .i n), (3, .ptr 2 0 0 0), (4, .ptr 3 0 0 0), (6, .ptr 4 0 0 0), (9, .gs 5 0), (10, .ptr 6 0 0 0)]
def lfL1 (t : TeamT) (p : PlotT) (n : Int) : LSpec UU where
  T := { i : Nat // i ≤ (allRM t).length }
  fr := fun i => lfFr n ++ [(11, .i i.1)]
  H := fun i => lfHM t p (lfRM t p n.toNat i.1)
  mu := fun i => (allRM t).length - i.1
def lfL2 (t : TeamT) (p : PlotT) (n : Int) : LSpec UU where
  T := { q : Nat × Nat // q.1 < (allRM t).length ∧ q.2 ≤ n.toNat }
  fr := fun q => lfFr n ++ [(11, .i q.1.1), (12, .i (endRM t p q.1.2 q.1.1)), (13, .i q.1.2)]
  H := fun q => lfHM t p (lfRM t p n.toNat q.1.1)
  mu := fun q => n.toNat - q.1.2
def lfRule (t : TeamT) (p : PlotT) (n : Int) (key : Nat) : Option (LRule UU) := match Nat.beq key 7 with
  | true => some (.inv (lfL1 t p n))
  | false => match Nat.beq key 11 with
    | true => some (.invR (lfL2 t p n) fun a b => b.1.1 = a.1.1)
    | false => none
def leftRS : FSpec UU where
  X := TeamT × PlotT × Int
  pick := fun args H => match args with
    | [a, b, c] => match avTeam a, avPlot H b, avInt c with
      | some a, some b, some c => some (a, b, c)
      | _, _, _ => none
    | _ => none
  args := fun x => [vTeam x.1, vPlot x.2.1 0 1, .i x.2.2]
  H := fun x => hPlot x.2.1
  R := fun x => .val ⟨.tup [vSpan (leftRM x.1 x.2.1 x.2.2).1, .i (leftRM x.1 x.2.1 x.2.2).2], [], [], []⟩
  pre := fun x => sizeP (x.1, x.2.1)
def Trl : Tab UU := [(44, checkRS.con), (45, allRS.con), (51, afterS.con), (50, withinS.con)]
theorem Trl_ok : Trl.Sound Tryz.prog := .cons checkR_sound (.cons allR_sound (.cons after_sound (.cons fin_sound .nil)))
theorem leftR_ok : ∀ x, leftRS.pre x → FunOk Tryz.prog 13 (leftRS.args x) (leftRS.H x) (leftRS.R x) := by
  rintro ⟨⟨⟨s0, s1⟩, ⟨l0, l1⟩, ⟨g0, g1⟩, full⟩, ⟨⟨long, rise, change, ps⟩, st⟩, n⟩ hx
  refine fun_of (T := Trl) (L := lfRule ((s0, s1), (l0, l1), (g0, g1), full) ⟨⟨long, rise, change, ps⟩, st⟩ n) (hs := fun _ => []) hmix Trl_ok Tryz.func13 (by kernel_rfl) (by kernel_rfl) ?_
  refine Eq.mp (α :=
      let Ax := (85 : TypeId); let A1 := nat_lit 0 = nat_lit 0 ∧ nat_lit 0 = nat_lit 0 ∧ nat_lit 0 = nat_lit 0; let A3 := Value.int IntKind.i64 (0 : Int); let Al := (↑(List.length st) : Int); let A9 := Value.int IntKind.i64 n = Value.int IntKind.i64 n; let Ay := Value.int IntKind.i64 Al; let Am := ps = ps ∧ st = st ∧ True; let Az := inM n (0 : Int) Al; let AA := True ∧ Am; let AB := Value.bool Az; let An := A3 = A3; let A4 := ((s0, s1), (((l0, l1), (((g0, g1), full))))); let AC := ((0 : Int), (((0 : Int), (((0 : Int), false))))); let Aa : List RhT := allRM A4; let Ao := List.length Aa; let Ap := List.length Aa; let AD := leftRM A4 (PlotT.mk (GroundT.mk long rise change ps) st) n; let Ad := An ∧ An ∧ True; let AE := Prod.fst AD; let AF := (↑Ap : Int); let A2 : Type := { i : Nat // (i ≤ Ao) }; let Aq := fun (x : A2) => Subtype.val x; let AG := Value.int IntKind.i64 (Prod.snd AD); let Ah := fun (x : A2) => (↑(Aq x) : Int); let AH := Value.int IntKind.i64 (Prod.fst AE); let AI := Value.int IntKind.i64 (Prod.snd AE); let Ar := fun (x : A2) => Value.int IntKind.i64 (Ah x); let AJ := checkRM A4 (PlotT.mk (GroundT.mk long rise change ps) st) Az; let AK := fun (t : A2) => nat_lit 0 + (Int.toNat (Ah t)); let A0 : Type := { q : Nat × Nat // ((Prod.fst q < Ao) ∧ Prod.snd q ≤ Int.toNat n) }; let AL := fun (x : A0) => Subtype.val x; let A7 := fun (x : A0) => Prod.fst (AL x); let As := fun (x : A0) => Prod.snd (AL x); let A8 := (Value.int IntKind.i64 long = Value.int IntKind.i64 long) ∧ (Value.int IntKind.i64 rise = Value.int IntKind.i64 rise) ∧ (Value.int IntKind.i64 change = Value.int IntKind.i64 change) ∧ (nat_lit 0 = nat_lit 0 ∧ nat_lit 0 = nat_lit 0 ∧ List.length ps = List.length ps) ∧ (nat_lit 0 = nat_lit 0 ∧ nat_lit 0 = nat_lit 0 ∧ List.length st = List.length st) ∧ True; let Ab := fun (x : A0) => (↑(As x) : Int); let Ac := fun (x : A0) => (↑(A7 x) : Int); let AM := AJ != (0 : Int); let At := fun (x : A0) => Value.int IntKind.i64 (Ac x); let AN := fun (x : A0) => Value.int IntKind.i64 (Ab x); let AO := fun (x : A0) => Int.toNat n - As x; let A5 := (Value.int IntKind.i64 s0 = Value.int IntKind.i64 s0) ∧ (Value.int IntKind.i64 s1 = Value.int IntKind.i64 s1) ∧ (Value.int IntKind.i64 l0 = Value.int IntKind.i64 l0) ∧ (Value.int IntKind.i64 l1 = Value.int IntKind.i64 l1) ∧ (Value.int IntKind.i64 g0 = Value.int IntKind.i64 g0) ∧ (Value.int IntKind.i64 g1 = Value.int IntKind.i64 g1) ∧ (Value.int IntKind.i64 full = Value.int IntKind.i64 full) ∧ True; let AP := fun (t : A0) => nat_lit 0 + (Int.toNat (Ac t)); let AQ := fun (t : A0) => nat_lit 0 + (Int.toNat (Ab t)); let AR := fun (t : A0) => Ac t == (0 : Int); let AS := fun (x : A2) => lfRM A4 (PlotT.mk (GroundT.mk long rise change ps) st) (Int.toNat n) (Aq x); let Ae := (Ax = Ax) ∧ Aa = Aa; let Ai := fun (x : A2) => Ao - Aq x; let Af := fun (x : A2) => Value.int IntKind.i64 ((Prod.snd (AS x))); let Ag := fun (x : A2) => Value.int IntKind.i64 ((Prod.fst (AS x))); let AT := fun (t : A2) => Ah t < AF; let AU := fun (x : A0) => lfRM A4 (PlotT.mk (GroundT.mk long rise change ps) st) (Int.toNat n) (A7 x); let AV := fun (x : A0) => Prod.snd (AU x); let AW := fun (x : A0) => Prod.fst (AU x); let Aj := fun (t : A0) => List.getD st (AQ t) (((0 : Int), (((0 : Int), (0 : Int))))); let Au := fun (x : A0) => Value.int IntKind.i64 (AV x); let Av := fun (x : A0) => Value.int IntKind.i64 (AW x); let AX := fun (t : A0) => Prod.snd (Aj t); let AY := fun (t : A0) => Value.int IntKind.i64 ((Prod.fst (Aj t))); let AZ := fun (t : A0) => Value.int IntKind.i64 ((Prod.snd (AX t))); let B0 := fun (t : A0) => Value.int IntKind.i64 ((Prod.fst (AX t))); let B1 := fun (t x : A0) => A7 t = A7 x; let B2 := fun (t : A0) => decide ((Ab t < n)); let Aw := fun (t : A0) => List.getD Aa (AP t) AC; let B3 := fun (t : A0) => Prod.snd (Aw t); let B4 := fun (t : A0) => Value.int IntKind.i64 ((Prod.fst (Aw t))); let B5 := fun (t : A0) => Prod.snd (B3 t); let B6 := fun (t : A0) => Value.int IntKind.i64 ((Prod.fst (B3 t))); let B7 := fun (t : A0) => Value.bool ((Prod.snd (B5 t))); let B8 := fun (t : A0) => Value.int IntKind.i64 ((Prod.fst (B5 t))); let A6 := fun (x : A0) => endRM A4 (PlotT.mk (GroundT.mk long rise change ps) st) (As x) (A7 x); let Ak := fun (x : A0) => Value.int IntKind.i64 (A6 x); let B9 := fun (t : A0) (x : A2) => A1 ∧ (A1 ∧ (nat_lit 0 = nat_lit 0 ∧ (A1 ∧ (((Value.int IntKind.i64 ((IntKind.wrap IntKind.i64 ((Ac t + (1 : Int)))))) = Ar x) ∧ True)))); let Ba := fun (t : A2) => decide (AT t); True ∧ (A9 ∧ An ∧ Ay = Ay ∧ True) ∧ True ∧ (List.length ps < nat_lit 1000000 ∧ List.length st < nat_lit 1000000) ∧ (A5 ∧ A8 ∧ AB = AB ∧ True) ∧ Am ∧ (AM = true → True ∧ (((A3 = AH ∧ A3 = AI ∧ True) ∧ Value.int IntKind.i64 AJ = AG ∧ True) ∧ True) ∧ AA) ∧ (AM = false → teamM A4 = true ∧ (A5 ∧ True) ∧ True ∧ (∃ (x : A2), (A9 ∧ A1 ∧ A1 ∧ A1 ∧ nat_lit 0 = nat_lit 0 ∧ A1 ∧ A3 = Ar x ∧ True) ∧ True ∧ ps = ps ∧ st = st ∧ A5 ∧ A8 ∧ Ad ∧ Ae ∧ (A3 = Ag x ∧ A3 = Af x ∧ True) ∧ True) ∧ ∀ (t : A2), (Ba t = true → ((0 : Int) ≤ Ah t ∧ AT t) ∧ AK t < Ap ∧ ∃ (x : A0), ((A9 ∧ A1 ∧ A1 ∧ A1 ∧ nat_lit 0 = nat_lit 0 ∧ A1 ∧ Ar t = At x ∧ Value.int IntKind.i64 (Prod.fst (List.getD Aa (AK t) AC)) = Ak x ∧ A3 = AN x ∧ True) ∧ True ∧ ps = ps ∧ st = st ∧ A5 ∧ A8 ∧ Ad ∧ Ae ∧ (Ag t = Av x ∧ Af t = Au x ∧ True) ∧ True) ∧ A7 x = A7 x ∧ ∀ (t_1 : A0), B1 t_1 x → (B2 t_1 = true → ((0 : Int) ≤ Ac t_1 ∧ Ac t_1 < AF) ∧ AP t_1 < Ap ∧ ((0 : Int) ≤ Ab t_1 ∧ Ab t_1 < Al) ∧ AQ t_1 < List.length st ∧ (groundM (GroundT.mk long rise change ps) = true ∧ hokM (GroundT.mk long rise change ps) = true ∧ okStepM long (Aj t_1) = true) ∧ (A5 ∧ A8 ∧ (B4 t_1 = B4 t_1 ∧ B6 t_1 = B6 t_1 ∧ B8 t_1 = B8 t_1 ∧ B7 t_1 = B7 t_1 ∧ True) ∧ Ak t_1 = Ak t_1 ∧ (AY t_1 = AY t_1 ∧ B0 t_1 = B0 t_1 ∧ AZ t_1 = AZ t_1 ∧ True) ∧ True) ∧ Am ∧ True ∧ ∃ (x_1 : A0), ((A9 ∧ A1 ∧ A1 ∧ A1 ∧ nat_lit 0 = nat_lit 0 ∧ A1 ∧ At t_1 = At x_1 ∧ Value.int IntKind.i64 (Prod.fst (afterM A4 (GroundT.mk long rise change ps) (Aw t_1) (A6 t_1) (Aj t_1))) = Ak x_1 ∧ Value.int IntKind.i64 (IntKind.wrap IntKind.i64 (Ab t_1 + (1 : Int))) = AN x_1 ∧ True) ∧ True ∧ ps = ps ∧ st = st ∧ A5 ∧ A8 ∧ Ad ∧ Ae ∧ (Av t_1 = Av x_1 ∧ Au t_1 = Au x_1 ∧ True) ∧ True) ∧ AO x_1 < AO t_1 ∧ B1 x_1 x) ∧ (B2 t_1 = false → (AR t_1 = true → True ∧ ∃ (x : A2), ((A9 ∧ A1 ∧ B9 t_1 x) ∧ True ∧ ps = ps ∧ st = st ∧ A5 ∧ A8 ∧ Ad ∧ Ae ∧ (Value.int IntKind.i64 (min (A6 t_1) (A6 t_1)) = Ag x ∧ Value.int IntKind.i64 (max (A6 t_1) (A6 t_1)) = Af x ∧ True) ∧ True) ∧ Ai x < Ai t) ∧ (AR t_1 = false → True ∧ ∃ (x : A2), ((A9 ∧ A1 ∧ B9 t_1 x) ∧ True ∧ ps = ps ∧ st = st ∧ A5 ∧ A8 ∧ Ad ∧ Ae ∧ (Value.int IntKind.i64 (min (AW t_1) (A6 t_1)) = Ag x ∧ Value.int IntKind.i64 (max (AV t_1) (A6 t_1)) = Af x ∧ True) ∧ True) ∧ Ai x < Ai t))) ∧ (Ba t = false → True ∧ (((Ag t = AH ∧ Af t = AI ∧ True) ∧ A3 = AG ∧ True) ∧ True) ∧ AA)))
    (by kernel_rfl) ?_
  simp only [eq_self, AE.goS]
  obtain ⟨h1, h2⟩ := hx
  have h1' : ps.length < 1000000 := h1
  have h2' : st.length < 1000000 := h2
  have hI : ∀ i : Nat, i ≤ 3000000000 → IntKind.i64.wrap ((i : Int) + 1) = ((i + 1 : Nat) : Int) := fun i hi => by rw [wrap_id (by omega) (by omega)]; omega
  refine ⟨⟨h1', h2'⟩, fun hc => ?_, fun hc => ?_⟩
  · have hc' : ¬ checkRM ((s0, s1), (l0, l1), (g0, g1), full) ⟨⟨long, rise, change, ps⟩, st⟩ (inM n 0 st.length) = 0 := by simpa using hc
    unfold leftRM
    rw [if_neg hc']
    exact ⟨⟨rfl, rfl⟩, rfl⟩
  have hc' : checkRM ((s0, s1), (l0, l1), (g0, g1), full) ⟨⟨long, rise, change, ps⟩, st⟩ (inM n 0 st.length) = 0 := by simpa using hc
  obtain ⟨hT, hP, hin, _⟩ := check_ok hc'
  have hG := check_go hc'
  have hB := all_bound hT
  have hn : 0 ≤ n ∧ n ≤ (st.length : Int) := by
    unfold inM at hin
    simpa using hin
  have hR : leftRM ((s0, s1), (l0, l1), (g0, g1), full) ⟨⟨long, rise, change, ps⟩, st⟩ n = (lfRM ((s0, s1), (l0, l1), (g0, g1), full) ⟨⟨long, rise, change, ps⟩, st⟩ n.toNat (allRM ((s0, s1), (l0, l1), (g0, g1), full)).length, 0) := by
    unfold leftRM
    rw [if_pos hc']
  refine ⟨hT, ⟨⟨0, Nat.zero_le _⟩, rfl, rfl, rfl⟩, fun t => ⟨fun ht => ?_, fun ht => ?_⟩⟩
  · obtain ⟨i, hi⟩ := t
    have hlt : i < (allRM ((s0, s1), (l0, l1), (g0, g1), full)).length := by have h1 : (i : Int) < ((allRM ((s0, s1), (l0, l1), (g0, g1), full)).length : Int) := ht; omega
    refine ⟨⟨Int.natCast_nonneg _, ht⟩, hlt, ⟨(i, 0), hlt, Nat.zero_le _⟩, ⟨⟨rfl, rfl, rfl⟩, rfl, rfl⟩, fun t => ?_⟩
    obtain ⟨⟨i', k⟩, h3, h4⟩ := t
    intro hii
    have hii' : i' = i := hii
    subst hii'
    have h4' : k ≤ n.toNat := h4
    refine ⟨fun hk => ?_, fun hk => ?_⟩
    · have hkn : k < n.toNat := by have h1 : (k : Int) < n := hk; omega
      have hks : k < st.length := by omega
      refine ⟨⟨Int.natCast_nonneg _, ht⟩, hlt, ⟨Int.natCast_nonneg _, by show (k : Int) < (st.length : Int); omega⟩, hks, ⟨hG.ground, hG.hard, hG.steps k hks⟩, ⟨(i', k + 1), hlt, hkn⟩, ⟨⟨rfl, rfl, hI k (by omega)⟩, rfl, rfl⟩, dec1 hkn, rfl⟩
    · have hke : k = n.toNat := by have h1 : ¬ (k : Int) < n := hk; omega
      subst hke
      refine ⟨fun h0 => ⟨⟨i' + 1, hlt⟩, ⟨hI i' (by omega), ?_, ?_⟩, dec1 hlt⟩, fun h0 => ⟨⟨i' + 1, hlt⟩, ⟨hI i' (by omega), ?_, ?_⟩, dec1 hlt⟩⟩
      · have h00 : i' = 0 := by have h9 : (i' : Int) = 0 := eq_of_beq h0; omega
        show _ = min (if i' = 0 then endRM ((s0, s1), (l0, l1), (g0, g1), full) ⟨⟨long, rise, change, ps⟩, st⟩ n.toNat i' else _) _
        rw [if_pos h00]
      · have h00 : i' = 0 := by have h9 : (i' : Int) = 0 := eq_of_beq h0; omega
        show _ = max (if i' = 0 then endRM ((s0, s1), (l0, l1), (g0, g1), full) ⟨⟨long, rise, change, ps⟩, st⟩ n.toNat i' else _) _
        rw [if_pos h00]
      · have h00 : ¬ i' = 0 := by
          have h5 : ¬ (i' : Int) = 0 := by simpa using h0
          omega
        show _ = min (if i' = 0 then endRM ((s0, s1), (l0, l1), (g0, g1), full) ⟨⟨long, rise, change, ps⟩, st⟩ n.toNat i' else _) _
        rw [if_neg h00]
      · have h00 : ¬ i' = 0 := by
          have h5 : ¬ (i' : Int) = 0 := by simpa using h0
          omega
        show _ = max (if i' = 0 then endRM ((s0, s1), (l0, l1), (g0, g1), full) ⟨⟨long, rise, change, ps⟩, st⟩ n.toNat i' else _) _
        rw [if_neg h00]
  · obtain ⟨i, hi⟩ := t
    have hie : i = (allRM ((s0, s1), (l0, l1), (g0, g1), full)).length := by have h1 : ¬ (i : Int) < ((allRM ((s0, s1), (l0, l1), (g0, g1), full)).length : Int) := ht; omega
    subst hie
    rw [hR]
    exact ⟨⟨rfl, rfl⟩, rfl⟩

theorem leftR_sound : Sound Tryz.prog 13 leftRS.con := FSpec.sound _ (enter_of Tryz.func13 (by kernel_rfl) (by kernel_rfl)) leftR_ok
def minF (t : TeamT) (p : PlotT) (a : Int) (r : RhT) : Int := if fallRM t p r ≥ 0 then min a (fallRM t p r) else a
def fstM (t : TeamT) (p : PlotT) (i : Nat) : Int := ((allRM t).take i).foldl (minF t p) (p.steps.length : Int)
def firstRM (t : TeamT) (p : PlotT) : Int := fstM t p (allRM t).length
def sameRM (t : TeamT) (p : PlotT) : Bool := (allRM t).all fun r => fallRM t p r == firstRM t p
def failsRM (t : TeamT) (p : PlotT) : Int × Bool × Int := if checkRM t p true = 0 then (if firstRM t p = (p.steps.length : Int) then (0, false, 4) else (firstRM t p, sameRM t p, 0)) else (0, false, checkRM t p true)
theorem fst_suc {t : TeamT} {p : PlotT} {i : Nat} (h : i < (allRM t).length) : fstM t p (i + 1) = minF t p (fstM t p i) ((allRM t).getD i rh0) := by
  unfold fstM
  rw [List.take_add_one, List.foldl_append, List.getElem?_eq_getElem h, List.getD_eq_getElem?_getD, List.getElem?_eq_getElem h]; rfl
def rfH (t : TeamT) (p : PlotT) : Heap UU := hPlot p ++ [.one (.cells (cTeam t) 25), .one (.cells (cPlot p 0 1) 31), .one (.row .rhorse (allRM t) 85)]
def rfL1 (t : TeamT) (p : PlotT) : LSpec UU where
  T := { i : Nat // i ≤ (allRM t).length }
  fr := fun i => [(2, .ptr 2 0 0 0), (3, .ptr 3 0 0 0), (8, .gs 4 0), (9, .i (fstM t p i.1)), (10, .i i.1)]
  H := fun _ => rfH t p
  mu := fun i => (allRM t).length - i.1
def rfL2 (t : TeamT) (p : PlotT) : LSpec UU where
  T := { i : Nat // i ≤ (allRM t).length ∧ ∀ j, j < i → fallRM t p ((allRM t).getD j rh0) = firstRM t p }
  fr := fun i => [(2, .ptr 2 0 0 0), (3, .ptr 3 0 0 0), (8, .gs 4 0), (9, .i (firstRM t p)), (12, .i i.1)]
  H := fun _ => rfH t p
  mu := fun i => (allRM t).length - i.1
def rfRule (t : TeamT) (p : PlotT) (key : Nat) : Option (LRule UU) := match Nat.beq key 7 with
  | true => some (.inv (rfL1 t p))
  | false => match Nat.beq key 15 with
    | true => some (.inv (rfL2 t p))
    | false => none
def failsRS : FSpec UU := { oneS fun x => .val ⟨.tup [.i (failsRM x.1 x.2).1, .b (failsRM x.1 x.2).2.1, .i (failsRM x.1 x.2).2.2], [], [], []⟩ with pre := sizeP }
theorem failsR_ok : ∀ x, failsRS.pre x → FunOk Tryz.prog 15 (failsRS.args x) (failsRS.H x) (failsRS.R x) := by
  rintro ⟨⟨⟨s0, s1⟩, ⟨l0, l1⟩, ⟨g0, g1⟩, full⟩, ⟨⟨long, rise, change, ps⟩, st⟩⟩ hx
  refine fun_of (T := Tcr) (L := rfRule ((s0, s1), (l0, l1), (g0, g1), full) ⟨⟨long, rise, change, ps⟩, st⟩) (hs := fun _ => []) hmix Tcr_ok Tryz.func15 (by kernel_rfl) (by kernel_rfl) ?_
  refine Eq.mp (α :=
      let Ap := (85 : TypeId); let A2 := nat_lit 0 = nat_lit 0 ∧ nat_lit 0 = nat_lit 0 ∧ nat_lit 0 = nat_lit 0; let Aa := Value.int IntKind.i64 (0 : Int); let Aq := (↑(List.length st) : Int); let Ar := List.length st < nat_lit 1000000; let Ab := ps = ps ∧ st = st ∧ True; let Ac := True ∧ Ab; let As := GoOk (PlotT.mk (GroundT.mk long rise change ps) st) ∧ Ar; let A3 := ((s0, s1), (((l0, l1), (((g0, g1), full))))); let Af := ((0 : Int), (((0 : Int), (((0 : Int), false))))); let A4 : List RhT := allRM A3; let Ag := List.length A4; let Ah := List.length A4; let At := failsRM A3 (PlotT.mk (GroundT.mk long rise change ps) st); let Ai := firstRM A3 (PlotT.mk (GroundT.mk long rise change ps) st); let Au := fun (i : Nat) => i ≤ Ag; let Av := checkRM A3 (PlotT.mk (GroundT.mk long rise change ps) st) true; let Ad := Value.int IntKind.i64 Ai; let Aw := (↑Ah : Int); let Ax := Prod.snd At; let A0 : Type := { i : Nat // Au i }; let Aj := fun (x : A0) => Subtype.val x; let Ay := Value.int IntKind.i64 (Prod.fst At); let Az := Value.bool (Prod.fst Ax); let A5 := fun (x : A0) => (↑(Aj x) : Int); let Ak := Value.int IntKind.i64 (Prod.snd Ax); let AA := fun (t : A0) => Int.toNat (A5 t); let AB := fun (x : A0) => Value.int IntKind.i64 (A5 x); let Al := Az = Value.bool false; let AC := Av != (0 : Int); let AD := Aa = Ay; let AE := fun (t : A0) => nat_lit 0 + AA t; let AF := (Aa = Ak) ∧ True; let Ae := (Value.int IntKind.i64 long = Value.int IntKind.i64 long) ∧ (Value.int IntKind.i64 rise = Value.int IntKind.i64 rise) ∧ (Value.int IntKind.i64 change = Value.int IntKind.i64 change) ∧ (nat_lit 0 = nat_lit 0 ∧ nat_lit 0 = nat_lit 0 ∧ List.length ps = List.length ps) ∧ (nat_lit 0 = nat_lit 0 ∧ nat_lit 0 = nat_lit 0 ∧ List.length st = List.length st) ∧ True; let A6 := (Value.int IntKind.i64 s0 = Value.int IntKind.i64 s0) ∧ (Value.int IntKind.i64 s1 = Value.int IntKind.i64 s1) ∧ (Value.int IntKind.i64 l0 = Value.int IntKind.i64 l0) ∧ (Value.int IntKind.i64 l1 = Value.int IntKind.i64 l1) ∧ (Value.int IntKind.i64 g0 = Value.int IntKind.i64 g0) ∧ (Value.int IntKind.i64 g1 = Value.int IntKind.i64 g1) ∧ (Value.int IntKind.i64 full = Value.int IntKind.i64 full) ∧ True; let Am := fun (x : A0) => fstM A3 (PlotT.mk (GroundT.mk long rise change ps) st) (Aj x); let A7 := fun (x : A0) => Value.int IntKind.i64 (Am x); let AG := fun (x : A0) => Ag - Aj x; let AH := Ad = Ay; let AI := fun (t : A0) => A5 t < Aw; let AJ := fun (t : A0) => Am t == Aq; let B7 := fun (i : Nat) => ∀ (j : Nat), (j < i → ((fallRM A3 (PlotT.mk (GroundT.mk long rise change ps) st) ((List.getD A4 j rh0))) = Ai)); let AK := fun (t x : A0) => ((Value.int IntKind.i64 ((IntKind.wrap IntKind.i64 ((A5 t + (1 : Int)))))) = AB x) ∧ True; let An := fun (t : A0) => List.getD A4 (AE t) Af; let AL := fun (t : A0) => Prod.snd (An t); let AM := fun (t : A0) => Value.int IntKind.i64 ((Prod.fst (An t))); let AN := fun (t : A0) => Prod.snd (AL t); let AO := fun (t : A0) => Value.int IntKind.i64 ((Prod.fst (AL t))); let AP := fun (t : A0) => Value.bool ((Prod.snd (AN t))); let AQ := fun (t : A0) => Value.int IntKind.i64 ((Prod.fst (AN t))); let A1 : Type := { i : Nat // (Au i ∧ B7 i) }; let AR := fun (x : A1) => Subtype.val x; let A8 := fun (x : A1) => (↑(AR x) : Int); let AS := fun (x : A1) => Value.int IntKind.i64 (A8 x); let AT := fun (x t : A0) => AG x < AG t; let AU := fun (t : A1) => nat_lit 0 + (Int.toNat (A8 t)); let AV := fun (t : A0) => decide (AI t); let AW := fun (x : A1) => Ag - AR x; let AX := fun (t : A1) => A8 t < Aw; let A9 := True ∧ ps = ps ∧ st = st ∧ A6 ∧ Ae ∧ ((Ap = Ap) ∧ A4 = A4) ∧ True; let Ao := fun (t : A1) => List.getD A4 (AU t) Af; let AY := fun (t : A1) => Prod.snd (Ao t); let AZ := fun (t : A1) => Value.int IntKind.i64 ((Prod.fst (Ao t))); let B0 := fun (t : A1) => Prod.snd (AY t); let B1 := fun (t : A1) => Prod.snd (B0 t); let B2 := fun (t : A1) => Prod.fst (B0 t); let B3 := fun (t : A1) => Value.int IntKind.i64 ((Prod.fst (AY t))); let B4 := fun (t : A1) => fallRM A3 (PlotT.mk (GroundT.mk long rise change ps) st) (Ao t) != Ai; let B5 := fun (t : A1) => decide (AX t); let B6 := fun (t : A0) => decide (((fallRM A3 (PlotT.mk (GroundT.mk long rise change ps) st) (An t)) ≥ (0 : Int))); (List.length ps < nat_lit 1000000 ∧ Ar) ∧ (A6 ∧ Ae ∧ Value.bool true = Value.bool true ∧ True) ∧ Ab ∧ (AC = true → True ∧ ((AD ∧ Al ∧ Value.int IntKind.i64 Av = Ak ∧ True) ∧ True) ∧ Ac) ∧ (AC = false → teamM A3 = true ∧ (A6 ∧ True) ∧ True ∧ (∃ (x : A0), (A2 ∧ A2 ∧ nat_lit 0 = nat_lit 0 ∧ Value.int IntKind.i64 Aq = A7 x ∧ Aa = AB x ∧ True) ∧ A9) ∧ ∀ (t : A0), (AV t = true → ((0 : Int) ≤ A5 t ∧ AI t) ∧ AE t < Ah ∧ As ∧ (A6 ∧ Ae ∧ (AM t = AM t ∧ AO t = AO t ∧ AQ t = AQ t ∧ AP t = AP t ∧ True) ∧ True) ∧ Ab ∧ (B6 t = true → True ∧ ∃ (x : A0), ((A2 ∧ A2 ∧ nat_lit 0 = nat_lit 0 ∧ Value.int IntKind.i64 (min (Am t) (fallRM A3 (PlotT.mk (GroundT.mk long rise change ps) st) (List.getD A4 ((0 : Nat) + AA t) Af))) = A7 x ∧ AK t x) ∧ A9) ∧ AT x t) ∧ (B6 t = false → True ∧ ∃ (x : A0), ((A2 ∧ A2 ∧ nat_lit 0 = nat_lit 0 ∧ A7 t = A7 x ∧ AK t x) ∧ A9) ∧ AT x t)) ∧ (AV t = false → (AJ t = true → True ∧ ((AD ∧ Al ∧ Value.int IntKind.i64 (4 : Int) = Ak ∧ True) ∧ True) ∧ Ac) ∧ (AJ t = false → (∃ (x : A1), (A2 ∧ A2 ∧ nat_lit 0 = nat_lit 0 ∧ A7 t = Ad ∧ Aa = AS x ∧ True) ∧ A9) ∧ ∀ (t : A1), (B5 t = true → ((0 : Int) ≤ A8 t ∧ AX t) ∧ AU t < Ah ∧ As ∧ (A6 ∧ Ae ∧ (AZ t = AZ t ∧ B3 t = B3 t ∧ Value.int IntKind.i64 (B2 t) = Value.int IntKind.i64 (B2 t) ∧ Value.bool (B1 t) = Value.bool (B1 t) ∧ True) ∧ True) ∧ Ab ∧ (B4 t = true → True ∧ ((AH ∧ Al ∧ AF) ∧ True) ∧ Ac) ∧ (B4 t = false → True ∧ ∃ (x : A1), ((A2 ∧ A2 ∧ nat_lit 0 = nat_lit 0 ∧ Ad = Ad ∧ Value.int IntKind.i64 (IntKind.wrap IntKind.i64 (A8 t + (1 : Int))) = AS x ∧ True) ∧ A9) ∧ AW x < AW t)) ∧ (B5 t = false → True ∧ ((AH ∧ Az = Value.bool true ∧ AF) ∧ True) ∧ Ac)))))
    (by kernel_rfl) ?_
  simp only [eq_self, AE.goS]
  obtain ⟨h1, h2⟩ := hx
  have h1' : ps.length < 1000000 := h1
  have h2' : st.length < 1000000 := h2
  have hI : ∀ i : Nat, i ≤ 3000000000 → IntKind.i64.wrap ((i : Int) + 1) = ((i + 1 : Nat) : Int) := fun i hi => by rw [wrap_id (by omega) (by omega)]; omega
  refine ⟨⟨h1', h2'⟩, fun hc => ?_, fun hc => ?_⟩
  · have hc' : ¬ checkRM ((s0, s1), (l0, l1), (g0, g1), full) ⟨⟨long, rise, change, ps⟩, st⟩ true = 0 := by simpa using hc
    unfold failsRM
    rw [if_neg hc']
    exact ⟨rfl, rfl, rfl⟩
  have hc' : checkRM ((s0, s1), (l0, l1), (g0, g1), full) ⟨⟨long, rise, change, ps⟩, st⟩ true = 0 := by simpa using hc
  have hT := (check_ok hc').1
  have hG := check_go hc'
  have hB := all_bound hT
  refine ⟨hT, ⟨⟨0, Nat.zero_le _⟩, rfl, rfl⟩, fun t => ⟨fun ht => ?_, fun ht => ?_⟩⟩
  · obtain ⟨i, hi⟩ := t
    have hlt : i < (allRM ((s0, s1), (l0, l1), (g0, g1), full)).length := by have h1 : (i : Int) < ((allRM ((s0, s1), (l0, l1), (g0, g1), full)).length : Int) := ht; omega
    have hfs := fst_suc (t := ((s0, s1), (l0, l1), (g0, g1), full)) (p := ⟨⟨long, rise, change, ps⟩, st⟩) hlt
    unfold minF at hfs
    refine ⟨⟨Int.natCast_nonneg _, ht⟩, hlt, ⟨hG, h2'⟩, fun h => ⟨⟨i + 1, hlt⟩, ⟨?_, hI i (by omega)⟩, dec1 hlt⟩, fun h => ⟨⟨i + 1, hlt⟩, ⟨?_, hI i (by omega)⟩, dec1 hlt⟩⟩
    · rw [if_pos (show fallRM ((s0, s1), (l0, l1), (g0, g1), full) ⟨⟨long, rise, change, ps⟩, st⟩ ((allRM ((s0, s1), (l0, l1), (g0, g1), full)).getD i rh0) ≥ 0 from h)] at hfs
      exact hfs.symm
    · rw [if_neg (show ¬ fallRM ((s0, s1), (l0, l1), (g0, g1), full) ⟨⟨long, rise, change, ps⟩, st⟩ ((allRM ((s0, s1), (l0, l1), (g0, g1), full)).getD i rh0) ≥ 0 from h)] at hfs
      exact hfs.symm
  · obtain ⟨i, hi⟩ := t
    have hie : i = (allRM ((s0, s1), (l0, l1), (g0, g1), full)).length := by have h1 : ¬ (i : Int) < ((allRM ((s0, s1), (l0, l1), (g0, g1), full)).length : Int) := ht; omega
    subst hie
    refine ⟨fun h => ?_, fun h => ?_⟩
    · unfold failsRM
      rw [if_pos hc', if_pos (show firstRM ((s0, s1), (l0, l1), (g0, g1), full) ⟨⟨long, rise, change, ps⟩, st⟩ = (st.length : Int) from eq_of_beq h)]
      exact ⟨rfl, rfl, rfl⟩
    have hne : ¬ firstRM ((s0, s1), (l0, l1), (g0, g1), full) ⟨⟨long, rise, change, ps⟩, st⟩ = (st.length : Int) := by
      have h5 : ¬ fstM ((s0, s1), (l0, l1), (g0, g1), full) ⟨⟨long, rise, change, ps⟩, st⟩ (allRM ((s0, s1), (l0, l1), (g0, g1), full)).length = (st.length : Int) := by simpa using h
      exact h5
    have hR : failsRM ((s0, s1), (l0, l1), (g0, g1), full) ⟨⟨long, rise, change, ps⟩, st⟩ = (firstRM ((s0, s1), (l0, l1), (g0, g1), full) ⟨⟨long, rise, change, ps⟩, st⟩, sameRM ((s0, s1), (l0, l1), (g0, g1), full) ⟨⟨long, rise, change, ps⟩, st⟩, 0) := by
      unfold failsRM
      rw [if_pos hc', if_neg hne]
    rw [hR]
    refine ⟨⟨⟨0, Nat.zero_le _, fun j hj => absurd hj (Nat.not_lt_zero j)⟩, rfl, rfl⟩, fun t => ⟨fun ht => ?_, fun ht => ?_⟩⟩
    · obtain ⟨i, hi, h0⟩ := t
      have hlt : i < (allRM ((s0, s1), (l0, l1), (g0, g1), full)).length := by have h1 : (i : Int) < ((allRM ((s0, s1), (l0, l1), (g0, g1), full)).length : Int) := ht; omega
      refine ⟨⟨Int.natCast_nonneg _, ht⟩, hlt, ⟨hG, h2'⟩, fun h => ⟨rfl, ?_, rfl⟩, fun h => ⟨⟨i + 1, hlt, fun j hj => ?_⟩, hI i (by omega), dec1 hlt⟩⟩
      · show sameRM ((s0, s1), (l0, l1), (g0, g1), full) ⟨⟨long, rise, change, ps⟩, st⟩ = false
        unfold sameRM
        rw [List.all_eq_false]
        refine ⟨(allRM ((s0, s1), (l0, l1), (g0, g1), full))[i], List.getElem_mem hlt, ?_⟩
        have h5 : ¬ fallRM ((s0, s1), (l0, l1), (g0, g1), full) ⟨⟨long, rise, change, ps⟩, st⟩ ((allRM ((s0, s1), (l0, l1), (g0, g1), full)).getD i rh0) = firstRM ((s0, s1), (l0, l1), (g0, g1), full) ⟨⟨long, rise, change, ps⟩, st⟩ := by simpa using h
        rw [List.getD_eq_getElem?_getD, List.getElem?_eq_getElem hlt] at h5
        simpa using h5
      · rcases Nat.lt_or_eq_of_le (Nat.le_of_lt_succ hj) with h6 | rfl
        · exact h0 j h6
        · simpa using h
    · obtain ⟨i, hi, h0⟩ := t
      have hie : i = (allRM ((s0, s1), (l0, l1), (g0, g1), full)).length := by have h1 : ¬ (i : Int) < ((allRM ((s0, s1), (l0, l1), (g0, g1), full)).length : Int) := ht; omega
      subst hie
      refine ⟨rfl, ?_, rfl⟩
      show sameRM ((s0, s1), (l0, l1), (g0, g1), full) ⟨⟨long, rise, change, ps⟩, st⟩ = true
      unfold sameRM
      rw [List.all_eq_true]
      intro x hx
      obtain ⟨j, hj, rfl⟩ := List.getElem_of_mem hx
      have := h0 j hj
      rw [List.getD_eq_getElem?_getD, List.getElem?_eq_getElem hj] at this
      simpa using this

theorem failsR_sound : Sound Tryz.prog 15 failsRS.con := FSpec.sound _ (enter_of Tryz.func15 (by kernel_rfl) (by kernel_rfl)) failsR_ok
end AE.Team

namespace AE.Team
open Go AE Go.Proofs AE.Soil

theorem hard_zero' {g : GroundT} (hg : groundM g = true) : ((hardOM g 0).2 == 0) = rtruthM g := by
  have hok := ground_ok hg
  have h0 : Pl g 0 := ⟨Int.le_refl _, by have := hok.long.1; omega⟩
  rw [hard_told hg h0, truth_look hok]
  cases lookM g <;> rfl
theorem check_same (t : TeamT) (p : PlotT) (v : Bool) : checkRM t p v = openErrM t p v := by
  unfold checkRM openErrM
  cases ht : teamM t with
  | false => rfl
  | true =>
    cases hp : isPlotM p with
    | false => rfl
    | true => rw [hard_zero' (plot_ok hp).1]
section
variable {t : TeamT} {p : PlotT}
structure Fine (t : TeamT) (p : PlotT) : Prop where
  team : teamM t = true
  plot : isPlotM p = true
  truth : rtruthM p.g = true
theorem fine_of {v : Bool} (h : checkRM t p v = 0) : Fine t p := by
  obtain ⟨h1, h2, _, h4⟩ := check_ok h
  exact ⟨h1, h2, h4⟩
theorem Fine.open (f : Fine t p) : (openErrM t p true == 0) = true := by
  rw [← check_same]
  unfold checkRM
  rw [f.team, f.plot, f.truth]; rfl
theorem Fine.works (f : Fine t p) : StepsOk p.steps (worksM p) := works_ok (open_plot f.open) (open_hard f.open)
theorem work_of (f : Fine t p) {i : Nat} (hi : i < p.steps.length) (hr : ¬ (p.steps.getD i (0, 0, 0)).2.2 > 0) : (worksM p).getD i (0, 0) = rsumM p.g (p.steps.getD i (0, 0, 0)).1 (p.steps.getD i (0, 0, 0)).2.1 := by
  obtain ⟨hg, _, hs⟩ := plot_ok f.plot
  rw [works_get p i hi]
  have hsi := hs i hi
  have ho := ok_step hsi hr
  have h0 := step_rest_ok hsi
  revert ho h0 hr
  generalize p.steps.getD i (0, 0, 0) = s
  intro hr ho h0
  have hz : s.2.2 = 0 := by omega
  unfold wM
  rw [hz]
  show (workOM p.g s.1 s.2.1).1 = _
  rw [work_same]
  unfold rworkM
  have hw : rwokM p.g s.1 s.2.1 = true := by
    unfold rwokM inM
    simp only [Bool.and_eq_true, decide_eq_true_eq]
    omega
  have hc : rcheckM p.g true = 0 := by
    unfold rcheckM
    rw [hg, f.truth]; rfl
  rw [hw, if_pos hc]
theorem after_same (f : Fine t p) (r : RhT) {i : Nat} (hi : i < p.steps.length) (now : Int) : (afterM t p.g r now (p.steps.getD i (0, 0, 0))).1 = doM (rHor t r) (p.steps.getD i (0, 0, 0)) ((worksM p).getD i (0, 0)) now := by
  unfold afterM doM
  by_cases hr : (p.steps.getD i (0, 0, 0)).2.2 > 0
  · rw [if_pos hr, if_pos hr]
  · rw [if_neg hr, if_neg hr, work_of f hi hr]
theorem now_same (f : Fine t p) (r : RhT) : ∀ i, i ≤ p.steps.length → nowR t p r i = nowM p.steps (worksM p) (rHor t r) i
  | 0, _ => rfl
  | i + 1, hi => by
    show (afterM t p.g r (nowR t p r i) (p.steps.getD i (0, 0, 0))).1 = doM (rHor t r) (p.steps.getD i (0, 0, 0)) ((worksM p).getD i (0, 0)) (nowM p.steps (worksM p) (rHor t r) i)
    rw [now_same f r i (by omega), after_same f r (by omega)]
structure Within (t : TeamT) (r : RhT) : Prop where
  s : t.1.1 ≤ r.1 ∧ r.1 ≤ t.1.2
  l : t.2.1.1 ≤ r.2.1 ∧ r.2.1 ≤ t.2.1.2
  g : t.2.2.1.1 ≤ r.2.2.1 ∧ r.2.2.1 ≤ t.2.2.1.2
theorem Within.hor {r : RhT} (w : Within t r) (h : teamM t = true) : HorOk (rHor t r) ∧ 0 ≤ (rHor t r).1 ∧ (rHor t r).1 ≤ (rHor t r).2.2.2.1 := by
  have := team_ok h
  have h1 := w.s
  have h2 := w.l
  have h3 := w.g
  unfold rHor
  exact ⟨⟨by show 0 ≤ r.2.1; omega, by show r.2.1 ≤ 100; omega, by show 0 ≤ r.2.2.1; omega, by show r.2.2.1 ≤ 1000; omega, by show 0 ≤ t.2.2.2; omega, by show t.2.2.2 ≤ 10000; omega⟩, by show 0 ≤ r.1; omega, by show r.1 ≤ t.2.2.2; omega⟩
theorem worst_le (f : Fine t p) {r : RhT} (w : Within t r) : NowLe p.steps (worksM p) (worksM p) (worstM t) (rHor t r) := by
  obtain ⟨a1, a2, a3⟩ := hor_ok f.team true
  obtain ⟨b1, b2, b3⟩ := w.hor f.team
  refine nowLe_of f.works f.works a1 b1 ⟨Int.le_refl _, w.l.2, w.g.1⟩ a2 a3 b2 b3 w.s.1 fun i hi => ?_
  have hw := f.works.work i hi
  unfold WOk at hw
  revert hw
  generalize (worksM p).getD i (0, 0) = w2
  intro hw
  show (if r.2.2.2 = true then w2.2 else w2.1) ≤ w2.2
  split <;> omega
theorem best_ge (f : Fine t p) {r : RhT} (w : Within t r) : NowLe p.steps (worksM p) (worksM p) (rHor t r) (bestM t) := by
  obtain ⟨a1, a2, a3⟩ := hor_ok f.team false
  obtain ⟨b1, b2, b3⟩ := w.hor f.team
  refine nowLe_of f.works f.works b1 a1 ⟨Int.le_refl _, w.l.1, w.g.2⟩ b2 b3 a2 a3 w.s.2 fun i hi => ?_
  have hw := f.works.work i hi
  unfold WOk at hw
  revert hw
  generalize (worksM p).getD i (0, 0) = w2
  intro hw
  show w2.1 ≤ (if r.2.2.2 = true then w2.2 else w2.1)
  split <;> omega
theorem find_same {n : Nat} {a b : Nat → Bool} (h : ∀ i, i < n → (∀ j, j < i → b j = false) → a i = b i) : (List.range n).find? a = (List.range n).find? b := by
  cases hb : (List.range n).find? b with
  | some i =>
    rw [List.find?_range_eq_some] at hb ⊢
    obtain ⟨h1, h2, h3⟩ := hb
    have hi := List.mem_range.1 h2
    have hf : ∀ j, j < i → b j = false := fun j hj => by have := h3 j hj; simpa using this
    refine ⟨by rw [h i hi hf]; exact h1, h2, fun j hj => ?_⟩
    rw [h j (by omega) fun k hk => hf k (by omega), hf j hj]; rfl
  | none =>
    rw [List.find?_range_eq_none] at hb ⊢
    intro j hj
    have hf : ∀ k, k < n → b k = false := fun k hk => by have := hb k hk; simpa using this
    rw [h j hj fun k hk => hf k (by omega), hf j hj]; rfl
theorem fall_same (f : Fine t p) {r : RhT} (w : Within t r) : fallRM t p r = if (failedM p.steps (worksM p) (rHor t r)).2 = true then (failedM p.steps (worksM p) (rHor t r)).1 else -1 := by
  obtain ⟨b1, b2, b3⟩ := w.hor f.team
  have hf : (List.range p.steps.length).find? (fun i => isR t p r i) = (List.range p.steps.length).find? fun i => decide (nowM p.steps (worksM p) (rHor t r) (i + 1) < 0) := by
    refine find_same fun i hi h0 => ?_
    have hnow : 0 ≤ nowM p.steps (worksM p) (rHor t r) i := by
      cases i with
      | zero => exact b2
      | succ j =>
        have := h0 j (Nat.lt_succ_self j)
        simp only [decide_eq_false_iff_not] at this
        omega
    have hb := now_bound f.works b1 b2 b3 i (by omega)
    show (afterM t p.g r (nowR t p r i) (p.steps.getD i (0, 0, 0))).2 = decide (doM (rHor t r) (p.steps.getD i (0, 0, 0)) ((worksM p).getD i (0, 0)) (nowM p.steps (worksM p) (rHor t r) i) < 0)
    rw [now_same f r i (by omega)]
    unfold afterM doM
    by_cases hr : (p.steps.getD i (0, 0, 0)).2.2 > 0
    · rw [if_pos hr, if_pos hr]
      have hrr := f.works.rest i hi
      have hfull := b1.f1
      have hmul := mul_bound b1.g0 b1.g1 hrr.1 hrr.2
      rw [rest_eq b1 hrr.1 hrr.2 (by omega) (by omega)]
      refine (decide_eq_false ?_).symm
      have := b1.f0
      omega
    · rw [if_neg hr, if_neg hr, work_of f hi hr]
  unfold fallRM failedM
  rw [hf]
  cases (List.range p.steps.length).find? fun i => decide (nowM p.steps (worksM p) (rHor t r) (i + 1) < 0) <;> rfl
theorem failed_cases (l : List StepT) (w : List Span) (h : HorT) : (∃ i, i < l.length ∧ failedM l w h = ((i : Int), true) ∧ nowM l w h (i + 1) < 0 ∧ ∀ j, j < i → 0 ≤ nowM l w h (j + 1)) ∨ (failedM l w h = (0, false) ∧ ∀ j, j < l.length → 0 ≤ nowM l w h (j + 1)) := by
  unfold failedM
  split
  · rename_i i hi
    rw [List.find?_range_eq_some] at hi
    obtain ⟨h1, h2, h3⟩ := hi
    refine .inl ⟨i, List.mem_range.1 h2, rfl, of_decide_eq_true h1, fun j hj => ?_⟩
    have := h3 j hj
    simp only [Bool.not_eq_true', decide_eq_false_iff_not] at this
    omega
  · rename_i hi
    rw [List.find?_range_eq_none] at hi
    refine .inr ⟨rfl, fun j hj => ?_⟩
    have := hi j hj
    simp only [Bool.not_eq_true', decide_eq_false_iff_not] at this
    omega
theorem first_le {l : List StepT} {w w' : List Span} {h h' : HorT} (hm : NowLe l w w' h h') {i : Int} (hf : failedM l w' h' = (i, true)) : ∃ k, failedM l w h = (k, true) ∧ 0 ≤ k ∧ k ≤ i := by
  rcases failed_cases l w' h' with ⟨j, hj, e, hlt, _⟩ | ⟨e, _⟩
  · rw [e] at hf
    cases hf
    have h1 := hm (j + 1) (by omega)
    rcases failed_cases l w h with ⟨k, hk, e', _, h0⟩ | ⟨_, h0⟩
    · refine ⟨k, e', Int.natCast_nonneg _, ?_⟩
      by_cases hkj : j < k
      · have := h0 j hkj; omega
      · omega
    · have := h0 j hj; omega
  · rw [e] at hf; cases hf
theorem mem_g {s l g : Int} {r : RhT} : ∀ n, r ∈ gRM s l g n → r.1 = s ∧ r.2.1 = l ∧ g ≤ r.2.2.1 ∧ r.2.2.1 < g + n
  | 0, h => by cases h
  | n + 1, h => by
    rw [gRM, List.mem_append] at h
    rcases h with h | h
    · have := mem_g n h; omega
    · simp only [List.mem_cons, List.not_mem_nil, or_false] at h
      rcases h with rfl | rfl <;> simp <;> omega
theorem mem_l {s l g : Int} {n : Nat} {r : RhT} : ∀ m, r ∈ lRM s l g n m → r.1 = s ∧ l ≤ r.2.1 ∧ r.2.1 < l + m ∧ g ≤ r.2.2.1 ∧ r.2.2.1 < g + n
  | 0, h => by cases h
  | m + 1, h => by
    rw [lRM, List.mem_append] at h
    rcases h with h | h
    · have := mem_l m h; omega
    · have := mem_g n h; omega
theorem mem_s {s l g : Int} {n m : Nat} {r : RhT} : ∀ k, r ∈ sRM s l g n m k → s ≤ r.1 ∧ r.1 < s + k ∧ l ≤ r.2.1 ∧ r.2.1 < l + m ∧ g ≤ r.2.2.1 ∧ r.2.2.1 < g + n
  | 0, h => by cases h
  | k + 1, h => by
    rw [sRM, List.mem_append] at h
    rcases h with h | h
    · have := mem_s k h; omega
    · have := mem_l m h; omega
theorem of_g {s l g : Int} (b : Bool) {k : Nat} : ∀ n, k < n → (s, l, g + (k : Int), b) ∈ gRM s l g n
  | 0, h => absurd h (Nat.not_lt_zero _)
  | n + 1, h => by
    rw [gRM, List.mem_append]
    rcases Nat.lt_or_eq_of_le (Nat.le_of_lt_succ h) with h | rfl
    · exact .inl (of_g b n h)
    · refine .inr ?_
      cases b <;> simp
theorem of_l {s l g : Int} {n : Nat} {r : RhT} {j : Nat} (hr : r ∈ gRM s (l + (j : Int)) g n) : ∀ m, j < m → r ∈ lRM s l g n m
  | 0, h => absurd h (Nat.not_lt_zero _)
  | m + 1, h => by
    rw [lRM, List.mem_append]
    rcases Nat.lt_or_eq_of_le (Nat.le_of_lt_succ h) with h | rfl
    · exact .inl (of_l hr m h)
    · exact .inr hr
theorem of_s {s l g : Int} {n m : Nat} {r : RhT} {i : Nat} (hr : r ∈ lRM (s + (i : Int)) l g n m) : ∀ k, i < k → r ∈ sRM s l g n m k
  | 0, h => absurd h (Nat.not_lt_zero _)
  | k + 1, h => by
    rw [sRM, List.mem_append]
    rcases Nat.lt_or_eq_of_le (Nat.le_of_lt_succ h) with h | rfl
    · exact .inl (of_s hr k h)
    · exact .inr hr
theorem all_within (ht : teamM t = true) {r : RhT} (h : r ∈ allRM t) : Within t r := by
  have hT := team_ok ht
  have := mem_s _ h
  unfold wideM at this
  exact ⟨by omega, by omega, by omega⟩
theorem within_all {r : RhT} (w : Within t r) : r ∈ allRM t := by
  obtain ⟨⟨s1, s2⟩, ⟨l1, l2⟩, ⟨g1, g2⟩⟩ := w
  obtain ⟨a, b, c, d⟩ := r
  have s1' : t.1.1 ≤ a := s1
  have s2' : a ≤ t.1.2 := s2
  have l1' : t.2.1.1 ≤ b := l1
  have l2' : b ≤ t.2.1.2 := l2
  have g1' : t.2.2.1.1 ≤ c := g1
  have g2' : c ≤ t.2.2.1.2 := g2
  obtain ⟨i, hi⟩ := Int.eq_ofNat_of_zero_le (show 0 ≤ a - t.1.1 by omega)
  obtain ⟨j, hj⟩ := Int.eq_ofNat_of_zero_le (show 0 ≤ b - t.2.1.1 by omega)
  obtain ⟨k, hk⟩ := Int.eq_ofNat_of_zero_le (show 0 ≤ c - t.2.2.1.1 by omega)
  have ea : a = t.1.1 + (i : Int) := by omega
  have eb : b = t.2.1.1 + (j : Int) := by omega
  have ec : c = t.2.2.1.1 + (k : Int) := by omega
  subst ea; subst eb; subst ec
  unfold allRM
  exact of_s (of_l (of_g d _ (by unfold wideM; omega)) _ (by unfold wideM; omega)) _ (by unfold wideM; omega)
def rWorst (t : TeamT) : RhT := (t.1.1, t.2.1.2, t.2.2.1.1, true)
def rBest (t : TeamT) : RhT := (t.1.2, t.2.1.1, t.2.2.1.2, false)
theorem worst_in (ht : teamM t = true) : Within t (rWorst t) := by
  have := team_ok ht
  exact ⟨⟨Int.le_refl _, this.2.1.2.1⟩, ⟨this.2.2.1.2.1, Int.le_refl _⟩, ⟨Int.le_refl _, this.2.2.2.2.1⟩⟩
theorem best_in (ht : teamM t = true) : Within t (rBest t) := by
  have := team_ok ht
  exact ⟨⟨this.2.1.2.1, Int.le_refl _⟩, ⟨Int.le_refl _, this.2.2.1.2.1⟩, ⟨this.2.2.2.2.1, Int.le_refl _⟩⟩
theorem thru_iff (f : Fine t p) {r : RhT} (w : Within t r) : thruM t p r = !(failedM p.steps (worksM p) (rHor t r)).2 := by
  unfold thruM
  rw [fall_same f w]
  rcases failed_cases p.steps (worksM p) (rHor t r) with ⟨i, _, e, _⟩ | ⟨e, _⟩ <;> rw [e]
  · simp
  · simp
theorem cnt_all (t : TeamT) (p : PlotT) : cntM t p (allRM t).length = (((allRM t).countP (thruM t p) : Nat) : Int) := by
  unfold cntM; rw [List.take_length]
theorem comes_same (t : TeamT) (p : PlotT) : comesRM t p = comesM t p := by
  unfold comesRM
  by_cases hc : checkRM t p true = 0
  · have f := fine_of hc
    rw [if_pos hc, comes_told f.open]
    refine Prod.ext ?_ rfl
    show (if cntM t p (allRM t).length = ((allRM t).length : Int) then 2 else if cntM t p (allRM t).length = 0 then 0 else 1) = ansM (failedM p.steps (worksM p) (worstM t)).2 (failedM p.steps (worksM p) (bestM t)).2
    rw [cnt_all]
    have hall : ∀ r ∈ allRM t, thruM t p r = !(failedM p.steps (worksM p) (rHor t r)).2 := fun r hr => thru_iff f (all_within f.team hr)
    have hw : rWorst t ∈ allRM t := within_all (worst_in f.team)
    have hb : rBest t ∈ allRM t := within_all (best_in f.team)
    have e1 : thruM t p (rWorst t) = !(failedM p.steps (worksM p) (worstM t)).2 := hall _ hw
    have e2 : thruM t p (rBest t) = !(failedM p.steps (worksM p) (bestM t)).2 := hall _ hb
    have hlen : 0 < (allRM t).length := List.length_pos_of_mem hw
    cases hfw : (failedM p.steps (worksM p) (worstM t)).2 with
    | false =>
      have hcnt : (allRM t).countP (thruM t p) = (allRM t).length := by
        rw [List.countP_eq_length]
        intro r hr
        rw [hall r hr, fail_mono (worst_le f (all_within f.team hr)) hfw]; rfl
      rw [if_pos (by rw [hcnt])]
      have := fall_case f.open hfw
      have hbf : (failedM p.steps (worksM p) (bestM t)).2 = false := this
      rw [hbf]; rfl
    | true =>
      have hne : ¬ (((allRM t).countP (thruM t p) : Nat) : Int) = ((allRM t).length : Int) := by
        intro h
        have h' : (allRM t).countP (thruM t p) = (allRM t).length := by omega
        rw [List.countP_eq_length] at h'
        have := h' _ hw
        rw [e1, hfw] at this; cases this
      rw [if_neg hne]
      cases hfb : (failedM p.steps (worksM p) (bestM t)).2 with
      | true =>
        have hz : (allRM t).countP (thruM t p) = 0 := by
          rw [List.countP_eq_zero]
          intro r hr
          rw [hall r hr]
          cases hr2 : (failedM p.steps (worksM p) (rHor t r)).2 with
          | true => decide
          | false =>
            have := fail_mono (best_ge f (all_within f.team hr)) hr2
            rw [hfb] at this; cases this
        rw [if_pos (by rw [hz]; rfl)]; rfl
      | false =>
        have hnz : ¬ (((allRM t).countP (thruM t p) : Nat) : Int) = 0 := by
          intro h
          have h' : (allRM t).countP (thruM t p) = 0 := by omega
          rw [List.countP_eq_zero] at h'
          exact h' _ hb (by rw [e2, hfb]; rfl)
        rw [if_neg hnz]; rfl
  · rw [if_neg hc, check_same]
    rw [check_same] at hc
    rw [comes_err (by simpa using hc)]
theorem lf_min (t : TeamT) (p : PlotT) (n : Nat) : ∀ i, 0 < i → (∀ j, j < i → (lfRM t p n i).1 ≤ endRM t p n j ∧ endRM t p n j ≤ (lfRM t p n i).2) ∧ (∃ j, j < i ∧ (lfRM t p n i).1 = endRM t p n j) ∧ (∃ j, j < i ∧ (lfRM t p n i).2 = endRM t p n j)
  | 0, h => absurd h (Nat.lt_irrefl _)
  | 1, _ => by
    have e1 : (lfRM t p n 1).1 = endRM t p n 0 := by show min (if 0 = 0 then endRM t p n 0 else (lfRM t p n 0).1) (endRM t p n 0) = endRM t p n 0; rw [if_pos rfl]; exact Int.min_self _
    have e2 : (lfRM t p n 1).2 = endRM t p n 0 := by show max (if 0 = 0 then endRM t p n 0 else (lfRM t p n 0).2) (endRM t p n 0) = endRM t p n 0; rw [if_pos rfl]; exact Int.max_self _
    refine ⟨fun j hj => ?_, ⟨0, by omega, e1⟩, ⟨0, by omega, e2⟩⟩
    have : j = 0 := by omega
    subst this
    omega
  | i + 2, _ => by
    obtain ⟨h1, ⟨a, ha, ea⟩, ⟨b, hb, eb⟩⟩ := lf_min t p n (i + 1) (by omega)
    have e1 : (lfRM t p n (i + 2)).1 = min (lfRM t p n (i + 1)).1 (endRM t p n (i + 1)) := by show min (if i + 1 = 0 then _ else _) _ = _; rw [if_neg (by omega)]
    have e2 : (lfRM t p n (i + 2)).2 = max (lfRM t p n (i + 1)).2 (endRM t p n (i + 1)) := by show max (if i + 1 = 0 then _ else _) _ = _; rw [if_neg (by omega)]
    rw [e1, e2]
    refine ⟨fun j hj => ?_, ?_, ?_⟩
    · rcases Nat.lt_or_eq_of_le (Nat.le_of_lt_succ hj) with h2 | rfl
      · have := h1 j h2; omega
      · omega
    · rcases Int.le_total (lfRM t p n (i + 1)).1 (endRM t p n (i + 1)) with h2 | h2
      · exact ⟨a, by omega, by omega⟩
      · exact ⟨i + 1, by omega, by omega⟩
    · rcases Int.le_total (lfRM t p n (i + 1)).2 (endRM t p n (i + 1)) with h2 | h2
      · exact ⟨i + 1, by omega, by omega⟩
      · exact ⟨b, by omega, by omega⟩
theorem left_same (t : TeamT) (p : PlotT) (n : Int) : leftRM t p n = leftM t p n := by
  unfold leftRM
  by_cases hc : checkRM t p (inM n 0 p.steps.length) = 0
  · have f := fine_of hc
    have hin : inM n 0 p.steps.length = true := (check_ok hc).2.2.1
    have hn : n.toNat ≤ p.steps.length := by
      unfold inM at hin
      simp only [Bool.and_eq_true, decide_eq_true_eq] at hin
      omega
    rw [if_pos hc, left_told (by rw [← check_same, hc]; rfl)]
    refine Prod.ext ?_ rfl
    have hw : rWorst t ∈ allRM t := within_all (worst_in f.team)
    have hb : rBest t ∈ allRM t := within_all (best_in f.team)
    have hlen : 0 < (allRM t).length := List.length_pos_of_mem hw
    have hend : ∀ j, j < (allRM t).length → endM t p true n.toNat ≤ endRM t p n.toNat j ∧ endRM t p n.toNat j ≤ endM t p false n.toNat := fun j hj => by
      have hr : (allRM t).getD j rh0 ∈ allRM t := by
        rw [List.getD_eq_getElem?_getD, List.getElem?_eq_getElem hj]; exact List.getElem_mem hj
      have w := all_within f.team hr
      show nowM p.steps (worksM p) (worstM t) n.toNat ≤ nowR t p _ n.toNat ∧ nowR t p _ n.toNat ≤ nowM p.steps (worksM p) (bestM t) n.toNat
      rw [now_same f _ _ hn]
      exact ⟨worst_le f w _ hn, best_ge f w _ hn⟩
    have at_ : ∀ r ∈ allRM t, ∃ j, j < (allRM t).length ∧ endRM t p n.toNat j = nowM p.steps (worksM p) (rHor t r) n.toNat := fun r hr => by
      obtain ⟨j, hj, e⟩ := List.getElem_of_mem hr
      refine ⟨j, hj, ?_⟩
      show nowR t p _ n.toNat = _
      rw [List.getD_eq_getElem?_getD, List.getElem?_eq_getElem hj, Option.getD_some, e, now_same f _ _ hn]
    obtain ⟨h1, ⟨a, ha, ea⟩, ⟨b, hb', eb⟩⟩ := lf_min t p n.toNat (allRM t).length hlen
    obtain ⟨jw, hjw, ew⟩ := at_ _ hw
    obtain ⟨jb, hjb, eb2⟩ := at_ _ hb
    have ew' : endRM t p n.toNat jw = endM t p true n.toNat := ew
    have eb' : endRM t p n.toNat jb = endM t p false n.toNat := eb2
    have c1 := h1 jw hjw
    have c2 := h1 jb hjb
    have c3 := hend a ha
    have c4 := hend b hb'
    refine Prod.ext ?_ ?_
    · show (lfRM t p n.toNat (allRM t).length).1 = endM t p true n.toNat; omega
    · show (lfRM t p n.toNat (allRM t).length).2 = endM t p false n.toNat; omega
  · rw [if_neg hc, check_same]
    rw [check_same] at hc
    rw [left_err (by simpa using hc)]
theorem fold_min (t : TeamT) (p : PlotT) : ∀ (l : List RhT) (a : Int), (l.foldl (minF t p) a ≤ a ∧ ∀ r ∈ l, fallRM t p r ≥ 0 → l.foldl (minF t p) a ≤ fallRM t p r) ∧ (l.foldl (minF t p) a = a ∨ ∃ r ∈ l, fallRM t p r ≥ 0 ∧ l.foldl (minF t p) a = fallRM t p r)
  | [], a => ⟨⟨Int.le_refl _, fun _ h => by cases h⟩, .inl rfl⟩
  | x :: l, a => by
    obtain ⟨⟨h1, h2⟩, h3⟩ := fold_min t p l (minF t p a x)
    have hm : minF t p a x ≤ a ∧ (fallRM t p x ≥ 0 → minF t p a x ≤ fallRM t p x) ∧ (minF t p a x = a ∨ fallRM t p x ≥ 0 ∧ minF t p a x = fallRM t p x) := by
      unfold minF
      split <;> omega
    show (l.foldl (minF t p) (minF t p a x) ≤ a ∧ _) ∧ _
    refine ⟨⟨by omega, fun r hr hf => ?_⟩, ?_⟩
    · rcases List.mem_cons.1 hr with rfl | hr
      · have := hm.2.1 hf
        show l.foldl (minF t p) (minF t p a r) ≤ _
        omega
      · exact h2 r hr hf
    · rcases h3 with h3 | ⟨r, hr, hf, e⟩
      · rcases hm.2.2 with h4 | ⟨h4, h5⟩
        · exact .inl (h3.trans h4)
        · exact .inr ⟨x, List.mem_cons_self .., h4, h3.trans h5⟩
      · exact .inr ⟨r, List.mem_cons_of_mem _ hr, hf, e⟩
theorem first_all (t : TeamT) (p : PlotT) : firstRM t p = (allRM t).foldl (minF t p) (p.steps.length : Int) := by
  unfold firstRM fstM; rw [List.take_length]
theorem fails_same (t : TeamT) (p : PlotT) : failsRM t p = failsM t p := by
  unfold failsRM
  by_cases hc : checkRM t p true = 0
  · have f := fine_of hc
    have hw : rWorst t ∈ allRM t := within_all (worst_in f.team)
    have hb : rBest t ∈ allRM t := within_all (best_in f.team)
    rw [if_pos hc]
    unfold failsM
    rw [if_pos f.open]
    show (if firstRM t p = (p.steps.length : Int) then (0, false, 4) else (firstRM t p, sameRM t p, 0)) = if (failedM p.steps (worksM p) (worstM t)).2 = true then ((failedM p.steps (worksM p) (worstM t)).1, (failedM p.steps (worksM p) (bestM t)).2 && (failedM p.steps (worksM p) (bestM t)).1 == (failedM p.steps (worksM p) (worstM t)).1, 0) else ((failedM p.steps (worksM p) (worstM t)).1, false, 4)
    have ew : fallRM t p (rWorst t) = if (failedM p.steps (worksM p) (worstM t)).2 = true then (failedM p.steps (worksM p) (worstM t)).1 else -1 := fall_same f (worst_in f.team)
    have eb : fallRM t p (rBest t) = if (failedM p.steps (worksM p) (bestM t)).2 = true then (failedM p.steps (worksM p) (bestM t)).1 else -1 := fall_same f (best_in f.team)
    have hfirst := fold_min t p (allRM t) (p.steps.length : Int)
    rw [← first_all] at hfirst
    obtain ⟨⟨h1, h2⟩, h3⟩ := hfirst
    rcases failed_cases p.steps (worksM p) (worstM t) with ⟨i, hi, e, _⟩ | ⟨e, h0⟩
    · rw [e] at ew
      simp only [if_true] at ew
      have hge : ∀ r ∈ allRM t, fallRM t p r ≥ 0 → (i : Int) ≤ fallRM t p r := fun r hr hf => by
        have w := all_within f.team hr
        rw [fall_same f w] at hf ⊢
        rcases failed_cases p.steps (worksM p) (rHor t r) with ⟨k, hk, ek, _⟩ | ⟨ek, _⟩
        · rw [ek]
          obtain ⟨m, em, _, hm⟩ := first_le (worst_le f w) ek
          rw [e] at em
          cases em
          exact hm
        · rw [ek] at hf; simp at hf
      have hwi := h2 _ hw (by rw [ew]; omega)
      have hfi : firstRM t p = i := by
        rcases h3 with h3 | ⟨r, hr, hf, e3⟩
        · omega
        · have := hge r hr hf; omega
      rw [hfi, if_neg (by omega), e]
      simp only [if_true]
      refine Prod.ext rfl (Prod.ext ?_ rfl)
      show sameRM t p = _
      cases hs : sameRM t p with
      | true =>
        unfold sameRM at hs
        rw [List.all_eq_true] at hs
        have := eq_of_beq (hs _ hb)
        rw [eb, hfi] at this
        rcases failed_cases p.steps (worksM p) (bestM t) with ⟨k, hk, ek, _⟩ | ⟨ek, _⟩
        · rw [ek] at this ⊢
          simp only [if_true] at this
          rw [this]; simp
        · rw [ek] at this
          simp at this
      | false =>
        unfold sameRM at hs
        rw [List.all_eq_false] at hs
        obtain ⟨r, hr, hne⟩ := hs
        have w := all_within f.team hr
        rcases failed_cases p.steps (worksM p) (bestM t) with ⟨k, hk, ek, _⟩ | ⟨ek, _⟩
        · rw [ek]
          simp only [Bool.true_and]
          refine Eq.symm ?_
          rw [beq_eq_false_iff_ne]
          intro hki
          obtain ⟨m, em, hm0, hm⟩ := first_le (best_ge f w) ek
          have er := fall_same f w
          rw [em] at er
          simp only [if_true] at er
          have := hge r hr (by omega)
          exact hne (by rw [er, hfi]; simp; omega)
        · rw [ek]; rfl
    · have hnone : ∀ r ∈ allRM t, ¬ fallRM t p r ≥ 0 := fun r hr hf => by
        have w := all_within f.team hr
        rw [fall_same f w] at hf
        have := fail_mono (worst_le f w) (by rw [e])
        rw [this] at hf
        simp at hf
      have hfi : firstRM t p = (p.steps.length : Int) := by
        rcases h3 with h3 | ⟨r, hr, hf, _⟩
        · exact h3
        · exact absurd hf (hnone r hr)
      rw [if_pos hfi, e]; rfl
  · rw [if_neg hc, check_same]
    rw [check_same] at hc
    unfold failsM
    rw [if_neg (by simpa using hc)]
end
end AE.Team

namespace AE.Team
open Go AE Go.Proofs AE.Soil

def nWM (s : Span) : Int := IntKind.i64.wrap (IntKind.i64.wrap (s.2 - s.1) + 1)
def nWS : FSpec UU where
  X := Span
  pick := fun args _ => match args with
    | [a] => avSpan a
    | _ => none
  args := fun (x : Span) => [vSpan x]
  H := fun _ => []
  R := fun (x : Span) => .val ⟨.i (nWM x), [], [], []⟩
theorem nW_ok : ∀ x, nWS.pre x → FunOk Tryz.prog 33 (nWS.args x) (nWS.H x) (nWS.R x) := by
  rintro ⟨a, b⟩ _
  refine fun_of (T := []) (L := fun _ => none) (hs := fun _ => []) hmix .nil Tryz.func33 (by kernel_rfl) (by kernel_rfl) ?_
  refine Eq.mp (α :=
      True ∧ (Value.int IntKind.i64 (IntKind.wrap IntKind.i64 (IntKind.wrap IntKind.i64 (b - a) + (1 : Int))) = Value.int IntKind.i64 (nWM (a, b)) ∧ True) ∧ True ∧ True)
    (by kernel_rfl) ?_
  simp only [eq_self, AE.goS]
  rfl

theorem nW_sound : Sound Tryz.prog 33 nWS.con := FSpec.sound _ (enter_of Tryz.func33 (by kernel_rfl) (by kernel_rfl)) nW_ok
def wideBM (t : TeamT) (ways full : Int) : Bool := teamM t && (decide (t.2.2.2 > full) || (decide (nWM t.1 > ways) || (decide (nWM t.2.1 > ways) || (decide (nWM t.2.2.1 > ways) || decide (IntKind.i64.wrap (IntKind.i64.wrap (nWM t.1 * nWM t.2.1) * nWM t.2.2.1) > ways)))))
def wideS : FSpec UU where
  X := TeamT × Int × Int
  pick := fun args _ => match args with
    | [a, b, c] => match avTeam a, avInt b, avInt c with
      | some a, some b, some c => some (a, b, c)
      | _, _, _ => none
    | _ => none
  args := fun x => [vTeam x.1, .i x.2.1, .i x.2.2]
  H := fun _ => []
  R := fun x => .val ⟨.b (wideBM x.1 x.2.1 x.2.2), [], [], []⟩
def Twide : Tab UU := [(25, isTeamS.con), (33, nWS.con)]
theorem Twide_ok : Twide.Sound Tryz.prog := .cons fTeam_sound (.cons nW_sound .nil)
theorem wide_ok : ∀ x, wideS.pre x → FunOk Tryz.prog 8 (wideS.args x) (wideS.H x) (wideS.R x) := by
  rintro ⟨⟨⟨s0, s1⟩, ⟨l0, l1⟩, ⟨g0, g1⟩, full⟩, ways, f⟩ _
  refine fun_of (T := Twide) (L := fun _ => none) (hs := fun _ => []) hmix Twide_ok Tryz.func8 (by kernel_rfl) (by kernel_rfl) ?_
  refine Eq.mp (α :=
      let A2 := Value.int IntKind.i64 s0 = Value.int IntKind.i64 s0; let A3 := Value.int IntKind.i64 g0 = Value.int IntKind.i64 g0; let A4 := Value.int IntKind.i64 l0 = Value.int IntKind.i64 l0; let A5 := Value.int IntKind.i64 s1 = Value.int IntKind.i64 s1; let A6 := Value.int IntKind.i64 g1 = Value.int IntKind.i64 g1; let A7 := Value.int IntKind.i64 l1 = Value.int IntKind.i64 l1; let A8 := (A4 ∧ A7 ∧ True) ∧ True; let A9 := (A2 ∧ A5 ∧ True) ∧ True; let Aa := (A3 ∧ A6 ∧ True) ∧ True; let Ab := ((s0, s1), (((l0, l1), (((g0, g1), full))))); let Ac := !(teamM Ab); let A1 := Value.bool (wideBM Ab ways f); let A0 := True ∧ (A1 = Value.bool true ∧ True) ∧ True ∧ True; let Ad := decide (full > f); let Ae := decide (nWM (s0, s1) > ways); let Af := decide (nWM (l0, l1) > ways); let Ag := decide (nWM (g0, g1) > ways); True ∧ ((A2 ∧ A5 ∧ A4 ∧ A7 ∧ A3 ∧ A6 ∧ Value.int IntKind.i64 full = Value.int IntKind.i64 full ∧ True) ∧ True) ∧ True ∧ (Ac = true → True ∧ (A1 = Value.bool false ∧ True) ∧ True ∧ True) ∧ (Ac = false → (Ad = true → A0) ∧ (Ad = false → True ∧ A9 ∧ True ∧ (Ae = true → A0) ∧ (Ae = false → True ∧ A8 ∧ True ∧ (Af = true → A0) ∧ (Af = false → True ∧ Aa ∧ True ∧ (Ag = true → A0) ∧ (Ag = false → True ∧ A9 ∧ True ∧ True ∧ A8 ∧ True ∧ True ∧ Aa ∧ True ∧ True ∧ (Value.bool (decide (IntKind.wrap IntKind.i64 (IntKind.wrap IntKind.i64 (nWM (s0, s1) * nWM (l0, l1)) * nWM (g0, g1)) > ways)) = A1 ∧ True) ∧ True ∧ True))))))
    (by kernel_rfl) ?_
  simp only [eq_self, AE.goS]
  unfold wideBM
  refine ⟨fun h => ?_, fun h => ?_⟩
  · have h1 : teamM ((s0, s1), (l0, l1), (g0, g1), full) = false := by simpa using h
    rw [h1]; rfl
  · have h1 : teamM ((s0, s1), (l0, l1), (g0, g1), full) = true := by simpa using h
    rw [h1]
    simp only [Bool.true_and]
    refine ⟨fun h => by rw [decide_eq_true h]; rfl, fun h => ⟨fun h2 => by rw [decide_eq_false h, decide_eq_true h2]; rfl, fun h2 => ⟨fun h3 => by rw [decide_eq_false h, decide_eq_false h2, decide_eq_true h3]; rfl, fun h3 => ⟨fun h4 => by rw [decide_eq_false h, decide_eq_false h2, decide_eq_false h3, decide_eq_true h4]; rfl, fun h4 => by rw [decide_eq_false h, decide_eq_false h2, decide_eq_false h3, decide_eq_false h4]; rfl⟩⟩⟩⟩

theorem wide_sound : Sound Tryz.prog 8 wideS.con := FSpec.sound _ (enter_of Tryz.func8 (by kernel_rfl) (by kernel_rfl)) wide_ok
def lawCS : FSpec UU where
  X := TeamT × PlotT × Int
  pick := fun args H => match args with
    | [a, b, c] => match avTeam a, avPlot H b, avInt c with
      | some a, some b, some c => some (a, b, c)
      | _, _, _ => none
    | _ => none
  args := fun x => [vTeam x.1, vPlot x.2.1 0 1, .i x.2.2]
  H := fun x => hPlot x.2.1
  R := fun _ => .val ⟨.b true, [], [], []⟩
  pre := fun x => x.2.1.g.pits.length < 9223372036854775808 ∧ x.2.1.steps.length < 9223372036854775808
def TlawC : Tab UU := [(7, largeS.con), (8, wideS.con), (9, aliveS.con), (10, comesS.con), (12, leftS.con), (14, failsS.con), (11, comesRS.con), (13, leftRS.con), (15, failsRS.con)]
theorem TlawC_ok : TlawC.Sound Tryz.prog := .cons large_sound (.cons wide_sound (.cons alive_sound (.cons comes_sound (.cons left_sound (.cons fails_sound (.cons comesR_sound (.cons leftR_sound (.cons failsR_sound .nil))))))))
theorem lawC_ok : ∀ x, lawCS.pre x → FunOk Tryz.prog 3 (lawCS.args x) (lawCS.H x) (lawCS.R x) := by
  rintro ⟨⟨⟨s0, s1⟩, ⟨l0, l1⟩, ⟨g0, g1⟩, full⟩, ⟨⟨long, rise, change, ps⟩, st⟩, n⟩ hx
  refine fun_of (T := TlawC) (L := fun _ => none) (hs := fun _ => []) hmix TlawC_ok Tryz.func3 (by kernel_rfl) (by kernel_rfl) ?_
  refine Eq.mp (α :=
      let A7 := (10000 : Int); let A8 := Value.int IntKind.i64 (300 : Int); let A9 := Value.int IntKind.i64 A7; let A0 := ps = ps ∧ st = st ∧ True; let Aa := True ∧ A0; let A3 := (List.length ps < nat_lit 1000000) ∧ List.length st < nat_lit 1000000; let A1 := ((s0, s1), (((l0, l1), (((g0, g1), full))))); let A2 := True ∧ (Value.bool true = Value.bool false ∧ True) ∧ Aa; let A6 := True ∧ True ∧ True ∧ True ∧ (Value.bool true = Value.bool true ∧ True) ∧ Aa; let Ab := comesM A1 (PlotT.mk (GroundT.mk long rise change ps) st); let Ac := failsM A1 (PlotT.mk (GroundT.mk long rise change ps) st); let Ad := comesRM A1 (PlotT.mk (GroundT.mk long rise change ps) st); let Ae := failsRM A1 (PlotT.mk (GroundT.mk long rise change ps) st); let Af := leftM A1 (PlotT.mk (GroundT.mk long rise change ps) st) n; let Ag := leftRM A1 (PlotT.mk (GroundT.mk long rise change ps) st) n; let Ah := Prod.fst Af; let Ai := Prod.fst Ag; let Aj := Prod.snd Ac; let Ak := Prod.snd Ae; let Al := wideBM A1 (300 : Int) A7; let Am := (Value.int IntKind.i64 long = Value.int IntKind.i64 long) ∧ (Value.int IntKind.i64 rise = Value.int IntKind.i64 rise) ∧ (Value.int IntKind.i64 change = Value.int IntKind.i64 change) ∧ (nat_lit 0 = nat_lit 0 ∧ nat_lit 0 = nat_lit 0 ∧ List.length ps = List.length ps) ∧ (nat_lit 0 = nat_lit 0 ∧ nat_lit 0 = nat_lit 0 ∧ List.length st = List.length st) ∧ True; let An := Am ∧ True; let A4 := (Value.int IntKind.i64 s0 = Value.int IntKind.i64 s0) ∧ (Value.int IntKind.i64 s1 = Value.int IntKind.i64 s1) ∧ (Value.int IntKind.i64 l0 = Value.int IntKind.i64 l0) ∧ (Value.int IntKind.i64 l1 = Value.int IntKind.i64 l1) ∧ (Value.int IntKind.i64 g0 = Value.int IntKind.i64 g0) ∧ (Value.int IntKind.i64 g1 = Value.int IntKind.i64 g1) ∧ (Value.int IntKind.i64 full = Value.int IntKind.i64 full) ∧ True; let Ao := Am ∧ (Value.int IntKind.i64 n = Value.int IntKind.i64 n) ∧ True; let Ap := (Prod.fst Ab) == (Prod.fst Ad); let Aq := (Prod.snd Ab) == (Prod.snd Ad); let Ar := (Prod.snd Af) == (Prod.snd Ag); let As := (Prod.fst Ac) == (Prod.fst Ae); let At := (Prod.fst Ah) == (Prod.fst Ai); let Au := (Prod.snd Aj) == (Prod.snd Ak); let Av := (Prod.fst Aj) == (Prod.fst Ak); let Aw := (Prod.snd Ah) == (Prod.snd Ai) && true; let A5 := A4 ∧ An; True ∧ An ∧ A0 ∧ (largeM (PlotT.mk (GroundT.mk long rise change ps) st) = true → A6) ∧ (largeM (PlotT.mk (GroundT.mk long rise change ps) st) = false → True ∧ (A4 ∧ A8 = A8 ∧ A9 = A9 ∧ True) ∧ True ∧ (Al = true → A6) ∧ (Al = false → A3 ∧ A5 ∧ A0 ∧ A3 ∧ A5 ∧ A0 ∧ A3 ∧ (A4 ∧ Ao) ∧ A0 ∧ A3 ∧ (A4 ∧ Ao) ∧ A0 ∧ A3 ∧ A5 ∧ A0 ∧ A3 ∧ A5 ∧ A0 ∧ (Ap = true → (Aq = true → ((At && Aw) = true → (Ar = true → (As = true → (Av = true → (Au = true → A6) ∧ (Au = false → A2)) ∧ (Av = false → A2)) ∧ (As = false → A2)) ∧ (Ar = false → A2)) ∧ ((At && Aw) = false → A2)) ∧ (Aq = false → A2)) ∧ (Ap = false → A2))))
    (by kernel_rfl) ?_
  simp only [eq_self, AE.goS]
  refine ⟨fun _ => trivial, fun hlg => ⟨fun _ => trivial, fun _ => ?_⟩⟩
  have hs : ps.length < 1000000 ∧ st.length < 1000000 := by
    have := of_decide_eq_false (show decide (max (st.length : Int) (ps.length : Int) > 40) = false from hlg)
    omega
  refine ⟨hs, hs, hs, hs, hs, hs, ?_⟩
  rw [comes_same, left_same, fails_same]
  simp only [BEq.rfl, Bool.and_true, Bool.true_eq_false, false_implies, and_true, implies_true]
end AE.Team

namespace AE.Team
open Go AE Go.Proofs AE.Soil

structure KeepP (R : Prop) : Prop where
  get : R
def bigP (p : PlotT) : Prop := p.g.pits.length < 9223372036854775808 ∧ p.steps.length < 9223372036854775808
end AE.Team

namespace AE
open Go Go.ChangeShapes Go.WideShapes

theorem Keeps.but {w w' : World} (h : Keeps (fun _ => False) w w') (may : MemPlace → Prop) : w.keptBut w' may := by
  refine ⟨h.os, h.output, fun i hi => ?_⟩
  have hb := h.block i hi fun h => h
  rw [hb]
  exact (World.keptBut_refl w may).2.2 i hi
theorem Keeps.frozen {w w' : World} (h : Keeps (fun _ => False) w w') (a : Addr) (ha : a.block < w.heap.size) : w'.frozen? a = w.frozen? a := by
  unfold World.frozen?
  rw [h.block a.block ha fun h => h]
theorem post_of_keeps {P : Program} {H : Type} {enc : TypeId × Value → H} {f : Func} {s : ChangeSpec} {apart fresh handsOn again : Bool} {W W' : World} {args : Array Value} {v : Value} {ds gs : List (DataW H)} {before pa pv : List MemPlace}
    (hW : DataW.Whole enc P f.params.toList s.vars apart W args.toList ds gs before)
    (hres : ∀ (b : Nat) (sp : Nat → Bool) (hd : Bool), DataW.TrodAll enc P W' b sp hd f.resultTypes.toList (v.resultList f.resultTypes.size) (s.fn H (ds ++ gs)).results [])
    (hargs : ∀ sp : Nat → Bool, (∀ p ∈ before, sp p.block = true) → DataW.TrodAll enc P W' 0 sp true f.params.toList args.toList (s.fn H (ds ++ gs)).args pa)
    (hvars : ∀ sp : Nat → Bool, (∀ p ∈ before, sp p.block = true) → DataW.TrodVars enc P W' sp s.vars (s.fn H (ds ++ gs)).vars pv)
    (hps : before = pa ++ pv) (hk : Keeps (fun _ => False) W W')
    (hok : ∀ (j : Nat) (t : TypeId) (r : Value), f.resultTypes[j]? = some t → (v.resultList f.resultTypes.size)[j]? = some r → Value.okWide P W' .any 0 t r) :
    s.post enc P f apart fresh handsOn again W args v W' := by
  have hlt := hW.lt
  have hold : ∀ p ∈ before, (fun b => decide (b < W.heap.size)) p.block = true := fun p hp => by simpa using hlt p hp
  have hb : ∀ p, p ∈ [] ++ pa ++ pv ↔ p ∈ before := fun p => by rw [hps, List.nil_append]
  refine ⟨ds, gs, before, [], pa, pv, hW, hres _ _ _, hargs _ hold, hvars _ hold, World.keptBut_mono (fun p hp => ⟨hp, ?_⟩) (hk.but _), fun _ => ?_⟩
  · exact Or.inr (List.mem_append.1 (hps ▸ hp))
  · obtain ⟨_, _, _, _, _, hz, hn⟩ := hW
    refine ⟨hok, _, _, [] ++ pa ++ pv, ⟨[] ++ pa, pv, trodAll_append (hargs _ (fun _ _ => rfl)) (hres _ _ _), hvars _ (fun _ _ => rfl), rfl, fun b off hp => ?_, fun ha => ?_⟩, fun p hp _ => (hb p).1 hp⟩
    · have hp' := (hb _).1 hp
      rw [hk.frozen _ (hlt _ hp')]
      exact hz b off hp'
    · have := hn ha
      rwa [hps, ← List.nil_append pa] at this
end AE

namespace AE
open Go Go.ChangeShapes Go.WideShapes Go.RowKit

theorem Keeps.below {w w' : World} (h : Keeps (fun _ => False) w w') : Below w.heap.size w w' :=
  ⟨h.os, h.tape, h.output, h.size, fun k hk => h.block k hk fun e => e⟩

inductive FK where
  | int (k : IntKind)
  | bool
def FK.ok : FK → Value → Prop
  | .int k, v => ∃ n, v = .int k n ∧ (Lit.int k n).wf = true
  | .bool, v => ∃ b, v = .bool b
def FKs : List FK → List Value → Prop
  | [], vs => vs = []
  | k :: ks, vs => ∃ v r, vs = v :: r ∧ k.ok v ∧ FKs ks r
theorem FKs.append : ∀ {a b : List FK} {x y : List Value}, FKs a x → FKs b y → FKs (a ++ b) (x ++ y)
  | [], _, _, _, h, k => by cases h; exact k
  | _ :: _, _, _, _, ⟨v, r, e, h1, h2⟩, k => ⟨v, _, by rw [e]; rfl, h1, h2.append k⟩
theorem FKs.length : ∀ {a : List FK} {x : List Value}, FKs a x → x.length = a.length
  | [], _, h => by cases h; rfl
  | _ :: _, _, ⟨v, r, e, _, h⟩ => by rw [e, List.length_cons, List.length_cons, h.length]

mutual
def flat (P : Program) : Nat → TypeId → Option (List FK)
  | 0, _ => none
  | n + 1, t => match P.underlying t with
    | some .bool => some [.bool]
    | some (.int k) => some [.int k]
    | some (.struct fs) => flatFs P n 0 fs.toList
    | _ => none
def flatFs (P : Program) : Nat → Nat → List Field → Option (List FK)
  | _, _, [] => some []
  | 0, _, _ :: _ => none
  | n + 1, o, f :: fs => match Nat.beq f.offset o, flat P n f.type with
    | true, some l => match Nat.beq (P.cellsOf f.type) l.length, flatFs P n (o + l.length) fs with
      | true, some r => some (l ++ r)
      | _, _ => none
    | _, _ => none
end

section
variable {H : Type} {enc : TypeId × Value → H} {P : Program} {w : World} {base : Nat} {spare : Nat → Bool} {held : Bool}
mutual
theorem flat_ok : ∀ (n : Nat) {t : TypeId} {ks : List FK} {fuel : Nat} {cs : List Value} {x : DataW H × List MemPlace}, flat P n t = some ks → P.cellsOf t = ks.length → DataW.trod enc P w base spare held fuel t cs = some x → FKs ks cs
  | 0, t, ks, fuel, cs, x, h, _, _ => by simp [flat] at h
  | n + 1, t, ks, fuel, cs, x, h, hc, hx => by
    unfold flat at h
    split at h
    · rename_i hu
      cases h
      cases fuel with
      | zero => simp [DataW.trod] at hx
      | succ m =>
        unfold DataW.trod at hx
        rw [hu] at hx
        split at hx <;> first | (simp_all; done) | skip
        rename_i b _ _
        exact ⟨_, _, rfl, ⟨_, rfl⟩, rfl⟩
    · rename_i k hu
      cases h
      cases fuel with
      | zero => simp [DataW.trod] at hx
      | succ m =>
        unfold DataW.trod at hx
        rw [hu] at hx
        split at hx <;> first | (simp_all; done) | skip
        split at hx
        · rename_i k1 _ _ he hh
          have he' : k = k1 := by simpa using he
          subst he'
          obtain ⟨rfl, hh⟩ := hh
          exact ⟨_, _, rfl, ⟨_, rfl, hh⟩, rfl⟩
        · cases hx
    · rename_i fs hu
      obtain ⟨xs, m, _, _, hl, hlen, hf⟩ := DataW.trod_struct hu hx
      have := flatFs_ok n (cs := cs) h (fun f hm => by
        obtain ⟨i, hi, rfl⟩ := List.getElem_of_mem hm
        have h1 : i < fs.size := by simpa using hi
        have h2 := hf i fs[i] (Array.getElem?_eq_getElem h1)
        rw [List.getElem?_eq_getElem (by omega)] at h2
        exact ⟨_, m, by rw [Array.getElem_toList]; exact h2⟩) (by rw [hl, hc]; omega)
      simpa using this
    · cases h
theorem flatFs_ok : ∀ (n : Nat) {o : Nat} {fs : List Field} {ks : List FK} {cs : List Value}, flatFs P n o fs = some ks →
    (∀ f ∈ fs, ∃ y m, DataW.trod enc P w base spare held m f.type ((cs.drop f.offset).take (P.cellsOf f.type)) = some y) → cs.length = o + ks.length → FKs ks (cs.drop o)
  | n, o, [], ks, cs, h, _, hl => by
    have : ks = [] := by cases n <;> simpa [flatFs] using h.symm
    subst this
    show cs.drop o = []
    exact List.drop_eq_nil_of_le (by simpa using Nat.le_of_eq hl)
  | 0, o, f :: fs, ks, cs, h, _, _ => by simp [flatFs] at h
  | n + 1, o, f :: fs, ks, cs, h, hf, hl => by
    unfold flatFs at h
    split at h
    case h_2 => cases h
    rename_i l ho hfl
    split at h
    case h_2 => cases h
    rename_i r hc hr
    cases h
    replace ho := Nat.eq_of_beq_eq_true ho
    replace hc := Nat.eq_of_beq_eq_true hc
    obtain ⟨y, m, hy⟩ := hf f (List.mem_cons_self ..)
    have h1 := flat_ok n hfl hc hy
    have h2 := flatFs_ok n (cs := cs) hr (fun g hg => hf g (List.mem_cons_of_mem _ hg)) (by rw [hl, List.length_append]; omega)
    rw [ho, hc] at h1
    have h3 := h1.append h2
    rw [← List.drop_drop, List.take_append_drop] at h3
    exact h3
end

theorem cells_get {a : Addr} {n : Nat} {cs : List Value} (h : w.cells? base a n = some cs) : cs.length = n ∧ ∀ j, j < n → w.cell? (a.add j) = cs[j]? := by
  unfold World.cells? at h
  split at h
  · exact ⟨by simpa using mapM_some_length h, fun j hj => mapM_some_get h j j (by simp [hj])⟩
  · cases h

theorem cell_spot {a : Addr} {v : Value} (h : w.cell? a = some v) : a.spot = none := by
  unfold World.cell? at h
  split at h
  · split at h
    · cases h
    · rename_i hs; simpa using hs
  · cases h

theorem row_of_trodQ {U : Uni} (c : U.C) (Q : U.ty c → Prop) {t e : TypeId} {ks : List FK} {n fuel : Nat} {v : Value} {x : DataW H × List MemPlace} (ht : P.underlying t = some (.slice e)) (hfl : flat P n e = some ks) (hce : P.cellsOf e = ks.length) (hsz : ks.length = U.sz c) (hpos : 0 < ks.length)
    (hdec : ∀ cs, FKs ks cs → ∃ x, U.enc c x = cs.map .v ∧ Q x) (h : DataW.trod enc P w base spare held fuel t [v] = some x) :
    ∃ (l : List (U.ty c)) (p : Place), l.length < 9223372036854775808 ∧ (∀ x ∈ l, Q x) ∧ (∀ π, BlkOk π w p (.ro c l)) ∧ ∀ (π : Plc) (id k : Nat), π id k = some p → Rep π (.sl id k 0 l.length) v := by
  rcases DataW.trod_slice ht h with ⟨h0, _⟩ | ⟨a, len, cap, elems, rest, m, _, hv, _, hb, hl, hm, hlen, hel, _, _⟩
  · cases h0
    refine ⟨[], ⟨0, 0, U.sz c, none, 0, 0⟩, by simp, fun x hx => by simp at hx, fun π => ⟨rfl, fun i x hi => by simp at hi⟩, fun π id k _ => ?_⟩
    simp only [Rep]
    exact ⟨none, 0, rfl, Nat.le_refl _, fun h => absurd h (Nat.lt_irrefl 0)⟩
  · cases hv
    have each : ∀ i, i < len → ∃ x : U.ty c, Q x ∧ ∀ j a1, (U.enc c x)[j]? = some a1 → ∃ y, w.cell? ((a.add (i * P.cellsOf e)).add j) = some y ∧ a1 = .v y := by
      intro i hi
      have h1 := hel i hi
      rw [List.getElem?_eq_getElem (by omega), Option.bind_eq_some_iff] at h1
      obtain ⟨cs, hcs, htr⟩ := h1
      obtain ⟨hcl, hcg⟩ := cells_get hcs
      obtain ⟨x, hx, hQ⟩ := hdec cs (flat_ok n hfl hce htr)
      refine ⟨x, hQ, fun j a1 hj => ?_⟩
      rw [hx, List.getElem?_map] at hj
      cases hc : cs[j]? with
      | none => rw [hc] at hj; cases hj
      | some y =>
        rw [hc] at hj
        have hjl := (List.getElem?_eq_some_iff.1 hc).1
        exact ⟨y, by rw [hcg j (by omega), hc], by simpa using hj.symm⟩
    have spot : 0 < len → a.spot = none := by
      intro h0
      obtain ⟨x, _, hx⟩ := each 0 h0
      have hl2 := U.len c x
      obtain ⟨y, hy, _⟩ := hx 0 ((U.enc c x)[0]'(by omega)) (List.getElem?_eq_getElem _)
      have h9 : (a.add (0 * P.cellsOf e)).add 0 = a := by simp [Addr.add]
      rw [h9] at hy
      exact cell_spot hy
    have : ∃ l : List (U.ty c), l.length = len ∧ ∀ i x, l[i]? = some x → Q x ∧ ∀ j a1, (U.enc c x)[j]? = some a1 → ∃ y, w.cell? ((a.add (i * P.cellsOf e)).add j) = some y ∧ a1 = .v y := by
      refine ⟨(List.range len).pmap (fun i hi => (each i hi).choose) (fun i hi => List.mem_range.1 hi), by simp, fun i x hi => ?_⟩
      rw [List.getElem?_pmap] at hi
      by_cases h0 : i < len
      · rw [Option.pmap_eq_some_iff] at hi
        obtain ⟨i', h1, h2, rfl⟩ := hi
        have : i' = i := by rw [List.getElem?_range h0] at h2; exact (Option.some.inj h2).symm
        subst this
        exact (each i' h1).choose_spec
      · simp [List.getElem?_eq_none (show (List.range len).length ≤ i by simp; omega)] at hi
    obtain ⟨l, hll, hl2⟩ := this
    have hQl : ∀ x ∈ l, Q x := fun x hx => by
      obtain ⟨i, hi⟩ := List.getElem?_of_mem hx
      exact (hl2 i x hi).1
    have hml : maxLen = 9223372036854775807 := by decide
    refine ⟨l, ⟨a.block, a.off, U.sz c, none, 0, 0⟩, by omega, hQl, fun π => ⟨rfl, fun i x hi j a1 hj => ?_⟩, fun π id k hp => ?_⟩
    · obtain ⟨y, hy, rfl⟩ := (hl2 i x hi).2 j a1 hj
      have hi' := (List.getElem?_eq_some_iff.1 hi).1
      have hs := spot (by omega)
      refine ⟨y, ?_, by simp [Rep]⟩
      rw [← hy]
      congr 1
      cases a
      simp only at hs
      subst hs
      simp only [Addr.add, hce, hsz]
      split <;> split <;> simp_all
    · simp only [Rep]
      refine ⟨some a, cap, by rw [hll], by omega, fun h0 => ⟨_, hp, ?_⟩⟩
      have hs := spot (by omega)
      cases a
      simp only at hs
      subst hs
      simp
theorem row_of_trod {U : Uni} (c : U.C) {t e : TypeId} {ks : List FK} {n fuel : Nat} {v : Value} {x : DataW H × List MemPlace} (ht : P.underlying t = some (.slice e)) (hfl : flat P n e = some ks) (hce : P.cellsOf e = ks.length) (hsz : ks.length = U.sz c) (hpos : 0 < ks.length)
    (hdec : ∀ cs, FKs ks cs → ∃ x, U.enc c x = cs.map .v) (h : DataW.trod enc P w base spare held fuel t [v] = some x) :
    ∃ (l : List (U.ty c)) (p : Place), l.length < 9223372036854775808 ∧ (∀ π, BlkOk π w p (.ro c l)) ∧ ∀ (π : Plc) (id k : Nat), π id k = some p → Rep π (.sl id k 0 l.length) v := by
  obtain ⟨l, p, a, _, b, d⟩ := row_of_trodQ c (fun _ => True) ht hfl hce hsz hpos (fun cs hc => by
    obtain ⟨x, hx⟩ := hdec cs hc
    exact ⟨x, hx, trivial⟩) h
  exact ⟨l, p, a, b, d⟩
end

def rosPlc (ps : List Place) : Plc := fun id k => if k = 0 then ps[id]? else none
theorem rosPlc_fresh (ps : List Place) : Fresh (rosPlc ps) ps.length := by
  intro id k h
  unfold rosPlc
  split
  · rw [List.getElem?_eq_none h]
  · rfl
def roH {U : Uni} (bs : List ((c : U.C) × List (U.ty c))) : Heap U := bs.map fun b => .one (.ro b.1 b.2)
theorem roH_at {U : Uni} {bs : List ((c : U.C) × List (U.ty c))} {id k : Nat} {b : AB1 U} (h : (roH bs).at id k = some b) : k = 0 ∧ ∃ c, bs[id]? = some c ∧ b = .ro c.1 c.2 := by
  unfold Heap.at roH at h
  rw [List.getElem?_map] at h
  cases hb : bs[id]? with
  | none => rw [hb] at h; cases h
  | some c =>
    rw [hb] at h
    simp only [Option.map_some] at h
    split at h
    · rename_i e; exact ⟨e, c, rfl, by simpa using h.symm⟩
    · cases h
theorem roH_conc {U : Uni} {w : World} {bs : List ((c : U.C) × List (U.ty c))} {ps : List Place} (hl : ps.length = bs.length) (h : ∀ (i : Nat) (b : (c : U.C) × List (U.ty c)) (p : Place), bs[i]? = some b → ps[i]? = some p → ∀ π, BlkOk (U := U) π w p (.ro b.1 b.2)) : Conc (rosPlc ps) (roH bs) w where
  ok := fun id k b hb => by
    obtain ⟨rfl, c, hc, rfl⟩ := roH_at hb
    have h1 := (List.getElem?_eq_some_iff.1 hc).1
    refine ⟨ps[id], ?_, h id c _ hc (List.getElem?_eq_getElem (by omega)) _⟩
    unfold rosPlc
    rw [if_pos rfl, List.getElem?_eq_getElem (by omega)]
  sep := fun id k b id' k' b' p p' hb _ _ ho => by
    obtain ⟨rfl, c, hc, rfl⟩ := roH_at hb
    cases ho

theorem trodAll_stays {H : Type} {enc : TypeId × Value → H} {P : Program} (hl : laidOutB P = true) {W W' : World} {sp' : Nat → Bool} : ∀ {ts : List TypeId} {vs : List Value} {ds : List (DataW H)} {ps : List MemPlace},
    (ts.all fun t => P.readableRec t && decide (t < P.types.size)) = true → DataW.TrodAll enc P W 0 (fun _ => true) true ts vs ds ps → (∀ p ∈ ps, W.sameAt W' p) → (∀ p ∈ ps, sp' p.block = true) → DataW.TrodAll enc P W' 0 sp' true ts vs ds ps
  | [], [], [], _, _, h, _, _ => h
  | _ :: _, _ :: _, _ :: _, _, ht, ⟨p, q, h1, h2, e⟩, hs, hp => by
    simp only [List.all_cons, Bool.and_eq_true, decide_eq_true_eq] at ht
    exact ⟨p, q, WideElems.Trod_stays hl ht.1.1 ht.1.2 h1 (fun x hx => hs x (by rw [e]; exact List.mem_append_left _ hx)) (fun x hx => hp x (by rw [e]; exact List.mem_append_left _ hx)),
      trodAll_stays hl ht.2 h2 (fun x hx => hs x (by rw [e]; exact List.mem_append_right _ hx)) (fun x hx => hp x (by rw [e]; exact List.mem_append_right _ hx)), e⟩

theorem law_lifted {C : Checked} {f : FuncId} {fn : Func} {s : ChangeSpec} {conds : List PathCond} (own : ownKnob C.prog.godebug = none) {os : Os} (started : os.Started) {H : Type} {enc : TypeId × Value → H} (noInit : C.prog.inits.idxOf? f = none) (hfn : C.prog.funcs[f]? = some fn)
    (witness : ∃ (w : World) (tape : Tape) (i : Input), w.os = os ∧ (w.forCall tape i).Shaped C.prog ∧ i.vars = [] ∧ Input.okWide C.prog (w.forCall tape i) .any w.heap.size f i ∧ s.pre6 enc C.prog fn conds false (w.forCall tape i).memory i.args ∧ ({} : Assume).holds C.prog (lone (Frame.enter C.prog f i.args .normal) [] (w.forCall tape i)))
    (hl : laidOutB C.prog = true) (hts : (fn.params.toList.all fun t => C.prog.readableRec t && decide (t < C.prog.types.size)) = true) {rt : TypeId} (hrt : fn.resultTypes = #[rt]) (hb : C.prog.underlying rt = some .bool)
    (hvars : s.vars = []) (hspec : ∀ ds : List (DataW H), ds.length = fn.params.size → (s.fn H ds).results = [.lit (.bool true)] ∧ (s.fn H ds).args = ds ∧ (s.fn H ds).vars = [])
    (walk : ∀ (W : World) (args : Array Value) (ds : List (DataW H)) (ps : List MemPlace), DataW.TrodAll enc C.prog W 0 (fun _ => true) true fn.params.toList args.toList ds ps → (∀ (j : Nat) t v, fn.params[j]? = some t → args[j]? = some v → ∃ base, Value.okWide C.prog W .any base t v) →
      Calls C.prog f args W fun e w' => e = .returned (.bool true) ∧ Keeps (fun _ => False) W w') :
    ReturnsInHanded {} C os f .any (s.pre6 enc C.prog fn conds false) (s.post enc C.prog fn false true false false) := by
  refine returnsInHanded_of_change (C := C) own started noInit hfn witness ?_
  intro W base args ds gs before hval hW hcnd _
  have hW' := hW
  obtain ⟨p, q, hA, hV, rfl, hfz, hnd⟩ := hW
  rw [hvars] at hV
  obtain ⟨rfl, rfl⟩ := trodVars_none hV
  simp only [List.append_nil] at hW'
  have hlen : ds.length = fn.params.size := by
    have : ∀ {ts : List TypeId} {vs : List Value} {ds : List (DataW H)} {ps : List MemPlace}, DataW.TrodAll enc C.prog W 0 (fun _ => true) true ts vs ds ps → ds.length = ts.length := by
      intro ts
      induction ts with
      | nil => intro vs ds ps h; obtain ⟨_, rfl, _⟩ := trodAll_nil h; rfl
      | cons t ts ih =>
        intro vs ds ps h
        obtain ⟨_, _, _, ds', _, _, _, rfl, _, _, h2⟩ := trodAll_cons h
        simp [ih h2]
    rw [this hA]; simp
  obtain ⟨s1, s2, s3⟩ := hspec (ds ++ []) (by simpa using hlen)
  refine (walk W args ds p hA fun j t v h1 h2 => ⟨base, hval j t v h1 h2⟩).mono fun e W' ⟨he, hg⟩ => ?_
  subst he
  refine ⟨_, rfl, post_of_keeps (pa := p) (pv := []) hW' (fun b sp hd => ?_) (fun sp hsp => ?_) (fun sp _ => ?_) (by simp) hg ?_⟩
  · rw [s1, hrt]
    exact trodAll_cons_mk (shut_bool hb _) trodAll_mk0
  · rw [s2, List.append_nil]
    have hlt := hW'.lt
    exact trodAll_stays hl hts hA (fun x hx => hg.below.same (by simpa using hlt x hx)) fun x hx => hsp x hx
  · rw [s3, hvars]; rfl
  · exact ok_one hrt rfl (okWide_bool_mk hb _)

theorem agg_of_cells {v : Value} {l : List Value} (h : v.cells.toList = l) (hl : l.length ≠ 1) : v = .agg l.toArray := by
  cases v with
  | agg cs => simp only [Value.cells] at h; rw [← h]
  | _ => simp only [Value.cells] at h; rw [← h] at hl; exact absurd rfl hl
theorem flat_cells {H : Type} {enc : TypeId × Value → H} {P : Program} {w : World} {base : Nat} {spare : Nat → Bool} {held : Bool} {t : TypeId} {v : Value} {d : DataW H} {ps : List MemPlace} {ks : List FK} (n : Nat) (hfl : flat P n t = some ks) (hce : P.cellsOf t = ks.length) (h : DataW.Trod enc P w base spare held t v d ps) : FKs ks v.cells.toList := by
  obtain ⟨fuel, h⟩ := h
  exact flat_ok n hfl hce h
theorem flat_agg {H : Type} {enc : TypeId × Value → H} {P : Program} {w : World} {base : Nat} {spare : Nat → Bool} {held : Bool} {t : TypeId} {v : Value} {d : DataW H} {ps : List MemPlace} {ks : List FK} (n : Nat) (hfl : flat P n t = some ks) (hce : P.cellsOf t = ks.length) (hne : ks.length ≠ 1) (h : DataW.Trod enc P w base spare held t v d ps) : ∃ l, FKs ks l ∧ v = .agg l.toArray := by
  have h1 := flat_cells n hfl hce h
  exact ⟨_, h1, agg_of_cells rfl (by rw [h1.length]; exact hne)⟩
end AE

namespace AE.Soil
open Go AE Go.Proofs Go.ChangeShapes Go.WideShapes Go.RowKit

theorem laidOut : laidOutB Tryz.prog = true := by kernel_rfl
theorem flatP : flat Tryz.prog 30 151 = some [.int .i64, .int .i64, .int .i64, .int .i64, .int .i64, .int .i64, .int .i64, .int .i64, .int .i64] := by kernel_rfl
theorem decP (cs : List Value) (h : FKs [.int .i64, .int .i64, .int .i64, .int .i64, .int .i64, .int .i64, .int .i64, .int .i64, .int .i64] cs) : ∃ x : PitT, CC.enc .pit x = cs.map .v := by
  obtain ⟨_, _, rfl, ⟨a, rfl, _⟩, _, _, rfl, ⟨b, rfl, _⟩, _, _, rfl, ⟨c, rfl, _⟩, _, _, rfl, ⟨d, rfl, _⟩, _, _, rfl, ⟨e, rfl, _⟩, _, _, rfl, ⟨f, rfl, _⟩, _, _, rfl, ⟨g, rfl, _⟩, _, _, rfl, ⟨i, rfl, _⟩, _, _, rfl, ⟨j, rfl, _⟩, h⟩ := h
  cases h
  exact ⟨(a, (b, c), (d, e), (f, g), (i, j)), rfl⟩
def bigG (g : GroundT) : Prop := g.pits.length < 9223372036854775808

section
variable {H : Type} {enc : TypeId × Value → H} {w : World} {d : DataW H} {ps : List MemPlace} {v : Value}
end
end AE.Soil

namespace AE.Team
open Go AE Go.Proofs AE.Soil Go.ChangeShapes Go.WideShapes Go.RowKit

theorem flatS : flat Tryz.prog 30 92 = some [.int .i64, .int .i64, .int .i64] := by kernel_rfl
theorem flatT : flat Tryz.prog 30 25 = some [.int .i64, .int .i64, .int .i64, .int .i64, .int .i64, .int .i64, .int .i64] := by kernel_rfl
theorem decS (cs : List Value) (h : FKs [.int .i64, .int .i64, .int .i64] cs) : ∃ x : StepT, CC.enc .tstep x = cs.map .v := by
  obtain ⟨_, _, rfl, ⟨a, rfl, _⟩, _, _, rfl, ⟨b, rfl, _⟩, _, _, rfl, ⟨c, rfl, _⟩, h⟩ := h
  cases h
  exact ⟨(a, b, c), rfl⟩
section
variable {H : Type} {enc : TypeId × Value → H} {w : World} {d : DataW H} {ps : List MemPlace} {v : Value}
theorem open_teamA (h : DataW.Trod enc Tryz.prog w 0 (fun _ => true) true 25 v d ps) : ∃ x : TeamT, ∀ π : Plc, Rep π (vTeam x) v := by
  obtain ⟨l, hk, rfl⟩ := flat_agg 30 flatT (by kernel_rfl) (by decide) h
  obtain ⟨_, _, rfl, ⟨a, rfl, _⟩, _, _, rfl, ⟨b, rfl, _⟩, _, _, rfl, ⟨c, rfl, _⟩, _, _, rfl, ⟨d, rfl, _⟩, _, _, rfl, ⟨e, rfl, _⟩, _, _, rfl, ⟨f, rfl, _⟩, _, _, rfl, ⟨g, rfl, _⟩, hz⟩ := hk
  cases hz
  refine ⟨((a, b), (c, d), (e, f), g), fun π => ?_⟩
  simp only [vTeam, Rep]
  exact ⟨_, rfl, RepL.cons (by simp [Rep]) (RepL.cons (by simp [Rep]) (RepL.cons (by simp [Rep]) (RepL.cons (by simp [Rep]) (RepL.cons (by simp [Rep]) (RepL.cons (by simp [Rep]) (RepL.cons (by simp [Rep]) (RepL.nil π)))))))⟩
theorem ground_cells {m : Nat} {l : List Value} {y : DataW H × List MemPlace} (h : DataW.trod enc Tryz.prog w 0 (fun _ => true) true m 28 l = some y) :
    ∃ (x : GroundT) (p : Place) (s : Value), bigG x ∧ (∀ π, BlkOk π w p (.ro (U := UU) .pit x.pits)) ∧ l = [.int .i64 x.long, .int .i64 x.rise, .int .i64 x.change, s] ∧ ∀ (π : Plc) (id : Nat), π id 0 = some p → Rep π (.sl id 0 0 x.pits.length) s := by
  obtain ⟨xs, m, _, _, hl, hlen, hf⟩ := DataW.trod_struct Tryz.underlying28 h
  have hc : Tryz.prog.cellsOf 28 = 4 := by kernel_rfl
  have c3 : Tryz.prog.cellsOf 3 = 1 := by kernel_rfl
  have c22 : Tryz.prog.cellsOf 26 = 1 := by kernel_rfl
  have fl3 : flat Tryz.prog 30 3 = some [.int .i64] := by kernel_rfl
  rw [hc] at hl
  have hx : ∀ i, i < 4 → ∃ y, xs[i]? = some y := fun i hi => ⟨_, List.getElem?_eq_getElem (by have : xs.length = 4 := hlen; omega)⟩
  match l, hl with
  | [a, b, c, e], _ =>
  obtain ⟨y0, e0⟩ := hx 0 (by omega)
  obtain ⟨y1, e1⟩ := hx 1 (by omega)
  obtain ⟨y2, e2⟩ := hx 2 (by omega)
  obtain ⟨y3, e3⟩ := hx 3 (by omega)
  have f0 : DataW.trod enc Tryz.prog w 0 (fun _ => true) true m 3 (([a, b, c, e].drop 0).take (Tryz.prog.cellsOf 3)) = xs[0]? := hf 0 _ rfl
  have f1 : DataW.trod enc Tryz.prog w 0 (fun _ => true) true m 3 (([a, b, c, e].drop 1).take (Tryz.prog.cellsOf 3)) = xs[1]? := hf 1 _ rfl
  have f2 : DataW.trod enc Tryz.prog w 0 (fun _ => true) true m 3 (([a, b, c, e].drop 2).take (Tryz.prog.cellsOf 3)) = xs[2]? := hf 2 _ rfl
  have f3 : DataW.trod enc Tryz.prog w 0 (fun _ => true) true m 26 (([a, b, c, e].drop 3).take (Tryz.prog.cellsOf 26)) = xs[3]? := hf 3 _ rfl
  rw [e0, c3] at f0
  rw [e1, c3] at f1
  rw [e2, c3] at f2
  rw [e3, c22] at f3
  obtain ⟨_, _, h0, ⟨n0, rfl, w0⟩, r0⟩ := flat_ok 30 fl3 c3 f0
  obtain ⟨_, _, h1, ⟨n1, rfl, w1⟩, r1⟩ := flat_ok 30 fl3 c3 f1
  obtain ⟨_, _, h2, ⟨n2, rfl, w2⟩, r2⟩ := flat_ok 30 fl3 c3 f2
  have h0' : a = .int .i64 n0 := (List.cons.inj h0).1
  have h1' : b = .int .i64 n1 := (List.cons.inj h1).1
  have h2' : c = .int .i64 n2 := (List.cons.inj h2).1
  obtain ⟨cs, p, hcs, hp, hpr⟩ := row_of_trod (U := UU) CC.pit Tryz.underlying26 flatP (by kernel_rfl) rfl (by decide) AE.Soil.decP f3
  subst h0' h1' h2'
  exact ⟨⟨n0, n1, n2, cs⟩, p, e, hcs, hp, rfl, fun π id h3 => hpr π id 0 h3⟩
theorem open_plotA (h : DataW.Trod enc Tryz.prog w 0 (fun _ => true) true 31 v d ps) :
    ∃ (x : PlotT) (p q : Place), bigP x ∧ (∀ π, BlkOk π w p (.ro (U := UU) .pit x.g.pits)) ∧ (∀ π, BlkOk π w q (.ro (U := UU) .tstep x.steps)) ∧ ∀ (π : Plc) (a b : Nat), π a 0 = some p → π b 0 = some q → Rep π (vPlot x a b) v := by
  obtain ⟨fuel, h⟩ := h
  obtain ⟨xs, m, _, _, hl, hlen, hf⟩ := DataW.trod_struct Tryz.underlying31 h
  have hc : Tryz.prog.cellsOf 31 = 5 := by kernel_rfl
  have c4 : Tryz.prog.cellsOf 28 = 4 := by kernel_rfl
  have c1 : Tryz.prog.cellsOf 29 = 1 := by kernel_rfl
  rw [hc] at hl
  have hv := agg_of_cells (v := v) rfl (by omega)
  obtain ⟨l, hl2⟩ : ∃ l, v.cells.toList = l := ⟨_, rfl⟩
  rw [hl2] at hl hv hf
  subst hv
  have hx : ∀ i, i < 2 → ∃ y, xs[i]? = some y := fun i hi => ⟨_, List.getElem?_eq_getElem (by have : xs.length = 2 := hlen; omega)⟩
  match l, hl with
  | [a, b, c, e, s], _ =>
  obtain ⟨y0, e0⟩ := hx 0 (by omega)
  obtain ⟨y1, e1⟩ := hx 1 (by omega)
  have f0 : DataW.trod enc Tryz.prog w 0 (fun _ => true) true m 28 (([a, b, c, e, s].drop 0).take (Tryz.prog.cellsOf 28)) = xs[0]? := hf 0 _ rfl
  have f1 : DataW.trod enc Tryz.prog w 0 (fun _ => true) true m 29 (([a, b, c, e, s].drop 4).take (Tryz.prog.cellsOf 29)) = xs[1]? := hf 1 _ rfl
  rw [e0, c4] at f0
  rw [e1, c1] at f1
  obtain ⟨g, p, sv, hg, hp, hcells, hr⟩ := ground_cells f0
  obtain ⟨cs, q, hcs, hq, hqr⟩ := row_of_trod (U := UU) CC.tstep Tryz.underlying29 flatS (by kernel_rfl) rfl (by decide) decS f1
  have hcells' : [a, b, c, e] = [.int .i64 g.long, .int .i64 g.rise, .int .i64 g.change, sv] := hcells
  simp only [List.cons.injEq, and_true] at hcells'
  obtain ⟨rfl, rfl, rfl, rfl⟩ := hcells'
  refine ⟨⟨g, cs⟩, p, q, ⟨hg, hcs⟩, hp, hq, fun π i j h1 h2 => ?_⟩
  simp only [vPlot, cPlot, Rep]
  exact ⟨_, rfl, RepL.cons (by simp [Rep]) (RepL.cons (by simp [Rep]) (RepL.cons (by simp [Rep]) (RepL.cons (hr π i h1) (RepL.cons (hqr π j 0 h2) (RepL.nil π)))))⟩
end
theorem walk_plot {f : FuncId} {W : World} {args : Array Value} {x : PlotT} {p q : Place} {al : List AV} (h : FunOk Tryz.prog f al (hPlot x) (.val ⟨.b true, [], [], []⟩)) (hp : ∀ π, BlkOk π W p (.ro (U := UU) .pit x.g.pits)) (hq : ∀ π, BlkOk π W q (.ro (U := UU) .tstep x.steps))
    (hr : RepL (rosPlc [p, q]) al args.toList) : Calls Tryz.prog f args W fun e w' => e = .returned (.bool true) ∧ Keeps (fun _ => False) W w' := by
  have hc : Conc (rosPlc [p, q]) (hPlot x) W := roH_conc (U := UU) (bs := [⟨CC.pit, x.g.pits⟩, ⟨CC.tstep, x.steps⟩]) rfl fun i b p' hb hp' π => by
    match i with
    | 0 => cases hb; cases hp'; exact hp π
    | 1 => cases hb; cases hp'; exact hq π
    | i + 2 => cases hb
  have hF := h (rosPlc [p, q]) W args.toList (rosPlc_fresh [p, q]) hc hr
  refine hF.mono fun e w' hh => ?_
  obtain ⟨v, πn, rfl, hpo⟩ := hh
  have hb := rep_v hpo.rep
  subst hb
  refine ⟨rfl, hpo.keeps.weaken fun n _ hn => ?_⟩
  obtain ⟨id, k, p, b0, hu, _⟩ := hn
  rcases hu with ⟨b, hb⟩ | hb <;> cases hb
end AE.Team
