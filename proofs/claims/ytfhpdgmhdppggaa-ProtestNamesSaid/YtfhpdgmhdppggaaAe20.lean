/- An own symbolic executor: regions whose order is open: what the reckoning says of each operation. No condition. -/
import Derived.Test.YtfhpdgmhdppggaaAe19
namespace AE
open Go

variable {U : Uni}

def av0 (e : Ent U) : AV := e.k.av

def GuardYes (pre : List (Ent U)) (e : Ent U) (o : Oper) : Prop :=
  o.guard = none ∨ ∃ j want ej rj, o.guard = some (j, want) ∧ Nat.testBit e.mask j = true ∧ pre[j]? = some ej ∧ ej.k = .done rj ∧ ej.dst ≠ none ∧ (∀ (k : Nat) (ek : Ent U), pre[k]? = some ek → k ≠ j → ek.dst ≠ ej.dst) ∧ ∀ π y, Rep π rj.val y → y = .bool want
def GuardNo (pre : List (Ent U)) (e : Ent U) (o : Oper) : Prop :=
  ∃ j want ej, o.guard = some (j, want) ∧ Nat.testBit e.mask j = true ∧ pre[j]? = some ej ∧ ej.dst ≠ none ∧ (∀ (k : Nat) (ek : Ent U), pre[k]? = some ek → k ≠ j → ek.dst ≠ ej.dst) ∧ (ej.k = .skip ∨ ∃ rj, ej.k = .done rj ∧ ∀ π y, Rep π rj.val y → y = .bool (!want))

def RhoOk (fr0 : Fr) (pre : List (Ent U)) (e : Ent U) (ρ : Operand → AV) (o : Oper) : Prop :=
  ∀ (π : Plc) (a : Act), (∀ t, t ∈ e.rd → Rep π ((foldF av0 (Nat.testBit e.mask) pre 0 fr0).get t) (a.tmps.getD t undef)) → ∀ x, Rep π (ρ x) (a.eval x)

def HOk (H0 : Heap U) (pre : List (Ent U)) (e : Ent U) : Prop :=
  ∀ (id : Nat) (x : AB U), e.H[id]? = some x → x ≠ .none → (foldH (Nat.testBit e.mask) pre 0 H0)[id]? = some x ∧ ∀ (j : Nat) (ej : Ent U), pre[j]? = some ej → Nat.testBit e.mask j = false → id ∉ ej.k.mods

structure EntOk (P : Program) (nt : Nat) (all : List Oper) (fr0 : Fr) (H0 : Heap U) (pre : List (Ent U)) (o : Oper) (e : Ent U) : Prop where
  dst : e.dst = o.dst
  nt : dstOk nt o.dst = true
  rd : ∀ t, .tmp t ∈ o.op.operands.toList → t ∈ e.rd
  gd : ∀ j want oj d, o.guard = some (j, want) → all[j]? = some oj → oj.dst = some d → d ∈ e.rd
  dep : ∀ ed ∈ o.after.toList, Region.binds .any ed = true → ed.on < pre.length ∧ Nat.testBit e.mask ed.on = true
  lt : ∀ k, Nat.testBit e.mask k = true → k < pre.length
  org : ∀ k, Nat.testBit e.mask k = true → ∃ ed ∈ o.after.toList, Region.binds .any ed = true ∧ (ed.on = k ∨ ∃ ek : Ent U, pre[ed.on]? = some ek ∧ Nat.testBit ek.mask k = true)
  clo : ∀ (k : Nat) (ek : Ent U), Nat.testBit e.mask k = true → pre[k]? = some ek → ∀ j, Nat.testBit ek.mask j = true → Nat.testBit e.mask j = true
  apart : ∀ (k : Nat) (ek : Ent U), pre[k]? = some ek → Nat.testBit e.mask k = false → apartE e.dst e.rd ek = true
  base : e.base = H0.length + newSum pre
  kind : match e.k with
    | .dead => ∃ (k : Nat) (ek : Ent U), Nat.testBit e.mask k = true ∧ pre[k]? = some ek ∧ ek.k.bad = true
    | .skip => GuardNo pre e o ∧ ∀ (k : Nat) (ek : Ent U), Nat.testBit e.mask k = true → pre[k]? = some ek → ek.k.bad = false
    | .done r => GuardYes pre e o ∧ (∀ (k : Nat) (ek : Ent U), Nat.testBit e.mask k = true → pre[k]? = some ek → ek.k.bad = false) ∧ HOk H0 pre e ∧ (∃ ρ, RhoOk fr0 pre e ρ o ∧ OpOk P o ρ e.H e.base (.val r)) ∧ (∀ (j : Nat) (ej : Ent U), pre[j]? = some ej → Nat.testBit e.mask j = false → ∀ id ∈ e.k.mods, ∀ x, ej.H[id]? = some x → x = .none) ∧ (∀ id ∈ e.k.mods, ∃ x, e.H[id]? = some x ∧ x ≠ .none)
    | .panic x => GuardYes pre e o ∧ (∀ (k : Nat) (ek : Ent U), Nat.testBit e.mask k = true → pre[k]? = some ek → ek.k.bad = false) ∧ HOk H0 pre e ∧ (∃ ρ, RhoOk fr0 pre e ρ o ∧ OpOk P o ρ e.H e.base (.panic x))

def TblOk (P : Program) (nt : Nat) (all : List Oper) (fr0 : Fr) (H0 : Heap U) (tbl : List (Ent U)) : Prop :=
  ∀ (i : Nat) (e : Ent U), tbl[i]? = some e → ∃ o, all[i]? = some o ∧ EntOk P nt all fr0 H0 (tbl.take i) o e

/-- A later view of an operation's value says no less than what is so. -/
def VwOk (e : Ent U) (v : AV) : Prop := (∀ r, e.k = .done r → ∀ π y, Rep π r.val y → Rep π v y) ∧ (e.k = .skip → v = .v undef) ∧ (e.k.bad = true → v = .junk)
def VwsOk (tbl : List (Ent U)) (vs : List AV) : Prop := vs.length = tbl.length ∧ ∀ (i : Nat) (e : Ent U) (v : AV), tbl[i]? = some e → vs[i]? = some v → VwOk e v

theorem depMask_ok {tbl : List (Ent U)} : ∀ {es : List Edge} {m0 m : Nat}, depMask tbl es m0 = some m → (∀ k, Nat.testBit m0 k = true → k < tbl.length) → (∀ (k : Nat) (ek : Ent U), tbl[k]? = some ek → ∀ j, Nat.testBit ek.mask j = true → j < k) →
    (∀ (k : Nat) (ek : Ent U), Nat.testBit m0 k = true → tbl[k]? = some ek → ∀ j, Nat.testBit ek.mask j = true → Nat.testBit m0 j = true) →
    (∀ (k : Nat) (ek : Ent U), tbl[k]? = some ek → ∀ (l : Nat) (el : Ent U), Nat.testBit ek.mask l = true → tbl[l]? = some el → ∀ j, Nat.testBit el.mask j = true → Nat.testBit ek.mask j = true) →
    (∀ k, Nat.testBit m0 k = true → Nat.testBit m k = true) ∧ (∀ ed ∈ es, Region.binds .any ed = true → ed.on < tbl.length ∧ Nat.testBit m ed.on = true) ∧ (∀ k, Nat.testBit m k = true → k < tbl.length) ∧
      (∀ (k : Nat) (ek : Ent U), Nat.testBit m k = true → tbl[k]? = some ek → ∀ j, Nat.testBit ek.mask j = true → Nat.testBit m j = true) ∧
      (∀ k, Nat.testBit m k = true → Nat.testBit m0 k = true ∨ ∃ ed ∈ es, Region.binds .any ed = true ∧ (ed.on = k ∨ ∃ ek : Ent U, tbl[ed.on]? = some ek ∧ Nat.testBit ek.mask k = true))
  | [], m0, m, h, h1, h2, h3, h4 => by
    simp [depMask] at h; subst h
    exact ⟨fun _ h => h, by simp, h1, h3, fun k hk => .inl hk⟩
  | e :: es, m0, m, h, h1, h2, h3, h4 => by
    unfold depMask at h
    split at h
    · rename_i hb
      obtain ⟨a, b, c, d, f⟩ := depMask_ok h h1 h2 h3 h4
      refine ⟨a, fun ed hed hbd => ?_, c, d, fun k hk => (f k hk).imp (fun h => h) (fun ⟨ed, h1, h2⟩ => ⟨ed, by simp [h1], h2⟩)⟩
      simp at hed
      rcases hed with rfl | hed
      · rw [hb] at hbd; cases hbd
      · exact b ed hed hbd
    · rename_i hb
      split at h
      case h_2 => cases h
      rename_i x hx
      rw [nth_eq] at hx
      have hlt : e.on < tbl.length := (List.getElem?_eq_some_iff.1 hx).1
      have tb : ∀ k, Nat.testBit (m0 ||| x.mask ||| (1 <<< e.on)) k = (Nat.testBit m0 k || Nat.testBit x.mask k || decide (k = e.on)) := by
        intro k
        simp only [Nat.testBit_or, Nat.shiftLeft_eq, Nat.one_mul, Nat.testBit_two_pow]
        congr 1
        exact decide_eq_decide.2 ⟨fun h => h.symm, fun h => h.symm⟩
      obtain ⟨a, b, c, d, f⟩ := depMask_ok h (fun k hk => by
          rw [tb] at hk; simp only [Bool.or_eq_true, decide_eq_true_eq] at hk
          rcases hk with (hk | hk) | hk
          · exact h1 k hk
          · exact Nat.lt_trans (h2 _ _ hx k hk) hlt
          · omega) h2 (fun k ek hk hek j hj => by
          rw [tb] at hk ⊢; simp only [Bool.or_eq_true, decide_eq_true_eq] at hk ⊢
          rcases hk with (hk | hk) | hk
          · exact .inl (.inl (h3 k ek hk hek j hj))
          · exact .inl (.inr (h4 _ _ hx k ek hk hek j hj))
          · subst hk; rw [hx] at hek; cases hek; exact .inl (.inr hj)) h4
      refine ⟨fun k hk => a k (by rw [tb, hk]; rfl), fun ed hed hbd => ?_, c, d, fun k hk => ?_⟩
      case refine_2 =>
        rcases f k hk with h | ⟨ed, h1, h2⟩
        · rw [tb] at h; simp only [Bool.or_eq_true, decide_eq_true_eq] at h
          rcases h with (h | h) | h
          · exact .inl h
          · exact .inr ⟨e, by simp, hb, .inr ⟨x, hx, h⟩⟩
          · exact .inr ⟨e, by simp, hb, .inl h.symm⟩
        · exact .inr ⟨ed, by simp [h1], h2⟩
      simp at hed
      rcases hed with rfl | hed
      · exact ⟨hlt, a _ (by rw [tb]; simp)⟩
      · exact b ed hed hbd

theorem TblOk.masks {P : Program} {nt : Nat} {all : List Oper} {fr0 : Fr} {H0 : Heap U} {tbl : List (Ent U)} (h : TblOk P nt all fr0 H0 tbl) :
    (∀ (k : Nat) (ek : Ent U), tbl[k]? = some ek → ∀ j, Nat.testBit ek.mask j = true → j < k) ∧
    (∀ (k : Nat) (ek : Ent U), tbl[k]? = some ek → ∀ (l : Nat) (el : Ent U), Nat.testBit ek.mask l = true → tbl[l]? = some el → ∀ j, Nat.testBit el.mask j = true → Nat.testBit ek.mask j = true) := by
  constructor
  · intro k ek hk j hj
    obtain ⟨o, _, he⟩ := h k ek hk
    have := he.lt j hj
    have hkl : k < tbl.length := (List.getElem?_eq_some_iff.1 hk).1
    simp at this; omega
  · intro k ek hk l el hl hel j hj
    obtain ⟨o, _, he⟩ := h k ek hk
    have hlk := he.lt l hl
    simp at hlk
    exact he.clo l el hl (by rw [List.getElem?_take, if_pos (by omega)]; exact hel) j hj

theorem anyBad_false {m : Nat} : ∀ {i : Nat} {l : List (Ent U)}, anyBad m i l = false → ∀ {j : Nat} {x : Ent U}, l[j]? = some x → Nat.testBit m (i + j) = true → x.k.bad = false
  | i, [], _, j, x, h, _ => by simp at h
  | i, y :: l, h, j, x, hj, hm => by
    simp only [anyBad, Bool.or_eq_false_iff, Bool.and_eq_false_iff] at h
    cases j with
    | zero =>
      simp at hj; subst hj
      rcases h.1 with h1 | h1
      · simp at hm; rw [h1] at hm; cases hm
      · exact h1
    | succ j => exact anyBad_false h.2 (j := j) (by simpa using hj) (by rw [show i + 1 + j = i + (j + 1) by omega]; exact hm)
theorem anyBad_true {m : Nat} : ∀ {i : Nat} {l : List (Ent U)}, anyBad m i l = true → ∃ j x, l[j]? = some x ∧ Nat.testBit m (i + j) = true ∧ x.k.bad = true
  | i, [], h => by simp [anyBad] at h
  | i, y :: l, h => by
    simp only [anyBad, Bool.or_eq_true, Bool.and_eq_true] at h
    rcases h with h | h
    · exact ⟨0, y, by simp, by simpa using h.1, h.2⟩
    · obtain ⟨j, x, h1, h2, h3⟩ := anyBad_true h
      exact ⟨j + 1, x, by simpa using h1, by rw [show i + (j + 1) = i + 1 + j by omega]; exact h2, h3⟩

theorem modsOff_mem {m : Nat} : ∀ {i : Nat} {l : List (Ent U)} {j : Nat} {x : Ent U}, l[j]? = some x → Nat.testBit m (i + j) = false → ∀ id ∈ x.k.mods, id ∈ modsOff m i l
  | i, [], j, x, h, _, _, _ => by simp at h
  | i, y :: l, j, x, hj, hm, id, hid => by
    unfold modsOff
    cases j with
    | zero =>
      simp at hj; subst hj
      simp only [Nat.add_zero] at hm
      rw [hm]; simp [hid]
    | succ j =>
      have := modsOff_mem (m := m) (i := i + 1) (l := l) (j := j) (x := x) (by simpa using hj) (by rw [show i + 1 + j = i + (j + 1) by omega]; exact hm) id hid
      split
      · exact this
      · simp [this]

theorem killAll_get : ∀ {l : List Nat} {H : Heap U} {i : Nat} {x : AB U}, (killAll l H)[i]? = some x → x ≠ .none → i ∉ l ∧ H[i]? = some x
  | [], H, i, x, h, _ => ⟨by simp, h⟩
  | id :: l, H, i, x, h, hx => by
    obtain ⟨h1, h2⟩ := killAll_get (l := l) (H := H.kill id) h hx
    unfold Heap.kill at h2
    rw [setNth_get] at h2
    split at h2
    · cases hh : H[i]? with
      | none => simp [hh] at h2
      | some y => simp [hh] at h2; exact absurd h2.symm hx
    · rename_i hne; exact ⟨by simp [hne, h1], h2⟩

/-- Frames by two ways of seeing. -/
theorem foldV_rep {m : Nat → Bool} {π : Plc} {t : Nat} {y : Value} : ∀ {tbl : List (Ent U)} {vs : List AV} {i : Nat} {fr fr' : Fr}, VwsOk tbl vs →
    (Rep π (fr.get t) y → Rep π (fr'.get t) y) → Rep π ((foldF av0 m tbl i fr).get t) y → Rep π ((foldV m tbl vs i fr').get t) y
  | [], [], i, fr, fr', _, h, hr => h hr
  | [], v :: vs, i, fr, fr', hv, h, hr => by have := hv.1; simp at this
  | e :: tbl, [], i, fr, fr', hv, h, hr => by have := hv.1; simp at this
  | e :: tbl, v :: vs, i, fr, fr', hv, h, hr => by
    unfold foldF at hr
    unfold foldV
    have hev := hv.2 0 e v (by simp) (by simp)
    have he : ∀ z, Rep π (av0 e) z → Rep π v z := by
      intro z hz
      unfold av0 EK.av at hz
      split at hz
      · rename_i r hk; exact hev.1 r hk π z hz
      · rename_i hk; rw [hev.2.1 hk]; exact hz
      · rename_i h1 h2
        have hb : e.k.bad = true := by cases hk : e.k <;> simp_all [EK.bad]
        rw [hev.2.2 hb]; simp [Rep]
    refine foldV_rep ⟨by simpa using hv.1, fun i e' v' he' hv' => hv.2 (i + 1) e' v' (by simpa using he') (by simpa using hv')⟩ ?_ hr
    cases hm : m i with
    | false => exact h
    | true =>
      intro hr'
      cases hd : e.dst with
      | none => simp only [hm, hd, Fr.put] at hr' ⊢; exact h hr'
      | some d =>
        simp only [hm, hd, Fr.put, Fr.get_cons] at hr' ⊢
        split
        · rename_i e'; rw [if_pos e'] at hr'; exact he y hr'
        · rename_i e'; rw [if_neg e'] at hr'; exact h hr'

theorem rhoR_ok {fr0 : Fr} {pre : List (Ent U)} {vs : List AV} {e : Ent U} {o : Oper} {l : List Nat} (hv : VwsOk pre vs) (hsub : ∀ t ∈ l, t ∈ e.rd) : RhoOk fr0 pre e (rhoR l (foldV (Nat.testBit e.mask) pre vs 0 fr0)) o := by
  intro π a h x
  cases x with
  | tmp t =>
    unfold rhoR
    simp only
    split
    · rename_i ht
      exact foldV_rep hv (fun h => h) (h t (hsub t (memN_iff.1 ht)))
    · simp [Rep]
  | const v => exact constAV_rep π v
  | func f => simp only [rhoR, Act.eval, Rep]; exact ⟨#[], #[], rfl, RepL.nil π, RepL.nil π⟩
  | global g => simp [rhoR, Rep]

theorem opReads_mem {o : Oper} {t : Nat} (h : .tmp t ∈ o.op.operands.toList) : t ∈ opReads o := by
  unfold opReads
  exact List.mem_filterMap.2 ⟨_, h, rfl⟩

theorem TblOk.snoc {P : Program} {nt : Nat} {all : List Oper} {fr0 : Fr} {H0 : Heap U} {tbl : List (Ent U)} (h : TblOk P nt all fr0 H0 tbl) {o : Oper} (ho : all[tbl.length]? = some o) {e : Ent U} (he : EntOk P nt all fr0 H0 tbl o e) :
    TblOk P nt all fr0 H0 (tbl ++ [e]) := by
  intro i x hx
  rcases Nat.lt_trichotomy i tbl.length with hi | hi | hi
  · rw [List.getElem?_append_left hi] at hx
    obtain ⟨o', ho', hx'⟩ := h i x hx
    exact ⟨o', ho', by rw [List.take_append_of_le_length (by omega)]; exact hx'⟩
  · subst hi
    simp at hx; subst hx
    exact ⟨o, ho, by simpa using he⟩
  · rw [List.getElem?_eq_none (by simp; omega)] at hx; cases hx

theorem VwsOk.snoc {tbl : List (Ent U)} {vs : List AV} (h : VwsOk tbl vs) {e : Ent U} {v : AV} (he : VwOk e v) : VwsOk (tbl ++ [e]) (vs ++ [v]) := by
  refine ⟨by simp [h.1], fun i e' v' h1 h2 => ?_⟩
  rcases Nat.lt_trichotomy i tbl.length with hi | hi | hi
  · rw [List.getElem?_append_left hi] at h1
    rw [List.getElem?_append_left (by rw [h.1]; exact hi)] at h2
    exact h.2 i e' v' h1 h2
  · subst hi
    rw [← h.1] at h2
    simp at h1 h2; subst h1; subst h2; exact he
  · rw [List.getElem?_eq_none (by simp; omega)] at h1; cases h1

theorem VwsOk.set {tbl : List (Ent U)} {vs : List AV} (h : VwsOk tbl vs) {j : Nat} {ej : Ent U} {v : AV} (hj : tbl[j]? = some ej) (hv : VwOk ej v) : VwsOk tbl (setNth (fun _ => v) vs j) := by
  refine ⟨by rw [setNth_length]; exact h.1, fun i e' v' h1 h2 => ?_⟩
  rw [setNth_get] at h2
  split at h2
  · rename_i e; subst e
    rw [hj] at h1; cases h1
    have hlt : i < vs.length := by rw [h.1]; exact (List.getElem?_eq_some_iff.1 hj).1
    rw [List.getElem?_eq_getElem hlt] at h2; simp at h2; subst h2; exact hv
  · exact h.2 i e' v' h1 h2
end AE
