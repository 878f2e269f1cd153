/- An own symbolic executor for the model's code, and what the functions beneath the law compute, joined out of: Ae20, Ae21, Ae22, Ae23, Ae24, Ae25, Ae26, AeN, Ae27, Ae28. No condition. -/
import Derived.Test.YtlhpkhpgjccbpaaGreatM1
import Derived.Scope
import Derived.RangeFuncRecord
import Derived.RangeFuncLeaves
import Derived.Recover

set_option linter.unusedSimpArgs false
set_option linter.unusedVariables false
set_option maxHeartbeats 0
set_option maxRecDepth 100000
namespace AE
open Go

variable {U : Uni}

def av0 (e : Ent U) : AV := e.k.av

def GuardYes (pre : List (Ent U)) (e : Ent U) (o : Oper) : Prop :=
  o.guard = none ∨ ∃ j want ej rj, o.guard = some (j, want) ∧ Nat.testBit e.mask j = true ∧ pre[j]? = some ej ∧ ej.k = .done rj ∧ ej.dst ≠ none ∧ (∀ (k : Nat) (ek : Ent U), pre[k]? = some ek → k ≠ j → ek.dst ≠ ej.dst) ∧ ∀ π y, Rep π rj.val y → y = .bool want
def GuardNo (pre : List (Ent U)) (e : Ent U) (o : Oper) : Prop :=
  ∃ j want ej, o.guard = some (j, want) ∧ Nat.testBit e.mask j = true ∧ pre[j]? = some ej ∧ ej.dst ≠ none ∧ (∀ (k : Nat) (ek : Ent U), pre[k]? = some ek → k ≠ j → ek.dst ≠ ej.dst) ∧ (ej.k = .skip ∨ ∃ rj, ej.k = .done rj ∧ ∀ π y, Rep π rj.val y → y = .bool (!want))

def RhoOk (fr0 : Fr) (pre : List (Ent U)) (e : Ent U) (ρ : Operand → AV) (o : Oper) : Prop :=
  ∀ (π : Plc) (a : Act), (∀ t, t ∈ e.rd → Rep π ((foldF av0 (Nat.testBit e.mask) pre 0 fr0).get t) (a.tmps.getD t undef)) → ∀ x, Rep π (ρ x) (a.eval x)

def HOk (H0 : Heap U) (pre : List (Ent U)) (e : Ent U) : Prop :=
  ∀ (id : Nat) (x : AB U), e.H[id]? = some x → x ≠ .none → (foldH (Nat.testBit e.mask) pre 0 H0)[id]? = some x ∧ ∀ (j : Nat) (ej : Ent U), pre[j]? = some ej → Nat.testBit e.mask j = false → id ∉ ej.k.mods

structure EntOk (P : Program) (nt : Nat) (all : List Oper) (fr0 : Fr) (H0 : Heap U) (pre : List (Ent U)) (o : Oper) (e : Ent U) : Prop where
  dst : e.dst = o.dst
  nt : dstOk nt o.dst = true
  rd : ∀ t, .tmp t ∈ o.op.operands.toList → t ∈ e.rd
  gd : ∀ j want oj d, o.guard = some (j, want) → all[j]? = some oj → oj.dst = some d → d ∈ e.rd
  dep : ∀ ed ∈ o.after.toList, Region.binds .any ed = true → ed.on < pre.length ∧ Nat.testBit e.mask ed.on = true
  lt : ∀ k, Nat.testBit e.mask k = true → k < pre.length
  org : ∀ k, Nat.testBit e.mask k = true → ∃ ed ∈ o.after.toList, Region.binds .any ed = true ∧ (ed.on = k ∨ ∃ ek : Ent U, pre[ed.on]? = some ek ∧ Nat.testBit ek.mask k = true)
  clo : ∀ (k : Nat) (ek : Ent U), Nat.testBit e.mask k = true → pre[k]? = some ek → ∀ j, Nat.testBit ek.mask j = true → Nat.testBit e.mask j = true
  apart : ∀ (k : Nat) (ek : Ent U), pre[k]? = some ek → Nat.testBit e.mask k = false → apartE e.dst e.rd ek = true
  base : e.base = H0.length + newSum pre
  kind : match e.k with
    | .dead => ∃ (k : Nat) (ek : Ent U), Nat.testBit e.mask k = true ∧ pre[k]? = some ek ∧ ek.k.bad = true
    | .skip => GuardNo pre e o ∧ ∀ (k : Nat) (ek : Ent U), Nat.testBit e.mask k = true → pre[k]? = some ek → ek.k.bad = false
    | .done r => GuardYes pre e o ∧ (∀ (k : Nat) (ek : Ent U), Nat.testBit e.mask k = true → pre[k]? = some ek → ek.k.bad = false) ∧ HOk H0 pre e ∧ (∃ ρ, RhoOk fr0 pre e ρ o ∧ OpOk P o ρ e.H e.base (.val r)) ∧ (∀ (j : Nat) (ej : Ent U), pre[j]? = some ej → Nat.testBit e.mask j = false → ∀ id ∈ e.k.mods, ∀ x, ej.H[id]? = some x → x = .none) ∧ (∀ id ∈ e.k.mods, ∃ x, e.H[id]? = some x ∧ x ≠ .none)
    | .panic x => GuardYes pre e o ∧ (∀ (k : Nat) (ek : Ent U), Nat.testBit e.mask k = true → pre[k]? = some ek → ek.k.bad = false) ∧ HOk H0 pre e ∧ (∃ ρ, RhoOk fr0 pre e ρ o ∧ OpOk P o ρ e.H e.base (.panic x))

def TblOk (P : Program) (nt : Nat) (all : List Oper) (fr0 : Fr) (H0 : Heap U) (tbl : List (Ent U)) : Prop :=
  ∀ (i : Nat) (e : Ent U), tbl[i]? = some e → ∃ o, all[i]? = some o ∧ EntOk P nt all fr0 H0 (tbl.take i) o e

def VwOk (e : Ent U) (v : AV) : Prop := (∀ r, e.k = .done r → ∀ π y, Rep π r.val y → Rep π v y) ∧ (e.k = .skip → v = .v undef) ∧ (e.k.bad = true → v = .junk)
def VwsOk (tbl : List (Ent U)) (vs : List AV) : Prop := vs.length = tbl.length ∧ ∀ (i : Nat) (e : Ent U) (v : AV), tbl[i]? = some e → vs[i]? = some v → VwOk e v

theorem depMask_ok {tbl : List (Ent U)} : ∀ {es : List Edge} {m0 m : Nat}, depMask tbl es m0 = some m → (∀ k, Nat.testBit m0 k = true → k < tbl.length) → (∀ (k : Nat) (ek : Ent U), tbl[k]? = some ek → ∀ j, Nat.testBit ek.mask j = true → j < k) →
    (∀ (k : Nat) (ek : Ent U), Nat.testBit m0 k = true → tbl[k]? = some ek → ∀ j, Nat.testBit ek.mask j = true → Nat.testBit m0 j = true) →
    (∀ (k : Nat) (ek : Ent U), tbl[k]? = some ek → ∀ (l : Nat) (el : Ent U), Nat.testBit ek.mask l = true → tbl[l]? = some el → ∀ j, Nat.testBit el.mask j = true → Nat.testBit ek.mask j = true) →
    (∀ k, Nat.testBit m0 k = true → Nat.testBit m k = true) ∧ (∀ ed ∈ es, Region.binds .any ed = true → ed.on < tbl.length ∧ Nat.testBit m ed.on = true) ∧ (∀ k, Nat.testBit m k = true → k < tbl.length) ∧
      (∀ (k : Nat) (ek : Ent U), Nat.testBit m k = true → tbl[k]? = some ek → ∀ j, Nat.testBit ek.mask j = true → Nat.testBit m j = true) ∧
      (∀ k, Nat.testBit m k = true → Nat.testBit m0 k = true ∨ ∃ ed ∈ es, Region.binds .any ed = true ∧ (ed.on = k ∨ ∃ ek : Ent U, tbl[ed.on]? = some ek ∧ Nat.testBit ek.mask k = true))
  | [], m0, m, h, h1, h2, h3, h4 => by
    simp [depMask] at h; subst h
    exact ⟨fun _ h => h, by simp, h1, h3, fun k hk => .inl hk⟩
  | e :: es, m0, m, h, h1, h2, h3, h4 => by
    unfold depMask at h
    split at h
    · rename_i hb
      obtain ⟨a, b, c, d, f⟩ := depMask_ok h h1 h2 h3 h4
      refine ⟨a, fun ed hed hbd => ?_, c, d, fun k hk => (f k hk).imp (fun h => h) (fun ⟨ed, h1, h2⟩ => ⟨ed, by simp [h1], h2⟩)⟩
      simp at hed
      rcases hed with rfl | hed
      · rw [hb] at hbd; cases hbd
      · exact b ed hed hbd
    · rename_i hb
      split at h
      case h_2 => cases h
      rename_i x hx
      rw [nth_eq] at hx
      have hlt : e.on < tbl.length := (List.getElem?_eq_some_iff.1 hx).1
      have tb : ∀ k, Nat.testBit (m0 ||| x.mask ||| (1 <<< e.on)) k = (Nat.testBit m0 k || Nat.testBit x.mask k || decide (k = e.on)) := by
        intro k
        simp only [Nat.testBit_or, Nat.shiftLeft_eq, Nat.one_mul, Nat.testBit_two_pow]
        congr 1
        exact decide_eq_decide.2 ⟨fun h => h.symm, fun h => h.symm⟩
      obtain ⟨a, b, c, d, f⟩ := depMask_ok h (fun k hk => by
          rw [tb] at hk; simp only [Bool.or_eq_true, decide_eq_true_eq] at hk
          rcases hk with (hk | hk) | hk
          · exact h1 k hk
          · exact Nat.lt_trans (h2 _ _ hx k hk) hlt
          · omega) h2 (fun k ek hk hek j hj => by
          rw [tb] at hk ⊢; simp only [Bool.or_eq_true, decide_eq_true_eq] at hk ⊢
          rcases hk with (hk | hk) | hk
          · exact .inl (.inl (h3 k ek hk hek j hj))
          · exact .inl (.inr (h4 _ _ hx k ek hk hek j hj))
          · subst hk; rw [hx] at hek; cases hek; exact .inl (.inr hj)) h4
      refine ⟨fun k hk => a k (by rw [tb, hk]; rfl), fun ed hed hbd => ?_, c, d, fun k hk => ?_⟩
      case refine_2 =>
        rcases f k hk with h | ⟨ed, h1, h2⟩
        · rw [tb] at h; simp only [Bool.or_eq_true, decide_eq_true_eq] at h
          rcases h with (h | h) | h
          · exact .inl h
          · exact .inr ⟨e, by simp, hb, .inr ⟨x, hx, h⟩⟩
          · exact .inr ⟨e, by simp, hb, .inl h.symm⟩
        · exact .inr ⟨ed, by simp [h1], h2⟩
      simp at hed
      rcases hed with rfl | hed
      · exact ⟨hlt, a _ (by rw [tb]; simp)⟩
      · exact b ed hed hbd

theorem TblOk.masks {P : Program} {nt : Nat} {all : List Oper} {fr0 : Fr} {H0 : Heap U} {tbl : List (Ent U)} (h : TblOk P nt all fr0 H0 tbl) :
    (∀ (k : Nat) (ek : Ent U), tbl[k]? = some ek → ∀ j, Nat.testBit ek.mask j = true → j < k) ∧
    (∀ (k : Nat) (ek : Ent U), tbl[k]? = some ek → ∀ (l : Nat) (el : Ent U), Nat.testBit ek.mask l = true → tbl[l]? = some el → ∀ j, Nat.testBit el.mask j = true → Nat.testBit ek.mask j = true) := by
  constructor
  · intro k ek hk j hj
    obtain ⟨o, _, he⟩ := h k ek hk
    have := he.lt j hj
    have hkl : k < tbl.length := (List.getElem?_eq_some_iff.1 hk).1
    simp at this; omega
  · intro k ek hk l el hl hel j hj
    obtain ⟨o, _, he⟩ := h k ek hk
    have hlk := he.lt l hl
    simp at hlk
    exact he.clo l el hl (by rw [List.getElem?_take, if_pos (by omega)]; exact hel) j hj

theorem anyBad_false {m : Nat} : ∀ {i : Nat} {l : List (Ent U)}, anyBad m i l = false → ∀ {j : Nat} {x : Ent U}, l[j]? = some x → Nat.testBit m (i + j) = true → x.k.bad = false
  | i, [], _, j, x, h, _ => by simp at h
  | i, y :: l, h, j, x, hj, hm => by
    simp only [anyBad, Bool.or_eq_false_iff, Bool.and_eq_false_iff] at h
    cases j with
    | zero =>
      simp at hj; subst hj
      rcases h.1 with h1 | h1
      · simp at hm; rw [h1] at hm; cases hm
      · exact h1
    | succ j => exact anyBad_false h.2 (j := j) (by simpa using hj) (by rw [show i + 1 + j = i + (j + 1) by omega]; exact hm)
theorem anyBad_true {m : Nat} : ∀ {i : Nat} {l : List (Ent U)}, anyBad m i l = true → ∃ j x, l[j]? = some x ∧ Nat.testBit m (i + j) = true ∧ x.k.bad = true
  | i, [], h => by simp [anyBad] at h
  | i, y :: l, h => by
    simp only [anyBad, Bool.or_eq_true, Bool.and_eq_true] at h
    rcases h with h | h
    · exact ⟨0, y, by simp, by simpa using h.1, h.2⟩
    · obtain ⟨j, x, h1, h2, h3⟩ := anyBad_true h
      exact ⟨j + 1, x, by simpa using h1, by rw [show i + (j + 1) = i + 1 + j by omega]; exact h2, h3⟩

theorem modsOff_mem {m : Nat} : ∀ {i : Nat} {l : List (Ent U)} {j : Nat} {x : Ent U}, l[j]? = some x → Nat.testBit m (i + j) = false → ∀ id ∈ x.k.mods, id ∈ modsOff m i l
  | i, [], j, x, h, _, _, _ => by simp at h
  | i, y :: l, j, x, hj, hm, id, hid => by
    unfold modsOff
    cases j with
    | zero =>
      simp at hj; subst hj
      simp only [Nat.add_zero] at hm
      rw [hm]; simp [hid]
    | succ j =>
      have := modsOff_mem (m := m) (i := i + 1) (l := l) (j := j) (x := x) (by simpa using hj) (by rw [show i + 1 + j = i + (j + 1) by omega]; exact hm) id hid
      split
      · exact this
      · simp [this]

theorem killAll_get : ∀ {l : List Nat} {H : Heap U} {i : Nat} {x : AB U}, (killAll l H)[i]? = some x → x ≠ .none → i ∉ l ∧ H[i]? = some x
  | [], H, i, x, h, _ => ⟨by simp, h⟩
  | id :: l, H, i, x, h, hx => by
    obtain ⟨h1, h2⟩ := killAll_get (l := l) (H := H.kill id) h hx
    unfold Heap.kill at h2
    rw [setNth_get] at h2
    split at h2
    · cases hh : H[i]? with
      | none => simp [hh] at h2
      | some y => simp [hh] at h2; exact absurd h2.symm hx
    · rename_i hne; exact ⟨by simp [hne, h1], h2⟩

theorem foldV_rep {m : Nat → Bool} {π : Plc} {t : Nat} {y : Value} : ∀ {tbl : List (Ent U)} {vs : List AV} {i : Nat} {fr fr' : Fr}, VwsOk tbl vs →
    (Rep π (fr.get t) y → Rep π (fr'.get t) y) → Rep π ((foldF av0 m tbl i fr).get t) y → Rep π ((foldV m tbl vs i fr').get t) y
  | [], [], i, fr, fr', _, h, hr => h hr
  | [], v :: vs, i, fr, fr', hv, h, hr => by have := hv.1; simp at this
  | e :: tbl, [], i, fr, fr', hv, h, hr => by have := hv.1; simp at this
  | e :: tbl, v :: vs, i, fr, fr', hv, h, hr => by
    unfold foldF at hr
    unfold foldV
    have hev := hv.2 0 e v (by simp) (by simp)
    have he : ∀ z, Rep π (av0 e) z → Rep π v z := by
      intro z hz
      unfold av0 EK.av at hz
      split at hz
      · rename_i r hk; exact hev.1 r hk π z hz
      · rename_i hk; rw [hev.2.1 hk]; exact hz
      · rename_i h1 h2
        have hb : e.k.bad = true := by cases hk : e.k <;> simp_all [EK.bad]
        rw [hev.2.2 hb]; simp [Rep]
    refine foldV_rep ⟨by simpa using hv.1, fun i e' v' he' hv' => hv.2 (i + 1) e' v' (by simpa using he') (by simpa using hv')⟩ ?_ hr
    cases hm : m i with
    | false => exact h
    | true =>
      intro hr'
      cases hd : e.dst with
      | none => simp only [hm, hd, Fr.put] at hr' ⊢; exact h hr'
      | some d =>
        simp only [hm, hd, Fr.put, Fr.get_cons] at hr' ⊢
        split
        · rename_i e'; rw [if_pos e'] at hr'; exact he y hr'
        · rename_i e'; rw [if_neg e'] at hr'; exact h hr'

theorem rhoR_ok {fr0 : Fr} {pre : List (Ent U)} {vs : List AV} {e : Ent U} {o : Oper} {l : List Nat} (hv : VwsOk pre vs) (hsub : ∀ t ∈ l, t ∈ e.rd) : RhoOk fr0 pre e (rhoR l (foldV (Nat.testBit e.mask) pre vs 0 fr0)) o := by
  intro π a h x
  cases x with
  | tmp t =>
    unfold rhoR
    simp only
    split
    · rename_i ht
      exact foldV_rep hv (fun h => h) (h t (hsub t (memN_iff.1 ht)))
    · simp [Rep]
  | const v => exact constAV_rep π v
  | func f => simp only [rhoR, Act.eval, Rep]; exact ⟨#[], #[], rfl, RepL.nil π, RepL.nil π⟩
  | global g => simp [rhoR, Rep]

theorem opReads_mem {o : Oper} {t : Nat} (h : .tmp t ∈ o.op.operands.toList) : t ∈ opReads o := by
  unfold opReads
  exact List.mem_filterMap.2 ⟨_, h, rfl⟩

theorem TblOk.snoc {P : Program} {nt : Nat} {all : List Oper} {fr0 : Fr} {H0 : Heap U} {tbl : List (Ent U)} (h : TblOk P nt all fr0 H0 tbl) {o : Oper} (ho : all[tbl.length]? = some o) {e : Ent U} (he : EntOk P nt all fr0 H0 tbl o e) :
    TblOk P nt all fr0 H0 (tbl ++ [e]) := by
  intro i x hx
  rcases Nat.lt_trichotomy i tbl.length with hi | hi | hi
  · rw [List.getElem?_append_left hi] at hx
    obtain ⟨o', ho', hx'⟩ := h i x hx
    exact ⟨o', ho', by rw [List.take_append_of_le_length (by omega)]; exact hx'⟩
  · subst hi
    simp at hx; subst hx
    exact ⟨o, ho, by simpa using he⟩
  · rw [List.getElem?_eq_none (by simp; omega)] at hx; cases hx

theorem VwsOk.snoc {tbl : List (Ent U)} {vs : List AV} (h : VwsOk tbl vs) {e : Ent U} {v : AV} (he : VwOk e v) : VwsOk (tbl ++ [e]) (vs ++ [v]) := by
  refine ⟨by simp [h.1], fun i e' v' h1 h2 => ?_⟩
  rcases Nat.lt_trichotomy i tbl.length with hi | hi | hi
  · rw [List.getElem?_append_left hi] at h1
    rw [List.getElem?_append_left (by rw [h.1]; exact hi)] at h2
    exact h.2 i e' v' h1 h2
  · subst hi
    rw [← h.1] at h2
    simp at h1 h2; subst h1; subst h2; exact he
  · rw [List.getElem?_eq_none (by simp; omega)] at h1; cases h1

theorem VwsOk.set {tbl : List (Ent U)} {vs : List AV} (h : VwsOk tbl vs) {j : Nat} {ej : Ent U} {v : AV} (hj : tbl[j]? = some ej) (hv : VwOk ej v) : VwsOk tbl (setNth (fun _ => v) vs j) := by
  refine ⟨by rw [setNth_length]; exact h.1, fun i e' v' h1 h2 => ?_⟩
  rw [setNth_get] at h2
  split at h2
  · rename_i e; subst e
    rw [hj] at h1; cases h1
    have hlt : i < vs.length := by rw [h.1]; exact (List.getElem?_eq_some_iff.1 hj).1
    rw [List.getElem?_eq_getElem hlt] at h2; simp at h2; subst h2; exact hv
  · exact h.2 i e' v' h1 h2
end AE

namespace AE
open Go

variable {U : Uni}

def DrawEnd (E : Env U) (all : List Oper) (fr0 : Fr) (H0 : Heap U) (K : Fr → Heap U → Prop) (KP : AV → Fr → Heap U → Prop) : Prop :=
  ∃ tbl vs, tbl.length = all.length ∧ TblOk E.P E.nt all fr0 H0 tbl ∧ VwsOk tbl vs ∧
    (((∀ e ∈ tbl, e.k.bad = false) ∧ K (foldV (fun _ => true) tbl vs 0 fr0) (foldH (fun _ => true) tbl 0 H0)) ∨
     (∃ x, (∃ e ∈ tbl, e.k = .panic x) ∧ (∀ e ∈ tbl, ∀ y, e.k = .panic y → y = x) ∧ KP x (jkT tbl fr0) (killAll (allMods tbl) H0 ++ nones U (newSum tbl))))

def PanOk (tbl : List (Ent U)) : Option AV → Prop
  | none => ∀ e ∈ tbl, e.k.bad = false
  | some x => (∃ e ∈ tbl, e.k = .panic x) ∧ ∀ e ∈ tbl, ∀ y, e.k = .panic y → y = x

theorem PanOk.snoc {tbl : List (Ent U)} {pan : Option AV} (h : PanOk tbl pan) {e : Ent U} (he : pan = none → e.k.bad = false) (hp : ∀ y, e.k = .panic y → pan = some y) : PanOk (tbl ++ [e]) pan := by
  cases pan with
  | none =>
    intro e' he'
    simp at he'
    rcases he' with he' | rfl
    · exact h e' he'
    · exact he rfl
  | some x =>
    obtain ⟨⟨e0, h0, hk⟩, h2⟩ := h
    refine ⟨⟨e0, by simp [h0], hk⟩, fun e' he' y hy => ?_⟩
    simp at he'
    rcases he' with he' | rfl
    · exact h2 e' he' y hy
    · have := hp y hy; simpa using this.symm

theorem bad_panic {tbl : List (Ent U)} {pan : Option AV} (h : PanOk tbl pan) {e : Ent U} (he : e ∈ tbl) (hb : e.k.bad = true) : pan ≠ none := by
  intro hn; subst hn
  have := h e he; rw [this] at hb; cases hb

theorem drawGo_ok {E : Env U} (hT : E.T.Sound E.P) {all : List Oper} {hs : List Nat} {fr0 : Fr} {H0 : Heap U} {K : Fr → Heap U → Prop} {KP : AV → Fr → Heap U → Prop} : ∀ (os : List Oper) (tbl : List (Ent U)) (vs : List AV) (pan : Option AV),
    all.drop tbl.length = os → tbl.length ≤ all.length → TblOk E.P E.nt all fr0 H0 tbl → VwsOk tbl vs → PanOk tbl pan → drawGo E all hs fr0 H0 os tbl vs pan K KP → DrawEnd E all fr0 H0 K KP
  | [], tbl, vs, pan, hd, hl, ht, hv, hp, h => by
    have hlen : tbl.length = all.length := by
      have := congrArg List.length hd
      simp at this; omega
    cases pan with
    | none => exact ⟨tbl, vs, hlen, ht, hv, .inl ⟨hp, by simpa [drawGo] using h⟩⟩
    | some x => exact ⟨tbl, vs, hlen, ht, hv, .inr ⟨x, hp.1, hp.2, by simpa [drawGo] using h⟩⟩
  | o :: os, tbl, vs, pan, hd, hl, ht, hv, hp, h => by
    have hlt : tbl.length < all.length := by
      rcases Nat.lt_or_ge tbl.length all.length with h | h
      · exact h
      · rw [List.drop_eq_nil_of_le h] at hd; cases hd
    have ho : all[tbl.length]? = some o := by
      have : (all.drop tbl.length)[0]? = some o := by rw [hd]; rfl
      rw [List.getElem?_drop] at this; simpa using this
    have hd' : all.drop (tbl.length + 1) = os := by
      rw [← List.drop_drop, hd]; rfl
    unfold drawGo at h
    split at h
    case h_1 => exact h.elim
    rename_i m hm
    obtain ⟨hchk, h⟩ := isB_ok h
    simp only [Bool.and_eq_true] at hchk
    obtain ⟨hnt, hap⟩ := hchk
    obtain ⟨_, hdep, hmlt, hmclo, horg⟩ := depMask_ok hm (by simp) ht.masks.1 (by simp) ht.masks.2
    have horg' : ∀ k, Nat.testBit m k = true → ∃ ed ∈ o.after.toList, Region.binds .any ed = true ∧ (ed.on = k ∨ ∃ ek : Ent U, tbl[ed.on]? = some ek ∧ Nat.testBit ek.mask k = true) := fun k hk => (horg k hk).resolve_left (by simp)
    have hap' : ∀ (k : Nat) (ek : Ent U), tbl[k]? = some ek → Nat.testBit m k = false → apartE o.dst (opReads o ++ guardSlot all o) ek = true := by
      intro k ek hk hmk
      have := allFrom_get hap hk
      simp only [Nat.zero_add, hmk, Bool.false_or] at this
      exact this
    have hrd : ∀ t, Operand.tmp t ∈ o.op.operands.toList → t ∈ opReads o ++ guardSlot all o := fun t ht => by simp [opReads_mem ht]
    have hgd : ∀ j want oj d, o.guard = some (j, want) → all[j]? = some oj → oj.dst = some d → d ∈ opReads o ++ guardSlot all o := by
      intro j want oj d hg hj hdj
      simp only [List.mem_append]
      right
      unfold guardSlot
      rw [hg]; simp only [nth_eq, hj, hdj]; simp
    have mk : ∀ (H : Heap U) (k : EK U), (match k with
        | .dead => ∃ (k : Nat) (ek : Ent U), Nat.testBit m k = true ∧ tbl[k]? = some ek ∧ ek.k.bad = true
        | .skip => GuardNo tbl ⟨o.dst, opReads o ++ guardSlot all o, m, H0.length + newSum tbl, H, k⟩ o ∧ ∀ (k : Nat) (ek : Ent U), Nat.testBit m k = true → tbl[k]? = some ek → ek.k.bad = false
        | .done r => GuardYes tbl ⟨o.dst, opReads o ++ guardSlot all o, m, H0.length + newSum tbl, H, k⟩ o ∧ (∀ (k : Nat) (ek : Ent U), Nat.testBit m k = true → tbl[k]? = some ek → ek.k.bad = false) ∧ HOk H0 tbl ⟨o.dst, opReads o ++ guardSlot all o, m, H0.length + newSum tbl, H, k⟩ ∧ (∃ ρ, RhoOk fr0 tbl ⟨o.dst, opReads o ++ guardSlot all o, m, H0.length + newSum tbl, H, k⟩ ρ o ∧ OpOk E.P o ρ H (H0.length + newSum tbl) (.val r)) ∧ (∀ (j : Nat) (ej : Ent U), tbl[j]? = some ej → Nat.testBit m j = false → ∀ id ∈ k.mods, ∀ x, ej.H[id]? = some x → x = .none) ∧ (∀ id ∈ k.mods, ∃ x, H[id]? = some x ∧ x ≠ .none)
        | .panic x => GuardYes tbl ⟨o.dst, opReads o ++ guardSlot all o, m, H0.length + newSum tbl, H, k⟩ o ∧ (∀ (k : Nat) (ek : Ent U), Nat.testBit m k = true → tbl[k]? = some ek → ek.k.bad = false) ∧ HOk H0 tbl ⟨o.dst, opReads o ++ guardSlot all o, m, H0.length + newSum tbl, H, k⟩ ∧ (∃ ρ, RhoOk fr0 tbl ⟨o.dst, opReads o ++ guardSlot all o, m, H0.length + newSum tbl, H, k⟩ ρ o ∧ OpOk E.P o ρ H (H0.length + newSum tbl) (.panic x))) →
        EntOk E.P E.nt all fr0 H0 tbl o ⟨o.dst, opReads o ++ guardSlot all o, m, H0.length + newSum tbl, H, k⟩ := by
      intro H k hk
      exact ⟨rfl, hnt, hrd, hgd, hdep, hmlt, horg', hmclo, hap', rfl, hk⟩
    split at h
    · -- dead
      rename_i hbad
      obtain ⟨j, x, hj, hjm, hjb⟩ := anyBad_true hbad
      rw [Nat.zero_add] at hjm
      refine drawGo_ok hT os _ _ pan (by simpa using hd') (by simp; omega) (ht.snoc ho (mk [] .dead ⟨j, x, hjm, hj, hjb⟩)) (hv.snoc ⟨fun r hr => (by cases hr), fun hr => (by cases hr), fun _ => rfl⟩)
        (hp.snoc (fun hn => absurd hn (bad_panic hp (List.mem_of_getElem? hj) hjb)) (fun y hy => (by cases hy))) h
    · rename_i hbad
      have hnb : ∀ (k : Nat) (ek : Ent U), Nat.testBit m k = true → tbl[k]? = some ek → ek.k.bad = false := fun k ek hk hek => anyBad_false hbad hek (by simpa using hk)
      have skip : ∀ vs', VwsOk tbl vs' → GuardNo tbl ⟨o.dst, opReads o ++ guardSlot all o, m, H0.length + newSum tbl, [], .skip⟩ o →
          drawGo E all hs fr0 H0 os (tbl ++ [⟨o.dst, opReads o ++ guardSlot all o, m, H0.length + newSum tbl, [], .skip⟩]) (vs' ++ [.v undef]) pan K KP → DrawEnd E all fr0 H0 K KP := by
        intro vs' hv' hg h
        exact drawGo_ok hT os _ _ pan (by simpa using hd') (by simp; omega) (ht.snoc ho (mk [] .skip ⟨hg, hnb⟩)) (hv'.snoc ⟨fun r hr => (by cases hr), fun _ => rfl, fun hb => (by cases hb)⟩)
          (hp.snoc (fun _ => rfl) (fun y hy => (by cases hy))) h
      have go : ∀ vs', VwsOk tbl vs' → (∀ H k, GuardYes tbl ⟨o.dst, opReads o ++ guardSlot all o, m, H0.length + newSum tbl, H, k⟩ o) →
          (opA E.P E.T o (rhoR (opReads o) (foldV (Nat.testBit m) tbl vs' 0 fr0)) (match heapFree o.op with
            | true => []
            | false => killAll (modsOff m 0 tbl ++ hsFor o.op hs ++ hintsO all fr0 tbl.length o os) (foldH (Nat.testBit m) tbl 0 H0)) (H0.length + newSum tbl) fun
            | .val r => isB (allFrom (modsFree m (EK.done r).mods) 0 tbl && liveAll (match heapFree o.op with
                  | true => []
                  | false => killAll (modsOff m 0 tbl ++ hsFor o.op hs ++ hintsO all fr0 tbl.length o os) (foldH (Nat.testBit m) tbl 0 H0)) (EK.done r).mods)
                (drawGo E all hs fr0 H0 os (tbl ++ [⟨o.dst, opReads o ++ guardSlot all o, m, H0.length + newSum tbl, (match heapFree o.op with
                  | true => []
                  | false => killAll (modsOff m 0 tbl ++ hsFor o.op hs ++ hintsO all fr0 tbl.length o os) (foldH (Nat.testBit m) tbl 0 H0)), .done r⟩]) (vs' ++ [r.val]) pan K KP)
            | .panic x => match pan with
              | none => drawGo E all hs fr0 H0 os (tbl ++ [⟨o.dst, opReads o ++ guardSlot all o, m, H0.length + newSum tbl, (match heapFree o.op with
                  | true => []
                  | false => killAll (modsOff m 0 tbl ++ hsFor o.op hs ++ hintsO all fr0 tbl.length o os) (foldH (Nat.testBit m) tbl 0 H0)), .panic x⟩]) (vs' ++ [.junk]) (some x) K KP
              | some _ => False) → DrawEnd E all fr0 H0 K KP := by
        intro vs' hv' hg h
        generalize hHi : (match heapFree o.op with
            | true => ([] : Heap U)
            | false => killAll (modsOff m 0 tbl ++ hsFor o.op hs ++ hintsO all fr0 tbl.length o os) (foldH (Nat.testBit m) tbl 0 H0)) = Hi at h
        have hHok : ∀ k, HOk H0 tbl ⟨o.dst, opReads o ++ guardSlot all o, m, H0.length + newSum tbl, Hi, k⟩ := by
          intro kk id x hx hne
          simp only at hx
          rw [← hHi] at hx
          split at hx
          · simp at hx
          · obtain ⟨h1, h2⟩ := killAll_get hx hne
            refine ⟨h2, fun j ej hj hmj hid => h1 ?_⟩
            simp only [List.mem_append]
            exact .inl (.inl (modsOff_mem hj (by simpa using hmj) id hid))
        have hrho : ∀ k, RhoOk fr0 tbl ⟨o.dst, opReads o ++ guardSlot all o, m, H0.length + newSum tbl, Hi, k⟩ (rhoR (opReads o) (foldV (Nat.testBit m) tbl vs' 0 fr0)) o := fun k => rhoR_ok hv' (fun t ht => by simp [ht])
        obtain ⟨out, hK, hop⟩ := opA_ok hT h
        cases out with
        | val r =>
          obtain ⟨hmf0, hK⟩ := isB_ok hK
          simp only [Bool.and_eq_true] at hmf0
          obtain ⟨hmf, hlv⟩ := hmf0
          refine drawGo_ok hT os _ _ pan (by simpa using hd') (by simp; omega) (ht.snoc ho (mk Hi (.done r) ⟨hg _ _, hnb, hHok _, ⟨_, hrho _, hop⟩, ?_, ?_⟩)) (hv'.snoc ⟨fun r' hr => (by cases hr; exact fun _ _ h => h), fun hr => (by cases hr), fun hb => (by cases hb)⟩)
            (hp.snoc (fun _ => rfl) (fun y hy => (by cases hy))) hK
          · intro j ej hj hmj id hid x hx
            have := allFrom_get hmf hj
            simp only [modsFree, Nat.zero_add, hmj, Bool.false_or, List.all_eq_true] at this
            have hh := this id hid
            rw [nth_eq, hx] at hh
            cases x with
            | none => rfl
            | one b => simp at hh
            | fam n f => simp at hh
          · intro id hid
            have := List.all_eq_true.1 hlv id hid
            rw [nth_eq] at this
            cases hx : Hi[id]? with
            | none => rw [hx] at this; cases this
            | some x =>
              rw [hx] at this
              refine ⟨x, rfl, ?_⟩
              intro e; subst e; cases this
        | panic x =>
          cases pan with
          | some _ => exact hK.elim
          | none =>
            refine drawGo_ok hT os _ _ (some x) (by simpa using hd') (by simp; omega) (ht.snoc ho (mk Hi (.panic x) ⟨hg _ _, hnb, hHok _, ⟨_, hrho _, hop⟩⟩)) (hv'.snoc ⟨fun r' hr => (by cases hr), fun hr => (by cases hr), fun _ => rfl⟩) ?_ hK
            refine ⟨⟨_, List.mem_append_right tbl (List.mem_singleton.2 rfl), rfl⟩, fun e he y hy => ?_⟩
            simp only [List.mem_append, List.mem_singleton] at he
            rcases he with he | rfl
            · have := hp e he; rw [hy] at this; cases this
            · simp at hy; exact hy.symm
      change (match o.guard with
        | none => _
        | some (j, want) => _ : Prop) at h
      cases hg : o.guard with
      | none =>
        rw [hg] at h
        exact go vs hv (fun _ _ => .inl hg) h
      | some jw =>
        obtain ⟨j, want⟩ := jw
        rw [hg] at h
        obtain ⟨hmj0, h⟩ := isB_ok h
        simp only [Bool.and_eq_true] at hmj0
        obtain ⟨hmj, huq⟩ := hmj0
        cases hej : nth tbl j with
        | none => rw [hej] at h; exact h.elim
        | some ej =>
        cases hvj : nth vs j with
        | none => rw [hej, hvj] at h; exact h.elim
        | some vj =>
        rw [hej, hvj] at h
        rw [hej] at huq
        rw [nth_eq] at hej hvj
        have huniq : ∀ (k : Nat) (ek : Ent U), tbl[k]? = some ek → k ≠ j → ek.dst ≠ ej.dst := by
          intro k ek hk hkj e
          cases hdj : ej.dst with
          | none => simp only [hdj] at huq; cases huq
          | some d =>
            simp only [hdj] at huq
            have := allFrom_get huq hk
            simp only [uniqB, Nat.zero_add, Bool.or_eq_true] at this
            rcases this with h1 | h1
            · exact hkj (Nat.eq_of_beq_eq_true h1)
            · rw [e, hdj] at h1; simp at h1
        have hvw := hv.2 j ej vj hej hvj
        have yes : ∀ rj, ej.k = .done rj → ej.dst ≠ none → (∀ π y, Rep π rj.val y → y = .bool want) → ∀ H k, GuardYes tbl ⟨o.dst, opReads o ++ guardSlot all o, m, H0.length + newSum tbl, H, k⟩ o :=
          fun rj hk hdn hr H k => .inr ⟨j, want, ej, rj, hg, hmj, hej, hk, hdn, huniq, hr⟩
        have no : ∀ rj, ej.k = .done rj → ej.dst ≠ none → (∀ π y, Rep π rj.val y → y = .bool (!want)) → GuardNo tbl ⟨o.dst, opReads o ++ guardSlot all o, m, H0.length + newSum tbl, [], .skip⟩ o :=
          fun rj hk hdn hr => ⟨j, want, ej, hg, hmj, hej, hdn, huniq, .inr ⟨rj, hk, hr⟩⟩
        cases hdj : ej.dst with
        | none => simp only [hdj] at h
        | some d =>
        cases hk : ej.k with
        | panic x => simp only [hdj, hk] at h
        | dead => simp only [hdj, hk] at h
        | skip =>
          simp only [hdj, hk] at h
          exact skip vs hv ⟨j, want, ej, hg, hmj, hej, by rw [hdj]; simp, huniq, .inl hk⟩ h
        | done rj =>
          simp only [hdj, hk] at h
          have nb : ej.k.bad = false := by rw [hk]; rfl
          cases vj with
          | tt =>
            have hb : ∀ π y, Rep π rj.val y → y = .bool true := fun π y hy => by have := hvw.1 rj hk π y hy; simpa [Rep] using this
            cases want with
            | true => exact go vs hv (yes rj hk (by rw [hdj]; simp) hb) h
            | false => exact skip vs hv (no rj hk (by rw [hdj]; simp) hb) h
          | ff =>
            have hb : ∀ π y, Rep π rj.val y → y = .bool false := fun π y hy => by have := hvw.1 rj hk π y hy; simpa [Rep] using this
            cases want with
            | true => exact skip vs hv (no rj hk (by rw [hdj]; simp) hb) h
            | false => exact go vs hv (yes rj hk (by rw [hdj]; simp) hb) h
          | v z =>
            cases z with
            | bool b =>
              have hb : ∀ π y, Rep π rj.val y → y = .bool b := fun π y hy => by have := hvw.1 rj hk π y hy; simpa [Rep] using this
              have set : ∀ c : AV, (∀ π y, y = .bool b → Rep π c y) → VwsOk tbl (setNth (fun _ => c) vs j) := fun c hc =>
                hv.set hej (by
                  refine ⟨fun r hr π y hy => ?_, fun hr => ?_, fun hr => ?_⟩
                  · rw [hk] at hr; cases hr; exact hc π y (hb π y hy)
                  · rw [hk] at hr; cases hr
                  · rw [nb] at hr; cases hr)
              cases want with
              | true =>
                cases b with
                | true => exact go _ (set .tt (fun π y e => by simp [Rep, e])) (yes rj hk (by rw [hdj]; simp) hb) (h.1 rfl)
                | false => exact skip _ (set .ff (fun π y e => by simp [Rep, e])) (no rj hk (by rw [hdj]; simp) hb) (h.2 rfl)
              | false =>
                cases b with
                | true => exact skip _ (set .tt (fun π y e => by simp [Rep, e])) (no rj hk (by rw [hdj]; simp) hb) (h.1 rfl)
                | false => exact go _ (set .ff (fun π y e => by simp [Rep, e])) (yes rj hk (by rw [hdj]; simp) hb) (h.2 rfl)
            | _ => exact h.elim
          | _ => exact h.elim
end AE

namespace AE
open Go

variable {U : Uni}

theorem upds_congr : ∀ (l : List (Nat × Nat × AB1 U)) {H H' : Heap U} {i : Nat}, H[i]? = H'[i]? → (H.upds l)[i]? = (H'.upds l)[i]?
  | [], H, H', i, h => h
  | (id, k, b) :: l, H, H', i, h => by
    refine upds_congr l (H := H.set id k b) (H' := H'.set id k b) ?_
    unfold Heap.set; rw [setNth_get, setNth_get]; split <;> rw [h]
theorem upds_other : ∀ (l : List (Nat × Nat × AB1 U)) {H : Heap U} {i : Nat}, i ∉ l.map (·.1) → (H.upds l)[i]? = H[i]?
  | [], H, i, _ => rfl
  | (id, k, b) :: l, H, i, h => by
    simp at h
    rw [Heap.upds, upds_other l (by simpa using h.2)]
    unfold Heap.set; rw [setNth_get, if_neg h.1]
theorem kills_congr : ∀ (l : List (Nat × Nat)) {H H' : Heap U} {i : Nat}, H[i]? = H'[i]? → (H.kills l)[i]? = (H'.kills l)[i]?
  | [], H, H', i, h => h
  | (id, k) :: l, H, H', i, h => by
    refine kills_congr l (H := H.kill id) (H' := H'.kill id) ?_
    unfold Heap.kill; rw [setNth_get, setNth_get]; split <;> rw [h]
theorem kills_other : ∀ (l : List (Nat × Nat)) {H : Heap U} {i : Nat}, i ∉ l.map (·.1) → (H.kills l)[i]? = H[i]?
  | [], H, i, _ => rfl
  | (id, k) :: l, H, i, h => by
    simp at h
    rw [Heap.kills, kills_other l (by simpa using h.2)]
    unfold Heap.kill; rw [setNth_get, if_neg h.1]

theorem app_congr {H H' : Heap U} {r : ORes U} {i : Nat} (hl : H.length = H'.length) (h : H[i]? = H'[i]?) : (H.app r)[i]? = (H'.app r)[i]? := by
  unfold Heap.app
  have h1 : ((H.kills r.kill).upds r.upd).length = H.length := by rw [Heap.upds_length, Heap.kills_length]
  have h2 : ((H'.kills r.kill).upds r.upd).length = H'.length := by rw [Heap.upds_length, Heap.kills_length]
  by_cases hi : i < H.length
  · rw [List.getElem?_append_left (by omega), List.getElem?_append_left (by omega)]
    exact upds_congr _ (kills_congr _ h)
  · rw [List.getElem?_append_right (by omega), List.getElem?_append_right (by omega), h1, h2, hl]
theorem app_other {H : Heap U} {r : ORes U} {i : Nat} (hi : i < H.length) (h : i ∉ (EK.done r).mods) : (H.app r)[i]? = H[i]? := by
  unfold Heap.app
  simp only [EK.mods, List.mem_append, not_or] at h
  rw [List.getElem?_append_left (by rw [Heap.upds_length, Heap.kills_length]; exact hi), upds_other _ h.1, kills_other _ h.2]
theorem nones_length : ∀ n, (nones U n).length = n
  | 0 => rfl
  | n + 1 => by simp [nones, nones_length n]
theorem nones_get : ∀ (n i : Nat) (x : AB U), (nones U n)[i]? = some x → x = .none
  | 0, i, x, h => by simp [nones] at h
  | n + 1, 0, x, h => by simp [nones] at h; exact h.symm
  | n + 1, i + 1, x, h => by simp [nones] at h; exact nones_get n i x h

theorem foldH_length {m : Nat → Bool} : ∀ {tbl : List (Ent U)} {i : Nat} {H : Heap U}, (foldH m tbl i H).length = H.length + newSum tbl
  | [], i, H => by simp [foldH, newSum]
  | e :: tbl, i, H => by
    unfold foldH newSum
    rw [foldH_length]
    cases hk : e.k with
    | done r =>
      cases hm : m i with
      | true => simp only [EK.newN]; rw [Heap.app_length]; omega
      | false => simp only [EK.newN]; rw [List.length_append, nones_length]; omega
    | skip => simp only [EK.newN]; omega
    | panic x => simp only [EK.newN]; omega
    | dead => simp only [EK.newN]; omega


theorem foldH_le {m m' : Nat → Bool} {id : Nat} {x : AB U} (hx : x ≠ .none) : ∀ {tbl : List (Ent U)} {i : Nat} {H H' : Heap U}, H.length = H'.length →
    (∀ (j : Nat) (e : Ent U), tbl[j]? = some e → m (i + j) = m' (i + j) ∨ (m (i + j) = false ∧ id ∉ e.k.mods)) → (H[id]? = H'[id]? ∨ (H[id]? = some .none)) →
    (foldH m tbl i H)[id]? = some x → (foldH m' tbl i H')[id]? = some x
  | [], i, H, H', hl, _, hh, h => by
    simp only [foldH] at h ⊢
    rcases hh with hh | hh
    · rw [← hh]; exact h
    · rw [hh] at h; simp at h; exact absurd h.symm hx
  | e :: tbl, i, H, H', hl, hd, hh, h => by
    unfold foldH at h ⊢
    have h0 := hd 0 e (by simp)
    simp only [Nat.add_zero] at h0
    have hd' : ∀ (j : Nat) (e : Ent U), tbl[j]? = some e → m (i + 1 + j) = m' (i + 1 + j) ∨ (m (i + 1 + j) = false ∧ id ∉ e.k.mods) := by
      intro j e' he'
      have := hd (j + 1) e' (by simpa using he')
      rwa [show i + (j + 1) = i + 1 + j by omega] at this
    cases hk : e.k with
    | skip => simp only [hk] at h ⊢; exact foldH_le hx hl hd' hh h
    | panic y => simp only [hk] at h ⊢; exact foldH_le hx hl hd' hh h
    | dead => simp only [hk] at h ⊢; exact foldH_le hx hl hd' hh h
    | done r =>
      simp only [hk] at h ⊢
      have stay : ∀ (G : Heap U), G[id]? = some .none → (G.app r)[id]? = some .none := by
        intro G hG
        have hlt : id < G.length := (List.getElem?_eq_some_iff.1 hG).1
        unfold Heap.app
        rw [List.getElem?_append_left (by rw [Heap.upds_length, Heap.kills_length]; exact hlt)]
        have k1 : ∀ (l : List (Nat × Nat)) (G : Heap U), G[id]? = some .none → (G.kills l)[id]? = some .none := by
          intro l; induction l with
          | nil => intro G h; exact h
          | cons y l ih => intro G h; refine ih (G.kill y.1) ?_; unfold Heap.kill; rw [setNth_get]; split <;> simp [h]
        have k2 : ∀ (l : List (Nat × Nat × AB1 U)) (G : Heap U), G[id]? = some .none → (G.upds l)[id]? = some .none := by
          intro l; induction l with
          | nil => intro G h; exact h
          | cons y l ih => intro G h; refine ih (G.set y.1 y.2.1 y.2.2) ?_; unfold Heap.set; rw [setNth_get]; split <;> simp [h, AB.set]
        exact k2 _ _ (k1 _ _ hG)
      rcases h0 with h0 | ⟨h0, h1⟩
      · rw [← h0]
        cases hm : m i with
        | true =>
          simp only [hm] at h
          refine foldH_le hx (by rw [Heap.app_length, Heap.app_length, hl]) hd' ?_ h
          rcases hh with hh | hh
          · exact .inl (app_congr hl hh)
          · exact .inr (stay H hh)
        | false =>
          simp only [hm] at h
          refine foldH_le hx (by simp [hl]) hd' ?_ h
          rcases hh with hh | hh
          · left
            by_cases hi : id < H.length
            · rw [List.getElem?_append_left hi, List.getElem?_append_left (by omega)]; exact hh
            · rw [List.getElem?_append_right (by omega), List.getElem?_append_right (by omega), hl]
          · right; rw [List.getElem?_append_left (List.getElem?_eq_some_iff.1 hh).1]; exact hh
      · simp only [h0] at h
        cases hm' : m' i with
        | false =>
          simp only
          refine foldH_le hx (by simp [hl]) hd' ?_ h
          rcases hh with hh | hh
          · left
            by_cases hi : id < H.length
            · rw [List.getElem?_append_left hi, List.getElem?_append_left (by omega)]; exact hh
            · rw [List.getElem?_append_right (by omega), List.getElem?_append_right (by omega), hl]
          · right; rw [List.getElem?_append_left (List.getElem?_eq_some_iff.1 hh).1]; exact hh
        | true =>
          simp only
          refine foldH_le hx (by rw [Heap.app_length, List.length_append, nones_length, hl]) hd' ?_ h
          rw [hk] at h1
          by_cases hi : id < H.length
          · rw [List.getElem?_append_left hi, app_other (by omega) h1]; exact hh
          · by_cases hi2 : id - H.length < r.new.length
            · right
              rw [List.getElem?_append_right (by omega)]
              have hlt : id - H.length < (nones U r.new.length).length := by rw [nones_length]; exact hi2
              rw [List.getElem?_eq_getElem hlt]
              exact congrArg some (nones_get _ _ _ (List.getElem?_eq_getElem hlt))
            · left
              rw [List.getElem?_eq_none (by rw [List.length_append, nones_length]; omega), List.getElem?_eq_none (by rw [Heap.app_length]; omega)]

theorem foldH_more {m m' : Nat → Bool} {n : Nat} {r : ORes U} : ∀ {tbl : List (Ent U)} {i : Nat} {H : Heap U} {e : Ent U}, i ≤ n → tbl[n - i]? = some e → e.k = .done r → m n = false → m' n = true → (∀ j, j ≠ n → m' j = m j) →
    (∀ (j : Nat) (ej : Ent U), tbl[j]? = some ej → n < i + j → m (i + j) = true → ∀ id ∈ ej.k.mods, id ∉ e.k.mods ∧ ¬ (H.length + newSum (tbl.take (n - i)) ≤ id ∧ id < H.length + newSum (tbl.take (n - i)) + r.new.length)) →
    ∃ X : Heap U, X.length = H.length + newSum (tbl.take (n - i)) ∧ ∀ id, (id ∈ e.k.mods → id < X.length →
        (foldH m' tbl i H)[id]? = (X.app r)[id]? ∧ (foldH m tbl i H)[id]? = X[id]?) ∧
      ((X.length ≤ id ∧ id < X.length + r.new.length) → (foldH m' tbl i H)[id]? = (X.app r)[id]?) ∧
      (id ∉ e.k.mods → ¬ (X.length ≤ id ∧ id < X.length + r.new.length) → (foldH m' tbl i H)[id]? = (foldH m tbl i H)[id]?)
  | [], i, H, e, hi, he, _, _, _, _, _ => by simp at he
  | e0 :: tbl, i, H, e, hi, he, hk, hm, hm', hmm, hoth => by
    rcases Nat.lt_or_ge i n with hlt | hge
    · -- before it
      have e1 : n - i = (n - (i + 1)) + 1 := by omega
      have he' : tbl[n - (i + 1)]? = some e := by rw [e1] at he; simpa using he
      have hmi : m' i = m i := hmm i (by omega)
      unfold foldH
      rw [hmi]
      generalize hG : (match e0.k with
        | .done r => match m i with
          | true => H.app r
          | false => H ++ nones U r.new.length
        | _ => H) = G
      have hGl : G.length = H.length + e0.k.newN := by
        rw [← hG]
        cases hk0 : e0.k with
        | done r0 =>
          cases hmi2 : m i with
          | true => simp only [EK.newN]; rw [Heap.app_length]
          | false => simp only [EK.newN]; rw [List.length_append, nones_length]
        | skip => simp [EK.newN]
        | panic x => simp [EK.newN]
        | dead => simp [EK.newN]
      have hsum : G.length + newSum (tbl.take (n - (i + 1))) = H.length + newSum ((e0 :: tbl).take (n - i)) := by
        rw [e1, List.take_succ_cons, newSum, hGl]; omega
      obtain ⟨X, hX, hXX⟩ := foldH_more (i := i + 1) (H := G) (m := m) (m' := m') (by omega) he' hk hm hm' hmm (fun j ej hj hnj hmj id hid => by
        have := hoth (j + 1) ej (by simpa using hj) (by omega) (by rw [show i + (j + 1) = i + 1 + j by omega]; exact hmj) id hid
        rw [← hsum] at this; exact this)
      subst hG
      exact ⟨X, by rw [hX, hsum], hXX⟩
    · -- the operation itself
      have hin : i = n := by omega
      subst hin
      simp at he; subst he
      simp only [Nat.sub_self, List.take_zero, newSum, Nat.add_zero] at hoth ⊢
      refine ⟨H, rfl, ?_⟩
      have after : ∀ (l : List (Ent U)) (k : Nat) (A B : Heap U) (id : Nat), i < k → A.length = B.length → (∀ (j : Nat) (ej : Ent U), l[j]? = some ej → m (k + j) = true → id ∉ ej.k.mods) → id < A.length →
          (foldH m' l k A)[id]? = A[id]? ∧ (foldH m l k B)[id]? = B[id]? := by
        intro l
        induction l with
        | nil => intro k A B id _ _ _ _; exact ⟨rfl, rfl⟩
        | cons e1 l ih =>
          intro k A B id hik hAB hh hid
          have hh' : ∀ (j : Nat) (ej : Ent U), l[j]? = some ej → m (k + 1 + j) = true → id ∉ ej.k.mods := fun j ej hj hmj => hh (j + 1) ej (by simpa using hj) (by rw [show k + (j + 1) = k + 1 + j by omega]; exact hmj)
          have hmk : m' k = m k := hmm k (by omega)
          unfold foldH
          rw [hmk]
          cases hk1 : e1.k with
          | skip => exact ih (k + 1) A B id (by omega) hAB hh' hid
          | panic x => exact ih (k + 1) A B id (by omega) hAB hh' hid
          | dead => exact ih (k + 1) A B id (by omega) hAB hh' hid
          | done r1 =>
            cases hmk2 : m k with
            | true =>
              have hn := hh 0 e1 (by simp) (by simpa using hmk2)
              rw [hk1] at hn
              have := ih (k + 1) (A.app r1) (B.app r1) id (by omega) (by rw [Heap.app_length, Heap.app_length, hAB]) hh' (by rw [Heap.app_length]; omega)
              rw [app_other hid hn, app_other (by omega) hn] at this
              exact this
            | false =>
              have := ih (k + 1) (A ++ nones U r1.new.length) (B ++ nones U r1.new.length) id (by omega) (by simp [hAB]) hh' (by simp; omega)
              rw [List.getElem?_append_left hid, List.getElem?_append_left (by omega)] at this
              exact this
      have same : ∀ (l : List (Ent U)) (k : Nat) (A B : Heap U) (id : Nat), i < k → A.length = B.length → A[id]? = B[id]? → (foldH m' l k A)[id]? = (foldH m l k B)[id]? := by
        intro l
        induction l with
        | nil => intro k A B id _ _ h; exact h
        | cons e1 l ih =>
          intro k A B id hik hAB h
          have hmk : m' k = m k := hmm k (by omega)
          unfold foldH
          rw [hmk]
          cases hk1 : e1.k with
          | skip => exact ih (k + 1) A B id (by omega) hAB h
          | panic x => exact ih (k + 1) A B id (by omega) hAB h
          | dead => exact ih (k + 1) A B id (by omega) hAB h
          | done r1 =>
            cases hmk2 : m k with
            | true => exact ih (k + 1) _ _ id (by omega) (by rw [Heap.app_length, Heap.app_length, hAB]) (app_congr hAB h)
            | false =>
              refine ih (k + 1) _ _ id (by omega) (by simp [hAB]) ?_
              by_cases hid : id < A.length
              · rw [List.getElem?_append_left hid, List.getElem?_append_left (by omega)]; exact h
              · rw [List.getElem?_append_right (by omega), List.getElem?_append_right (by omega), hAB]
      have hlen : (H.app r).length = (H ++ nones U r.new.length).length := by rw [Heap.app_length, List.length_append, nones_length]
      intro id
      unfold foldH
      rw [hk, hm, hm']
      simp only
      have hoth' : (id ∈ (EK.done r).mods ∨ (H.length ≤ id ∧ id < H.length + r.new.length)) → ∀ (j : Nat) (ej : Ent U), tbl[j]? = some ej → m (i + 1 + j) = true → id ∉ ej.k.mods := by
        intro hid j ej hj hmj hin
        have := hoth (j + 1) ej (by simpa using hj) (by omega) (by rw [show i + (j + 1) = i + 1 + j by omega]; exact hmj) id hin
        rw [hk] at this
        rcases hid with h | h
        · exact this.1 h
        · exact this.2 h
      refine ⟨fun hid hlt => ?_, fun hid => ?_, fun hid hr => ?_⟩
      · obtain ⟨h1, h2⟩ := after tbl (i + 1) (H.app r) (H ++ nones U r.new.length) id (by omega) hlen (hoth' (.inl hid)) (by rw [Heap.app_length]; omega)
        exact ⟨h1, by rw [h2, List.getElem?_append_left hlt]⟩
      · exact (after tbl (i + 1) (H.app r) (H ++ nones U r.new.length) id (by omega) hlen (hoth' (.inr hid)) (by rw [Heap.app_length]; omega)).1
      · refine same tbl (i + 1) _ _ id (by omega) hlen ?_
        by_cases hi2 : id < H.length
        · rw [app_other hi2 hid, List.getElem?_append_left hi2]
        · rw [List.getElem?_eq_none (by rw [Heap.app_length]; omega), List.getElem?_eq_none (by rw [List.length_append, nones_length]; omega)]
end AE

namespace AE
open Go

variable {U : Uni}

theorem foldF_congr {v : Ent U → AV} {m m' : Nat → Bool} {t : Nat} : ∀ {tbl : List (Ent U)} {i : Nat} {fr fr' : Fr}, fr.get t = fr'.get t →
    (∀ (j : Nat) (e : Ent U), tbl[j]? = some e → m (i + j) = m' (i + j) ∨ e.dst ≠ some t) → (foldF v m tbl i fr).get t = (foldF v m' tbl i fr').get t
  | [], i, fr, fr', h, _ => h
  | e :: tbl, i, fr, fr', h, hd => by
    unfold foldF
    have h0 := hd 0 e (by simp)
    simp only [Nat.add_zero] at h0
    refine foldF_congr ?_ (fun j e' he' => by have := hd (j + 1) e' (by simpa using he'); rwa [show i + (j + 1) = i + 1 + j by omega] at this)
    have hput : ∀ (f : Fr), e.dst ≠ some t → (f.put e.dst (v e)).get t = f.get t := by
      intro f hne
      cases hd' : e.dst with
      | none => rfl
      | some d =>
        simp only [Fr.put, Fr.get_cons]
        rw [if_neg (by intro e'; subst e'; exact hne hd')]
    have hput2 : (fr.put e.dst (v e)).get t = (fr'.put e.dst (v e)).get t := by
      cases hd : e.dst with
      | none => exact h
      | some d => simp only [Fr.put, Fr.get_cons]; split <;> first | rfl | exact h
    rcases h0 with h0 | h0
    · rw [h0]; cases m' i with
      | true => exact hput2
      | false => exact h
    · cases m i with
      | true => cases m' i with
        | true => exact hput2
        | false => simp only; rw [hput _ h0]; exact h
      | false => cases m' i with
        | true => simp only; rw [hput _ h0]; exact h
        | false => exact h
theorem foldF_take {v : Ent U → AV} {m : Nat → Bool} {t : Nat} : ∀ {tbl : List (Ent U)} {i n : Nat} {fr : Fr}, (∀ (j : Nat) (e : Ent U), tbl[j]? = some e → n ≤ j → m (i + j) = false ∨ e.dst ≠ some t) → (foldF v m (tbl.take n) i fr).get t = (foldF v m tbl i fr).get t
  | [], i, n, fr, _ => by simp [foldF]
  | e :: tbl, i, 0, fr, h => by
    simp only [List.take_zero]
    have : (foldF v (fun _ => false) (e :: tbl) i fr).get t = fr.get t := by
      have key : ∀ (l : List (Ent U)) (i : Nat) (fr : Fr), foldF v (fun _ => false) l i fr = fr := by
        intro l; induction l with
        | nil => intro i fr; rfl
        | cons x l ih => intro i fr; unfold foldF; exact ih _ _
      rw [key]
    show fr.get t = _
    rw [← this]
    refine foldF_congr rfl fun j e' he' => ?_
    rcases h j e' he' (by omega) with h | h
    · exact .inl h.symm
    · exact .inr h
  | e :: tbl, i, n + 1, fr, h => by
    rw [List.take_succ_cons]
    unfold foldF
    exact foldF_take fun j e' he' hj => by
      have := h (j + 1) e' (by simpa using he') (by omega)
      rwa [show i + (j + 1) = i + 1 + j by omega] at this
theorem foldF_last {v : Ent U → AV} {m : Nat → Bool} {d : Nat} : ∀ {tbl : List (Ent U)} {i n : Nat} {fr : Fr} {e : Ent U}, tbl[n]? = some e → m (i + n) = true → e.dst = some d →
    (∀ (j : Nat) (ej : Ent U), tbl[j]? = some ej → n < j → m (i + j) = true → ej.dst ≠ some d) → (foldF v m tbl i fr).get d = v e
  | [], i, n, fr, e, h, _, _, _ => by simp at h
  | e0 :: tbl, i, 0, fr, e, h, hm, hd, hl => by
    simp at h; subst h
    unfold foldF
    simp only [Nat.add_zero] at hm
    rw [hm, hd]
    have := foldF_take (v := v) (m := m) (t := d) (tbl := tbl) (i := i + 1) (n := 0) (fr := (fr.put (some d) (v e0))) (fun j e' he' _ => by
      cases hmj : m (i + 1 + j) with
      | false => exact .inl rfl
      | true => exact .inr (hl (j + 1) e' (by simpa using he') (by omega) (by rw [show i + (j + 1) = i + 1 + j by omega]; exact hmj)))
    simp only
    rw [← this, List.take_zero]
    show (Fr.put fr (some d) (v e0)).get d = _
    simp [Fr.put, Fr.get_cons]
  | e0 :: tbl, i, n + 1, fr, e, h, hm, hd, hl => by
    unfold foldF
    exact foldF_last (n := n) (by simpa using h) (by rw [show i + 1 + n = i + (n + 1) by omega]; exact hm) hd fun j ej hj hnj hmj => hl (j + 1) ej (by simpa using hj) (by omega) (by rw [show i + (j + 1) = i + 1 + j by omega]; exact hmj)

theorem app_stay {H : Heap U} {r : ORes U} {id : Nat} (hG : H[id]? = some .none) : (H.app r)[id]? = some .none := by
  have hlt : id < H.length := (List.getElem?_eq_some_iff.1 hG).1
  unfold Heap.app
  rw [List.getElem?_append_left (by rw [Heap.upds_length, Heap.kills_length]; exact hlt)]
  have k1 : ∀ (l : List (Nat × Nat)) (G : Heap U), G[id]? = some .none → (G.kills l)[id]? = some .none := by
    intro l; induction l with
    | nil => intro G h; exact h
    | cons y l ih => intro G h; refine ih (G.kill y.1) ?_; unfold Heap.kill; rw [setNth_get]; split <;> simp [h]
  have k2 : ∀ (l : List (Nat × Nat × AB1 U)) (G : Heap U), G[id]? = some .none → (G.upds l)[id]? = some .none := by
    intro l; induction l with
    | nil => intro G h; exact h
    | cons y l ih => intro G h; refine ih (G.set y.1 y.2.1 y.2.2) ?_; unfold Heap.set; rw [setNth_get]; split <;> simp [h, AB.set]
  exact k2 _ _ (k1 _ _ hG)
theorem foldH_stay {m : Nat → Bool} {id : Nat} : ∀ {tbl : List (Ent U)} {i : Nat} {H : Heap U}, H[id]? = some .none → (foldH m tbl i H)[id]? = some .none
  | [], i, H, h => h
  | e :: tbl, i, H, h => by
    unfold foldH
    refine foldH_stay ?_
    cases e.k with
    | done r => cases m i with
      | true => exact app_stay h
      | false => simp only; rw [List.getElem?_append_left (List.getElem?_eq_some_iff.1 h).1]; exact h
    | skip => exact h
    | panic x => exact h
    | dead => exact h
def stepH (m : Nat → Bool) (i : Nat) (e : Ent U) (H : Heap U) : Heap U :=
  match e.k with
  | .done r => match m i with
    | true => H.app r
    | false => H ++ nones U r.new.length
  | _ => H
theorem foldH_cons {m : Nat → Bool} {i : Nat} {e : Ent U} {tbl : List (Ent U)} {H : Heap U} : foldH m (e :: tbl) i H = foldH m tbl (i + 1) (stepH m i e H) := rfl
theorem stepH_length {m : Nat → Bool} {i : Nat} {e0 : Ent U} {H : Heap U} : (stepH m i e0 H).length = H.length + e0.k.newN := by
  unfold stepH
  cases hk0 : e0.k with
  | done r0 =>
    cases hmi2 : m i with
    | true => simp only [EK.newN]; rw [Heap.app_length]
    | false => simp only [EK.newN]; rw [List.length_append, nones_length]
  | skip => simp [EK.newN]
  | panic x => simp [EK.newN]
  | dead => simp [EK.newN]
theorem foldH_none {m : Nat → Bool} {n id : Nat} {r : ORes U} : ∀ {tbl : List (Ent U)} {i : Nat} {H : Heap U} {e : Ent U}, tbl[n]? = some e → e.k = .done r → m (i + n) = false →
    H.length + newSum (tbl.take n) ≤ id → id < H.length + newSum (tbl.take n) + r.new.length → (foldH m tbl i H)[id]? = some .none := by
  induction n with
  | zero =>
    intro tbl i H e h hk hm h1 h2
    cases tbl with
    | nil => simp at h
    | cons e0 tbl =>
      simp at h; subst h
      simp only [List.take_zero, newSum, Nat.add_zero] at h1 h2 hm
      unfold foldH
      rw [hk, hm]
      refine foldH_stay ?_
      simp only
      have hlt : id - H.length < (nones U r.new.length).length := by rw [nones_length]; omega
      rw [List.getElem?_append_right h1, List.getElem?_eq_getElem hlt]
      exact congrArg some (nones_get _ _ _ (List.getElem?_eq_getElem hlt))
  | succ n ih =>
    intro tbl i H e h hk hm h1 h2
    cases tbl with
    | nil => simp at h
    | cons e0 tbl =>
      rw [foldH_cons]
      rw [List.take_succ_cons, newSum] at h1 h2
      exact ih (by simpa using h) hk (by rw [show i + 1 + n = i + (n + 1) by omega]; exact hm) (by rw [stepH_length]; omega) (by rw [stepH_length]; omega)
theorem foldH_same {m m' : Nat → Bool} : ∀ {tbl : List (Ent U)} {i : Nat} {H : Heap U}, (∀ (j : Nat) (e : Ent U), tbl[j]? = some e → m (i + j) = m' (i + j) ∨ ∀ r, e.k ≠ .done r) → foldH m tbl i H = foldH m' tbl i H
  | [], i, H, _ => rfl
  | e :: tbl, i, H, h => by
    have h0 := h 0 e (by simp)
    simp only [Nat.add_zero] at h0
    have : stepH m i e H = stepH m' i e H := by
      unfold stepH
      rcases h0 with h0 | h0
      · rw [h0]
      · cases hk : e.k with
        | done r => exact absurd hk (h0 r)
        | _ => rfl
    rw [foldH_cons, foldH_cons, this]
    exact foldH_same fun j e' he' => by have := h (j + 1) e' (by simpa using he'); rwa [show i + (j + 1) = i + 1 + j by omega] at this
theorem foldH_append {m : Nat → Bool} : ∀ {a b : List (Ent U)} {i : Nat} {H : Heap U}, foldH m (a ++ b) i H = foldH m b (i + a.length) (foldH m a i H)
  | [], b, i, H => by simp [foldH]
  | e :: a, b, i, H => by
    simp only [List.cons_append]
    rw [foldH_cons, foldH_cons, foldH_append, List.length_cons, show i + 1 + a.length = i + (a.length + 1) by omega]
theorem foldH_off {m : Nat → Bool} {id : Nat} : ∀ {tbl : List (Ent U)} {i : Nat} {H : Heap U}, (∀ (j : Nat) (e : Ent U), tbl[j]? = some e → m (i + j) = false) → id < H.length → (foldH m tbl i H)[id]? = H[id]?
  | [], i, H, _, _ => rfl
  | e :: tbl, i, H, h, hl => by
    unfold foldH
    have h0 := h 0 e (by simp)
    simp only [Nat.add_zero] at h0
    rw [h0]
    have h' : ∀ (j : Nat) (e : Ent U), tbl[j]? = some e → m (i + 1 + j) = false := fun j e' he' => by
      have := h (j + 1) e' (by simpa using he'); rwa [show i + (j + 1) = i + 1 + j by omega] at this
    cases e.k with
    | done r => rw [foldH_off h' (by simp; omega)]; simp only; rw [List.getElem?_append_left hl]
    | skip => exact foldH_off h' hl
    | panic x => exact foldH_off h' hl
    | dead => exact foldH_off h' hl
theorem foldH_take {m : Nat → Bool} {id n i : Nat} {tbl : List (Ent U)} {H : Heap U} {x : AB U} (hm : ∀ (j : Nat) (e : Ent U), tbl[j]? = some e → n ≤ j → m (i + j) = false) (h : (foldH m (tbl.take n) i H)[id]? = some x) : (foldH m tbl i H)[id]? = some x := by
  have e : foldH m tbl i H = foldH m (tbl.drop n) (i + (tbl.take n).length) (foldH m (tbl.take n) i H) := by rw [← foldH_append, List.take_append_drop]
  rw [e, foldH_off _ (List.getElem?_eq_some_iff.1 h).1, h]
  intro j e' he'
  rw [List.getElem?_drop] at he'
  have hj := (List.getElem?_eq_some_iff.1 he').1
  have := hm (n + j) e' he' (by omega)
  rw [List.length_take]
  rw [show i + min n tbl.length + j = i + (n + j) by omega]; exact this

def Turned (H H' : Heap U) (base : Nat) (r : ORes U) : Prop := ∀ id k b, H'.at id k = some b →
  (¬ (base ≤ id ∧ id < base + r.new.length) ∧ (∀ k, (id, k) ∉ r.kill) ∧ ((id, k, b) ∈ r.upd ∨ ((∀ b', (id, k, b') ∉ r.upd) ∧ H.at id k = some b))) ∨
  (base ≤ id ∧ id < base + r.new.length ∧ k = 0 ∧ r.new[id - base]? = some b)

theorem Post.le {H He : Heap U} {base : Nat} {r : ORes U} {π πn : Plc} {w w' : World} {v : Value} (h : Post He base r π πn w w' v) (hl : He.le H) : Post H base r π πn w w' v :=
  ⟨h.rep, h.sub, h.only, fun j b hb => let ⟨a, p, hp, hok, hph⟩ := h.new j b hb; ⟨a, p, hp, hok, fun hp => (hph hp).imp id fun ⟨id, k, b0, q, h1, h2, h3⟩ => ⟨id, k, b0, q, h1, hl _ _ _ h2, h3⟩⟩, h.newsep,
    fun id k b hb => let ⟨b0, p, h1, h2⟩ := h.upd id k b hb; ⟨b0, p, hl _ _ _ h1, h2⟩, fun id k hb => let ⟨b0, h1, h2⟩ := h.kill id k hb; ⟨b0, hl _ _ _ h1, h2⟩,
    h.keeps.weaken fun n _ ⟨id, k, p, b0, h1, h2, h3⟩ => ⟨id, k, p, b0, h1, hl _ _ _ h2, h3⟩⟩

theorem Conc.turned {H H' : Heap U} {base : Nat} {r : ORes U} {π πn : Plc} {w w' : World} {v : Value} (hc : Conc π H w) (hp : Post H base r π πn w w' v) (ht : Turned H H' base r) : Conc πn H' w' := by
  have place : ∀ id k p, πn id k = some p → ¬ (base ≤ id ∧ id < base + r.new.length) → π id k = some p := fun id k p h hi => by rw [← hp.only id k (by omega)]; exact h
  refine ⟨fun id k b hb => ?_, fun id k b id' k' b' p p' hb hb' hne ho hpl hpl' h1 h2 => ?_⟩
  · rcases ht id k b hb with ⟨hi, hkill, hu | ⟨hu, hold⟩⟩ | ⟨hi, hi2, rfl, hn⟩
    · obtain ⟨b0, p, _, _, _, hpl, hok, _⟩ := hp.upd _ _ _ hu
      exact ⟨p, hp.sub _ _ _ hpl, hok⟩
    · obtain ⟨p, hpl, hok⟩ := hc.ok id k b hold
      exact ⟨p, hp.sub _ _ _ hpl, (hok.block fun hph => hp.keepsOld hc hold hu (hkill k) hpl hph).mono hp.sub⟩
    · obtain ⟨_, p, hpl, hok, _⟩ := hp.new _ _ hn
      rw [show base + (id - base) = id by omega] at hpl
      exact ⟨p, hpl, hok⟩
  · -- what an old block was, before
    have old : ∀ id k b p, ¬ (base ≤ id ∧ id < base + r.new.length) → (∀ k, (id, k) ∉ r.kill) → ((id, k, b) ∈ r.upd ∨ ((∀ b, (id, k, b) ∉ r.upd) ∧ H.at id k = some b)) → πn id k = some p → b.phys p →
        ∃ b0, H.at id k = some b0 ∧ π id k = some p ∧ b0.phys p ∧ (b.own = true → b0.own = true) := by
      intro id k b p hi _ hh hpl hph
      have hpl0 := place id k p hpl hi
      rcases hh with hu | ⟨_, hold⟩
      · obtain ⟨b0, q, hb0, ho0, _, hq, _, hphys⟩ := hp.upd _ _ _ hu
        rw [hpl0] at hq; cases hq
        exact ⟨b0, hb0, hpl0, hphys hph, fun _ => ho0⟩
      · exact ⟨b, hold, hpl0, hph, fun h => h⟩
    have newOld : ∀ (j : Nat) (b : AB1 U) (id k : Nat) (p p' : Place), r.new[j]? = some b → πn (base + j) 0 = some p → b.phys p → (∃ b0, H.at id k = some b0 ∧ π id k = some p' ∧ b0.phys p') → (∀ k, (id, k) ∉ r.kill) → p.blk ≠ p'.blk := by
      intro j b id k p p' hn hpl hph ⟨b0, hb0, hpl0, hph0⟩ hkill e
      obtain ⟨_, q, hq, _, hblk⟩ := hp.new _ _ hn
      rw [hpl] at hq; cases hq
      obtain ⟨q0, hq0, hok0⟩ := hc.ok id k b0 hb0
      rw [hpl0] at hq0; cases hq0
      have hlt := hok0.lt hph0
      rcases hblk hph with h | ⟨id2, k2, b2, q2, hm, hb2, ho2, hq2, hph2, e2⟩
      · omega
      · have hne2 : id2 ≠ id := fun h => hkill k2 (h ▸ hm)
        exact hc.sep id2 k2 b2 id k b0 q2 p' hb2 hb0 (.inl hne2) ho2 hq2 hpl0 hph2 hph0 (by rw [e2, e])
    rcases ht id k b hb with ⟨hi, hkill, hh⟩ | ⟨hi, hi2, rfl, hn⟩
    · rcases ht id' k' b' hb' with ⟨hi', hkill', hh'⟩ | ⟨hi', hi2', rfl, hn'⟩
      · obtain ⟨b0, hb0, hq, hph, hown⟩ := old id k b p hi hkill hh hpl h1
        obtain ⟨b0', hb0', hq', hph', _⟩ := old id' k' b' p' hi' hkill' hh' hpl' h2
        exact hc.sep id k b0 id' k' b0' p p' hb0 hb0' hne (hown ho) hq hq' hph hph'
      · obtain ⟨b0, hb0, hq, hph, _⟩ := old id k b p hi hkill hh hpl h1
        rw [show id' = base + (id' - base) by omega] at hpl'
        exact fun e => newOld _ b' id k p' p hn' hpl' h2 ⟨b0, hb0, hq, hph⟩ hkill e.symm
    · rcases ht id' k' b' hb' with ⟨hi', hkill', hh'⟩ | ⟨hi', hi2', rfl, hn'⟩
      · obtain ⟨b0', hb0', hq', hph', _⟩ := old id' k' b' p' hi' hkill' hh' hpl' h2
        rw [show id = base + (id - base) by omega] at hpl
        exact newOld _ b id' k' p p' hn hpl h1 ⟨b0', hb0', hq', hph'⟩ hkill'
      · have hij : id - base ≠ id' - base := by
          rcases hne with h | h
          · omega
          · exact absurd rfl h
        exact hp.newsep _ _ b b' p p' hn hn' hij (by rw [show base + (id - base) = id by omega]; exact hpl) (by rw [show base + (id' - base) = id' by omega]; exact hpl') h1 h2

theorem Owned.turned {H H' : Heap U} {base : Nat} {r : ORes U} {π πn : Plc} {w w' : World} {v : Value} (hp : Post H base r π πn w w' v) (ht : Turned H H' base r) {n : Nat} (h : Owned πn H' n) : Owned π H n ∨ w.heap.size ≤ n := by
  obtain ⟨id, k, b, p, hb, ho, hpl, hph, e⟩ := h
  rcases ht id k b hb with ⟨hi, hkill, hu | ⟨hu, hold⟩⟩ | ⟨hi, hi2, rfl, hn⟩
  · obtain ⟨b0, q, hb0, ho0, _, hq, _, hphys⟩ := hp.upd _ _ _ hu
    have hq' := hp.sub _ _ _ hq
    rw [hpl] at hq'; cases hq'
    exact .inl ⟨id, k, b0, p, hb0, ho0, hq, hphys hph, e⟩
  · rw [hp.only id k (by omega)] at hpl
    exact .inl ⟨id, k, b, p, hold, ho, hpl, hph, e⟩
  · obtain ⟨_, q, hq, _, hblk⟩ := hp.new _ _ hn
    rw [show base + (id - base) = id by omega, hpl] at hq; cases hq
    rcases hblk hph with h | ⟨id2, k2, b2, q2, hm, hb2, ho2, hq2, hph2, e2⟩
    · exact .inr (by omega)
    · exact .inl ⟨id2, k2, b2, q2, hb2, ho2, hq2, hph2, by omega⟩

theorem at_congr {H H' : Heap U} {id k : Nat} (h : H[id]? = H'[id]?) : H.at id k = H'.at id k := by unfold Heap.at; rw [h]

theorem foldH_turned {m m' : Nat → Bool} {n base : Nat} {r : ORes U} {tbl : List (Ent U)} {H : Heap U} {e : Ent U} (he : tbl[n]? = some e) (hk : e.k = .done r) (hm : m n = false) (hm' : m' n = true) (hmm : ∀ j, j ≠ n → m' j = m j) (hbase : base = H.length + newSum (tbl.take n))
    (hlt : ∀ id ∈ e.k.mods, id < base)
    (hoth : ∀ (j : Nat) (ej : Ent U), tbl[j]? = some ej → n < j → m j = true → ∀ id ∈ ej.k.mods, id ∉ e.k.mods ∧ ¬ (base ≤ id ∧ id < base + r.new.length)) :
    Turned (foldH m tbl 0 H) (foldH m' tbl 0 H) base r := by
  subst hbase
  obtain ⟨X, hX, hXX⟩ := foldH_more (i := 0) (H := H) (m := m) (m' := m') (n := n) (e := e) (r := r) (tbl := tbl) (by omega) (by simpa using he) hk hm hm' hmm (fun j ej hj hnj hmj id hid => by
    rw [Nat.zero_add] at hnj hmj; exact hoth j ej hj hnj hmj id hid)
  simp only [Nat.sub_zero] at hX
  intro id k b hb
  obtain ⟨h1, h2, h3⟩ := hXX id
  rw [hX] at h1 h2 h3
  by_cases hmod : id ∈ e.k.mods
  · have hl := hlt id hmod
    obtain ⟨ha, hb'⟩ := h1 hmod hl
    rw [at_congr ha] at hb
    rcases Heap.app_at hb with ⟨hi, hkill, hu⟩ | ⟨hi, _, _⟩
    · refine .inl ⟨by omega, hkill, hu.imp (fun h => h) fun ⟨h, h'⟩ => ⟨h, ?_⟩⟩
      rw [at_congr hb']; exact h'
    · omega
  · by_cases hr : H.length + newSum (tbl.take n) ≤ id ∧ id < H.length + newSum (tbl.take n) + r.new.length
    · have ha := h2 hr
      rw [at_congr ha] at hb
      rcases Heap.app_at hb with ⟨hi, _, _⟩ | ⟨hi, h, hn⟩
      · omega
      · rw [hX] at hn; exact .inr ⟨hr.1, hr.2, h, hn⟩
    · have ha := h3 hmod hr
      rw [at_congr ha] at hb
      rw [hk] at hmod
      simp only [EK.mods, List.mem_append, List.mem_map, not_or, not_exists, not_and] at hmod
      exact .inl ⟨hr, fun k hk => hmod.2 (id, k) hk rfl, .inr ⟨fun b' hb' => hmod.1 (id, k, b') hb' rfl, hb⟩⟩
end AE

namespace AE
open Go

variable {U : Uni}

theorem apartE_ok {d : Option Nat} {rd : List Nat} {x : Ent U} (h : apartE d rd x = true) : (∀ d', x.dst = some d' → d' ∉ rd ∧ d ≠ some d') ∧ (∀ d', d = some d' → d' ∉ x.rd) := by
  unfold apartE at h
  simp only [Bool.and_eq_true] at h
  have hn : ∀ {n : Nat} {l : List Nat}, (!memN n l) = true → n ∉ l := by
    intro n l h hm
    rw [memN_iff.2 hm] at h; cases h
  refine ⟨fun d' hd => ?_, fun d' hd => ?_⟩
  · have h1 := h.1
    rw [hd] at h1
    simp only [Bool.and_eq_true] at h1
    refine ⟨hn h1.1, fun e => ?_⟩
    have h2 := h1.2
    rw [e] at h2; simp at h2
  · have h2 := h.2
    rw [hd] at h2
    exact hn h2

theorem Oper.wpIn_both {F : Fence} {n : Nat} {P : Program} {o : Oper} {a : Act} {w : World} {K K' : Act → World → Prop} {Q Q' : Exit → Act → World → Prop} (h : ∀ a w, K a w → K' a w) (hq : ∀ e a w, Q e a w → Q' e a w)
    (hh : o.wpIn F n P a w K Q) : o.wpIn F n P a w K' Q' := by
  unfold Oper.wpIn at *
  refine ⟨hh.1, ?_⟩
  have hh := hh.2
  have hl : LetsOut Q → LetsOut Q' := fun ⟨a, w, h⟩ => ⟨a, w, hq _ _ _ h⟩
  generalize (o.semAt F.round a.eval).run P w = r at *
  cases r with
  | ok x w' =>
    cases x <;> simp only [Oper.uponIn] at hh ⊢ <;>
      first
        | exact h _ _ hh
        | exact ⟨hh.1, CallsIn.mono hh.2 (fun e w'' he => by cases e <;> first | exact h _ _ he | exact hq _ _ _ he | exact hl he)⟩
        | exact ⟨hh.1, RowsIn.mono hh.2 (fun _ _ he => h _ _ he)⟩
        | exact ⟨hh.1, RoundIn.mono hh.2 (fun e w'' he => by cases e <;> first | exact h _ _ he | exact hq _ _ _ he | exact hl he)⟩
  | halt x w' => cases x <;> simp only [Oper.uponIn] at hh ⊢ <;> first | exact hq _ _ _ hh | exact hh

def lst (listed : Array Bool) (k : Nat) : Bool := listed.getD k false

structure Mid (nt : Nat) (tbl : List (Ent U)) (fr0 : Fr) (H0 : Heap U) (π0 π : Plc) (w0 : World) (a0 : Act) (listed : Array Bool) (a : Act) (w : World) : Prop where
  size : listed.size = tbl.length
  clo : ∀ (i : Nat) (ei : Ent U), lst listed i = true → tbl[i]? = some ei → ei.k.bad = false ∧ ∀ k, Nat.testBit ei.mask k = true → lst listed k = true
  fr : FrOk π (foldF av0 (lst listed) tbl 0 fr0) a.tmps
  conc : Conc π (foldH (lst listed) tbl 0 H0) w
  fresh1 : ∀ (i : Nat) (ei : Ent U), lst listed i = false → tbl[i]? = some ei → ∀ j k, j < ei.k.newN → π (H0.length + newSum (tbl.take i) + j) k = none
  fresh2 : Fresh π (H0.length + newSum tbl)
  sub : Sub π0 π
  only : ∀ id k, id < H0.length → π id k = π0 id k
  keeps : Keeps (Owned π0 H0) w0 w
  own : ∀ n, Owned π (foldH (lst listed) tbl 0 H0) n → Owned π0 H0 n ∨ w0.heap.size ≤ n
  defers : a.defers = a0.defers
  nt : a.tmps.size = nt

section step
variable {P : Program} {nt : Nat} {ops : Array Oper} {fr0 : Fr} {H0 : Heap U} {tbl : List (Ent U)} {π0 π : Plc} {w0 w : World} {a0 a : Act} {listed : Array Bool} {i : Nat} {o : Oper} {e : Ent U}

theorem Mid.mask (hT : TblOk P nt ops.toList fr0 H0 tbl) (hM : Mid nt tbl fr0 H0 π0 π w0 a0 listed a w) (hE : EntOk P nt ops.toList fr0 H0 (tbl.take i) o e) (hdep : ∀ ed ∈ o.after.toList, Region.binds .any ed = true → lst listed ed.on = true) :
    ∀ k, Nat.testBit e.mask k = true → lst listed k = true := by
  intro k hk
  obtain ⟨ed, hed, hb, h | ⟨ek, hek, hkk⟩⟩ := hE.org k hk
  · subst h; exact hdep ed hed hb
  · have hlt := (hE.dep ed hed hb).1
    rw [List.getElem?_take] at hek
    split at hek
    · exact (hM.clo _ _ (hdep ed hed hb) hek).2 k hkk
    · cases hek

theorem Mid.later (hT : TblOk P nt ops.toList fr0 H0 tbl) (hM : Mid nt tbl fr0 H0 π0 π w0 a0 listed a w) (he : tbl[i]? = some e) (hi : lst listed i = false) {k : Nat} {ek : Ent U} (hk : tbl[k]? = some ek) (hik : i < k) (hmk : lst listed k = true) :
    (∀ d, ek.dst = some d → d ∉ e.rd ∧ e.dst ≠ some d) ∧ Nat.testBit ek.mask i = false ∧ (∀ d', e.dst = some d' → d' ∉ ek.rd) := by
  have hb : Nat.testBit ek.mask i = false := by
    cases h : Nat.testBit ek.mask i with
    | false => rfl
    | true => rw [(hM.clo k ek hmk hk).2 i h] at hi; cases hi
  obtain ⟨ok, _, hEk⟩ := hT k ek hk
  have := apartE_ok (hEk.apart i e (by rw [List.getElem?_take, if_pos hik]; exact he) hb)
  exact ⟨fun d hd => ⟨this.2 d hd, fun e' => (this.1 d e').2 hd⟩, hb, fun d' hd' => (this.1 d' hd').1⟩

theorem Mid.slots (hT : TblOk P nt ops.toList fr0 H0 tbl) (hM : Mid nt tbl fr0 H0 π0 π w0 a0 listed a w) (he : tbl[i]? = some e) (hi : lst listed i = false) (hE : EntOk P nt ops.toList fr0 H0 (tbl.take i) o e) (hmask : ∀ k, Nat.testBit e.mask k = true → lst listed k = true) :
    ∀ t, t ∈ e.rd → Rep π ((foldF av0 (Nat.testBit e.mask) (tbl.take i) 0 fr0).get t) (a.tmps.getD t undef) := by
  intro t ht
  have h1 : (foldF av0 (lst listed) tbl 0 fr0).get t = (foldF av0 (Nat.testBit e.mask) (tbl.take i) 0 fr0).get t := by
    rw [foldF_take (fun j ej hj hij => by
      left
      cases h : Nat.testBit e.mask (0 + j) with
      | false => rfl
      | true => have := hE.lt _ h; rw [List.length_take] at this; omega)]
    refine foldF_congr rfl fun j ej hj => ?_
    simp only [Nat.zero_add]
    cases hm : Nat.testBit e.mask j with
    | true => exact .inl (hmask j hm)
    | false =>
      rcases Nat.lt_trichotomy j i with h | h | h
      · right
        have := apartE_ok (hE.apart j ej (by rw [List.getElem?_take, if_pos h]; exact hj) hm)
        intro hd
        exact (this.1 t hd).1 ht
      · subst h; exact .inl hi
      · cases hl : lst listed j with
        | false => exact .inl rfl
        | true =>
          right; intro hd
          exact ((hM.later hT he hi hj h hl).1 t hd).1 ht
  rw [← h1]; exact hM.fr t

theorem Mid.look (hT : TblOk P nt ops.toList fr0 H0 tbl) (hM : Mid nt tbl fr0 H0 π0 π w0 a0 listed a w) (he : tbl[i]? = some e) (hi : lst listed i = false) (hE : EntOk P nt ops.toList fr0 H0 (tbl.take i) o e) (hmask : ∀ k, Nat.testBit e.mask k = true → lst listed k = true)
    (hH : HOk H0 (tbl.take i) e) (hlat : ∀ (k : Nat) (ek : Ent U), tbl[k]? = some ek → i < k → lst listed k = true → ∀ id ∈ ek.k.mods, ∀ x, e.H[id]? = some x → x = .none) : e.H.le (foldH (lst listed) tbl 0 H0) := by
  intro id k b hb
  have hx : ∃ x, e.H[id]? = some x ∧ x ≠ .none := by
    unfold Heap.at at hb
    split at hb
    · rename_i h; exact ⟨_, h, by simp⟩
    · rename_i h; exact ⟨_, h, by simp⟩
    · cases hb
  obtain ⟨x, hx, hx0⟩ := hx
  obtain ⟨h1, h2⟩ := hH id x hx hx0
  have h3 := foldH_take (tbl := tbl) (n := i) (fun j ej hj hij => by
      cases h : Nat.testBit e.mask (0 + j) with
      | false => rfl
      | true => have := hE.lt _ h; rw [List.length_take] at this; omega) h1
  have h4 := foldH_le (m' := lst listed) (H' := H0) hx0 rfl (fun j ej hj => by
    simp only [Nat.zero_add]
    cases hm : Nat.testBit e.mask j with
    | true => exact .inl (hmask j hm).symm
    | false =>
      rcases Nat.lt_trichotomy j i with h | h | h
      · exact .inr ⟨rfl, h2 j ej (by rw [List.getElem?_take, if_pos h]; exact hj) hm⟩
      · subst h; exact .inl hi.symm
      · cases hl : lst listed j with
        | false => exact .inl rfl
        | true => exact .inr ⟨rfl, fun hid => hx0 (hlat j ej hj h hl id hid x hx)⟩) (.inl rfl) h3
  rw [at_congr (h4.trans hx.symm)]; exact hb

theorem Mid.guardSlot (hT : TblOk P nt ops.toList fr0 H0 tbl) (hM : Mid nt tbl fr0 H0 π0 π w0 a0 listed a w) (he : tbl[i]? = some e) (hi : lst listed i = false) (hE : EntOk P nt ops.toList fr0 H0 (tbl.take i) o e) (hmask : ∀ k, Nat.testBit e.mask k = true → lst listed k = true)
    {j d : Nat} {ej : Ent U} (hj : (tbl.take i)[j]? = some ej) (hmj : Nat.testBit e.mask j = true) (hd : ej.dst = some d) (hrd : d ∈ e.rd) (hu : ∀ (k : Nat) (ek : Ent U), (tbl.take i)[k]? = some ek → k ≠ j → ek.dst ≠ ej.dst) :
    Rep π (av0 ej) (a.tmps.getD d undef) := by
  have hji : j < i ∧ tbl[j]? = some ej := by
    rw [List.getElem?_take] at hj
    split at hj
    · rename_i h; exact ⟨h, hj⟩
    · cases hj
  have := hM.fr d
  rwa [foldF_last hji.2 (by rw [Nat.zero_add]; exact hmask j hmj) hd (fun l el hl hjl hml => ?_)] at this
  rw [Nat.zero_add] at hml
  rcases Nat.lt_trichotomy l i with h | h | h
  · rw [← hd]; exact hu l el (by rw [List.getElem?_take, if_pos h]; exact hl) (by omega)
  · subst h; rw [hi] at hml; cases hml
  · intro hd'; exact ((hM.later hT he hi hl h hml).1 d hd').1 hrd

theorem yielded_of {d j : Nat} {b : Bool} {oj : Oper} {tmps : Array Value} (ho : ops.toList[j]? = some oj) (hd : oj.dst = some d) (h : tmps.getD d undef = .bool b) : yielded ops tmps j = some b := by
  unfold yielded
  have : ops[j]? = some oj := by rw [← Array.getElem?_toList]; exact ho
  rw [this]
  simp only [Option.bind_some, hd]
  cases ht : tmps[d]? with
  | none => simp [Array.getD_eq_getD_getElem?, ht, undef] at h
  | some v => simp [Array.getD_eq_getD_getElem?, ht] at h; subst h; rfl
theorem yielded_off {d j : Nat} {b : Bool} {oj : Oper} {tmps : Array Value} (ho : ops.toList[j]? = some oj) (hd : oj.dst = some d) (h : tmps.getD d undef = undef) : yielded ops tmps j ≠ some b := by
  unfold yielded
  have : ops[j]? = some oj := by rw [← Array.getElem?_toList]; exact ho
  rw [this]
  simp only [Option.bind_some, hd]
  cases ht : tmps[d]? with
  | none => simp
  | some v => simp [Array.getD_eq_getD_getElem?, ht] at h; subst h; simp [undef]

theorem Mid.wantedYes (hT : TblOk P nt ops.toList fr0 H0 tbl) (hM : Mid nt tbl fr0 H0 π0 π w0 a0 listed a w) (he : tbl[i]? = some e) (hi : lst listed i = false) (hE : EntOk P nt ops.toList fr0 H0 (tbl.take i) o e) (hmask : ∀ k, Nat.testBit e.mask k = true → lst listed k = true)
    (hg : GuardYes (tbl.take i) e o) : Region.wanted o (yielded ops a.tmps) = true := by
  unfold Region.wanted
  rcases hg with hg | ⟨j, want, ej, rj, hg, hmj, hj, hk, hd, hu, hy⟩
  · rw [hg]
  · rw [hg]
    have hji : j < i ∧ tbl[j]? = some ej := by
      rw [List.getElem?_take] at hj
      split at hj
      · rename_i h; exact ⟨h, hj⟩
      · cases hj
    obtain ⟨oj, hoj, hEj⟩ := hT j ej hji.2
    cases hdj : ej.dst with
    | none => exact absurd hdj hd
    | some d =>
      have hod : oj.dst = some d := by rw [← hEj.dst, hdj]
      have := hM.guardSlot hT he hi hE hmask hj hmj hdj (hE.gd j want oj d hg hoj hod) hu
      unfold av0 EK.av at this
      rw [hk] at this
      simp only [yielded_of hoj hod (hy _ _ this), BEq.rfl]

theorem Mid.wantedNo (hT : TblOk P nt ops.toList fr0 H0 tbl) (hM : Mid nt tbl fr0 H0 π0 π w0 a0 listed a w) (he : tbl[i]? = some e) (hi : lst listed i = false) (hE : EntOk P nt ops.toList fr0 H0 (tbl.take i) o e) (hmask : ∀ k, Nat.testBit e.mask k = true → lst listed k = true)
    (hg : GuardNo (tbl.take i) e o) : Region.wanted o (yielded ops a.tmps) = false := by
  unfold Region.wanted
  obtain ⟨j, want, ej, hg, hmj, hj, hd, hu, hy⟩ := hg
  rw [hg]
  have hji : j < i ∧ tbl[j]? = some ej := by
    rw [List.getElem?_take] at hj
    split at hj
    · rename_i h; exact ⟨h, hj⟩
    · cases hj
  obtain ⟨oj, hoj, hEj⟩ := hT j ej hji.2
  cases hdj : ej.dst with
  | none => exact absurd hdj hd
  | some d =>
    have hod : oj.dst = some d := by rw [← hEj.dst, hdj]
    have := hM.guardSlot hT he hi hE hmask hj hmj hdj (hE.gd j want oj d hg hoj hod) hu
    unfold av0 EK.av at this
    rcases hy with hk | ⟨rj, hk, hy⟩
    · rw [hk] at this
      simp only [Rep] at this
      have h2 := yielded_off (b := want) hoj hod this
      simp only [beq_eq_false_iff_ne]; exact h2
    · rw [hk] at this
      simp only [yielded_of hoj hod (hy _ _ this)]
      cases want <;> rfl

theorem lst_set (h : i < listed.size) : lst (listed.setIfInBounds i true) = fun k => if k = i then true else lst listed k := by
  funext k
  unfold lst
  split
  · rename_i e; subst e; simp [h]
  · rename_i e; exact getD_set_ne false (Ne.symm e)

theorem Mid.frame {v : Value} {πn : Plc} (hT : TblOk P nt ops.toList fr0 H0 tbl) (hM : Mid nt tbl fr0 H0 π0 π w0 a0 listed a w) (he : tbl[i]? = some e) (hi : lst listed i = false) (hE : EntOk P nt ops.toList fr0 H0 (tbl.take i) o e)
    (hs : Sub π πn) (hv : Rep πn (av0 e) v) : FrOk πn (foldF av0 (lst (listed.setIfInBounds i true)) tbl 0 fr0) (a.put o.dst v).tmps := by
  have hlt : i < listed.size := by rw [hM.size]; exact (List.getElem?_eq_some_iff.1 he).1
  intro t
  rw [lst_set hlt]
  by_cases ht : o.dst = some t
  · rw [foldF_last he (by simp) (hE.dst.trans ht) (fun j ej hj hij hmj => by
      rw [Nat.zero_add, if_neg (by omega)] at hmj
      exact fun hd => ((hM.later hT he hi hj hij hmj).1 t hd).2 (hE.dst.trans ht))]
    have : (a.put o.dst v).tmps.getD t undef = v := by
      have hnt := hE.nt
      rw [ht] at hnt
      simp only [dstOk, Nat.blt_eq] at hnt
      rw [ht]; simp [Act.put, Array.getD, hM.nt, hnt]
    rw [this]; exact hv
  · rw [foldF_congr (m' := lst listed) (fr' := fr0) rfl (fun j ej hj => by
      rw [Nat.zero_add]
      by_cases h : j = i
      · subst h; rw [he] at hj; cases hj
        exact .inr (by rw [hE.dst]; exact ht)
      · rw [if_neg h]; exact .inl rfl)]
    have : (a.put o.dst v).tmps.getD t undef = a.tmps.getD t undef := by
      cases hd : o.dst with
      | none => rfl
      | some d =>
        have hne : d ≠ t := fun e => ht (by rw [hd, e])
        simp only [Act.put, Array.getD_eq_getD_getElem?, Array.getElem?_setIfInBounds_ne hne]
    rw [this]; exact (hM.fr t).mono hs
end step
end AE

namespace AE
open Go

variable {U : Uni}

structure Step (π0 : Plc) (H0 : Heap U) (w0 : World) (a0 : Act) (fr : Fr) (H : Heap U) (π : Plc) (w : World) (a : Act) : Prop where
  fr : FrOk π fr a.tmps
  conc : Conc π H w
  fresh : Fresh π H.length
  sub : Sub π0 π
  only : ∀ id k, id < H0.length → π id k = π0 id k
  keeps : Keeps (Owned π0 H0) w0 w
  own : ∀ n, Owned π H n → Owned π0 H0 n ∨ w0.heap.size ≤ n
  nt : a.tmps.size = a0.tmps.size
  defers : a.defers = a0.defers
  len : H0.length ≤ H.length

theorem Step.trans {π0 π1 π : Plc} {H0 H1 H : Heap U} {w0 w1 w : World} {a0 a1 a : Act} {fr1 fr : Fr} (h : Step π0 H0 w0 a0 fr1 H1 π1 w1 a1) (k : Step π1 H1 w1 a1 fr H π w a) : Step π0 H0 w0 a0 fr H π w a where
  fr := k.fr
  conc := k.conc
  fresh := k.fresh
  sub := h.sub.trans k.sub
  only := fun id j hi => (k.only id j (Nat.lt_of_lt_of_le hi h.len)).trans (h.only id j hi)
  keeps := h.keeps.trans k.keeps fun n hn ho => (h.own n ho).resolve_right (by omega)
  own := fun n hn => by
    rcases k.own n hn with h1 | h1
    · exact h.own n h1
    · exact .inr (Nat.le_trans h.keeps.size h1)
  nt := k.nt.trans h.nt
  defers := k.defers.trans h.defers
  len := Nat.le_trans h.len k.len

theorem newSum_take_le : ∀ {tbl : List (Ent U)} {i j : Nat} {e : Ent U}, tbl[i]? = some e → i < j → newSum (tbl.take i) + e.k.newN ≤ newSum (tbl.take j)
  | [], i, j, e, h, _ => by simp at h
  | e0 :: tbl, 0, j + 1, e, h, _ => by
    simp at h; subst h
    rw [List.take_succ_cons]; simp only [List.take_zero, newSum]; omega
  | e0 :: tbl, i + 1, j + 1, e, h, hij => by
    have := newSum_take_le (tbl := tbl) (i := i) (j := j) (e := e) (by simpa using h) (by omega)
    rw [List.take_succ_cons, List.take_succ_cons]; simp only [newSum]; omega
theorem newSum_take_all {tbl : List (Ent U)} {i : Nat} {e : Ent U} (h : tbl[i]? = some e) : newSum (tbl.take i) + e.k.newN ≤ newSum tbl := by
  have := newSum_take_le (j := tbl.length) h (List.getElem?_eq_some_iff.1 h).1
  rwa [List.take_length] at this

theorem foldH_untouched {m : Nat → Bool} {id : Nat} : ∀ {tbl : List (Ent U)} {i : Nat} {H : Heap U}, id < H.length → (∀ e ∈ tbl, id ∉ e.k.mods) → (foldH m tbl i H)[id]? = H[id]?
  | [], i, H, _, _ => rfl
  | e :: tbl, i, H, hl, h => by
    rw [foldH_cons, foldH_untouched (by rw [stepH_length]; omega) fun e' he' => h e' (by simp [he'])]
    unfold stepH
    have h0 := h e (by simp)
    cases hk : e.k with
    | done r =>
      cases m i with
      | true => rw [hk] at h0; exact app_other hl h0
      | false => simp only; exact List.getElem?_append_left hl
    | _ => rfl
theorem allMods_mem : ∀ {tbl : List (Ent U)} {e : Ent U}, e ∈ tbl → ∀ id ∈ e.k.mods, id ∈ allMods tbl
  | e0 :: tbl, e, h, id, hid => by
    simp at h
    unfold allMods
    rcases h with rfl | h
    · simp [hid]
    · simp [allMods_mem h id hid]

theorem killAll_length : ∀ {l : List Nat} {H : Heap U}, (killAll l H).length = H.length
  | [], H => rfl
  | i :: l, H => by unfold killAll; rw [killAll_length]; unfold Heap.kill; rw [setNth_length]

section
variable {P : Program} {nt : Nat} {ops : Array Oper} {fr0 : Fr} {H0 : Heap U} {tbl : List (Ent U)} {π0 π : Plc} {w0 w : World} {a0 a : Act} {listed : Array Bool} {i : Nat} {o : Oper} {e : Ent U}

theorem Mid.newSet (hM : Mid nt tbl fr0 H0 π0 π w0 a0 listed a w) (he : tbl[i]? = some e) (hb : e.k.bad = false) (hmask : ∀ k, Nat.testBit e.mask k = true → lst listed k = true) :
    ∀ (j : Nat) (ej : Ent U), lst (listed.setIfInBounds i true) j = true → tbl[j]? = some ej → ej.k.bad = false ∧ ∀ k, Nat.testBit ej.mask k = true → lst (listed.setIfInBounds i true) k = true := by
  have hlt : i < listed.size := by rw [hM.size]; exact (List.getElem?_eq_some_iff.1 he).1
  intro j ej hj hej
  rw [lst_set hlt] at hj ⊢
  have up : ∀ k, lst listed k = true → (if k = i then true else lst listed k) = true := fun k hk => by split <;> first | rfl | exact hk
  by_cases h : j = i
  · subst h; rw [he] at hej; cases hej
    exact ⟨hb, fun k hk => up k (hmask k hk)⟩
  · simp only [if_neg h] at hj
    obtain ⟨h1, h2⟩ := hM.clo j ej hj hej
    exact ⟨h1, fun k hk => up k (h2 k hk)⟩

theorem Mid.done {r : ORes U} {πn : Plc} {w' : World} {v : Value} (hT : TblOk P nt ops.toList fr0 H0 tbl) (hM : Mid nt tbl fr0 H0 π0 π w0 a0 listed a w) (he : tbl[i]? = some e) (hi : lst listed i = false) (hE : EntOk P nt ops.toList fr0 H0 (tbl.take i) o e) (hmask : ∀ k, Nat.testBit e.mask k = true → lst listed k = true)
    (hk : e.k = .done r) (hp : Post e.H e.base r π πn w w' v) : Mid nt tbl fr0 H0 π0 πn w0 a0 (listed.setIfInBounds i true) (a.put o.dst v) w' := by
  have hlt : i < listed.size := by rw [hM.size]; exact (List.getElem?_eq_some_iff.1 he).1
  have hilt : i < tbl.length := (List.getElem?_eq_some_iff.1 he).1
  have hkind := hE.kind
  rw [hk] at hkind
  simp only at hkind
  obtain ⟨_, _, hH, _, hmods, hlive⟩ := hkind
  have hbase : e.base = H0.length + newSum (tbl.take i) := hE.base
  have hlat : ∀ (k : Nat) (ek : Ent U), tbl[k]? = some ek → i < k → lst listed k = true → ∀ id ∈ ek.k.mods, (∀ x, e.H[id]? = some x → x = .none) ∧ ¬ (e.base ≤ id ∧ id < e.base + r.new.length) := by
    intro k ek hek hik hmk id hid
    obtain ⟨ok, _, hEk⟩ := hT k ek hek
    have hbit := (hM.later hT he hi hek hik hmk).2.1
    have hkd := hEk.kind
    cases hkk : ek.k with
    | done rk =>
      rw [hkk] at hkd
      simp only at hkd
      rw [hkk] at hid
      have hpre : (tbl.take k)[i]? = some e := by rw [List.getElem?_take, if_pos hik]; exact he
      refine ⟨fun x hx => hkd.2.2.2.2.1 i e hpre hbit id hid x hx, fun hr => ?_⟩
      obtain ⟨x, hx, hx0⟩ := hkd.2.2.2.2.2 id hid
      have h1 := (hkd.2.2.1 id x hx hx0).1
      rw [hbase] at hr
      have h2 := foldH_none (m := Nat.testBit ek.mask) (n := i) (tbl := tbl.take k) (i := 0) (H := H0) (r := r) hpre hk (by rw [Nat.zero_add]; exact hbit) (by rw [List.take_take, Nat.min_eq_left (by omega)]; exact hr.1) (by rw [List.take_take, Nat.min_eq_left (by omega)]; exact hr.2)
      rw [h1] at h2; cases h2; exact hx0 rfl
    | skip => rw [hkk] at hid; simp [EK.mods] at hid
    | panic x => rw [hkk] at hid; simp [EK.mods] at hid
    | dead => rw [hkk] at hid; simp [EK.mods] at hid
  have hle : e.H.le (foldH (lst listed) tbl 0 H0) := hM.look hT he hi hE hmask hH fun k ek hek hik hmk id hid => (hlat k ek hek hik hmk id hid).1
  have hp' := hp.le hle
  have ht : Turned (foldH (lst listed) tbl 0 H0) (foldH (lst (listed.setIfInBounds i true)) tbl 0 H0) e.base r := by
    refine foldH_turned he hk hi (by rw [lst_set hlt]; simp) (fun j hj => by rw [lst_set hlt]; simp [hj]) hbase (fun id hid => ?_) fun j ej hj hij hmj id hid => ?_
    · rw [hk] at hid
      obtain ⟨x, hx, hx0⟩ := hlive id hid
      have h1 := (hH id x hx hx0).1
      have := (List.getElem?_eq_some_iff.1 h1).1
      rwa [foldH_length, ← hbase] at this
    · obtain ⟨h1, h2⟩ := hlat j ej hj hij hmj id hid
      refine ⟨fun h => ?_, h2⟩
      rw [hk] at h
      obtain ⟨x, hx, hx0⟩ := hlive id h
      exact hx0 (h1 x hx)
  have hnn : e.k.newN = r.new.length := by rw [hk]; rfl
  refine ⟨by simp [hM.size], hM.newSet he (by rw [hk]; rfl) hmask, hM.frame hT he hi hE hp.sub (by unfold av0 EK.av; rw [hk]; exact hp.rep), hM.conc.turned hp' ht, fun j ej hj hej l k hl => ?_, fun id k hid => ?_, hM.sub.trans hp.sub, fun id k hid => ?_,
    hM.keeps.trans hp'.keepsOwned fun n hn ho => (hM.own n ho).resolve_right (by omega), fun n hn => ?_, by rw [Act.put_defers']; exact hM.defers, by rw [Act.put_size]; exact hM.nt⟩
  · rw [lst_set hlt] at hj
    by_cases hji : j = i
    · subst hji; simp at hj
    · simp only [if_neg hji] at hj
      rw [hp.only _ _ ?_]
      · exact hM.fresh1 j ej hj hej l k hl
      · rw [hbase]
        rcases Nat.lt_or_ge j i with h | h
        · have := newSum_take_le hej h; omega
        · have := newSum_take_le he (show i < j by omega); omega
  · have := newSum_take_all he
    rw [hp.only _ _ (by omega)]; exact hM.fresh2 id k hid
  · rw [hp.only _ _ (by omega)]; exact hM.only id k hid
  · rcases Owned.turned hp' ht hn with h | h
    · exact hM.own n h
    · exact .inr (Nat.le_trans hM.keeps.size h)

theorem Mid.skip (hT : TblOk P nt ops.toList fr0 H0 tbl) (hM : Mid nt tbl fr0 H0 π0 π w0 a0 listed a w) (he : tbl[i]? = some e) (hi : lst listed i = false) (hE : EntOk P nt ops.toList fr0 H0 (tbl.take i) o e) (hmask : ∀ k, Nat.testBit e.mask k = true → lst listed k = true)
    (hk : e.k = .skip) : Mid nt tbl fr0 H0 π0 π w0 a0 (listed.setIfInBounds i true) (a.put o.dst undef) w := by
  have hlt : i < listed.size := by rw [hM.size]; exact (List.getElem?_eq_some_iff.1 he).1
  have hH : foldH (lst (listed.setIfInBounds i true)) tbl 0 H0 = foldH (lst listed) tbl 0 H0 := by
    refine foldH_same fun j ej hj => ?_
    rw [lst_set hlt, Nat.zero_add]
    by_cases h : j = i
    · subst h; rw [he] at hj; cases hj
      exact .inr fun r hr => by rw [hk] at hr; cases hr
    · exact .inl (by simp [h])
  refine ⟨by simp [hM.size], hM.newSet he (by rw [hk]; rfl) hmask, hM.frame hT he hi hE (Sub.refl π) (by unfold av0 EK.av; rw [hk]; simp [Rep]), by rw [hH]; exact hM.conc, fun j ej hj hej l k hl => ?_, hM.fresh2, hM.sub, hM.only, hM.keeps, by rw [hH]; exact hM.own, by rw [Act.put_defers']; exact hM.defers, by rw [Act.put_size]; exact hM.nt⟩
  rw [lst_set hlt] at hj
  by_cases hji : j = i
  · subst hji; simp at hj
  · simp only [if_neg hji] at hj
    exact hM.fresh1 j ej hj hej l k hl

theorem Mid.start (ha : a.tmps.size = nt) (hf : FrOk π fr0 a.tmps) (hc : Conc π H0 w) (hfr : Fresh π H0.length) : Mid nt tbl fr0 H0 π π w a (Array.replicate tbl.length false) a w := by
  have hl : lst (Array.replicate tbl.length false) = fun _ => false := by
    funext k; unfold lst
    rw [Array.getD_eq_getD_getElem?, Array.getElem?_replicate]; split <;> rfl
  have hF : ∀ (t : Nat), (foldF av0 (fun _ => false) tbl 0 fr0).get t = fr0.get t := fun t => by
    rw [← foldF_take (n := 0) (fun _ _ _ _ => .inl rfl), List.take_zero]; rfl
  have hH : ∀ (tbl : List (Ent U)) (i : Nat) (H : Heap U), (foldH (fun _ => false) tbl i H).le H := by
    intro tbl
    induction tbl with
    | nil => intro i H id k b h; exact h
    | cons e tbl ih =>
      intro i H id k b h
      rw [foldH_cons] at h
      have := ih _ _ id k b h
      unfold stepH at this
      cases hk : e.k with
      | done r =>
        simp only [hk] at this
        unfold Heap.at at this ⊢
        by_cases hlt : id < H.length
        · rwa [List.getElem?_append_left hlt] at this
        · rw [List.getElem?_append_right (by omega)] at this
          cases hx : (nones U r.new.length)[id - H.length]? with
          | none => simp [hx] at this
          | some x => rw [hx, nones_get _ _ _ hx] at this; cases this
      | skip => simpa only [hk] using this
      | panic x => simpa only [hk] using this
      | dead => simpa only [hk] using this
  refine ⟨by simp, fun i ei h => ?_, fun t => ?_, by rw [hl]; exact hc.le (hH _ _ _), fun i ei _ _ j k _ => hfr _ _ (by omega), fun id k h => hfr id k (by omega), Sub.refl π, fun _ _ _ => rfl, Keeps.refl _ w, fun n hn => ?_, rfl, ha⟩
  · rw [hl] at h; cases h
  · rw [hl, hF]; exact hf t
  · rw [hl] at hn
    obtain ⟨id, k, b, p, hb, h⟩ := hn
    exact .inl ⟨id, k, b, p, hH _ _ _ _ _ _ hb, h⟩
end

theorem jkT_get : ∀ (tbl : List (Ent U)) (fr : Fr) (t : Nat), (jkT tbl fr).get t = .junk ∨ ((∀ e ∈ tbl, e.k.bad = false → e.dst ≠ some t) ∧ (jkT tbl fr).get t = fr.get t)
  | [], fr, t => .inr ⟨fun o h => absurd h (by simp), rfl⟩
  | e :: es, fr, t => by
    unfold jkT
    cases hb : e.k.bad with
    | true =>
      simp only
      rcases jkT_get es fr t with h | ⟨h1, h2⟩
      · exact .inl h
      · refine .inr ⟨fun e' he' hb' => ?_, h2⟩
        rcases List.mem_cons.1 he' with rfl | he'
        · rw [hb] at hb'; cases hb'
        · exact h1 e' he' hb'
    | false =>
      cases hd : e.dst with
      | none =>
        simp only
        rcases jkT_get es fr t with h | ⟨h1, h2⟩
        · exact .inl h
        · refine .inr ⟨fun e' he' hb' => ?_, h2⟩
          rcases List.mem_cons.1 he' with rfl | he'
          · rw [hd]; simp
          · exact h1 e' he' hb'
      | some d =>
        simp only
        rw [Fr.get_cons]
        by_cases e0 : d = t
        · rw [if_pos e0]; exact .inl rfl
        · rw [if_neg e0]
          rcases jkT_get es fr t with h | ⟨h1, h2⟩
          · exact .inl h
          · refine .inr ⟨fun e' he' hb' => ?_, h2⟩
            rcases List.mem_cons.1 he' with rfl | he'
            · rw [hd]; simpa using e0
            · exact h1 e' he' hb'
theorem foldF_off {v : Ent U → AV} : ∀ (tbl : List (Ent U)) (i : Nat) (fr : Fr), foldF v (fun _ => false) tbl i fr = fr
  | [], _, _ => rfl
  | e :: tbl, i, fr => by unfold foldF; exact foldF_off tbl (i + 1) fr

theorem region_ok {E : Env U} {ops : Array Oper} {fr0 : Fr} {H0 : Heap U} {K : Fr → Heap U → Prop} {KP : AV → Fr → Heap U → Prop} (hm : E.P.follows .mixedOrders = true)
    (h : DrawEnd E ops.toList fr0 H0 K KP) {rd : Option Nat} {n id : Nat} {Q : Exit → Act → World → Prop} {π : Plc} {w : World} {a : Act} (ha : a.tmps.size = E.nt) (hf : FrOk π fr0 a.tmps) (hc : Conc π H0 w) (hfr : Fresh π H0.length)
    (hK : ∀ fr H π' w' a', K fr H → Step π H0 w a fr H π' w' a' → Q .normal a' w')
    (hP : ∀ x fr H π' w' a' y, KP x fr H → Step π H0 w a fr H π' w' a' → Rep π' x y → Q (.panic [{ v := y, recovered := false }]) a' w') :
    (Code.region id ops true).wpIn (Fw rd) n E.P Q a w := by
  obtain ⟨tbl, vs, htl, hT, hV, hend⟩ := h
  have hsz : tbl.length = ops.size := by rw [htl]; simp
  have hkd : Keeps (fun _ => False) w { w with drawn := w.drawn + 1 } := ⟨rfl, rfl, rfl, Nat.le_refl _, fun _ _ _ => rfl⟩
  have fin : ∀ (π' : Plc) (listed : Array Bool) (a' : Act) (w' : World), Mid E.nt tbl fr0 H0 π π' w a listed a' w' → (∀ k, k < tbl.length → lst listed k = true) → Q .normal a' w' := by
    intro π' listed a' w' hM hall
    rcases hend with ⟨hbad, hk⟩ | ⟨x, ⟨e, he, hx⟩, _⟩
    · have hF : ∀ t, (foldF av0 (lst listed) tbl 0 fr0).get t = (foldF av0 (fun _ => true) tbl 0 fr0).get t := fun t =>
        foldF_congr rfl fun j e hj => .inl (by rw [Nat.zero_add]; exact hall j (List.getElem?_eq_some_iff.1 hj).1)
      have hH : foldH (lst listed) tbl 0 H0 = foldH (fun _ => true) tbl 0 H0 :=
        foldH_same fun j e hj => .inl (by rw [Nat.zero_add]; exact hall j (List.getElem?_eq_some_iff.1 hj).1)
      refine hK _ _ π' w' a' hk ⟨fun t => foldV_rep hV (fun h => h) ?_, by rw [← hH]; exact hM.conc, by rw [foldH_length]; exact hM.fresh2, hM.sub, hM.only, hM.keeps, by rw [← hH]; exact hM.own, by rw [hM.nt, ha], hM.defers, by rw [foldH_length]; omega⟩
      rw [← hF]; exact hM.fr t
    · obtain ⟨k, hk⟩ := List.getElem?_of_mem he
      have := (hM.clo k e (hall k (List.getElem?_eq_some_iff.1 hk).1) hk).1
      rw [hx] at this; cases this
  have loop : ∀ (fuel : Nat) (π' : Plc) (listed : Array Bool) (a' : Act) (w' : World), Mid E.nt tbl fr0 H0 π π' w a listed a' w' → (listed.toList.countP (fun b => !b)) ≤ fuel → wpAnyIn (Fw rd) n E.P .any ops Q fuel listed a' w' := by
    intro fuel
    have none : ∀ (π' : Plc) (listed : Array Bool) (a' : Act) (w' : World), Mid E.nt tbl fr0 H0 π π' w a listed a' w' → Region.ready .any ops listed = [] → ∀ k, k < tbl.length → lst listed k = true := by
      intro π' listed a' w' hM hr k
      induction k using Nat.strongRecOn with
      | ind k ih =>
        intro hk
        cases hlk : lst listed k with
        | true => rfl
        | false =>
          exfalso
          obtain ⟨o, ho, hE⟩ := hT k _ (List.getElem?_eq_getElem hk)
          have : k ∈ Region.ready .any ops listed := by
            rw [mem_ready]
            refine ⟨?_, o, by rw [← Array.getElem?_toList]; exact ho, fun ed hed hb => ?_⟩
            · have hks : k < listed.size := by rw [hM.size]; exact hk
              unfold lst at hlk; simp [hks] at hlk ⊢; exact hlk
            · have := (hE.dep ed (by simpa using hed) hb).1
              rw [List.length_take] at this
              exact ih ed.on (by omega) (by omega)
          rw [hr] at this; cases this
    induction fuel with
    | zero =>
      intro π' listed a' w' hM hc0
      have hall : ∀ k, k < tbl.length → lst listed k = true := by
        intro k hk
        have hks : k < listed.size := by rw [hM.size]; exact hk
        have h0 : listed.toList.countP (fun b => !b) = 0 := by omega
        rw [List.countP_eq_zero] at h0
        have := h0 (listed[k]) (by simp)
        unfold lst; simp [hks] at this ⊢; exact this
      refine ⟨?_, fin π' listed a' w' hM hall⟩
      cases hr : Region.ready .any ops listed with
      | nil => rfl
      | cons k ks =>
        have hk : k ∈ Region.ready .any ops listed := by rw [hr]; simp
        rw [mem_ready] at hk
        obtain ⟨h1, o, ho, _⟩ := hk
        have hks : k < ops.size := (Array.getElem?_eq_some_iff.1 ho).1
        have h2 := hall k (by omega)
        unfold lst at h2
        have hls : k < listed.size := by rw [hM.size]; omega
        simp [hls] at h1 h2; rw [h2] at h1; cases h1
    | succ fuel ih =>
      intro π' listed a' w' hM hcf
      refine ⟨fun hr => fin π' listed a' w' hM (none π' listed a' w' hM hr), fun i hi => ?_⟩
      rw [mem_ready] at hi
      obtain ⟨h1, o, ho, hdep⟩ := hi
      have his : i < ops.size := (Array.getElem?_eq_some_iff.1 ho).1
      have hil : i < tbl.length := by omega
      have hls : i < listed.size := by rw [hM.size]; exact hil
      have hli : lst listed i = false := by unfold lst; simp [hls] at h1 ⊢; exact h1
      obtain ⟨e, he⟩ : ∃ e, tbl[i]? = some e := ⟨_, List.getElem?_eq_getElem hil⟩
      obtain ⟨o', ho', hE⟩ := hT i e he
      have : o' = o := by rw [Array.getElem?_toList, ho] at ho'; exact (Option.some.inj ho').symm
      subst this
      have hmask := hM.mask hT hE fun ed hed hb => hdep ed (by simpa using hed) hb
      have hcnt : (listed.setIfInBounds i true).toList.countP (fun b => !b) ≤ fuel := by
        have hb : listed.toList[i]? = some false := by
          unfold lst at hli; simp [hls] at hli; simp [hls, hli]
        have : ∀ (l : List Bool) (i : Nat), l[i]? = some false → (l.set i true).countP (fun b => !b) + 1 = l.countP (fun b => !b) := by
          intro l
          induction l with
          | nil => intro i h; simp at h
          | cons b l ih2 =>
            intro i h
            cases i with
            | zero => simp at h; subst h; simp
            | succ i =>
              have := ih2 i (by simpa using h)
              simp only [List.set_cons_succ, List.countP_cons]; omega
        have h3 := this _ _ hb
        rw [Array.toList_setIfInBounds]; omega
      unfold wpOpIn
      rw [ho]
      simp only
      have hkind := hE.kind
      have bad : (∃ (k : Nat) (ek : Ent U), Nat.testBit e.mask k = true ∧ (tbl.take i)[k]? = some ek ∧ ek.k.bad = true) → False := by
        rintro ⟨k, ek, hk1, hk2, hk3⟩
        have : tbl[k]? = some ek := by
          rw [List.getElem?_take] at hk2
          split at hk2
          · exact hk2
          · cases hk2
        rw [(hM.clo k ek (hmask k hk1) this).1] at hk3; cases hk3
      cases hk : e.k with
      | dead =>
        rw [hk] at hkind
        exact (bad hkind).elim
      | skip =>
        rw [hk] at hkind
        rw [hM.wantedNo hT he hli hE hmask hkind.1]
        exact ⟨fun _ _ => trivial, ih π' _ _ _ (hM.skip hT he hli hE hmask hk) hcnt⟩
      | done r =>
        rw [hk] at hkind
        simp only at hkind
        rw [hM.wantedYes hT he hli hE hmask hkind.1, if_pos rfl]
        obtain ⟨_, _, hH, ⟨ρ, hρ, hop⟩, _, _⟩ := hkind
        have hlat : ∀ (k : Nat) (ek : Ent U), tbl[k]? = some ek → i < k → lst listed k = true → ∀ id ∈ ek.k.mods, ∀ x, e.H[id]? = some x → x = .none := by
          intro k ek hek hik hmk id hid x hx
          obtain ⟨ok, _, hEk⟩ := hT k ek hek
          have hbit := (hM.later hT he hli hek hik hmk).2.1
          have hkd := hEk.kind
          cases hkk : ek.k with
          | done rk =>
            rw [hkk] at hkd hid
            exact hkd.2.2.2.2.1 i e (by rw [List.getElem?_take, if_pos hik]; exact he) hbit id hid x hx
          | skip => rw [hkk] at hid; simp [EK.mods] at hid
          | panic x => rw [hkk] at hid; simp [EK.mods] at hid
          | dead => rw [hkk] at hid; simp [EK.mods] at hid
        have hle := hM.look hT he hli hE hmask hH hlat
        refine Oper.wpIn_both (fun a2 w2 h2 => ?_) (fun _ _ _ h => h.elim) (hop rd n π' w' a' (hM.conc.le hle) (hρ π' a' (hM.slots hT he hli hE hmask)) fun j k hj => ?_)
        · obtain ⟨v, πn, rfl, hp⟩ := h2
          exact ih πn _ _ _ (hM.done hT he hli hE hmask hk hp) hcnt
        · rw [hE.base]; exact hM.fresh1 i e hli he j k (by rw [hk]; exact hj)
      | panic x =>
        rw [hk] at hkind
        simp only at hkind
        rw [hM.wantedYes hT he hli hE hmask hkind.1, if_pos rfl]
        obtain ⟨_, _, hH, ρ, hρ, hop⟩ := hkind
        have hlat : ∀ (k : Nat) (ek : Ent U), tbl[k]? = some ek → i < k → lst listed k = true → ∀ id ∈ ek.k.mods, ∀ x, e.H[id]? = some x → x = .none := by
          intro k ek hek hik hmk id hid x' hx'
          obtain ⟨ok, _, hEk⟩ := hT k ek hek
          have hbit := (hM.later hT he hli hek hik hmk).2.1
          have hkd := hEk.kind
          cases hkk : ek.k with
          | done rk =>
            rw [hkk] at hkd hid
            exact hkd.2.2.2.2.1 i e (by rw [List.getElem?_take, if_pos hik]; exact he) hbit id hid x' hx'
          | skip => rw [hkk] at hid; simp [EK.mods] at hid
          | panic x => rw [hkk] at hid; simp [EK.mods] at hid
          | dead => rw [hkk] at hid; simp [EK.mods] at hid
        have hle := hM.look hT he hli hE hmask hH hlat
        refine Oper.wpIn_both (fun _ _ h => h.elim) (fun ex a2 w2 h2 => ?_) (hop rd n π' w' a' (hM.conc.le hle) (hρ π' a' (hM.slots hT he hli hE hmask)))
        obtain ⟨y, rfl, rfl, hy, hkp⟩ := h2
        rcases hend with ⟨hbad, _⟩ | ⟨x', _, huni, hKP⟩
        · have := hbad e (List.mem_of_getElem? he)
          rw [hk] at this; cases this
        · have hxx := huni e (List.mem_of_getElem? he) x hk
          subst hxx
          have hlen : (killAll (allMods tbl) H0 ++ nones U (newSum tbl)).length = H0.length + newSum tbl := by rw [List.length_append, killAll_length, nones_length]
          have hold : ∀ id k b, (killAll (allMods tbl) H0 ++ nones U (newSum tbl)).at id k = some b → H0.at id k = some b ∧ id < H0.length ∧ (foldH (lst listed) tbl 0 H0).at id k = some b := by
            intro id k b hb
            unfold Heap.at at hb
            by_cases hid : id < H0.length
            · rw [List.getElem?_append_left (by rw [killAll_length]; exact hid)] at hb
              have hx : ∃ x, (killAll (allMods tbl) H0)[id]? = some x ∧ x ≠ .none := by
                split at hb
                · rename_i h; exact ⟨_, h, by simp⟩
                · rename_i h; exact ⟨_, h, by simp⟩
                · cases hb
              obtain ⟨x, hx, hx0⟩ := hx
              obtain ⟨hn, hx2⟩ := killAll_get hx hx0
              have h3 : (killAll (allMods tbl) H0)[id]? = H0[id]? := hx.trans hx2.symm
              have h4 : (foldH (lst listed) tbl 0 H0)[id]? = H0[id]? := foldH_untouched hid fun e he h => hn (allMods_mem he id h)
              rw [h3] at hb
              exact ⟨hb, hid, (at_congr h4).trans hb⟩
            · rw [List.getElem?_append_right (by rw [killAll_length]; omega)] at hb
              cases hx : (nones U (newSum tbl))[id - (killAll (allMods tbl) H0).length]? with
              | none => simp [hx] at hb
              | some x => rw [hx, nones_get _ _ _ hx] at hb; cases hb
          refine hP x _ _ π' w2 a2 y hKP ⟨fun t => ?_, ?_, by rw [hlen]; exact hM.fresh2, hM.sub, hM.only, hM.keeps.trans hkp (fun _ _ h => h.elim), fun n hn => ?_, by rw [hM.nt, ha], hM.defers, by rw [hlen]; omega⟩ hy
          · rcases jkT_get tbl fr0 t with hj | ⟨hj1, hj2⟩
            · rw [hj]; simp [Rep]
            · rw [hj2]
              have h5 : (foldF av0 (lst listed) tbl 0 fr0).get t = fr0.get t := by
                have := foldF_congr (v := av0) (m := lst listed) (m' := fun _ => false) (t := t) (tbl := tbl) (i := 0) (fr := fr0) (fr' := fr0) rfl fun j e hj => by
                  cases hl : lst listed j with
                  | false => exact .inl (by rw [Nat.zero_add, hl])
                  | true => exact .inr (hj1 e (List.mem_of_getElem? hj) (hM.clo j e hl hj).1)
                rw [this, foldF_off]
              rw [← h5]; exact hM.fr t
          · refine (hM.conc.le fun id k b hb => (hold id k b hb).2.2).keep (Sub.refl π') fun id k b p hb hpl hph => ?_
            obtain ⟨p', hp', hok⟩ := hM.conc.ok id k b (hold id k b hb).2.2
            rw [hpl] at hp'; cases hp'
            exact hkp.block _ (hok.lt hph) (fun h => h)
          · obtain ⟨id, k, b, p, hb, ho, hpl, hph, hn⟩ := hn
            obtain ⟨h1, h2, _⟩ := hold id k b hb
            rw [hM.only id k h2] at hpl
            exact .inl ⟨id, k, b, p, h1, ho, hpl, hph, hn⟩
  refine wpIn_region_any hm ?_
  have hst := Mid.start (tbl := tbl) (nt := E.nt) ha hf hc hfr
  rw [← hsz]
  refine loop tbl.length π _ a _ ?_ ?_
  · exact ⟨hst.size, hst.clo, hst.fr, hst.conc.keep (Sub.refl π) (fun _ _ _ _ _ _ _ => rfl), hst.fresh1, hst.fresh2, hst.sub, hst.only, hkd.weaken (fun _ _ h => h.elim), hst.own, hst.defers, hst.nt⟩
  · refine Nat.le_trans (List.countP_le_length) ?_
    simp
end AE

namespace AE
open Go

variable {U : Uni}

def plainObj (o : Obj) : Prop := (∃ cs t z, o = .cells cs t z) ∨ ∃ es ck, o = .map es ck

theorem Owned.obj {π : Plc} {H : Heap U} {w : World} (hc : Conc π H w) {n : Nat} (h : Owned π H n) : ∃ o, w.heap[n]? = some o ∧ plainObj o := by
  obtain ⟨id, k, b, p, hb, ho, hp, hph, rfl⟩ := h
  obtain ⟨p', hp', hok⟩ := hc.ok id k b hb
  rw [hp] at hp'; cases hp'
  cases b with
  | cells vs t => obtain ⟨h0, cs, h1, h2⟩ := hok; exact ⟨_, h1, .inl ⟨_, _, _, rfl⟩⟩
  | rc vs t => obtain ⟨h0, cs, h1, h2⟩ := hok; exact ⟨_, h1, .inl ⟨_, _, _, rfl⟩⟩
  | row c l t =>
    obtain ⟨h0, h1, h2, h3, cs, h4, h5⟩ := hok
    rcases h5.2 with ⟨e, hn⟩ | ⟨g, cap, cur, e, hbg, hg, _⟩
    · simp only [Place.sv, Value.slice.injEq] at e; exact absurd e.1 hph
    · have hsa : p.sa = some ⟨g, 0, none⟩ := by simp only [Place.sv, Value.slice.injEq] at e; exact e.1
      have hg' : g = p.blk := by simpa using congrArg Addr.block (h3 _ hsa)
      subst hg'; exact ⟨_, hg, .inl ⟨_, _, _, rfl⟩⟩
  | ro c l => cases ho
  | map m l => obtain ⟨es, ck, h1, _⟩ := hok; exact ⟨_, h1, .inr ⟨_, _, rfl⟩⟩
  | mrow o vs => obtain ⟨es, ck, ks, h1, _⟩ := hok; exact ⟨_, h1, .inr ⟨_, _, rfl⟩⟩

structure Base (U : Uni) where
  π : Plc
  H : Heap U
  w : World
  nt : Nat
  fresh : Fresh π H.length
  x : Nat → Prop := fun _ => False
  J : Option Code → World → Prop := fun _ _ => True
  Jk : ∀ p w w', (∀ n, x n → w'.heap[n]? = w.heap[n]?) → J p w → J p w' := by intros; trivial
  Jx : ∀ p w n, J p w → x n → ∃ r, w.heap[n]? = some (.loop r) := by intro _ _ _ _ h; exact h.elim
  xlt : ∀ n, x n → n < w.heap.size := by intro _ h; exact h.elim

theorem not_plain_loop {r : Loop} : ¬ plainObj (Obj.loop r) := by
  rintro (⟨_, _, _, h⟩ | ⟨_, _, h⟩) <;> cases h

abbrev Base.of (π : Plc) (H : Heap U) (w : World) (nt : Nat) (fresh : Fresh π H.length) : Base U := { π := π, H := H, w := w, nt := nt, fresh := fresh }

inductive DfE where
  | call (f : Fn) (xs ys : List AV)
  | mark
  | pend (j : Code)
abbrev Df := List DfE
def pendOf : Df → Option Code
  | .pend j :: _ => some j
  | _ => none
def DfOk (lo : Nat) (π : Plc) (w : World) : Df → List Deferred → Prop
  | [], ds => ds = []
  | .call f xs ys :: l, ds => ∃ cap args ds', ds = { target := .fn f cap, args := args } :: ds' ∧ RepL π xs cap.toList ∧ RepL π ys args.toList ∧ DfOk lo π w l ds'
  | .mark :: l, ds => ∃ D ds', ds = { target := .collected D, args := #[] } :: ds' ∧ w.heap[D]? = some (.deferred (some [])) ∧ lo ≤ D ∧ (∀ d ∈ ds', d.target ≠ .collected D) ∧ DfOk lo π w l ds'
  | .pend _ :: l, ds => DfOk lo π w l ds
theorem DfOk.mono {lo : Nat} {π π' : Plc} (h : Sub π π') {w w' : World} (hw : ∀ D : Nat, w.heap[D]? = some (Obj.deferred (some [])) → w'.heap[D]? = some (Obj.deferred (some []))) : ∀ {l : Df} {ds : List Deferred}, DfOk lo π w l ds → DfOk lo π' w' l ds
  | [], ds, e => e
  | .call f xs ys :: l, ds, ⟨cap, args, ds', e, h1, h2, h3⟩ => ⟨cap, args, ds', e, h1.mono h, h2.mono h, DfOk.mono h hw h3⟩
  | .mark :: l, ds, ⟨D, ds', e, h1, h2, h3, h4⟩ => ⟨D, ds', e, hw D h1, h2, h3, DfOk.mono h hw h4⟩
  | .pend j :: l, ds, e => DfOk.mono (l := l) h hw e

structure St (B : Base U) (fr : Fr) (df : Df) (H : Heap U) (π : Plc) (w : World) (a : Act) : Prop where
  fr : FrOk π fr a.tmps
  conc : Conc π H w
  fresh : Fresh π H.length
  only : ∀ id k, id < B.H.length → π id k = B.π id k
  keeps : Keeps (fun n => Owned B.π B.H n ∨ B.x n) B.w w
  own : ∀ n, Owned π H n → Owned B.π B.H n ∨ B.w.heap.size ≤ n
  nt : a.tmps.size = B.nt
  j : B.J (pendOf df) w
  df : DfOk B.w.heap.size π w df a.defers
  len : B.H.length ≤ H.length

theorem St.sub {B : Base U} {fr : Fr} {df : Df} {H : Heap U} {π : Plc} {w : World} {a : Act} (h : St B fr df H π w a) : Sub B.π π := by
  intro id k p hp
  by_cases hi : id < B.H.length
  · rw [h.only id k hi]; exact hp
  · rw [B.fresh id k (by omega)] at hp; cases hp

theorem Keeps.other {π : Plc} {H : Heap U} {w w' : World} (hc : Conc π H w) (hk : Keeps (Owned π H) w w') {n : Nat} {o : Obj} (ho : w.heap[n]? = some o) (hp : ¬ plainObj o) : w'.heap[n]? = some o := by
  rw [hk.block n (Array.getElem?_eq_some_iff.1 ho).1 fun h => ?_]; exact ho
  obtain ⟨o', ho', hp'⟩ := h.obj hc
  rw [ho] at ho'; cases ho'; exact hp hp'

theorem not_plain_deferred {ds : Option (List Deferred)} : ¬ plainObj (Obj.deferred ds) := by
  rintro (⟨_, _, _, h⟩ | ⟨_, _, h⟩) <;> cases h

theorem St.step {B : Base U} {fr fr' : Fr} {df : Df} {H H' : Heap U} {π π' : Plc} {w w' : World} {a a' : Act} (h : St B fr df H π w a) (k : Step π H w a fr' H' π' w' a') : St B fr' df H' π' w' a' where
  fr := k.fr
  conc := k.conc
  fresh := k.fresh
  only := fun id j hi => (k.only id j (Nat.lt_of_lt_of_le hi h.len)).trans (h.only id j hi)
  keeps := h.keeps.trans k.keeps fun n hn ho => .inl ((h.own n ho).resolve_right (by omega))
  own := fun n hn => by
    rcases k.own n hn with h1 | h1
    · exact h.own n h1
    · exact .inr (Nat.le_trans h.keeps.size h1)
  nt := k.nt.trans h.nt
  df := by rw [k.defers]; exact h.df.mono k.sub fun D hD => k.keeps.other h.conc hD not_plain_deferred
  len := Nat.le_trans h.len k.len
  j := B.Jk _ _ _ (fun n hx => by
    obtain ⟨o, ho⟩ := B.Jx _ _ n h.j hx
    rw [ho]; exact k.keeps.other h.conc ho not_plain_loop) h.j

def lookN : List (Nat × Nat) → Nat → Nat
  | [], i => i
  | (a, b) :: l, i => match Nat.beq a i with
    | true => b
    | false => lookN l i
def sg (m : Nat) (l : List (Nat × Nat)) (i : Nat) : Nat :=
  match Nat.blt i m with
  | true => i
  | false => lookN l i
def Plc.ren (π : Plc) (σ : Nat → Nat) (N : Nat) : Plc := fun id k => if id < N then π (σ id) k else none

def idB (σ : Nat → Nat) (N id id' : Nat) : Bool := Nat.beq (σ id') id && Nat.blt id' N
theorem idB_ok {σ : Nat → Nat} {N id id' : Nat} (h : idB σ N id id' = true) : σ id' = id ∧ id' < N := by
  unfold idB at h
  rw [Bool.and_eq_true] at h
  exact ⟨Nat.eq_of_beq_eq_true h.1, by simpa using h.2⟩

def noId : Nat := 999999999
mutual
def leV (H : Heap U) (σ : Nat → Nat) (N : Nat) : AV → AV → Prop
  | _, .junk => True
  | .tt, .tt => True
  | .ff, .ff => True
  | .tt, .v y => y = .bool true
  | .ff, .v y => y = .bool false
  | .v x, .tt => x = .bool true
  | .v x, .ff => x = .bool false
  | .v x, .v y => x = y
  | .ptr id k i fo, .ptr id' k' i' fo' => isB (idB σ N id id') (k = k' ∧ i = i' ∧ fo = fo')
  | .sl id k off len, .sl id' k' off' len' => match Nat.beq id' noId with
    | true => len = 0 ∧ len' = 0
    | false => isB (idB σ N id id') (k = k' ∧ off = off' ∧ len = len')
  | .v (.slice none 0 0), .sl id' _ _ len' => isB (Nat.beq id' noId) (len' = 0)
  | .gs id k, .gs id' k' => isB (idB σ N id id') (k = k')
  | .gs id k, .sl id' k' off' len' => isB (idB σ N id id') (view H (.gs id k) fun _ _ i2 k2 off len => i2 = id ∧ k2 = k' ∧ off = off' ∧ len = len')
  | .map id k, .map id' k' => isB (idB σ N id id') (k = k')
  | .fn f xs ys, .fn f' xs' ys' => f = f' ∧ leL H σ N xs xs' ∧ leL H σ N ys ys'
  | .ifc t x, .ifc t' x' => t = t' ∧ leV H σ N x x'
  | .agg xs, .agg xs' => leL H σ N xs xs'
  | .tup xs, .tup xs' => leL H σ N xs xs'
  | .alt c a b, .alt c' a' b' => c = c' ∧ leV H σ N a a' ∧ leV H σ N b b'
  | a, .alt c' a' b' => (c' = true → leV H σ N a a') ∧ (c' = false → leV H σ N a b')
  | _, _ => False
def leL (H : Heap U) (σ : Nat → Nat) (N : Nat) : List AV → List AV → Prop
  | [], [] => True
  | x :: xs, y :: ys => leV H σ N x y ∧ leL H σ N xs ys
  | _, _ => False
end

theorem ren_some {π : Plc} {σ : Nat → Nat} {N id id' k : Nat} {p : Place} (h : idB σ N id id' = true) (hp : π id k = some p) : π.ren σ N id' k = some p := by
  obtain ⟨h1, h2⟩ := idB_ok h
  unfold Plc.ren; rw [if_pos h2, h1]; exact hp

mutual
theorem leV_ok {H : Heap U} {π : Plc} {w : World} (hc : Conc π H w) {σ : Nat → Nat} {N : Nat} : ∀ {a b : AV} {y : Value}, leV H σ N a b → Rep π a y → Rep (π.ren σ N) b y := by
  intro a b y h hr
  cases b with
  | junk => simp [Rep]
  | tt => cases a <;> simp_all [leV, Rep]
  | ff => cases a <;> simp_all [leV, Rep]
  | v x => cases a <;> simp_all [leV, Rep]
  | ptr id k i fo =>
    cases a <;> simp only [leV] at h <;> try exact h.elim
    obtain ⟨hb, rfl, rfl, rfl⟩ := isB_ok h
    simp only [Rep] at hr ⊢
    obtain ⟨p, hp, e⟩ := hr
    exact ⟨p, ren_some hb hp, e⟩
  | sl id k off len =>
    have hnil : ∀ x, a = .v x → Rep (π.ren σ N) (.sl id k off len) y := by
      intro x hx
      subst hx
      have hx : x = .slice none 0 0 := by
        cases x with
        | slice sa n c =>
          cases sa with
          | none => cases n with
            | zero => cases c with
              | zero => rfl
              | succ c => exact h.elim
            | succ n => exact h.elim
          | some s => exact h.elim
        | _ => exact h.elim
      subst hx
      simp only [leV] at h
      obtain ⟨_, rfl⟩ := isB_ok h
      simp only [Rep] at hr ⊢
      exact ⟨none, 0, hr, Nat.le_refl _, fun hl => absurd hl (Nat.lt_irrefl _)⟩
    cases a
    case v x => exact hnil x rfl
    all_goals (simp only [leV] at h; try exact h.elim)
    · split at h
      · obtain ⟨rfl, rfl⟩ := h
        simp only [Rep] at hr ⊢
        obtain ⟨ad, c, e, hlc, hh⟩ := hr
        exact ⟨ad, c, e, hlc, fun hl => absurd hl (Nat.lt_irrefl _)⟩
      obtain ⟨hb, rfl, rfl, rfl⟩ := isB_ok h
      simp only [Rep] at hr ⊢
      obtain ⟨ad, c, e, hlc, hh⟩ := hr
      exact ⟨ad, c, e, hlc, fun hl => let ⟨p, hp, ha⟩ := hh hl; ⟨p, ren_some hb hp, ha⟩⟩
    · obtain ⟨hb, hv⟩ := isB_ok h
      obtain ⟨c, l, i2, k2, off2, len2, ⟨rfl, rfl, rfl, rfl⟩, hh⟩ := view_ok hv
      obtain ⟨p, ad, cap, hp, _, rfl, hlc, ha, _⟩ := hh π w y hc hr
      simp only [Rep]
      exact ⟨ad, cap, rfl, hlc, fun hl => ⟨p, ren_some hb hp, ha hl⟩⟩
  | gs id k =>
    cases a <;> simp only [leV] at h <;> try exact h.elim
    obtain ⟨hb, rfl⟩ := isB_ok h
    simp only [Rep] at hr ⊢
    obtain ⟨p, hp, e⟩ := hr
    exact ⟨p, ren_some hb hp, e⟩
  | map id k =>
    cases a <;> simp only [leV] at h <;> try exact h.elim
    obtain ⟨hb, rfl⟩ := isB_ok h
    simp only [Rep] at hr ⊢
    obtain ⟨p, hp, e⟩ := hr
    exact ⟨p, ren_some hb hp, e⟩
  | fn f xs ys =>
    cases a <;> simp only [leV] at h <;> try exact h.elim
    obtain ⟨rfl, h1, h2⟩ := h
    simp only [Rep] at hr ⊢
    obtain ⟨a, b, e, k1, k2⟩ := hr
    exact ⟨a, b, e, leL_ok hc h1 k1, leL_ok hc h2 k2⟩
  | ifc t x =>
    cases a <;> simp only [leV] at h <;> try exact h.elim
    obtain ⟨rfl, h1⟩ := h
    simp only [Rep] at hr ⊢
    obtain ⟨z, e, k⟩ := hr
    exact ⟨z, e, leV_ok hc h1 k⟩
  | agg xs =>
    cases a <;> simp only [leV] at h <;> try exact h.elim
    simp only [Rep] at hr ⊢
    obtain ⟨z, e, k⟩ := hr
    exact ⟨z, e, leL_ok hc h k⟩
  | tup xs =>
    cases a <;> simp only [leV] at h <;> try exact h.elim
    simp only [Rep] at hr ⊢
    obtain ⟨z, e, k⟩ := hr
    exact ⟨z, e, leL_ok hc h k⟩
  | alt c x z =>
    have key : (∀ d p q, a ≠ .alt d p q) → (c = true → leV H σ N a x) ∧ (c = false → leV H σ N a z) := by
      intro hne
      cases a <;> simp only [leV] at h <;> first | exact h | exact absurd rfl (hne _ _ _)
    simp only [Rep]
    by_cases hh : ∃ d p q, a = .alt d p q
    · obtain ⟨d, p, q, rfl⟩ := hh
      simp only [leV] at h
      obtain ⟨rfl, h1, h2⟩ := h
      simp only [Rep] at hr
      exact ⟨fun hc' => leV_ok hc h1 (hr.1 hc'), fun hc' => leV_ok hc h2 (hr.2 hc')⟩
    · obtain ⟨h1, h2⟩ := key fun d p q e => hh ⟨d, p, q, e⟩
      exact ⟨fun hc' => leV_ok hc (h1 hc') hr, fun hc' => leV_ok hc (h2 hc') hr⟩
theorem leL_ok {H : Heap U} {π : Plc} {w : World} (hc : Conc π H w) {σ : Nat → Nat} {N : Nat} : ∀ {xs xs' : List AV} {ys : List Value}, leL H σ N xs xs' → RepL π xs ys → RepL (π.ren σ N) xs' ys := by
  intro xs xs' ys h hr
  cases xs' with
  | nil => cases xs with
    | nil => simpa [RepL] using hr
    | cons x xs => simp [leL] at h
  | cons x' xs' => cases xs with
    | nil => simp [leL] at h
    | cons x xs =>
      simp only [leL] at h
      simp only [RepL] at hr ⊢
      obtain ⟨z, zs, e, h1, h2⟩ := hr
      exact ⟨z, zs, e, leV_ok hc h.1 h1, leL_ok hc h.2 h2⟩
end

def fixB : AB1 U → Bool
  | .cells vs _ => fixedL vs
  | .rc vs _ => fixedL vs
  | .row c _ _ => U.pl c
  | .ro c _ => U.pl c
  | .map m _ => U.mpl m
  | .mrow _ vs => fixedL vs
theorem fixB_ok {π π' : Plc} {w : World} {p : Place} {b : AB1 U} (h : fixB b = true) (hb : BlkOk π w p b) : BlkOk π' w p b := by
  cases b with
  | cells vs t => obtain ⟨h0, cs, h1, h2⟩ := hb; exact ⟨h0, cs, h1, RepL.fixed h h2⟩
  | rc vs t => obtain ⟨h0, cs, h1, h2⟩ := hb; exact ⟨h0, cs, h1, RepL.fixed h h2⟩
  | row c l t =>
    obtain ⟨h0, h1, h2, h3, cs, h4, h5⟩ := hb
    refine ⟨h0, h1, h2, h3, cs, RepL.fixed (fixedL_of fun a ha => ?_) h4, h5⟩
    obtain ⟨x, _, hx⟩ := List.mem_flatMap.1 ha
    exact U.plok c h x a hx
  | ro c l =>
    obtain ⟨h1, h2⟩ := hb
    exact ⟨h1, fun i x hi j a ha => let ⟨y, hy, hr⟩ := h2 i x hi j a ha; ⟨y, hy, hr.fixed (U.plok c h x a (List.mem_of_getElem? ha))⟩⟩
  | map m l =>
    obtain ⟨es, ck, h1, h2, h3, h4, h5⟩ := hb
    refine ⟨es, ck, h1, h2, h3, RepL.fixed (fixedL_of fun a ha => ?_) h4, h5⟩
    obtain ⟨x, _, rfl⟩ := List.mem_map.1 ha
    exact U.mplok m h x
  | mrow o vs =>
    obtain ⟨es, ck, ks, h1, h2, h3, h4, h5, h6⟩ := hb
    have hfx : ∀ k, k < vs.length → (vs.getD k .junk).fixed = true := fun k hk => by
      rw [List.getD_eq_getElem?_getD, List.getElem?_eq_getElem hk]
      exact fixedL_get h _ (List.getElem_mem hk)
    refine ⟨es, ck, ks, h1, h2, h3, h4, RepL.fixed (fixedL_of fun a ha => ?_) h5, fun k hk hn => (h6 k hk hn).fixed (hfx k hk)⟩
    obtain ⟨k, hk, rfl⟩ := List.mem_map.1 ha
    exact hfx k (h3 k hk)

theorem leL_length {H : Heap U} {σ : Nat → Nat} {N : Nat} : ∀ {xs ys : List AV}, leL H σ N xs ys → xs.length = ys.length
  | [], [], _ => rfl
  | [], _ :: _, h => by simp [leL] at h
  | _ :: _, [], h => by simp [leL] at h
  | x :: xs, y :: ys, h => by simp only [leL] at h; simp [leL_length h.2]
theorem leL_get {H : Heap U} {σ : Nat → Nat} {N : Nat} : ∀ {xs ys : List AV}, leL H σ N xs ys → ∀ {k : Nat}, k < xs.length → leV H σ N (xs.getD k .junk) (ys.getD k .junk)
  | [], [], _, k, hk => by simp at hk
  | [], _ :: _, h, _, _ => by simp [leL] at h
  | _ :: _, [], h, _, _ => by simp [leL] at h
  | x :: xs, y :: ys, h, k, hk => by
    simp only [leL] at h
    cases k with
    | zero => simpa using h.1
    | succ k => simpa using leL_get h.2 (k := k) (by simpa using hk)

def leB0 (H : Heap U) (σ : Nat → Nat) (N : Nat) : AB1 U → AB1 U → Prop
  | .cells vs t, .cells vs' t' => eqB t t' (leL H σ N vs vs')
  | .cells vs t, .rc vs' t' => eqB t t' (leL H σ N vs vs')
  | .rc vs t, .rc vs' t' => eqB t t' (leL H σ N vs vs')
  | .row c l t, .ro c' l' => match U.mv c' with
    | false => match U.deq c c' with
      | .isTrue e => isB (U.pl c) (e ▸ l = l')
      | .isFalse _ => False
    | true => match U.deq c (U.rc σ c') with
      | .isTrue e => isB ((U.ids c').all fun id => Nat.blt id N) (e ▸ l = U.rcl σ c' l')
      | .isFalse _ => False
  | .row c l t, .row c' l' t' => match U.mv c' with
    | false => match U.deq c c' with
      | .isTrue e => isB (U.pl c) (t = t' ∧ e ▸ l = l')
      | .isFalse _ => False
    | true => match U.deq c (U.rc σ c') with
      | .isTrue e => isB ((U.ids c').all fun id => Nat.blt id N) (t = t' ∧ e ▸ l = U.rcl σ c' l')
      | .isFalse _ => False
  | .ro c l, .ro c' l' => match U.mv c' with
    | false => match U.deq c c' with
      | .isTrue e => isB (U.pl c) (e ▸ l = l')
      | .isFalse _ => False
    | true => match U.deq c (U.rc σ c') with
      | .isTrue e => isB ((U.ids c').all fun id => Nat.blt id N) (e ▸ l = U.rcl σ c' l')
      | .isFalse _ => False
  | .map m l, .map m' l' => match U.mdeq m m' with
    | .isTrue e => isB (U.mpl m) (e ▸ l = l')
    | .isFalse _ => False
  | .mrow o vs, .mrow o' vs' => isB (o || !o') (leL H σ N vs vs')
  | _, _ => False

theorem leB0_ok {H : Heap U} {π : Plc} {w : World} (hc : Conc π H w) {σ : Nat → Nat} {N : Nat} {p : Place} {b b' : AB1 U} (h : leB0 H σ N b b') (hb : BlkOk π w p b) : BlkOk (π.ren σ N) w p b' ∧ (b'.own = true → b.own = true) ∧ (b'.phys p → b.phys p) := by
  have cel : ∀ {vs vs' : List AV} {t t' : TypeId}, eqB t t' (leL H σ N vs vs') → BlkOk π w p (.cells vs t : AB1 U) → BlkOk (π.ren σ N) w p (.cells vs' t' : AB1 U) := by
    intro vs vs' t t' h hb
    obtain ⟨rfl, h'⟩ := eqB_ok h
    obtain ⟨h0, cs, h1, h2⟩ := hb
    exact ⟨h0, cs, h1, leL_ok hc h' h2⟩
  cases b with
  | cells vs t =>
    cases b' <;> simp only [leB0] at h <;> try exact h.elim
    · exact ⟨cel h hb, fun h => h, fun h => h⟩
    · exact ⟨cel h hb, fun h => rfl, fun h => h⟩
  | rc vs t =>
    cases b' <;> simp only [leB0] at h <;> try exact h.elim
    exact ⟨cel h hb, fun h => h, fun h => h⟩
  | row c l t =>
    have toRo : ∀ {c' : U.C} {l' : List (U.ty c')} {t' : TypeId}, BlkOk (π.ren σ N) w p (.row c' l' t' : AB1 U) → BlkOk (π.ren σ N) w p (.ro c' l') ∧ ((AB1.ro c' l' : AB1 U).phys p → (AB1.row c l t : AB1 U).phys p) := by
      intro c' l' t' hb'
      refine ⟨⟨hb'.2.1, fun i x hi j a ha => hb'.elem i x hi j a ha⟩, fun h => ?_⟩
      obtain ⟨hl, _⟩ := h
      obtain ⟨h0, h1, h2, h3, cs, h4, h5⟩ := hb'
      rcases h5.2 with ⟨_, hn⟩ | ⟨g, cap, cur, e, _⟩
      · exact absurd (List.eq_nil_of_length_eq_zero hn) hl
      · simp only [Place.sv, Value.slice.injEq] at e
        show p.sa ≠ none
        rw [e.1]; simp
    have moved : ∀ {c' : U.C} {l' : List (U.ty c')}, U.mv c' = true → (U.ids c').all (fun id => Nat.blt id N) = true → BlkOk π w p (.row (U.rc σ c') (U.rcl σ c' l') t : AB1 U) → BlkOk (π.ren σ N) w p (.row c' l' t : AB1 U) := by
      intro c' l' hmv hp hb
      obtain ⟨h0, h1, h2, h3, cs, h4, h5⟩ := hb
      have hlen : (U.rcl σ c' l').length = l'.length := by rw [U.rclmap, List.length_map]
      rw [hlen] at h2 h5
      rw [U.rcsz] at h1 h5
      rw [List.all_eq_true] at hp
      refine ⟨h0, h1, h2, h3, cs, Uni.movedBack hmv (fun id hid k => ?_) h4, h5⟩
      have hlt : id < N := by simpa using hp id hid
      unfold Plc.ren; rw [if_pos hlt]
    cases b' <;> simp only [leB0] at h <;> try exact h.elim
    · split at h
      · split at h
        · rename_i e _
          obtain ⟨hp, rfl, h'⟩ := isB_ok h
          subst e; subst h'
          exact ⟨fixB_ok (b := .row _ _ _) hp hb, fun h => h, fun h => h⟩
        · exact h.elim
      · rename_i hmv
        split at h
        · rename_i e _
          obtain ⟨hp, rfl, h'⟩ := isB_ok h
          subst e
          simp only at h'
          subst h'
          exact ⟨moved hmv hp hb, fun h => h, fun h => h⟩
        · exact h.elim
    · split at h
      · split at h
        · rename_i e _
          obtain ⟨hp, h'⟩ := isB_ok h
          subst e; subst h'
          have hb' := fixB_ok (π' := π.ren σ N) (b := .row c l t) hp hb
          obtain ⟨r1, r2⟩ := toRo hb'
          exact ⟨r1, fun h => rfl, r2⟩
        · exact h.elim
      · rename_i hmv
        split at h
        · rename_i e _
          obtain ⟨hp, h'⟩ := isB_ok h
          subst e
          simp only at h'
          subst h'
          obtain ⟨r1, r2⟩ := toRo (moved hmv hp hb)
          exact ⟨r1, fun h => rfl, r2⟩
        · exact h.elim
  | ro c l =>
    cases b' <;> simp only [leB0] at h <;> try exact h.elim
    split at h
    · split at h
      · rename_i e _
        obtain ⟨hp, h'⟩ := isB_ok h
        subst e; subst h'
        exact ⟨fixB_ok (b := .ro _ _) hp hb, fun h => h, fun h => h⟩
      · exact h.elim
    · rename_i c' l' _ hmv
      split at h
      · rename_i e _
        obtain ⟨hp, h'⟩ := isB_ok h
        subst e
        simp only at h'
        subst h'
        rw [List.all_eq_true] at hp
        obtain ⟨h1, h2⟩ := hb
        rw [U.rcsz] at h1
        refine ⟨⟨h1, fun i x hi j a ha => ?_⟩, fun h => h, fun h => ?_⟩
        · obtain ⟨a', ha', hr⟩ := U.rcback c' hmv π (π.ren σ N) σ (fun id hid k => by
            have hlt : id < N := by simpa using hp id hid
            unfold Plc.ren; rw [if_pos hlt]) x j a ha
          obtain ⟨y, hy, hry⟩ := h2 i (U.rce σ c' x) (by rw [U.rclmap, List.getElem?_map, hi]; rfl) j a' ha'
          exact ⟨y, hy, hr y hry⟩
        · obtain ⟨hl, hz⟩ := h
          refine ⟨fun hl2 => hl ?_, by rw [U.rcsz]; exact hz⟩
          rw [U.rclmap] at hl2
          exact List.map_eq_nil_iff.1 hl2
      · exact h.elim
  | map m l =>
    cases b' <;> simp only [leB0] at h <;> try exact h.elim
    split at h
    · rename_i e _
      obtain ⟨hp, h'⟩ := isB_ok h
      subst e; subst h'
      exact ⟨fixB_ok (b := .map _ _) hp hb, fun h => h, fun h => h⟩
    · exact h.elim
  | mrow o vs =>
    cases b' <;> simp only [leB0] at h <;> try exact h.elim
    rename_i o' vs'
    obtain ⟨ho, h'⟩ := isB_ok h
    obtain ⟨es, ck, ks, h1, h2, h3, h4, h5, h6⟩ := hb
    have hlen := leL_length h'
    have hget : ∀ k, k < vs.length → leV H σ N (vs.getD k .junk) (vs'.getD k .junk) := fun k hk => leL_get h' hk
    refine ⟨⟨es, ck, ks, h1, h2, fun k hk => by rw [← hlen]; exact h3 k hk, h4, ?_, fun k hk hn => leV_ok hc (hget k (by omega)) (h6 k (by omega) hn)⟩, fun h => ?_, fun h => h⟩
    · refine RepL.of_get (by have := h5.length; simpa using this) fun j x hx => ?_
      rw [List.getElem?_map] at hx
      cases hj : ks[j]? with
      | none => rw [hj] at hx; cases hx
      | some k =>
        rw [hj] at hx; simp only [Option.map_some, Option.some.injEq] at hx; subst hx
        obtain ⟨y, hy, hr⟩ := h5.get (j := j) (x := vs.getD k .junk) (by rw [List.getElem?_map, hj]; rfl)
        exact ⟨y, hy, leV_ok hc (hget k (h3 k (List.mem_of_getElem? hj))) hr⟩
    · cases o <;> cases o' <;> simp_all [AB1.own]

def leE (H : Heap U) (σ : Nat → Nat) (N : Nat) (c : U.C) : List (U.ty c) → List (U.ty c) → Prop
  | [], [] => True
  | x :: l, x' :: l' => leL H σ N (U.enc c x) (U.enc c x') ∧ leE H σ N c l l'
  | _, _ => False
theorem leE_length {H : Heap U} {σ : Nat → Nat} {N : Nat} {c : U.C} : ∀ {l l' : List (U.ty c)}, leE H σ N c l l' → l.length = l'.length
  | [], [], _ => rfl
  | [], _ :: _, h => h.elim
  | _ :: _, [], h => h.elim
  | x :: l, x' :: l', h => by simp only [leE] at h; simp [leE_length h.2]
theorem leE_get {H : Heap U} {σ : Nat → Nat} {N : Nat} {c : U.C} : ∀ {l l' : List (U.ty c)}, leE H σ N c l l' → ∀ {i : Nat} {x' : U.ty c}, l'[i]? = some x' → ∃ x, l[i]? = some x ∧ leL H σ N (U.enc c x) (U.enc c x')
  | [], [], _, i, x', h => by simp at h
  | [], _ :: _, h, _, _, _ => h.elim
  | _ :: _, [], h, _, _, _ => h.elim
  | x :: l, y :: l', h, i, x', hi => by
    simp only [leE] at h
    cases i with
    | zero => simp at hi; subst hi; exact ⟨x, rfl, h.1⟩
    | succ i => simpa using leE_get h.2 (i := i) (by simpa using hi)
theorem roMove {H : Heap U} {π : Plc} {w : World} (hc : Conc π H w) {σ : Nat → Nat} {N : Nat} {p : Place} {c : U.C} {l l' : List (U.ty c)} (h : leE H σ N c l l') (hb : BlkOk π w p (.ro c l : AB1 U)) : BlkOk (π.ren σ N) w p (.ro c l' : AB1 U) := by
  obtain ⟨h1, h2⟩ := hb
  refine ⟨h1, fun i x hi j a ha => ?_⟩
  obtain ⟨x0, hx0, hle⟩ := leE_get h hi
  have hj : j < (U.enc c x).length := (List.getElem?_eq_some_iff.1 ha).1
  have hj0 : j < (U.enc c x0).length := by rw [leL_length hle]; exact hj
  obtain ⟨y, hy, hr⟩ := h2 i x0 hx0 j _ (List.getElem?_eq_getElem hj0)
  have hv := leL_get hle (k := j) hj0
  rw [List.getD_eq_getElem?_getD, List.getElem?_eq_getElem hj0, List.getD_eq_getElem?_getD, ha] at hv
  exact ⟨y, hy, leV_ok hc hv hr⟩
def leFl (H : Heap U) (σ : Nat → Nat) (N : Nat) (b : AB1 U) (c' : U.C) (l' : List (U.ty c')) : Prop :=
  match b with
  | .row c l _ => match U.deq c c' with
    | .isTrue e => leE H σ N c' (e ▸ l) l'
    | .isFalse _ => False
  | .ro c l => match U.deq c c' with
    | .isTrue e => leE H σ N c' (e ▸ l) l'
    | .isFalse _ => False
  | _ => False
def leB1 (H : Heap U) (σ : Nat → Nat) (N : Nat) (b b' : AB1 U) : Prop :=
  match b' with
  | .ro c' l' => match U.fl c' with
    | true => leFl H σ N b c' l'
    | false => leB0 H σ N b (.ro c' l')
  | b' => leB0 H σ N b b'
theorem leB1_ok {H : Heap U} {π : Plc} {w : World} (hc : Conc π H w) {σ : Nat → Nat} {N : Nat} {p : Place} {b b' : AB1 U} (h : leB1 H σ N b b') (hb : BlkOk π w p b) : BlkOk (π.ren σ N) w p b' ∧ (b'.own = true → b.own = true) ∧ (b'.phys p → b.phys p) := by
  unfold leB1 at h
  split at h
  · rename_i c' l'
    split at h
    · unfold leFl at h
      split at h
      · rename_i c l t
        split at h
        · rename_i e _
          subst e
          have hro : BlkOk π w p (.ro c l : AB1 U) := ⟨hb.2.1, fun i x hi j a ha => hb.elem i x hi j a ha⟩
          refine ⟨roMove hc h hro, fun _ => rfl, fun hp => ?_⟩
          obtain ⟨hl, _⟩ := hp
          obtain ⟨h0, h1, h2, h3, cs, h4, h5⟩ := hb
          rcases h5.2 with ⟨_, hn⟩ | ⟨g, cap, cur, e, _⟩
          · exact absurd (List.eq_nil_of_length_eq_zero ((leE_length h).symm.trans hn)) hl
          · simp only [Place.sv, Value.slice.injEq] at e
            show p.sa ≠ none
            rw [e.1]; simp
        · exact h.elim
      · rename_i c l
        split at h
        · rename_i e _
          subst e
          refine ⟨roMove hc h hb, fun h => h, fun hp => ?_⟩
          obtain ⟨hl, hz⟩ := hp
          exact ⟨fun hl2 => hl (List.eq_nil_of_length_eq_zero (by rw [← leE_length h]; simp only at hl2 ⊢; rw [hl2]; rfl)), hz⟩
        · exact h.elim
      · exact h.elim
    · exact leB0_ok hc h hb
  · exact leB0_ok hc h hb

def leBk (H : Heap U) (σ : Nat → Nat) (N : Nat) : Option (AB U) → AB U → Prop
  | _, .none => True
  | some (.one b), .one b' => leB1 H σ N b b'
  | some (.fam n f), .fam n' f' => n = n' ∧ (∀ k, fixB (f k) = true) ∧ f = f'
  | _, _ => False

def leHs (σ : Nat → Nat) (N : Nat) (H : Heap U) : Nat → Heap U → Prop
  | _, [] => True
  | i, b :: l => leBk H σ N (nth H (σ i)) b ∧ leHs σ N H (i + 1) l

theorem leHs_get {σ : Nat → Nat} {N : Nat} {H : Heap U} : ∀ {i : Nat} {l : Heap U}, leHs σ N H i l → ∀ {j : Nat} {b : AB U}, l[j]? = some b → leBk H σ N (nth H (σ (i + j))) b
  | i, [], _, j, b, h => by simp at h
  | i, x :: l, h, j, b, hj => by
    simp only [leHs] at h
    cases j with
    | zero => simp at hj; subst hj; exact h.1
    | succ j =>
      have := leHs_get h.2 (j := j) (b := b) (by simpa using hj)
      rwa [show i + 1 + j = i + (j + 1) by omega] at this

theorem leBk_at {σ : Nat → Nat} {N : Nat} {H H' : Heap U} {id k : Nat} {b : AB1 U} (h : leHs σ N H 0 H') (hb : H'.at id k = some b) : ∃ b0, H.at (σ id) k = some b0 ∧ ∀ (π : Plc) (w : World) (p : Place), Conc π H w → BlkOk π w p b0 → BlkOk (π.ren σ N) w p b ∧ (b.own = true → b0.own = true) ∧ (b.phys p → b0.phys p) := by
  unfold Heap.at at hb ⊢
  cases hx : H'[id]? with
  | none => simp [hx] at hb
  | some x =>
    have := leHs_get h hx
    rw [Nat.zero_add, nth_eq] at this
    rw [hx] at hb
    cases x with
    | none => cases hb
    | one b' =>
      simp only at hb
      cases hy : H[σ id]? with
      | none => rw [hy] at this; simp [leBk] at this
      | some y =>
        rw [hy] at this
        cases y with
        | none => simp [leBk] at this
        | fam n f => simp [leBk] at this
        | one b0 =>
          simp only [leBk] at this
          split at hb
          · rename_i hk; cases hb
            exact ⟨b0, by simp [hk], fun π w p hc hok => leB1_ok hc this hok⟩
          · cases hb
    | fam n f =>
      simp only at hb
      cases hy : H[σ id]? with
      | none => rw [hy] at this; simp [leBk] at this
      | some y =>
        rw [hy] at this
        cases y with
        | none => simp [leBk] at this
        | one b0 => simp [leBk] at this
        | fam n0 f0 =>
          simp only [leBk] at this
          obtain ⟨rfl, hfix, rfl⟩ := this
          split at hb
          · rename_i hk; cases hb
            exact ⟨_, by simp [hk], fun π w p _ hok => ⟨fixB_ok (hfix k) hok, fun h => h, fun h => h⟩⟩
          · cases hb

def liveL (σ : Nat → Nat) : Nat → Heap U → List Nat
  | _, [] => []
  | i, .none :: l => liveL σ (i + 1) l
  | i, _ :: l => σ i :: liveL σ (i + 1) l
def nodupB : List Nat → Bool
  | [] => true
  | x :: l => !memN x l && nodupB l
theorem liveL_mem {σ : Nat → Nat} : ∀ {i : Nat} {l : Heap U} {j : Nat} {b : AB U}, l[j]? = some b → b ≠ .none → σ (i + j) ∈ liveL σ i l
  | i, [], j, b, h, _ => by simp at h
  | i, x :: l, j, b, h, hb => by
    cases j with
    | zero =>
      simp at h; subst h
      cases x with
      | none => exact absurd rfl hb
      | one b => simp [liveL]
      | fam n f => simp [liveL]
    | succ j =>
      have := liveL_mem (σ := σ) (i := i + 1) (l := l) (j := j) (b := b) (by simpa using h) hb
      rw [show i + 1 + j = i + (j + 1) by omega] at this
      cases x with
      | none => simpa [liveL] using this
      | one b => simp [liveL, this]
      | fam n f => simp [liveL, this]
theorem liveL_inj {σ : Nat → Nat} : ∀ {i : Nat} {l : Heap U}, nodupB (liveL σ i l) = true → ∀ {j j' : Nat} {b b' : AB U}, l[j]? = some b → l[j']? = some b' → b ≠ .none → b' ≠ .none → σ (i + j) = σ (i + j') → j = j'
  | i, [], _, j, j', b, b', h, _, _, _, _ => by simp at h
  | i, x :: l, hn, j, j', b, b', h, h', hb, hb', e => by
    have key : ∀ (j j' : Nat) (b b' : AB U), (x :: l)[j]? = some b → (x :: l)[j']? = some b' → b ≠ .none → b' ≠ .none → σ (i + j) = σ (i + j') → j < j' → False := by
      intro j j' b b' h h' hb hb' e hlt
      cases j with
      | succ j =>
        cases j' with
        | zero => omega
        | succ j' =>
          have hn' : nodupB (liveL σ (i + 1) l) = true := by
            cases x with
            | none => simpa [liveL] using hn
            | one b => simp only [liveL, nodupB, Bool.and_eq_true] at hn; exact hn.2
            | fam n f => simp only [liveL, nodupB, Bool.and_eq_true] at hn; exact hn.2
          have := liveL_inj hn' (j := j) (j' := j') (by simpa using h) (by simpa using h') hb hb' (by rw [show i + 1 + j = i + (j + 1) by omega, show i + 1 + j' = i + (j' + 1) by omega]; exact e)
          omega
      | zero =>
        cases j' with
        | zero => omega
        | succ j' =>
          simp at h; subst h
          have hm := liveL_mem (σ := σ) (i := i + 1) (l := l) (j := j') (b := b') (by simpa using h') hb'
          rw [show i + 1 + j' = i + (j' + 1) by omega, ← e] at hm
          simp only [Nat.add_zero] at hm
          cases x with
          | none => exact hb rfl
          | one b => simp only [liveL, nodupB, Bool.and_eq_true, memN_iff.2 hm] at hn; simp at hn
          | fam n f => simp only [liveL, nodupB, Bool.and_eq_true, memN_iff.2 hm] at hn; simp at hn
    rcases Nat.lt_trichotomy j j' with h1 | h1 | h1
    · exact (key j j' b b' h h' hb hb' e h1).elim
    · exact h1
    · exact (key j' j b' b h' h hb' hb e.symm h1).elim

def leF (H : Heap U) (σ : Nat → Nat) (N : Nat) (fr : Fr) : Fr → Prop
  | [] => True
  | (t, x) :: l => leV H σ N (fr.get t) x ∧ leF H σ N fr l
theorem leF_get {H : Heap U} {w : World} {σ : Nat → Nat} {N : Nat} {fr : Fr} {π : Plc} (hc : Conc π H w) {t : Nat} {y : Value} (hr : Rep π (fr.get t) y) : ∀ {fr' : Fr}, leF H σ N fr fr' → Rep (π.ren σ N) (fr'.get t) y
  | [], _ => by simp [Fr.get, Rep]
  | (t', x) :: l, h => by
    simp only [leF] at h
    rw [Fr.get_cons]
    split
    · rename_i e; subst e; exact leV_ok hc h.1 hr
    · exact leF_get hc hr h.2

def leD (H : Heap U) (σ : Nat → Nat) (N : Nat) : Df → Prop
  | [] => True
  | .call _ xs ys :: l => leL H σ N xs xs ∧ leL H σ N ys ys ∧ leD H σ N l
  | .mark :: l => leD H σ N l
  | .pend _ :: l => leD H σ N l
theorem leD_ok {lo : Nat} {H : Heap U} {w : World} {σ : Nat → Nat} {N : Nat} {π : Plc} (hc : Conc π H w) : ∀ {df : Df} {ds : List Deferred}, leD H σ N df → DfOk lo π w df ds → DfOk lo (π.ren σ N) w df ds
  | [], ds, _, h => h
  | .call f xs ys :: l, ds, h, ⟨cap, args, ds', e, h1, h2, h3⟩ => by
    simp only [leD] at h
    exact ⟨cap, args, ds', e, leL_ok hc h.1 h1, leL_ok hc h.2.1 h2, leD_ok hc h.2.2 h3⟩
  | .mark :: l, ds, h, ⟨D, ds', e, h1, h2, h3, h4⟩ => ⟨D, ds', e, h1, h2, h3, leD_ok hc (df := l) h h4⟩
  | .pend j :: l, ds, h, h1 => leD_ok hc (df := l) h h1

def memK (i : Nat) : List (Nat × Nat) → Bool
  | [] => false
  | (a, _) :: l => match Nat.beq a i with
    | true => true
    | false => memK i l
def addK (m id id' : Nat) (l : List (Nat × Nat)) : List (Nat × Nat) :=
  match Nat.blt id' m, memK id' l with
  | false, false => l ++ [(id', id)]
  | _, _ => l
mutual
def mtV (m : Nat) : AV → AV → List (Nat × Nat) → List (Nat × Nat)
  | .ptr id _ _ _, .ptr id' _ _ _, l => addK m id id' l
  | .sl id _ _ _, .sl id' _ _ _, l => match Nat.beq id noId with
    | true => l
    | false => addK m id id' l
  | .gs id _, .gs id' _, l => addK m id id' l
  | .gs id _, .sl id' _ _ _, l => addK m id id' l
  | .map id _, .map id' _, l => addK m id id' l
  | .fn _ xs ys, .fn _ xs' ys', l => mtL m ys ys' (mtL m xs xs' l)
  | .ifc _ x, .ifc _ x', l => mtV m x x' l
  | .agg xs, .agg xs', l => mtL m xs xs' l
  | .tup xs, .tup xs', l => mtL m xs xs' l
  | .alt _ a b, .alt _ a' b', l => mtV m b b' (mtV m a a' l)
  | _, _, l => l
def mtL (m : Nat) : List AV → List AV → List (Nat × Nat) → List (Nat × Nat)
  | x :: xs, y :: ys, l => mtL m xs ys (mtV m x y l)
  | _, _, l => l
end
def mtF (m : Nat) (fr : Fr) : Fr → List (Nat × Nat) → List (Nat × Nat)
  | [], l => l
  | (t, x) :: r, l => mtF m fr r (mtV m (fr.get t) x l)
def inB : AB1 U → Option (List AV)
  | .cells vs _ => some vs
  | .rc vs _ => some vs
  | .mrow _ vs => some vs
  | .row c l _ => match U.fl c with
    | true => some (l.flatMap (U.enc c))
    | false => none
  | .ro c l => match U.fl c with
    | true => some (l.flatMap (U.enc c))
    | false => none
  | _ => none
def mtH (m : Nat) (H H' : Heap U) : Nat → List (Nat × Nat) → List (Nat × Nat) → List (Nat × Nat)
  | 0, _, l => l
  | _ + 1, [], l => l
  | n + 1, (id', id) :: q, l =>
    let l' := match nth H id, nth H' id' with
      | some (.one b), some (.one b') => match inB b, inB b' with
        | some vs, some vs' => mtL m vs vs' l
        | _, _ => l
      | _, _ => l
    mtH m H H' n (q ++ l'.drop l.length) l'
def mtB (m : Nat) (H H' : Heap U) : Nat → Nat → List (Nat × Nat) → List (Nat × Nat)
  | 0, _, l => l
  | n + 1, id, l => mtB m H H' n (id + 1) (match nth H id, nth H' id with
      | some (.one b), some (.one b') => match inB b, inB b' with
        | some vs, some vs' => mtL m vs vs' l
        | _, _ => l
      | _, _ => l)

def weakA (m : Nat) (fr : Fr) (df : Df) (H : Heap U) (fr' : Fr) (H' : Heap U) : Prop :=
  let l0 := mtB m H H' m 0 (mtF m fr fr' [])
  let l := mtH m H H' 40 l0 l0
  let σ := sg m l
  let N := H'.length
  isB (Nat.ble m N && nodupB (liveL σ 0 H')) (leF H σ N fr fr' ∧ leD H σ N df ∧ leHs σ N H 0 H')

theorem at_lt {H' : Heap U} {id k : Nat} {b : AB1 U} (hb : H'.at id k = some b) : id < H'.length ∧ ∃ x, H'[id]? = some x ∧ x ≠ .none := by
  unfold Heap.at at hb
  split at hb
  · rename_i h; exact ⟨(List.getElem?_eq_some_iff.1 h).1, _, h, by simp⟩
  · rename_i h; exact ⟨(List.getElem?_eq_some_iff.1 h).1, _, h, by simp⟩
  · cases hb

theorem Conc.ren {H H' : Heap U} {σ : Nat → Nat} {π : Plc} {w : World} (hc : Conc π H w) (hH : leHs σ H'.length H 0 H') (hn : nodupB (liveL σ 0 H') = true) : Conc (π.ren σ H'.length) H' w := by
  have hpl : ∀ id k, id < H'.length → π.ren σ H'.length id k = π (σ id) k := fun id k h => by unfold Plc.ren; rw [if_pos h]
  refine ⟨fun id k b hb => ?_, fun id k b id' k' b' p p' hb hb' hne ho hp hp' h1 h2 => ?_⟩
  · obtain ⟨b0, hb0, hh⟩ := leBk_at hH hb
    obtain ⟨p, hp, hok⟩ := hc.ok _ _ _ hb0
    exact ⟨p, by rw [hpl id k (at_lt hb).1]; exact hp, (hh π w p hc hok).1⟩
  · obtain ⟨b0, hb0, hh⟩ := leBk_at hH hb
    obtain ⟨b0', hb0', hh'⟩ := leBk_at hH hb'
    rw [hpl id k (at_lt hb).1] at hp
    rw [hpl id' k' (at_lt hb').1] at hp'
    obtain ⟨q, hq, hok⟩ := hc.ok _ _ _ hb0
    rw [hp] at hq; cases hq
    obtain ⟨q', hq', hok'⟩ := hc.ok _ _ _ hb0'
    rw [hp'] at hq'; cases hq'
    obtain ⟨_, e1, e2⟩ := hh π w p hc hok
    obtain ⟨_, e1', e2'⟩ := hh' π w p' hc hok'
    refine hc.sep _ _ b0 _ _ b0' p p' hb0 hb0' ?_ (e1 ho) hp hp' (e2 h1) (e2' h2)
    rcases hne with hne | hne
    · left
      intro e
      obtain ⟨_, x, hx, hx0⟩ := at_lt hb
      obtain ⟨_, x', hx', hx0'⟩ := at_lt hb'
      exact hne (liveL_inj hn hx hx' hx0 hx0' (by rw [Nat.zero_add, Nat.zero_add]; exact e))
    · exact .inr hne

theorem weak_ok {B : Base U} {fr fr' : Fr} {df : Df} {H H' : Heap U} {π : Plc} {w : World} {a : Act} (h : weakA B.H.length fr df H fr' H') (hS : St B fr df H π w a) : ∃ π', St B fr' df H' π' w a := by
  unfold weakA at h
  simp only at h
  generalize mtH B.H.length H H' 40 _ _ = l at h
  obtain ⟨hbb, hF, hD, hH⟩ := isB_ok h
  rw [Bool.and_eq_true] at hbb
  have hN : B.H.length ≤ H'.length := by simpa using hbb.1
  have hlt : ∀ id k b, H'.at id k = some b → id < H'.length ∧ ∃ x, H'[id]? = some x ∧ x ≠ .none := by
    intro id k b hb
    unfold Heap.at at hb
    split at hb
    · rename_i h; exact ⟨(List.getElem?_eq_some_iff.1 h).1, _, h, by simp⟩
    · rename_i h; exact ⟨(List.getElem?_eq_some_iff.1 h).1, _, h, by simp⟩
    · cases hb
  have hpl : ∀ id k, id < H'.length → π.ren (sg B.H.length l) H'.length id k = π (sg B.H.length l id) k := fun id k h => by unfold Plc.ren; rw [if_pos h]
  refine ⟨π.ren (sg B.H.length l) H'.length, fun t => leF_get hS.conc (hS.fr t) hF, ⟨fun id k b hb => ?_, fun id k b id' k' b' p p' hb hb' hne ho hp hp' h1 h2 => ?_⟩, fun id k hid => ?_, fun id k hid => ?_, hS.keeps, fun n hn => ?_, hS.nt, hS.j, leD_ok hS.conc hD hS.df, hN⟩
  · obtain ⟨b0, hb0, hh⟩ := leBk_at hH hb
    obtain ⟨p, hp, hok⟩ := hS.conc.ok _ _ _ hb0
    exact ⟨p, by rw [hpl id k (hlt id k b hb).1]; exact hp, (hh π w p hS.conc hok).1⟩
  · obtain ⟨b0, hb0, hh⟩ := leBk_at hH hb
    obtain ⟨b0', hb0', hh'⟩ := leBk_at hH hb'
    rw [hpl id k (hlt id k b hb).1] at hp
    rw [hpl id' k' (hlt id' k' b' hb').1] at hp'
    obtain ⟨q, hq, hok⟩ := hS.conc.ok _ _ _ hb0
    rw [hp] at hq; cases hq
    obtain ⟨q', hq', hok'⟩ := hS.conc.ok _ _ _ hb0'
    rw [hp'] at hq'; cases hq'
    obtain ⟨_, e1, e2⟩ := hh π w p hS.conc hok
    obtain ⟨_, e1', e2'⟩ := hh' π w p' hS.conc hok'
    refine hS.conc.sep _ _ b0 _ _ b0' p p' hb0 hb0' ?_ (e1 ho) hp hp' (e2 h1) (e2' h2)
    rcases hne with hne | hne
    · left
      intro e
      obtain ⟨_, x, hx, hx0⟩ := hlt id k b hb
      obtain ⟨_, x', hx', hx0'⟩ := hlt id' k' b' hb'
      exact hne (liveL_inj hbb.2 hx hx' hx0 hx0' (by rw [Nat.zero_add, Nat.zero_add]; exact e))
    · exact .inr hne
  · unfold Plc.ren; rw [if_neg (by omega)]
  · rw [hpl id k (by omega)]
    have : sg B.H.length l id = id := by
      unfold sg
      have : Nat.blt id B.H.length = true := by simpa using hid
      rw [this]
    rw [this]; exact hS.only id k hid
  · obtain ⟨id, k, b, p, hb, ho, hp, hph, e⟩ := hn
    obtain ⟨b0, hb0, hh⟩ := leBk_at hH hb
    rw [hpl id k (hlt id k b hb).1] at hp
    obtain ⟨q, hq, hok⟩ := hS.conc.ok _ _ _ hb0
    rw [hp] at hq; cases hq
    obtain ⟨_, e1, e2⟩ := hh π w p hS.conc hok
    exact hS.own n ⟨_, k, b0, p, hb0, e1 ho, hp, e2 hph, e⟩
end AE

namespace AE
open Go

variable {U : Uni}

mutual
def nlV (gh : List Nat) : AV → AV
  | .gs id k => match memN id gh with
    | true => .v (.slice none 0 0)
    | false => .gs id k
  | .sl id k off len => match memN id gh with
    | true => .sl noId 0 0 0
    | false => .sl id k off len
  | .fn f xs ys => .fn f (nlL gh xs) (nlL gh ys)
  | .ifc t x => .ifc t (nlV gh x)
  | .agg xs => .agg (nlL gh xs)
  | .tup xs => .tup (nlL gh xs)
  | .junk => .junk
  | .tt => .tt
  | .ff => .ff
  | .v x => .v x
  | .ptr id k i fo => .ptr id k i fo
  | .map id k => .map id k
  | .alt c a b => .alt c a b
def nlL (gh : List Nat) : List AV → List AV
  | [] => []
  | x :: xs => nlV gh x :: nlL gh xs
end
mutual
def nlOkV (gh : List Nat) : AV → Prop
  | .gs id k => match memN id gh with
    | true => k = 0
    | false => True
  | .sl id _ _ len => match memN id gh with
    | true => len = 0
    | false => True
  | .ptr id _ _ _ => isB (!memN id gh) True
  | .map id _ => isB (!memN id gh) True
  | .fn _ xs ys => nlOkL gh xs ∧ nlOkL gh ys
  | .ifc _ x => nlOkV gh x
  | .agg xs => nlOkL gh xs
  | .tup xs => nlOkL gh xs
  | .alt _ a b => isB (a.fixed && b.fixed) True
  | .junk => True
  | .tt => True
  | .ff => True
  | .v _ => True
def nlOkL (gh : List Nat) : List AV → Prop
  | [] => True
  | x :: xs => nlOkV gh x ∧ nlOkL gh xs
end

theorem memN_false {n : Nat} {l : List Nat} (h : memN n l = false) : n ∉ l := fun hh => by rw [memN_iff.2 hh] at h; cases h

structure NilAt (gh : List Nat) (π π2 : Plc) : Prop where
  out : ∀ id k, id ∉ gh → π2 id k = π id k
  at_ : ∀ id, id ∈ gh → ∃ p, π2 id 0 = some p ∧ p.sv = .slice none 0 0

mutual
theorem nl_rep {gh : List Nat} {π π2 : Plc} (h : NilAt gh π π2) : ∀ {a : AV} {y : Value}, nlOkV gh a → Rep π (nlV gh a) y → Rep π2 a y
  | .junk, _, _, _ => by simp [Rep]
  | .tt, y, _, e => by simpa [Rep, nlV] using e
  | .ff, y, _, e => by simpa [Rep, nlV] using e
  | .v x, y, _, e => by simpa [Rep, nlV] using e
  | .gs id k, y, hk, e => by
    simp only [nlOkV] at hk
    simp only [nlV] at e
    split at hk
    · rename_i hm
      rw [hm] at e
      simp only [Rep] at e ⊢
      subst hk
      obtain ⟨p, hp, hs⟩ := h.at_ id (memN_iff.1 hm)
      exact ⟨p, hp, by rw [e, hs]⟩
    · rename_i hm
      rw [hm] at e
      simp only [Rep] at e ⊢
      rw [h.out id k (memN_false hm)]; exact e
  | .sl id k off len, y, hk, e => by
    simp only [nlOkV] at hk
    simp only [nlV] at e
    split at hk
    · rename_i hm
      rw [hm] at e
      simp only [Rep] at e ⊢
      subst hk
      obtain ⟨a, c, e, hl, _⟩ := e
      exact ⟨a, c, e, hl, fun hh => absurd hh (Nat.lt_irrefl _)⟩
    · rename_i hm
      rw [hm] at e
      simp only [Rep] at e ⊢
      rw [h.out id k (memN_false hm)]; exact e
  | .ptr id k i fo, y, hk, e => by
    simp only [nlOkV] at hk
    obtain ⟨hm, _⟩ := isB_ok hk
    simp only [nlV, Rep] at e ⊢
    rw [h.out id k (memN_false (by simpa using hm))]; exact e
  | .map id k, y, hk, e => by
    simp only [nlOkV] at hk
    obtain ⟨hm, _⟩ := isB_ok hk
    simp only [nlV, Rep] at e ⊢
    rw [h.out id k (memN_false (by simpa using hm))]; exact e
  | .fn f xs ys, y, hk, e => by
    simp only [nlOkV] at hk
    simp only [nlV, Rep] at e ⊢; obtain ⟨a, b, e, h1, h2⟩ := e
    exact ⟨a, b, e, nl_repL h hk.1 h1, nl_repL h hk.2 h2⟩
  | .ifc t x, y, hk, e => by
    simp only [nlOkV] at hk
    simp only [nlV, Rep] at e ⊢; obtain ⟨z, e, h1⟩ := e; exact ⟨z, e, nl_rep h hk h1⟩
  | .agg xs, y, hk, e => by
    simp only [nlOkV] at hk
    simp only [nlV, Rep] at e ⊢; obtain ⟨a, e, h1⟩ := e; exact ⟨a, e, nl_repL h hk h1⟩
  | .tup xs, y, hk, e => by
    simp only [nlOkV] at hk
    simp only [nlV, Rep] at e ⊢; obtain ⟨a, e, h1⟩ := e; exact ⟨a, e, nl_repL h hk h1⟩
  | .alt c a b, y, hk, e => by
    simp only [nlOkV] at hk
    obtain ⟨hf, _⟩ := isB_ok hk
    simp only [nlV] at e
    exact Rep.fixed (a := .alt c a b) (by simpa [AV.fixed] using hf) e
theorem nl_repL {gh : List Nat} {π π2 : Plc} (h : NilAt gh π π2) : ∀ {xs : List AV} {ys : List Value}, nlOkL gh xs → RepL π (nlL gh xs) ys → RepL π2 xs ys
  | [], ys, _, e => by simpa [RepL, nlL] using e
  | x :: xs, ys, hk, e => by
    simp only [nlOkL] at hk
    simp only [nlL, RepL] at e ⊢; obtain ⟨z, zs, e, h1, h2⟩ := e
    exact ⟨z, zs, e, nl_rep h hk.1 h1, nl_repL h hk.2 h2⟩
end
theorem nlL_length (gh : List Nat) : ∀ (xs : List AV), (nlL gh xs).length = xs.length
  | [] => rfl
  | x :: xs => by simp [nlL, nlL_length gh xs]
theorem nlL_getD {gh : List Nat} : ∀ {xs : List AV} {k : Nat}, k < xs.length → (nlL gh xs).getD k .junk = nlV gh (xs.getD k .junk)
  | [], _, h => by simp at h
  | x :: xs, 0, _ => by simp [nlL]
  | x :: xs, k + 1, h => by simpa [nlL] using nlL_getD (xs := xs) (k := k) (by simpa using h)
theorem nlOkL_getD {gh : List Nat} : ∀ {xs : List AV}, nlOkL gh xs → ∀ {k : Nat}, k < xs.length → nlOkV gh (xs.getD k .junk)
  | [], _, _, h => by simp at h
  | x :: xs, hk, 0, _ => by simp only [nlOkL] at hk; simpa using hk.1
  | x :: xs, hk, k + 1, h => by simp only [nlOkL] at hk; simpa using nlOkL_getD hk.2 (k := k) (by simpa using h)

def nlB (gh : List Nat) : AB1 U → AB1 U
  | .cells vs t => .cells (nlL gh vs) t
  | .rc vs t => .rc (nlL gh vs) t
  | .mrow o vs => .mrow o (nlL gh vs)
  | .row c l t => .row c l t
  | .ro c l => .ro c l
  | .map m l => .map m l
def nlOkB (gh : List Nat) : AB1 U → Prop
  | .cells vs _ => nlOkL gh vs
  | .rc vs _ => nlOkL gh vs
  | .mrow _ vs => nlOkL gh vs
  | .row c _ _ => match U.mv c with
    | true => isB ((U.ids c).all fun id => !memN id gh) True
    | false => isB (U.pl c) True
  | .ro c _ => match U.mv c with
    | true => isB ((U.ids c).all fun id => !memN id gh) True
    | false => isB (U.pl c) True
  | .map m _ => isB (U.mpl m) True
def nlA (gh : List Nat) : AB U → AB U
  | .one b => .one (nlB gh b)
  | .none => .none
  | .fam n f => .fam n f
def nlH (gh : List Nat) : Nat → Heap U → Heap U
  | _, [] => []
  | i, b :: l => (match memN i gh with
    | true => .none
    | false => nlA gh b) :: nlH gh (i + 1) l
def nilA : AB U → Prop
  | .one (.row _ l _) => l = []
  | .one (.ro _ l) => l = []
  | _ => False
def nlOkA (gh : List Nat) : AB U → Prop
  | .one b => nlOkB gh b
  | .none => True
  | .fam _ f => ∀ k, fixB (f k) = true
def nlOkH (gh : List Nat) : Nat → Heap U → Prop
  | _, [] => True
  | i, b :: l => (match memN i gh with
    | true => nilA b
    | false => nlOkA gh b) ∧ nlOkH gh (i + 1) l

theorem nlH_length (gh : List Nat) : ∀ (i : Nat) (H : Heap U), (nlH gh i H).length = H.length
  | _, [] => rfl
  | i, b :: l => by simp [nlH, nlH_length gh (i + 1) l]
theorem nlH_get {gh : List Nat} : ∀ {i : Nat} {H : Heap U}, nlOkH gh i H → ∀ {j : Nat} {b : AB U}, H[j]? = some b → ((i + j) ∈ gh → nilA b ∧ (nlH gh i H)[j]? = some .none) ∧ ((i + j) ∉ gh → nlOkA gh b ∧ (nlH gh i H)[j]? = some (nlA gh b))
  | i, [], _, j, b, h => by simp at h
  | i, x :: l, hk, j, b, h => by
    simp only [nlOkH] at hk
    cases j with
    | zero =>
      simp only [List.getElem?_cons_zero, Option.some.injEq] at h
      subst h
      simp only [Nat.add_zero, nlH, List.getElem?_cons_zero, Option.some.injEq]
      have hk := hk.1
      refine ⟨fun hm => ?_, fun hm => ?_⟩
      · rw [memN_iff.2 hm] at hk ⊢; exact ⟨hk, rfl⟩
      · have hf : memN i gh = false := by
          cases e : memN i gh with
          | false => rfl
          | true => exact absurd (memN_iff.1 e) hm
        rw [hf] at hk ⊢; exact ⟨hk, rfl⟩
    | succ j =>
      have := nlH_get (i := i + 1) hk.2 (j := j) (b := b) (by simpa using h)
      rw [show i + 1 + j = i + (j + 1) by omega] at this
      simpa [nlH] using this

def szA : Option (AB U) → Nat
  | some (.one (.row c _ _)) => U.sz c
  | some (.one (.ro c _)) => U.sz c
  | _ => 0
def Plc.nil (π : Plc) (gh : List Nat) (H : Heap U) : Plc := fun id k => if id ∈ gh ∧ k = 0 then some (nilPlace (szA H[id]?)) else if id ∈ gh then none else π id k
theorem Plc.nilAt (π : Plc) (gh : List Nat) (H : Heap U) : NilAt gh π (π.nil gh H) where
  out := fun id k h => by unfold Plc.nil; rw [if_neg (fun hh => h hh.1), if_neg h]
  at_ := fun id h => ⟨_, by unfold Plc.nil; rw [if_pos ⟨h, rfl⟩], rfl⟩

theorem out_ids {gh : List Nat} {π π2 : Plc} (h : NilAt gh π π2) {l : List Nat} (hl : (l.all fun id => !memN id gh) = true) : ∀ id ∈ l, ∀ k p, π id k = some p → π2 id k = some p := by
  intro id hid k p hp
  rw [List.all_eq_true] at hl
  have := hl id hid
  rw [h.out id k (memN_false (by simpa using this))]
  exact hp
theorem nlB_ok {gh : List Nat} {π π2 : Plc} (h : NilAt gh π π2) {w : World} {p : Place} {b : AB1 U} (hk : nlOkB gh b) (hb : BlkOk π w p (nlB gh b)) : BlkOk π2 w p b := by
  cases b with
  | cells vs t => obtain ⟨h0, cs, h1, h2⟩ := hb; exact ⟨h0, cs, h1, nl_repL h hk h2⟩
  | rc vs t => obtain ⟨h0, cs, h1, h2⟩ := hb; exact ⟨h0, cs, h1, nl_repL h hk h2⟩
  | row c l t =>
    simp only [nlOkB] at hk
    split at hk
    · rename_i hm
      obtain ⟨h0, h1, h2, h3, cs, h4, h5⟩ := hb
      refine ⟨h0, h1, h2, h3, cs, ?_, h5⟩
      refine RepL.of_get (RepL.length h4) fun j a ha => ?_
      obtain ⟨y, hy, hr⟩ := RepL.get h4 ha
      obtain ⟨x, _, hx⟩ := List.mem_flatMap.1 (List.mem_of_getElem? ha)
      exact ⟨y, hy, U.stay c hm π π2 (out_ids h (isB_ok hk).1) x a hx y hr⟩
    · exact fixB_ok (b := .row c l t) (isB_ok hk).1 hb
  | ro c l =>
    simp only [nlOkB] at hk
    split at hk
    · rename_i hm
      obtain ⟨h1, h2⟩ := hb
      refine ⟨h1, fun i x hi j a ha => ?_⟩
      obtain ⟨y, hy, hr⟩ := h2 i x hi j a ha
      exact ⟨y, hy, U.stay c hm π π2 (out_ids h (isB_ok hk).1) x a (List.mem_of_getElem? ha) y hr⟩
    · exact fixB_ok (b := .ro c l) (isB_ok hk).1 hb
  | map m l => exact fixB_ok (b := .map m l) (isB_ok hk).1 hb
  | mrow o vs =>
    obtain ⟨es, ck, ks, h1, h2, h3, h4, h5, h6⟩ := hb
    rw [nlL_length] at h3 h6
    have hk' : nlOkL gh vs := hk
    refine ⟨es, ck, ks, h1, h2, h3, h4, ?_, fun k hkl hn => ?_⟩
    · refine RepL.of_get (by have := h5.length; simpa using this) fun j x hx => ?_
      rw [List.getElem?_map] at hx
      cases hj : ks[j]? with
      | none => rw [hj] at hx; cases hx
      | some k =>
        rw [hj] at hx; simp only [Option.map_some, Option.some.injEq] at hx; subst hx
        have hkl := h3 k (List.mem_of_getElem? hj)
        obtain ⟨y, hy, hr⟩ := h5.get (j := j) (x := (nlL gh vs).getD k .junk) (by rw [List.getElem?_map, hj]; rfl)
        rw [nlL_getD hkl] at hr
        exact ⟨y, hy, nl_rep h (nlOkL_getD hk' hkl) hr⟩
    · have := h6 k hkl hn
      rw [nlL_getD hkl] at this
      exact nl_rep h (nlOkL_getD hk' hkl) this
theorem nlB_own {gh : List Nat} {b : AB1 U} : (nlB gh b).own = b.own := by cases b <;> rfl
theorem nlB_phys {gh : List Nat} {b : AB1 U} {p : Place} : (nlB gh b).phys p ↔ b.phys p := by cases b <;> exact Iff.rfl
theorem nlA_at {gh : List Nat} {H : Heap U} (hk : nlOkH gh 0 H) {id k : Nat} {b : AB1 U} (hb : H.at id k = some b) (hn : id ∉ gh) : ∃ b', (nlH gh 0 H).at id k = some b' ∧ b'.own = b.own ∧ (∀ p, b'.phys p ↔ b.phys p) ∧ ∀ π π2 w p, NilAt gh π π2 → BlkOk π w p b' → BlkOk π2 w p b := by
  unfold Heap.at at hb
  split at hb
  · rename_i b0 hid
    split at hb
    · rename_i hk0
      cases hb
      have := (nlH_get hk hid).2 (by rw [Nat.zero_add]; exact hn)
      refine ⟨nlB gh b, by unfold Heap.at; rw [this.2]; simp [nlA, hk0], nlB_own, fun p => nlB_phys, fun π π2 w p h hbk => nlB_ok h this.1 hbk⟩
    · cases hb
  · rename_i n f hid
    split at hb
    · rename_i hkn
      cases hb
      have := (nlH_get hk hid).2 (by rw [Nat.zero_add]; exact hn)
      refine ⟨f k, by unfold Heap.at; rw [this.2]; simp [nlA, hkn], rfl, fun p => Iff.rfl, fun π π2 w p h hbk => fixB_ok (this.1 k) hbk⟩
    · cases hb
  · cases hb
theorem nilA_at {gh : List Nat} {H : Heap U} (hk : nlOkH gh 0 H) {id k : Nat} {b : AB1 U} (hb : H.at id k = some b) (hn : id ∈ gh) : k = 0 ∧ (∀ π w, BlkOk π w (nilPlace (szA H[id]?)) b) ∧ (∀ sz, ¬ b.phys (nilPlace sz)) := by
  unfold Heap.at at hb
  split at hb
  · rename_i b0 hid
    split at hb
    · rename_i hk0
      cases hb
      have h1 := ((nlH_get hk hid).1 (by rw [Nat.zero_add]; exact hn)).1
      rw [hid]
      cases b with
      | row c l t =>
        have hl : l = [] := h1
        subst hl
        refine ⟨hk0, fun π w => ⟨rfl, rfl, rfl, by simp [nilPlace], [], by simp [RepE, RepL], by simp, .inl ⟨rfl, rfl⟩⟩, fun sz hph => hph rfl⟩
      | ro c l =>
        have hl : l = [] := h1
        subst hl
        exact ⟨hk0, fun π w => ⟨rfl, fun i x hi => by simp at hi⟩, fun sz hph => hph.1 rfl⟩
      | cells vs t => exact h1.elim
      | rc vs t => exact h1.elim
      | map m l => exact h1.elim
      | mrow o vs => exact h1.elim
    · cases hb
  · rename_i n f hid
    exact (((nlH_get hk hid).1 (by rw [Nat.zero_add]; exact hn)).1).elim
  · cases hb

theorem Conc.nil {gh : List Nat} {H : Heap U} {π : Plc} {w : World} (hk : nlOkH gh 0 H) (hc : Conc π (nlH gh 0 H) w) : Conc (π.nil gh H) H w := by
  have hN := Plc.nilAt π gh H
  refine ⟨fun id k b hb => ?_, fun id k b id' k' b' p p' hb hb' hne ho hp hp' h1 h2 => ?_⟩
  · by_cases hm : id ∈ gh
    · obtain ⟨rfl, hok, _⟩ := nilA_at hk hb hm
      exact ⟨_, by unfold Plc.nil; rw [if_pos ⟨hm, rfl⟩], hok _ _⟩
    · obtain ⟨b', hb', _, _, hh⟩ := nlA_at hk hb hm
      obtain ⟨p, hp, hok⟩ := hc.ok _ _ _ hb'
      exact ⟨p, by rw [hN.out id k hm]; exact hp, hh _ _ _ _ hN hok⟩
  · have notin : ∀ id k (b : AB1 U) p, H.at id k = some b → (π.nil gh H) id k = some p → b.phys p → id ∉ gh := by
      intro id k b p hb hp hph hm
      obtain ⟨rfl, _, hn⟩ := nilA_at hk hb hm
      unfold Plc.nil at hp; rw [if_pos ⟨hm, rfl⟩] at hp; cases hp
      exact hn _ hph
    have m1 := notin _ _ _ _ hb hp h1
    have m2 := notin _ _ _ _ hb' hp' h2
    obtain ⟨c, hc1, hco, hcp, _⟩ := nlA_at hk hb m1
    obtain ⟨c', hc1', _, hcp', _⟩ := nlA_at hk hb' m2
    rw [hN.out id k m1] at hp
    rw [hN.out id' k' m2] at hp'
    exact hc.sep id k c id' k' c' p p' hc1 hc1' hne (by rw [hco]; exact ho) hp hp' ((hcp p).2 h1) ((hcp' p').2 h2)

def addN (m id : Nat) (l : List Nat) : List Nat :=
  match Nat.blt id m || memN id l with
  | true => l
  | false => id :: l
mutual
def ghV (m : Nat) : AV → AV → List Nat → List Nat
  | .v (.slice none 0 0), .gs id' _, l => addN m id' l
  | .v (.slice none 0 0), .sl id' _ _ _, l => addN m id' l
  | .sl id _ _ _, .sl id' _ _ _, l => match Nat.beq id noId with
    | true => addN m id' l
    | false => l
  | .fn _ xs ys, .fn _ xs' ys', l => ghL m ys ys' (ghL m xs xs' l)
  | .ifc _ x, .ifc _ x', l => ghV m x x' l
  | .agg xs, .agg xs', l => ghL m xs xs' l
  | .tup xs, .tup xs', l => ghL m xs xs' l
  | _, _, l => l
def ghL (m : Nat) : List AV → List AV → List Nat → List Nat
  | x :: xs, y :: ys, l => ghL m xs ys (ghV m x y l)
  | _, _, l => l
end
def ghF (m : Nat) (fr : Fr) : Fr → List Nat → List Nat
  | [], l => l
  | (t, x) :: r, l => ghF m fr r (ghV m (fr.get t) x l)
def ghP (m : Nat) (H H' : Heap U) : List (Nat × Nat) → List Nat → List Nat
  | [], l => l
  | (id', id) :: q, l => ghP m H H' q (match nth H id, nth H' id' with
    | some (.one b), some (.one b') => match inB b, inB b' with
      | some vs, some vs' => ghL m vs vs' l
      | _, _ => l
    | _, _ => l)
def ghI (m : Nat) (H H' : Heap U) : Nat → Nat → List Nat → List Nat
  | 0, _, l => l
  | n + 1, id, l => ghI m H H' n (id + 1) (match nth H id, nth H' id with
    | some (.one b), some (.one b') => match inB b, inB b' with
      | some vs, some vs' => ghL m vs vs' l
      | _, _ => l
    | _, _ => l)

mutual
def noV (gh : List Nat) : AV → Bool
  | .gs id _ => !memN id gh
  | .sl id _ _ _ => !memN id gh
  | .ptr id _ _ _ => !memN id gh
  | .map id _ => !memN id gh
  | .fn _ xs ys => noL gh xs && noL gh ys
  | .ifc _ x => noV gh x
  | .agg xs => noL gh xs
  | .tup xs => noL gh xs
  | .alt _ a b => noV gh a && noV gh b
  | .junk => true
  | .tt => true
  | .ff => true
  | .v _ => true
def noL (gh : List Nat) : List AV → Bool
  | [] => true
  | x :: xs => noV gh x && noL gh xs
end
mutual
theorem no_rep {gh : List Nat} {π π2 : Plc} (h : ∀ id k, id ∉ gh → π2 id k = π id k) : ∀ {a : AV} {y : Value}, noV gh a = true → Rep π a y → Rep π2 a y
  | .junk, _, _, _ => by simp [Rep]
  | .tt, y, _, e => by simpa [Rep] using e
  | .ff, y, _, e => by simpa [Rep] using e
  | .v x, y, _, e => by simpa [Rep] using e
  | .gs id k, y, hk, e => by simp only [noV] at hk; simp only [Rep] at e ⊢; rw [h id k (memN_false (by simpa using hk))]; exact e
  | .sl id k off len, y, hk, e => by simp only [noV] at hk; simp only [Rep] at e ⊢; rw [h id k (memN_false (by simpa using hk))]; exact e
  | .ptr id k i fo, y, hk, e => by simp only [noV] at hk; simp only [Rep] at e ⊢; rw [h id k (memN_false (by simpa using hk))]; exact e
  | .map id k, y, hk, e => by simp only [noV] at hk; simp only [Rep] at e ⊢; rw [h id k (memN_false (by simpa using hk))]; exact e
  | .fn f xs ys, y, hk, e => by
    simp only [noV, Bool.and_eq_true] at hk
    simp only [Rep] at e ⊢; obtain ⟨a, b, e, h1, h2⟩ := e
    exact ⟨a, b, e, no_repL h hk.1 h1, no_repL h hk.2 h2⟩
  | .ifc t x, y, hk, e => by
    simp only [noV] at hk
    simp only [Rep] at e ⊢; obtain ⟨z, e, h1⟩ := e; exact ⟨z, e, no_rep h hk h1⟩
  | .agg xs, y, hk, e => by
    simp only [noV] at hk
    simp only [Rep] at e ⊢; obtain ⟨a, e, h1⟩ := e; exact ⟨a, e, no_repL h hk h1⟩
  | .tup xs, y, hk, e => by
    simp only [noV] at hk
    simp only [Rep] at e ⊢; obtain ⟨a, e, h1⟩ := e; exact ⟨a, e, no_repL h hk h1⟩
  | .alt c a b, y, hk, e => by
    simp only [noV, Bool.and_eq_true] at hk
    simp only [Rep] at e ⊢; exact ⟨fun hc => no_rep h hk.1 (e.1 hc), fun hc => no_rep h hk.2 (e.2 hc)⟩
theorem no_repL {gh : List Nat} {π π2 : Plc} (h : ∀ id k, id ∉ gh → π2 id k = π id k) : ∀ {xs : List AV} {ys : List Value}, noL gh xs = true → RepL π xs ys → RepL π2 xs ys
  | [], ys, _, e => by simpa [RepL] using e
  | x :: xs, ys, hk, e => by
    simp only [noL, Bool.and_eq_true] at hk
    simp only [RepL] at e ⊢; obtain ⟨z, zs, e, h1, h2⟩ := e
    exact ⟨z, zs, e, no_rep h hk.1 h1, no_repL h hk.2 h2⟩
end
def noD (gh : List Nat) : Df → Bool
  | [] => true
  | .call _ xs ys :: l => noL gh xs && noL gh ys && noD gh l
  | .mark :: l => noD gh l
  | .pend _ :: l => noD gh l
theorem noD_ok {gh : List Nat} {π π2 : Plc} (h : ∀ id k, id ∉ gh → π2 id k = π id k) {lo : Nat} {w : World} : ∀ {df : Df} {ds : List Deferred}, noD gh df = true → DfOk lo π w df ds → DfOk lo π2 w df ds
  | [], ds, _, e => e
  | .call f xs ys :: l, ds, hk, ⟨cap, args, ds', e, h1, h2, h3⟩ => by
    simp only [noD, Bool.and_eq_true] at hk
    exact ⟨cap, args, ds', e, no_repL h hk.1.1 h1, no_repL h hk.1.2 h2, noD_ok h hk.2 h3⟩
  | .mark :: l, ds, hk, ⟨D, ds', e, h1, h2, h3, h4⟩ => ⟨D, ds', e, h1, h2, h3, noD_ok h (df := l) hk h4⟩
  | .pend j :: l, ds, hk, e => noD_ok h (df := l) hk e

def nlF (gh : List Nat) : Fr → Fr
  | [] => []
  | (t, x) :: l => (t, nlV gh x) :: nlF gh l
def nlOkF (gh : List Nat) : Fr → Prop
  | [] => True
  | (_, x) :: l => nlOkV gh x ∧ nlOkF gh l
theorem nlF_get {gh : List Nat} {π π2 : Plc} (h : NilAt gh π π2) {tmps : Array Value} : ∀ {fr : Fr}, nlOkF gh fr → ∀ t, Rep π ((nlF gh fr).get t) (tmps.getD t undef) → Rep π2 (fr.get t) (tmps.getD t undef)
  | [], _, t, _ => by simp [Fr.get, Rep]
  | (t', x) :: l, hk, t, e => by
    simp only [nlOkF] at hk
    simp only [nlF] at e
    rw [Fr.get_cons] at e ⊢
    split
    · rename_i he; rw [if_pos he] at e; exact nl_rep h hk.1 e
    · rename_i he; rw [if_neg he] at e; exact nlF_get h hk.2 t e

def geL (m N : Nat) : List Nat → Bool
  | [] => true
  | x :: l => Nat.ble m x && Nat.blt x N && geL m N l
theorem geL_ok {m N : Nat} : ∀ {l : List Nat}, geL m N l = true → ∀ x ∈ l, m ≤ x ∧ x < N
  | [], _, x, h => by cases h
  | y :: l, h, x, hx => by
    simp only [geL, Bool.and_eq_true] at h
    rcases List.mem_cons.1 hx with rfl | hx
    · exact ⟨by simpa using h.1.1, by simpa using h.1.2⟩
    · exact geL_ok h.2 x hx

def weakN (m : Nat) (fr : Fr) (df : Df) (H : Heap U) (fr' : Fr) (H' : Heap U) : Prop :=
  let l0 := mtB m H H' m 0 (mtF m fr fr' [])
  let l := mtH m H H' 40 l0 l0
  match ghP m H H' l (ghI m H H' m 0 (ghF m fr fr' [])) with
  | [] => weakA m fr df H fr' H'
  | gh => isB (geL m H'.length gh && noD gh df) (nlOkF gh fr' ∧ nlOkH gh 0 H' ∧ weakA m fr df H (nlF gh fr') (nlH gh 0 H'))

theorem weakN_ok {B : Base U} {fr fr' : Fr} {df : Df} {H H' : Heap U} {π : Plc} {w : World} {a : Act} (h : weakN B.H.length fr df H fr' H') (hS : St B fr df H π w a) : ∃ π', St B fr' df H' π' w a := by
  unfold weakN at h
  simp only at h
  split at h
  · exact weak_ok h hS
  · generalize ghP B.H.length H H' _ _ = gh at h
    obtain ⟨hb, hF, hH, hw⟩ := isB_ok h
    rw [Bool.and_eq_true] at hb
    obtain ⟨π1, h1⟩ := weak_ok hw hS
    have hge := geL_ok hb.1
    have hN := Plc.nilAt π1 gh H'
    have hlen : (nlH gh 0 H').length = H'.length := nlH_length _ _ _
    refine ⟨π1.nil gh H', fun t => nlF_get hN hF t (h1.fr t), h1.conc.nil hH, fun id k hi => ?_, fun id k hi => ?_, h1.keeps, fun n hn => ?_, h1.nt, h1.j, noD_ok hN.out hb.2 h1.df, by have := h1.len; rwa [hlen] at this⟩
    · rw [hN.out id k (fun hm => by have := hge id hm; omega)]
      exact h1.fresh id k (by rw [hlen]; exact hi)
    · rw [hN.out id k (fun hm => by have := hge id hm; omega)]
      exact h1.only id k hi
    · obtain ⟨id, k, b, p, hb', ho, hp, hph, e⟩ := hn
      have hni : id ∉ gh := fun hm => by
        obtain ⟨rfl, _, hnp⟩ := nilA_at hH hb' hm
        unfold Plc.nil at hp; rw [if_pos ⟨hm, rfl⟩] at hp; cases hp
        exact hnp _ hph
      obtain ⟨c, hc1, hco, hcp, _⟩ := nlA_at hH hb' hni
      rw [hN.out id k hni] at hp
      exact h1.own n ⟨id, k, c, p, hc1, by rw [hco]; exact ho, hp, (hcp p).2 hph, e⟩
end AE

namespace AE
open Go

variable {U : Uni}

theorem Step.post {H : Heap U} {r : ORes U} {π πn : Plc} {w w' : World} {a : Act} {fr : Fr} {v : Value} {dst : Option Nat} (hc : Conc π H w) (hfr : FrOk π fr a.tmps) (hf : Fresh π H.length) (hp : Post H H.length r π πn w w' v) (hd : dstOk a.tmps.size dst = true) :
    Step π H w a (fr.put dst r.val) (H.app r) πn w' (a.put dst v) where
  fr := (hfr.mono hp.sub).putO hp.rep hd
  conc := (hc.app hf hp).1
  fresh := (hc.app hf hp).2
  sub := hp.sub
  only := fun id k hi => hp.only id k (.inl hi)
  keeps := hp.keepsOwned
  own := fun n hn => hn.app hp
  nt := Act.put_size _ _ _
  defers := Act.put_defers' _ _ _
  len := by rw [Heap.app_length]; omega

theorem Step.pan {H : Heap U} {π : Plc} {w w' : World} {a : Act} {fr : Fr} (hc : Conc π H w) (hfr : FrOk π fr a.tmps) (hf : Fresh π H.length) (hk : Keeps (fun _ => False) w w') : Step π H w a fr H π w' a where
  fr := hfr
  conc := hc.keep (Sub.refl π) fun id k b p hb hpl hph => by
    obtain ⟨p', hp', hok⟩ := hc.ok id k b hb
    rw [hpl] at hp'; cases hp'
    exact hk.block _ (hok.lt hph) (fun h => h)
  fresh := hf
  sub := Sub.refl π
  only := fun _ _ _ => rfl
  keeps := hk.weaken fun _ _ h => h.elim
  own := fun _ h => .inl h
  nt := rfl
  defers := rfl
  len := Nat.le_refl _

def isUndef : Value → Bool
  | .tuple a => Nat.beq a.size 0
  | _ => false
theorem isUndef_ok {v : Value} (h : isUndef v = true) : v = undef := by
  cases v <;> simp only [isUndef] at h <;> try cases h
  rename_i a
  have : a.size = 0 := Nat.eq_of_beq_eq_true h
  rw [Array.size_eq_zero_iff.1 this]; rfl

def seqG (all : List Oper) (g : Option (Nat × Bool)) (fr : Fr) (go skip : Fr → Prop) : Prop :=
  match g with
  | none => go fr
  | some (j, want) => match nth all j with
    | none => False
    | some oj => match oj.dst with
      | none => False
      | some d => match fr.get d with
        | .tt => match want with
          | true => go fr
          | false => skip fr
        | .ff => match want with
          | true => skip fr
          | false => go fr
        | .v (.bool b) => match want with
          | true => (b = true → go ((d, .tt) :: fr)) ∧ (b = false → skip ((d, .ff) :: fr))
          | false => (b = true → skip ((d, .tt) :: fr)) ∧ (b = false → go ((d, .ff) :: fr))
        | .v x => isB (isUndef x) (skip fr)
        | _ => False

theorem FrOk.ref {π : Plc} {fr : Fr} {tmps : Array Value} (h : FrOk π fr tmps) {d : Nat} {x : AV} (hx : Rep π x (tmps.getD d undef)) : FrOk π ((d, x) :: fr) tmps := by
  intro t
  rw [Fr.get_cons]
  split
  · rename_i e; subst e; exact hx
  · exact h t

theorem seqG_ok {ops : Array Oper} {o : Oper} {fr : Fr} {go skip : Fr → Prop} {π : Plc} {a : Act} (hf : FrOk π fr a.tmps) (h : seqG ops.toList o.guard fr go skip) :
    ∃ fr', FrOk π fr' a.tmps ∧ ((Region.wanted o (yielded ops a.tmps) = true ∧ go fr') ∨ (Region.wanted o (yielded ops a.tmps) = false ∧ skip fr')) := by
  unfold seqG at h
  unfold Region.wanted
  split at h
  · rename_i hg; rw [hg]; exact ⟨fr, hf, .inl ⟨rfl, h⟩⟩
  rename_i j want hg
  rw [hg]
  split at h
  · exact h.elim
  rename_i oj hoj
  rw [nth_eq] at hoj
  split at h
  · exact h.elim
  rename_i d hd
  have hr := hf d
  have one : ∀ {b : Bool}, a.tmps.getD d undef = .bool b → yielded ops a.tmps j = some b := fun hb => yielded_of hoj hd hb
  split at h
  · rename_i hv
    rw [hv] at hr
    have e := one (b := true) (by simpa [Rep] using hr)
    simp only [e]
    cases want
    · exact ⟨fr, hf, .inr ⟨rfl, h⟩⟩
    · exact ⟨fr, hf, .inl ⟨rfl, h⟩⟩
  · rename_i hv
    rw [hv] at hr
    have e := one (b := false) (by simpa [Rep] using hr)
    simp only [e]
    cases want
    · exact ⟨fr, hf, .inl ⟨rfl, h⟩⟩
    · exact ⟨fr, hf, .inr ⟨rfl, h⟩⟩
  · rename_i b hv
    rw [hv] at hr
    have hb : a.tmps.getD d undef = .bool b := by simpa [Rep] using hr
    have e := one hb
    simp only [e]
    cases b with
    | true =>
      have hfr : FrOk π ((d, .tt) :: fr) a.tmps := hf.ref (by simpa [Rep] using hb)
      cases want
      · exact ⟨_, hfr, .inr ⟨rfl, h.1 rfl⟩⟩
      · exact ⟨_, hfr, .inl ⟨rfl, h.1 rfl⟩⟩
    | false =>
      have hfr : FrOk π ((d, .ff) :: fr) a.tmps := hf.ref (by simpa [Rep] using hb)
      cases want
      · exact ⟨_, hfr, .inl ⟨rfl, h.2 rfl⟩⟩
      · exact ⟨_, hfr, .inr ⟨rfl, h.2 rfl⟩⟩
  · rename_i x _ hv
    obtain ⟨hu, h⟩ := isB_ok h
    rw [hv] at hr
    have hx : a.tmps.getD d undef = undef := by rw [Rep] at hr; rw [hr, isUndef_ok hu]
    have e := yielded_off (b := want) hoj hd hx
    refine ⟨fr, hf, .inr ⟨?_, h⟩⟩
    simp only [beq_eq_false_iff_ne]; exact e
  · exact h.elim

def noPend : Df → Bool
  | .pend _ :: _ => false
  | _ => true
theorem noPend_ok {df : Df} (h : noPend df = true) : pendOf df = none := by
  unfold noPend at h
  split at h
  · cases h
  · rename_i hne
    unfold pendOf
    split
    · rename_i j l; exact absurd rfl (hne j l)
    · rfl

def calleeO : Callee → Option Operand
  | .value f => some f
  | _ => none
theorem calleeO_ok {c : Callee} {f : Operand} (h : calleeO c = some f) : c = .value f := by
  unfold calleeO at h
  split at h
  · cases h; rfl
  · cases h

def pendL : Option Code → Df
  | none => []
  | some j => [.pend j]
theorem pendOf_pendL (p : Option Code) : pendOf (pendL p) = p := by cases p <;> rfl
theorem DfOk.pendL {lo : Nat} {π : Plc} {w : World} {ds : List Deferred} (p : Option Code) (h : ds = []) : DfOk lo π w (AE.pendL p) ds := by cases p <;> exact h

def isY (o : Op) (fr : Fr) : Option (Nat × List AV) :=
  match o with
  | .call c => match c.callee with
    | .value f => match fr.eval f with
      | .fn (.yield l) [] [] => some (l, c.args.toList.map fr.eval)
      | _ => none
    | _ => none
  | _ => none
theorem isY_ok {o : Op} {fr : Fr} {l : Nat} {args : List AV} (h : isY o fr = some (l, args)) : ∃ f xs ts, o = .call { callee := .value f, args := xs, argTypes := ts } ∧ fr.eval f = .fn (.yield l) [] [] ∧ args = xs.toList.map fr.eval := by
  unfold isY at h
  split at h
  · rename_i c
    split at h
    · rename_i f hc
      split at h
      · rename_i l' hf
        simp only [Option.some.injEq, Prod.mk.injEq] at h
        obtain ⟨rfl, rfl⟩ := h
        exact ⟨f, c.args, c.argTypes, by cases c; simp at hc; rw [hc], hf, rfl⟩
      · cases h
    · cases h
  · cases h

structure Later (B : Base U) (H : Heap U) (π : Plc) (w : World) : Prop where
  conc : Conc π H w
  fresh : Fresh π H.length
  only : ∀ id k, id < B.H.length → π id k = B.π id k
  len : B.H.length ≤ H.length
  size : B.w.heap.size ≤ w.heap.size
  j : B.J none w
abbrev Base.at_ (B : Base U) {H : Heap U} {π : Plc} {w : World} (h : Later B H π w) : Base U :=
  { π := π, H := H, w := w, nt := 0, fresh := h.fresh, x := B.x, J := B.J, Jk := B.Jk, Jx := B.Jx, xlt := fun n hn => Nat.lt_of_lt_of_le (B.xlt n hn) h.size }
theorem St.later {B : Base U} {fr : Fr} {df : Df} {H : Heap U} {π : Plc} {w : World} {a : Act} (h : St B fr df H π w a) (hn : pendOf df = none) : Later B H π w :=
  ⟨h.conc, h.fresh, h.only, h.len, h.keeps.size, by have := h.j; rwa [hn] at this⟩
theorem St.then {B : Base U} {fr : Fr} {df : Df} {H H' : Heap U} {π π' : Plc} {w w' : World} {a a0 : Act} {p : Option Code} (h : St B fr df H π w a) (hn : pendOf df = none) (k : St (B.at_ (h.later hn)) [] (pendL p) H' π' w' a0) :
    St B fr (pendL p ++ df) H' π' w' a where
  fr := h.fr.mono k.sub
  conc := k.conc
  fresh := k.fresh
  only := fun id j hi => (k.only id j (Nat.lt_of_lt_of_le hi h.len)).trans (h.only id j hi)
  keeps := h.keeps.trans k.keeps fun n hn ho => by
    rcases ho with ho | ho
    · exact .inl ((h.own n ho).resolve_right (Nat.not_le.2 hn))
    · exact .inr ho
  own := fun n hn => by
    rcases k.own n hn with h1 | h1
    · exact h.own n h1
    · exact .inr (Nat.le_trans h.keeps.size h1)
  nt := h.nt
  j := by
    have := k.j
    rw [pendOf_pendL] at this
    cases p with
    | none => show B.J (pendOf df) w'; rw [hn]; exact this
    | some j => exact this
  df := by
    have hd : DfOk B.w.heap.size π' w' df a.defers := h.df.mono k.sub fun D hD => by
      rw [k.keeps.block D (Array.getElem?_eq_some_iff.1 hD).1 fun hh => ?_]; exact hD
      rcases hh with hh | hh
      · obtain ⟨o', ho', hp'⟩ := hh.obj h.conc
        rw [hD] at ho'; cases ho'; exact not_plain_deferred hp'
      · obtain ⟨r, hr⟩ := B.Jx _ _ D h.j hh
        rw [hD] at hr; cases hr
    cases p with
    | none => exact hd
    | some j => exact hd
  len := Nat.le_trans h.len k.len

def YOk (P : Program) (l : Nat) (Y : List AV → Heap U → (AV → Option Code → Heap U → Prop) → Prop) (B : Base U) : Prop :=
  ∀ (args : List AV) (H : Heap U) (K : AV → Option Code → Heap U → Prop), Y args H K → ∀ (vs : Array Value) (π : Plc) (w : World) (h : Later B H π w), RepL π args vs.toList → ∀ (rd : Option Nat) (n : Nat),
    ∃ f tmps assign body, (Instr.yield l vs).run P w = .ok (.round l f tmps assign body) w ∧
      RoundIn (Fw rd) n P l f tmps assign body w fun e w' => ∃ y v p H' π', e = .returned y ∧ Rep π' v y ∧ K v p H' ∧ St (B.at_ h) [] (pendL p) H' π' w' { tmps := #[], defers := [] }

def seqO (E : Env U) (rnd : Bool) (o : Oper) (fr : Fr) (df : Df) (H : Heap U) (K : Fr → Df → Heap U → Prop) (KP : AV → Fr → Df → Heap U → Prop) : Prop :=
  match isY o.op fr with
  | some (l, args) => isB (dstOk E.nt o.dst && noPend df) (l = E.l ∧ E.Y args H fun v p H' => K (fr.put o.dst v) (pendL p ++ df) H')
  | none =>
  match o.op with
  | .defer c => match rnd with
    | true => False
    | false => match calleeO c.callee with
      | some f => match fr.eval f with
        | .fn (.func g) [] caps => isB (dstOk E.nt o.dst && noPend df) (forceL caps fun caps => forceL (c.args.toList.map fr.eval) fun xs => K (fr.put o.dst (.v undef)) (.call (.func g) caps xs :: df) H)
        | _ => False
      | none => False
  | _ => opA E.P E.T o fr.eval H H.length fun
    | .val r => isB (dstOk E.nt o.dst) (K (fr.put o.dst r.val) df (H.app r))
    | .panic x => KP x fr df H

def seqA (E : Env U) (rnd : Bool) (all : List Oper) : List Oper → Fr → Df → Heap U → (Fr → Df → Heap U → Prop) → (AV → Fr → Df → Heap U → Prop) → Prop
  | [], fr, df, H, K, _ => K fr df H
  | o :: os, fr, df, H, K, KP =>
    seqG all o.guard fr
      (fun fr => seqO E rnd o fr df H (fun fr df H => seqA E rnd all os fr df H K KP) KP)
      (fun fr => isB (dstOk E.nt o.dst) (seqA E rnd all os (fr.put o.dst (.v undef)) df H K KP))

inductive Ex where
  | nrm
  | exit (i : Nat)
  | goto (l : Nat)
  | ret
  | pan (x : AV)

def QOf (B : Base U) (K : Ex → Fr → Df → Heap U → Prop) : Exit → Act → World → Prop
  | .normal, a, w => ∃ fr df H π, K .nrm fr df H ∧ St B fr df H π w a
  | .exit i, a, w => ∃ fr df H π, K (.exit i) fr df H ∧ St B fr df H π w a
  | .goto i, a, w => ∃ fr df H π, K (.goto i) fr df H ∧ St B fr df H π w a
  | .ret, a, w => ∃ fr df H π, K .ret fr df H ∧ St B fr df H π w a
  | .panic ch, a, w => ∃ x y fr df H π, ch = [{ v := y, recovered := false }] ∧ K (.pan x) fr df H ∧ Rep π x y ∧ St B fr df H π w a
  | .outgrown, _, _ => False

theorem defer_value {P : Program} {ρ : Operand → Value} {c : Call} {f : Operand} {g : Fn} {cap : Array Value} {t : TypeId} {w : World} (h : c.callee = .value f) (hρ : ρ f = .func g #[] cap) :
    (resolve ρ c t).run P w = .ok { target := .fn g cap, args := c.args.map ρ } w := by
  unfold resolve
  rw [h]
  simp only [Deferred.ofValue, hρ]
  have : (#[] : Array Value) ++ Array.map ρ c.args = Array.map ρ c.args := by simp
  rw [this]; rfl

section
variable {E : Env U} {B : Base U} (hT : E.T.Sound E.P) (hnt : B.nt = E.nt) {rnd : Bool} {rd : Option Nat} (hrd : rnd = false → rd = none) {n : Nat} (hY : YOk E.P E.l E.Y B)
include hT hnt hrd hY

theorem seqO_ok {o : Oper} {fr : Fr} {df : Df} {H : Heap U} {K : Fr → Df → Heap U → Prop} {KP : AV → Fr → Df → Heap U → Prop} {K' : Ex → Fr → Df → Heap U → Prop} (hKP : ∀ x fr df H, KP x fr df H → K' (.pan x) fr df H) (h : seqO E rnd o fr df H K KP)
    {next : Act → World → Prop} {π : Plc} {w : World} {a : Act} (hS : St B fr df H π w a) (hn : ∀ fr df H π w a, K fr df H → St B fr df H π w a → next a w) : o.wpIn (Fw rd) n E.P a w next (QOf B K') := by
  unfold seqO at h
  split at h
  · rename_i l args hy
    obtain ⟨f, xs, ts, ho, hf, rfl⟩ := isY_ok hy
    obtain ⟨hb, hl, hy2⟩ := isB_ok h
    subst hl
    rw [Bool.and_eq_true] at hb
    obtain ⟨hd, hnil⟩ := hb
    have hnp := noPend_ok hnil
    have hv := hS.fr.eval f
    rw [hf] at hv
    simp only [Rep, RepL] at hv
    obtain ⟨va, vb, e, h1, h2⟩ := hv
    have hva : va = #[] := by apply Array.toList_inj.1; simpa using h1
    have hvb : vb = #[] := by apply Array.toList_inj.1; simpa using h2
    subst hva; subst hvb
    obtain ⟨fn, tmps, assign, body, hrun, hround⟩ := hY _ _ _ hy2 (xs.map a.eval) π w (hS.later hnp) (by rw [Array.toList_map]; exact RepL.evals hS.fr.eval xs.toList) rd (n - 1)
    have hex : (execOp a.eval o).run E.P w = .ok (.round E.l fn tmps assign body) w := by
      have harr : (#[] : Array Value) ++ xs.map a.eval = xs.map a.eval := by simp
      simp only [execOp, ho, resolve, e, Deferred.ofValue, Sem.run_bind, Sem.run_pure, Result.andThen_ok, invoke, harr, hrun]
    refine wpIn_of_run (by simp [ho]) hex ?_
    rw [Oper.uponIn_round]
    refine ⟨fun hh => by simp [Fw, Fence.wide] at hh, hround.mono fun e' w' hr => ?_⟩
    obtain ⟨y, v, p, H', π', rfl, hrv, hk, hS'⟩ := hr
    refine hn _ _ _ π' _ _ hk ?_
    have hS2 := hS.then hnp hS'
    exact { hS2 with fr := hS2.fr.putO hrv (by rw [hS.nt, hnt]; exact hd), nt := by rw [Act.put_size]; exact hS2.nt, df := by rw [Act.put_defers']; exact hS2.df }
  split at h
  · rename_i c ho
    cases rnd with
    | true => exact h.elim
    | false =>
    simp only at h
    split at h
    case h_2 => exact h.elim
    rename_i f hcal
    replace hcal := calleeO_ok hcal
    split at h
    case h_2 => exact h.elim
    rename_i g caps hfn
    have hv := hS.fr.eval f
    rw [hfn] at hv
    simp only [Rep, RepL] at hv
    obtain ⟨va, vb, hev, h1, h2⟩ := hv
    have hva : va = #[] := by apply Array.toList_inj.1; simpa using h1
    subst hva
    have hr0 := hrd rfl
    subst hr0
    obtain ⟨hd, h⟩ := isB_ok h
    rw [Bool.and_eq_true] at hd
    obtain ⟨hd, hnp⟩ := hd
    replace hnp := noPend_ok hnp
    replace h := forceL_ok (K := fun xs => K (fr.put o.dst (.v undef)) (.call (.func g) caps xs :: df) H) (forceL_ok (K := fun caps => forceL (c.args.toList.map fr.eval) fun xs => K (fr.put o.dst (.v undef)) (.call (.func g) caps xs :: df) H) h)
    have hrun : (o.semAt (Fw none).round a.eval).run E.P w = .ok (.defer { target := .fn (.func g) vb, args := c.args.map a.eval }) w := by
      rw [show (Fw none).round = none from rfl, Oper.semAt_none]
      unfold execOp
      rw [ho]
      simp only [bind_assoc, Sem.run_bind]
      rw [defer_value hcal hev]; rfl
    refine ⟨fun _ _ => trivial, ?_⟩
    rw [hrun]
    simp only [Oper.uponIn_defer]
    refine hn _ _ _ π _ _ h ⟨?_, hS.conc, hS.fresh, hS.only, hS.keeps, hS.own, ?_, (by have := hS.j; rw [hnp] at this; exact this), ?_, hS.len⟩
    · exact FrOk.putO (a := { a with defers := _ :: a.defers }) hS.fr (by simp [Rep]) (by rw [← hnt, ← hS.nt] at hd; exact hd)
    · rw [Act.put_size]; exact hS.nt
    · rw [Act.put_defers']
      refine ⟨vb, c.args.map a.eval, a.defers, rfl, h2, ?_, hS.df⟩
      refine RepL.of_get (by simp) fun j x hx => ?_
      rw [List.getElem?_map] at hx
      cases hj : c.args.toList[j]? with
      | none => rw [hj] at hx; cases hx
      | some y =>
        rw [hj] at hx; simp at hx; subst hx
        exact ⟨a.eval y, by rw [Array.toList_map, List.getElem?_map, hj]; rfl, hS.fr.eval y⟩
  · obtain ⟨r, hk, hop⟩ := opA_ok hT h
    cases r with
    | val r =>
      simp only at hk
      obtain ⟨hd, hk⟩ := isB_ok hk
      refine Oper.wpIn_both (fun a2 w2 h2 => ?_) (fun _ _ _ h => h.elim) (hop rd n π w a hS.conc hS.fr.eval fun j k _ => hS.fresh _ _ (by omega))
      obtain ⟨v, πn, rfl, hp⟩ := h2
      exact hn _ _ _ πn _ _ hk (hS.step (Step.post hS.conc hS.fr hS.fresh hp (by rw [hS.nt, hnt]; exact hd)))
    | panic x =>
      refine Oper.wpIn_both (fun _ _ h => h.elim) (fun ex a2 w2 h2 => ?_) (hop rd n π w a hS.conc hS.fr.eval)
      obtain ⟨y, rfl, rfl, hy, hkp⟩ := h2
      exact ⟨x, y, fr, df, H, π, rfl, hKP _ _ _ _ hk, hy, hS.step (Step.pan hS.conc hS.fr hS.fresh hkp)⟩

theorem seqA_ok {ops : Array Oper} {K' : Ex → Fr → Df → Heap U → Prop} : ∀ (os : List Oper) (i : Nat) (fr : Fr) (df : Df) (H : Heap U), ops.toList.drop i = os → seqA E rnd ops.toList os fr df H (K' .nrm) (fun x => K' (.pan x)) →
    ∀ (π : Plc) (w : World) (a : Act), St B fr df H π w a → wpOpsIn (Fw rd) n E.P ops (QOf B K') (List.range' i os.length) a w
  | [], i, fr, df, H, _, h, π, w, a, hS => ⟨fr, df, H, π, by simpa [seqA] using h, hS⟩
  | o :: os, i, fr, df, H, hd, h, π, w, a, hS => by
    have ho : ops[i]? = some o := by
      have : (ops.toList.drop i)[0]? = some o := by rw [hd]; rfl
      rw [List.getElem?_drop] at this; simpa using this
    have hd' : ops.toList.drop (i + 1) = os := by rw [← List.drop_drop, hd]; rfl
    unfold seqA at h
    obtain ⟨fr', hf', hh⟩ := seqG_ok (ops := ops) (o := o) hS.fr h
    have hS' : St B fr' df H π w a := { hS with fr := hf' }
    rw [List.length_cons, List.range'_succ]
    simp only [wpOpsIn, ho]
    rcases hh with ⟨hw, hh⟩ | ⟨hw, hh⟩
    · rw [if_pos hw]
      exact seqO_ok hT hnt hrd hY (fun _ _ _ _ h => h) hh hS' fun fr df H π w a hk hS => seqA_ok os (i + 1) fr df H hd' hk π w a hS
    · rw [if_neg (by rw [hw]; simp)]
      obtain ⟨hdo, hh⟩ := isB_ok hh
      refine ⟨fun _ _ => trivial, seqA_ok os (i + 1) _ df H hd' hh π w _ ?_⟩
      exact { hS' with fr := hf'.putO (by simp [Rep]) (by rw [hS.nt, hnt]; exact hdo), nt := by rw [Act.put_size]; exact hS.nt, df := by rw [Act.put_defers']; exact hS.df }
end

structure LSpec (U : Uni) where
  T : Type
  fr : T → Fr
  H : T → Heap U
  mu : T → Nat
inductive LRule (U : Uni) where
  | inv (s : LSpec U)
  | invR (s : LSpec U) (rel : s.T → s.T → Prop)
  | unroll (n : Nat)
  | steps (l : List (Fr × Heap U))
  | sel (f : Heap U → LRule U)
  | cut (s : LSpec U)
def ruleAt (H : Heap U) : Option (LRule U) → Option (LRule U)
  | some (.sel f) => some (f H)
  | r => r

def keyOf : Code → Nat
  | .region id _ _ => id
  | .seq a _ => keyOf a
  | .block _ c => keyOf c
  | .loop c => keyOf c
  | .scope c => keyOf c
  | _ => 0

def sameDf : Df → Df → Prop
  | [], [] => True
  | a, b => a = b
theorem sameDf_ok {a b : Df} (h : sameDf a b) : a = b := by
  unfold sameDf at h
  split at h
  · rfl
  · exact h

structure ItW (U : Uni) where
  g : FuncId
  fn : Func
  run : (List AV → Heap U → (AV → Option Code → Heap U → Prop) → Prop) → Nat → Nat → Fr → Heap U → (Ex → Fr → Df → Heap U → Prop) → Prop

structure Cfg (U : Uni) where
  it : Nat → Option (ItW U) := fun _ => none
  rnd : Bool := false
  m : Nat
  L : Nat → Option (LRule U) := fun _ => none
  hs : Nat → List Nat := fun _ => []
  sp : Nat → Option (Nat × Nat) := fun _ => none

def worked (K : Ex → Fr → Df → Heap U → Prop) (e : Ex) (fr : Fr) (df : Df) (H : Heap U) : Prop :=
  forceP fr fun fr => forceH H fun H => K e fr df H
theorem worked_ok {K : Ex → Fr → Df → Heap U → Prop} {e : Ex} {fr : Fr} {df : Df} {H : Heap U} (h : worked K e fr df H) : K e fr df H :=
  forceH_ok (K := fun H => K e fr df H) (forceP_ok (K := fun fr => forceH H fun H => K e fr df H) h)

def unrA (body : Fr → Df → Heap U → (Ex → Fr → Df → Heap U → Prop) → Prop) (K : Ex → Fr → Df → Heap U → Prop) : Nat → Fr → Df → Heap U → Prop
  | 0, _, _, _ => False
  | n + 1, fr, df, H => body fr df H fun
    | .nrm, fr, df, H => unrA body K n fr df H
    | e, fr, df, H => K e fr df H

def stA (m : Nat) (body : Fr → Df → Heap U → (Ex → Fr → Df → Heap U → Prop) → Prop) (K : Ex → Fr → Df → Heap U → Prop) : List (Fr × Heap U) → Fr → Df → Heap U → Prop
  | [], _, _, _ => False
  | (f, h) :: l, fr, df, H => weakN m fr df H f h ∧ body f df h fun
    | .nrm, fr, df, H => stA m body K l fr df H
    | e, fr, df, H => K e fr df H

def brS (t : Nat) (x : Int) (K : Fr → Df → Heap U → Prop) (fr : Fr) (df : Df) (H : Heap U) : Nat → Nat → Prop
  | _, 0 => True
  | i, n + 1 => (x = (i : Int) → K ((t, .i i) :: fr) df H) ∧ brS t x K fr df H (i + 1) n
def spK (o : Option (Nat × Nat)) (K : Fr → Df → Heap U → Prop) (fr : Fr) (df : Df) (H : Heap U) : Prop :=
  match o with
  | none => K fr df H
  | some (t, n) => match fr.get t with
    | .v (.int .i64 x) => (0 ≤ x ∧ x < (n : Int)) ∧ brS t x K fr df H 0 n
    | _ => False
theorem brS_ok {t : Nat} {x : Int} {K : Fr → Df → Heap U → Prop} {fr : Fr} {df : Df} {H : Heap U} : ∀ {i n : Nat}, brS t x K fr df H i n → ∀ j, j < n → x = ((i + j : Nat) : Int) → K ((t, .i ((i + j : Nat) : Int)) :: fr) df H
  | i, 0, _, j, hj, _ => by omega
  | i, n + 1, h, 0, _, hx => h.1 (by simpa using hx)
  | i, n + 1, h, j + 1, hj, hx => by
    have := brS_ok h.2 j (by omega) (by rw [hx]; congr 1; omega)
    rwa [show i + 1 + j = i + (j + 1) by omega] at this
theorem spK_ok {o : Option (Nat × Nat)} {K : Fr → Df → Heap U → Prop} {fr : Fr} {df : Df} {H : Heap U} (h : spK o K fr df H) {B : Base U} {π : Plc} {w : World} {a : Act} (hS : St B fr df H π w a) : ∃ fr', K fr' df H ∧ St B fr' df H π w a := by
  unfold spK at h
  split at h
  · exact ⟨fr, h, hS⟩
  · split at h
    case h_2 => exact h.elim
    rename_i t n _ x hx
    obtain ⟨⟨h1, h2⟩, h⟩ := h
    have hk := brS_ok h x.toNat (by omega) (by rw [Nat.zero_add]; omega)
    refine ⟨_, hk, { hS with fr := hS.fr.ref ?_ }⟩
    have := hS.fr t
    rw [hx] at this
    rw [Nat.zero_add, show ((x.toNat : Nat) : Int) = x by omega]; exact this

def putsF : List Nat → List AV → Fr → Option Fr
  | [], [], fr => some fr
  | t :: ts, x :: xs, fr => putsF ts xs ((t, x) :: fr)
  | _, _, _ => none
def inP : Option Code → Option Code
  | some (.seq a _) => some a
  | p => p
def outP : Option Code → Option Code
  | some (.seq _ b) => some b
  | _ => none
def roundK (Ky : AV → Option Code → Heap U → Prop) : Ex → Fr → Df → Heap U → Prop := fun e _ df H => match df with
  | [] => match e with
    | .nrm => Ky .tt none H
    | .ret => Ky .ff (some .ret) H
    | .exit i => Ky .ff (some (.exit i)) H
    | .goto l => Ky .ff (some (.goto l)) H
    | .pan _ => False
  | [.pend j] => match e with
    | .ret => Ky .ff (some (.seq .ret j)) H
    | .exit i => Ky .ff (some (.seq (.exit i) j)) H
    | _ => False
  | _ => False
def jumpK (K : Ex → Fr → Df → Heap U → Prop) (j : Code) (fr : Fr) (df : Df) (H : Heap U) : Prop :=
  match j with
  | .ret => K .ret fr df H
  | .exit i => K (.exit i) fr df H
  | .goto l => K (.goto l) fr df H
  | _ => False
def jumpO (K : Ex → Fr → Df → Heap U → Prop) (j : Code) (fr : Fr) (df : Df) (H : Heap U) : Prop :=
  match j with
  | .seq a b => jumpK K a fr (.pend b :: df) H
  | j => jumpK K j fr df H
def allM : Df → Bool
  | [] => true
  | .mark :: l => allM l
  | _ => false
def itEndD (K : Ex → Fr → Df → Heap U → Prop) (fr : Fr) (df : Df) (df2 : Df) (H2 : Heap U) : Prop :=
  match df2 with
  | .pend j :: l => isB (allM l) (jumpO K j fr (.mark :: df) H2)
  | l => isB (allM l) (K .nrm fr (.mark :: df) H2)
def itEndK (K : Ex → Fr → Df → Heap U → Prop) (fr : Fr) (df : Df) : Ex → Fr → Df → Heap U → Prop := fun e _ df2 H2 =>
  match e with
  | .nrm | .ret => itEndD K fr df df2 H2
  | _ => False
def frameOf : Nat → List AV → Fr
  | _, [] => []
  | i, x :: xs => (i, x) :: frameOf (i + 1) xs
theorem frameOf_ok {π : Plc} {tmps : Array Value} : ∀ {i : Nat} {xs : List AV}, (∀ (j : Nat) (x : AV), xs[j]? = some x → Rep π x (tmps.getD (i + j) undef)) → FrOk π (frameOf i xs) tmps
  | i, [], _, t => by simp [frameOf, Fr.get, Rep]
  | i, x :: xs, h, t => by
    unfold frameOf
    rw [Fr.get_cons]
    split
    · rename_i e; subst e; exact h 0 x (by simp)
    · exact frameOf_ok (fun j x' hx => by have := h (j + 1) x' (by simpa using hx); rwa [show i + (j + 1) = i + 1 + j by omega] at this) t
def bodyOf (fn : Func) : Code :=
  match fn.body with
  | some c => c
  | none => .refuse ""

def wpA : Env U → Cfg U → Code → Fr → Df → Heap U → (Ex → Fr → Df → Heap U → Prop) → Prop
  | E, C, .skip, fr, df, H, K => K .nrm fr df H
  | E, C, .label _, fr, df, H, K => K .nrm fr df H
  | E, C, .region id ops draw, fr, df, H, K => match draw with
    | false => seqA E C.rnd ops.toList ops.toList fr df H (spK (C.sp id) (worked K .nrm)) (fun x => worked K (.pan x))
    | true => drawGo E ops.toList (C.hs id) fr H ops.toList [] [] none (fun fr H => worked K .nrm fr df H) (fun x fr H => worked K (.pan x) fr df H)
  | E, C, .seq a b, fr, df, H, K => match C.L (keyOf b) with
    | some (.cut s) => (wpA E C a fr df H fun
      | .nrm, fr', df', H' => sameDf df' df ∧ ∃ t, weakN C.m fr' df' H' (s.fr t) (s.H t)
      | e, fr, df, H => K e fr df H) ∧ ∀ t, wpA E C b (s.fr t) df (s.H t) K
    | _ => wpA E C a fr df H fun
      | .nrm, fr, df, H => wpA E C b fr df H K
      | e, fr, df, H => K e fr df H
  | E, C, .cond c x y, fr, df, H, K => match fr.eval c with
    | .tt => wpA E C x fr df H K
    | .ff => wpA E C y fr df H K
    | .v (.bool b) => match c with
      | .tmp t => (b = true → wpA E C x ((t, .tt) :: fr) df H K) ∧ (b = false → wpA E C y ((t, .ff) :: fr) df H K)
      | _ => False
    | _ => False
  | E, C, .block id c, fr, df, H, K => wpA E C c fr df H fun
    | .exit i, fr, df, H => match Nat.decEq i id with
      | .isTrue _ => K .nrm fr df H
      | .isFalse _ => K (.exit i) fr df H
    | e, fr, df, H => K e fr df H
  | E, C, .loop c, fr, df, H, K => match ruleAt H (C.L (keyOf c)) with
    | none => False
    | some (.unroll n) => unrA (wpA E C c) K n fr df H
    | some (.steps l) => stA C.m (wpA E C c) K l fr df H
    | some (.inv s) => (∃ t, weakN C.m fr df H (s.fr t) (s.H t)) ∧ ∀ t, wpA E C c (s.fr t) df (s.H t) fun
      | .nrm, fr', df', H' => sameDf df' df ∧ ∃ t', weakN C.m fr' df' H' (s.fr t') (s.H t') ∧ s.mu t' < s.mu t
      | e, fr', df', H' => K e fr' df' H'
    | some (.invR s rel) => ∃ t0, weakN C.m fr df H (s.fr t0) (s.H t0) ∧ rel t0 t0 ∧ ∀ t, rel t0 t → wpA E C c (s.fr t) df (s.H t) fun
      | .nrm, fr', df', H' => sameDf df' df ∧ ∃ t', weakN C.m fr' df' H' (s.fr t') (s.H t') ∧ s.mu t' < s.mu t ∧ rel t0 t'
      | e, fr', df', H' => K e fr' df' H'
    | some (.sel _) => False
    | some (.cut _) => False
  | E, C, .exit id, fr, df, H, K => K (.exit id) fr df H
  | E, C, .goto l, fr, df, H, K => K (.goto l) fr df H
  | E, C, .ret, fr, df, H, K => K .ret fr df H
  | E, C, .scope c, fr, df, H, K => wpA E C c fr df H fun
    | .goto _, _, _, _ => False
    | e, fr, df, H => K e fr df H
  | E, C, .rangeFunc f ps assign body, fr, df, H, K => match fr.eval f, C.it (keyOf body) with
    | .fn (.func g) [] caps, some it => isB (!C.rnd && noPend df && Nat.beq g it.g && (ps.toList.all fun t => Nat.blt t E.nt) && Nat.ble (caps.length + 1) it.fn.ntmps) (∀ l,
        it.run (fun args Hy Ky => match putsF ps.toList args fr with
          | some fr1 => wpA E { C with rnd := true, m := Hy.length } assign fr1 [] Hy fun
            | .nrm, fr2, df2, H2 => sameDf df2 [] ∧ wpA E { C with rnd := true, m := Hy.length } body fr2 [] H2 (roundK Ky)
            | _, _, _, _ => False
          | none => False) l H.length (frameOf 0 (.fn (.yield l) [] [] :: caps)) H (itEndK K fr df))
    | _, _ => False
  | _, _, .refuse _, _, _, _, _ => False

theorem least_ex {p : Nat → Prop} : ∀ {n : Nat}, p n → ∃ m, p m ∧ ∀ k, p k → m ≤ k := by
  intro n
  induction n using Nat.strongRecOn with
  | ind n ih =>
    intro hp
    by_cases h : ∃ k, k < n ∧ p k
    · obtain ⟨k, hk, hpk⟩ := h; exact ih k hk hpk
    · exact ⟨n, hp, fun k hk => by
        rcases Nat.lt_or_ge k n with h1 | h1
        · exact absurd ⟨k, h1, hk⟩ h
        · exact h1⟩

theorem wpIn_loop_rel {F : Fence} {n : Nat} {P : Program} {c : Code} {Q : Exit → Act → World → Prop} (I : Nat → Act → World → Prop)
    (round : ∀ j a w, I j a w → c.wpIn F n P (Exit.then (fun a' w' => ∃ j', j' < j ∧ I j' a' w') Q) a w) {j : Nat} {a : Act} {w : World} (h : I j a w) : (Code.loop c).wpIn F n P Q a w := by
  have hex : ∀ a w, ∃ m, (∃ j, I j a w) → I m a w ∧ ∀ k, I k a w → m ≤ k := by
    intro a w
    by_cases h : ∃ j, I j a w
    · obtain ⟨j, hj⟩ := h
      obtain ⟨m, h1, h2⟩ := least_ex (p := fun j => I j a w) hj
      exact ⟨m, fun _ => ⟨h1, h2⟩⟩
    · exact ⟨0, fun h' => absurd h' h⟩
  let μ : Act → World → Nat := fun a w => Classical.choose (hex a w)
  have hμ : ∀ {a w}, (∃ j, I j a w) → I (μ a w) a w ∧ ∀ k, I k a w → μ a w ≤ k := fun {a w} h => Classical.choose_spec (hex a w) h
  refine wpIn_loop (fun a w => ∃ j, I j a w) μ ⟨j, h⟩ fun a w hI => ?_
  refine Go.wpIn_mono (round _ a w (hμ hI).1) fun e a' w' q => ?_
  cases e with
  | normal =>
    obtain ⟨j', hj', hI'⟩ := q
    exact ⟨⟨j', hI'⟩, Nat.lt_of_le_of_lt ((hμ ⟨j', hI'⟩).2 _ hI') hj'⟩
  | exit i => exact q
  | goto i => exact q
  | ret => exact q
  | panic ch => exact q
  | outgrown => exact q

theorem QOf.mono {B : Base U} {K K' : Ex → Fr → Df → Heap U → Prop} (h : ∀ e fr df H, K e fr df H → K' e fr df H) : ∀ e a w, QOf B K e a w → QOf B K' e a w := by
  intro e a w q
  cases e with
  | normal => obtain ⟨fr, df, H, π, hk, hs⟩ := q; exact ⟨fr, df, H, π, h _ _ _ _ hk, hs⟩
  | exit i => obtain ⟨fr, df, H, π, hk, hs⟩ := q; exact ⟨fr, df, H, π, h _ _ _ _ hk, hs⟩
  | goto i => obtain ⟨fr, df, H, π, hk, hs⟩ := q; exact ⟨fr, df, H, π, h _ _ _ _ hk, hs⟩
  | ret => obtain ⟨fr, df, H, π, hk, hs⟩ := q; exact ⟨fr, df, H, π, h _ _ _ _ hk, hs⟩
  | panic ch => obtain ⟨x, y, fr, df, H, π, he, hk, hs⟩ := q; exact ⟨x, y, fr, df, H, π, he, h _ _ _ _ hk, hs⟩
  | outgrown => exact q

theorem wpOpsIn_mono' {F : Fence} {n : Nat} {P : Program} {ops : Array Oper} {Q Q' : Exit → Act → World → Prop} (hq : ∀ e a w, Q e a w → Q' e a w) : ∀ {l : List Nat} {a : Act} {w : World}, wpOpsIn F n P ops Q l a w → wpOpsIn F n P ops Q' l a w
  | [], a, w, h => hq _ _ _ h
  | i :: rest, a, w, h => by
    simp only [wpOpsIn] at h ⊢
    split
    · rename_i ho; rw [ho] at h; exact wpOpsIn_mono' hq h
    · rename_i o ho
      rw [ho] at h
      simp only at h
      split
      · rename_i hw; rw [if_pos hw] at h; exact Oper.wpIn_both (fun a w h => wpOpsIn_mono' hq h) hq h
      · rename_i hw; rw [if_neg hw] at h; exact ⟨h.1, wpOpsIn_mono' hq h.2⟩

abbrev Base.lp (B : Base U) (fi fo : Option Code → Option Code) (π : Plc) (H : Heap U) (w : World) (nt : Nat) (fresh : Fresh π H.length) (l : Nat) (r : Option Code → Loop) (hl : l < w.heap.size) (hB : B.w.heap.size ≤ w.heap.size) : Base U :=
  { π := π, H := H, w := w, nt := nt, fresh := fresh, x := fun k => k = l ∨ B.x k, J := fun p w => w.heap[l]? = some (.loop (r (fi p))) ∧ B.J (fo p) w
    Jk := fun p w w' h hj => ⟨by rw [h l (.inl rfl)]; exact hj.1, B.Jk _ _ _ (fun n hn => h n (.inr hn)) hj.2⟩
    Jx := fun p w k hj hk => by
      rcases hk with rfl | hk
      · exact ⟨_, hj.1⟩
      · exact B.Jx _ _ _ hj.2 hk
    xlt := fun n hn => by
      rcases hn with rfl | hn
      · exact hl
      · exact Nat.lt_of_lt_of_le (B.xlt n hn) hB }

theorem BlkOk.plain {π : Plc} {w : World} {p : Place} {b : AB1 U} (hb : BlkOk π w p b) (hp : b.phys p) : ∃ o, w.heap[p.blk]? = some o ∧ plainObj o := by
  cases b with
  | cells vs t => obtain ⟨h0, cs, h1, h2⟩ := hb; exact ⟨_, h1, .inl ⟨_, _, _, rfl⟩⟩
  | rc vs t => obtain ⟨h0, cs, h1, h2⟩ := hb; exact ⟨_, h1, .inl ⟨_, _, _, rfl⟩⟩
  | row c l t =>
    obtain ⟨h0, h1, h2, h3, cs, h4, h5⟩ := hb
    rcases h5.2 with ⟨e, hn⟩ | ⟨g, cap, cur, e, hb', hg, hn, hc, hs, ht⟩
    · simp only [Place.sv, Value.slice.injEq] at e; exact absurd e.1 hp
    · have hsa : p.sa = some ⟨g, 0, none⟩ := by simp only [Place.sv, Value.slice.injEq] at e; exact e.1
      have hg' : g = p.blk := by simpa using congrArg Addr.block (h3 _ hsa)
      subst hg'; exact ⟨_, hg, .inl ⟨_, _, _, rfl⟩⟩
  | ro c l =>
    obtain ⟨h1, h2⟩ := hb
    obtain ⟨hl, hz⟩ := hp
    cases l with
    | nil => exact absurd rfl hl
    | cons x l =>
      have hlen := U.len c x
      cases he : U.enc c x with
      | nil => rw [he] at hlen; exact absurd hlen.symm hz
      | cons a aa =>
        obtain ⟨y, hy, _⟩ := h2 0 x (by simp) 0 a (by simp [he])
        unfold World.cell? at hy
        split at hy
        · rename_i c _ _ hc; exact ⟨_, hc, .inl ⟨_, _, _, rfl⟩⟩
        · cases hy
  | map m l => obtain ⟨es, ck, h1, h2⟩ := hb; exact ⟨_, h1, .inr ⟨_, _, rfl⟩⟩
  | mrow o vs => obtain ⟨es, ck, ks, h1, h2⟩ := hb; exact ⟨_, h1, .inr ⟨_, _, rfl⟩⟩

theorem Conc.putObj {π : Plc} {H : Heap U} {w : World} (hc : Conc π H w) {l : Nat} {o o' : Obj} (h : w.heap[l]? = some o) (hp : ¬ plainObj o) : Conc π H (w.putObj l o') := by
  refine hc.keep (Sub.refl π) fun id k b p hb hpl hph => World.putObj_heap_other fun e => ?_
  obtain ⟨p', hp', hok⟩ := hc.ok id k b hb
  rw [hpl] at hp'; cases hp'
  obtain ⟨o2, ho2, hpl2⟩ := hok.plain hph
  rw [e, h] at ho2; cases ho2
  exact hp hpl2

theorem keeps_put (w : World) (l : Nat) (o : Obj) : Keeps (fun k => k = l) w (w.putObj l o) :=
  ⟨rfl, rfl, rfl, by simp, fun k _ hk => World.putObj_heap_other hk⟩

theorem put_keeps_deferred {w : World} {l : Nat} {r : Loop} {o : Obj} (h : w.heap[l]? = some (.loop r)) (D : Nat) (hD : w.heap[D]? = some (Obj.deferred (some []))) : (w.putObj l o).heap[D]? = some (Obj.deferred (some [])) := by
  rw [World.putObj_heap_other fun e => ?_]; exact hD
  rw [e, h] at hD; cases hD

theorem J_put {B : Base U} {l : Nat} {o : Obj} {w : World} {p : Option Code} (hl : B.w.heap.size ≤ l) (h : B.J p w) : B.J p (w.putObj l o) :=
  B.Jk _ _ _ (fun n hn => World.putObj_heap_other fun e => by have := B.xlt n hn; omega) h
theorem St.put {B : Base U} {fi fo : Option Code → Option Code} {π0 : Plc} {H0 : Heap U} {w0 : World} {nt : Nat} {hf : Fresh π0 H0.length} {l : Nat} {r r' : Option Code → Loop} {hl : l < w0.heap.size} {hB : B.w.heap.size ≤ w0.heap.size} {fr : Fr} {df : Df} {H : Heap U} {π : Plc} {w : World} {a : Act}
    (hBl : B.w.heap.size ≤ l) (h : St (Base.lp B fi fo π0 H0 w0 nt hf l r hl hB) fr df H π w a) : St (Base.lp B fi fo π0 H0 w0 nt hf l r' hl hB) fr df H π (w.putObj l (.loop (r' (fi (pendOf df))))) a where
  fr := h.fr
  conc := h.conc.putObj h.j.1 not_plain_loop
  fresh := h.fresh
  only := h.only
  keeps := h.keeps.trans (keeps_put w l _) fun n _ hn => .inr (.inl hn)
  own := h.own
  nt := h.nt
  j := ⟨World.putObj_heap_same (Array.getElem?_eq_some_iff.1 h.j.1).1, J_put hBl h.j.2⟩
  df := h.df.mono (Sub.refl π) fun D hD => put_keeps_deferred h.j.1 D hD
  len := h.len

theorem St.back {B : Base U} {fi fo : Option Code → Option Code} {nt nt' : Nat} {l : Nat} {r r' : Option Code → Loop} {p q : Option Code} {fr' : Fr} {df' : Df} {H H' : Heap U} {π π' : Plc} {w w0 w' : World} {a' : Act} {hf : Fresh π H.length} {hl : l < w.heap.size} {hB : B.w.heap.size ≤ w.heap.size} {hl0 : l < w0.heap.size} {hB0 : B.w.heap.size ≤ w0.heap.size} {H0 : Heap U} {π0 : Plc} {hf0 : Fresh π0 H0.length}
    (hBl : B.w.heap.size ≤ l) (h : Later (Base.lp B fi fo π0 H0 w0 nt hf0 l r hl0 hB0) H π w) (k : St (Base.lp B (fun _ => none) id π H w nt' hf l r' hl hB) fr' df' H' π' w' a') (hq : fo p = pendOf df') (hi : fi p = q) :
    St ((Base.lp B fi fo π0 H0 w0 nt hf0 l r hl0 hB0).at_ h) [] (pendL p) H' π' (w'.putObj l (.loop (r q))) { tmps := #[], defers := [] } where
  fr := fun t => by simp [Fr.get, Rep]
  conc := k.conc.putObj k.j.1 not_plain_loop
  fresh := k.fresh
  only := k.only
  keeps := k.keeps.trans (keeps_put w' l _) fun n _ hn => .inr (.inl hn)
  own := k.own
  nt := rfl
  j := by
    rw [pendOf_pendL]
    refine ⟨?_, ?_⟩
    · rw [hi]; exact World.putObj_heap_same (Array.getElem?_eq_some_iff.1 k.j.1).1
    · rw [hq]; exact J_put hBl k.j.2
  df := DfOk.pendL p rfl
  len := k.len

theorem YOk.lp {P : Program} {l0 : Nat} {Y : List AV → Heap U → (AV → Option Code → Heap U → Prop) → Prop} {B : Base U} (hY : YOk P l0 Y B) {π : Plc} {H : Heap U} {w : World} {nt : Nat} {fresh : Fresh π H.length} {l : Nat} {r : Loop} {hl : l < w.heap.size} {hB : B.w.heap.size ≤ w.heap.size}
    (hBl : B.w.heap.size ≤ l) (ho : ∀ id k, id < B.H.length → π id k = B.π id k) (hlen : B.H.length ≤ H.length) : YOk P l0 Y (Base.lp B (fun _ => none) id π H w nt fresh l (fun _ => r) hl hB) := by
  intro args Hx K hy vs πx wx hx hvs rd n
  have hx' : Later B Hx πx wx := ⟨hx.conc, hx.fresh, fun id k hi => (hx.only id k (Nat.lt_of_lt_of_le hi hlen)).trans (ho id k hi), Nat.le_trans hlen hx.len, Nat.le_trans hB hx.size, hx.j.2⟩
  obtain ⟨f, tmps, assign, body, hrun, hround⟩ := hY args Hx K hy vs πx wx hx' hvs rd n
  refine ⟨f, tmps, assign, body, hrun, hround.mono fun e w' hr => ?_⟩
  obtain ⟨y, v, p, H', π', he, hrv, hk, hS⟩ := hr
  refine ⟨y, v, p, H', π', he, hrv, hk, ?_⟩
  exact
    { fr := hS.fr, conc := hS.conc, fresh := hS.fresh, only := hS.only, own := hS.own, nt := hS.nt, df := hS.df, len := hS.len
      keeps := hS.keeps.weaken fun n _ hh => by
        rcases hh with hh | hh
        · exact .inl hh
        · exact .inr (.inr hh)
      j := by
        refine ⟨?_, hS.j⟩
        have h1 := hx.j.1
        rw [hS.keeps.block l (Array.getElem?_eq_some_iff.1 h1).1 fun hh => ?_]
        · exact h1
        · rcases hh with hh | hh
          · obtain ⟨o', ho', hp'⟩ := hh.obj hx.conc
            rw [h1] at ho'; cases ho'; exact not_plain_loop hp'
          · have := B.xlt l hh; omega }

theorem DfOk.lt {lo : Nat} {π : Plc} {w : World} : ∀ {l : Df} {ds : List Deferred}, DfOk lo π w l ds → ∀ d ∈ ds, ∀ D, d.target = .collected D → D < w.heap.size
  | [], ds, e, d, hd, D, _ => by cases (show ds = [] from e); cases hd
  | .call f xs ys :: l, ds, ⟨cap, args, ds', e, h1, h2, h3⟩, d, hd, D, hD => by
    subst e
    rcases List.mem_cons.1 hd with rfl | hd
    · cases hD
    · exact DfOk.lt h3 d hd D hD
  | .mark :: l, ds, ⟨D', ds', e, h1, h2, h3, h4⟩, d, hd, D, hD => by
    subst e
    rcases List.mem_cons.1 hd with rfl | hd
    · cases hD; exact (Array.getElem?_eq_some_iff.1 h1).1
    · exact DfOk.lt h4 d hd D hD
  | .pend j :: l, ds, e, d, hd, D, hD => DfOk.lt (l := l) e d hd D hD

theorem St.out {B : Base U} {fr fr' : Fr} {df df' : Df} {H H' : Heap U} {π π' : Plc} {w w' : World} {a a' : Act} {nt : Nat} {l : Nat} {r : Option Code → Loop} {o1 o2 : Obj} {w1 : World} {hl1 : l < w1.heap.size} {hB1 : B.w.heap.size ≤ w1.heap.size}
    (h : St B fr df H π w a) (hn : noPend df = true) (hw1 : w1 = (w.alloc (.deferred (some []))).alloc o1) (hl : l = w.heap.size + 1) (k : St (Base.lp B inP outP π H w1 nt h.fresh l r hl1 hB1) fr' df' H' π' w' a') :
    St B fr (pendL (outP (pendOf df')) ++ .mark :: df) H' π' (w'.putObj l o2) { a with defers := [{ target := .collected w.heap.size, args := #[] }] ++ a.defers } := by
  have hsub : Sub π π' := k.sub
  have hk1 : Keeps (fun _ => False) w w1 := by rw [hw1]; exact (Keeps.alloc _ w _).trans (Keeps.alloc _ _ _) fun _ _ h => h
  have hkk : Keeps (fun n => Owned π H n ∨ n = l ∨ B.x n) w (w'.putObj l o2) :=
    ((hk1.weaken fun _ _ hh => hh.elim).trans k.keeps fun n _ ho => ho).trans (keeps_put w' l o2) fun n _ hh => .inr (.inl hh)
  have hBl : B.w.heap.size ≤ l := by have := h.keeps.size; omega
  have hother : ∀ (n : Nat), w.heap[n]? = some (Obj.deferred (some [])) → (w'.putObj l o2).heap[n]? = some (Obj.deferred (some [])) := by
    intro n ho
    have hnlt : n < w.heap.size := (Array.getElem?_eq_some_iff.1 ho).1
    rw [hkk.block n hnlt fun hh => ?_]; exact ho
    rcases hh with hh | hh | hh
    · obtain ⟨o', ho', hp'⟩ := hh.obj h.conc
      rw [ho] at ho'; cases ho'; exact not_plain_deferred hp'
    · omega
    · obtain ⟨r, hr⟩ := B.Jx _ _ n h.j hh
      rw [ho] at hr; cases hr
  have hD : (w'.putObj l o2).heap[w.heap.size]? = some (Obj.deferred (some [])) := by
    have h1 : w1.heap[w.heap.size]? = some (Obj.deferred (some [])) := by
      rw [hw1]
      show (((w.heap.push _).push _) : Array Obj)[w.heap.size]? = _
      rw [Array.getElem?_push, if_neg (by simp), Array.getElem?_push, if_pos rfl]
    rw [World.putObj_heap_other (by omega), k.keeps.block _ (by show w.heap.size < w1.heap.size; rw [hw1, World.size_alloc, World.size_alloc]; omega) fun hh => ?_]
    · exact h1
    · rcases hh with hh | hh | hh
      · obtain ⟨o', ho', _⟩ := hh.obj h.conc
        have := (Array.getElem?_eq_some_iff.1 ho').1; omega
      · have : w.heap.size = l := hh
        omega
      · have := B.xlt _ hh; have := h.keeps.size; omega
  have hdf : DfOk B.w.heap.size π' (w'.putObj l o2) (.mark :: df) ([{ target := .collected w.heap.size, args := #[] }] ++ a.defers) :=
    ⟨w.heap.size, a.defers, rfl, hD, h.keeps.size, fun d hd e => by have := h.df.lt d hd _ e; omega, h.df.mono hsub fun D hD => hother D hD⟩
  exact
    { fr := h.fr.mono hsub
      conc := k.conc.putObj k.j.1 not_plain_loop
      fresh := k.fresh
      only := fun id j hi => (k.only id j (Nat.lt_of_lt_of_le hi h.len)).trans (h.only id j hi)
      keeps := h.keeps.trans hkk fun n hn ho => by
        rcases ho with ho | ho | ho
        · exact .inl ((h.own n ho).resolve_right (by omega))
        · have := h.keeps.size; omega
        · exact .inr ho
      own := fun n hn => by
        rcases k.own n hn with h1 | h1
        · exact h.own n h1
        · have h1' : w1.heap.size ≤ n := h1
          have := hk1.size; have := h.keeps.size; exact .inr (by omega)
      nt := h.nt
      j := by
        have hj := J_put (o := o2) hBl k.j.2
        cases hp : outP (pendOf df') with
        | none => rw [hp] at hj; exact hj
        | some j => rw [hp] at hj; exact hj
      df := by
        cases hp : outP (pendOf df') with
        | none => exact hdf
        | some j => exact hdf
      len := Nat.le_trans h.len k.len }

theorem DfOk.putD {lo : Nat} {π : Plc} {w : World} {D : Nat} {o : Obj} : ∀ {l : Df} {ds : List Deferred}, DfOk lo π w l ds → (∀ d ∈ ds, d.target ≠ .collected D) → DfOk lo π (w.putObj D o) l ds
  | [], ds, e, _ => e
  | .call f xs ys :: l, ds, ⟨cap, args, ds', e, h1, h2, h3⟩, hn => ⟨cap, args, ds', e, h1, h2, DfOk.putD h3 fun d hd => hn d (by subst e; exact List.mem_cons_of_mem _ hd)⟩
  | .mark :: l, ds, ⟨D', ds', e, h1, h2, h3, h4⟩, hn => by
    subst e
    have hne : D' ≠ D := fun hh => hn _ (List.mem_cons_self ..) (by rw [hh])
    exact ⟨D', ds', rfl, by rw [World.putObj_heap_other hne]; exact h1, h2, h3, DfOk.putD h4 fun d hd => hn d (List.mem_cons_of_mem _ hd)⟩
  | .pend j :: l, ds, e, hn => DfOk.putD (l := l) e hn
theorem St.takeM {P : Program} {B : Base U} {p : Option Code} {fr : Fr} {df : Df} {H : Heap U} {π : Plc} {w : World} {a : Act} (hdf : noPend df = true) (h : St B fr (pendL p ++ .mark :: df) H π w a) :
    ∃ D ds', a.defers = { target := .collected D, args := #[] } :: ds' ∧ (Instr.takeDeferred D).run P w = .ok [] (w.putObj D (.deferred none)) ∧ St B fr (pendL p ++ df) H π (w.putObj D (.deferred none)) { a with defers := ds' } := by
  have hd : DfOk B.w.heap.size π w (.mark :: df) a.defers := by
    have := h.df
    cases p with
    | none => exact this
    | some j => exact this
  obtain ⟨D, ds', e, h1, h2, h3, h4⟩ := hd
  have hj : B.J p w := by
    have := h.j
    cases p with
    | none => exact this
    | some j => exact this
  have hd2 := h4.putD (o := .deferred none) h3
  have hlo : B.w.heap.size ≤ D := h2
  refine ⟨D, ds', e, run_takeDeferred h1, h.fr, h.conc.putObj h1 not_plain_deferred, h.fresh, h.only, h.keeps.trans (keeps_put w D _) fun n hn hh => ?_, h.own, h.nt, ?_, ?_, h.len⟩
  · have hn' : n < B.w.heap.size := hn
    omega
  · have := J_put (o := .deferred none) hlo hj
    cases p with
    | none => show B.J (pendOf df) _; rw [noPend_ok hdf]; exact this
    | some j => exact this
  · cases p with
    | none => exact hd2
    | some j => exact hd2
theorem allM_noPend {df : Df} (h : allM df = true) : noPend df = true := by
  cases df with
  | nil => rfl
  | cons d l => cases d <;> simp_all [allM, noPend]
theorem leaves_marksM {P : Program} {fn : Func} {n : Nat} {F : Fence} {R : Ending → World → Prop} {B : Base U} {p : Option Code} {fr : Fr} {H : Heap U} {π : Plc} {u : FrameMode} (hu : u ≠ .run) {tmps : Array Value} :
    ∀ (df : Df) (w : World) (a : Act), allM df = true → a.tmps = tmps → St B fr (pendL p ++ df) H π w a →
      (∀ w' a', a'.tmps = tmps → a'.defers = [] → St B fr (pendL p) H π w' a' → LeavesInM F n P fn tmps R [] u w') → LeavesInM F n P fn tmps R a.defers u w
  | [], w, a, _, ht, hS, hk => by
    rw [List.append_nil] at hS
    have hd : a.defers = [] := by
      have := hS.df
      cases p with
      | none => exact this
      | some j => exact this
    rw [hd]; exact hk w a ht hd hS
  | .call f xs ys :: l, w, a, h, ht, hS, hk => by cases h
  | .pend j :: l, w, a, h, ht, hS, hk => by cases h
  | .mark :: l, w, a, h, ht, hS, hk => by
    obtain ⟨D, ds', e, hrun, hS'⟩ := hS.takeM (P := P) (allM_noPend (by simpa [allM] using h))
    rw [e]
    exact ⟨hu, .inl ⟨D, _, rfl, hrun, leaves_marksM hu l (w.putObj D (.deferred none)) { a with defers := ds' } (by simpa [allM] using h) ht hS' hk⟩⟩

theorem putsF_ok {π : Plc} : ∀ {ps : List Nat} {xs : List AV} {vs : List Value} {fr fr' : Fr} {tmps : Array Value}, putsF ps xs fr = some fr' → RepL π xs vs → (∀ t ∈ ps, t < tmps.size) → FrOk π fr tmps →
    vs.length = ps.length ∧ FrOk π fr' ((ps.zip vs).foldl (fun tmps (t, a) => tmps.setIfInBounds t a) tmps) ∧ ((ps.zip vs).foldl (fun tmps (t, a) => tmps.setIfInBounds t a) tmps).size = tmps.size
  | [], [], vs, fr, fr', tmps, h, hr, _, hf => by
    simp only [putsF, Option.some.injEq] at h; subst h
    have := hr.length
    have hv : vs = [] := List.eq_nil_of_length_eq_zero (by simpa using this)
    subst hv; exact ⟨rfl, hf, rfl⟩
  | [], _ :: _, vs, fr, fr', tmps, h, _, _, _ => by simp [putsF] at h
  | _ :: _, [], vs, fr, fr', tmps, h, _, _, _ => by simp [putsF] at h
  | t :: ts, x :: xs, vs, fr, fr', tmps, h, hr, hb, hf => by
    simp only [putsF] at h
    simp only [RepL] at hr
    obtain ⟨y, ys, rfl, hy, hys⟩ := hr
    have hf' : FrOk π ((t, x) :: fr) (tmps.setIfInBounds t y) := by
      intro t'
      rw [Fr.get_cons, Array.getD_eq_getD_getElem?]
      split
      · rename_i e; subst e
        rw [Array.getElem?_setIfInBounds_self_of_lt (hb _ (List.mem_cons_self ..))]; exact hy
      · rename_i e
        rw [Array.getElem?_setIfInBounds_ne e, ← Array.getD_eq_getD_getElem?]; exact hf t'
    obtain ⟨h1, h2, h3⟩ := putsF_ok h hys (fun t' ht' => by rw [Array.size_setIfInBounds]; exact hb _ (List.mem_cons_of_mem _ ht')) hf'
    refine ⟨by simp [h1], ?_, ?_⟩
    · simpa using h2
    · simpa using h3

structure ItOk (P : Program) (it : ItW U) : Prop where
  fn : P.funcs[it.g]? = some it.fn
  body : it.fn.body = some (bodyOf it.fn)
  res : it.fn.results = #[]
  enters : ∀ args w, (callFunc it.g args).run P w = .ok (.enter it.g args) w
  walk : ∀ Y l fr (H : Heap U) K, it.run Y l H.length fr H K → ∀ (B : Base U) n, B.nt = it.fn.ntmps → B.H.length = H.length → YOk P l Y B → ∀ π w a, St B fr [] H π w a → (bodyOf it.fn).wpIn (Fw none) n P (QOf B K) a w

theorem itEndK_ok {K : Ex → Fr → Df → Heap U → Prop} {fr : Fr} {df : Df} {e : Ex} {fr2 : Fr} {df2 : Df} {H2 : Heap U} (he : e = .nrm ∨ e = .ret) (h : itEndK K fr df e fr2 df2 H2) :
    (∃ l, df2 = pendL none ++ l ∧ allM l = true ∧ K .nrm fr (.mark :: df) H2) ∨ ∃ j l, df2 = pendL (some j) ++ l ∧ allM l = true ∧ jumpO K j fr (.mark :: df) H2 := by
  have h' : itEndD K fr df df2 H2 := by rcases he with rfl | rfl <;> exact h
  clear h
  unfold itEndD at h'
  split at h'
  · rename_i j l
    obtain ⟨h1, h2⟩ := isB_ok h'
    exact .inr ⟨j, l, rfl, h1, h2⟩
  · obtain ⟨h1, h2⟩ := isB_ok h'
    exact .inl ⟨df2, rfl, h1, h2⟩

theorem wpIn_scope' {F : Fence} {n : Nat} {P : Program} {c : Code} {Q : Exit → Act → World → Prop} {a : Act} {w : World} (h : c.wpIn F n P (Exit.noGoto Q) a w) : (Code.scope c).wpIn F n P Q a w := by
  intro b k cs hro hb hr
  have h0 : (lone (b.atR a (.code (.scope c) :: k)) cs w).fenced P F := fenced_calm hb hr rfl
  have hs0 : step P (lone (b.atR a (.code (.scope c) :: k)) cs w) = .next (lone (b.atR a (.code c :: .inScope c :: k)) cs w) :=
    step_lone_go (by simp [stepG, stepG.exec, Frame.atR])
  obtain ⟨e, a1, w1, hq, harr⟩ := h b (.inScope c :: k) cs hro hb hr
  have hs1 : step P (lone (b.atR a1 (.inScope c :: k)) cs w1) = .next (lone (b.atR a1 k) cs w1) :=
    step_lone_go (by simp [stepG, stepG.exec, Frame.atR])
  cases e with
  | normal => exact ⟨.normal, a1, w1, hq, .head h0 hs0 (StepsIn.trans harr (.one (fenced_calm hb hr rfl) hs1))⟩
  | goto l => exact hq.elim
  | exit i =>
    have hx : exitTo i (.inScope c :: k) = exitTo i k := by simp [exitTo]
    exact ⟨_, a1, w1, hq, fun k' hk => .head h0 hs0 (harr.1 k' (by rw [hx]; exact hk)),
      fun hr' hk => let ⟨k1, h1, h2⟩ := harr.2 hr' (by rw [hx]; exact hk); ⟨k1, h1, .head h0 hs0 h2⟩⟩
  | ret => exact ⟨_, a1, w1, hq, .of_steps (.one h0 hs0) harr⟩
  | panic ch => exact ⟨_, a1, w1, hq, .of_steps (.one h0 hs0) harr⟩
  | outgrown => exact ⟨_, a1, w1, hq, .of_steps (.one h0 hs0) harr⟩

theorem wpIn_jump {F : Fence} {n : Nat} {P : Program} {B : Base U} {K : Ex → Fr → Df → Heap U → Prop} {j : Code} {fr : Fr} {df : Df} {H : Heap U} {π : Plc} {w : World} {a : Act} (h : jumpK K j fr df H) (hS : St B fr df H π w a) : j.wpIn F n P (QOf B K) a w := by
  cases j <;> simp only [jumpK] at h <;> try exact h.elim
  · exact wpIn_exit ⟨_, _, _, _, h, hS⟩
  · exact wpIn_goto ⟨_, _, _, _, h, hS⟩
  · exact wpIn_ret ⟨_, _, _, _, h, hS⟩

theorem wpIn_jumpO {F : Fence} {n : Nat} {P : Program} {B : Base U} {K : Ex → Fr → Df → Heap U → Prop} {j : Code} {fr : Fr} {df : Df} {H : Heap U} {π : Plc} {w : World} {a : Act} (h : jumpO K j fr df H) (hS : St B fr (pendL (outP (some j)) ++ df) H π w a) :
    ∃ c, inP (some j) = some c ∧ c.wpIn F n P (QOf B K) a w := by
  unfold jumpO at h
  split at h
  · exact ⟨_, rfl, wpIn_jump h hS⟩
  · rename_i hne
    refine ⟨j, ?_, wpIn_jump (π := π) h ?_⟩
    · unfold inP; split
      · rename_i a b e; cases e; exact absurd rfl (hne a b)
      · rfl
    · have : outP (some j) = none := by
        unfold outP; split
        · rename_i a b e; cases e; exact absurd rfl (hne a b)
        · rfl
      rw [this] at hS; exact hS
theorem roundK_ok {Ky : AV → Option Code → Heap U → Prop} {e : Ex} {fr : Fr} {df : Df} {H : Heap U} (h : roundK Ky e fr df H) :
    ∃ q p v, (match e with | .nrm => q = none ∧ v = AV.tt | .ret => q = some .ret ∧ v = AV.ff | .exit i => q = some (.exit i) ∧ v = AV.ff | .goto l => q = some (.goto l) ∧ v = AV.ff | .pan _ => False) ∧ inP p = q ∧ outP p = pendOf df ∧ Ky v p H := by
  unfold roundK at h
  split at h
  · cases e <;> simp only at h ⊢
    · exact ⟨_, none, _, ⟨rfl, rfl⟩, rfl, rfl, h⟩
    · rename_i i; exact ⟨_, some (.exit i), _, ⟨rfl, rfl⟩, rfl, rfl, h⟩
    · rename_i i; exact ⟨_, some (.goto i), _, ⟨rfl, rfl⟩, rfl, rfl, h⟩
    · exact ⟨_, some .ret, _, ⟨rfl, rfl⟩, rfl, rfl, h⟩
  · rename_i j
    cases e <;> simp only at h ⊢
    · rename_i i; exact ⟨_, some (.seq (.exit i) j), _, ⟨rfl, rfl⟩, rfl, rfl, h⟩
    · exact ⟨_, some (.seq .ret j), _, ⟨rfl, rfl⟩, rfl, rfl, h⟩
  · exact h.elim

theorem wpA_go : ∀ (c : Code) {E : Env U} (hm : E.P.follows .mixedOrders = true) (hT : E.T.Sound E.P) {B : Base U} (hnt : B.nt = E.nt) {C : Cfg U} (hIt : ∀ k it, C.it k = some it → ItOk E.P it) (hCm : C.m = B.H.length) {rd : Option Nat} (hrd : C.rnd = false → rd = none) {n : Nat} (hY : YOk E.P E.l E.Y B)
    (fr : Fr) (df : Df) (H : Heap U) (K : Ex → Fr → Df → Heap U → Prop), wpA E C c fr df H K → ∀ (π : Plc) (w : World) (a : Act), St B fr df H π w a → c.wpIn (Fw rd) n E.P (QOf B K) a w := by
  intro c
  induction c with
  | skip => intro E hm hT B hnt C hIt hCm rd hrd n hY fr df H K h π w a hS; exact wpIn_skip ⟨fr, df, H, π, h, hS⟩
  | label l => intro E hm hT B hnt C hIt hCm rd hrd n hY fr df H K h π w a hS; exact wpIn_label ⟨fr, df, H, π, h, hS⟩
  | exit i => intro E hm hT B hnt C hIt hCm rd hrd n hY fr df H K h π w a hS; exact wpIn_exit ⟨fr, df, H, π, h, hS⟩
  | goto i => intro E hm hT B hnt C hIt hCm rd hrd n hY fr df H K h π w a hS; exact wpIn_goto ⟨fr, df, H, π, h, hS⟩
  | ret => intro E hm hT B hnt C hIt hCm rd hrd n hY fr df H K h π w a hS; exact wpIn_ret ⟨fr, df, H, π, h, hS⟩
  | scope c ih =>
    intro E hm hT B hnt C hIt hCm rd hrd n hY fr df H K h π w a hS
    unfold wpA at h
    refine wpIn_scope' (Go.wpIn_mono (ih hm hT hnt hIt hCm hrd hY _ _ _ _ h π w a hS) fun e a' w' q => ?_)
    cases e with
    | goto i => obtain ⟨fr, df, H, π, hk, hs⟩ := q; exact hk.elim
    | normal => exact q
    | exit i => exact q
    | ret => exact q
    | panic ch => exact q
    | outgrown => exact q
  | rangeFunc f ps assign body ih1 ih2 =>
    intro E hm hT B hnt C hIt hCm rd hrd n hY fr df H K h π w a hS
    unfold wpA at h
    split at h
    case h_2 => exact h.elim
    rename_i g caps it hf hit
    obtain ⟨hb, hwalk⟩ := isB_ok h
    clear h
    simp only [Bool.and_eq_true] at hb
    obtain ⟨⟨⟨⟨h1, hnp⟩, h3⟩, h4⟩, h5⟩ := hb
    have hrdn := hrd (by simpa using h1)
    subst hrdn
    have hio := hIt _ _ hit
    have hg : g = it.g := Nat.eq_of_beq_eq_true h3
    subst hg
    have hps : ∀ t ∈ ps.toList, t < E.nt := fun t ht => by
      have := List.all_eq_true.1 h4 t ht
      simpa using this
    have h5' : caps.length + 1 ≤ it.fn.ntmps := by simpa using h5
    have hv := hS.fr.eval f
    rw [hf] at hv
    simp only [Rep, RepL] at hv
    obtain ⟨va, vb, e, e1, e2⟩ := hv
    have hva : va = #[] := by apply Array.toList_inj.1; simpa using e1
    subst hva
    refine wpIn_rangeFunc fun fn _ => ?_
    let recOf : Option Code → Loop := fun p => { state := if p.isNone then .ready else .done, pending := p, fn := fn, tmps := a.tmps, params := ps, assign := assign, body := body, defers := w.heap.size }
    let busy : Loop := { recOf none with state := .busy }
    generalize hl : w.heap.size + 1 = l
    generalize hw1 : (w.alloc (.deferred (some []))).alloc (.loop (recOf none)) = w1
    have hres : (resolve a.eval (rangeCall f l) 0).run E.P w1 = .ok { target := .fn (.func it.g) vb, args := #[Value.func (.yield l) #[] #[]] } w1 := by
      have harr : (#[] : Array Value) ++ (#[Operand.const (.func (.yield l) #[] #[])] : Array Operand).map a.eval = #[Value.func (.yield l) #[] #[]] := by simp; rfl
      simp only [resolve, rangeCall, e, Deferred.ofValue, Sem.run_bind, Sem.run_pure, Result.andThen_ok, harr]
    refine ⟨l, [{ target := .collected w.heap.size, args := #[] }], w1, { target := .fn (.func it.g) vb, args := #[Value.func (.yield l) #[] #[]] }, w1, it.g, #[Value.func (.yield l) #[] #[]] ++ vb, w1, ?_, hres, fun _ _ => trivial, (by show (callFunc it.g _).run E.P w1 = _; exact hio.enters _ _), fun hh => by simp [Fw, Fence.wide] at hh, ?_⟩
    · rw [← hl, ← hw1]; exact run_enterLoop_outer fn a.tmps ps assign body
    have hk1 : Keeps (fun _ => False) w w1 := by rw [← hw1]; exact (Keeps.alloc _ w _).trans (Keeps.alloc _ _ _) fun _ _ h => h
    have hrec : w1.heap[l]? = some (.loop (recOf none)) := by
      rw [← hw1, ← hl]
      have := World.alloc_heap_new (w.alloc (.deferred (some []))) (.loop (recOf none))
      rwa [World.size_alloc] at this
    have hBw : B.w.heap.size ≤ w.heap.size := hS.keeps.size
    have hBl : B.w.heap.size ≤ l := by omega
    have hl1 : l < w1.heap.size := (Array.getElem?_eq_some_iff.1 hrec).1
    have hB1 : B.w.heap.size ≤ w1.heap.size := by have := hk1.size; omega
    have hjw1 : B.J none w1 := by
      refine B.Jk _ _ _ (fun n hn => hk1.block n (Nat.lt_of_lt_of_le (B.xlt n hn) hBw) fun h => h) ?_
      have := hS.j; rwa [noPend_ok hnp] at this
    let Bi : Base U := Base.lp B inP outP π H w1 it.fn.ntmps hS.fresh l recOf hl1 hB1
    have hlen := e2.length
    have hstart : St Bi (frameOf 0 (.fn (.yield l) [] [] :: caps)) [] H π w1 { tmps := (#[Value.func (.yield l) #[] #[]] ++ vb) ++ Array.replicate (it.fn.ntmps - (#[Value.func (.yield l) #[] #[]] ++ vb : Array Value).size) undef, defers := [] } := by
      refine ⟨frameOf_ok fun j x hx => ?_, hS.conc.keep (Sub.refl π) fun id k b p hb hpl hph => ?_, hS.fresh, fun _ _ _ => rfl, Keeps.refl _ _, fun _ h => .inl h, ?_, ⟨hrec, hjw1⟩, rfl, Nat.le_refl _⟩
      · rw [Nat.zero_add]
        cases j with
        | zero =>
          simp only [List.getElem?_cons_zero, Option.some.injEq] at hx
          subst hx
          simp [Rep, RepL, Array.getD_eq_getD_getElem?]
          rw [Array.getElem?_append_left (by simp)]; rfl
        | succ j =>
          obtain ⟨y, hy, hr⟩ := e2.get (by simpa using hx)
          have hj : j < vb.size := by have := (List.getElem?_eq_some_iff.1 hy).1; simpa using this
          have : ((#[Value.func (.yield l) #[] #[]] ++ vb) ++ Array.replicate (it.fn.ntmps - (#[Value.func (.yield l) #[] #[]] ++ vb : Array Value).size) undef).getD (j + 1) undef = y := by
            rw [Array.getD_eq_getD_getElem?, Array.getElem?_append_left (by simp; omega), Array.getElem?_append_right (by simp)]
            simp only [List.size_toArray, List.length_singleton, Nat.add_sub_cancel]
            rw [Array.getElem?_toList] at hy
            rw [hy]; rfl
          rw [this]; exact hr
      · obtain ⟨p', hp', hok⟩ := hS.conc.ok id k b hb
        rw [hpl] at hp'; cases hp'
        exact hk1.block _ (hok.lt hph) fun h => h
      · have hvl : vb.size = caps.length := by rw [← Array.length_toList]; exact hlen
        show _ = it.fn.ntmps
        simp only [Array.size_append, List.size_toArray, List.length_singleton, Array.size_replicate]
        omega
    have hyield : YOk E.P l (fun args Hy Ky => match putsF ps.toList args fr with
          | some fr1 => wpA E { C with rnd := true, m := Hy.length } assign fr1 [] Hy fun
            | .nrm, fr2, df2, H2 => sameDf df2 [] ∧ wpA E { C with rnd := true, m := Hy.length } body fr2 [] H2 (roundK Ky)
            | _, _, _, _ => False
          | none => False) Bi := by
      intro args Hy Ky hy vs πy wy hLy hvs rd2 n2
      split at hy
      case h_2 => exact hy.elim
      rename_i fr1 hp
      have hsub : Sub π πy := fun id k p hp' => by
        by_cases hi : id < H.length
        · rw [hLy.only id k hi]; exact hp'
        · rw [hS.fresh id k (by omega)] at hp'; cases hp'
      have hfr : FrOk πy fr a.tmps := hS.fr.mono hsub
      have hnta : a.tmps.size = E.nt := hS.nt.trans hnt
      obtain ⟨hl2, hfr1, hsz⟩ := putsF_ok hp hvs (fun t ht => by rw [hnta]; exact hps t ht) hfr
      have hvsz : vs.size = ps.size := by simpa using hl2
      have hzip : (ps.zip vs).foldl (fun tmps (t, a) => tmps.setIfInBounds t a) a.tmps = (ps.toList.zip vs.toList).foldl (fun tmps (t, a) => tmps.setIfInBounds t a) a.tmps := by
        rw [← Array.foldl_toList, Array.toList_zip]
      refine ⟨fn, _, assign, body, run_yield (r := recOf none) hLy.j.1 hvsz, ?_⟩
      refine roundIn_of_wpIn trivial ?_
      show assign.wpIn (Fw (some l)) _ _ _ _ _
      have hly : l < wy.heap.size := (Array.getElem?_eq_some_iff.1 hLy.j.1).1
      have hBy : B.w.heap.size ≤ wy.heap.size := Nat.le_trans hB1 hLy.size
      have hoy : ∀ id k, id < B.H.length → πy id k = B.π id k := fun id k hi => (hLy.only id k (Nat.lt_of_lt_of_le hi hS.len)).trans (hS.only id k hi)
      have hleny : B.H.length ≤ Hy.length := Nat.le_trans hS.len hLy.len
      have hSa : St (Base.lp B (fun _ => none) id πy Hy wy E.nt hLy.fresh l (fun _ => recOf none) hly hBy) fr1 [] Hy πy wy { tmps := (ps.zip vs).foldl (fun tmps (t, a) => tmps.setIfInBounds t a) a.tmps, defers := [] } := by
        rw [hzip]
        exact ⟨hfr1, hLy.conc, hLy.fresh, fun _ _ _ => rfl, Keeps.refl _ _, fun _ h => .inl h, hsz.trans hnta, hLy.j, rfl, Nat.le_refl _⟩
      refine Go.wpIn_mono (ih1 hm hT (B := Base.lp B (fun _ => none) id πy Hy wy E.nt hLy.fresh l (fun _ => recOf none) hly hBy) rfl (C := { C with rnd := true, m := Hy.length }) hIt rfl (rd := some l) (fun h => by cases h) (hY.lp (r := recOf none) (hl := hly) (hB := hBy) hBl hoy hleny) _ _ _ _ hy πy wy _ hSa) fun e a1 w2 q => ?_
      cases e with
      | normal =>
        obtain ⟨fr2, df2, H2, π2, ⟨hd2, hk2⟩, hs2⟩ := q
        cases sameDf_ok hd2
        refine ⟨_, run_beginRound (r := recOf none) hs2.j.1 rfl, ?_⟩
        have hs3 : St (Base.lp B (fun _ => none) id πy Hy wy E.nt hLy.fresh l (fun _ => busy) hly hBy) fr2 [] H2 π2 (w2.putObj l (.loop busy)) a1 := hs2.put hBl
        refine Go.wpIn_mono (ih2 hm hT (B := Base.lp B (fun _ => none) id πy Hy wy E.nt hLy.fresh l (fun _ => busy) hly hBy) rfl (C := { C with rnd := true, m := Hy.length }) hIt rfl (rd := some l) (fun h => by cases h) (hY.lp (r := busy) (hl := hly) (hB := hBy) hBl hoy hleny) _ _ _ _ hk2 π2 _ _ hs3) fun e a3 w4 q => ?_
        cases e with
        | normal =>
          obtain ⟨fr4, df4, H4, π4, hk4, hs4⟩ := q
          obtain ⟨q, p, v, ⟨rfl, rfl⟩, hi, ho, hk4⟩ := roundK_ok hk4
          exact ⟨_, _, run_endRound (r := busy) none hs4.j.1, _, .tt, p, H4, π4, rfl, by simp [Rep], hk4, hs4.back hBl hLy ho hi⟩
        | ret =>
          obtain ⟨fr4, df4, H4, π4, hk4, hs4⟩ := q
          obtain ⟨q, p, v, ⟨rfl, rfl⟩, hi, ho, hk4⟩ := roundK_ok hk4
          exact ⟨_, _, run_endRound (r := busy) (some .ret) hs4.j.1, _, .ff, p, H4, π4, rfl, by simp [Rep], hk4, hs4.back hBl hLy ho hi⟩
        | exit i =>
          obtain ⟨fr4, df4, H4, π4, hk4, hs4⟩ := q
          obtain ⟨q, p, v, ⟨rfl, rfl⟩, hi, ho, hk4⟩ := roundK_ok hk4
          exact ⟨_, _, run_endRound (r := busy) (some (.exit i)) hs4.j.1, _, .ff, p, H4, π4, rfl, by simp [Rep], hk4, hs4.back hBl hLy ho hi⟩
        | goto i =>
          obtain ⟨fr4, df4, H4, π4, hk4, hs4⟩ := q
          obtain ⟨q, p, v, ⟨rfl, rfl⟩, hi, ho, hk4⟩ := roundK_ok hk4
          exact ⟨_, _, run_endRound (r := busy) (some (.goto i)) hs4.j.1, _, .ff, p, H4, π4, rfl, by simp [Rep], hk4, hs4.back hBl hLy ho hi⟩
        | panic ch => obtain ⟨x, y, fr4, df4, H4, π4, _, hk4, _⟩ := q; obtain ⟨_, _, _, hk4, _⟩ := roundK_ok hk4; exact hk4.elim
        | outgrown => exact q.elim
      | exit i => obtain ⟨_, _, _, _, hk, _⟩ := q; exact hk.elim
      | goto i => obtain ⟨_, _, _, _, hk, _⟩ := q; exact hk.elim
      | ret => obtain ⟨_, _, _, _, hk, _⟩ := q; exact hk.elim
      | panic ch => obtain ⟨_, _, _, _, _, _, _, hk, _⟩ := q; exact hk.elim
      | outgrown => exact q.elim
    refine callsIn_of_wp_marks hio.fn hio.body trivial (Go.wpIn_mono (hio.walk _ _ _ _ _ (hwalk l) Bi (n - 1) rfl rfl hyield π w1 _ hstart) fun e a' w' q => ?_)
    have fin : ∀ (e : Ex) fr2 df2 H2 π2, (e = .nrm ∨ e = .ret) → itEndK K fr df e fr2 df2 H2 → St Bi fr2 df2 H2 π2 w' a' →
        LeavesInM (Fw none) (n - 1) E.P it.fn a'.tmps (rangePost (Fw none) n E.P l (QOf B K) { a with defers := [{ target := .collected w.heap.size, args := #[] }] ++ a.defers }) a'.defers .returning w' := by
      intro e fr2 df2 H2 π2 he hk hs
      have hrun : ∀ (w' : World) tmps, (results it.fn tmps).run E.P w' = .ok (.tuple #[]) w' := by
        intro w' tmps
        simp [results, hio.res]
      rcases itEndK_ok he hk with ⟨dl, hdl, hal, hkk⟩ | ⟨j, dl, hdl, hal, hkk⟩ <;> rw [hdl] at hs
      · refine leaves_marksM (by simp) dl w' a' hal rfl hs fun w3 a3 ht hd3 hs3 => ?_
        refine ⟨_, hrun _ _, none, _, run_endLoop (r := recOf none) hs3.j.1 (by simp [recOf]), _, _, _, π2, hkk, ?_⟩
        exact hS.out (o1 := .loop (recOf none)) hnp hw1.symm hl.symm hs3
      · refine leaves_marksM (by simp) dl w' a' hal rfl hs fun w3 a3 ht hd3 hs3 => ?_
        have hout := hS.out (o1 := .loop (recOf none)) (o2 := .loop { recOf (inP (some j)) with state := .exhausted }) hnp hw1.symm hl.symm hs3
        obtain ⟨c, hc, hjump⟩ := wpIn_jumpO (F := Fw none) (n := n) (P := E.P) hkk hout
        have hj3 : w3.heap[l]? = some (.loop (recOf (some c))) := by have := hs3.j.1; simp only [pendL, pendOf] at this; rwa [hc] at this
        refine ⟨_, hrun _ _, some c, _, run_endLoop (r := recOf (some c)) hj3 (by simp [recOf]), ?_⟩
        rw [hc] at hjump
        exact hjump
    cases e with
    | normal => obtain ⟨fr2, df2, H2, π2, hk, hs⟩ := q; exact fin .nrm _ _ _ _ (.inl rfl) hk hs
    | ret => obtain ⟨fr2, df2, H2, π2, hk, hs⟩ := q; exact fin .ret _ _ _ _ (.inr rfl) hk hs
    | exit i => obtain ⟨_, _, _, _, hk, _⟩ := q; exact hk.elim
    | goto i => obtain ⟨_, _, _, _, hk, _⟩ := q; exact hk.elim
    | panic ch => obtain ⟨_, _, _, _, _, _, _, hk, _⟩ := q; exact hk.elim
    | outgrown => exact q.elim
  | refuse s => intro E hm hT B hnt C hIt hCm rd hrd n hY fr df H K h; exact h.elim
  | region id ops draw =>
    intro E hm hT B hnt C hIt hCm rd hrd n hY fr df H K h π w a hS
    unfold wpA at h
    cases draw with
    | false =>
      refine wpIn_region ?_
      rw [List.range_eq_range']
      have := seqA_ok (K' := fun e => match e with | .nrm => spK (C.sp id) (worked K .nrm) | e => worked K e) hT hnt hrd hY (n := n) ops.toList 0 fr df H rfl h π w a hS
      refine wpOpsIn_mono' (fun e a' w' q => ?_) (by simpa using this)
      cases e with
      | normal => obtain ⟨fr, df, H, π, hk, hs⟩ := q; obtain ⟨fr', hk', hs'⟩ := spK_ok hk hs; exact ⟨fr', df, H, π, worked_ok hk', hs'⟩
      | exit i => obtain ⟨fr, df, H, π, hk, hs⟩ := q; exact ⟨fr, df, H, π, worked_ok hk, hs⟩
      | goto i => obtain ⟨fr, df, H, π, hk, hs⟩ := q; exact ⟨fr, df, H, π, worked_ok hk, hs⟩
      | ret => obtain ⟨fr, df, H, π, hk, hs⟩ := q; exact ⟨fr, df, H, π, worked_ok hk, hs⟩
      | panic ch => obtain ⟨x, y, fr, df, H, π, he, hk, hr, hs⟩ := q; exact ⟨x, y, fr, df, H, π, he, worked_ok hk, hr, hs⟩
      | outgrown => exact q
    | true =>
      have hT0 : TblOk E.P E.nt ops.toList fr H ([] : List (Ent U)) := fun i e h => by simp at h
      have hV0 : VwsOk ([] : List (Ent U)) [] := ⟨rfl, fun i e v h => by simp at h⟩
      have hd := drawGo_ok hT ops.toList [] [] none (by simp) (by simp) hT0 hV0 (fun e he => by simp at he) h
      exact region_ok hm hd (by rw [hS.nt, hnt]) hS.fr hS.conc hS.fresh (fun fr' H' π' w' a' hk hs => ⟨fr', df, H', π', worked_ok hk, hS.step hs⟩)
        (fun x fr' H' π' w' a' y hk hs hr => ⟨x, y, fr', df, H', π', rfl, worked_ok hk, hr, hS.step hs⟩)
  | seq x y ihx ihy =>
    intro E hm hT B hnt C hIt hCm rd hrd n hY fr df H K h π w a hS
    unfold wpA at h
    split at h
    · rename_i s hs
      obtain ⟨h, h2⟩ := h
      refine wpIn_seq (Go.wpIn_mono (ihx hm hT hnt hIt hCm hrd hY _ _ _ _ h π w a hS) fun e a' w' q => ?_)
      cases e with
      | normal =>
        obtain ⟨fr, df', H, π, ⟨hdf, t, hw⟩, hs⟩ := q
        cases sameDf_ok hdf
        rw [hCm] at hw
        obtain ⟨π', hs'⟩ := weakN_ok hw hs
        exact ihy hm hT hnt hIt hCm hrd hY _ _ _ _ (h2 t) π' w' a' hs'
      | exit i => exact q
      | goto i => exact q
      | ret => exact q
      | panic ch => exact q
      | outgrown => exact q
    refine wpIn_seq (Go.wpIn_mono (ihx hm hT hnt hIt hCm hrd hY _ _ _ _ h π w a hS) fun e a' w' q => ?_)
    cases e with
    | normal => obtain ⟨fr, df, H, π, hk, hs⟩ := q; exact ihy hm hT hnt hIt hCm hrd hY _ _ _ _ hk π w' a' hs
    | exit i => exact q
    | goto i => exact q
    | ret => exact q
    | panic ch => exact q
    | outgrown => exact q
  | cond c x y ihx ihy =>
    intro E hm hT B hnt C hIt hCm rd hrd n hY fr df H K h π w a hS
    unfold wpA at h
    have hr := hS.fr.eval c
    split at h
    · rename_i hv
      rw [hv] at hr
      exact wpIn_cond_true (by simpa [Rep] using hr) (ihx hm hT hnt hIt hCm hrd hY _ _ _ _ h π w a hS)
    · rename_i hv
      rw [hv] at hr
      exact wpIn_cond_false (by simpa [Rep] using hr) (ihy hm hT hnt hIt hCm hrd hY _ _ _ _ h π w a hS)
    · rename_i b hv
      rw [hv] at hr
      have hb : a.eval c = .bool b := by simpa [Rep] using hr
      split at h
      · rename_i t
        refine wpIn_cond_split hb (fun ht => ?_) (fun ht => ?_)
        · subst ht
          exact ihx hm hT hnt hIt hCm hrd hY _ _ _ _ (h.1 rfl) π w a { hS with fr := hS.fr.ref (by rw [Rep]; exact hb) }
        · subst ht
          exact ihy hm hT hnt hIt hCm hrd hY _ _ _ _ (h.2 rfl) π w a { hS with fr := hS.fr.ref (by rw [Rep]; exact hb) }
      · exact h.elim
    · exact h.elim
  | block id c ih =>
    intro E hm hT B hnt C hIt hCm rd hrd n hY fr df H K h π w a hS
    unfold wpA at h
    refine wpIn_block (Go.wpIn_mono (ih hm hT hnt hIt hCm hrd hY _ _ _ _ h π w a hS) fun e a' w' q => ?_)
    cases e with
    | exit i =>
      obtain ⟨fr, df, H, π, hk, hs⟩ := q
      simp only at hk
      simp only [Exit.inBlock]
      split at hk
      · rename_i e _; rw [if_pos e]; exact ⟨fr, df, H, π, hk, hs⟩
      · rename_i e _; rw [if_neg e]; exact ⟨fr, df, H, π, hk, hs⟩
    | normal => exact q
    | goto i => exact q
    | ret => exact q
    | panic ch => exact q
    | outgrown => exact q
  | loop c ih =>
    intro E hm hT B hnt C hIt hCm rd hrd n hY fr df H K h π w a hS
    unfold wpA at h
    split at h
    · exact h.elim
    · rename_i k hk
      refine wpIn_loop_rel (fun j a w => ∃ fr df H π, unrA (wpA E C c) K j fr df H ∧ St B fr df H π w a) (fun j a w ⟨fr, df, H, π, h, hS⟩ => ?_) (j := k) ⟨fr, df, H, π, h, hS⟩
      cases j with
      | zero => exact h.elim
      | succ j =>
        unfold unrA at h
        refine Go.wpIn_mono (ih hm hT hnt hIt hCm hrd hY _ _ _ _ h π w a hS) fun e a' w' q => ?_
        cases e with
        | normal => obtain ⟨fr, df, H, π, hk, hs⟩ := q; exact ⟨j, by omega, fr, df, H, π, hk, hs⟩
        | exit i => exact q
        | goto i => exact q
        | ret => exact q
        | panic ch => exact q
        | outgrown => exact q
    · rename_i l0 hl0
      refine wpIn_loop_rel (fun j a w => ∃ l fr df H π, l.length = j ∧ stA C.m (wpA E C c) K l fr df H ∧ St B fr df H π w a) (fun j a w ⟨l, fr, df, H, π, hj, h, hS⟩ => ?_) (j := l0.length) ⟨l0, fr, df, H, π, rfl, h, hS⟩
      cases l with
      | nil => exact h.elim
      | cons p l =>
        unfold stA at h
        obtain ⟨hw, h⟩ := h
        rw [hCm] at hw
        obtain ⟨π', hS'⟩ := weakN_ok hw hS
        refine Go.wpIn_mono (ih hm hT hnt hIt hCm hrd hY _ _ _ _ h π' w a hS') fun e a' w' q => ?_
        cases e with
        | normal => obtain ⟨fr, df, H, π, hk, hs⟩ := q; exact ⟨l.length, by simp at hj; omega, l, fr, df, H, π, rfl, hk, hs⟩
        | exit i => exact q
        | goto i => exact q
        | ret => exact q
        | panic ch => exact q
        | outgrown => exact q
    · rename_i s hs
      obtain ⟨⟨t, ht⟩, hround⟩ := h
      rw [hCm] at ht
      obtain ⟨π', hS'⟩ := weakN_ok ht hS
      refine wpIn_loop_rel (fun j a w => ∃ t π, s.mu t = j ∧ St B (s.fr t) df (s.H t) π w a) (fun j a w ⟨t, π, hj, hS⟩ => ?_) ⟨t, π', rfl, hS'⟩
      refine Go.wpIn_mono (ih hm hT hnt hIt hCm hrd hY _ _ _ _ (hround t) π w a hS) fun e a' w' q => ?_
      cases e with
      | normal =>
        obtain ⟨fr, df', H, π, ⟨hdf, t', hw, hlt⟩, hs⟩ := q
        cases sameDf_ok hdf
        rw [hCm] at hw
        obtain ⟨π', hs'⟩ := weakN_ok hw hs
        exact ⟨s.mu t', by omega, t', π', rfl, hs'⟩
      | exit i => exact q
      | goto i => exact q
      | ret => exact q
      | panic ch => exact q
      | outgrown => exact q
    · rename_i s rel hs
      obtain ⟨t0, ht, hr0, hround⟩ := h
      rw [hCm] at ht
      obtain ⟨π', hS'⟩ := weakN_ok ht hS
      refine wpIn_loop_rel (fun j a w => ∃ t π, s.mu t = j ∧ rel t0 t ∧ St B (s.fr t) df (s.H t) π w a) (fun j a w ⟨t, π, hj, hr, hS⟩ => ?_) ⟨t0, π', rfl, hr0, hS'⟩
      refine Go.wpIn_mono (ih hm hT hnt hIt hCm hrd hY _ _ _ _ (hround t hr) π w a hS) fun e a' w' q => ?_
      cases e with
      | normal =>
        obtain ⟨fr, df', H, π, ⟨hdf, t', hw, hlt, hr'⟩, hs⟩ := q
        cases sameDf_ok hdf
        rw [hCm] at hw
        obtain ⟨π', hs'⟩ := weakN_ok hw hs
        exact ⟨s.mu t', by omega, t', π', rfl, hr', hs'⟩
      | exit i => exact q
      | goto i => exact q
      | ret => exact q
      | panic ch => exact q
      | outgrown => exact q
    · exact h.elim
    · exact h.elim

theorem wpA_ok {E : Env U} (hm : E.P.follows .mixedOrders = true) (hT : E.T.Sound E.P) {B : Base U} (hnt : B.nt = E.nt) {C : Cfg U} (hIt : ∀ k it, C.it k = some it → ItOk E.P it) (hCm : C.m = B.H.length) {rd : Option Nat} (hrd : C.rnd = false → rd = none) {n : Nat} (hY : YOk E.P E.l E.Y B)
    (c : Code) (fr : Fr) (df : Df) (H : Heap U) (K : Ex → Fr → Df → Heap U → Prop) (h : wpA E C c fr df H K) (π : Plc) (w : World) (a : Act) (hS : St B fr df H π w a) : c.wpIn (Fw rd) n E.P (QOf B K) a w := wpA_go c hm hT hnt hIt hCm hrd hY fr df H K h π w a hS
end AE

namespace AE
open Go

variable {U : Uni}

def varA (P : Program) (t : TypeId) (x : AV) (H : Heap U) (K : AV → Prop) : Prop :=
  match x with
  | .ptr id k i fo =>
    match aggT P t with
    | some true => match tsize P t with
      | some n => H.rd id k i fo n fun cs => K (.agg cs)
      | none => False
    | some false => H.rd id k i fo 1 fun
      | [y] => K y
      | _ => False
    | none => False
  | _ => False

theorem varA_ok {P : Program} {t : TypeId} {x : AV} {H : Heap U} {K : AV → Prop} (h : varA P t x H K) : ∃ z, K z ∧ ∀ (π : Plc) (w : World) (y : Value), Conc π H w → Rep π x y → ∃ v, (do loadVar t (← asAddr y) : Sem Value).run P w = .ok v w ∧ Rep π z v := by
  unfold varA at h
  split at h
  case h_2 => exact h.elim
  rename_i id k i fo
  split at h
  · rename_i hagg
    split at h
    case h_2 => exact h.elim
    rename_i n hn
    obtain ⟨cs, hK, hl, hrd⟩ := Heap.rd_ok h
    refine ⟨_, hK, fun π w y hc hv => ?_⟩
    obtain ⟨p, ys, hp, hr, hcell⟩ := hrd π w hc
    simp only [Rep] at hv
    obtain ⟨p', hp', hv⟩ := hv
    rw [hp] at hp'; cases hp'
    refine ⟨.agg ys.toArray, ?_, by simp only [Rep]; exact ⟨_, rfl, by simpa using hr⟩⟩
    have hlen : ys.length = n := by rw [hr.length, hl]
    have hload := run_loadCells_list (P := P) w ⟨p.blk, p.off + i * p.esz + fo, none⟩ ys hcell
    rw [hlen] at hload
    simp [hv, asAddr, loadVar, run_isAgg hagg, run_size hn, hload]
  · rename_i hagg
    obtain ⟨cs, hK, hl, hrd⟩ := Heap.rd_ok h
    match cs, hl, hK, hrd with
    | [y], _, hK, hrd =>
      refine ⟨_, hK, fun π w yv hc hv => ?_⟩
      obtain ⟨p, ys, hp, hr, hcell⟩ := hrd π w hc
      simp only [Rep] at hv
      obtain ⟨p', hp', hv⟩ := hv
      rw [hp] at hp'; cases hp'
      simp only [RepL] at hr
      obtain ⟨z, zs, rfl, hz, hzs⟩ := hr
      have h0 := hcell 0 z (by simp)
      rw [Addr.add_eq, Nat.add_zero] at h0
      refine ⟨z, ?_, hz⟩
      simp [hv, asAddr, loadVar, run_isAgg hagg, h0]
  · exact h.elim

def resA (P : Program) : List ResultVar → Fr → Heap U → (List AV → Prop) → Prop
  | [], _, _, K => K []
  | .tmp t :: l, fr, H, K => resA P l fr H fun xs => K (fr.get t :: xs)
  | .cell a t :: l, fr, H, K => varA P t (fr.get a) H fun x => resA P l fr H fun xs => K (x :: xs)

theorem resA_ok {P : Program} : ∀ {l : List ResultVar} {fr : Fr} {H : Heap U} {K : List AV → Prop}, resA P l fr H K → ∃ xs, K xs ∧ ∀ (π : Plc) (w : World) (tmps : Array Value), Conc π H w → FrOk π fr tmps →
    ∃ vs : List Value, (l.mapM fun
      | .tmp t => pure (tmps.getD t undef)
      | .cell a t => do loadVar t (← asAddr (tmps.getD a undef)) : Sem (List Value)).run P w = .ok vs w ∧ RepL π xs vs
  | [], fr, H, K, h => ⟨[], h, fun π w tmps _ _ => ⟨[], by simp, RepL.nil π⟩⟩
  | .tmp t :: l, fr, H, K, h => by
    unfold resA at h
    obtain ⟨xs, hK, hh⟩ := resA_ok h
    refine ⟨_, hK, fun π w tmps hc hf => ?_⟩
    obtain ⟨vs, hr, hv⟩ := hh π w tmps hc hf
    refine ⟨tmps.getD t undef :: vs, ?_, RepL.cons (hf t) hv⟩
    rw [List.mapM_cons]
    simp only [pure_bind, Sem.run_bind, hr]
    rfl
  | .cell a t :: l, fr, H, K, h => by
    unfold resA at h
    obtain ⟨x, h, hx⟩ := varA_ok h
    obtain ⟨xs, hK, hh⟩ := resA_ok h
    refine ⟨_, hK, fun π w tmps hc hf => ?_⟩
    obtain ⟨v, hr0, hv0⟩ := hx π w _ hc (hf a)
    obtain ⟨vs, hr, hv⟩ := hh π w tmps hc hf
    refine ⟨v :: vs, ?_, RepL.cons hv0 hv⟩
    rw [List.mapM_cons, Sem.run_bind]
    refine (congrArg (fun r => Result.andThen r _) hr0).trans ?_
    change Sem.run P (List.mapM _ l >>= fun vs => pure (v :: vs)) w = _
    rw [Sem.run_bind]
    exact congrArg (fun r => Result.andThen r _) hr

def tupOf : List AV → AV
  | [x] => x
  | xs => .tup xs
theorem results_ok {P : Program} {fn : Func} {fr : Fr} {H : Heap U} {K : List AV → Prop} (h : resA P fn.results.toList fr H K) : ∃ xs, K xs ∧ ∀ (π : Plc) (w : World) (tmps : Array Value), Conc π H w → FrOk π fr tmps →
    ∃ v, (results fn tmps).run P w = .ok v w ∧ Rep π (tupOf xs) v := by
  obtain ⟨xs, hK, hh⟩ := resA_ok h
  refine ⟨xs, hK, fun π w tmps hc hf => ?_⟩
  obtain ⟨vs, hr, hv⟩ := hh π w tmps hc hf
  refine ⟨if h : vs.toArray.size = 1 then vs.toArray[0] else .tuple vs.toArray, ?_, ?_⟩
  · unfold results
    rw [Array.mapM_eq_mapM_toList]
    simp only [bind_map_left]
    rw [Sem.run_bind]
    exact congrArg (fun r => Result.andThen r _) hr
  · match xs, hv with
    | [], hv =>
      have := hv.length
      have hn : vs = [] := List.eq_nil_of_length_eq_zero this
      subst hn
      simp only [tupOf, Rep]; exact ⟨#[], by simp, RepL.nil π⟩
    | [x], hv =>
      simp only [RepL] at hv
      obtain ⟨z, zs, rfl, hz, rfl⟩ := hv
      simpa [tupOf] using hz
    | x :: y :: xs, hv =>
      have hl := hv.length
      rw [dif_neg (by simp at hl ⊢; omega)]
      simp only [tupOf, Rep]
      exact ⟨_, rfl, by simpa using hv⟩

def FunOk (P : Program) (f : FuncId) (AL : List AV) (HL : Heap U) : OOut U → Prop
  | .val r => ∀ (π : Plc) (w : World) (vs : List Value), Fresh π HL.length → Conc π HL w → RepL π AL vs →
      Calls P f vs.toArray w fun e w' => ∃ v πn, e = .returned v ∧ Post HL HL.length r π πn w w' v
  | .panic x => ∀ (π : Plc) (w : World) (vs : List Value), Fresh π HL.length → Conc π HL w → RepL π AL vs →
      Calls P f vs.toArray w fun e w' => ∃ y, e = .panicked [{ v := y, recovered := false }] ∧ Rep π x y ∧ Keeps (fun _ => False) w w'

def sameK : AB1 U → AB1 U → Bool
  | .cells .., .cells .. => true
  | .row .., .row .. => true
  | .map .., .map .. => true
  | .mrow true _, .mrow true _ => true
  | _, _ => false
theorem sameK_ok {b b' : AB1 U} (h : sameK b b' = true) : b.own = true ∧ b'.own = true ∧ ∀ p, b.phys p ↔ b'.phys p := by
  cases b <;> cases b' <;> first | (simp_all [sameK, AB1.own, AB1.phys]; done) | (rename_i o _ o' _; cases o <;> cases o' <;> simp_all [sameK, AB1.own, AB1.phys])

def oneAt (HL : Heap U) (id k : Nat) (f : AB1 U → Bool) : Bool :=
  match k, nth HL id with
  | 0, some (.one b) => f b
  | _, _ => false
theorem oneAt_ok {HL : Heap U} {id k : Nat} {f : AB1 U → Bool} (h : oneAt HL id k f = true) : ∃ b, HL.at id k = some b ∧ f b = true ∧ k = 0 ∧ HL[id]? = some (.one b) := by
  unfold oneAt at h
  split at h
  · rename_i b hb
    rw [nth_eq] at hb
    exact ⟨b, by unfold Heap.at; rw [hb]; rfl, h, rfl, hb⟩
  · cases h

theorem nodupB_ok : ∀ {l : List Nat}, nodupB l = true → l.Nodup
  | [], _ => List.nodup_nil
  | x :: l, h => by
    simp only [nodupB, Bool.and_eq_true] at h
    refine List.nodup_cons.2 ⟨fun hm => ?_, nodupB_ok h.2⟩
    rw [memN_iff.2 hm] at h; simp at h

theorem upds_at : ∀ {l : List (Nat × Nat × AB1 U)} {H : Heap U} {id : Nat} {b b0 : AB1 U}, (l.map (·.1)).Nodup → (id, 0, b) ∈ l → H[id]? = some (.one b0) → (H.upds l)[id]? = some (.one b)
  | [], H, id, b, b0, _, h, _ => by simp at h
  | (id', k', b') :: l, H, id, b, b0, hn, h, h0 => by
    rw [List.map_cons, List.nodup_cons] at hn
    rw [List.mem_cons] at h
    rcases h with h | h
    · cases h
      rw [Heap.upds, upds_other l hn.1]
      unfold Heap.set; rw [setNth_get, if_pos rfl, h0]; rfl
    · have hne : id' ≠ id := by
        intro e; subst e
        exact hn.1 (List.mem_map.2 ⟨_, h, rfl⟩)
      rw [Heap.upds]
      refine upds_at (b0 := b0) hn.2 h ?_
      unfold Heap.set; rw [setNth_get, if_neg (Ne.symm hne)]; exact h0
theorem app_upd {H : Heap U} {r : ORes U} (hn : (r.upd.map (·.1) ++ r.kill.map (·.1)).Nodup) {id : Nat} {b b0 : AB1 U} (h : (id, 0, b) ∈ r.upd) (h0 : H[id]? = some (.one b0)) : (H.app r).at id 0 = some b := by
  have hlt : id < H.length := (List.getElem?_eq_some_iff.1 h0).1
  have hd := List.nodup_append.1 hn
  have hk : id ∉ r.kill.map (·.1) := fun hm => hd.2.2 id (List.mem_map.2 ⟨_, h, rfl⟩) id hm rfl
  have : (H.app r)[id]? = some (.one b) := by
    unfold Heap.app
    rw [List.getElem?_append_left (by rw [Heap.upds_length, Heap.kills_length]; exact hlt)]
    exact upds_at hd.1 h (by rw [kills_other _ hk]; exact h0)
  unfold Heap.at; rw [this]; rfl

def ownCov (ids : List Nat) : Nat → Heap U → Prop
  | _, [] => True
  | i, .none :: l => ownCov ids (i + 1) l
  | i, .one b :: l => isB (!b.own || memN i ids) (ownCov ids (i + 1) l)
  | i, .fam _ f :: l => (∀ k, (f k).own = false) ∧ ownCov ids (i + 1) l
theorem ownCov_get {ids : List Nat} : ∀ {i : Nat} {l : Heap U}, ownCov ids i l → ∀ {j k : Nat} {b : AB1 U}, l.at j k = some b → b.own = true → (i + j) ∈ ids ∧ k = 0
  | i, [], _, j, k, b, h, _ => by simp [Heap.at] at h
  | i, x :: l, hc, j, k, b, h, ho => by
    cases j with
    | succ j =>
      have h' : Heap.at l j k = some b := by simpa [Heap.at] using h
      have hc' : ownCov ids (i + 1) l := by
        cases x with
        | none => exact hc
        | one b => exact (isB_ok hc).2
        | fam n f => exact hc.2
      have := ownCov_get hc' h' ho
      rwa [show i + 1 + j = i + (j + 1) by omega] at this
    | zero =>
      cases x with
      | none => simp [Heap.at] at h
      | one b0 =>
        simp only [Heap.at, List.getElem?_cons_zero] at h
        split at h
        · rename_i hk
          cases h
          have := (isB_ok hc).1
          rw [ho] at this
          exact ⟨memN_iff.1 (by simpa using this), hk⟩
        · cases h
      | fam n f =>
        simp only [Heap.at, List.getElem?_cons_zero] at h
        split at h
        · cases h
          rw [hc.1 k] at ho; cases ho
        · cases h

def okR (HL : Heap U) (r : ORes U) : Bool :=
  r.upd.all (fun (id, k, b) => oneAt HL id k (sameK b)) && r.kill.all (fun (id, k) => oneAt HL id k AB1.own) && r.new.all AB1.own && nodupB (r.upd.map (·.1) ++ r.kill.map (·.1))

def endA0 (P : Program) (fn : Func) (HL : Heap U) (R : OOut U) (e : Ex) (fr : Fr) (H : Heap U) : Prop :=
  match e, R with
  | .pan x, .panic x' => ownCov [] 0 HL ∧ isB x'.fixed (leV H (fun i => i) 0 x x')
  | .nrm, .val r | .ret, .val r => ownCov (r.upd.map (·.1) ++ r.kill.map (·.1)) 0 HL ∧
      isB (okR HL r) (resA P fn.results.toList fr H fun vs => weakN HL.length [(0, tupOf vs)] [] H [(0, r.val)] (HL.app r))
  | _, _ => False

def stripM : Df → Df
  | .mark :: l => stripM l
  | l => l

def endG (P : Program) (T : Tab U) (tl : Nat → Option FuncId) (fn : Func) (HL : Heap U) (R : OOut U) (e : Ex) (fr : Fr) (df : Df) (H : Heap U) : Prop :=
  match stripM df with
  | [] => endA0 P fn HL R e fr H
  | [.call (.func k) [c] []] => match tl k with
    | some f => match T.look f with
      | some con => match e with
        | .nrm => con [.v .nilIface, c] H H.length fun
          | .val r => worked (fun _ fr _ H => endA0 P fn HL R .ret fr H) .ret fr [] (H.app r)
          | .panic _ => False
        | .ret => con [.v .nilIface, c] H H.length fun
          | .val r => worked (fun _ fr _ H => endA0 P fn HL R .ret fr H) .ret fr [] (H.app r)
          | .panic _ => False
        | .pan x => con [x, c] H H.length fun
          | .val r => worked (fun _ fr _ H => endA0 P fn HL R .ret fr H) .ret fr [] (H.app r)
          | .panic _ => False
        | _ => False
      | none => False
    | none => False
  | _ => False

theorem post_of {HL : Heap U} {r : ORes U} {π π' : Plc} {w w' : World} {v : Value} {nt : Nat} {a : Act} (hf : Fresh π HL.length) (hc : Conc π HL w) (hcov : ownCov (r.upd.map (·.1) ++ r.kill.map (·.1)) 0 HL) (hok : okR HL r = true)
    (hS : St (Base.of π HL w nt hf) [(0, r.val)] [] (HL.app r) π' w' a) (hv : a.tmps.getD 0 undef = v) : Post HL HL.length r π π' w w' v := by
  unfold okR at hok
  simp only [Bool.and_eq_true, List.all_eq_true] at hok
  obtain ⟨⟨⟨hu, hk⟩, hn⟩, hnd⟩ := hok
  replace hnd := nodupB_ok hnd
  have hlen := Heap.app_length HL r
  have hsub := hS.sub
  have atNew : ∀ j b, r.new[j]? = some b → (HL.app r).at (HL.length + j) 0 = some b := by
    intro j b hb
    unfold Heap.app Heap.at
    have h2 : ((HL.kills r.kill).upds r.upd).length = HL.length := by rw [Heap.upds_length, Heap.kills_length]
    rw [List.getElem?_append_right (by omega), h2]
    simp only [Nat.add_sub_cancel_left, List.getElem?_map, hb]
    rfl
  refine ⟨?_, hsub, fun id k h => ?_, fun j b hb => ?_, fun i j b b' p p' hb hb' hne hp hp' h1 h2 => ?_, fun id k b hb => ?_, fun id k hb => ?_, ?_⟩
  · have := hS.fr 0
    rw [Fr.get_cons, if_pos rfl, hv] at this; exact this
  · rcases h with h | h
    · exact hS.only id k h
    · rw [hS.fresh id k (by rw [hlen]; exact h), hf id k (by omega)]
  · have hat := atNew j b hb
    obtain ⟨p, hp, hbk⟩ := hS.conc.ok _ _ _ hat
    have hown : b.own = true := hn b (List.mem_of_getElem? hb)
    refine ⟨hown, p, hp, hbk, fun hph => ?_⟩
    rcases hS.own p.blk ⟨_, 0, b, p, hat, hown, hp, hph, rfl⟩ with ⟨id, k, b0, q, hb0, ho0, hq, hqph, e⟩ | h
    · right
      have hcv := ownCov_get hcov hb0 ho0
      rw [Nat.zero_add] at hcv
      obtain ⟨hmem, rfl⟩ := hcv
      rcases List.mem_append.1 hmem with hm | hm
      · exfalso
        obtain ⟨⟨id', k', b'⟩, hm2, e'⟩ := List.mem_map.1 hm
        simp only at e'; subst e'
        obtain ⟨b1, hb1, hs, rfl, hb1'⟩ := oneAt_ok (hu _ hm2)
        rw [hb0] at hb1; cases hb1
        have hat' := app_upd hnd hm2 hb1'
        have hq' := hsub _ _ _ hq
        exact hS.conc.sep _ _ b _ _ b' p q hat hat' (.inl (by have := (List.getElem?_eq_some_iff.1 hb1').1; omega)) hown hp hq' hph ((sameK_ok hs).2.2 q |>.2 hqph) e.symm
      · obtain ⟨⟨id', k'⟩, hm2, e'⟩ := List.mem_map.1 hm
        simp only at e'; subst e'
        obtain ⟨b1, hb1, _, rfl, _⟩ := oneAt_ok (hk _ hm2)
        exact ⟨_, 0, b0, q, hm2, hb0, ho0, hq, hqph, e⟩
    · exact .inl h
  · exact hS.conc.sep _ _ b _ _ b' p p' (atNew i b hb) (atNew j b' hb') (.inl (by omega)) (hn b (List.mem_of_getElem? hb)) hp hp' h1 h2
  · obtain ⟨b0, hb0, hs, rfl, hb0'⟩ := oneAt_ok (hu _ hb)
    have hat := app_upd hnd hb hb0'
    obtain ⟨p, hp, hbk⟩ := hS.conc.ok _ _ _ hat
    have hs' := sameK_ok hs
    exact ⟨b0, p, hb0, hs'.2.1, hs'.1, (hS.only _ _ (List.getElem?_eq_some_iff.1 hb0').1).symm.trans hp, hbk, fun h => (hs'.2.2 p).1 h⟩
  · obtain ⟨b0, hb0, ho, _⟩ := oneAt_ok (hk (id, k) hb)
    exact ⟨b0, hb0, ho⟩
  · refine hS.keeps.weaken fun n hnl hh => ?_
    obtain ⟨id, k, b0, p, hb0, ho, hp, hph, e⟩ := hh.resolve_right (fun h => h)
    have hcv := ownCov_get hcov hb0 ho
    rw [Nat.zero_add] at hcv
    obtain ⟨hmem, rfl⟩ := hcv
    refine ⟨id, 0, p, b0, ?_, hb0, hph, hp, e⟩
    rcases List.mem_append.1 hmem with hm | hm
    · obtain ⟨⟨id', k', b'⟩, hm2, e'⟩ := List.mem_map.1 hm
      simp only at e'; subst e'
      obtain ⟨_, _, _, rfl, _⟩ := oneAt_ok (hu _ hm2)
      exact .inl ⟨b', hm2⟩
    · obtain ⟨⟨id', k'⟩, hm2, e'⟩ := List.mem_map.1 hm
      simp only at e'; subst e'
      obtain ⟨_, _, _, rfl, _⟩ := oneAt_ok (hk _ hm2)
      exact .inr hm2

theorem St.take {P : Program} {π0 : Plc} {HL : Heap U} {w0 : World} {nt : Nat} {hf : Fresh π0 HL.length} {fr : Fr} {df : Df} {H : Heap U} {π : Plc} {w : World} {a : Act} (h : St (Base.of π0 HL w0 nt hf) fr (.mark :: df) H π w a) :
    ∃ D ds', a.defers = { target := .collected D, args := #[] } :: ds' ∧ (Instr.takeDeferred D).run P w = .ok [] (w.putObj D (.deferred none)) ∧ St (Base.of π0 HL w0 nt hf) fr df H π (w.putObj D (.deferred none)) { a with defers := ds' } := by
  obtain ⟨D, ds', e, h1, h2, h3, h4⟩ := h.df
  refine ⟨D, ds', e, run_takeDeferred h1, h.fr, h.conc.putObj h1 not_plain_deferred, h.fresh, h.only, h.keeps.trans (keeps_put w D _) fun n hn hh => ?_, h.own, h.nt, trivial, h4.putD h3, h.len⟩
  have h2' : w0.heap.size ≤ D := h2
  have hn' : n < w0.heap.size := hn
  omega

theorem leaves_marks {P : Program} {fn : Func} {n : Nat} {F : Fence} {R : Ending → World → Prop} {π0 : Plc} {HL : Heap U} {w0 : World} {nt : Nat} {hf : Fresh π0 HL.length} {fr : Fr} {H : Heap U} {π : Plc} {u : FrameMode} (hu : u ≠ .run) {tmps : Array Value} :
    ∀ (df : Df) (w : World) (a : Act), a.tmps = tmps → St (Base.of π0 HL w0 nt hf) fr df H π w a →
      (∀ w' a', a'.tmps = tmps → St (Base.of π0 HL w0 nt hf) fr (stripM df) H π w' a' → LeavesInM F n P fn tmps R a'.defers u w') → LeavesInM F n P fn tmps R a.defers u w
  | [], w, a, ht, hS, hk => hk w a ht hS
  | .call f xs ys :: l, w, a, ht, hS, hk => hk w a ht hS
  | .pend j :: l, w, a, ht, hS, hk => hk w a ht hS
  | .mark :: l, w, a, ht, hS, hk => by
    obtain ⟨D, ds', e, hrun, hS'⟩ := hS.take (P := P)
    rw [e]
    exact ⟨hu, .inl ⟨D, _, rfl, hrun, leaves_marks hu l (w.putObj D (.deferred none)) { a with defers := ds' } ht hS' hk⟩⟩

def ToldOk (P : Program) (k f : FuncId) : Prop :=
  (∀ args w, (callFunc k args).run P w = .ok (.enter k args) w) ∧
  ∀ (n : Nat) (x c : Value) (u : FrameMode) (w : World) (Q : World → Prop), ((u = .returning ∧ x = .nilIface) ∨ u = .panicking [{ v := x, recovered := false }]) →
    Calls P f #[x, c] w (fun e w' => ∃ v, e = .returned v ∧ Q w') →
    CallsDIn (Fw none) n P k #[c] u w (fun e u' w' => (∃ v, e = .returned v) ∧ settle u' = .returning ∧ Q w')

theorem told_of {P : Program} {k f : FuncId} {fn : Func} {id : Nat} {o1 o2 : Oper} (hf : P.funcs[k]? = some fn) (he : ∀ args w, (callFunc k args).run P w = .ok (.enter k args) w) (hfe : ∀ args w, (callFunc f args).run P w = .ok (.enter f args) w)
    (hb : fn.body = some (.region id #[o1, o2] false)) (hr : fn.results = #[]) (hnt : fn.ntmps = 3) {ts1 ts2 : Array TypeId} (h1 : o1.op = .call { callee := .builtin .recover, args := #[], argTypes := ts1 }) (hg1 : o1.guard = none) (hd1 : o1.dst = some 1)
    (h2 : o2.op = .call { callee := .value (.func f), args := #[.tmp 1, .tmp 0], argTypes := ts2 }) (hg2 : o2.guard = none) : ToldOk P k f := by
  refine ⟨he, fun n x c u w Q hu hcall => ?_⟩
  refine ⟨trivial, fun c₀ cs hc _ => ?_⟩
  let b : Frame := { (default : Frame) with fn := k, kind := .deferred }
  have hrec : ∀ a : Act, (execOp a.eval o1).run P w = .ok .recover w := by
    intro a
    simp [execOp, h1, resolve, invoke, builtin]
  have hcallrun : ∀ (a : Act) (w : World), (execOp a.eval o2).run P w = .ok (.enter f #[a.eval (.tmp 1), a.eval (.tmp 0)]) w := by
    intro a w
    have h0 : a.eval (.func f) = .func (.func f) #[] #[] := rfl
    simp [execOp, h2, resolve, invoke, Deferred.ofValue, h0, hfe]
  obtain ⟨u', hset, hx⟩ : ∃ u', settle u' = .returning ∧ (match recoverD (c₀ :: cs) with | some (v, cs') => v = x ∧ cs' = { c₀ with mode := u' } :: cs | none => x = .nilIface ∧ c₀ = { c₀ with mode := u' }) := by
    rcases hu with ⟨rfl, rfl⟩ | rfl
    · exact ⟨.returning, rfl, by simp [recoverD, hc]; cases c₀; simp_all⟩
    · exact ⟨.panicking [{ v := x, recovered := true }], by simp [settle], by simp [recoverD, hc]⟩
  obtain ⟨Qf, hQf⟩ : ∃ Qf : Exit → Act → List Frame → World → Prop, Qf = (fun e a cs' w' => e = .normal ∧ a.defers = [] ∧ cs' = { c₀ with mode := u' } :: cs ∧ Q w') := ⟨_, rfl⟩
  have hwp : (Code.region id #[o1, o2] false).wpS P Qf { tmps := #[c] ++ Array.replicate (fn.ntmps - (#[c] : Array Value).size) undef, defers := [] } (c₀ :: cs) w := by
    refine wpS_region ?_
    have hl : List.range (#[o1, o2] : Array Oper).size = [0, 1] := rfl
    rw [hl]
    have hw : ∀ tmps, Region.wanted o1 (yielded #[o1, o2] tmps) = true := fun _ => by simp [Region.wanted, hg1]
    have hw' : ∀ tmps, Region.wanted o2 (yielded #[o1, o2] tmps) = true := fun _ => by simp [Region.wanted, hg2]
    have key : ∀ cs', cs' = { c₀ with mode := u' } :: cs → wpOpsS P #[o1, o2] Qf [1] (({ tmps := #[c] ++ Array.replicate (fn.ntmps - (#[c] : Array Value).size) undef, defers := [] } : Act).put o1.dst x) cs' w := by
      intro cs' hcs'
      have e1 : (({ tmps := #[c] ++ Array.replicate (fn.ntmps - (#[c] : Array Value).size) undef, defers := [] } : Act).put o1.dst x) = { tmps := #[c, x, undef], defers := [] } := by
        rw [hd1, hnt]; rfl
      rw [e1]
      simp only [wpOpsS]
      have ho : (#[o1, o2] : Array Oper)[1]? = some o2 := rfl
      simp only [ho, hw', if_true, hcallrun]
      have ev : (#[({ tmps := #[c, x, undef], defers := [] } : Act).eval (.tmp 1), ({ tmps := #[c, x, undef], defers := [] } : Act).eval (.tmp 0)] : Array Value) = #[x, c] := rfl
      rw [ev]
      show Oper.upon _ _ _ _ _ _
      rw [Oper.upon_enter]
      refine hcall.mono fun e w' ⟨v, he, hq⟩ => ?_
      subst he
      rw [hQf]
      exact ⟨rfl, by rw [Act.put_defers'], hcs', hq⟩
    rw [wpOpsS]
    have ho : (#[o1, o2] : Array Oper)[0]? = some o1 := rfl
    simp only [ho, hw, if_true, hrec]
    cases hrd : recoverD (c₀ :: cs) with
    | none =>
      rw [hrd] at hx
      simp only
      obtain ⟨hx1, hx2⟩ := hx
      subst hx1
      exact key _ (by rw [← hx2])
    | some p =>
      obtain ⟨v, cs'⟩ := p
      rw [hrd] at hx
      simp only at hx ⊢
      obtain ⟨hx1, hx2⟩ := hx
      subst hx1
      exact key _ hx2
  have henter : Frame.enter P k #[c] .deferred = b.at { tmps := #[c] ++ Array.replicate (fn.ntmps - (#[c] : Array Value).size) undef, defers := [] } [.code (.region id #[o1, o2] false)] := by
    simp [Frame.enter, Frame.at, hf, hb, b]
  rw [hQf] at hwp
  obtain ⟨e, a', cs', w', ⟨rfl, hd, rfl, hq⟩, harr⟩ := hwp b [] rfl rfl
  rw [← henter] at harr
  refine ⟨.returned (.tuple #[]), u', w', _, ⟨⟨_, rfl⟩, hset, hq⟩, comesIn_wide.2 (Steps.trans harr (.one step_end)), rfl, rfl, rfl, hd, fn, hf, by simp [results, hr]⟩

theorem fun_okG {E : Env U} (hm : E.P.follows .mixedOrders = true) (hT : E.T.Sound E.P) {tl : Nat → Option FuncId} (htl : ∀ k f, tl k = some f → ToldOk E.P k f) {f : FuncId} {fn : Func} {c : Code} (hf : E.P.funcs[f]? = some fn) (hb : fn.body = some c) (hnt : E.nt = fn.ntmps) {AL : List AV} (hal : Nat.ble AL.length fn.ntmps = true) {HL : Heap U} {R : OOut U} {C : Cfg U}
    (hIt : ∀ k it, C.it k = some it → ItOk E.P it) (hCm : C.m = HL.length) (hr : C.rnd = false) (hEY : ∀ a H K, ¬ E.Y a H K)
    {K : Ex → Fr → Df → Heap U → Prop} (hK : ∀ e fr df H, K e fr df H → endG E.P E.T tl fn HL R e fr df H) (h : wpA E C c (frameOf 0 AL) [] HL K) : FunOk E.P f AL HL R := by
  have hal' : AL.length ≤ fn.ntmps := by simpa using hal
  have start : ∀ (π : Plc) (w : World) (vs : List Value) (hfr : Fresh π HL.length), Conc π HL w → RepL π AL vs →
      St (Base.of π HL w E.nt hfr) (frameOf 0 AL) [] HL π w { tmps := vs.toArray ++ Array.replicate (fn.ntmps - vs.toArray.size) undef, defers := [] } := by
    intro π w vs hfr hc hv
    have hl := hv.length
    refine ⟨frameOf_ok fun j x hx => ?_, hc, hfr, fun _ _ _ => rfl, Keeps.refl _ _, fun _ h => .inl h, ?_, trivial, rfl, Nat.le_refl _⟩
    · obtain ⟨y, hy, hr⟩ := hv.get hx
      have hj : j < vs.length := (List.getElem?_eq_some_iff.1 hy).1
      have : (vs.toArray ++ Array.replicate (fn.ntmps - vs.toArray.size) undef).getD (0 + j) undef = y := by
        rw [Nat.zero_add, Array.getD_eq_getD_getElem?, Array.getElem?_append_left (by simpa using hj)]
        simp [hy]
      rw [this]; exact hr
    · simp only [Array.size_append, List.size_toArray, Array.size_replicate]
      rw [hnt]; omega
  have main : ∀ (RR : Ending → World → Prop) (π : Plc) (w : World) (vs : List Value) (hfr : Fresh π HL.length), Conc π HL w → RepL π AL vs →
      (∀ e fr H π' w' (a' : Act), (e = .nrm ∨ e = .ret) → endA0 E.P fn HL R e fr H → St (Base.of π HL w E.nt hfr) fr [] H π' w' a' → ∃ v, (results fn a'.tmps).run E.P w' = .ok v w' ∧ RR (.returned v) w') →
      (∀ x y fr H π' w' (a' : Act), endA0 E.P fn HL R (.pan x) fr H → Rep π' x y → St (Base.of π HL w E.nt hfr) fr [] H π' w' a' → RR (.panicked [{ v := y, recovered := false }]) w') →
      Calls E.P f vs.toArray w RR := by
    intro RR π w vs hfr hc hv kret kpan
    have tail : ∀ (e : Ex) (x : AV) (y : Value) (u : FrameMode) fr df H π' w' (a' : Act), ((e = .nrm ∨ e = .ret) ∧ u = .returning ∧ x = .v .nilIface ∧ y = .nilIface ∨ e = .pan x ∧ u = .panicking [{ v := y, recovered := false }]) → Rep π' x y → endG E.P E.T tl fn HL R e fr df H →
        St (Base.of π HL w E.nt hfr) fr (stripM df) H π' w' a' → LeavesInM (Fw none) 0 E.P fn a'.tmps RR a'.defers u w' := by
      intro e x y u fr df H π' w' a' he hxy hk hS
      unfold endG at hk
      split at hk
      · rename_i hdf
        rw [hdf] at hS
        have hd : a'.defers = [] := hS.df
        rw [hd]
        rcases he with ⟨he, rfl, _⟩ | ⟨rfl, rfl⟩
        · obtain ⟨v, hv1, hv2⟩ := kret e fr H π' w' a' he hk hS
          exact ⟨v, hv1, hv2⟩
        · exact kpan x y fr H π' w' a' hk hxy hS
      · rename_i k c hdf
        rw [hdf] at hS
        split at hk
        case h_2 => exact hk.elim
        rename_i g htg
        split at hk
        case h_2 => exact hk.elim
        rename_i con hcon
        obtain ⟨cap, args, ds', hds, hcap, hargs, hrest⟩ := hS.df
        have hds' : ds' = [] := hrest
        subst hds'
        have hargs' : args = #[] := by apply Array.toList_inj.1; simpa [RepL] using hargs
        subst hargs'
        simp only [RepL] at hcap
        obtain ⟨cv, zs, hcl, hcr, hz⟩ := hcap
        subst hz
        have hcap' : cap = #[cv] := by apply Array.toList_inj.1; rw [hcl]
        subst hcap'
        have hsound := hT.get hcon
        have htold := htl k g htg
        have hcon' : con [x, c] H H.length fun
          | .val r => worked (fun _ fr _ H => endA0 E.P fn HL R .ret fr H) .ret fr [] (H.app r)
          | .panic _ => False := by
          rcases he with ⟨he, _, rfl, _⟩ | ⟨rfl, _⟩
          · rcases he with rfl | rfl <;> exact hk
          · exact hk
        obtain ⟨r, hr1, hcall⟩ := hsound.ok _ _ _ _ hcon'
        cases r with
        | panic _ => exact hr1.elim
        | val r =>
          have hcall' := hcall π' w' [y, cv] hS.conc (RepL.cons hxy (RepL.cons hcr (RepL.nil π'))) fun j k _ => hS.fresh _ _ (by omega)
          have hnr : u ≠ .run := by rcases he with ⟨_, rfl, _⟩ | ⟨_, rfl⟩ <;> simp
          rw [hds]
          have hu : (u = .returning ∧ y = .nilIface) ∨ u = .panicking [{ v := y, recovered := false }] := by
            rcases he with ⟨_, h1, _, h2⟩ | ⟨_, h⟩
            · exact .inl ⟨h1, h2⟩
            · exact .inr h
          refine ⟨hnr, .inr ⟨fun hh => by simp [Fw, Fence.wide] at hh, _, _, k, #[cv], rfl, ?_, fun _ _ => trivial, ?_⟩⟩
          · show (callFunc k (#[] ++ #[cv])).run E.P w' = _
            rw [show (#[] ++ #[cv] : Array Value) = #[cv] by simp]
            exact htold.1 _ _
          · refine (htold.2 (0 - 1) y cv u w' (fun w2 => ∃ v πn, Post H H.length r π' πn w' w2 v) hu (hcall'.mono fun e w2 h2 => ?_)).mono fun e u' w2 h2 => ?_
            · obtain ⟨v, πn, he', hp⟩ := h2; exact ⟨v, he', v, πn, hp⟩
            · obtain ⟨⟨v, rfl⟩, hset, v', πn, hp⟩ := h2
              simp only [hset]
              have hS0 : St (Base.of π HL w E.nt hfr) fr [] H π' w' { a' with defers := [] } := ⟨hS.fr, hS.conc, hS.fresh, hS.only, hS.keeps, hS.own, hS.nt, trivial, rfl, hS.len⟩
              have hS2 := hS0.step (Step.post (dst := none) hS.conc hS.fr hS.fresh hp rfl)
              obtain ⟨v3, hv1, hv2⟩ := kret .ret fr (H.app r) πn w2 _ (.inr rfl) (worked_ok hr1) hS2
              exact ⟨v3, hv1, hv2⟩
      · exact hk.elim
    have noExit : ∀ (e : Ex) fr df H, (∃ i, e = .exit i ∨ e = .goto i) → ¬ endG E.P E.T tl fn HL R e fr df H := by
      intro e fr df H he hk
      unfold endG at hk
      split at hk
      · obtain ⟨i, rfl | rfl⟩ := he <;> exact hk
      · split at hk
        · split at hk
          · obtain ⟨i, rfl | rfl⟩ := he <;> exact hk
          · exact hk
        · exact hk
      · exact hk
    refine callsIn_wide.1 (callsIn_of_wp_marks (n := 0) hf hb trivial (Go.wpIn_mono (wpA_ok hm hT (B := Base.of π HL w E.nt hfr) rfl hIt hCm (rd := none) (fun _ => rfl) (n := 0) (fun a H K hh => (hEY a H K hh).elim) c _ _ _ _ h π w _ (start π w vs hfr hc hv)) fun e a w' q => ?_))
    replace q := QOf.mono hK e a w' q
    cases e with
    | normal =>
      obtain ⟨fr, df, H, π', hk, hS⟩ := q
      exact leaves_marks (by simp) df w' a rfl hS fun w2 a2 ht hS2 => by rw [← ht]; exact tail .nrm (.v .nilIface) .nilIface .returning fr df H π' w2 a2 (.inl ⟨.inl rfl, rfl, rfl, rfl⟩) (by simp [Rep]) hk hS2
    | ret =>
      obtain ⟨fr, df, H, π', hk, hS⟩ := q
      exact leaves_marks (by simp) df w' a rfl hS fun w2 a2 ht hS2 => by rw [← ht]; exact tail .ret (.v .nilIface) .nilIface .returning fr df H π' w2 a2 (.inl ⟨.inr rfl, rfl, rfl, rfl⟩) (by simp [Rep]) hk hS2
    | panic ch =>
      obtain ⟨x, y, fr, df, H, π', rfl, hk, hxy, hS⟩ := q
      exact leaves_marks (by simp) df w' a rfl hS fun w2 a2 ht hS2 => by rw [← ht]; exact tail (.pan x) x y _ fr df H π' w2 a2 (.inr ⟨rfl, rfl⟩) hxy hk hS2
    | exit i => obtain ⟨fr, df, H, π', hk, hS⟩ := q; exact (noExit _ _ _ _ ⟨i, .inl rfl⟩ hk).elim
    | goto i => obtain ⟨fr, df, H, π', hk, hS⟩ := q; exact (noExit _ _ _ _ ⟨i, .inr rfl⟩ hk).elim
    | outgrown => exact q.elim
  cases R with
  | val r =>
    intro π w vs hfr hc hv
    refine main _ π w vs hfr hc hv (fun e fr H π' w' a' he hk hS => ?_) (fun x y fr H π' w' a' hk _ _ => hk.elim)
    have hk' : ownCov (r.upd.map (·.1) ++ r.kill.map (·.1)) 0 HL ∧ isB (okR HL r) (resA E.P fn.results.toList fr H fun vs => weakN HL.length [(0, tupOf vs)] [] H [(0, r.val)] (HL.app r)) := by
      rcases he with rfl | rfl <;> exact hk
    obtain ⟨hcov, hk⟩ := hk'
    obtain ⟨hok, hk⟩ := isB_ok hk
    obtain ⟨xs, hw, hres⟩ := results_ok hk
    obtain ⟨v, hrun, hrep⟩ := hres π' w' a'.tmps hS.conc hS.fr
    have hS0 : St (Base.of π HL w 1 hfr) [(0, tupOf xs)] [] H π' w' { tmps := #[v], defers := [] } := by
      refine ⟨fun t => ?_, hS.conc, hS.fresh, hS.only, hS.keeps, hS.own, rfl, trivial, rfl, hS.len⟩
      rw [Fr.get_cons]
      split
      · rename_i e; subst e; exact hrep
      · simp [Fr.get, Rep]
    obtain ⟨πn, hSn⟩ := weakN_ok hw hS0
    exact ⟨v, hrun, v, πn, rfl, post_of hfr hc hcov hok hSn rfl⟩
  | panic x =>
    intro π w vs hfr hc hv
    refine main _ π w vs hfr hc hv (fun e fr H π' w' a' he hk _ => by rcases he with rfl | rfl <;> exact hk.elim) (fun x' y fr H π' w' a' hk hr hS => ?_)
    obtain ⟨hcov, hk⟩ := hk
    obtain ⟨hfx, hk⟩ := isB_ok hk
    refine ⟨y, rfl, (leV_ok hS.conc hk hr).fixed hfx, hS.keeps.weaken fun n hn hh => ?_⟩
    obtain ⟨id, k, b0, p, hb0, ho, _⟩ := hh.resolve_right (fun h => h)
    have := (ownCov_get hcov hb0 ho).1
    cases this

def itOf (P : Program) (T : Tab U) (g : FuncId) (fn : Func) (L : Nat → Nat → Option (LRule U)) (hs : Nat → List Nat := fun _ => []) (sp : Nat → Option (Nat × Nat) := fun _ => none) (itr : Nat → Nat → Option (ItW U) := fun _ _ => none) : ItW U where
  g := g
  fn := fn
  run := fun Y l m fr H K => wpA { P := P, T := T, nt := fn.ntmps, Y := Y, l := l } { m := m, L := L l, hs := hs, sp := sp, it := itr l } (bodyOf fn) fr [] H K
theorem itOf_okI {P : Program} {T : Tab U} (hm : P.follows .mixedOrders = true) (hT : T.Sound P) {g : FuncId} {fn : Func} {L : Nat → Nat → Option (LRule U)} {hs : Nat → List Nat} {sp : Nat → Option (Nat × Nat)} {itr : Nat → Nat → Option (ItW U)} (hI : ∀ l k i, itr l k = some i → ItOk P i) (hf : P.funcs[g]? = some fn) (hb : fn.body.isSome = true) (hr : fn.results.size = 0)
    (he : ∀ args w, (callFunc g args).run P w = .ok (.enter g args) w) : ItOk P (itOf P T g fn L hs sp itr) where
  fn := hf
  body := by
    obtain ⟨c, hc⟩ := Option.isSome_iff_exists.1 hb
    show fn.body = some (bodyOf fn)
    unfold bodyOf; rw [hc]
  res := Array.size_eq_zero_iff.1 hr
  enters := he
  walk := fun Y l fr H K h B n hnt hlen hY π w a hS =>
    wpA_ok (E := { P := P, T := T, nt := fn.ntmps, Y := Y, l := l }) hm hT hnt (C := { m := H.length, L := L l, hs := hs, sp := sp, it := itr l }) (hI l) hlen.symm (rd := none) (fun _ => rfl) hY _ _ _ _ _ h π w a hS
theorem itOf_ok {P : Program} {T : Tab U} (hm : P.follows .mixedOrders = true) (hT : T.Sound P) {g : FuncId} {fn : Func} {L : Nat → Nat → Option (LRule U)} {hs : Nat → List Nat} {sp : Nat → Option (Nat × Nat)} (hf : P.funcs[g]? = some fn) (hb : fn.body.isSome = true) (hr : fn.results.size = 0)
    (he : ∀ args w, (callFunc g args).run P w = .ok (.enter g args) w) : ItOk P (itOf P T g fn L hs sp) := itOf_okI hm hT (fun _ _ _ h => by cases h) hf hb hr he
end AE
