/- An own symbolic executor: regions whose order is open: every order. No condition. -/
import Derived.Test.YtfhpdgmhdppggaaAe23
namespace AE
open Go

variable {U : Uni}

theorem apartE_ok {d : Option Nat} {rd : List Nat} {x : Ent U} (h : apartE d rd x = true) : (∀ d', x.dst = some d' → d' ∉ rd ∧ d ≠ some d') ∧ (∀ d', d = some d' → d' ∉ x.rd) := by
  unfold apartE at h
  simp only [Bool.and_eq_true] at h
  have hn : ∀ {n : Nat} {l : List Nat}, (!memN n l) = true → n ∉ l := by
    intro n l h hm
    rw [memN_iff.2 hm] at h; cases h
  refine ⟨fun d' hd => ?_, fun d' hd => ?_⟩
  · have h1 := h.1
    rw [hd] at h1
    simp only [Bool.and_eq_true] at h1
    refine ⟨hn h1.1, fun e => ?_⟩
    have h2 := h1.2
    rw [e] at h2; simp at h2
  · have h2 := h.2
    rw [hd] at h2
    exact hn h2

/-- Nothing more has come of an operation's end than of its beginning, but what `Q` says. -/
theorem Oper.wpIn_both {F : Fence} {n : Nat} {P : Program} {o : Oper} {a : Act} {w : World} {K K' : Act → World → Prop} {Q Q' : Exit → Act → World → Prop} (h : ∀ a w, K a w → K' a w) (hq : ∀ e a w, Q e a w → Q' e a w)
    (hh : o.wpIn F n P a w K Q) : o.wpIn F n P a w K' Q' := by
  unfold Oper.wpIn at *
  refine ⟨hh.1, ?_⟩
  have hh := hh.2
  have hl : LetsOut Q → LetsOut Q' := fun ⟨a, w, h⟩ => ⟨a, w, hq _ _ _ h⟩
  generalize (o.semAt F.round a.eval).run P w = r at *
  cases r with
  | ok x w' =>
    cases x <;> simp only [Oper.uponIn] at hh ⊢ <;>
      first
        | exact h _ _ hh
        | exact ⟨hh.1, CallsIn.mono hh.2 (fun e w'' he => by cases e <;> first | exact h _ _ he | exact hq _ _ _ he | exact hl he)⟩
        | exact ⟨hh.1, RowsIn.mono hh.2 (fun _ _ he => h _ _ he)⟩
        | exact ⟨hh.1, RoundIn.mono hh.2 (fun e w'' he => by cases e <;> first | exact h _ _ he | exact hq _ _ _ he | exact hl he)⟩
  | halt x w' => cases x <;> simp only [Oper.uponIn] at hh ⊢ <;> first | exact hq _ _ _ hh | exact hh

def lst (listed : Array Bool) (k : Nat) : Bool := listed.getD k false

/-- Where a region stands on its way. -/
structure Mid (nt : Nat) (tbl : List (Ent U)) (fr0 : Fr) (H0 : Heap U) (π0 π : Plc) (w0 : World) (a0 : Act) (listed : Array Bool) (a : Act) (w : World) : Prop where
  size : listed.size = tbl.length
  clo : ∀ (i : Nat) (ei : Ent U), lst listed i = true → tbl[i]? = some ei → ei.k.bad = false ∧ ∀ k, Nat.testBit ei.mask k = true → lst listed k = true
  fr : FrOk π (foldF av0 (lst listed) tbl 0 fr0) a.tmps
  conc : Conc π (foldH (lst listed) tbl 0 H0) w
  fresh1 : ∀ (i : Nat) (ei : Ent U), lst listed i = false → tbl[i]? = some ei → ∀ j k, j < ei.k.newN → π (H0.length + newSum (tbl.take i) + j) k = none
  fresh2 : Fresh π (H0.length + newSum tbl)
  sub : Sub π0 π
  only : ∀ id k, id < H0.length → π id k = π0 id k
  keeps : Keeps (Owned π0 H0) w0 w
  own : ∀ n, Owned π (foldH (lst listed) tbl 0 H0) n → Owned π0 H0 n ∨ w0.heap.size ≤ n
  defers : a.defers = a0.defers
  nt : a.tmps.size = nt

section step
variable {P : Program} {nt : Nat} {ops : Array Oper} {fr0 : Fr} {H0 : Heap U} {tbl : List (Ent U)} {π0 π : Plc} {w0 w : World} {a0 a : Act} {listed : Array Bool} {i : Nat} {o : Oper} {e : Ent U}

theorem Mid.mask (hT : TblOk P nt ops.toList fr0 H0 tbl) (hM : Mid nt tbl fr0 H0 π0 π w0 a0 listed a w) (hE : EntOk P nt ops.toList fr0 H0 (tbl.take i) o e) (hdep : ∀ ed ∈ o.after.toList, Region.binds .any ed = true → lst listed ed.on = true) :
    ∀ k, Nat.testBit e.mask k = true → lst listed k = true := by
  intro k hk
  obtain ⟨ed, hed, hb, h | ⟨ek, hek, hkk⟩⟩ := hE.org k hk
  · subst h; exact hdep ed hed hb
  · have hlt := (hE.dep ed hed hb).1
    rw [List.getElem?_take] at hek
    split at hek
    · exact (hM.clo _ _ (hdep ed hed hb) hek).2 k hkk
    · cases hek

/-- What is behind an operation in the text, and done already, does not touch what it looks at. -/
theorem Mid.later (hT : TblOk P nt ops.toList fr0 H0 tbl) (hM : Mid nt tbl fr0 H0 π0 π w0 a0 listed a w) (he : tbl[i]? = some e) (hi : lst listed i = false) {k : Nat} {ek : Ent U} (hk : tbl[k]? = some ek) (hik : i < k) (hmk : lst listed k = true) :
    (∀ d, ek.dst = some d → d ∉ e.rd ∧ e.dst ≠ some d) ∧ Nat.testBit ek.mask i = false ∧ (∀ d', e.dst = some d' → d' ∉ ek.rd) := by
  have hb : Nat.testBit ek.mask i = false := by
    cases h : Nat.testBit ek.mask i with
    | false => rfl
    | true => rw [(hM.clo k ek hmk hk).2 i h] at hi; cases hi
  obtain ⟨ok, _, hEk⟩ := hT k ek hk
  have := apartE_ok (hEk.apart i e (by rw [List.getElem?_take, if_pos hik]; exact he) hb)
  exact ⟨fun d hd => ⟨this.2 d hd, fun e' => (this.1 d e').2 hd⟩, hb, fun d' hd' => (this.1 d' hd').1⟩

theorem Mid.slots (hT : TblOk P nt ops.toList fr0 H0 tbl) (hM : Mid nt tbl fr0 H0 π0 π w0 a0 listed a w) (he : tbl[i]? = some e) (hi : lst listed i = false) (hE : EntOk P nt ops.toList fr0 H0 (tbl.take i) o e) (hmask : ∀ k, Nat.testBit e.mask k = true → lst listed k = true) :
    ∀ t, t ∈ e.rd → Rep π ((foldF av0 (Nat.testBit e.mask) (tbl.take i) 0 fr0).get t) (a.tmps.getD t undef) := by
  intro t ht
  have h1 : (foldF av0 (lst listed) tbl 0 fr0).get t = (foldF av0 (Nat.testBit e.mask) (tbl.take i) 0 fr0).get t := by
    rw [foldF_take (fun j ej hj hij => by
      left
      cases h : Nat.testBit e.mask (0 + j) with
      | false => rfl
      | true => have := hE.lt _ h; rw [List.length_take] at this; omega)]
    refine foldF_congr rfl fun j ej hj => ?_
    simp only [Nat.zero_add]
    cases hm : Nat.testBit e.mask j with
    | true => exact .inl (hmask j hm)
    | false =>
      rcases Nat.lt_trichotomy j i with h | h | h
      · right
        have := apartE_ok (hE.apart j ej (by rw [List.getElem?_take, if_pos h]; exact hj) hm)
        intro hd
        exact (this.1 t hd).1 ht
      · subst h; exact .inl hi
      · cases hl : lst listed j with
        | false => exact .inl rfl
        | true =>
          right; intro hd
          exact ((hM.later hT he hi hj h hl).1 t hd).1 ht
  rw [← h1]; exact hM.fr t

theorem Mid.look (hT : TblOk P nt ops.toList fr0 H0 tbl) (hM : Mid nt tbl fr0 H0 π0 π w0 a0 listed a w) (he : tbl[i]? = some e) (hi : lst listed i = false) (hE : EntOk P nt ops.toList fr0 H0 (tbl.take i) o e) (hmask : ∀ k, Nat.testBit e.mask k = true → lst listed k = true)
    (hH : HOk H0 (tbl.take i) e) (hlat : ∀ (k : Nat) (ek : Ent U), tbl[k]? = some ek → i < k → lst listed k = true → ∀ id ∈ ek.k.mods, ∀ x, e.H[id]? = some x → x = .none) : e.H.le (foldH (lst listed) tbl 0 H0) := by
  intro id k b hb
  have hx : ∃ x, e.H[id]? = some x ∧ x ≠ .none := by
    unfold Heap.at at hb
    split at hb
    · rename_i h; exact ⟨_, h, by simp⟩
    · rename_i h; exact ⟨_, h, by simp⟩
    · cases hb
  obtain ⟨x, hx, hx0⟩ := hx
  obtain ⟨h1, h2⟩ := hH id x hx hx0
  have h3 := foldH_take (tbl := tbl) (n := i) (fun j ej hj hij => by
      cases h : Nat.testBit e.mask (0 + j) with
      | false => rfl
      | true => have := hE.lt _ h; rw [List.length_take] at this; omega) h1
  have h4 := foldH_le (m' := lst listed) (H' := H0) hx0 rfl (fun j ej hj => by
    simp only [Nat.zero_add]
    cases hm : Nat.testBit e.mask j with
    | true => exact .inl (hmask j hm).symm
    | false =>
      rcases Nat.lt_trichotomy j i with h | h | h
      · exact .inr ⟨rfl, h2 j ej (by rw [List.getElem?_take, if_pos h]; exact hj) hm⟩
      · subst h; exact .inl hi.symm
      · cases hl : lst listed j with
        | false => exact .inl rfl
        | true => exact .inr ⟨rfl, fun hid => hx0 (hlat j ej hj h hl id hid x hx)⟩) (.inl rfl) h3
  rw [at_congr (h4.trans hx.symm)]; exact hb

theorem Mid.guardSlot (hT : TblOk P nt ops.toList fr0 H0 tbl) (hM : Mid nt tbl fr0 H0 π0 π w0 a0 listed a w) (he : tbl[i]? = some e) (hi : lst listed i = false) (hE : EntOk P nt ops.toList fr0 H0 (tbl.take i) o e) (hmask : ∀ k, Nat.testBit e.mask k = true → lst listed k = true)
    {j d : Nat} {ej : Ent U} (hj : (tbl.take i)[j]? = some ej) (hmj : Nat.testBit e.mask j = true) (hd : ej.dst = some d) (hrd : d ∈ e.rd) (hu : ∀ (k : Nat) (ek : Ent U), (tbl.take i)[k]? = some ek → k ≠ j → ek.dst ≠ ej.dst) :
    Rep π (av0 ej) (a.tmps.getD d undef) := by
  have hji : j < i ∧ tbl[j]? = some ej := by
    rw [List.getElem?_take] at hj
    split at hj
    · rename_i h; exact ⟨h, hj⟩
    · cases hj
  have := hM.fr d
  rwa [foldF_last hji.2 (by rw [Nat.zero_add]; exact hmask j hmj) hd (fun l el hl hjl hml => ?_)] at this
  rw [Nat.zero_add] at hml
  rcases Nat.lt_trichotomy l i with h | h | h
  · rw [← hd]; exact hu l el (by rw [List.getElem?_take, if_pos h]; exact hl) (by omega)
  · subst h; rw [hi] at hml; cases hml
  · intro hd'; exact ((hM.later hT he hi hl h hml).1 d hd').1 hrd

theorem yielded_of {d j : Nat} {b : Bool} {oj : Oper} {tmps : Array Value} (ho : ops.toList[j]? = some oj) (hd : oj.dst = some d) (h : tmps.getD d undef = .bool b) : yielded ops tmps j = some b := by
  unfold yielded
  have : ops[j]? = some oj := by rw [← Array.getElem?_toList]; exact ho
  rw [this]
  simp only [Option.bind_some, hd]
  cases ht : tmps[d]? with
  | none => simp [Array.getD_eq_getD_getElem?, ht, undef] at h
  | some v => simp [Array.getD_eq_getD_getElem?, ht] at h; subst h; rfl
theorem yielded_off {d j : Nat} {b : Bool} {oj : Oper} {tmps : Array Value} (ho : ops.toList[j]? = some oj) (hd : oj.dst = some d) (h : tmps.getD d undef = undef) : yielded ops tmps j ≠ some b := by
  unfold yielded
  have : ops[j]? = some oj := by rw [← Array.getElem?_toList]; exact ho
  rw [this]
  simp only [Option.bind_some, hd]
  cases ht : tmps[d]? with
  | none => simp
  | some v => simp [Array.getD_eq_getD_getElem?, ht] at h; subst h; simp [undef]

theorem Mid.wantedYes (hT : TblOk P nt ops.toList fr0 H0 tbl) (hM : Mid nt tbl fr0 H0 π0 π w0 a0 listed a w) (he : tbl[i]? = some e) (hi : lst listed i = false) (hE : EntOk P nt ops.toList fr0 H0 (tbl.take i) o e) (hmask : ∀ k, Nat.testBit e.mask k = true → lst listed k = true)
    (hg : GuardYes (tbl.take i) e o) : Region.wanted o (yielded ops a.tmps) = true := by
  unfold Region.wanted
  rcases hg with hg | ⟨j, want, ej, rj, hg, hmj, hj, hk, hd, hu, hy⟩
  · rw [hg]
  · rw [hg]
    have hji : j < i ∧ tbl[j]? = some ej := by
      rw [List.getElem?_take] at hj
      split at hj
      · rename_i h; exact ⟨h, hj⟩
      · cases hj
    obtain ⟨oj, hoj, hEj⟩ := hT j ej hji.2
    cases hdj : ej.dst with
    | none => exact absurd hdj hd
    | some d =>
      have hod : oj.dst = some d := by rw [← hEj.dst, hdj]
      have := hM.guardSlot hT he hi hE hmask hj hmj hdj (hE.gd j want oj d hg hoj hod) hu
      unfold av0 EK.av at this
      rw [hk] at this
      simp only [yielded_of hoj hod (hy _ _ this), BEq.rfl]

theorem Mid.wantedNo (hT : TblOk P nt ops.toList fr0 H0 tbl) (hM : Mid nt tbl fr0 H0 π0 π w0 a0 listed a w) (he : tbl[i]? = some e) (hi : lst listed i = false) (hE : EntOk P nt ops.toList fr0 H0 (tbl.take i) o e) (hmask : ∀ k, Nat.testBit e.mask k = true → lst listed k = true)
    (hg : GuardNo (tbl.take i) e o) : Region.wanted o (yielded ops a.tmps) = false := by
  unfold Region.wanted
  obtain ⟨j, want, ej, hg, hmj, hj, hd, hu, hy⟩ := hg
  rw [hg]
  have hji : j < i ∧ tbl[j]? = some ej := by
    rw [List.getElem?_take] at hj
    split at hj
    · rename_i h; exact ⟨h, hj⟩
    · cases hj
  obtain ⟨oj, hoj, hEj⟩ := hT j ej hji.2
  cases hdj : ej.dst with
  | none => exact absurd hdj hd
  | some d =>
    have hod : oj.dst = some d := by rw [← hEj.dst, hdj]
    have := hM.guardSlot hT he hi hE hmask hj hmj hdj (hE.gd j want oj d hg hoj hod) hu
    unfold av0 EK.av at this
    rcases hy with hk | ⟨rj, hk, hy⟩
    · rw [hk] at this
      simp only [Rep] at this
      have h2 := yielded_off (b := want) hoj hod this
      simp only [beq_eq_false_iff_ne]; exact h2
    · rw [hk] at this
      simp only [yielded_of hoj hod (hy _ _ this)]
      cases want <;> rfl

theorem lst_set (h : i < listed.size) : lst (listed.setIfInBounds i true) = fun k => if k = i then true else lst listed k := by
  funext k
  unfold lst
  split
  · rename_i e; subst e; simp [h]
  · rename_i e; exact getD_set_ne false (Ne.symm e)

/-- Once an operation's own value has come, its slot holds it. -/
theorem Mid.frame {v : Value} {πn : Plc} (hT : TblOk P nt ops.toList fr0 H0 tbl) (hM : Mid nt tbl fr0 H0 π0 π w0 a0 listed a w) (he : tbl[i]? = some e) (hi : lst listed i = false) (hE : EntOk P nt ops.toList fr0 H0 (tbl.take i) o e)
    (hs : Sub π πn) (hv : Rep πn (av0 e) v) : FrOk πn (foldF av0 (lst (listed.setIfInBounds i true)) tbl 0 fr0) (a.put o.dst v).tmps := by
  have hlt : i < listed.size := by rw [hM.size]; exact (List.getElem?_eq_some_iff.1 he).1
  intro t
  rw [lst_set hlt]
  by_cases ht : o.dst = some t
  · rw [foldF_last he (by simp) (hE.dst.trans ht) (fun j ej hj hij hmj => by
      rw [Nat.zero_add, if_neg (by omega)] at hmj
      exact fun hd => ((hM.later hT he hi hj hij hmj).1 t hd).2 (hE.dst.trans ht))]
    have : (a.put o.dst v).tmps.getD t undef = v := by
      have hnt := hE.nt
      rw [ht] at hnt
      simp only [dstOk, Nat.blt_eq] at hnt
      rw [ht]; simp [Act.put, Array.getD, hM.nt, hnt]
    rw [this]; exact hv
  · rw [foldF_congr (m' := lst listed) (fr' := fr0) rfl (fun j ej hj => by
      rw [Nat.zero_add]
      by_cases h : j = i
      · subst h; rw [he] at hj; cases hj
        exact .inr (by rw [hE.dst]; exact ht)
      · rw [if_neg h]; exact .inl rfl)]
    have : (a.put o.dst v).tmps.getD t undef = a.tmps.getD t undef := by
      cases hd : o.dst with
      | none => rfl
      | some d =>
        have hne : d ≠ t := fun e => ht (by rw [hd, e])
        simp only [Act.put, Array.getD_eq_getD_getElem?, Array.getElem?_setIfInBounds_ne hne]
    rw [this]; exact (hM.fr t).mono hs
end step
end AE
