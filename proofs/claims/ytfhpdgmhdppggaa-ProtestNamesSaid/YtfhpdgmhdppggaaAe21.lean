/- An own symbolic executor: regions whose order is open: the whole reckoning. No condition. -/
import Derived.Test.YtfhpdgmhdppggaaAe20
namespace AE
open Go

variable {U : Uni}

/-- What the whole reckoning says. -/
def DrawEnd (E : Env U) (all : List Oper) (fr0 : Fr) (H0 : Heap U) (K : Fr → Heap U → Prop) (KP : AV → Heap U → Prop) : Prop :=
  ∃ tbl vs, tbl.length = all.length ∧ TblOk E.P E.nt all fr0 H0 tbl ∧ VwsOk tbl vs ∧
    (((∀ e ∈ tbl, e.k.bad = false) ∧ K (foldV (fun _ => true) tbl vs 0 fr0) (foldH (fun _ => true) tbl 0 H0)) ∨
     (∃ x, (∃ e ∈ tbl, e.k = .panic x) ∧ (∀ e ∈ tbl, ∀ y, e.k = .panic y → y = x) ∧ KP x (killAll (allMods tbl) H0 ++ nones U (newSum tbl))))

def PanOk (tbl : List (Ent U)) : Option AV → Prop
  | none => ∀ e ∈ tbl, e.k.bad = false
  | some x => (∃ e ∈ tbl, e.k = .panic x) ∧ ∀ e ∈ tbl, ∀ y, e.k = .panic y → y = x

theorem PanOk.snoc {tbl : List (Ent U)} {pan : Option AV} (h : PanOk tbl pan) {e : Ent U} (he : pan = none → e.k.bad = false) (hp : ∀ y, e.k = .panic y → pan = some y) : PanOk (tbl ++ [e]) pan := by
  cases pan with
  | none =>
    intro e' he'
    simp at he'
    rcases he' with he' | rfl
    · exact h e' he'
    · exact he rfl
  | some x =>
    obtain ⟨⟨e0, h0, hk⟩, h2⟩ := h
    refine ⟨⟨e0, by simp [h0], hk⟩, fun e' he' y hy => ?_⟩
    simp at he'
    rcases he' with he' | rfl
    · exact h2 e' he' y hy
    · have := hp y hy; simpa using this.symm

theorem bad_panic {tbl : List (Ent U)} {pan : Option AV} (h : PanOk tbl pan) {e : Ent U} (he : e ∈ tbl) (hb : e.k.bad = true) : pan ≠ none := by
  intro hn; subst hn
  have := h e he; rw [this] at hb; cases hb

theorem drawGo_ok {E : Env U} (hT : E.T.Sound E.P) {all : List Oper} {hs : List Nat} {fr0 : Fr} {H0 : Heap U} {K : Fr → Heap U → Prop} {KP : AV → Heap U → Prop} : ∀ (os : List Oper) (tbl : List (Ent U)) (vs : List AV) (pan : Option AV),
    all.drop tbl.length = os → tbl.length ≤ all.length → TblOk E.P E.nt all fr0 H0 tbl → VwsOk tbl vs → PanOk tbl pan → drawGo E all hs fr0 H0 os tbl vs pan K KP → DrawEnd E all fr0 H0 K KP
  | [], tbl, vs, pan, hd, hl, ht, hv, hp, h => by
    have hlen : tbl.length = all.length := by
      have := congrArg List.length hd
      simp at this; omega
    cases pan with
    | none => exact ⟨tbl, vs, hlen, ht, hv, .inl ⟨hp, by simpa [drawGo] using h⟩⟩
    | some x => exact ⟨tbl, vs, hlen, ht, hv, .inr ⟨x, hp.1, hp.2, by simpa [drawGo] using h⟩⟩
  | o :: os, tbl, vs, pan, hd, hl, ht, hv, hp, h => by
    have hlt : tbl.length < all.length := by
      rcases Nat.lt_or_ge tbl.length all.length with h | h
      · exact h
      · rw [List.drop_eq_nil_of_le h] at hd; cases hd
    have ho : all[tbl.length]? = some o := by
      have : (all.drop tbl.length)[0]? = some o := by rw [hd]; rfl
      rw [List.getElem?_drop] at this; simpa using this
    have hd' : all.drop (tbl.length + 1) = os := by
      rw [← List.drop_drop, hd]; rfl
    unfold drawGo at h
    split at h
    case h_1 => exact h.elim
    rename_i m hm
    obtain ⟨hchk, h⟩ := isB_ok h
    simp only [Bool.and_eq_true] at hchk
    obtain ⟨hnt, hap⟩ := hchk
    obtain ⟨_, hdep, hmlt, hmclo, horg⟩ := depMask_ok hm (by simp) ht.masks.1 (by simp) ht.masks.2
    have horg' : ∀ k, Nat.testBit m k = true → ∃ ed ∈ o.after.toList, Region.binds .any ed = true ∧ (ed.on = k ∨ ∃ ek : Ent U, tbl[ed.on]? = some ek ∧ Nat.testBit ek.mask k = true) := fun k hk => (horg k hk).resolve_left (by simp)
    have hap' : ∀ (k : Nat) (ek : Ent U), tbl[k]? = some ek → Nat.testBit m k = false → apartE o.dst (opReads o ++ guardSlot all o) ek = true := by
      intro k ek hk hmk
      have := allFrom_get hap hk
      simp only [Nat.zero_add, hmk, Bool.false_or] at this
      exact this
    have hrd : ∀ t, Operand.tmp t ∈ o.op.operands.toList → t ∈ opReads o ++ guardSlot all o := fun t ht => by simp [opReads_mem ht]
    have hgd : ∀ j want oj d, o.guard = some (j, want) → all[j]? = some oj → oj.dst = some d → d ∈ opReads o ++ guardSlot all o := by
      intro j want oj d hg hj hdj
      simp only [List.mem_append]
      right
      unfold guardSlot
      rw [hg]; simp only [nth_eq, hj, hdj]; simp
    -- an entry for this operation
    have mk : ∀ (H : Heap U) (k : EK U), (match k with
        | .dead => ∃ (k : Nat) (ek : Ent U), Nat.testBit m k = true ∧ tbl[k]? = some ek ∧ ek.k.bad = true
        | .skip => GuardNo tbl ⟨o.dst, opReads o ++ guardSlot all o, m, H0.length + newSum tbl, H, k⟩ o ∧ ∀ (k : Nat) (ek : Ent U), Nat.testBit m k = true → tbl[k]? = some ek → ek.k.bad = false
        | .done r => GuardYes tbl ⟨o.dst, opReads o ++ guardSlot all o, m, H0.length + newSum tbl, H, k⟩ o ∧ (∀ (k : Nat) (ek : Ent U), Nat.testBit m k = true → tbl[k]? = some ek → ek.k.bad = false) ∧ HOk H0 tbl ⟨o.dst, opReads o ++ guardSlot all o, m, H0.length + newSum tbl, H, k⟩ ∧ (∃ ρ, RhoOk fr0 tbl ⟨o.dst, opReads o ++ guardSlot all o, m, H0.length + newSum tbl, H, k⟩ ρ o ∧ OpOk E.P o ρ H (H0.length + newSum tbl) (.val r)) ∧ (∀ (j : Nat) (ej : Ent U), tbl[j]? = some ej → Nat.testBit m j = false → ∀ id ∈ k.mods, ∀ x, ej.H[id]? = some x → x = .none) ∧ (∀ id ∈ k.mods, ∃ x, H[id]? = some x ∧ x ≠ .none)
        | .panic x => GuardYes tbl ⟨o.dst, opReads o ++ guardSlot all o, m, H0.length + newSum tbl, H, k⟩ o ∧ (∀ (k : Nat) (ek : Ent U), Nat.testBit m k = true → tbl[k]? = some ek → ek.k.bad = false) ∧ HOk H0 tbl ⟨o.dst, opReads o ++ guardSlot all o, m, H0.length + newSum tbl, H, k⟩ ∧ (∃ ρ, RhoOk fr0 tbl ⟨o.dst, opReads o ++ guardSlot all o, m, H0.length + newSum tbl, H, k⟩ ρ o ∧ OpOk E.P o ρ H (H0.length + newSum tbl) (.panic x))) →
        EntOk E.P E.nt all fr0 H0 tbl o ⟨o.dst, opReads o ++ guardSlot all o, m, H0.length + newSum tbl, H, k⟩ := by
      intro H k hk
      exact ⟨rfl, hnt, hrd, hgd, hdep, hmlt, horg', hmclo, hap', rfl, hk⟩
    split at h
    · -- dead
      rename_i hbad
      obtain ⟨j, x, hj, hjm, hjb⟩ := anyBad_true hbad
      rw [Nat.zero_add] at hjm
      refine drawGo_ok hT os _ _ pan (by simpa using hd') (by simp; omega) (ht.snoc ho (mk [] .dead ⟨j, x, hjm, hj, hjb⟩)) (hv.snoc ⟨fun r hr => (by cases hr), fun hr => (by cases hr), fun _ => rfl⟩)
        (hp.snoc (fun hn => absurd hn (bad_panic hp (List.mem_of_getElem? hj) hjb)) (fun y hy => (by cases hy))) h
    · rename_i hbad
      have hnb : ∀ (k : Nat) (ek : Ent U), Nat.testBit m k = true → tbl[k]? = some ek → ek.k.bad = false := fun k ek hk hek => anyBad_false hbad hek (by simpa using hk)
      -- the two ways
      have skip : ∀ vs', VwsOk tbl vs' → GuardNo tbl ⟨o.dst, opReads o ++ guardSlot all o, m, H0.length + newSum tbl, [], .skip⟩ o →
          drawGo E all hs fr0 H0 os (tbl ++ [⟨o.dst, opReads o ++ guardSlot all o, m, H0.length + newSum tbl, [], .skip⟩]) (vs' ++ [.v undef]) pan K KP → DrawEnd E all fr0 H0 K KP := by
        intro vs' hv' hg h
        exact drawGo_ok hT os _ _ pan (by simpa using hd') (by simp; omega) (ht.snoc ho (mk [] .skip ⟨hg, hnb⟩)) (hv'.snoc ⟨fun r hr => (by cases hr), fun _ => rfl, fun hb => (by cases hb)⟩)
          (hp.snoc (fun _ => rfl) (fun y hy => (by cases hy))) h
      have go : ∀ vs', VwsOk tbl vs' → (∀ H k, GuardYes tbl ⟨o.dst, opReads o ++ guardSlot all o, m, H0.length + newSum tbl, H, k⟩ o) →
          (opA E.P E.T o (rhoR (opReads o) (foldV (Nat.testBit m) tbl vs' 0 fr0)) (match heapFree o.op with
            | true => []
            | false => killAll (modsOff m 0 tbl ++ hsFor o.op hs ++ hints all fr0 os) (foldH (Nat.testBit m) tbl 0 H0)) (H0.length + newSum tbl) fun
            | .val r => isB (allFrom (modsFree m (EK.done r).mods) 0 tbl && liveAll (match heapFree o.op with
                  | true => []
                  | false => killAll (modsOff m 0 tbl ++ hsFor o.op hs ++ hints all fr0 os) (foldH (Nat.testBit m) tbl 0 H0)) (EK.done r).mods)
                (drawGo E all hs fr0 H0 os (tbl ++ [⟨o.dst, opReads o ++ guardSlot all o, m, H0.length + newSum tbl, (match heapFree o.op with
                  | true => []
                  | false => killAll (modsOff m 0 tbl ++ hsFor o.op hs ++ hints all fr0 os) (foldH (Nat.testBit m) tbl 0 H0)), .done r⟩]) (vs' ++ [r.val]) pan K KP)
            | .panic x => match pan with
              | none => drawGo E all hs fr0 H0 os (tbl ++ [⟨o.dst, opReads o ++ guardSlot all o, m, H0.length + newSum tbl, (match heapFree o.op with
                  | true => []
                  | false => killAll (modsOff m 0 tbl ++ hsFor o.op hs ++ hints all fr0 os) (foldH (Nat.testBit m) tbl 0 H0)), .panic x⟩]) (vs' ++ [.junk]) (some x) K KP
              | some _ => False) → DrawEnd E all fr0 H0 K KP := by
        intro vs' hv' hg h
        generalize hHi : (match heapFree o.op with
            | true => ([] : Heap U)
            | false => killAll (modsOff m 0 tbl ++ hsFor o.op hs ++ hints all fr0 os) (foldH (Nat.testBit m) tbl 0 H0)) = Hi at h
        have hHok : ∀ k, HOk H0 tbl ⟨o.dst, opReads o ++ guardSlot all o, m, H0.length + newSum tbl, Hi, k⟩ := by
          intro kk id x hx hne
          simp only at hx
          rw [← hHi] at hx
          split at hx
          · simp at hx
          · obtain ⟨h1, h2⟩ := killAll_get hx hne
            refine ⟨h2, fun j ej hj hmj hid => h1 ?_⟩
            simp only [List.mem_append]
            exact .inl (.inl (modsOff_mem hj (by simpa using hmj) id hid))
        have hrho : ∀ k, RhoOk fr0 tbl ⟨o.dst, opReads o ++ guardSlot all o, m, H0.length + newSum tbl, Hi, k⟩ (rhoR (opReads o) (foldV (Nat.testBit m) tbl vs' 0 fr0)) o := fun k => rhoR_ok hv' (fun t ht => by simp [ht])
        obtain ⟨out, hK, hop⟩ := opA_ok hT h
        cases out with
        | val r =>
          obtain ⟨hmf0, hK⟩ := isB_ok hK
          simp only [Bool.and_eq_true] at hmf0
          obtain ⟨hmf, hlv⟩ := hmf0
          refine drawGo_ok hT os _ _ pan (by simpa using hd') (by simp; omega) (ht.snoc ho (mk Hi (.done r) ⟨hg _ _, hnb, hHok _, ⟨_, hrho _, hop⟩, ?_, ?_⟩)) (hv'.snoc ⟨fun r' hr => (by cases hr; exact fun _ _ h => h), fun hr => (by cases hr), fun hb => (by cases hb)⟩)
            (hp.snoc (fun _ => rfl) (fun y hy => (by cases hy))) hK
          · intro j ej hj hmj id hid x hx
            have := allFrom_get hmf hj
            simp only [modsFree, Nat.zero_add, hmj, Bool.false_or, List.all_eq_true] at this
            have hh := this id hid
            rw [nth_eq, hx] at hh
            cases x with
            | none => rfl
            | one b => simp at hh
            | fam n f => simp at hh
          · intro id hid
            have := List.all_eq_true.1 hlv id hid
            rw [nth_eq] at this
            cases hx : Hi[id]? with
            | none => rw [hx] at this; cases this
            | some x =>
              rw [hx] at this
              refine ⟨x, rfl, ?_⟩
              intro e; subst e; cases this
        | panic x =>
          cases pan with
          | some _ => exact hK.elim
          | none =>
            refine drawGo_ok hT os _ _ (some x) (by simpa using hd') (by simp; omega) (ht.snoc ho (mk Hi (.panic x) ⟨hg _ _, hnb, hHok _, ⟨_, hrho _, hop⟩⟩)) (hv'.snoc ⟨fun r' hr => (by cases hr), fun hr => (by cases hr), fun _ => rfl⟩) ?_ hK
            refine ⟨⟨_, List.mem_append_right tbl (List.mem_singleton.2 rfl), rfl⟩, fun e he y hy => ?_⟩
            simp only [List.mem_append, List.mem_singleton] at he
            rcases he with he | rfl
            · have := hp e he; rw [hy] at this; cases this
            · simp at hy; exact hy.symm
      change (match o.guard with
        | none => _
        | some (j, want) => _ : Prop) at h
      cases hg : o.guard with
      | none =>
        rw [hg] at h
        exact go vs hv (fun _ _ => .inl hg) h
      | some jw =>
        obtain ⟨j, want⟩ := jw
        rw [hg] at h
        obtain ⟨hmj0, h⟩ := isB_ok h
        simp only [Bool.and_eq_true] at hmj0
        obtain ⟨hmj, huq⟩ := hmj0
        cases hej : nth tbl j with
        | none => rw [hej] at h; exact h.elim
        | some ej =>
        cases hvj : nth vs j with
        | none => rw [hej, hvj] at h; exact h.elim
        | some vj =>
        rw [hej, hvj] at h
        rw [hej] at huq
        rw [nth_eq] at hej hvj
        have huniq : ∀ (k : Nat) (ek : Ent U), tbl[k]? = some ek → k ≠ j → ek.dst ≠ ej.dst := by
          intro k ek hk hkj e
          cases hdj : ej.dst with
          | none => simp only [hdj] at huq; cases huq
          | some d =>
            simp only [hdj] at huq
            have := allFrom_get huq hk
            simp only [uniqB, Nat.zero_add, Bool.or_eq_true] at this
            rcases this with h1 | h1
            · exact hkj (Nat.eq_of_beq_eq_true h1)
            · rw [e, hdj] at h1; simp at h1
        have hvw := hv.2 j ej vj hej hvj
        have yes : ∀ rj, ej.k = .done rj → ej.dst ≠ none → (∀ π y, Rep π rj.val y → y = .bool want) → ∀ H k, GuardYes tbl ⟨o.dst, opReads o ++ guardSlot all o, m, H0.length + newSum tbl, H, k⟩ o :=
          fun rj hk hdn hr H k => .inr ⟨j, want, ej, rj, hg, hmj, hej, hk, hdn, huniq, hr⟩
        have no : ∀ rj, ej.k = .done rj → ej.dst ≠ none → (∀ π y, Rep π rj.val y → y = .bool (!want)) → GuardNo tbl ⟨o.dst, opReads o ++ guardSlot all o, m, H0.length + newSum tbl, [], .skip⟩ o :=
          fun rj hk hdn hr => ⟨j, want, ej, hg, hmj, hej, hdn, huniq, .inr ⟨rj, hk, hr⟩⟩
        cases hdj : ej.dst with
        | none => simp only [hdj] at h
        | some d =>
        cases hk : ej.k with
        | panic x => simp only [hdj, hk] at h
        | dead => simp only [hdj, hk] at h
        | skip =>
          simp only [hdj, hk] at h
          exact skip vs hv ⟨j, want, ej, hg, hmj, hej, by rw [hdj]; simp, huniq, .inl hk⟩ h
        | done rj =>
          simp only [hdj, hk] at h
          have nb : ej.k.bad = false := by rw [hk]; rfl
          cases vj with
          | tt =>
            have hb : ∀ π y, Rep π rj.val y → y = .bool true := fun π y hy => by have := hvw.1 rj hk π y hy; simpa [Rep] using this
            cases want with
            | true => exact go vs hv (yes rj hk (by rw [hdj]; simp) hb) h
            | false => exact skip vs hv (no rj hk (by rw [hdj]; simp) hb) h
          | ff =>
            have hb : ∀ π y, Rep π rj.val y → y = .bool false := fun π y hy => by have := hvw.1 rj hk π y hy; simpa [Rep] using this
            cases want with
            | true => exact skip vs hv (no rj hk (by rw [hdj]; simp) hb) h
            | false => exact go vs hv (yes rj hk (by rw [hdj]; simp) hb) h
          | v z =>
            cases z with
            | bool b =>
              have hb : ∀ π y, Rep π rj.val y → y = .bool b := fun π y hy => by have := hvw.1 rj hk π y hy; simpa [Rep] using this
              have set : ∀ c : AV, (∀ π y, y = .bool b → Rep π c y) → VwsOk tbl (setNth (fun _ => c) vs j) := fun c hc =>
                hv.set hej (by
                  refine ⟨fun r hr π y hy => ?_, fun hr => ?_, fun hr => ?_⟩
                  · rw [hk] at hr; cases hr; exact hc π y (hb π y hy)
                  · rw [hk] at hr; cases hr
                  · rw [nb] at hr; cases hr)
              cases want with
              | true =>
                cases b with
                | true => exact go _ (set .tt (fun π y e => by simp [Rep, e])) (yes rj hk (by rw [hdj]; simp) hb) (h.1 rfl)
                | false => exact skip _ (set .ff (fun π y e => by simp [Rep, e])) (no rj hk (by rw [hdj]; simp) hb) (h.2 rfl)
              | false =>
                cases b with
                | true => exact skip _ (set .tt (fun π y e => by simp [Rep, e])) (no rj hk (by rw [hdj]; simp) hb) (h.1 rfl)
                | false => exact go _ (set .ff (fun π y e => by simp [Rep, e])) (yes rj hk (by rw [hdj]; simp) hb) (h.2 rfl)
            | _ => exact h.elim
          | _ => exact h.elim
end AE
