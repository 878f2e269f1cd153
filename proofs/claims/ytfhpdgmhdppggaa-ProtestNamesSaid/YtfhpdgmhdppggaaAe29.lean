/- An own symbolic executor: a function's contract at its callers. No condition. -/
import Derived.Test.YtfhpdgmhdppggaaAe28
namespace AE
open Go

variable {U : Uni}

mutual
def rnV (τ : Nat → Nat) : AV → AV
  | .ptr id k i fo => .ptr (τ id) k i fo
  | .sl id k off len => .sl (τ id) k off len
  | .gs id k => .gs (τ id) k
  | .map id k => .map (τ id) k
  | .fn f xs ys => .fn f (rnL τ xs) (rnL τ ys)
  | .ifc t x => .ifc t (rnV τ x)
  | .agg xs => .agg (rnL τ xs)
  | .tup xs => .tup (rnL τ xs)
  | .alt c a b => .alt c (rnV τ a) (rnV τ b)
  | .junk => .junk
  | .tt => .tt
  | .ff => .ff
  | .v x => .v x
def rnL (τ : Nat → Nat) : List AV → List AV
  | [] => []
  | x :: xs => rnV τ x :: rnL τ xs
end
mutual
theorem rnV_ok {τ : Nat → Nat} {π π' : Plc} (hτ : ∀ id k p, π id k = some p → π' (τ id) k = some p) : ∀ {a : AV} {y : Value}, Rep π a y → Rep π' (rnV τ a) y
  | .junk, _, _ => by simp [rnV, Rep]
  | .tt, y, e => by simpa [rnV, Rep] using e
  | .ff, y, e => by simpa [rnV, Rep] using e
  | .v x, y, e => by simpa [rnV, Rep] using e
  | .ptr id k i fo, y, e => by
    simp only [rnV, Rep] at e ⊢; obtain ⟨p, hp, e⟩ := e; exact ⟨p, hτ _ _ _ hp, e⟩
  | .sl id k off len, y, e => by
    simp only [rnV, Rep] at e ⊢; obtain ⟨a, c, e, hlc, hh⟩ := e
    exact ⟨a, c, e, hlc, fun hl => let ⟨p, hp, ha⟩ := hh hl; ⟨p, hτ _ _ _ hp, ha⟩⟩
  | .gs id k, y, e => by
    simp only [rnV, Rep] at e ⊢; obtain ⟨p, hp, e⟩ := e; exact ⟨p, hτ _ _ _ hp, e⟩
  | .map id k, y, e => by
    simp only [rnV, Rep] at e ⊢; obtain ⟨p, hp, e⟩ := e; exact ⟨p, hτ _ _ _ hp, e⟩
  | .fn f xs ys, y, e => by
    simp only [rnV, Rep] at e ⊢; obtain ⟨a, b, e, h1, h2⟩ := e
    exact ⟨a, b, e, rnL_ok hτ h1, rnL_ok hτ h2⟩
  | .ifc t x, y, e => by
    simp only [rnV, Rep] at e ⊢; obtain ⟨z, e, h1⟩ := e; exact ⟨z, e, rnV_ok hτ h1⟩
  | .agg xs, y, e => by
    simp only [rnV, Rep] at e ⊢; obtain ⟨a, e, h1⟩ := e; exact ⟨a, e, rnL_ok hτ h1⟩
  | .tup xs, y, e => by
    simp only [rnV, Rep] at e ⊢; obtain ⟨a, e, h1⟩ := e; exact ⟨a, e, rnL_ok hτ h1⟩
  | .alt c a b, y, e => by
    simp only [rnV, Rep] at e ⊢; exact ⟨fun hc => rnV_ok hτ (e.1 hc), fun hc => rnV_ok hτ (e.2 hc)⟩
theorem rnL_ok {τ : Nat → Nat} {π π' : Plc} (hτ : ∀ id k p, π id k = some p → π' (τ id) k = some p) : ∀ {xs : List AV} {ys : List Value}, RepL π xs ys → RepL π' (rnL τ xs) ys
  | [], ys, e => by simpa [rnL, RepL] using e
  | x :: xs, ys, e => by
    simp only [rnL, RepL] at e ⊢; obtain ⟨z, zs, e, h1, h2⟩ := e
    exact ⟨z, zs, e, rnV_ok hτ h1, rnL_ok hτ h2⟩
end

theorem rnL_length {τ : Nat → Nat} : ∀ (xs : List AV), (rnL τ xs).length = xs.length
  | [] => rfl
  | x :: xs => by simp [rnL, rnL_length xs]
theorem rnL_getD {τ : Nat → Nat} : ∀ {xs : List AV} {k : Nat}, k < xs.length → (rnL τ xs).getD k .junk = rnV τ (xs.getD k .junk)
  | [], _, h => by simp at h
  | x :: xs, 0, _ => by simp [rnL]
  | x :: xs, k + 1, h => by simpa [rnL] using rnL_getD (xs := xs) (k := k) (by simpa using h)

def rnB (τ : Nat → Nat) : AB1 U → AB1 U
  | .cells vs t => .cells (rnL τ vs) t
  | .rc vs t => .rc (rnL τ vs) t
  | .row c l t => .row c l t
  | .ro c l => .ro c l
  | .map m l => .map m l
  | .mrow o vs => .mrow o (rnL τ vs)
def rnBok : AB1 U → Bool
  | .cells .. => true
  | .rc .. => true
  | .row c _ _ => U.pl c
  | .ro c _ => U.pl c
  | .map m _ => U.mpl m
  | .mrow _ _ => true
theorem rnB_ok {τ : Nat → Nat} {π π' : Plc} (hτ : ∀ id k p, π id k = some p → π' (τ id) k = some p) {b : AB1 U} (hf : rnBok b = true) {w : World} {p : Place} (h : BlkOk π w p b) : BlkOk π' w p (rnB τ b) := by
  cases b with
  | cells vs t => obtain ⟨h0, cs, h1, h2⟩ := h; exact ⟨h0, cs, h1, rnL_ok hτ h2⟩
  | rc vs t => obtain ⟨h0, cs, h1, h2⟩ := h; exact ⟨h0, cs, h1, rnL_ok hτ h2⟩
  | row c l t => exact fixB_ok (b := .row c l t) hf h
  | ro c l => exact fixB_ok (b := .ro c l) hf h
  | map m l => exact fixB_ok (b := .map m l) hf h
  | mrow o vs =>
    obtain ⟨es, ck, ks, h1, h2, h3, h4, h5, h6⟩ := h
    have hg : ∀ k, k < vs.length → (rnL τ vs).getD k .junk = rnV τ (vs.getD k .junk) := fun k hk => rnL_getD hk
    refine ⟨es, ck, ks, h1, h2, fun k hk => by rw [rnL_length]; exact h3 k hk, h4, ?_, fun k hk hn => ?_⟩
    · refine RepL.of_get (by have := h5.length; simpa using this) fun j x hx => ?_
      rw [List.getElem?_map] at hx
      cases hj : ks[j]? with
      | none => rw [hj] at hx; cases hx
      | some k =>
        rw [hj] at hx; simp only [Option.map_some, Option.some.injEq] at hx; subst hx
        obtain ⟨y, hy, hr⟩ := h5.get (j := j) (x := vs.getD k .junk) (by rw [List.getElem?_map, hj]; rfl)
        rw [hg k (h3 k (List.mem_of_getElem? hj))]
        exact ⟨y, hy, rnV_ok hτ hr⟩
    · rw [rnL_length] at hk
      rw [hg k hk]; exact rnV_ok hτ (h6 k hk hn)
theorem rnB_own {τ : Nat → Nat} {b : AB1 U} : (rnB τ b).own = b.own := by cases b <;> rfl
theorem rnB_phys {τ : Nat → Nat} {b : AB1 U} {p : Place} : (rnB τ b).phys p ↔ b.phys p := by cases b <;> exact Iff.rfl

def rnR (τ : Nat → Nat) (r : ORes U) : ORes U := ⟨rnV τ r.val, r.upd.map fun (id, k, b) => (τ id, k, rnB τ b), r.kill.map fun (id, k) => (τ id, k), r.new.map (rnB τ)⟩

def tauN (σ : Nat → Nat) (N base i : Nat) : Nat :=
  match Nat.blt i N with
  | true => σ i
  | false => match Nat.ble noId i with
    | true => i
    | false => base + (i - N)

def callA (args AL : List AV) (H HL : Heap U) (base : Nat) (R : OOut U) (K : OOut U → Prop) : Prop :=
  let l0 := mtL 0 args AL []
  let l := mtH 0 H HL 40 l0 l0
  let σ := lookN l
  let N := HL.length
  isB (nodupB (liveL σ 0 HL)) (leL H σ N args AL ∧ leHs σ N H 0 HL ∧ match R with
    | .val r => isB ((r.new.all rnBok && r.upd.all fun (_, _, b) => rnBok b) && Nat.blt (N + r.new.length) noId) (K (.val (rnR (tauN σ N base) r)))
    | .panic x => isB x.fixed (K (.panic x)))

theorem lift_ok {P : Program} {f : FuncId} {AL args : List AV} {HL H : Heap U} {base : Nat} {R : OOut U} {K : OOut U → Prop} (hF : FunOk P f AL HL R) (h : callA args AL H HL base R K) : ∃ r, K r ∧ CallOk P f args H base r := by
  unfold callA at h
  simp only at h
  generalize lookN (mtH 0 H HL 40 _ _) = σ at h
  obtain ⟨hn, hA, hH, h⟩ := isB_ok h
  have fresh : ∀ π : Plc, Fresh (π.ren σ HL.length) HL.length := fun π id k hi => by unfold Plc.ren; rw [if_neg (by omega)]
  cases R with
  | panic x =>
    obtain ⟨hfx, h⟩ := isB_ok h
    refine ⟨_, h, fun π w vs hc hv => (hF _ w vs (fresh π) (hc.ren hH hn) (leL_ok hc hA hv)).mono ?_⟩
    rintro e w' ⟨y, rfl, hr, hk⟩
    exact ⟨y, rfl, hr.fixed hfx, hk⟩
  | val r =>
    obtain ⟨hfx, h⟩ := isB_ok h
    rw [Bool.and_eq_true, Bool.and_eq_true, List.all_eq_true, List.all_eq_true] at hfx
    obtain ⟨⟨hfn, hfu⟩, hsm⟩ := hfx
    have hsm' : HL.length + r.new.length < noId := by simpa using hsm
    refine ⟨_, h, fun π w vs hc hv hfresh => (hF _ w vs (fresh π) (hc.ren hH hn) (leL_ok hc hA hv)).mono ?_⟩
    rintro e w' ⟨v, πn, rfl, hp⟩
    have hlen : (rnR (tauN σ HL.length base) r).new.length = r.new.length := by simp [rnR]
    rw [hlen] at hfresh
    generalize hN : HL.length = N at *
    let π' : Plc := fun id k => if base ≤ id ∧ id < base + r.new.length then πn (N + (id - base)) k else π id k
    have hin : ∀ j k, j < r.new.length → π' (base + j) k = πn (N + j) k := fun j k hj => by
      show (if _ then _ else _) = _
      rw [if_pos (by omega), Nat.add_sub_cancel_left]
    have hout : ∀ id k, (id < base ∨ base + r.new.length ≤ id) → π' id k = π id k := fun id k hj => by
      show (if _ then _ else _) = _
      rw [if_neg (by omega)]
    have hold : ∀ id k p, π id k = some p → π' id k = some p := fun id k p hpp => by
      rw [hout id k ?_]; exact hpp
      apply Classical.byContradiction
      intro hh
      have := hfresh (id - base) k (by omega)
      rw [show base + (id - base) = id by omega, hpp] at this; cases this
    have hren : ∀ id k p, (π.ren σ N) id k = some p → id < N ∧ π (σ id) k = some p := fun id k p hpp => by
      unfold Plc.ren at hpp
      split at hpp
      · rename_i hlt; exact ⟨hlt, hpp⟩
      · cases hpp
    have hlow : ∀ id, id < N → tauN σ N base id = σ id := fun id hi => by
      unfold tauN
      have : Nat.blt id N = true := by simpa using hi
      rw [this]
    have hhigh : ∀ j, N + j < noId → tauN σ N base (N + j) = base + j := fun j hjn => by
      unfold tauN
      have : Nat.blt (N + j) N = false := by
        cases hb : Nat.blt (N + j) N with
        | false => rfl
        | true => rw [Nat.blt_eq] at hb; omega
      have h2 : Nat.ble noId (N + j) = false := by
        cases hb : Nat.ble noId (N + j) with
        | false => rfl
        | true => have := Nat.le_of_ble_eq_true hb; omega
      rw [this]; simp [h2]
    have hτ : ∀ id k p, πn id k = some p → π' (tauN σ N base id) k = some p := by
      intro id k p hpp
      rcases Nat.lt_or_ge id N with hi | hi
      · rw [hp.only id k (.inl hi)] at hpp
        rw [hlow id hi]; exact hold _ _ _ (hren id k p hpp).2
      · rcases Nat.lt_or_ge id (N + r.new.length) with h2 | h2
        · have := hhigh (id - N) (by omega)
          rw [show N + (id - N) = id by omega] at this
          rw [this, hin _ _ (by omega), show N + (id - N) = id by omega]; exact hpp
        · rw [hp.only id k (.inr h2), fresh π id k (by omega)] at hpp; cases hpp
    -- an argument's block, there
    have arg : ∀ id k b0, HL.at id k = some b0 → id < N ∧ ∃ b1, H.at (σ id) k = some b1 ∧ (b0.own = true → b1.own = true) ∧ ∀ p, π (σ id) k = some p → (b0.phys p → b1.phys p) := by
      intro id k b0 hb0
      have hlt := (at_lt hb0).1
      rw [hN] at hlt
      obtain ⟨b1, hb1, hh⟩ := leBk_at hH hb0
      obtain ⟨p, hp1, hok⟩ := hc.ok _ _ _ hb1
      refine ⟨hlt, b1, hb1, (hh π w p hc hok).2.1, fun p' hp' => ?_⟩
      rw [hp1] at hp'; cases hp'
      exact (hh π w p hc hok).2.2
    refine ⟨v, π', rfl, rnV_ok hτ hp.rep, hold, fun id k hi => hout id k (by rw [hlen] at hi; exact hi), fun j b hb => ?_, fun i j b b' p p' hb hb' hne hpp hpp' h1 h2 => ?_, fun id k b hb => ?_, fun id k hb => ?_, ?_⟩
    · simp only [rnR, List.getElem?_map, Option.map_eq_some_iff] at hb
      obtain ⟨b0, hb0, rfl⟩ := hb
      have hj : j < r.new.length := (List.getElem?_eq_some_iff.1 hb0).1
      obtain ⟨ho, p, hpp, hok, hph⟩ := hp.new j b0 hb0
      refine ⟨by rw [rnB_own]; exact ho, p, by rw [hin j 0 hj]; exact hpp, rnB_ok hτ (hfn b0 (List.mem_of_getElem? hb0)) hok, fun h => ?_⟩
      rcases hph (rnB_phys.1 h) with h | ⟨id, k, b2, q, hm, hb2, ho2, hq, hqp, e⟩
      · exact .inl h
      · obtain ⟨hlt, b1, hb1, hown, hphys⟩ := arg id k b2 hb2
        have hq' := (hren _ _ _ hq).2
        exact .inr ⟨σ id, k, b1, q, List.mem_map.2 ⟨(id, k), hm, by simp only [hlow id hlt]⟩, hb1, hown ho2, hq', hphys q hq' hqp, e⟩
    · simp only [rnR, List.getElem?_map, Option.map_eq_some_iff] at hb hb'
      obtain ⟨b0, hb0, rfl⟩ := hb
      obtain ⟨b0', hb0', rfl⟩ := hb'
      rw [hin i 0 (List.getElem?_eq_some_iff.1 hb0).1] at hpp
      rw [hin j 0 (List.getElem?_eq_some_iff.1 hb0').1] at hpp'
      exact hp.newsep i j b0 b0' p p' hb0 hb0' hne hpp hpp' (rnB_phys.1 h1) (rnB_phys.1 h2)
    · obtain ⟨⟨id0, k0, b0⟩, hm, e⟩ := List.mem_map.1 hb
      simp only [Prod.mk.injEq] at e
      obtain ⟨rfl, rfl, rfl⟩ := e
      obtain ⟨b2, p, hb2, ho2, ho, hpp, hok, hph⟩ := hp.upd _ _ _ hm
      obtain ⟨hlt, b1, hb1, hown, hphys⟩ := arg id0 k0 b2 hb2
      have hq' := (hren _ _ _ hpp).2
      rw [hlow id0 hlt]
      exact ⟨b1, p, hb1, hown ho2, by rw [rnB_own]; exact ho, hq', rnB_ok hτ (hfu _ hm) hok, fun h => hphys p hq' (hph (rnB_phys.1 h))⟩
    · obtain ⟨⟨id0, k0⟩, hm, e⟩ := List.mem_map.1 hb
      simp only [Prod.mk.injEq] at e
      obtain ⟨rfl, rfl⟩ := e
      obtain ⟨b2, hb2, ho2⟩ := hp.kill _ _ hm
      obtain ⟨hlt, b1, hb1, hown, _⟩ := arg id0 k0 b2 hb2
      rw [hlow id0 hlt]
      exact ⟨b1, hb1, hown ho2⟩
    · refine hp.keeps.weaken fun n _ ⟨id, k, p, b0, hm, hb0, hph, hpp, e⟩ => ?_
      obtain ⟨hlt, b1, hb1, _, hphys⟩ := arg id k b0 hb0
      have hq' := (hren _ _ _ hpp).2
      refine ⟨σ id, k, p, b1, ?_, hb1, hphys p hq' hph, hq', e⟩
      rcases hm with ⟨b, hm⟩ | hm
      · exact .inl ⟨rnB (tauN σ N base) b, List.mem_map.2 ⟨_, hm, by simp only [hlow id hlt]⟩⟩
      · exact .inr (List.mem_map.2 ⟨_, hm, by simp only [hlow id hlt]⟩)

/-! ### slices that are nil, for slices without elements -/
mutual
def dgV (gh : List Nat) : AV → AV
  | .sl id k off len => match memN id gh with
    | true => match len with
      | 0 => .sl noId 0 0 0
      | _ + 1 => .junk
    | false => .sl id k off len
  | .gs id k => match memN id gh with
    | true => .junk
    | false => .gs id k
  | .ptr id k i fo => match memN id gh with
    | true => .junk
    | false => .ptr id k i fo
  | .map id k => match memN id gh with
    | true => .junk
    | false => .map id k
  | .fn f xs ys => .fn f (dgL gh xs) (dgL gh ys)
  | .ifc t x => .ifc t (dgV gh x)
  | .agg xs => .agg (dgL gh xs)
  | .tup xs => .tup (dgL gh xs)
  | .alt c a b => .alt c (dgV gh a) (dgV gh b)
  | .junk => .junk
  | .tt => .tt
  | .ff => .ff
  | .v x => .v x
def dgL (gh : List Nat) : List AV → List AV
  | [] => []
  | x :: xs => dgV gh x :: dgL gh xs
end
mutual
theorem dg_rep {gh : List Nat} {π π2 : Plc} (h : ∀ id k, id ∉ gh → π2 id k = π id k) : ∀ {a : AV} {y : Value}, Rep π a y → Rep π2 (dgV gh a) y
  | .junk, _, _ => by simp [Rep, dgV]
  | .tt, y, e => by simpa [Rep, dgV] using e
  | .ff, y, e => by simpa [Rep, dgV] using e
  | .v x, y, e => by simpa [Rep, dgV] using e
  | .gs id k, y, e => by
    simp only [dgV]
    split
    · simp [Rep]
    · rename_i hm; simp only [Rep] at e ⊢; rw [h id k (memN_false hm)]; exact e
  | .sl id k off len, y, e => by
    simp only [dgV]
    split
    · split
      · simp only [Rep] at e ⊢
        obtain ⟨a, c, e, hl, _⟩ := e
        exact ⟨a, c, e, hl, fun hh => absurd hh (Nat.lt_irrefl _)⟩
      · simp [Rep]
    · rename_i hm; simp only [Rep] at e ⊢; rw [h id k (memN_false hm)]; exact e
  | .ptr id k i fo, y, e => by
    simp only [dgV]
    split
    · simp [Rep]
    · rename_i hm; simp only [Rep] at e ⊢; rw [h id k (memN_false hm)]; exact e
  | .map id k, y, e => by
    simp only [dgV]
    split
    · simp [Rep]
    · rename_i hm; simp only [Rep] at e ⊢; rw [h id k (memN_false hm)]; exact e
  | .fn f xs ys, y, e => by
    simp only [dgV, Rep] at e ⊢; obtain ⟨a, b, e, h1, h2⟩ := e
    exact ⟨a, b, e, dg_repL h h1, dg_repL h h2⟩
  | .ifc t x, y, e => by
    simp only [dgV, Rep] at e ⊢; obtain ⟨z, e, h1⟩ := e; exact ⟨z, e, dg_rep h h1⟩
  | .agg xs, y, e => by
    simp only [dgV, Rep] at e ⊢; obtain ⟨a, e, h1⟩ := e; exact ⟨a, e, dg_repL h h1⟩
  | .tup xs, y, e => by
    simp only [dgV, Rep] at e ⊢; obtain ⟨a, e, h1⟩ := e; exact ⟨a, e, dg_repL h h1⟩
  | .alt c a b, y, e => by
    simp only [dgV, Rep] at e ⊢; exact ⟨fun hc => dg_rep h (e.1 hc), fun hc => dg_rep h (e.2 hc)⟩
theorem dg_repL {gh : List Nat} {π π2 : Plc} (h : ∀ id k, id ∉ gh → π2 id k = π id k) : ∀ {xs : List AV} {ys : List Value}, RepL π xs ys → RepL π2 (dgL gh xs) ys
  | [], ys, e => by simpa [RepL, dgL] using e
  | x :: xs, ys, e => by
    simp only [dgL, RepL] at e ⊢; obtain ⟨z, zs, e, h1, h2⟩ := e
    exact ⟨z, zs, e, dg_rep h h1, dg_repL h h2⟩
end
theorem dgL_length (gh : List Nat) : ∀ (xs : List AV), (dgL gh xs).length = xs.length
  | [] => rfl
  | x :: xs => by simp [dgL, dgL_length gh xs]
theorem dgL_getD {gh : List Nat} : ∀ {xs : List AV} {k : Nat}, k < xs.length → (dgL gh xs).getD k .junk = dgV gh (xs.getD k .junk)
  | [], _, h => by simp at h
  | x :: xs, 0, _ => by simp [dgL]
  | x :: xs, k + 1, h => by simpa [dgL] using dgL_getD (xs := xs) (k := k) (by simpa using h)
def dgB (gh : List Nat) : AB1 U → AB1 U
  | .cells vs t => .cells (dgL gh vs) t
  | .rc vs t => .rc (dgL gh vs) t
  | .mrow o vs => .mrow o (dgL gh vs)
  | .row c l t => .row c l t
  | .ro c l => .ro c l
  | .map m l => .map m l
theorem dgB_own {gh : List Nat} {b : AB1 U} : (dgB gh b).own = b.own := by cases b <;> rfl
theorem dgB_phys {gh : List Nat} {b : AB1 U} {p : Place} : (dgB gh b).phys p ↔ b.phys p := by cases b <;> exact Iff.rfl
theorem dgB_ok {gh : List Nat} {π π2 : Plc} (h : ∀ id k, id ∉ gh → π2 id k = π id k) {b : AB1 U} (hf : rnBok b = true) {w : World} {p : Place} (hb : BlkOk π w p b) : BlkOk π2 w p (dgB gh b) := by
  cases b with
  | cells vs t => obtain ⟨h0, cs, h1, h2⟩ := hb; exact ⟨h0, cs, h1, dg_repL h h2⟩
  | rc vs t => obtain ⟨h0, cs, h1, h2⟩ := hb; exact ⟨h0, cs, h1, dg_repL h h2⟩
  | row c l t => exact fixB_ok (b := .row c l t) hf hb
  | ro c l => exact fixB_ok (b := .ro c l) hf hb
  | map m l => exact fixB_ok (b := .map m l) hf hb
  | mrow o vs =>
    obtain ⟨es, ck, ks, h1, h2, h3, h4, h5, h6⟩ := hb
    refine ⟨es, ck, ks, h1, h2, fun k hk => by rw [dgL_length]; exact h3 k hk, h4, ?_, fun k hk hn => ?_⟩
    · refine RepL.of_get (by have := h5.length; simpa using this) fun j x hx => ?_
      rw [List.getElem?_map] at hx
      cases hj : ks[j]? with
      | none => rw [hj] at hx; cases hx
      | some k =>
        rw [hj] at hx; simp only [Option.map_some, Option.some.injEq] at hx; subst hx
        obtain ⟨y, hy, hr⟩ := h5.get (j := j) (x := vs.getD k .junk) (by rw [List.getElem?_map, hj]; rfl)
        rw [dgL_getD (h3 k (List.mem_of_getElem? hj))]
        exact ⟨y, hy, dg_rep h hr⟩
    · rw [dgL_length] at hk
      rw [dgL_getD hk]; exact dg_rep h (h6 k hk hn)
def dgR (gh : List Nat) (r : ORes U) : ORes U := ⟨dgV gh r.val, r.upd.map fun (id, k, b) => (id, k, dgB gh b), r.kill, r.new.map (dgB gh)⟩
def roAll (HL : Heap U) : List Nat → Bool
  | [] => true
  | id :: l => (match nth HL id with
    | some (.one (.ro ..)) => true
    | _ => false) && roAll HL l
theorem roAll_ok {HL : Heap U} : ∀ {l : List Nat}, roAll HL l = true → ∀ id ∈ l, ∀ k b, HL.at id k = some b → b.own = false
  | [], _, id, h, _, _, _ => by cases h
  | x :: l, h, id, hm, k, b, hb => by
    simp only [roAll, Bool.and_eq_true] at h
    rcases List.mem_cons.1 hm with rfl | hm
    · have h1 := h.1
      split at h1
      · rename_i c l' hid
        rw [nth_eq] at hid
        unfold Heap.at at hb; rw [hid] at hb
        simp only at hb
        split at hb
        · cases hb; rfl
        · cases hb
      · cases h1
    · exact roAll_ok h.2 id hm k b hb

theorem FunOk.nil {P : Program} {f : FuncId} {AL : List AV} {HL : Heap U} {r : ORes U} {gh : List Nat} (hA : nlOkL gh AL) (hH : nlOkH gh 0 HL) (hro : roAll HL gh = true) (hge : geL 0 HL.length gh = true) (hb : (r.new.all rnBok && r.upd.all fun (_, _, b) => rnBok b) = true)
    (h : FunOk P f AL HL (.val r)) : FunOk P f (nlL gh AL) (nlH gh 0 HL) (.val (dgR gh r)) := by
  intro π w vs hf hc hv
  rw [nlH_length] at hf
  rw [Bool.and_eq_true, List.all_eq_true, List.all_eq_true] at hb
  obtain ⟨hbn, hbu⟩ := hb
  have hN := Plc.nilAt π gh HL
  have hlow : ∀ id, id ∈ gh → id < HL.length := fun id hm => (geL_ok hge id hm).2
  have hf2 : Fresh (π.nil gh HL) HL.length := fun id k hi => by
    rw [hN.out id k (fun hm => by have := hlow id hm; omega)]; exact hf id k hi
  refine (h (π.nil gh HL) w vs hf2 (hc.nil hH) (nl_repL hN hA hv)).mono ?_
  rintro e w' ⟨v, πn, rfl, hp⟩
  let π' : Plc := fun id k => if id ∈ gh then π id k else πn id k
  have hin : ∀ id k, id ∈ gh → π' id k = π id k := fun id k hm => by show (if _ then _ else _) = _; rw [if_pos hm]
  have hout : ∀ id k, id ∉ gh → π' id k = πn id k := fun id k hm => by show (if _ then _ else _) = _; rw [if_neg hm]
  have hlen : (dgR gh r).new.length = r.new.length := by simp [dgR]
  have hnew : ∀ j, HL.length + j ∉ gh := fun j hm => by have := hlow _ hm; omega
  have hroo := roAll_ok hro
  have arg : ∀ id k b0, HL.at id k = some b0 → b0.own = true → id ∉ gh ∧ ∃ b1, (nlH gh 0 HL).at id k = some b1 ∧ b1.own = true ∧ (∀ p, b1.phys p ↔ b0.phys p) ∧ ∀ p, (π.nil gh HL) id k = some p → π id k = some p := by
    intro id k b0 hb0 ho
    have hni : id ∉ gh := fun hm => by rw [hroo id hm k b0 hb0] at ho; cases ho
    obtain ⟨b1, hb1, hown, hph, _⟩ := nlA_at hH hb0 hni
    exact ⟨hni, b1, hb1, by rw [hown]; exact ho, hph, fun p hpp => by rw [hN.out id k hni] at hpp; exact hpp⟩
  refine ⟨v, π', rfl, dg_rep hout hp.rep, fun id k p hpp => ?_, fun id k hi => ?_, fun j b hb => ?_, fun i j b b' p p' hb hb' hne hpp hpp' h1 h2 => ?_, fun id k b hb => ?_, fun id k hb => ?_, ?_⟩
  · by_cases hm : id ∈ gh
    · rw [hin id k hm]; exact hpp
    · rw [hout id k hm]; exact hp.sub _ _ _ (by rw [hN.out id k hm]; exact hpp)
  · rw [nlH_length, hlen] at hi
    by_cases hm : id ∈ gh
    · exact hin id k hm
    · rw [hout id k hm, hp.only id k hi, hN.out id k hm]
  · simp only [dgR, List.getElem?_map, Option.map_eq_some_iff] at hb
    obtain ⟨b0, hb0, rfl⟩ := hb
    obtain ⟨ho, p, hpp, hok, hph⟩ := hp.new j b0 hb0
    rw [nlH_length]
    refine ⟨by rw [dgB_own]; exact ho, p, by rw [hout _ _ (hnew j)]; exact hpp, dgB_ok hout (hbn b0 (List.mem_of_getElem? hb0)) hok, fun h => ?_⟩
    rcases hph (dgB_phys.1 h) with h | ⟨id, k, b2, q, hm, hb2, ho2, hq, hqp, e⟩
    · exact .inl h
    · obtain ⟨_, b1, hb1, hown, hphys, hpl⟩ := arg id k b2 hb2 ho2
      exact .inr ⟨id, k, b1, q, hm, hb1, hown, hpl q hq, (hphys q).2 hqp, e⟩
  · simp only [dgR, List.getElem?_map, Option.map_eq_some_iff] at hb hb'
    obtain ⟨b0, hb0, rfl⟩ := hb
    obtain ⟨b0', hb0', rfl⟩ := hb'
    rw [nlH_length] at hpp hpp'
    rw [hout _ _ (hnew i)] at hpp
    rw [hout _ _ (hnew j)] at hpp'
    exact hp.newsep i j b0 b0' p p' hb0 hb0' hne hpp hpp' (dgB_phys.1 h1) (dgB_phys.1 h2)
  · obtain ⟨⟨id0, k0, b0⟩, hm, e⟩ := List.mem_map.1 hb
    simp only [Prod.mk.injEq] at e
    obtain ⟨rfl, rfl, rfl⟩ := e
    obtain ⟨b2, p, hb2, ho2, ho, hpp, hok, hph⟩ := hp.upd _ _ _ hm
    obtain ⟨_, b1, hb1, hown, hphys, hpl⟩ := arg id0 k0 b2 hb2 ho2
    exact ⟨b1, p, hb1, hown, by rw [dgB_own]; exact ho, hpl p hpp, dgB_ok hout (hbu _ hm) hok, fun h => (hphys p).2 (hph (dgB_phys.1 h))⟩
  · obtain ⟨b2, hb2, ho2⟩ := hp.kill id k hb
    obtain ⟨_, b1, hb1, hown, _, _⟩ := arg id k b2 hb2 ho2
    exact ⟨b1, hb1, hown⟩
  · refine hp.keeps.weaken fun n _ ⟨id, k, p, b0, hm, hb0, hph, hpp, e⟩ => ?_
    have ho : b0.own = true := by
      rcases hm with ⟨b, hm⟩ | hm
      · obtain ⟨b2, _, hb2, ho2, _⟩ := hp.upd _ _ _ hm
        rw [hb0] at hb2; cases hb2; exact ho2
      · obtain ⟨b2, hb2, ho2⟩ := hp.kill _ _ hm
        rw [hb0] at hb2; cases hb2; exact ho2
    obtain ⟨_, b1, hb1, _, hphys, hpl⟩ := arg id k b0 hb0 ho
    refine ⟨id, k, p, b1, ?_, hb1, (hphys p).2 hph, hpl p hpp, e⟩
    rcases hm with ⟨b, hm⟩ | hm
    · exact .inl ⟨dgB gh b, List.mem_map.2 ⟨_, hm, rfl⟩⟩
    · exact .inr hm

def callN (args AL : List AV) (H HL : Heap U) (base : Nat) (R : OOut U) (K : OOut U → Prop) : Prop :=
  let l0 := mtL 0 args AL []
  let l := mtH 0 H HL 40 l0 l0
  match ghP 0 H HL l (ghL 0 args AL []) with
  | [] => callA args AL H HL base R K
  | gh => match R with
    | .val r => isB (roAll HL gh && geL 0 HL.length gh && (r.new.all rnBok && r.upd.all fun (_, _, b) => rnBok b)) (nlOkL gh AL ∧ nlOkH gh 0 HL ∧ callA args (nlL gh AL) H (nlH gh 0 HL) base (.val (dgR gh r)) K)
    | .panic x => isB x.fixed (nlOkL gh AL ∧ nlOkH gh 0 HL ∧ geL 0 HL.length gh = true ∧ callA args (nlL gh AL) H (nlH gh 0 HL) base (.panic x) K)

theorem FunOk.nilP {P : Program} {f : FuncId} {AL : List AV} {HL : Heap U} {x : AV} {gh : List Nat} (hA : nlOkL gh AL) (hH : nlOkH gh 0 HL) (hge : geL 0 HL.length gh = true) (hx : x.fixed = true)
    (h : FunOk P f AL HL (.panic x)) : FunOk P f (nlL gh AL) (nlH gh 0 HL) (.panic x) := by
  intro π w vs hf hc hv
  rw [nlH_length] at hf
  have hN := Plc.nilAt π gh HL
  have hf2 : Fresh (π.nil gh HL) HL.length := fun id k hi => by
    rw [hN.out id k (fun hm => by have := geL_ok hge id hm; omega)]; exact hf id k hi
  refine (h (π.nil gh HL) w vs hf2 (hc.nil hH) (nl_repL hN hA hv)).mono ?_
  rintro e w' ⟨y, rfl, hr, hk⟩
  exact ⟨y, rfl, hr.fixed hx, hk⟩

theorem liftN_ok {P : Program} {f : FuncId} {AL args : List AV} {HL H : Heap U} {base : Nat} {R : OOut U} {K : OOut U → Prop} (hF : FunOk P f AL HL R) (h : callN args AL H HL base R K) : ∃ r, K r ∧ CallOk P f args H base r := by
  unfold callN at h
  simp only at h
  split at h
  · exact lift_ok hF h
  · generalize ghP 0 H HL _ _ = gh at h
    cases R with
    | val r =>
      obtain ⟨hb, hA, hH, h⟩ := isB_ok h
      rw [Bool.and_eq_true, Bool.and_eq_true] at hb
      exact lift_ok (FunOk.nil hA hH hb.1.1 hb.1.2 hb.2 hF) h
    | panic x =>
      obtain ⟨hb, hA, hH, hge, h⟩ := isB_ok h
      exact lift_ok (FunOk.nilP hA hH hge hb hF) h

/-! ### a function's contract as data -/
structure FSpec (U : Uni) where
  X : Type
  pick : List AV → Heap U → Option X
  args : X → List AV
  H : X → Heap U
  R : X → OOut U
  pre : X → Prop := fun _ => True

def FSpec.con (s : FSpec U) : Con U := fun args H base K =>
  match s.pick args H with
  | some x => s.pre x ∧ callN args (s.args x) H (s.H x) base (s.R x) K
  | none => False

theorem FSpec.sound {P : Program} {f : FuncId} (s : FSpec U) (he : ∀ args w, (callFunc f args).run P w = .ok (.enter f args) w) (h : ∀ x, s.pre x → FunOk P f (s.args x) (s.H x) (s.R x)) : Sound P f s.con where
  enters := he
  ok := fun args H base K hk => by
    unfold FSpec.con at hk
    split at hk
    · rename_i x _; exact liftN_ok (h x hk.1) hk.2
    · exact hk.elim

/-! ### reading arguments -/
def asRow (c : U.C) : AB1 U → Option (List (U.ty c))
  | .row c' l _ => match U.deq c' c with
    | .isTrue h => some (h ▸ l)
    | .isFalse _ => none
  | .ro c' l => match U.deq c' c with
    | .isTrue h => some (h ▸ l)
    | .isFalse _ => none
  | _ => none
def blkAt (H : Heap U) (id k : Nat) : Option (AB1 U) :=
  match nth H id with
  | some (.one b) => match k with
    | 0 => some b
    | _ + 1 => none
  | some (.fam _ f) => some (f k)
  | _ => none
def rowAt (c : U.C) (H : Heap U) (id k : Nat) : Option (List (U.ty c)) :=
  match blkAt H id k with
  | some b => asRow c b
  | none => none
def avInt : AV → Option Int
  | .v (.int _ n) => some n
  | _ => none
def avBool : AV → Option Bool
  | .tt => some true
  | .ff => some false
  | .v (.bool b) => some b
  | _ => none
end AE
