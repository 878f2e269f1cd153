/- An own symbolic executor for the model's code, and what the functions beneath the law compute, joined out of: Ae29, Ae30, Ae31, AeT, SoU, SoA, SoB, SoC, SoD, SoE, SoF, SoG, SoH0, SoH, SoI, SoJ. No condition. -/
import Derived.Test.YtlhpkhpgjccbpaaM2
import Derived.Test.YtlhpkhpgjccbpaaRows
import Derived.RecoverIn
import Derived.IntWalk

set_option linter.unusedSimpArgs false
set_option linter.unusedVariables false
namespace AE
open Go

variable {U : Uni}

mutual
def rnV (τ : Nat → Nat) : AV → AV
  | .ptr id k i fo => .ptr (τ id) k i fo
  | .sl id k off len => .sl (τ id) k off len
  | .gs id k => .gs (τ id) k
  | .map id k => .map (τ id) k
  | .fn f xs ys => .fn f (rnL τ xs) (rnL τ ys)
  | .ifc t x => .ifc t (rnV τ x)
  | .agg xs => .agg (rnL τ xs)
  | .tup xs => .tup (rnL τ xs)
  | .alt c a b => .alt c (rnV τ a) (rnV τ b)
  | .junk => .junk
  | .tt => .tt
  | .ff => .ff
  | .v x => .v x
def rnL (τ : Nat → Nat) : List AV → List AV
  | [] => []
  | x :: xs => rnV τ x :: rnL τ xs
end
mutual
theorem rnV_ok {τ : Nat → Nat} {π π' : Plc} (hτ : ∀ id k p, π id k = some p → π' (τ id) k = some p) : ∀ {a : AV} {y : Value}, Rep π a y → Rep π' (rnV τ a) y
  | .junk, _, _ => by simp [rnV, Rep]
  | .tt, y, e => by simpa [rnV, Rep] using e
  | .ff, y, e => by simpa [rnV, Rep] using e
  | .v x, y, e => by simpa [rnV, Rep] using e
  | .ptr id k i fo, y, e => by
    simp only [rnV, Rep] at e ⊢; obtain ⟨p, hp, e⟩ := e; exact ⟨p, hτ _ _ _ hp, e⟩
  | .sl id k off len, y, e => by
    simp only [rnV, Rep] at e ⊢; obtain ⟨a, c, e, hlc, hh⟩ := e
    exact ⟨a, c, e, hlc, fun hl => let ⟨p, hp, ha⟩ := hh hl; ⟨p, hτ _ _ _ hp, ha⟩⟩
  | .gs id k, y, e => by
    simp only [rnV, Rep] at e ⊢; obtain ⟨p, hp, e⟩ := e; exact ⟨p, hτ _ _ _ hp, e⟩
  | .map id k, y, e => by
    simp only [rnV, Rep] at e ⊢; obtain ⟨p, hp, e⟩ := e; exact ⟨p, hτ _ _ _ hp, e⟩
  | .fn f xs ys, y, e => by
    simp only [rnV, Rep] at e ⊢; obtain ⟨a, b, e, h1, h2⟩ := e
    exact ⟨a, b, e, rnL_ok hτ h1, rnL_ok hτ h2⟩
  | .ifc t x, y, e => by
    simp only [rnV, Rep] at e ⊢; obtain ⟨z, e, h1⟩ := e; exact ⟨z, e, rnV_ok hτ h1⟩
  | .agg xs, y, e => by
    simp only [rnV, Rep] at e ⊢; obtain ⟨a, e, h1⟩ := e; exact ⟨a, e, rnL_ok hτ h1⟩
  | .tup xs, y, e => by
    simp only [rnV, Rep] at e ⊢; obtain ⟨a, e, h1⟩ := e; exact ⟨a, e, rnL_ok hτ h1⟩
  | .alt c a b, y, e => by
    simp only [rnV, Rep] at e ⊢; exact ⟨fun hc => rnV_ok hτ (e.1 hc), fun hc => rnV_ok hτ (e.2 hc)⟩
theorem rnL_ok {τ : Nat → Nat} {π π' : Plc} (hτ : ∀ id k p, π id k = some p → π' (τ id) k = some p) : ∀ {xs : List AV} {ys : List Value}, RepL π xs ys → RepL π' (rnL τ xs) ys
  | [], ys, e => by simpa [rnL, RepL] using e
  | x :: xs, ys, e => by
    simp only [rnL, RepL] at e ⊢; obtain ⟨z, zs, e, h1, h2⟩ := e
    exact ⟨z, zs, e, rnV_ok hτ h1, rnL_ok hτ h2⟩
end

theorem rnL_length {τ : Nat → Nat} : ∀ (xs : List AV), (rnL τ xs).length = xs.length
  | [] => rfl
  | x :: xs => by simp [rnL, rnL_length xs]
theorem rnL_getD {τ : Nat → Nat} : ∀ {xs : List AV} {k : Nat}, k < xs.length → (rnL τ xs).getD k .junk = rnV τ (xs.getD k .junk)
  | [], _, h => by simp at h
  | x :: xs, 0, _ => by simp [rnL]
  | x :: xs, k + 1, h => by simpa [rnL] using rnL_getD (xs := xs) (k := k) (by simpa using h)

def rnB (τ : Nat → Nat) : AB1 U → AB1 U
  | .cells vs t => .cells (rnL τ vs) t
  | .rc vs t => .rc (rnL τ vs) t
  | .row c l t => match U.mv c with
    | false => .row c l t
    | true => .row (U.rc τ c) (U.rcl τ c l) t
  | .ro c l => match U.mv c with
    | false => .ro c l
    | true => .ro (U.rc τ c) (U.rcl τ c l)
  | .map m l => .map m l
  | .mrow o vs => .mrow o (rnL τ vs)
def rnBok : AB1 U → Bool
  | .cells .. => true
  | .rc .. => true
  | .row c _ _ => U.mv c || U.pl c
  | .ro c _ => U.mv c || U.pl c
  | .map m _ => U.mpl m
  | .mrow _ _ => true
def dgBok : AB1 U → Bool
  | .cells .. => true
  | .rc .. => true
  | .row c _ _ => U.pl c
  | .ro c _ => U.pl c
  | .map m _ => U.mpl m
  | .mrow _ _ => true
theorem rnB_ok {τ : Nat → Nat} {π π' : Plc} (hτ : ∀ id k p, π id k = some p → π' (τ id) k = some p) {b : AB1 U} (hf : rnBok b = true) {w : World} {p : Place} (h : BlkOk π w p b) : BlkOk π' w p (rnB τ b) := by
  cases b with
  | cells vs t => obtain ⟨h0, cs, h1, h2⟩ := h; exact ⟨h0, cs, h1, rnL_ok hτ h2⟩
  | rc vs t => obtain ⟨h0, cs, h1, h2⟩ := h; exact ⟨h0, cs, h1, rnL_ok hτ h2⟩
  | row c l t =>
    simp only [rnB]
    split
    · rename_i hm
      exact fixB_ok (b := .row c l t) (by simp only [rnBok, hm, Bool.false_or] at hf; exact hf) h
    · rename_i hm
      obtain ⟨h0, h1, h2, h3, cs, h4, h5⟩ := h
      have hlen : (U.rcl τ c l).length = l.length := by rw [U.rclmap, List.length_map]
      refine ⟨h0, by rw [U.rcsz]; exact h1, by rw [hlen]; exact h2, h3, cs, Uni.moved hm (fun id _ k p hp => hτ id k p hp) h4, ?_⟩
      rw [U.rcsz, hlen]; exact h5
  | ro c l =>
    simp only [rnB]
    split
    · rename_i hm
      exact fixB_ok (b := .ro c l) (by simp only [rnBok, hm, Bool.false_or] at hf; exact hf) h
    · rename_i hm
      obtain ⟨h1, h2⟩ := h
      refine ⟨by rw [U.rcsz]; exact h1, fun i x' hi j a' ha' => ?_⟩
      rw [U.rclmap, List.getElem?_map] at hi
      cases hx : l[i]? with
      | none => rw [hx] at hi; cases hi
      | some x =>
        rw [hx] at hi; simp only [Option.map_some, Option.some.injEq] at hi; subst hi
        obtain ⟨a, ha, hr⟩ := U.rcok c hm π π' τ (fun id _ k p hp => hτ id k p hp) x j a' ha'
        obtain ⟨y, hy, hry⟩ := h2 i x hx j a ha
        exact ⟨y, hy, hr y hry⟩
  | map m l => exact fixB_ok (b := .map m l) hf h
  | mrow o vs =>
    obtain ⟨es, ck, ks, h1, h2, h3, h4, h5, h6⟩ := h
    have hg : ∀ k, k < vs.length → (rnL τ vs).getD k .junk = rnV τ (vs.getD k .junk) := fun k hk => rnL_getD hk
    refine ⟨es, ck, ks, h1, h2, fun k hk => by rw [rnL_length]; exact h3 k hk, h4, ?_, fun k hk hn => ?_⟩
    · refine RepL.of_get (by have := h5.length; simpa using this) fun j x hx => ?_
      rw [List.getElem?_map] at hx
      cases hj : ks[j]? with
      | none => rw [hj] at hx; cases hx
      | some k =>
        rw [hj] at hx; simp only [Option.map_some, Option.some.injEq] at hx; subst hx
        obtain ⟨y, hy, hr⟩ := h5.get (j := j) (x := vs.getD k .junk) (by rw [List.getElem?_map, hj]; rfl)
        rw [hg k (h3 k (List.mem_of_getElem? hj))]
        exact ⟨y, hy, rnV_ok hτ hr⟩
    · rw [rnL_length] at hk
      rw [hg k hk]; exact rnV_ok hτ (h6 k hk hn)
theorem rnB_own {τ : Nat → Nat} {b : AB1 U} : (rnB τ b).own = b.own := by
  cases b <;> first | rfl | (simp only [rnB]; split <;> rfl)
theorem rnB_phys {τ : Nat → Nat} {b : AB1 U} {p : Place} : (rnB τ b).phys p ↔ b.phys p := by
  cases b with
  | row c l t => simp only [rnB]; split <;> exact Iff.rfl
  | ro c l =>
    simp only [rnB]
    split
    · exact Iff.rfl
    · show _ ≠ [] ∧ _ ≠ 0 ↔ _
      rw [U.rclmap, U.rcsz]
      exact ⟨fun h => ⟨fun e => h.1 (by rw [e]; rfl), h.2⟩, fun h => ⟨fun e => h.1 (List.map_eq_nil_iff.1 e), h.2⟩⟩
  | _ => exact Iff.rfl

def rnR (τ : Nat → Nat) (r : ORes U) : ORes U := ⟨rnV τ r.val, r.upd.map fun (id, k, b) => (τ id, k, rnB τ b), r.kill.map fun (id, k) => (τ id, k), r.new.map (rnB τ)⟩

def tauN (σ : Nat → Nat) (N base i : Nat) : Nat :=
  match Nat.blt i N with
  | true => σ i
  | false => match Nat.ble noId i with
    | true => i
    | false => base + (i - N)

def callA (args AL : List AV) (H HL : Heap U) (base : Nat) (R : OOut U) (K : OOut U → Prop) : Prop :=
  let l0 := mtL 0 args AL []
  let l := mtH 0 H HL 40 l0 l0
  let σ := lookN l
  let N := HL.length
  isB (nodupB (liveL σ 0 HL)) (leL H σ N args AL ∧ leHs σ N H 0 HL ∧ match R with
    | .val r => isB ((r.new.all rnBok && r.upd.all fun (_, _, b) => rnBok b) && Nat.blt (N + r.new.length) noId) (K (.val (rnR (tauN σ N base) r)))
    | .panic x => isB x.fixed (K (.panic x)))

theorem lift_ok {P : Program} {f : FuncId} {AL args : List AV} {HL H : Heap U} {base : Nat} {R : OOut U} {K : OOut U → Prop} (hF : FunOk P f AL HL R) (h : callA args AL H HL base R K) : ∃ r, K r ∧ CallOk P f args H base r := by
  unfold callA at h
  simp only at h
  generalize lookN (mtH 0 H HL 40 _ _) = σ at h
  obtain ⟨hn, hA, hH, h⟩ := isB_ok h
  have fresh : ∀ π : Plc, Fresh (π.ren σ HL.length) HL.length := fun π id k hi => by unfold Plc.ren; rw [if_neg (by omega)]
  cases R with
  | panic x =>
    obtain ⟨hfx, h⟩ := isB_ok h
    refine ⟨_, h, fun π w vs hc hv => (hF _ w vs (fresh π) (hc.ren hH hn) (leL_ok hc hA hv)).mono ?_⟩
    rintro e w' ⟨y, rfl, hr, hk⟩
    exact ⟨y, rfl, hr.fixed hfx, hk⟩
  | val r =>
    obtain ⟨hfx, h⟩ := isB_ok h
    rw [Bool.and_eq_true, Bool.and_eq_true, List.all_eq_true, List.all_eq_true] at hfx
    obtain ⟨⟨hfn, hfu⟩, hsm⟩ := hfx
    have hsm' : HL.length + r.new.length < noId := by simpa using hsm
    refine ⟨_, h, fun π w vs hc hv hfresh => (hF _ w vs (fresh π) (hc.ren hH hn) (leL_ok hc hA hv)).mono ?_⟩
    rintro e w' ⟨v, πn, rfl, hp⟩
    have hlen : (rnR (tauN σ HL.length base) r).new.length = r.new.length := by simp [rnR]
    rw [hlen] at hfresh
    generalize hN : HL.length = N at *
    let π' : Plc := fun id k => if base ≤ id ∧ id < base + r.new.length then πn (N + (id - base)) k else π id k
    have hin : ∀ j k, j < r.new.length → π' (base + j) k = πn (N + j) k := fun j k hj => by
      show (if _ then _ else _) = _
      rw [if_pos (by omega), Nat.add_sub_cancel_left]
    have hout : ∀ id k, (id < base ∨ base + r.new.length ≤ id) → π' id k = π id k := fun id k hj => by
      show (if _ then _ else _) = _
      rw [if_neg (by omega)]
    have hold : ∀ id k p, π id k = some p → π' id k = some p := fun id k p hpp => by
      rw [hout id k ?_]; exact hpp
      apply Classical.byContradiction
      intro hh
      have := hfresh (id - base) k (by omega)
      rw [show base + (id - base) = id by omega, hpp] at this; cases this
    have hren : ∀ id k p, (π.ren σ N) id k = some p → id < N ∧ π (σ id) k = some p := fun id k p hpp => by
      unfold Plc.ren at hpp
      split at hpp
      · rename_i hlt; exact ⟨hlt, hpp⟩
      · cases hpp
    have hlow : ∀ id, id < N → tauN σ N base id = σ id := fun id hi => by
      unfold tauN
      have : Nat.blt id N = true := by simpa using hi
      rw [this]
    have hhigh : ∀ j, N + j < noId → tauN σ N base (N + j) = base + j := fun j hjn => by
      unfold tauN
      have : Nat.blt (N + j) N = false := by
        cases hb : Nat.blt (N + j) N with
        | false => rfl
        | true => rw [Nat.blt_eq] at hb; omega
      have h2 : Nat.ble noId (N + j) = false := by
        cases hb : Nat.ble noId (N + j) with
        | false => rfl
        | true => have := Nat.le_of_ble_eq_true hb; omega
      rw [this]; simp [h2]
    have hτ : ∀ id k p, πn id k = some p → π' (tauN σ N base id) k = some p := by
      intro id k p hpp
      rcases Nat.lt_or_ge id N with hi | hi
      · rw [hp.only id k (.inl hi)] at hpp
        rw [hlow id hi]; exact hold _ _ _ (hren id k p hpp).2
      · rcases Nat.lt_or_ge id (N + r.new.length) with h2 | h2
        · have := hhigh (id - N) (by omega)
          rw [show N + (id - N) = id by omega] at this
          rw [this, hin _ _ (by omega), show N + (id - N) = id by omega]; exact hpp
        · rw [hp.only id k (.inr h2), fresh π id k (by omega)] at hpp; cases hpp
    have arg : ∀ id k b0, HL.at id k = some b0 → id < N ∧ ∃ b1, H.at (σ id) k = some b1 ∧ (b0.own = true → b1.own = true) ∧ ∀ p, π (σ id) k = some p → (b0.phys p → b1.phys p) := by
      intro id k b0 hb0
      have hlt := (at_lt hb0).1
      rw [hN] at hlt
      obtain ⟨b1, hb1, hh⟩ := leBk_at hH hb0
      obtain ⟨p, hp1, hok⟩ := hc.ok _ _ _ hb1
      refine ⟨hlt, b1, hb1, (hh π w p hc hok).2.1, fun p' hp' => ?_⟩
      rw [hp1] at hp'; cases hp'
      exact (hh π w p hc hok).2.2
    refine ⟨v, π', rfl, rnV_ok hτ hp.rep, hold, fun id k hi => hout id k (by rw [hlen] at hi; exact hi), fun j b hb => ?_, fun i j b b' p p' hb hb' hne hpp hpp' h1 h2 => ?_, fun id k b hb => ?_, fun id k hb => ?_, ?_⟩
    · simp only [rnR, List.getElem?_map, Option.map_eq_some_iff] at hb
      obtain ⟨b0, hb0, rfl⟩ := hb
      have hj : j < r.new.length := (List.getElem?_eq_some_iff.1 hb0).1
      obtain ⟨ho, p, hpp, hok, hph⟩ := hp.new j b0 hb0
      refine ⟨by rw [rnB_own]; exact ho, p, by rw [hin j 0 hj]; exact hpp, rnB_ok hτ (hfn b0 (List.mem_of_getElem? hb0)) hok, fun h => ?_⟩
      rcases hph (rnB_phys.1 h) with h | ⟨id, k, b2, q, hm, hb2, ho2, hq, hqp, e⟩
      · exact .inl h
      · obtain ⟨hlt, b1, hb1, hown, hphys⟩ := arg id k b2 hb2
        have hq' := (hren _ _ _ hq).2
        exact .inr ⟨σ id, k, b1, q, List.mem_map.2 ⟨(id, k), hm, by simp only [hlow id hlt]⟩, hb1, hown ho2, hq', hphys q hq' hqp, e⟩
    · simp only [rnR, List.getElem?_map, Option.map_eq_some_iff] at hb hb'
      obtain ⟨b0, hb0, rfl⟩ := hb
      obtain ⟨b0', hb0', rfl⟩ := hb'
      rw [hin i 0 (List.getElem?_eq_some_iff.1 hb0).1] at hpp
      rw [hin j 0 (List.getElem?_eq_some_iff.1 hb0').1] at hpp'
      exact hp.newsep i j b0 b0' p p' hb0 hb0' hne hpp hpp' (rnB_phys.1 h1) (rnB_phys.1 h2)
    · obtain ⟨⟨id0, k0, b0⟩, hm, e⟩ := List.mem_map.1 hb
      simp only [Prod.mk.injEq] at e
      obtain ⟨rfl, rfl, rfl⟩ := e
      obtain ⟨b2, p, hb2, ho2, ho, hpp, hok, hph⟩ := hp.upd _ _ _ hm
      obtain ⟨hlt, b1, hb1, hown, hphys⟩ := arg id0 k0 b2 hb2
      have hq' := (hren _ _ _ hpp).2
      rw [hlow id0 hlt]
      exact ⟨b1, p, hb1, hown ho2, by rw [rnB_own]; exact ho, hq', rnB_ok hτ (hfu _ hm) hok, fun h => hphys p hq' (hph (rnB_phys.1 h))⟩
    · obtain ⟨⟨id0, k0⟩, hm, e⟩ := List.mem_map.1 hb
      simp only [Prod.mk.injEq] at e
      obtain ⟨rfl, rfl⟩ := e
      obtain ⟨b2, hb2, ho2⟩ := hp.kill _ _ hm
      obtain ⟨hlt, b1, hb1, hown, _⟩ := arg id0 k0 b2 hb2
      rw [hlow id0 hlt]
      exact ⟨b1, hb1, hown ho2⟩
    · refine hp.keeps.weaken fun n _ ⟨id, k, p, b0, hm, hb0, hph, hpp, e⟩ => ?_
      obtain ⟨hlt, b1, hb1, _, hphys⟩ := arg id k b0 hb0
      have hq' := (hren _ _ _ hpp).2
      refine ⟨σ id, k, p, b1, ?_, hb1, hphys p hq' hph, hq', e⟩
      rcases hm with ⟨b, hm⟩ | hm
      · exact .inl ⟨rnB (tauN σ N base) b, List.mem_map.2 ⟨_, hm, by simp only [hlow id hlt]⟩⟩
      · exact .inr (List.mem_map.2 ⟨_, hm, by simp only [hlow id hlt]⟩)

mutual
def dgV (gh : List Nat) : AV → AV
  | .sl id k off len => match memN id gh with
    | true => match len with
      | 0 => .sl noId 0 0 0
      | _ + 1 => .junk
    | false => .sl id k off len
  | .gs id k => match memN id gh with
    | true => .junk
    | false => .gs id k
  | .ptr id k i fo => match memN id gh with
    | true => .junk
    | false => .ptr id k i fo
  | .map id k => match memN id gh with
    | true => .junk
    | false => .map id k
  | .fn f xs ys => .fn f (dgL gh xs) (dgL gh ys)
  | .ifc t x => .ifc t (dgV gh x)
  | .agg xs => .agg (dgL gh xs)
  | .tup xs => .tup (dgL gh xs)
  | .alt c a b => .alt c (dgV gh a) (dgV gh b)
  | .junk => .junk
  | .tt => .tt
  | .ff => .ff
  | .v x => .v x
def dgL (gh : List Nat) : List AV → List AV
  | [] => []
  | x :: xs => dgV gh x :: dgL gh xs
end
mutual
theorem dg_rep {gh : List Nat} {π π2 : Plc} (h : ∀ id k, id ∉ gh → π2 id k = π id k) : ∀ {a : AV} {y : Value}, Rep π a y → Rep π2 (dgV gh a) y
  | .junk, _, _ => by simp [Rep, dgV]
  | .tt, y, e => by simpa [Rep, dgV] using e
  | .ff, y, e => by simpa [Rep, dgV] using e
  | .v x, y, e => by simpa [Rep, dgV] using e
  | .gs id k, y, e => by
    simp only [dgV]
    split
    · simp [Rep]
    · rename_i hm; simp only [Rep] at e ⊢; rw [h id k (memN_false hm)]; exact e
  | .sl id k off len, y, e => by
    simp only [dgV]
    split
    · split
      · simp only [Rep] at e ⊢
        obtain ⟨a, c, e, hl, _⟩ := e
        exact ⟨a, c, e, hl, fun hh => absurd hh (Nat.lt_irrefl _)⟩
      · simp [Rep]
    · rename_i hm; simp only [Rep] at e ⊢; rw [h id k (memN_false hm)]; exact e
  | .ptr id k i fo, y, e => by
    simp only [dgV]
    split
    · simp [Rep]
    · rename_i hm; simp only [Rep] at e ⊢; rw [h id k (memN_false hm)]; exact e
  | .map id k, y, e => by
    simp only [dgV]
    split
    · simp [Rep]
    · rename_i hm; simp only [Rep] at e ⊢; rw [h id k (memN_false hm)]; exact e
  | .fn f xs ys, y, e => by
    simp only [dgV, Rep] at e ⊢; obtain ⟨a, b, e, h1, h2⟩ := e
    exact ⟨a, b, e, dg_repL h h1, dg_repL h h2⟩
  | .ifc t x, y, e => by
    simp only [dgV, Rep] at e ⊢; obtain ⟨z, e, h1⟩ := e; exact ⟨z, e, dg_rep h h1⟩
  | .agg xs, y, e => by
    simp only [dgV, Rep] at e ⊢; obtain ⟨a, e, h1⟩ := e; exact ⟨a, e, dg_repL h h1⟩
  | .tup xs, y, e => by
    simp only [dgV, Rep] at e ⊢; obtain ⟨a, e, h1⟩ := e; exact ⟨a, e, dg_repL h h1⟩
  | .alt c a b, y, e => by
    simp only [dgV, Rep] at e ⊢; exact ⟨fun hc => dg_rep h (e.1 hc), fun hc => dg_rep h (e.2 hc)⟩
theorem dg_repL {gh : List Nat} {π π2 : Plc} (h : ∀ id k, id ∉ gh → π2 id k = π id k) : ∀ {xs : List AV} {ys : List Value}, RepL π xs ys → RepL π2 (dgL gh xs) ys
  | [], ys, e => by simpa [RepL, dgL] using e
  | x :: xs, ys, e => by
    simp only [dgL, RepL] at e ⊢; obtain ⟨z, zs, e, h1, h2⟩ := e
    exact ⟨z, zs, e, dg_rep h h1, dg_repL h h2⟩
end
theorem dgL_length (gh : List Nat) : ∀ (xs : List AV), (dgL gh xs).length = xs.length
  | [] => rfl
  | x :: xs => by simp [dgL, dgL_length gh xs]
theorem dgL_getD {gh : List Nat} : ∀ {xs : List AV} {k : Nat}, k < xs.length → (dgL gh xs).getD k .junk = dgV gh (xs.getD k .junk)
  | [], _, h => by simp at h
  | x :: xs, 0, _ => by simp [dgL]
  | x :: xs, k + 1, h => by simpa [dgL] using dgL_getD (xs := xs) (k := k) (by simpa using h)
def dgB (gh : List Nat) : AB1 U → AB1 U
  | .cells vs t => .cells (dgL gh vs) t
  | .rc vs t => .rc (dgL gh vs) t
  | .mrow o vs => .mrow o (dgL gh vs)
  | .row c l t => .row c l t
  | .ro c l => .ro c l
  | .map m l => .map m l
theorem dgB_own {gh : List Nat} {b : AB1 U} : (dgB gh b).own = b.own := by cases b <;> rfl
theorem dgB_phys {gh : List Nat} {b : AB1 U} {p : Place} : (dgB gh b).phys p ↔ b.phys p := by cases b <;> exact Iff.rfl
theorem dgB_ok {gh : List Nat} {π π2 : Plc} (h : ∀ id k, id ∉ gh → π2 id k = π id k) {b : AB1 U} (hf : dgBok b = true) {w : World} {p : Place} (hb : BlkOk π w p b) : BlkOk π2 w p (dgB gh b) := by
  cases b with
  | cells vs t => obtain ⟨h0, cs, h1, h2⟩ := hb; exact ⟨h0, cs, h1, dg_repL h h2⟩
  | rc vs t => obtain ⟨h0, cs, h1, h2⟩ := hb; exact ⟨h0, cs, h1, dg_repL h h2⟩
  | row c l t => exact fixB_ok (b := .row c l t) hf hb
  | ro c l => exact fixB_ok (b := .ro c l) hf hb
  | map m l => exact fixB_ok (b := .map m l) hf hb
  | mrow o vs =>
    obtain ⟨es, ck, ks, h1, h2, h3, h4, h5, h6⟩ := hb
    refine ⟨es, ck, ks, h1, h2, fun k hk => by rw [dgL_length]; exact h3 k hk, h4, ?_, fun k hk hn => ?_⟩
    · refine RepL.of_get (by have := h5.length; simpa using this) fun j x hx => ?_
      rw [List.getElem?_map] at hx
      cases hj : ks[j]? with
      | none => rw [hj] at hx; cases hx
      | some k =>
        rw [hj] at hx; simp only [Option.map_some, Option.some.injEq] at hx; subst hx
        obtain ⟨y, hy, hr⟩ := h5.get (j := j) (x := vs.getD k .junk) (by rw [List.getElem?_map, hj]; rfl)
        rw [dgL_getD (h3 k (List.mem_of_getElem? hj))]
        exact ⟨y, hy, dg_rep h hr⟩
    · rw [dgL_length] at hk
      rw [dgL_getD hk]; exact dg_rep h (h6 k hk hn)
def dgR (gh : List Nat) (r : ORes U) : ORes U := ⟨dgV gh r.val, r.upd.map fun (id, k, b) => (id, k, dgB gh b), r.kill, r.new.map (dgB gh)⟩
def roAll (HL : Heap U) : List Nat → Bool
  | [] => true
  | id :: l => (match nth HL id with
    | some (.one (.ro ..)) => true
    | _ => false) && roAll HL l
theorem roAll_ok {HL : Heap U} : ∀ {l : List Nat}, roAll HL l = true → ∀ id ∈ l, ∀ k b, HL.at id k = some b → b.own = false
  | [], _, id, h, _, _, _ => by cases h
  | x :: l, h, id, hm, k, b, hb => by
    simp only [roAll, Bool.and_eq_true] at h
    rcases List.mem_cons.1 hm with rfl | hm
    · have h1 := h.1
      split at h1
      · rename_i c l' hid
        rw [nth_eq] at hid
        unfold Heap.at at hb; rw [hid] at hb
        simp only at hb
        split at hb
        · cases hb; rfl
        · cases hb
      · cases h1
    · exact roAll_ok h.2 id hm k b hb

theorem FunOk.nil {P : Program} {f : FuncId} {AL : List AV} {HL : Heap U} {r : ORes U} {gh : List Nat} (hA : nlOkL gh AL) (hH : nlOkH gh 0 HL) (hro : roAll HL gh = true) (hge : geL 0 HL.length gh = true) (hb : (r.new.all dgBok && r.upd.all fun (_, _, b) => dgBok b) = true)
    (h : FunOk P f AL HL (.val r)) : FunOk P f (nlL gh AL) (nlH gh 0 HL) (.val (dgR gh r)) := by
  intro π w vs hf hc hv
  rw [nlH_length] at hf
  rw [Bool.and_eq_true, List.all_eq_true, List.all_eq_true] at hb
  obtain ⟨hbn, hbu⟩ := hb
  have hN := Plc.nilAt π gh HL
  have hlow : ∀ id, id ∈ gh → id < HL.length := fun id hm => (geL_ok hge id hm).2
  have hf2 : Fresh (π.nil gh HL) HL.length := fun id k hi => by
    rw [hN.out id k (fun hm => by have := hlow id hm; omega)]; exact hf id k hi
  refine (h (π.nil gh HL) w vs hf2 (hc.nil hH) (nl_repL hN hA hv)).mono ?_
  rintro e w' ⟨v, πn, rfl, hp⟩
  let π' : Plc := fun id k => if id ∈ gh then π id k else πn id k
  have hin : ∀ id k, id ∈ gh → π' id k = π id k := fun id k hm => by show (if _ then _ else _) = _; rw [if_pos hm]
  have hout : ∀ id k, id ∉ gh → π' id k = πn id k := fun id k hm => by show (if _ then _ else _) = _; rw [if_neg hm]
  have hlen : (dgR gh r).new.length = r.new.length := by simp [dgR]
  have hnew : ∀ j, HL.length + j ∉ gh := fun j hm => by have := hlow _ hm; omega
  have hroo := roAll_ok hro
  have arg : ∀ id k b0, HL.at id k = some b0 → b0.own = true → id ∉ gh ∧ ∃ b1, (nlH gh 0 HL).at id k = some b1 ∧ b1.own = true ∧ (∀ p, b1.phys p ↔ b0.phys p) ∧ ∀ p, (π.nil gh HL) id k = some p → π id k = some p := by
    intro id k b0 hb0 ho
    have hni : id ∉ gh := fun hm => by rw [hroo id hm k b0 hb0] at ho; cases ho
    obtain ⟨b1, hb1, hown, hph, _⟩ := nlA_at hH hb0 hni
    exact ⟨hni, b1, hb1, by rw [hown]; exact ho, hph, fun p hpp => by rw [hN.out id k hni] at hpp; exact hpp⟩
  refine ⟨v, π', rfl, dg_rep hout hp.rep, fun id k p hpp => ?_, fun id k hi => ?_, fun j b hb => ?_, fun i j b b' p p' hb hb' hne hpp hpp' h1 h2 => ?_, fun id k b hb => ?_, fun id k hb => ?_, ?_⟩
  · by_cases hm : id ∈ gh
    · rw [hin id k hm]; exact hpp
    · rw [hout id k hm]; exact hp.sub _ _ _ (by rw [hN.out id k hm]; exact hpp)
  · rw [nlH_length, hlen] at hi
    by_cases hm : id ∈ gh
    · exact hin id k hm
    · rw [hout id k hm, hp.only id k hi, hN.out id k hm]
  · simp only [dgR, List.getElem?_map, Option.map_eq_some_iff] at hb
    obtain ⟨b0, hb0, rfl⟩ := hb
    obtain ⟨ho, p, hpp, hok, hph⟩ := hp.new j b0 hb0
    rw [nlH_length]
    refine ⟨by rw [dgB_own]; exact ho, p, by rw [hout _ _ (hnew j)]; exact hpp, dgB_ok hout (hbn b0 (List.mem_of_getElem? hb0)) hok, fun h => ?_⟩
    rcases hph (dgB_phys.1 h) with h | ⟨id, k, b2, q, hm, hb2, ho2, hq, hqp, e⟩
    · exact .inl h
    · obtain ⟨_, b1, hb1, hown, hphys, hpl⟩ := arg id k b2 hb2 ho2
      exact .inr ⟨id, k, b1, q, hm, hb1, hown, hpl q hq, (hphys q).2 hqp, e⟩
  · simp only [dgR, List.getElem?_map, Option.map_eq_some_iff] at hb hb'
    obtain ⟨b0, hb0, rfl⟩ := hb
    obtain ⟨b0', hb0', rfl⟩ := hb'
    rw [nlH_length] at hpp hpp'
    rw [hout _ _ (hnew i)] at hpp
    rw [hout _ _ (hnew j)] at hpp'
    exact hp.newsep i j b0 b0' p p' hb0 hb0' hne hpp hpp' (dgB_phys.1 h1) (dgB_phys.1 h2)
  · obtain ⟨⟨id0, k0, b0⟩, hm, e⟩ := List.mem_map.1 hb
    simp only [Prod.mk.injEq] at e
    obtain ⟨rfl, rfl, rfl⟩ := e
    obtain ⟨b2, p, hb2, ho2, ho, hpp, hok, hph⟩ := hp.upd _ _ _ hm
    obtain ⟨_, b1, hb1, hown, hphys, hpl⟩ := arg id0 k0 b2 hb2 ho2
    exact ⟨b1, p, hb1, hown, by rw [dgB_own]; exact ho, hpl p hpp, dgB_ok hout (hbu _ hm) hok, fun h => (hphys p).2 (hph (dgB_phys.1 h))⟩
  · obtain ⟨b2, hb2, ho2⟩ := hp.kill id k hb
    obtain ⟨_, b1, hb1, hown, _, _⟩ := arg id k b2 hb2 ho2
    exact ⟨b1, hb1, hown⟩
  · refine hp.keeps.weaken fun n _ ⟨id, k, p, b0, hm, hb0, hph, hpp, e⟩ => ?_
    have ho : b0.own = true := by
      rcases hm with ⟨b, hm⟩ | hm
      · obtain ⟨b2, _, hb2, ho2, _⟩ := hp.upd _ _ _ hm
        rw [hb0] at hb2; cases hb2; exact ho2
      · obtain ⟨b2, hb2, ho2⟩ := hp.kill _ _ hm
        rw [hb0] at hb2; cases hb2; exact ho2
    obtain ⟨_, b1, hb1, _, hphys, hpl⟩ := arg id k b0 hb0 ho
    refine ⟨id, k, p, b1, ?_, hb1, (hphys p).2 hph, hpl p hpp, e⟩
    rcases hm with ⟨b, hm⟩ | hm
    · exact .inl ⟨dgB gh b, List.mem_map.2 ⟨_, hm, rfl⟩⟩
    · exact .inr hm

def callN (args AL : List AV) (H HL : Heap U) (base : Nat) (R : OOut U) (K : OOut U → Prop) : Prop :=
  let l0 := mtL 0 args AL []
  let l := mtH 0 H HL 40 l0 l0
  match ghP 0 H HL l (ghL 0 args AL []) with
  | [] => callA args AL H HL base R K
  | gh => match R with
    | .val r => isB (roAll HL gh && geL 0 HL.length gh && (r.new.all dgBok && r.upd.all fun (_, _, b) => dgBok b)) (nlOkL gh AL ∧ nlOkH gh 0 HL ∧ callA args (nlL gh AL) H (nlH gh 0 HL) base (.val (dgR gh r)) K)
    | .panic x => isB x.fixed (nlOkL gh AL ∧ nlOkH gh 0 HL ∧ geL 0 HL.length gh = true ∧ callA args (nlL gh AL) H (nlH gh 0 HL) base (.panic x) K)

theorem FunOk.nilP {P : Program} {f : FuncId} {AL : List AV} {HL : Heap U} {x : AV} {gh : List Nat} (hA : nlOkL gh AL) (hH : nlOkH gh 0 HL) (hge : geL 0 HL.length gh = true) (hx : x.fixed = true)
    (h : FunOk P f AL HL (.panic x)) : FunOk P f (nlL gh AL) (nlH gh 0 HL) (.panic x) := by
  intro π w vs hf hc hv
  rw [nlH_length] at hf
  have hN := Plc.nilAt π gh HL
  have hf2 : Fresh (π.nil gh HL) HL.length := fun id k hi => by
    rw [hN.out id k (fun hm => by have := geL_ok hge id hm; omega)]; exact hf id k hi
  refine (h (π.nil gh HL) w vs hf2 (hc.nil hH) (nl_repL hN hA hv)).mono ?_
  rintro e w' ⟨y, rfl, hr, hk⟩
  exact ⟨y, rfl, hr.fixed hx, hk⟩

theorem liftN_ok {P : Program} {f : FuncId} {AL args : List AV} {HL H : Heap U} {base : Nat} {R : OOut U} {K : OOut U → Prop} (hF : FunOk P f AL HL R) (h : callN args AL H HL base R K) : ∃ r, K r ∧ CallOk P f args H base r := by
  unfold callN at h
  simp only at h
  split at h
  · exact lift_ok hF h
  · generalize ghP 0 H HL _ _ = gh at h
    cases R with
    | val r =>
      obtain ⟨hb, hA, hH, h⟩ := isB_ok h
      rw [Bool.and_eq_true, Bool.and_eq_true] at hb
      exact lift_ok (FunOk.nil hA hH hb.1.1 hb.1.2 hb.2 hF) h
    | panic x =>
      obtain ⟨hb, hA, hH, hge, h⟩ := isB_ok h
      exact lift_ok (FunOk.nilP hA hH hge hb hF) h

structure FSpec (U : Uni) where
  X : Type
  pick : List AV → Heap U → Option X
  args : X → List AV
  H : X → Heap U
  R : X → OOut U
  pre : X → Prop := fun _ => True

def FSpec.con (s : FSpec U) : Con U := fun args H base K =>
  match s.pick args H with
  | some x => s.pre x ∧ callN args (s.args x) H (s.H x) base (s.R x) K
  | none => False

theorem FSpec.sound {P : Program} {f : FuncId} (s : FSpec U) (he : ∀ args w, (callFunc f args).run P w = .ok (.enter f args) w) (h : ∀ x, s.pre x → FunOk P f (s.args x) (s.H x) (s.R x)) : Sound P f s.con where
  enters := he
  ok := fun args H base K hk => by
    unfold FSpec.con at hk
    split at hk
    · rename_i x _; exact liftN_ok (h x hk.1) hk.2
    · exact hk.elim

def asRow (c : U.C) : AB1 U → Option (List (U.ty c))
  | .row c' l _ => match U.deq c' c with
    | .isTrue h => some (h ▸ l)
    | .isFalse _ => none
  | .ro c' l => match U.deq c' c with
    | .isTrue h => some (h ▸ l)
    | .isFalse _ => none
  | _ => none
def blkAt (H : Heap U) (id k : Nat) : Option (AB1 U) :=
  match nth H id with
  | some (.one b) => match k with
    | 0 => some b
    | _ + 1 => none
  | some (.fam _ f) => some (f k)
  | _ => none
def rowAt (c : U.C) (H : Heap U) (id k : Nat) : Option (List (U.ty c)) :=
  match blkAt H id k with
  | some b => asRow c b
  | none => none
def avInt : AV → Option Int
  | .v (.int _ n) => some n
  | _ => none
def avBool : AV → Option Bool
  | .tt => some true
  | .ff => some false
  | .v (.bool b) => some b
  | _ => none
end AE

namespace AE
open Go

variable {U : Uni}

theorem bodyOf_eq {fn : Func} (hb : fn.body.isSome = true) : fn.body = some (bodyOf fn) := by
  obtain ⟨c, hc⟩ := Option.isSome_iff_exists.1 hb
  unfold bodyOf; rw [hc]

theorem fun_ofG {P : Program} {T : Tab U} (hm : P.follows .mixedOrders = true) (hT : T.Sound P) {tl : Nat → Option FuncId} (htl : ∀ k f, tl k = some f → ToldOk P k f) {it : Nat → Option (ItW U)} (hIt : ∀ k i, it k = some i → ItOk P i) {f : FuncId} {fn : Func} (hf : P.funcs[f]? = some fn) (hb : fn.body.isSome = true) {AL : List AV} (hal : Nat.ble AL.length fn.ntmps = true) {HL : Heap U} {R : OOut U}
    {L : Nat → Option (LRule U)} {hs : Nat → List Nat} {sp : Nat → Option (Nat × Nat)} (h : wpA { P := P, T := T, nt := fn.ntmps } { it := it, m := HL.length, L := L, hs := hs, sp := sp } (bodyOf fn) (frameOf 0 AL) [] HL (endG P T tl fn HL R)) : FunOk P f AL HL R :=
  fun_okG (E := { P := P, T := T, nt := fn.ntmps }) hm hT htl hf (bodyOf_eq hb) rfl hal (C := { it := it, m := HL.length, L := L, hs := hs, sp := sp }) hIt rfl rfl (fun _ _ _ hh => hh) (fun _ _ _ _ h => h) h

def endE (P : Program) (T : Tab U) (tl : Nat → Option FuncId) (fn : Func) (HL : Heap U) (c : Bool) (R R' : OOut U) (e : Ex) (fr : Fr) (df : Df) (H : Heap U) : Prop :=
  match e with
  | .pan x => c = false ∧ endG P T tl fn HL R' (.pan x) fr df H
  | .nrm => c = true ∧ endG P T tl fn HL R .nrm fr df H
  | .ret => c = true ∧ endG P T tl fn HL R .ret fr df H
  | _ => False
theorem fun_ofE {P : Program} {T : Tab U} (hm : P.follows .mixedOrders = true) (hT : T.Sound P) {tl : Nat → Option FuncId} (htl : ∀ k f, tl k = some f → ToldOk P k f) {it : Nat → Option (ItW U)} (hIt : ∀ k i, it k = some i → ItOk P i) {f : FuncId} {fn : Func} (hf : P.funcs[f]? = some fn) (hb : fn.body.isSome = true) {AL : List AV} (hal : Nat.ble AL.length fn.ntmps = true) {HL : Heap U} {c : Bool} {R R' : OOut U}
    {L : Nat → Option (LRule U)} {hs : Nat → List Nat} {sp : Nat → Option (Nat × Nat)} (h : wpA { P := P, T := T, nt := fn.ntmps } { it := it, m := HL.length, L := L, hs := hs, sp := sp } (bodyOf fn) (frameOf 0 AL) [] HL (endE P T tl fn HL c R R')) : (c = true → FunOk P f AL HL R) ∧ (c = false → FunOk P f AL HL R') := by
  refine ⟨fun hc => ?_, fun hc => ?_⟩
  · refine fun_okG (E := { P := P, T := T, nt := fn.ntmps }) hm hT htl hf (bodyOf_eq hb) rfl hal (C := { it := it, m := HL.length, L := L, hs := hs, sp := sp }) hIt rfl rfl (fun _ _ _ hh => hh) (fun e fr df H hk => ?_) h
    cases e with
    | pan x => have := hk.1; rw [hc] at this; cases this
    | nrm => exact hk.2
    | ret => exact hk.2
    | exit i => exact hk.elim
    | goto i => exact hk.elim
  · refine fun_okG (E := { P := P, T := T, nt := fn.ntmps }) hm hT htl hf (bodyOf_eq hb) rfl hal (C := { it := it, m := HL.length, L := L, hs := hs, sp := sp }) hIt rfl rfl (fun _ _ _ hh => hh) (fun e fr df H hk => ?_) h
    cases e with
    | pan x => exact hk.2
    | nrm => have := hk.1; rw [hc] at this; cases this
    | ret => have := hk.1; rw [hc] at this; cases this
    | exit i => exact hk.elim
    | goto i => exact hk.elim

theorem fun_of {P : Program} {T : Tab U} (hm : P.follows .mixedOrders = true) (hT : T.Sound P) {f : FuncId} {fn : Func} (hf : P.funcs[f]? = some fn) (hb : fn.body.isSome = true) {AL : List AV} (hal : Nat.ble AL.length fn.ntmps = true) {HL : Heap U} {R : OOut U}
    {L : Nat → Option (LRule U)} {hs : Nat → List Nat} (h : wpA { P := P, T := T, nt := fn.ntmps } { m := HL.length, L := L, hs := hs } (bodyOf fn) (frameOf 0 AL) [] HL (endG P T (fun _ => none) fn HL R)) : FunOk P f AL HL R :=
  fun_ofG (sp := fun _ => none) hm hT (fun _ _ h => by cases h) (fun _ _ h => by cases h) hf hb hal h

theorem enter_of {P : Program} {f : FuncId} {fn : Func} (hf : P.funcs[f]? = some fn) (hname : (fn.name == "runtime.NumGoroutine") = false) (hb : fn.body.isSome = true) (args : Array Value) (w : World) :
    (callFunc f args).run P w = .ok (.enter f args) w := by
  have h1 : fn.name ≠ "runtime.NumGoroutine" := by simpa using hname
  obtain ⟨c, hc⟩ := Option.isSome_iff_exists.1 hb
  simp [callFunc, hf, h1, hc]

theorem Tab.Sound.nil {P : Program} : Tab.Sound P ([] : Tab U) := trivial
theorem Tab.Sound.cons {P : Program} {f : FuncId} {c : Con U} {T : Tab U} (h : AE.Sound P f c) (hT : T.Sound P) : Tab.Sound P ((f, c) :: T) := ⟨h, hT⟩
end AE

namespace AE
open Go

variable {U : Uni}

structure FSpec2 (U : Uni) where
  X : Type
  pick : List AV → Heap U → Option X
  args : X → List AV
  H : X → Heap U
  c : X → Bool
  R : X → OOut U
  R' : X → OOut U
  pre : X → Prop := fun _ => True

def FSpec2.con (s : FSpec2 U) : Con U := fun args H base K =>
  match s.pick args H with
  | some x => s.pre x ∧ (s.c x = true → callN args (s.args x) H (s.H x) base (s.R x) K) ∧ (s.c x = false → callN args (s.args x) H (s.H x) base (s.R' x) K)
  | none => False

theorem FSpec2.sound {P : Program} {f : FuncId} (s : FSpec2 U) (he : ∀ args w, (callFunc f args).run P w = .ok (.enter f args) w)
    (h : ∀ x, s.pre x → (s.c x = true → FunOk P f (s.args x) (s.H x) (s.R x)) ∧ (s.c x = false → FunOk P f (s.args x) (s.H x) (s.R' x))) : Sound P f s.con where
  enters := he
  ok := fun args H base K hk => by
    unfold FSpec2.con at hk
    split at hk
    · rename_i x _
      cases hc : s.c x with
      | true => exact liftN_ok ((h x hk.1).1 hc) (hk.2.1 hc)
      | false => exact liftN_ok ((h x hk.1).2 hc) (hk.2.2 hc)
    · exact hk.elim
end AE

namespace AE
open Go

variable {U : Uni}

structure TdW (U : Uni) where
  run : AV → List AV → Heap U → (Heap U → Prop) → Prop
def TdOk (P : Program) (k : FuncId) (d : TdW U) : Prop :=
  (∀ args w, (callFunc k args).run P w = .ok (.enter k args) w) ∧
  ∀ (x : AV) (cs : List AV) (H : Heap U) (K : Heap U → Prop), d.run x cs H K →
    ∀ (n : Nat) (π : Plc) (w : World) (y : Value) (cvs : List Value) (u : FrameMode) (hf : Fresh π H.length), Conc π H w → Rep π x y → RepL π cs cvs → ((u = .returning ∧ y = .nilIface) ∨ u = .panicking [{ v := y, recovered := false }]) →
      CallsDIn (Fw none) n P k cvs.toArray u w (fun e u' w' => (∃ v, e = .returned v) ∧ settle u' = .returning ∧ ∃ fr2 H2 π2 a2 nt, K H2 ∧ St (Base.of π H w nt hf) fr2 [] H2 π2 w' a2)
def tdEnd (K : Heap U → Prop) (e : Ex) (_ : Fr) (df : Df) (H : Heap U) : Prop :=
  match e with
  | .nrm => sameDf df [] ∧ K H
  | .ret => sameDf df [] ∧ K H
  | _ => False
def tdOf (P : Program) (T : Tab U) (fn : Func) (c : Code) (t : Nat) : TdW U where
  run := fun x cs H K => match cs with
    | [cv] => wpA { P := P, T := T, nt := fn.ntmps } { m := H.length, L := fun _ => none, hs := fun _ => [], sp := fun _ => none } c [(t, x), (0, cv)] [] H (tdEnd K)
    | _ => False
theorem tdOf_ok {P : Program} {T : Tab U} (hm : P.follows .mixedOrders = true) (hT : T.Sound P) {k : FuncId} {fn : Func} {id : Nat} {o : Oper} {c : Code} {t : Nat} (hf : P.funcs[k]? = some fn) (he : ∀ args w, (callFunc k args).run P w = .ok (.enter k args) w)
    (hb : fn.body = some (.seq (.region id #[o] false) c)) (hr : fn.results = #[]) {ts : Array TypeId} (h1 : o.op = .call { callee := .builtin .recover, args := #[], argTypes := ts }) (hg : o.guard = none) (hd : o.dst = some t) (ht : t ≠ 0) (htn : Nat.blt t fn.ntmps = true) : TdOk P k (tdOf (U := U) P T fn c t) := by
  have htn' : t < fn.ntmps := by simpa using htn
  refine ⟨he, fun x cs1 H K hrun n π w y cvs u hfr hc hx hcvs hu => ?_⟩
  simp only [tdOf] at hrun
  split at hrun
  case h_2 => exact hrun.elim
  rename_i cx
  simp only [RepL] at hcvs
  obtain ⟨cv, zs, rfl, hcv, rfl⟩ := hcvs
  refine callsDIn_of_wpSIn hf hb trivial fun c₀ cs hcm => ?_
  have hrec : ∀ a : Act, (execOp a.eval o).run P w = .ok .recover w := by
    intro a
    simp [execOp, h1, resolve, invoke, builtin]
  obtain ⟨u', hset, hxx⟩ : ∃ u', settle u' = .returning ∧ (match recoverD (c₀ :: cs) with | some (v, cs') => v = y ∧ cs' = { c₀ with mode := u' } :: cs | none => y = .nilIface ∧ c₀ = { c₀ with mode := u' }) := by
    rcases hu with ⟨rfl, rfl⟩ | rfl
    · exact ⟨.returning, rfl, by simp [recoverD, hcm]; cases c₀; simp_all⟩
    · exact ⟨.panicking [{ v := y, recovered := true }], by simp [settle], by simp [recoverD, hcm]⟩
  let a0 : Act := { tmps := #[cv] ++ Array.replicate (fn.ntmps - (#[cv] : Array Value).size) undef, defers := [] }
  have key : ∀ cs', cs' = { c₀ with mode := u' } :: cs → c.wpSIn (Fw none) n P (bodyPostS P fn c₀ cs (fun e u' w' => (∃ v, e = .returned v) ∧ settle u' = .returning ∧ ∃ fr2 H2 π2 a2 nt, K H2 ∧ St (Base.of π H w nt hfr) fr2 [] H2 π2 w' a2)) (a0.put o.dst y) cs' w := by
    intro cs' hcs'
    have hsz : a0.tmps.size = fn.ntmps := by
      show (#[cv] ++ Array.replicate (fn.ntmps - (#[cv] : Array Value).size) undef : Array Value).size = _
      simp only [Array.size_append, List.size_toArray, List.length_singleton, Array.size_replicate]; omega
    have hS0 : St (Base.of π H w fn.ntmps hfr) [(0, cx)] [] H π w a0 := by
      refine ⟨fun s => ?_, hc, hfr, fun _ _ _ => rfl, Keeps.refl _ _, fun _ h => .inl h, hsz, trivial, rfl, Nat.le_refl _⟩
      rw [Fr.get_cons]
      split
      · rename_i e
        subst e
        have : a0.tmps.getD 0 undef = cv := by
          show (#[cv] ++ Array.replicate (fn.ntmps - (#[cv] : Array Value).size) undef : Array Value).getD 0 undef = cv
          rw [Array.getD_eq_getD_getElem?, Array.getElem?_append_left (by simp)]; rfl
        rw [this]; exact hcv
      · simp [Fr.get, Rep]
    have hS1 : St (Base.of π H w fn.ntmps hfr) [(t, x), (0, cx)] [] H π w (a0.put o.dst y) := by
      refine ⟨?_, hc, hfr, fun _ _ _ => rfl, Keeps.refl _ _, fun _ h => .inl h, by rw [Act.put_size]; exact hsz, trivial, by rw [Act.put_defers']; rfl, Nat.le_refl _⟩
      have := hS0.fr.putO (dst := some t) (v := y) (x := x) hx (by unfold dstOk; rw [hsz]; simpa using htn')
      rw [hd]; exact this
    refine wpSIn_of_wpIn rfl (Go.wpIn_mono (wpA_ok (E := { P := P, T := T, nt := fn.ntmps }) hm hT (B := Base.of π H w fn.ntmps hfr) rfl (C := { m := H.length, L := fun _ => none, hs := fun _ => [], sp := fun _ => none }) (fun _ _ h => by cases h) rfl (rd := none) (fun _ => rfl) (n := n) (fun a H K hh => hh.elim) c _ _ _ _ hrun π w _ hS1) fun e a' w' q => ?_)
    have hrun2 : ∀ tmps, (results fn tmps).run P w' = .ok (.tuple #[]) w' := by
      intro tmps
      simp [results, hr]
    cases e with
    | normal =>
      obtain ⟨fr2, df2, H2, π2, hk2, hs2⟩ := q
      obtain ⟨hdf, hk2⟩ := hk2
      cases sameDf_ok hdf
      exact ⟨hs2.df, u', hcs', _, hrun2 _, ⟨_, rfl⟩, hset, fr2, H2, π2, a', _, hk2, hs2⟩
    | ret =>
      obtain ⟨fr2, df2, H2, π2, hk2, hs2⟩ := q
      obtain ⟨hdf, hk2⟩ := hk2
      cases sameDf_ok hdf
      exact ⟨hs2.df, u', hcs', _, hrun2 _, ⟨_, rfl⟩, hset, fr2, H2, π2, a', _, hk2, hs2⟩
    | exit i => obtain ⟨_, _, _, _, hk, _⟩ := q; exact hk.elim
    | goto i => obtain ⟨_, _, _, _, hk, _⟩ := q; exact hk.elim
    | panic ch => obtain ⟨_, _, _, _, _, _, _, hk, _⟩ := q; exact hk.elim
    | outgrown => exact q.elim
  refine wpSIn_seq (wpSIn_region ?_)
  have hl : List.range (#[o] : Array Oper).size = [0] := rfl
  rw [hl, wpOpsSIn]
  have ho : (#[o] : Array Oper)[0]? = some o := rfl
  have hw : Region.wanted o (yielded #[o] a0.tmps) = true := by simp [Region.wanted, hg]
  simp only [ho]
  refine ⟨fun _ _ => trivial, ?_⟩
  rw [if_pos hw]
  simp only [hrec]
  cases hrd : recoverD (c₀ :: cs) with
  | none =>
    rw [hrd] at hxx
    obtain ⟨hx1, hx2⟩ := hxx
    subst hx1
    exact key _ (by rw [← hx2])
  | some p =>
    obtain ⟨v, cs'⟩ := p
    rw [hrd] at hxx
    simp only at hxx ⊢
    obtain ⟨hx1, hx2⟩ := hxx
    subst hx1
    exact key _ hx2

def tdEndN (K : Heap U → Prop) (e : Ex) (_ : Fr) (df : Df) (H : Heap U) : Prop :=
  match e with
  | .nrm => sameDf df [] ∧ K H
  | _ => False
def tdOf2 (P : Program) (T : Tab U) (fn : Func) (c : Code) (f : FuncId) : TdW U where
  run := fun x cs H K => match cs with
    | [c1, c2] => match T.look f with
      | some con => con [x, c1] H H.length fun
        | .val r => wpA { P := P, T := T, nt := fn.ntmps } { m := H.length, L := fun _ => none, hs := fun _ => [], sp := fun _ => none } c (Fr.put [(0, c1), (1, c2)] (some 3) r.val) [] (H.app r) (tdEndN K)
        | .panic _ => False
      | none => False
    | _ => False
theorem callsDIn_of {n : Nat} {P : Program} {k : FuncId} {fn : Func} {c : Code} {args : Array Value} {u : FrameMode} {w : World} {R : Ending → FrameMode → World → Prop} (hf : P.funcs[k]? = some fn) (hb : fn.body = some c)
    (h : ∀ (c₀ : Frame) (cs : List Frame), c₀.mode = u →
      c.wpS P (bodyPostS P fn c₀ cs fun e u' w' => (∃ v, e = .returned v) ∧ R e u' w') { tmps := args ++ Array.replicate (fn.ntmps - args.size) undef, defers := [] } (c₀ :: cs) w) :
    CallsDIn (Fw none) n P k args u w fun e u' w' => (∃ v, e = .returned v) ∧ R e u' w' := by
  refine ⟨trivial, fun c₀ cs hc _ => ?_⟩
  let b : Frame := { (default : Frame) with fn := k, kind := .deferred }
  have henter : Frame.enter P k args .deferred = b.at { tmps := args ++ Array.replicate (fn.ntmps - args.size) undef, defers := [] } [.code c] := by
    simp [Frame.enter, Frame.at, hf, hb, b]
  obtain ⟨e, a', cs', w', hq, harr⟩ := h c₀ cs hc b [] rfl rfl
  rw [← henter] at harr
  cases e with
  | normal =>
    obtain ⟨hd, u', rfl, v, hr, hR⟩ := hq
    exact ⟨.returned v, u', w', _, hR, comesIn_wide.2 (Steps.trans harr (.one step_end)), rfl, rfl, rfl, hd, fn, hf, hr⟩
  | ret =>
    obtain ⟨hd, u', rfl, v, hr, hR⟩ := hq
    obtain ⟨todo, hs⟩ := harr
    exact ⟨.returned v, u', w', _, hR, comesIn_wide.2 hs, rfl, rfl, rfl, hd, fn, hf, hr⟩
  | panic ch => obtain ⟨_, _, _, ⟨v, hv⟩, _⟩ := hq; cases hv
  | outgrown => obtain ⟨_, ⟨v, hv⟩, _⟩ := hq; cases hv
  | exit i => exact hq.elim
  | goto i => exact hq.elim
theorem tdOf2_ok {P : Program} {T : Tab U} (hm : P.follows .mixedOrders = true) (hT : T.Sound P) {k f : FuncId} {fn : Func} {id : Nat} {o1 o2 : Oper} {c : Code} (hf : P.funcs[k]? = some fn) (he : ∀ args w, (callFunc k args).run P w = .ok (.enter k args) w)
    (hb : fn.body = some (.seq (.region id #[o1, o2] false) c)) (hr : fn.results = #[]) (hnt : fn.ntmps = 6) {ts1 ts2 : Array TypeId} (h1 : o1.op = .call { callee := .builtin .recover, args := #[], argTypes := ts1 }) (hg1 : o1.guard = none) (hd1 : o1.dst = some 2)
    (h2 : o2.op = .call { callee := .value (.func f), args := #[.tmp 2, .tmp 0], argTypes := ts2 }) (hg2 : o2.guard = none) (hd2 : o2.dst = some 3) : TdOk P k (tdOf2 (U := U) P T fn c f) := by
  refine ⟨he, fun x cs1 H K hrun n π w y cvs u hfr hc hx hcvs hu => ?_⟩
  simp only [tdOf2] at hrun
  split at hrun
  case h_2 => exact hrun.elim
  rename_i x1 x2
  simp only [RepL] at hcvs
  obtain ⟨c1, zs, rfl, hc1, c2, zs2, rfl, hc2, rfl⟩ := hcvs
  split at hrun
  case h_2 => exact hrun.elim
  rename_i con hcon
  have hsound := hT.get hcon
  obtain ⟨r, hr1, hcall⟩ := hsound.ok _ _ _ _ hrun
  cases r with
  | panic _ => exact hr1.elim
  | val r =>
  have hcall' := hcall π w [y, c1] hc (RepL.cons hx (RepL.cons hc1 (RepL.nil π))) fun j k _ => hfr _ _ (by omega)
  refine callsDIn_of hf hb fun c₀ cs hcm => ?_
  have hrec : ∀ a : Act, (execOp a.eval o1).run P w = .ok .recover w := by
    intro a
    simp [execOp, h1, resolve, invoke, builtin]
  have hcallrun : ∀ (a : Act) (w : World), (execOp a.eval o2).run P w = .ok (.enter f #[a.eval (.tmp 2), a.eval (.tmp 0)]) w := by
    intro a w
    have h0 : a.eval (.func f) = .func (.func f) #[] #[] := rfl
    simp [execOp, h2, resolve, invoke, Deferred.ofValue, h0, hsound.enters]
  obtain ⟨u', hset, hxx⟩ : ∃ u', settle u' = .returning ∧ (match recoverD (c₀ :: cs) with | some (v, cs') => v = y ∧ cs' = { c₀ with mode := u' } :: cs | none => y = .nilIface ∧ c₀ = { c₀ with mode := u' }) := by
    rcases hu with ⟨rfl, rfl⟩ | rfl
    · exact ⟨.returning, rfl, by simp [recoverD, hcm]; cases c₀; simp_all⟩
    · exact ⟨.panicking [{ v := y, recovered := true }], by simp [settle], by simp [recoverD, hcm]⟩
  have e0 : (#[c1, c2] ++ Array.replicate (fn.ntmps - (#[c1, c2] : Array Value).size) undef : Array Value) = #[c1, c2, undef, undef, undef, undef] := by rw [hnt]; rfl
  have hw1 : ∀ tmps, Region.wanted o1 (yielded #[o1, o2] tmps) = true := fun _ => by simp [Region.wanted, hg1]
  have hw2 : ∀ tmps, Region.wanted o2 (yielded #[o1, o2] tmps) = true := fun _ => by simp [Region.wanted, hg2]
  refine wpS_seq (wpS_region ?_)
  have hl : List.range (#[o1, o2] : Array Oper).size = [0, 1] := rfl
  rw [hl]
  have e0' : ((([c1, c2] : List Value).toArray) ++ Array.replicate (fn.ntmps - (([c1, c2] : List Value).toArray).size) undef : Array Value) = #[c1, c2, undef, undef, undef, undef] := e0
  rw [e0']
  let a1 : Act := { tmps := #[c1, c2, y, undef, undef, undef], defers := [] }
  let Q := Exit.thenS (c.wpS P (bodyPostS P fn c₀ cs (fun e u' w' => (∃ v, e = .returned v) ∧ settle u' = .returning ∧ ∃ fr2 H2 π2 a2 nt, K H2 ∧ St (Base.of π H w nt hfr) fr2 [] H2 π2 w' a2))) (bodyPostS P fn c₀ cs (fun e u' w' => (∃ v, e = .returned v) ∧ settle u' = .returning ∧ ∃ fr2 H2 π2 a2 nt, K H2 ∧ St (Base.of π H w nt hfr) fr2 [] H2 π2 w' a2))
  have key : ∀ cs', cs' = { c₀ with mode := u' } :: cs → wpOpsS P #[o1, o2] Q [1] a1 cs' w := by
    intro cs' hcs'
    simp only [wpOpsS]
    have ho : (#[o1, o2] : Array Oper)[1]? = some o2 := rfl
    simp only [ho, hw2, if_true, hcallrun]
    have ev : (#[a1.eval (.tmp 2), a1.eval (.tmp 0)] : Array Value) = #[y, c1] := rfl
    rw [ev]
    show Oper.upon _ _ _ _ _ _
    rw [Oper.upon_enter]
    refine hcall'.mono fun e w' h => ?_
    obtain ⟨v, πn, he', hp⟩ := h
    subst he'
    have hS0 : St (Base.of π H w fn.ntmps hfr) [(0, x1), (1, x2)] [] H π w a1 := by
      refine ⟨fun s => ?_, hc, hfr, fun _ _ _ => rfl, Keeps.refl _ _, fun _ h => .inl h, by rw [hnt]; rfl, trivial, rfl, Nat.le_refl _⟩
      rw [Fr.get_cons]
      split
      · rename_i e; subst e; exact hc1
      · rw [Fr.get_cons]
        split
        · rename_i e; subst e; exact hc2
        · simp [Fr.get, Rep]
    have hS2 := hS0.step (Step.post (dst := o2.dst) hS0.conc hS0.fr hS0.fresh hp (by rw [hd2]; rfl))
    rw [hd2] at hS2 ⊢
    show c.wpS P _ _ _ _
    refine wpS_of_wp (wpIn_wide.1 (Go.wpIn_mono (wpA_ok (E := { P := P, T := T, nt := fn.ntmps }) hm hT (B := Base.of π H w fn.ntmps hfr) rfl (C := { m := H.length, L := fun _ => none, hs := fun _ => [], sp := fun _ => none }) (fun _ _ h => by cases h) rfl (rd := none) (fun _ => rfl) (n := 0) (fun a H K hh => hh.elim) c _ _ _ _ hr1 πn w' _ hS2) fun e a' w2 q => ?_))
    cases e with
    | normal =>
      obtain ⟨fr2, df2, H2, π2, hk2, hs2⟩ := q
      obtain ⟨hdf, hk2⟩ := hk2
      cases sameDf_ok hdf
      exact ⟨hs2.df, u', hcs', .tuple #[], by simp [results, hr], ⟨_, rfl⟩, hset, fr2, H2, π2, a', _, hk2, hs2⟩
    | ret => obtain ⟨_, _, _, _, hk, _⟩ := q; exact hk.elim
    | exit i => obtain ⟨_, _, _, _, hk, _⟩ := q; exact hk.elim
    | goto i => obtain ⟨_, _, _, _, hk, _⟩ := q; exact hk.elim
    | panic ch => obtain ⟨_, _, _, _, _, _, _, hk, _⟩ := q; exact hk.elim
    | outgrown => exact q.elim
  rw [wpOpsS]
  have ho : (#[o1, o2] : Array Oper)[0]? = some o1 := rfl
  have ea : (({ tmps := #[c1, c2, undef, undef, undef, undef], defers := [] } : Act).put o1.dst y) = a1 := by rw [hd1]; rfl
  simp only [ho, hw1, if_true, hrec]
  cases hrd : recoverD (c₀ :: cs) with
  | none =>
    rw [hrd] at hxx
    simp only
    obtain ⟨hx1, hx2⟩ := hxx
    subst hx1
    rw [ea]
    exact key _ (by rw [← hx2])
  | some p =>
    obtain ⟨v, cs'⟩ := p
    rw [hrd] at hxx
    simp only at hxx ⊢
    obtain ⟨hx1, hx2⟩ := hxx
    subst hx1
    rw [ea]
    exact key _ hx2

def tdHit (td : Nat → Option (TdW U)) (df : Df) : Option (TdW U × List AV) :=
  match df with
  | [.call (.func k) caps xs] => match td k with
    | some d => some (d, xs ++ caps)
    | none => none
  | _ => none
theorem tdHit_ok {td : Nat → Option (TdW U)} {df : Df} {d : TdW U} {cs : List AV} (h : tdHit td df = some (d, cs)) : ∃ k caps xs, df = [.call (.func k) caps xs] ∧ td k = some d ∧ cs = xs ++ caps := by
  unfold tdHit at h
  split at h
  · rename_i k caps xs
    split at h
    · rename_i d' hd
      cases h
      exact ⟨k, caps, xs, rfl, hd, rfl⟩
    · cases h
  · cases h
def endT (P : Program) (T : Tab U) (tl : Nat → Option FuncId) (td : Nat → Option (TdW U)) (fn : Func) (HL : Heap U) (R : OOut U) (e : Ex) (fr : Fr) (df : Df) (H : Heap U) : Prop :=
  match tdHit td (stripM df) with
  | some (d, c) => match e with
    | .nrm => d.run (.v .nilIface) c H fun H2 => endA0 P fn HL R .ret fr H2
    | .ret => d.run (.v .nilIface) c H fun H2 => endA0 P fn HL R .ret fr H2
    | .pan x => d.run x c H fun H2 => endA0 P fn HL R .ret fr H2
    | _ => False
  | none => endG P T tl fn HL R e fr df H

theorem fun_okT {E : Env U} (hm : E.P.follows .mixedOrders = true) (hT : E.T.Sound E.P) {tl : Nat → Option FuncId} (htl : ∀ k f, tl k = some f → ToldOk E.P k f) {td : Nat → Option (TdW U)} (htd : ∀ k d, td k = some d → TdOk E.P k d) {f : FuncId} {fn : Func} {c : Code} (hf : E.P.funcs[f]? = some fn) (hb : fn.body = some c) (hnt : E.nt = fn.ntmps) {AL : List AV} (hal : Nat.ble AL.length fn.ntmps = true) {HL : Heap U} {R : OOut U} {C : Cfg U}
    (hIt : ∀ k it, C.it k = some it → ItOk E.P it) (hCm : C.m = HL.length) (hr : C.rnd = false) (hEY : ∀ a H K, ¬ E.Y a H K)
    {K : Ex → Fr → Df → Heap U → Prop} (hK : ∀ e fr df H, K e fr df H → endT E.P E.T tl td fn HL R e fr df H) (h : wpA E C c (frameOf 0 AL) [] HL K) : FunOk E.P f AL HL R := by
  have hal' : AL.length ≤ fn.ntmps := by simpa using hal
  have start : ∀ (π : Plc) (w : World) (vs : List Value) (hfr : Fresh π HL.length), Conc π HL w → RepL π AL vs →
      St (Base.of π HL w E.nt hfr) (frameOf 0 AL) [] HL π w { tmps := vs.toArray ++ Array.replicate (fn.ntmps - vs.toArray.size) undef, defers := [] } := by
    intro π w vs hfr hc hv
    have hl := hv.length
    refine ⟨frameOf_ok fun j x hx => ?_, hc, hfr, fun _ _ _ => rfl, Keeps.refl _ _, fun _ h => .inl h, ?_, trivial, rfl, Nat.le_refl _⟩
    · obtain ⟨y, hy, hr⟩ := hv.get hx
      have hj : j < vs.length := (List.getElem?_eq_some_iff.1 hy).1
      have : (vs.toArray ++ Array.replicate (fn.ntmps - vs.toArray.size) undef).getD (0 + j) undef = y := by
        rw [Nat.zero_add, Array.getD_eq_getD_getElem?, Array.getElem?_append_left (by simpa using hj)]
        simp [hy]
      rw [this]; exact hr
    · simp only [Array.size_append, List.size_toArray, Array.size_replicate]
      rw [hnt]; omega
  have main : ∀ (RR : Ending → World → Prop) (π : Plc) (w : World) (vs : List Value) (hfr : Fresh π HL.length), Conc π HL w → RepL π AL vs →
      (∀ e fr H π' w' (a' : Act), (e = .nrm ∨ e = .ret) → endA0 E.P fn HL R e fr H → St (Base.of π HL w E.nt hfr) fr [] H π' w' a' → ∃ v, (results fn a'.tmps).run E.P w' = .ok v w' ∧ RR (.returned v) w') →
      (∀ x y fr H π' w' (a' : Act), endA0 E.P fn HL R (.pan x) fr H → Rep π' x y → St (Base.of π HL w E.nt hfr) fr [] H π' w' a' → RR (.panicked [{ v := y, recovered := false }]) w') →
      Calls E.P f vs.toArray w RR := by
    intro RR π w vs hfr hc hv kret kpan
    have tail : ∀ (e : Ex) (x : AV) (y : Value) (u : FrameMode) fr df H π' w' (a' : Act), ((e = .nrm ∨ e = .ret) ∧ u = .returning ∧ x = .v .nilIface ∧ y = .nilIface ∨ e = .pan x ∧ u = .panicking [{ v := y, recovered := false }]) → Rep π' x y → endT E.P E.T tl td fn HL R e fr df H →
        St (Base.of π HL w E.nt hfr) fr (stripM df) H π' w' a' → LeavesInM (Fw none) 0 E.P fn a'.tmps RR a'.defers u w' := by
      intro e x y u fr df H π' w' a' he hxy hk hS
      unfold endT at hk
      split at hk
      · rename_i d c hit
        obtain ⟨k, caps, xs, hdf, htd', rfl⟩ := tdHit_ok hit
        rw [hdf] at hS
        obtain ⟨cap, args, ds', hds, hcap, hargs, hrest⟩ := hS.df
        have hds' : ds' = [] := hrest
        subst hds'
        have hcr := RepL.append hargs hcap
        have hca : args ++ cap = (args.toList ++ cap.toList).toArray := by simp
        have htok := htd k d htd'
        have hrun : d.run x (xs ++ caps) H (fun H2 => endA0 E.P fn HL R .ret fr H2) := by
          rcases he with ⟨he, _, rfl, _⟩ | ⟨rfl, _⟩
          · rcases he with rfl | rfl <;> exact hk
          · exact hk
        have hnr : u ≠ .run := by rcases he with ⟨_, rfl, _⟩ | ⟨_, rfl⟩ <;> simp
        rw [hds]
        have hu : (u = .returning ∧ y = .nilIface) ∨ u = .panicking [{ v := y, recovered := false }] := by
          rcases he with ⟨_, h1, _, h2⟩ | ⟨_, h⟩
          · exact .inl ⟨h1, h2⟩
          · exact .inr h
        refine ⟨hnr, .inr ⟨fun hh => by simp [Fw, Fence.wide] at hh, _, _, k, (args.toList ++ cap.toList).toArray, rfl, ?_, fun _ _ => trivial, ?_⟩⟩
        · show (callFunc k (args ++ cap)).run E.P w' = _
          rw [hca]
          exact htok.1 _ _
        · refine (htok.2 x (xs ++ caps) H _ hrun (0 - 1) π' w' y _ u hS.fresh hS.conc hxy hcr hu).mono fun e u' w2 h2 => ?_
          obtain ⟨⟨v, rfl⟩, hset, fr2, H2, π2, a2, nt2, hk2, hs2⟩ := h2
          simp only [hset]
          have hS0 : St (Base.of π HL w E.nt hfr) fr [] H π' w' { a' with defers := [] } := ⟨hS.fr, hS.conc, hS.fresh, hS.only, hS.keeps, hS.own, hS.nt, trivial, rfl, hS.len⟩
          have hStep : Step π' H w' { a' with defers := [] } fr H2 π2 w2 { a' with defers := [] } :=
            { fr := hS.fr.mono hs2.sub, conc := hs2.conc, fresh := hs2.fresh, sub := hs2.sub, only := hs2.only, keeps := hs2.keeps.weaken fun n _ h => h.resolve_right (fun h => h), own := hs2.own, nt := rfl, defers := rfl, len := hs2.len }
          have hS2 := hS0.step hStep
          obtain ⟨v3, hv1, hv2⟩ := kret .ret fr H2 π2 w2 _ (.inr rfl) hk2 hS2
          exact ⟨v3, hv1, hv2⟩
      unfold endG at hk
      split at hk
      · rename_i hdf
        rw [hdf] at hS
        have hd : a'.defers = [] := hS.df
        rw [hd]
        rcases he with ⟨he, rfl, _⟩ | ⟨rfl, rfl⟩
        · obtain ⟨v, hv1, hv2⟩ := kret e fr H π' w' a' he hk hS
          exact ⟨v, hv1, hv2⟩
        · exact kpan x y fr H π' w' a' hk hxy hS
      · rename_i k c hdf
        rw [hdf] at hS
        split at hk
        case h_2 => exact hk.elim
        rename_i g htg
        split at hk
        case h_2 => exact hk.elim
        rename_i con hcon
        obtain ⟨cap, args, ds', hds, hcap, hargs, hrest⟩ := hS.df
        have hds' : ds' = [] := hrest
        subst hds'
        have hargs' : args = #[] := by apply Array.toList_inj.1; simpa [RepL] using hargs
        subst hargs'
        simp only [RepL] at hcap
        obtain ⟨cv, zs, hcl, hcr, hz⟩ := hcap
        subst hz
        have hcap' : cap = #[cv] := by apply Array.toList_inj.1; rw [hcl]
        subst hcap'
        have hsound := hT.get hcon
        have htold := htl k g htg
        have hcon' : con [x, c] H H.length fun
          | .val r => worked (fun _ fr _ H => endA0 E.P fn HL R .ret fr H) .ret fr [] (H.app r)
          | .panic _ => False := by
          rcases he with ⟨he, _, rfl, _⟩ | ⟨rfl, _⟩
          · rcases he with rfl | rfl <;> exact hk
          · exact hk
        obtain ⟨r, hr1, hcall⟩ := hsound.ok _ _ _ _ hcon'
        cases r with
        | panic _ => exact hr1.elim
        | val r =>
          have hcall' := hcall π' w' [y, cv] hS.conc (RepL.cons hxy (RepL.cons hcr (RepL.nil π'))) fun j k _ => hS.fresh _ _ (by omega)
          have hnr : u ≠ .run := by rcases he with ⟨_, rfl, _⟩ | ⟨_, rfl⟩ <;> simp
          rw [hds]
          have hu : (u = .returning ∧ y = .nilIface) ∨ u = .panicking [{ v := y, recovered := false }] := by
            rcases he with ⟨_, h1, _, h2⟩ | ⟨_, h⟩
            · exact .inl ⟨h1, h2⟩
            · exact .inr h
          refine ⟨hnr, .inr ⟨fun hh => by simp [Fw, Fence.wide] at hh, _, _, k, #[cv], rfl, ?_, fun _ _ => trivial, ?_⟩⟩
          · show (callFunc k (#[] ++ #[cv])).run E.P w' = _
            rw [show (#[] ++ #[cv] : Array Value) = #[cv] by simp]
            exact htold.1 _ _
          · refine (htold.2 (0 - 1) y cv u w' (fun w2 => ∃ v πn, Post H H.length r π' πn w' w2 v) hu (hcall'.mono fun e w2 h2 => ?_)).mono fun e u' w2 h2 => ?_
            · obtain ⟨v, πn, he', hp⟩ := h2; exact ⟨v, he', v, πn, hp⟩
            · obtain ⟨⟨v, rfl⟩, hset, v', πn, hp⟩ := h2
              simp only [hset]
              have hS0 : St (Base.of π HL w E.nt hfr) fr [] H π' w' { a' with defers := [] } := ⟨hS.fr, hS.conc, hS.fresh, hS.only, hS.keeps, hS.own, hS.nt, trivial, rfl, hS.len⟩
              have hS2 := hS0.step (Step.post (dst := none) hS.conc hS.fr hS.fresh hp rfl)
              obtain ⟨v3, hv1, hv2⟩ := kret .ret fr (H.app r) πn w2 _ (.inr rfl) (worked_ok hr1) hS2
              exact ⟨v3, hv1, hv2⟩
      · exact hk.elim
    have noExit : ∀ (e : Ex) fr df H, (∃ i, e = .exit i ∨ e = .goto i) → ¬ endT E.P E.T tl td fn HL R e fr df H := by
      intro e fr df H he hk
      unfold endT at hk
      split at hk
      · obtain ⟨i, rfl | rfl⟩ := he <;> exact hk
      unfold endG at hk
      split at hk
      · obtain ⟨i, rfl | rfl⟩ := he <;> exact hk
      · split at hk
        · split at hk
          · obtain ⟨i, rfl | rfl⟩ := he <;> exact hk
          · exact hk
        · exact hk
      · exact hk
    refine callsIn_wide.1 (callsIn_of_wp_marks (n := 0) hf hb trivial (Go.wpIn_mono (wpA_ok hm hT (B := Base.of π HL w E.nt hfr) rfl hIt hCm (rd := none) (fun _ => rfl) (n := 0) (fun a H K hh => (hEY a H K hh).elim) c _ _ _ _ h π w _ (start π w vs hfr hc hv)) fun e a w' q => ?_))
    replace q := QOf.mono hK e a w' q
    cases e with
    | normal =>
      obtain ⟨fr, df, H, π', hk, hS⟩ := q
      exact leaves_marks (by simp) df w' a rfl hS fun w2 a2 ht hS2 => by rw [← ht]; exact tail .nrm (.v .nilIface) .nilIface .returning fr df H π' w2 a2 (.inl ⟨.inl rfl, rfl, rfl, rfl⟩) (by simp [Rep]) hk hS2
    | ret =>
      obtain ⟨fr, df, H, π', hk, hS⟩ := q
      exact leaves_marks (by simp) df w' a rfl hS fun w2 a2 ht hS2 => by rw [← ht]; exact tail .ret (.v .nilIface) .nilIface .returning fr df H π' w2 a2 (.inl ⟨.inr rfl, rfl, rfl, rfl⟩) (by simp [Rep]) hk hS2
    | panic ch =>
      obtain ⟨x, y, fr, df, H, π', rfl, hk, hxy, hS⟩ := q
      exact leaves_marks (by simp) df w' a rfl hS fun w2 a2 ht hS2 => by rw [← ht]; exact tail (.pan x) x y _ fr df H π' w2 a2 (.inr ⟨rfl, rfl⟩) hxy hk hS2
    | exit i => obtain ⟨fr, df, H, π', hk, hS⟩ := q; exact (noExit _ _ _ _ ⟨i, .inl rfl⟩ hk).elim
    | goto i => obtain ⟨fr, df, H, π', hk, hS⟩ := q; exact (noExit _ _ _ _ ⟨i, .inr rfl⟩ hk).elim
    | outgrown => exact q.elim
  cases R with
  | val r =>
    intro π w vs hfr hc hv
    refine main _ π w vs hfr hc hv (fun e fr H π' w' a' he hk hS => ?_) (fun x y fr H π' w' a' hk _ _ => hk.elim)
    have hk' : ownCov (r.upd.map (·.1) ++ r.kill.map (·.1)) 0 HL ∧ isB (okR HL r) (resA E.P fn.results.toList fr H fun vs => weakN HL.length [(0, tupOf vs)] [] H [(0, r.val)] (HL.app r)) := by
      rcases he with rfl | rfl <;> exact hk
    obtain ⟨hcov, hk⟩ := hk'
    obtain ⟨hok, hk⟩ := isB_ok hk
    obtain ⟨xs, hw, hres⟩ := results_ok hk
    obtain ⟨v, hrun, hrep⟩ := hres π' w' a'.tmps hS.conc hS.fr
    have hS0 : St (Base.of π HL w 1 hfr) [(0, tupOf xs)] [] H π' w' { tmps := #[v], defers := [] } := by
      refine ⟨fun t => ?_, hS.conc, hS.fresh, hS.only, hS.keeps, hS.own, rfl, trivial, rfl, hS.len⟩
      rw [Fr.get_cons]
      split
      · rename_i e; subst e; exact hrep
      · simp [Fr.get, Rep]
    obtain ⟨πn, hSn⟩ := weakN_ok hw hS0
    exact ⟨v, hrun, v, πn, rfl, post_of hfr hc hcov hok hSn rfl⟩
  | panic x =>
    intro π w vs hfr hc hv
    refine main _ π w vs hfr hc hv (fun e fr H π' w' a' he hk _ => by rcases he with rfl | rfl <;> exact hk.elim) (fun x' y fr H π' w' a' hk hr hS => ?_)
    obtain ⟨hcov, hk⟩ := hk
    obtain ⟨hfx, hk⟩ := isB_ok hk
    refine ⟨y, rfl, (leV_ok hS.conc hk hr).fixed hfx, hS.keeps.weaken fun n hn hh => ?_⟩
    obtain ⟨id, k, b0, p, hb0, ho, _⟩ := hh.resolve_right (fun h => h)
    have := (ownCov_get hcov hb0 ho).1
    cases this

theorem fun_ofT {P : Program} {T : Tab U} (hm : P.follows .mixedOrders = true) (hT : T.Sound P) {td : Nat → Option (TdW U)} (htd : ∀ k d, td k = some d → TdOk P k d) {it : Nat → Option (ItW U)} (hIt : ∀ k i, it k = some i → ItOk P i) {f : FuncId} {fn : Func} (hf : P.funcs[f]? = some fn) (hb : fn.body.isSome = true) {AL : List AV} (hal : Nat.ble AL.length fn.ntmps = true) {HL : Heap U} {R : OOut U}
    {L : Nat → Option (LRule U)} {hs : Nat → List Nat} {sp : Nat → Option (Nat × Nat)} (h : wpA { P := P, T := T, nt := fn.ntmps } { it := it, m := HL.length, L := L, hs := hs, sp := sp } (bodyOf fn) (frameOf 0 AL) [] HL (endT P T (fun _ => none) td fn HL R)) : FunOk P f AL HL R :=
  fun_okT (E := { P := P, T := T, nt := fn.ntmps }) hm hT (fun _ _ h => by cases h) htd hf (bodyOf_eq hb) rfl hal (C := { it := it, m := HL.length, L := L, hs := hs, sp := sp }) hIt rfl rfl (fun _ _ _ hh => hh) (fun _ _ _ _ h => h) h
end AE
namespace AE
open Go
variable {U : Uni}
theorem fun_of2 {P : Program} {T : Tab U} (hm : P.follows .mixedOrders = true) (hT : T.Sound P) {td : Nat → Option (TdW U)} (htd : ∀ k d, td k = some d → TdOk P k d) {it : Nat → Option (ItW U)} (hIt : ∀ k i, it k = some i → ItOk P i) {f : FuncId} {fn : Func} (hf : P.funcs[f]? = some fn) (hb : fn.body.isSome = true) {AL : List AV} (hal : Nat.ble AL.length fn.ntmps = true) {HL : Heap U} {c : Bool} {R R' : OOut U}
    {L : Nat → Option (LRule U)} {hs : Nat → List Nat} {sp : Nat → Option (Nat × Nat)} (h : wpA { P := P, T := T, nt := fn.ntmps } { it := it, m := HL.length, L := L, hs := hs, sp := sp } (bodyOf fn) (frameOf 0 AL) [] HL (fun e fr df H => (c = true → endT P T (fun _ => none) td fn HL R e fr df H) ∧ (c = false → endT P T (fun _ => none) td fn HL R' e fr df H))) : (c = true → FunOk P f AL HL R) ∧ (c = false → FunOk P f AL HL R') :=
  ⟨fun hc => fun_okT (E := { P := P, T := T, nt := fn.ntmps }) hm hT (fun _ _ h => by cases h) htd hf (bodyOf_eq hb) rfl hal (C := { it := it, m := HL.length, L := L, hs := hs, sp := sp }) hIt rfl rfl (fun _ _ _ hh => hh) (fun _ _ _ _ h => h.1 hc) h,
   fun hc => fun_okT (E := { P := P, T := T, nt := fn.ntmps }) hm hT (fun _ _ h => by cases h) htd hf (bodyOf_eq hb) rfl hal (C := { it := it, m := HL.length, L := L, hs := hs, sp := sp }) hIt rfl rfl (fun _ _ _ hh => hh) (fun _ _ _ _ h => h.2 hc) h⟩
end AE

namespace AE.Soil
open Go AE

abbrev Span := Int × Int
abbrev Mix3 := Span × Span × Span
abbrev PitT := Int × Span × Span × Span × Span
abbrev StepT := Int × Int × Int
abbrev TeamT := Span × Span × Span × Int
abbrev Sd := Nat × Nat × Nat
def vSd (s : Sd) : AV := match s.1 with
  | 0 => .v (.slice none 0 0)
  | 1 => .gs s.2.1 0
  | _ + 2 => .sl s.2.1 0 0 s.2.2
theorem vSd_one (s : Sd) : (vSd s).one = true := by
  unfold vSd
  split <;> rfl
def gSd : List AV → Nat → Sd
  | .gs id _ :: _, 0 => (1, id, 0)
  | .sl id _ _ n :: _, 0 => (2, id, n)
  | _ :: l, n + 1 => gSd l n
  | _, _ => (0, 0, 0)

inductive CC where
  | int | span | mix | pit | u16 | rmix | place | tell | bool | psp
  | tstep | team | stp (id : Nat) | plotk (a b : Nat) | plotg | rhorse
  deriving DecidableEq

def CC.ty : CC → Type
  | .int => Int
  | .span => Span
  | .mix => Mix3
  | .pit => PitT
  | .u16 => Int
  | .rmix => Int × Int
  | .place => Int × Int × Int × Int
  | .tell => Bool × PitT
  | .bool => Bool
  | .psp => Nat × Nat
  | .tstep => StepT
  | .team => TeamT
  | .stp _ => Bool × Int
  | .plotk _ _ => (Int × Int × Int) × Nat × Nat × Nat
  | .plotg => (Int × Int × Int) × Sd × Sd
  | .rhorse => Int × Int × Int × Bool

def gi : List AV → Nat → Int
  | .v (.int _ n) :: _, 0 => n
  | _ :: l, n + 1 => gi l n
  | _, _ => 0
def gb : List AV → Bool
  | [.v (.bool b)] => b
  | _ => false
def encP (p : PitT) : List AV := [.i p.1, .i p.2.1.1, .i p.2.1.2, .i p.2.2.1.1, .i p.2.2.1.2, .i p.2.2.2.1.1, .i p.2.2.2.1.2, .i p.2.2.2.2.1, .i p.2.2.2.2.2]
def decPit (l : List AV) : PitT := (gi l 0, (gi l 1, gi l 2), (gi l 3, gi l 4), (gi l 5, gi l 6), (gi l 7, gi l 8))
def vTell (t : Bool × PitT) : AV := .alt t.1 (.ifc 146 (.agg [])) (.ifc 149 (.agg (encP t.2)))
def decTell : AV → Bool × PitT
  | .alt c _ (.ifc _ (.agg l)) => (c, decPit l)
  | .ifc _ (.agg []) => (true, (0, (0, 0), (0, 0), (0, 0), (0, 0)))
  | .ifc _ (.agg l) => (false, decPit l)
  | _ => (true, (0, (0, 0), (0, 0), (0, 0), (0, 0)))

def vStp (id : Nat) (x : Bool × Int) : AV := .alt x.1 (.ifc 127 (.agg [.ptr id 0 0 0, .i x.2])) (.ifc 128 (.agg [.ptr id 0 0 0, .i x.2]))
def decStp : List AV → Bool × Int
  | [.alt c _ (.ifc _ (.agg [_, .v (.int _ n)]))] => (c, n)
  | [.ifc t (.agg [_, .v (.int _ n)])] => (Nat.beq t 127, n)
  | _ => (true, 0)
def decPtr : List AV → Nat × Nat
  | [.ptr id 0 0 fo] => (id, fo)
  | _ => (0, 0)
def CC.enc : (c : CC) → c.ty → List AV
  | .int, x => [.i x]
  | .span, s => [.i s.1, .i s.2]
  | .mix, m => [.i m.1.1, .i m.1.2, .i m.2.1.1, .i m.2.1.2, .i m.2.2.1, .i m.2.2.2]
  | .pit, p => [.i p.1, .i p.2.1.1, .i p.2.1.2, .i p.2.2.1.1, .i p.2.2.1.2, .i p.2.2.2.1.1, .i p.2.2.2.1.2, .i p.2.2.2.2.1, .i p.2.2.2.2.2]
  | .u16, x => [.v (.int .u16 x)]
  | .rmix, m => [.i m.1, .i m.2]
  | .place, m => [.i m.1, .i m.2.1, .i m.2.2.1, .i m.2.2.2]
  | .tell, t => [vTell t]
  | .bool, b => [.b b]
  | .psp, p => [.ptr p.1 0 0 p.2]
  | .tstep, s => [.i s.1, .i s.2.1, .i s.2.2]
  | .team, t => [.i t.1.1, .i t.1.2, .i t.2.1.1, .i t.2.1.2, .i t.2.2.1.1, .i t.2.2.1.2, .i t.2.2.2]
  | .stp id, x => [vStp id x]
  | .plotk a b, x => [.i x.1.1, .i x.1.2.1, .i x.1.2.2, .sl a x.2.2.2 0 x.2.1, .sl b x.2.2.2 0 x.2.2.1]
  | .plotg, x => [.i x.1.1, .i x.1.2.1, .i x.1.2.2, vSd x.2.1, vSd x.2.2]
  | .rhorse, x => [.i x.1, .i x.2.1, .i x.2.2.1, .b x.2.2.2]
def CC.dec : (c : CC) → List AV → c.ty
  | .int, l => gi l 0
  | .span, l => (gi l 0, gi l 1)
  | .mix, l => ((gi l 0, gi l 1), (gi l 2, gi l 3), (gi l 4, gi l 5))
  | .pit, l => (gi l 0, (gi l 1, gi l 2), (gi l 3, gi l 4), (gi l 5, gi l 6), (gi l 7, gi l 8))
  | .u16, l => gi l 0
  | .rmix, l => (gi l 0, gi l 1)
  | .place, l => (gi l 0, gi l 1, gi l 2, gi l 3)
  | .tell, [x] => decTell x
  | .tell, _ => (true, (0, (0, 0), (0, 0), (0, 0), (0, 0)))
  | .bool, l => gb l
  | .psp, l => decPtr l
  | .tstep, l => (gi l 0, gi l 1, gi l 2)
  | .team, l => ((gi l 0, gi l 1), (gi l 2, gi l 3), (gi l 4, gi l 5), gi l 6)
  | .stp _, l => decStp l
  | .plotk _ _, l => ((gi l 0, gi l 1, gi l 2), 0, 0, 0)
  | .plotg, l => ((gi l 0, gi l 1, gi l 2), gSd l 3, gSd l 4)
  | .rhorse, l => (gi l 0, gi l 1, gi l 2, gb (l.drop 3))
def CC.df : (c : CC) → c.ty
  | .int => (0 : Int)
  | .span => ((0, 0) : Span)
  | .mix => (((0, 0), (0, 0), (0, 0)) : Mix3)
  | .pit => ((0, (0, 0), (0, 0), (0, 0), (0, 0)) : PitT)
  | .u16 => (0 : Int)
  | .rmix => ((0, 0) : Int × Int)
  | .place => ((0, 0, 0, 0) : Int × Int × Int × Int)
  | .tell => ((true, 0, (0, 0), (0, 0), (0, 0), (0, 0)) : Bool × PitT)
  | .bool => false
  | .psp => ((0, 0) : Nat × Nat)
  | .tstep => ((0, 0, 0) : StepT)
  | .team => (((0, 0), (0, 0), (0, 0), 0) : TeamT)
  | .stp _ => ((true, 0) : Bool × Int)
  | .plotk _ _ => (((0, 0, 0), 0, 0, 0) : (Int × Int × Int) × Nat × Nat × Nat)
  | .plotg => (((0, 0, 0), (0, 0, 0), (0, 0, 0)) : (Int × Int × Int) × Sd × Sd)
  | .rhorse => ((0, 0, 0, false) : Int × Int × Int × Bool)
def CC.sz : CC → Nat
  | .int => 1
  | .span => 2
  | .mix => 6
  | .pit => 9
  | .u16 => 1
  | .rmix => 2
  | .place => 4
  | .tell => 1
  | .bool => 1
  | .psp => 1
  | .tstep => 3
  | .team => 7
  | .stp _ => 1
  | .plotk _ _ => 5
  | .plotg => 5
  | .rhorse => 4
def CC.code : Nat → Option CC
  | 3 => some .int
  | 4 => some .bool
  | 26 => some .span
  | 151 => some .mix
  | 61 => some .pit
  | 907166 => some .u16
  | 936793 => some .rmix
  | 943211 => some .place
  | 156 => some .tell
  | 911770 => some .psp
  | 55 => some .tstep
  | 28 => some .team
  | 107 => some (.stp 0)
  | 35 => some .plotg
  | 946683 => some .rhorse
  | _ => none
def CC.mv : CC → Bool
  | .stp _ => true
  | .plotk _ _ => true
  | _ => false
def CC.ids : CC → List Nat
  | .stp id => [id]
  | .plotk a b => [a, b]
  | _ => []
def CC.rc (τ : Nat → Nat) : CC → CC
  | .stp id => .stp (τ id)
  | .plotk a b => .plotk (τ a) (τ b)
  | .int => .int
  | .span => .span
  | .mix => .mix
  | .pit => .pit
  | .u16 => .u16
  | .rmix => .rmix
  | .place => .place
  | .tell => .tell
  | .bool => .bool
  | .psp => .psp
  | .tstep => .tstep
  | .team => .team
  | .plotg => .plotg
  | .rhorse => .rhorse
def CC.rce (τ : Nat → Nat) : (c : CC) → c.ty → (c.rc τ).ty
  | .stp _, x => x
  | .plotk _ _, x => x
  | .int, x => x
  | .span, x => x
  | .mix, x => x
  | .pit, x => x
  | .u16, x => x
  | .rmix, x => x
  | .place, x => x
  | .tell, x => x
  | .bool, x => x
  | .psp, x => x
  | .tstep, x => x
  | .team, x => x
  | .plotg, x => x
  | .rhorse, x => x
def CC.rcl (τ : Nat → Nat) : (c : CC) → List c.ty → List (c.rc τ).ty
  | .stp _, x => x
  | .plotk _ _, x => x
  | .int, x => x
  | .span, x => x
  | .mix, x => x
  | .pit, x => x
  | .u16, x => x
  | .rmix, x => x
  | .place, x => x
  | .tell, x => x
  | .bool, x => x
  | .psp, x => x
  | .tstep, x => x
  | .team, x => x
  | .plotg, x => x
  | .rhorse, x => x

inductive MM where
  | pits | safe
  deriving DecidableEq
def MM.ty : MM → Type
  | .pits => Int × Mix3
  | .safe => Int × Int × Bool
def MM.code : Nat → Option MM
  | 148 => some .pits
  | 92 => some .safe
  | _ => none

def UU : Uni where
  C := CC
  deq := inferInstance
  ty := CC.ty
  enc := CC.enc
  dec := CC.dec
  df := CC.df
  sz := CC.sz
  code := CC.code
  M := MM
  mdeq := inferInstance
  mty := MM.ty
  mkey := fun | .pits, x => [x.1] | .safe, x => [x.1, x.2.1]
  mval := fun | .pits, x => .agg (CC.enc .mix x.2) | .safe, x => .b x.2.2
  mdec := fun | .pits, k, v => (k.getD 0 0, match v with | .agg l => CC.dec .mix l | _ => ((0, 0), (0, 0), (0, 0))) | .safe, k, v => (k.getD 0 0, k.getD 1 0, gb [v])
  mdf := fun | .pits => ((0, (0, 0), (0, 0), (0, 0)) : Int × Mix3) | .safe => ((0, 0, false) : Int × Int × Bool)
  mks := fun | .pits => (false, [.i64]) | .safe => (true, [.i64, .i64])
  mcode := MM.code
  len := fun c x => by cases c <;> rfl
  ones := fun c x a h => by
    cases c <;> simp only [CC.enc, List.mem_cons, List.not_mem_nil, or_false] at h <;> rcases h with rfl | rfl | rfl | rfl | rfl | rfl | rfl | rfl | rfl <;> first | rfl | exact vSd_one _
  pl := fun c => match c with
    | .psp => false
    | .stp _ => false
    | .plotk _ _ => false
    | .plotg => false
    | _ => true
  plok := fun c h x a ha => by
    cases c <;> first
      | (cases h; done)
      | (simp only [CC.enc, List.mem_cons, List.not_mem_nil, or_false] at ha <;> rcases ha with rfl | rfl | rfl | rfl | rfl | rfl | rfl | rfl | rfl <;> rfl)
  mpl := fun _ => true
  mplok := fun m _ x => by cases m <;> rfl
  cut := fun t => Nat.beq t 41
  fl := fun c => match c with
    | .plotg => true
    | _ => false
  mv := CC.mv
  ids := CC.ids
  rc := CC.rc
  rce := CC.rce
  rcl := CC.rcl
  rclmap := fun τ c l => by cases c <;> exact (List.map_id' l).symm
  rcsz := fun τ c => by cases c <;> rfl
  rcok := fun c h π π' τ hτ x j a' ha => by
    cases c with
    | stp id =>
      have hid := hτ id (List.mem_singleton.2 rfl)
      match j, ha with
      | 0, ha =>
        cases ha
        refine ⟨_, rfl, fun y hy => ?_⟩
        unfold vStp at hy ⊢
        simp only [Rep, RepL] at hy ⊢
        constructor
        · intro hc
          obtain ⟨z, rfl, a, rfl, z1, zs, e1, ⟨p, hp, e2⟩, e3⟩ := hy.1 hc
          exact ⟨_, rfl, _, rfl, z1, zs, e1, ⟨p, hid _ _ hp, e2⟩, e3⟩
        · intro hc
          obtain ⟨z, rfl, a, rfl, z1, zs, e1, ⟨p, hp, e2⟩, e3⟩ := hy.2 hc
          exact ⟨_, rfl, _, rfl, z1, zs, e1, ⟨p, hid _ _ hp, e2⟩, e3⟩
    | plotk a b =>
      have h1 := hτ a (by simp [CC.ids])
      have h2 := hτ b (by simp [CC.ids])
      match j, ha with
      | 0, ha => cases ha; exact ⟨_, rfl, fun y hy => hy⟩
      | 1, ha => cases ha; exact ⟨_, rfl, fun y hy => hy⟩
      | 2, ha => cases ha; exact ⟨_, rfl, fun y hy => hy⟩
      | 3, ha =>
        cases ha
        refine ⟨_, rfl, fun y hy => ?_⟩
        simp only [Rep] at hy ⊢
        obtain ⟨a, c, e, hl, hh⟩ := hy
        exact ⟨a, c, e, hl, fun h0 => let ⟨p, hp, e⟩ := hh h0; ⟨p, h1 _ _ hp, e⟩⟩
      | 4, ha =>
        cases ha
        refine ⟨_, rfl, fun y hy => ?_⟩
        simp only [Rep] at hy ⊢
        obtain ⟨a, c, e, hl, hh⟩ := hy
        exact ⟨a, c, e, hl, fun h0 => let ⟨p, hp, e⟩ := hh h0; ⟨p, h2 _ _ hp, e⟩⟩
    | _ => cases h
  rcback := fun c h π π' τ hτ x j a' ha => by
    cases c with
    | stp id =>
      have hid := hτ id (List.mem_singleton.2 rfl)
      match j, ha with
      | 0, ha =>
        cases ha
        refine ⟨_, rfl, fun y hy => ?_⟩
        simp only [CC.rce] at hy
        unfold vStp at hy ⊢
        simp only [Rep, RepL] at hy ⊢
        simp only [hid]
        exact hy
    | plotk a b =>
      have h1 := hτ a (by simp [CC.ids])
      have h2 := hτ b (by simp [CC.ids])
      match j, ha with
      | 0, ha => cases ha; exact ⟨_, rfl, fun y hy => hy⟩
      | 1, ha => cases ha; exact ⟨_, rfl, fun y hy => hy⟩
      | 2, ha => cases ha; exact ⟨_, rfl, fun y hy => hy⟩
      | 3, ha =>
        cases ha
        refine ⟨_, rfl, fun y hy => ?_⟩
        simp only [Rep, CC.rce] at hy ⊢
        simp only [h1]
        exact hy
      | 4, ha =>
        cases ha
        refine ⟨_, rfl, fun y hy => ?_⟩
        simp only [Rep, CC.rce] at hy ⊢
        simp only [h2]
        exact hy
    | _ => cases h
  stay := fun c h π π' hτ x a ha y hy => by
    cases c with
    | stp id =>
      have hid := hτ id (List.mem_singleton.2 rfl)
      simp only [CC.enc, List.mem_singleton] at ha
      subst ha
      unfold vStp at hy ⊢
      simp only [Rep, RepL] at hy ⊢
      constructor
      · intro hc
        obtain ⟨z, rfl, a, rfl, z1, zs, e1, ⟨p, hp, e2⟩, e3⟩ := hy.1 hc
        exact ⟨_, rfl, _, rfl, z1, zs, e1, ⟨p, hid _ _ hp, e2⟩, e3⟩
      · intro hc
        obtain ⟨z, rfl, a, rfl, z1, zs, e1, ⟨p, hp, e2⟩, e3⟩ := hy.2 hc
        exact ⟨_, rfl, _, rfl, z1, zs, e1, ⟨p, hid _ _ hp, e2⟩, e3⟩
    | plotk a b =>
      have h1 := hτ a (by simp [CC.ids])
      have h2 := hτ b (by simp [CC.ids])
      simp only [CC.enc, List.mem_cons, List.not_mem_nil, or_false] at ha
      rcases ha with rfl | rfl | rfl | rfl | rfl
      · exact hy
      · exact hy
      · exact hy
      · simp only [Rep] at hy ⊢
        obtain ⟨a, c, e, hl, hh⟩ := hy
        exact ⟨a, c, e, hl, fun h0 => let ⟨p, hp, e⟩ := hh h0; ⟨p, h1 _ _ hp, e⟩⟩
      · simp only [Rep] at hy ⊢
        obtain ⟨a, c, e, hl, hh⟩ := hy
        exact ⟨a, c, e, hl, fun h0 => let ⟨p, hp, e⟩ := hh h0; ⟨p, h2 _ _ hp, e⟩⟩
    | _ => cases h
end AE.Soil

namespace AE.Soil
open Go AE Go.Proofs

theorem hmix : Try.prog.follows .mixedOrders = true := by kernel_rfl

theorem wrap_id {x : Int} (h1 : -9223372036854775808 ≤ x) (h2 : x ≤ 9223372036854775807) : IntKind.i64.wrap x = x := IntWalk.i64_in x ⟨h1, h2⟩

def avSpan : AV → Option Span
  | .agg [a, b] => match avInt a, avInt b with
    | some a, some b => some (a, b)
    | _, _ => none
  | _ => none
def vSpan (s : Span) : AV := .agg [.i s.1, .i s.2]

def inM (n lo hi : Int) : Bool := decide (lo ≤ n) && decide (n ≤ hi)
def spanM (s : Span) (n : Int) : Bool := decide (0 ≤ s.1) && decide (s.1 ≤ s.2) && decide (s.2 ≤ n)
def withinS : FSpec UU where
  X := Int × Int × Int
  pick := fun args _ => match args with
    | [a, b, c] => match avInt a, avInt b, avInt c with
      | some a, some b, some c => some (a, b, c)
      | _, _, _ => none
    | _ => none
  args := fun x => [.i x.1, .i x.2.1, .i x.2.2]
  H := fun _ => []
  R := fun x => .val ⟨.b (inM x.1 x.2.1 x.2.2), [], [], []⟩
theorem within_ok : ∀ x, withinS.pre x → FunOk Try.prog 89 (withinS.args x) (withinS.H x) (withinS.R x) := by
  rintro ⟨n, lo, hi⟩ _
  refine fun_of (T := []) (L := fun _ => none) (hs := fun _ => []) hmix .nil Try.func89 (by kernel_rfl) (by kernel_rfl) ?_
  refine Eq.mp (α :=
      let Z1 := Value.bool (inM n lo hi); let Z2 := decide (lo ≤ n); (Z2 = true → True ∧ (Value.bool (decide (n ≤ hi)) = Z1 ∧ True) ∧ True ∧ True) ∧ (Z2 = false → True ∧ (Z1 = Value.bool false ∧ True) ∧ True ∧ True))
    (by kernel_rfl) ?_
  simp only [eq_self, true_and, and_true, Int.toNat_natCast, Nat.zero_add, Nat.sub_zero, Value.int.injEq, Value.bool.injEq, decide_eq_true_eq, decide_eq_false_iff_not]
  simp only [inM]
  simp +contextual
  omega

theorem within_sound : Sound Try.prog 89 withinS.con := FSpec.sound _ (enter_of Try.func89 (by kernel_rfl) (by kernel_rfl)) within_ok

def isSpanS : FSpec UU where
  X := Span × Int
  pick := fun args _ => match args with
    | [a, b] => match avSpan a, avInt b with
      | some a, some b => some (a, b)
      | _, _ => none
    | _ => none
  args := fun x => [vSpan x.1, .i x.2]
  H := fun _ => []
  R := fun x => .val ⟨.b (spanM x.1 x.2), [], [], []⟩
set_option maxRecDepth 100000 in
theorem isSpan_ok : ∀ x, isSpanS.pre x → FunOk Try.prog 90 (isSpanS.args x) (isSpanS.H x) (isSpanS.R x) := by
  rintro ⟨⟨lo, hi⟩, n⟩ _
  refine fun_of (T := []) (L := fun _ => none) (hs := fun _ => []) hmix .nil Try.func90 (by kernel_rfl) (by kernel_rfl) ?_
  refine Eq.mp (α :=
      let Z0 := (lo, hi); let Z8 := (Value.bool (spanM Z0 n) = Value.bool false ∧ True) ∧ True ∧ True; let Z10 := decide ((0 : Int) ≤ lo); let Z11 := decide (lo ≤ hi); (Z10 = true → (Z11 = true → True ∧ (Value.bool (decide (hi ≤ n)) = Value.bool (spanM Z0 n) ∧ True) ∧ True ∧ True) ∧ (Z11 = false → True ∧ Z8)) ∧ (Z10 = false → True ∧ Z8))
    (by kernel_rfl) ?_
  simp only [eq_self, true_and, and_true, Int.toNat_natCast, Nat.zero_add, Nat.sub_zero, Value.int.injEq, Value.bool.injEq, decide_eq_true_eq, decide_eq_false_iff_not]
  simp only [spanM]
  simp +contextual
  omega

theorem isSpan_sound : Sound Try.prog 90 isSpanS.con := FSpec.sound _ (enter_of Try.func90 (by kernel_rfl) (by kernel_rfl)) isSpan_ok

theorem foldl_take (f : Int → Int → Int) (n : Int) (l : List Int) (i : Nat) (h : i < l.length) (d : Int) : (l.take (i + 1)).foldl f n = f ((l.take i).foldl f n) (l.getD i d) := by
  rw [List.take_add_one, List.foldl_append, List.getD_eq_getElem?_getD, List.getElem?_eq_getElem h]
  rfl

def mmS (f : Int → Int → Int) : FSpec UU where
  X := Int × List Int
  pick := fun args H => match args with
    | [a, .gs id k] => match avInt a, rowAt (U := UU) .int H id k with
      | some a, some l => some (a, l)
      | _, _ => none
    | _ => none
  args := fun x => [.i x.1, .sl 0 0 0 x.2.length]
  H := fun x => [.one (.ro .int x.2)]
  R := fun x => .val ⟨.i (x.2.foldl f x.1), [], [], []⟩
  pre := fun x => x.2.length < 1000000

def mmL (f : Int → Int → Int) (n : Int) (l : List Int) : LSpec UU where
  T := { i : Nat // i ≤ l.length }
  fr := fun t => [(0, .i ((l.take t.1).foldl f n)), (7, .sl 0 0 0 l.length), (8, .i l.length), (9, .i t.1)]
  H := fun _ => [.one (.ro .int l)]
  mu := fun t => l.length - t.1

set_option maxRecDepth 100000 in
theorem most_ok : ∀ x, (mmS max).pre x → FunOk Try.prog 98 ((mmS max).args x) ((mmS max).H x) ((mmS max).R x) := by
  rintro ⟨n, l⟩ hl
  refine fun_of (T := []) (L := fun _ => some (.inv (mmL max n l))) (hs := fun _ => []) hmix .nil Try.func98 (by kernel_rfl) (by kernel_rfl) ?_
  refine Eq.mp (α :=
      let Z0 := List.length l; let Z1 := (0 : Int); let Z2 := l = l; let Z5 := (↑Z0 : Int); let Z9 : Type := { i : Nat // i ≤ Z0 }; let Z10 := Value.int IntKind.i64 Z5; let Z11 := fun (x : Z9) => Subtype.val x; let Z14 := fun (x : Z9) => (↑(Z11 x) : Int); let Z17 := fun (x : Z9) => List.foldl max n (List.take (Z11 x) l); let Z18 := fun (x : Z9) => Z0 - Z11 x; let Z20 := fun (x : Z9) => Value.int IntKind.i64 (Z17 x); let Z22 := fun (t : Z9) => decide (Z14 t < Z5); (∃ (x : Z9), (Value.int IntKind.i64 n = Z20 x ∧ (nat_lit 0 = nat_lit 0 ∧ nat_lit 0 = nat_lit 0 ∧ Z0 = Z0) ∧ Z10 = Z10 ∧ Value.int IntKind.i64 Z1 = Value.int IntKind.i64 (Z14 x) ∧ True) ∧ True ∧ Z2 ∧ True) ∧ ∀ (t : Z9), (Z22 t = true → (Z1 ≤ Z14 t ∧ Z14 t < Z5) ∧ nat_lit 0 + Int.toNat (Z14 t) < List.length l ∧ True ∧ ∃ (x : Z9), ((Value.int IntKind.i64 (max (Z17 t) (List.getD l ((0 : Nat) + Int.toNat (Z14 t)) Z1)) = Z20 x ∧ (nat_lit 0 = nat_lit 0 ∧ nat_lit 0 = nat_lit 0 ∧ Z0 = Z0) ∧ Z10 = Z10 ∧ Value.int IntKind.i64 (IntKind.wrap IntKind.i64 (Z14 t + (1 : Int))) = Value.int IntKind.i64 (Z14 x) ∧ True) ∧ True ∧ Z2 ∧ True) ∧ Z18 x < Z18 t) ∧ (Z22 t = false → True ∧ (Z20 t = Value.int IntKind.i64 (List.foldl max n l) ∧ True) ∧ True ∧ Z2 ∧ True))
    (by kernel_rfl) ?_
  simp only [eq_self, true_and, and_true, Int.toNat_natCast, Nat.zero_add, Nat.sub_zero, Value.int.injEq, Value.bool.injEq, decide_eq_true_eq, decide_eq_false_iff_not]
  simp only [mmS] at hl
  refine ⟨⟨⟨0, by omega⟩, ?_⟩, ?_⟩
  · simp
  · rintro ⟨i, hi⟩
    refine ⟨fun h => ?_, fun h => ?_⟩
    · simp at h
      refine ⟨⟨by omega, by simpa using h⟩, by simpa using h, ⟨⟨i + 1, by omega⟩, ?_⟩⟩
      rw [wrap_id (by simp; omega) (by simp; omega)]
      rw [foldl_take _ _ _ _ h 0]
      simp
      omega
    · simp at h
      have : i = l.length := by omega
      subst this
      simp

theorem most_sound : Sound Try.prog 98 (mmS max).con := FSpec.sound _ (enter_of Try.func98 (by kernel_rfl) (by kernel_rfl)) most_ok

set_option maxRecDepth 100000 in
theorem least_ok : ∀ x, (mmS min).pre x → FunOk Try.prog 99 ((mmS min).args x) ((mmS min).H x) ((mmS min).R x) := by
  rintro ⟨n, l⟩ hl
  refine fun_of (T := []) (L := fun _ => some (.inv (mmL min n l))) (hs := fun _ => []) hmix .nil Try.func99 (by kernel_rfl) (by kernel_rfl) ?_
  refine Eq.mp (α :=
      let Z0 := List.length l; let Z1 := (0 : Int); let Z2 := l = l; let Z5 := (↑Z0 : Int); let Z9 : Type := { i : Nat // i ≤ Z0 }; let Z10 := Value.int IntKind.i64 Z5; let Z11 := fun (x : Z9) => Subtype.val x; let Z14 := fun (x : Z9) => (↑(Z11 x) : Int); let Z17 := fun (x : Z9) => List.foldl min n (List.take (Z11 x) l); let Z18 := fun (x : Z9) => Z0 - Z11 x; let Z20 := fun (x : Z9) => Value.int IntKind.i64 (Z17 x); let Z22 := fun (t : Z9) => decide (Z14 t < Z5); (∃ (x : Z9), (Value.int IntKind.i64 n = Z20 x ∧ (nat_lit 0 = nat_lit 0 ∧ nat_lit 0 = nat_lit 0 ∧ Z0 = Z0) ∧ Z10 = Z10 ∧ Value.int IntKind.i64 Z1 = Value.int IntKind.i64 (Z14 x) ∧ True) ∧ True ∧ Z2 ∧ True) ∧ ∀ (t : Z9), (Z22 t = true → (Z1 ≤ Z14 t ∧ Z14 t < Z5) ∧ nat_lit 0 + Int.toNat (Z14 t) < List.length l ∧ True ∧ ∃ (x : Z9), ((Value.int IntKind.i64 (min (Z17 t) (List.getD l ((0 : Nat) + Int.toNat (Z14 t)) Z1)) = Z20 x ∧ (nat_lit 0 = nat_lit 0 ∧ nat_lit 0 = nat_lit 0 ∧ Z0 = Z0) ∧ Z10 = Z10 ∧ Value.int IntKind.i64 (IntKind.wrap IntKind.i64 (Z14 t + (1 : Int))) = Value.int IntKind.i64 (Z14 x) ∧ True) ∧ True ∧ Z2 ∧ True) ∧ Z18 x < Z18 t) ∧ (Z22 t = false → True ∧ (Z20 t = Value.int IntKind.i64 (List.foldl min n l) ∧ True) ∧ True ∧ Z2 ∧ True))
    (by kernel_rfl) ?_
  simp only [eq_self, true_and, and_true, Int.toNat_natCast, Nat.zero_add, Nat.sub_zero, Value.int.injEq, Value.bool.injEq, decide_eq_true_eq, decide_eq_false_iff_not]
  simp only [mmS] at hl
  refine ⟨⟨⟨0, by omega⟩, ?_⟩, ?_⟩
  · simp
  · rintro ⟨i, hi⟩
    refine ⟨fun h => ?_, fun h => ?_⟩
    · simp at h
      refine ⟨⟨by omega, by simpa using h⟩, by simpa using h, ⟨⟨i + 1, by omega⟩, ?_⟩⟩
      rw [wrap_id (by simp; omega) (by simp; omega)]
      rw [foldl_take _ _ _ _ h 0]
      simp
      omega
    · simp at h
      have : i = l.length := by omega
      subst this
      simp

theorem least_sound : Sound Try.prog 99 (mmS min).con := FSpec.sound _ (enter_of Try.func99 (by kernel_rfl) (by kernel_rfl)) least_ok

def bothM (a b : Span) : Span := (max a.1 b.1, min a.2 b.2)
def bothS : FSpec UU where
  X := Span × Span
  pick := fun args _ => match args with
    | [a, b] => match avSpan a, avSpan b with
      | some a, some b => some (a, b)
      | _, _ => none
    | _ => none
  args := fun x => [vSpan x.1, vSpan x.2]
  H := fun _ => []
  R := fun x => .val ⟨vSpan (bothM x.1 x.2), [], [], []⟩

def Tmm : Tab UU := [(98, (mmS max).con), (99, (mmS min).con)]
theorem Tmm_ok : Tmm.Sound Try.prog := .cons most_sound (.cons least_sound .nil)

set_option maxRecDepth 100000 in
theorem both_ok : ∀ x, bothS.pre x → FunOk Try.prog 92 (bothS.args x) (bothS.H x) (bothS.R x) := by
  rintro ⟨⟨a, b⟩, ⟨c, d⟩⟩ _
  refine fun_of (T := Tmm) (L := fun _ => none) (hs := fun _ => []) hmix Tmm_ok Try.func92 (by kernel_rfl) (by kernel_rfl) ?_
  refine Eq.mp (α :=
      let Z0 := nat_lit 1 < nat_lit 1000000; let Z1 := nat_lit 0 = nat_lit 0 ∧ nat_lit 1 = nat_lit 1; let Z2 := AV.v (Value.int IntKind.i64 c); let Z3 := AV.v (Value.int IntKind.i64 d); let Z4 : List Int := []; let Z5 := (3 : Nat); let Z6 := (4 : Nat); let Z8 := bothM (a, b) (c, d); let Z9 : List Int := c :: Z4; let Z10 : List Int := d :: Z4; (nat_lit 1 = nat_lit 1 ∧ Z2 = Z2 ∧ True) ∧ Z0 ∧ (Value.int IntKind.i64 a = Value.int IntKind.i64 a ∧ (Z5 = Z5 ∧ nat_lit 0 = nat_lit 0 ∧ Z1) ∧ True) ∧ (Z9 = Z9 ∧ True) ∧ (nat_lit 1 = nat_lit 1 ∧ Z3 = Z3 ∧ True) ∧ Z0 ∧ (Value.int IntKind.i64 b = Value.int IntKind.i64 b ∧ (Z6 = Z6 ∧ nat_lit 0 = nat_lit 0 ∧ Z1) ∧ True) ∧ (Z10 = Z10 ∧ True) ∧ True ∧ ((Value.int IntKind.i64 (List.foldl max a Z9) = Value.int IntKind.i64 (Prod.fst Z8) ∧ Value.int IntKind.i64 (List.foldl min b Z10) = Value.int IntKind.i64 (Prod.snd Z8) ∧ True) ∧ True) ∧ True ∧ True)
    (by kernel_rfl) ?_
  simp only [eq_self, true_and, and_true, Int.toNat_natCast, Nat.zero_add, Nat.sub_zero, Value.int.injEq, Value.bool.injEq, decide_eq_true_eq, decide_eq_false_iff_not]
  simp [bothM]

theorem both_sound : Sound Try.prog 92 bothS.con := FSpec.sound _ (enter_of Try.func92 (by kernel_rfl) (by kernel_rfl)) both_ok

end AE.Soil

namespace AE.Soil
open Go AE Go.Proofs

abbrev W (x : Int) : Int := IntKind.wrap IntKind.i64 x

def avMix : AV → Option Mix3
  | .agg [a, b, c, d, e, f] => match avInt a, avInt b, avInt c, avInt d, avInt e, avInt f with
    | some a, some b, some c, some d, some e, some f => some ((a, b), (c, d), (e, f))
    | _, _, _, _, _, _ => none
  | _ => none
def vMix (m : Mix3) : AV := .agg [.i m.1.1, .i m.1.2, .i m.2.1.1, .i m.2.1.2, .i m.2.2.1, .i m.2.2.2]

def noneM (m : Mix3) : Bool := decide (m.1.1 > m.1.2) || decide (m.2.1.1 > m.2.1.2) || decide (m.2.2.1 > m.2.2.2)
def isNoneS : FSpec UU where
  X := Mix3
  pick := fun args _ => match args with
    | [a] => avMix a
    | _ => none
  args := fun x => [vMix x]
  H := fun _ => []
  R := fun x => .val ⟨.b (noneM x), [], [], []⟩
set_option maxRecDepth 100000 in
theorem isNone_ok : ∀ x, isNoneS.pre x → FunOk Try.prog 96 (isNoneS.args x) (isNoneS.H x) (isNoneS.R x) := by
  rintro ⟨⟨a, b⟩, ⟨c, d⟩, ⟨e, f⟩⟩ _
  refine fun_of (T := []) (L := fun _ => none) (hs := fun _ => []) hmix .nil Try.func96 (by kernel_rfl) (by kernel_rfl) ?_
  refine Eq.mp (α :=
      let Z6 := ((a, b), (c, d), e, f); let Z11 := (Value.bool (noneM Z6) = Value.bool true ∧ True) ∧ True ∧ True; let Z13 := decide (a > b); let Z14 := decide (c > d); (Z13 = true → True ∧ Z11) ∧ (Z13 = false → (Z14 = true → True ∧ Z11) ∧ (Z14 = false → True ∧ (Value.bool (decide (e > f)) = Value.bool (noneM Z6) ∧ True) ∧ True ∧ True)))
    (by kernel_rfl) ?_
  simp only [eq_self, true_and, and_true, Int.toNat_natCast, Nat.zero_add, Nat.sub_zero, Value.int.injEq, Value.bool.injEq, decide_eq_true_eq, decide_eq_false_iff_not]
  simp only [noneM]
  simp +contextual
  omega

theorem isNone_sound : Sound Try.prog 96 isNoneS.con := FSpec.sound _ (enter_of Try.func96 (by kernel_rfl) (by kernel_rfl)) isNone_ok

def oneM (a b c : Span) : Span := (max (max 0 a.1) (W (W (20 - b.2) - c.2)), min (min 20 a.2) (W (W (20 - b.1) - c.1)))
def oneS : FSpec UU where
  X := Span × Span × Span
  pick := fun args _ => match args with
    | [a, b, c] => match avSpan a, avSpan b, avSpan c with
      | some a, some b, some c => some (a, b, c)
      | _, _, _ => none
    | _ => none
  args := fun x => [vSpan x.1, vSpan x.2.1, vSpan x.2.2]
  H := fun _ => []
  R := fun x => .val ⟨vSpan (oneM x.1 x.2.1 x.2.2), [], [], []⟩
set_option maxRecDepth 100000 in
theorem one_ok : ∀ x, oneS.pre x → FunOk Try.prog 102 (oneS.args x) (oneS.H x) (oneS.R x) := by
  rintro ⟨⟨a, b⟩, ⟨c, d⟩, ⟨e, f⟩⟩ _
  refine fun_of (T := Tmm) (L := fun _ => none) (hs := fun _ => []) hmix Tmm_ok Try.func102 (by kernel_rfl) (by kernel_rfl) ?_
  refine Eq.mp (α :=
      let Z0 := nat_lit 0 = nat_lit 0 ∧ nat_lit 2 = nat_lit 2; let Z1 := nat_lit 2 < nat_lit 1000000; let Z2 := (0 : Int); let Z3 := AV.v (Value.int IntKind.i64 b); let Z4 := AV.v (Value.int IntKind.i64 a); let Z5 : List Int := []; let Z6 := (20 : Int); let Z7 := (4 : Nat); let Z8 := (5 : Nat); let Z10 := Value.int IntKind.i64 Z2; let Z11 := Value.int IntKind.i64 Z6; let Z12 := oneM (a, b) (c, d) (e, f); let Z19 := IntKind.wrap IntKind.i64 (IntKind.wrap IntKind.i64 (Z6 - c) - e); let Z20 := IntKind.wrap IntKind.i64 (IntKind.wrap IntKind.i64 (Z6 - d) - f); let Z21 := Value.int IntKind.i64 Z19; let Z22 := Value.int IntKind.i64 Z20; let Z27 : List Int := a :: Z20 :: Z5; let Z28 : List Int := b :: Z19 :: Z5; (nat_lit 2 = nat_lit 2 ∧ Z4 = Z4 ∧ AV.v Z22 = AV.v Z22 ∧ True) ∧ Z1 ∧ (Z10 = Z10 ∧ (Z7 = Z7 ∧ nat_lit 0 = nat_lit 0 ∧ Z0) ∧ True) ∧ (Z27 = Z27 ∧ True) ∧ (nat_lit 2 = nat_lit 2 ∧ Z3 = Z3 ∧ AV.v Z21 = AV.v Z21 ∧ True) ∧ Z1 ∧ (Z11 = Z11 ∧ (Z8 = Z8 ∧ nat_lit 0 = nat_lit 0 ∧ Z0) ∧ True) ∧ (Z28 = Z28 ∧ True) ∧ True ∧ ((Value.int IntKind.i64 (List.foldl max Z2 Z27) = Value.int IntKind.i64 (Prod.fst Z12) ∧ Value.int IntKind.i64 (List.foldl min Z6 Z28) = Value.int IntKind.i64 (Prod.snd Z12) ∧ True) ∧ True) ∧ True ∧ True)
    (by kernel_rfl) ?_
  simp only [eq_self, true_and, and_true, Int.toNat_natCast, Nat.zero_add, Nat.sub_zero, Value.int.injEq, Value.bool.injEq, decide_eq_true_eq, decide_eq_false_iff_not]
  simp [oneM]

theorem one_sound : Sound Try.prog 102 oneS.con := FSpec.sound _ (enter_of Try.func102 (by kernel_rfl) (by kernel_rfl)) one_ok

def tightM (m : Mix3) : Mix3 := (oneM m.1 m.2.1 m.2.2, oneM m.2.1 m.1 m.2.2, oneM m.2.2 m.1 m.2.1)
def tightS : FSpec UU where
  X := Mix3
  pick := fun args _ => match args with
    | [a] => avMix a
    | _ => none
  args := fun x => [vMix x]
  H := fun _ => []
  R := fun x => .val ⟨vMix (tightM x), [], [], []⟩
def Tone : Tab UU := [(102, oneS.con)]
theorem Tone_ok : Tone.Sound Try.prog := .cons one_sound .nil
set_option maxRecDepth 100000 in
theorem tight_ok : ∀ x, tightS.pre x → FunOk Try.prog 100 (tightS.args x) (tightS.H x) (tightS.R x) := by
  rintro ⟨⟨a, b⟩, ⟨c, d⟩, ⟨e, f⟩⟩ _
  refine fun_of (T := Tone) (L := fun _ => none) (hs := fun _ => []) hmix Tone_ok Try.func100 (by kernel_rfl) (by kernel_rfl) ?_
  refine Eq.mp (α :=
      let Z0 := (c, d); let Z1 := (a, b); let Z2 := (e, f); let Z3 := Value.int IntKind.i64 d; let Z4 := Value.int IntKind.i64 c; let Z5 := Value.int IntKind.i64 e; let Z6 := Value.int IntKind.i64 f; let Z7 := Value.int IntKind.i64 a; let Z8 := Value.int IntKind.i64 b; let Z9 := Z5 = Z5; let Z10 := Z3 = Z3; let Z11 := Z8 = Z8; let Z12 := Z6 = Z6; let Z13 := Z4 = Z4; let Z14 := Z7 = Z7; let Z25 := (Z1, Z0, Z2); let Z28 := Prod.snd (tightM Z25); let Z29 := Prod.fst (tightM Z25); let Z30 := Prod.fst Z28; let Z31 := Prod.snd Z28; True ∧ ((Z14 ∧ Z11 ∧ True) ∧ (Z13 ∧ Z10 ∧ True) ∧ (Z9 ∧ Z12 ∧ True) ∧ True) ∧ True ∧ True ∧ ((Z13 ∧ Z10 ∧ True) ∧ (Z14 ∧ Z11 ∧ True) ∧ (Z9 ∧ Z12 ∧ True) ∧ True) ∧ True ∧ True ∧ ((Z9 ∧ Z12 ∧ True) ∧ (Z14 ∧ Z11 ∧ True) ∧ (Z13 ∧ Z10 ∧ True) ∧ True) ∧ True ∧ True ∧ ((Value.int IntKind.i64 (Prod.fst (oneM Z1 Z0 Z2)) = Value.int IntKind.i64 (Prod.fst Z29) ∧ Value.int IntKind.i64 (Prod.snd (oneM Z1 Z0 Z2)) = Value.int IntKind.i64 (Prod.snd Z29) ∧ Value.int IntKind.i64 (Prod.fst (oneM Z0 Z1 Z2)) = Value.int IntKind.i64 (Prod.fst Z30) ∧ Value.int IntKind.i64 (Prod.snd (oneM Z0 Z1 Z2)) = Value.int IntKind.i64 (Prod.snd Z30) ∧ Value.int IntKind.i64 (Prod.fst (oneM Z2 Z1 Z0)) = Value.int IntKind.i64 (Prod.fst Z31) ∧ Value.int IntKind.i64 (Prod.snd (oneM Z2 Z1 Z0)) = Value.int IntKind.i64 (Prod.snd Z31) ∧ True) ∧ True) ∧ True ∧ True)
    (by kernel_rfl) ?_
  simp only [eq_self, true_and, and_true, Int.toNat_natCast, Nat.zero_add, Nat.sub_zero, Value.int.injEq, Value.bool.injEq, decide_eq_true_eq, decide_eq_false_iff_not]
  simp [tightM]

theorem tight_sound : Sound Try.prog 100 tightS.con := FSpec.sound _ (enter_of Try.func100 (by kernel_rfl) (by kernel_rfl)) tight_ok

def meetM (m o : Mix3) : Mix3 := (bothM m.1 o.1, bothM m.2.1 o.2.1, bothM m.2.2 o.2.2)
def andM (m o : Mix3) : Mix3 := if meetM m o = m ∨ noneM (meetM m o) = true then meetM m o else tightM (meetM m o)
def andS : FSpec UU where
  X := Mix3 × Mix3
  pick := fun args _ => match args with
    | [a, b] => match avMix a, avMix b with
      | some a, some b => some (a, b)
      | _, _ => none
    | _ => none
  args := fun x => [vMix x.1, vMix x.2]
  H := fun _ => []
  R := fun x => .val ⟨vMix (andM x.1 x.2), [], [], []⟩
def Tand : Tab UU := [(92, bothS.con), (96, isNoneS.con), (100, tightS.con)]
theorem Tand_ok : Tand.Sound Try.prog := .cons both_sound (.cons isNone_sound (.cons tight_sound .nil))
set_option maxRecDepth 100000 in
theorem and_ok : ∀ x, andS.pre x → FunOk Try.prog 94 (andS.args x) (andS.H x) (andS.R x) := by
  rintro ⟨⟨⟨a, b⟩, ⟨c, d⟩, ⟨e, f⟩⟩, ⟨⟨a', b'⟩, ⟨c', d'⟩, ⟨e', f'⟩⟩⟩ _
  refine fun_of (T := Tand) (L := fun _ => none) (hs := fun _ => []) hmix Tand_ok Try.func94 (by kernel_rfl) (by kernel_rfl) ?_
  refine Eq.mp (α :=
      let Z0 := (c', d'); let Z1 := (a', b'); let Z2 := (c, d); let Z3 := (a, b); let Z4 := (e, f); let Z5 := (e', f'); let Z6 := bothM Z3 Z1; let Z7 := bothM Z4 Z5; let Z8 := bothM Z2 Z0; let Z17 := Value.int IntKind.i64 (Prod.snd Z6); let Z18 := Value.int IntKind.i64 (Prod.snd Z8); let Z19 := Value.int IntKind.i64 (Prod.fst Z6); let Z20 := Value.int IntKind.i64 (Prod.fst Z8); let Z21 := Value.int IntKind.i64 (Prod.fst Z7); let Z22 := Value.int IntKind.i64 (Prod.snd Z7); let Z23 := Prod.fst Z8 == c; let Z25 := Prod.fst Z6 == a; let Z29 := (Z1, Z0, Z5); let Z30 := (Z3, Z2, Z4); let Z33 := Prod.snd Z8 == d && true; let Z34 := Prod.snd Z6 == b && true; let Z42 := (Z6, Z8, Z7); let Z49 := Prod.fst (tightM Z42); let Z50 := Prod.snd (tightM Z42); let Z51 := Prod.fst Z7 == e && (Prod.snd Z7 == f && true) && true; let Z52 := Prod.snd Z50; let Z53 := Prod.fst Z50; let Z54 := Prod.fst (andM Z30 Z29); let Z55 := Prod.snd (andM Z30 Z29); let Z58 := Prod.snd Z55; let Z59 := Prod.fst Z55; let Z60 := Value.int IntKind.i64 (Prod.fst Z54); let Z61 := Value.int IntKind.i64 (Prod.snd Z54); let Z66 := Value.int IntKind.i64 (Prod.fst Z59); let Z67 := Value.int IntKind.i64 (Prod.fst Z58); let Z68 := Value.int IntKind.i64 (Prod.snd Z59); let Z69 := Value.int IntKind.i64 (Prod.snd Z58); let Z91 := ((Z19 = Z60 ∧ Z17 = Z61 ∧ Z20 = Z66 ∧ Z18 = Z68 ∧ Z21 = Z67 ∧ Z22 = Z69 ∧ True) ∧ True) ∧ True ∧ True; True ∧ ((Value.int IntKind.i64 a = Value.int IntKind.i64 a ∧ Value.int IntKind.i64 b = Value.int IntKind.i64 b ∧ True) ∧ (Value.int IntKind.i64 a' = Value.int IntKind.i64 a' ∧ Value.int IntKind.i64 b' = Value.int IntKind.i64 b' ∧ True) ∧ True) ∧ True ∧ True ∧ ((Value.int IntKind.i64 c = Value.int IntKind.i64 c ∧ Value.int IntKind.i64 d = Value.int IntKind.i64 d ∧ True) ∧ (Value.int IntKind.i64 c' = Value.int IntKind.i64 c' ∧ Value.int IntKind.i64 d' = Value.int IntKind.i64 d' ∧ True) ∧ True) ∧ True ∧ True ∧ ((Value.int IntKind.i64 e = Value.int IntKind.i64 e ∧ Value.int IntKind.i64 f = Value.int IntKind.i64 f ∧ True) ∧ (Value.int IntKind.i64 e' = Value.int IntKind.i64 e' ∧ Value.int IntKind.i64 f' = Value.int IntKind.i64 f' ∧ True) ∧ True) ∧ True ∧ ((Z25 && Z34 && (Z23 && Z33 && Z51)) = true → True ∧ Z91) ∧ ((Z25 && Z34 && (Z23 && Z33 && Z51)) = false → True ∧ ((Z19 = Z19 ∧ Z17 = Z17 ∧ Z20 = Z20 ∧ Z18 = Z18 ∧ Z21 = Z21 ∧ Z22 = Z22 ∧ True) ∧ True) ∧ True ∧ (noneM Z42 = true → True ∧ Z91) ∧ (noneM Z42 = false → True ∧ ((Z19 = Z19 ∧ Z17 = Z17 ∧ Z20 = Z20 ∧ Z18 = Z18 ∧ Z21 = Z21 ∧ Z22 = Z22 ∧ True) ∧ True) ∧ True ∧ True ∧ ((Value.int IntKind.i64 (Prod.fst Z49) = Z60 ∧ Value.int IntKind.i64 (Prod.snd Z49) = Z61 ∧ Value.int IntKind.i64 (Prod.fst Z53) = Z66 ∧ Value.int IntKind.i64 (Prod.snd Z53) = Z68 ∧ Value.int IntKind.i64 (Prod.fst Z52) = Z67 ∧ Value.int IntKind.i64 (Prod.snd Z52) = Z69 ∧ True) ∧ True) ∧ True ∧ True)))
    (by kernel_rfl) ?_
  simp only [eq_self, true_and, and_true, Int.toNat_natCast, Nat.zero_add, Nat.sub_zero, Value.int.injEq, Value.bool.injEq, decide_eq_true_eq, decide_eq_false_iff_not]
  simp +contextual [andM, meetM, bothM]
  intro h1 h2
  rw [if_neg (by rintro ⟨⟨h3, h4⟩, ⟨h5, h6⟩, h7, h8⟩; exact h1 h3 h4 h5 h6 h7 h8)]
  simp

theorem and_sound : Sound Try.prog 94 andS.con := FSpec.sound _ (enter_of Try.func94 (by kernel_rfl) (by kernel_rfl)) and_ok

def wideM (s : Span) (c : Int) : Span := (W (s.1 - c), W (s.2 + c))
def wideS : FSpec UU where
  X := Span × Int
  pick := fun args H => match args with
    | [a, .ptr id 0 0 0] => match avSpan a, blkAt H id 0 with
      | some a, some (.cells [c] _) => match avInt c with
        | some c => some (a, c)
        | _ => none
      | _, _ => none
    | _ => none
  args := fun x => [vSpan x.1, .ptr 0 0 0 0]
  H := fun x => [.one (.rc [.i x.2] 3)]
  R := fun x => .val ⟨vSpan (wideM x.1 x.2), [], [], []⟩
set_option maxRecDepth 100000 in
theorem wide_ok : ∀ x, wideS.pre x → FunOk Try.prog 101 (wideS.args x) (wideS.H x) (wideS.R x) := by
  rintro ⟨⟨a, b⟩, c⟩ _
  refine fun_of (T := []) (L := fun _ => none) (hs := fun _ => []) hmix .nil Try.func101 (by kernel_rfl) (by kernel_rfl) ?_
  refine Eq.mp (α :=
      let Z0 := wideM (a, b) c; True ∧ ((Value.int IntKind.i64 (IntKind.wrap IntKind.i64 (a - c)) = Value.int IntKind.i64 (Prod.fst Z0) ∧ Value.int IntKind.i64 (IntKind.wrap IntKind.i64 (b + c)) = Value.int IntKind.i64 (Prod.snd Z0) ∧ True) ∧ True) ∧ True ∧ (Value.int IntKind.i64 c = Value.int IntKind.i64 c ∧ True) ∧ True)
    (by kernel_rfl) ?_
  simp only [eq_self, true_and, and_true, Int.toNat_natCast, Nat.zero_add, Nat.sub_zero, Value.int.injEq, Value.bool.injEq, decide_eq_true_eq, decide_eq_false_iff_not]
  simp [wideM]

theorem wide_sound : Sound Try.prog 101 wideS.con := FSpec.sound _ (enter_of Try.func101 (by kernel_rfl) (by kernel_rfl)) wide_ok

def nextM (m : Mix3) (c : Int) : Mix3 := if noneM m = true then m else tightM (wideM m.1 c, wideM m.2.1 c, wideM m.2.2 c)
def nextS : FSpec UU where
  X := Mix3 × Int
  pick := fun args _ => match args with
    | [a, b] => match avMix a, avInt b with
      | some a, some b => some (a, b)
      | _, _ => none
    | _ => none
  args := fun x => [vMix x.1, .i x.2]
  H := fun _ => []
  R := fun x => .val ⟨vMix (nextM x.1 x.2), [], [], []⟩
def Tnext : Tab UU := [(101, wideS.con), (96, isNoneS.con), (100, tightS.con)]
theorem Tnext_ok : Tnext.Sound Try.prog := .cons wide_sound (.cons isNone_sound (.cons tight_sound .nil))
set_option maxRecDepth 100000 in
theorem next_ok : ∀ x, nextS.pre x → FunOk Try.prog 95 (nextS.args x) (nextS.H x) (nextS.R x) := by
  rintro ⟨⟨⟨a, b⟩, ⟨c, d⟩, ⟨e, f⟩⟩, n⟩ _
  refine fun_of (T := Tnext) (L := fun _ => none) (hs := fun _ => []) hmix Tnext_ok Try.func95 (by kernel_rfl) (by kernel_rfl) ?_
  refine Eq.mp (α :=
      let Z0 := (c, d); let Z1 := (a, b); let Z2 := (e, f); let Z3 := Value.int IntKind.i64 e; let Z4 := Value.int IntKind.i64 c; let Z5 := Value.int IntKind.i64 d; let Z6 := Value.int IntKind.i64 a; let Z7 := Value.int IntKind.i64 f; let Z8 := Value.int IntKind.i64 b; let Z9 := Value.int IntKind.i64 n; let Z11 := wideM Z0 n; let Z12 := wideM Z1 n; let Z13 := wideM Z2 n; let Z14 := nat_lit 0 = nat_lit 0 ∧ nat_lit 0 = nat_lit 0 ∧ nat_lit 0 = nat_lit 0; let Z27 := Z9 = Z9; let Z32 := Value.int IntKind.i64 (Prod.fst Z11); let Z33 := Value.int IntKind.i64 (Prod.fst Z13); let Z34 := Value.int IntKind.i64 (Prod.snd Z12); let Z35 := Value.int IntKind.i64 (Prod.fst Z12); let Z36 := Value.int IntKind.i64 (Prod.snd Z13); let Z37 := Value.int IntKind.i64 (Prod.snd Z11); let Z41 := (Z1, Z0, Z2); let Z44 := (Z12, Z11, Z13); let Z46 := Prod.snd (nextM Z41 n); let Z47 := Prod.fst (nextM Z41 n); let Z50 := Prod.snd Z46; let Z51 := Prod.fst Z46; let Z52 := Value.int IntKind.i64 (Prod.snd Z47); let Z53 := Value.int IntKind.i64 (Prod.fst Z47); let Z54 := Prod.fst (tightM Z44); let Z55 := Prod.snd (tightM Z44); let Z60 := Value.int IntKind.i64 (Prod.fst Z50); let Z61 := Value.int IntKind.i64 (Prod.fst Z51); let Z62 := Value.int IntKind.i64 (Prod.snd Z51); let Z63 := Value.int IntKind.i64 (Prod.snd Z50); let Z64 := Prod.snd Z55; let Z65 := Prod.fst Z55; True ∧ ((Z6 = Z6 ∧ Z8 = Z8 ∧ Z4 = Z4 ∧ Z5 = Z5 ∧ Z3 = Z3 ∧ Z7 = Z7 ∧ True) ∧ True) ∧ True ∧ (noneM Z41 = true → True ∧ ((Z6 = Z53 ∧ Z8 = Z52 ∧ Z4 = Z61 ∧ Z5 = Z62 ∧ Z3 = Z60 ∧ Z7 = Z63 ∧ True) ∧ True) ∧ True ∧ True) ∧ (noneM Z41 = false → True ∧ ((Z6 = Z6 ∧ Z8 = Z8 ∧ True) ∧ Z14 ∧ True) ∧ ((Z27 ∧ True) ∧ True) ∧ True ∧ ((Z4 = Z4 ∧ Z5 = Z5 ∧ True) ∧ Z14 ∧ True) ∧ ((Z27 ∧ True) ∧ True) ∧ True ∧ ((Z3 = Z3 ∧ Z7 = Z7 ∧ True) ∧ Z14 ∧ True) ∧ ((Z27 ∧ True) ∧ True) ∧ True ∧ ((Z35 = Z35 ∧ Z34 = Z34 ∧ Z32 = Z32 ∧ Z37 = Z37 ∧ Z33 = Z33 ∧ Z36 = Z36 ∧ True) ∧ True) ∧ True ∧ True ∧ ((Value.int IntKind.i64 (Prod.fst Z54) = Z53 ∧ Value.int IntKind.i64 (Prod.snd Z54) = Z52 ∧ Value.int IntKind.i64 (Prod.fst Z65) = Z61 ∧ Value.int IntKind.i64 (Prod.snd Z65) = Z62 ∧ Value.int IntKind.i64 (Prod.fst Z64) = Z60 ∧ Value.int IntKind.i64 (Prod.snd Z64) = Z63 ∧ True) ∧ True) ∧ True ∧ True))
    (by kernel_rfl) ?_
  simp only [eq_self, true_and, and_true, Int.toNat_natCast, Nat.zero_add, Nat.sub_zero, Value.int.injEq, Value.bool.injEq, decide_eq_true_eq, decide_eq_false_iff_not]
  simp +contextual [nextM]

theorem next_sound : Sound Try.prog 95 nextS.con := FSpec.sound _ (enter_of Try.func95 (by kernel_rfl) (by kernel_rfl)) next_ok

def anyM : Mix3 := ((0, 20), (0, 20), (0, 20))
def anyS : FSpec UU where
  X := Unit
  pick := fun args _ => match args with
    | [] => some ()
    | _ => none
  args := fun _ => []
  H := fun _ => []
  R := fun _ => .val ⟨vMix anyM, [], [], []⟩
set_option maxRecDepth 100000 in
theorem any_ok : ∀ x, anyS.pre x → FunOk Try.prog 93 (anyS.args x) (anyS.H x) (anyS.R x) := by
  intro x _
  refine fun_of (T := []) (L := fun _ => none) (hs := fun _ => []) hmix .nil Try.func93 (by kernel_rfl) (by kernel_rfl) ?_
  refine Eq.mp (α :=
      let Z2 := Prod.fst anyM; let Z3 := Prod.snd anyM; let Z4 := Value.int IntKind.i64 (0 : Int); let Z5 := Value.int IntKind.i64 (20 : Int); let Z6 := Prod.fst Z3; let Z7 := Prod.snd Z3; True ∧ ((Z4 = Value.int IntKind.i64 (Prod.fst Z2) ∧ Z5 = Value.int IntKind.i64 (Prod.snd Z2) ∧ Z4 = Value.int IntKind.i64 (Prod.fst Z6) ∧ Z5 = Value.int IntKind.i64 (Prod.snd Z6) ∧ Z4 = Value.int IntKind.i64 (Prod.fst Z7) ∧ Z5 = Value.int IntKind.i64 (Prod.snd Z7) ∧ True) ∧ True) ∧ True ∧ True)
    (by kernel_rfl) ?_
  simp only [eq_self, true_and, and_true, Int.toNat_natCast, Nat.zero_add, Nat.sub_zero, Value.int.injEq, Value.bool.injEq, decide_eq_true_eq, decide_eq_false_iff_not]
  simp [anyM]

theorem any_sound : Sound Try.prog 93 anyS.con := FSpec.sound _ (enter_of Try.func93 (by kernel_rfl) (by kernel_rfl)) any_ok

end AE.Soil

namespace AE.Soil
open Go AE Go.Proofs

structure GroundT where
  long : Int
  rise : Int
  change : Int
  pits : List PitT

def avGround (H : Heap UU) : AV → Option GroundT
  | .agg [a, b, c, .sl id k _ _] => match avInt a, avInt b, avInt c, rowAt (U := UU) .pit H id k with
    | some a, some b, some c, some l => some ⟨a, b, c, l⟩
    | _, _, _, _ => none
  | .agg [a, b, c, .gs id k] => match avInt a, avInt b, avInt c, rowAt (U := UU) .pit H id k with
    | some a, some b, some c, some l => some ⟨a, b, c, l⟩
    | _, _, _, _ => none
  | _ => none
def vGround (g : GroundT) (id : Nat) : AV := .agg [.i g.long, .i g.rise, .i g.change, .sl id 0 0 g.pits.length]
def cGround (g : GroundT) (id : Nat) : List AV := [.i g.long, .i g.rise, .i g.change, .sl id 0 0 g.pits.length]

def okPitM (long b : Int) (p : PitT) : Bool := inM p.1 (W (b + 1)) long && spanM p.2.1 1000 && spanM p.2.2.1 20 && spanM p.2.2.2.1 20 && spanM p.2.2.2.2 20
def pitsM (long : Int) : Int → List PitT → Bool
  | _, [] => true
  | b, p :: l => okPitM long b p && pitsM long p.1 l
def groundM (g : GroundT) : Bool := inM g.long 0 40 && inM g.rise 0 1000 && inM g.change 0 20 && decide ((g.pits.length : Int) ≤ 8) && pitsM g.long (-1) g.pits

def isGroundS : FSpec UU where
  X := GroundT
  pick := fun args H => match args with
    | [a] => avGround H a
    | _ => none
  args := fun x => [vGround x 0]
  H := fun x => [.one (.ro .pit x.pits)]
  R := fun x => .val ⟨.b (groundM x), [], [], []⟩
  pre := fun x => x.pits.length < 1000000
def isGroundL (g : GroundT) : LSpec UU where
  T := { p : Nat × Int // p.1 ≤ g.pits.length ∧ pitsM g.long (-1) g.pits = pitsM g.long p.2 (g.pits.drop p.1) }
  fr := fun t => [(1, .ptr 1 0 0 0), (3, .i t.1.2), (29, .sl 0 0 0 g.pits.length), (30, .i g.pits.length), (31, .i t.1.1)]
  H := fun _ => [.one (.ro .pit g.pits), .one (.cells (cGround g 0) 32)]
  mu := fun t => g.pits.length - t.1.1
def Tground : Tab UU := [(89, withinS.con), (90, isSpanS.con)]
theorem Tground_ok : Tground.Sound Try.prog := .cons within_sound (.cons isSpan_sound .nil)
set_option maxRecDepth 100000 in
theorem isGround_ok : ∀ x, isGroundS.pre x → FunOk Try.prog 86 (isGroundS.args x) (isGroundS.H x) (isGroundS.R x) := by
  rintro ⟨long, rise, change, pits⟩ hl
  refine fun_of (T := Tground) (L := fun _ => some (.inv (isGroundL ⟨long, rise, change, pits⟩))) (hs := fun _ => []) hmix Tground_ok Try.func86 (by kernel_rfl) (by kernel_rfl) ?_
  refine Eq.mp (α :=
      let Z0 := fun (p : Nat × Int) => Prod.fst p; let Z1 := Value.bool false; let Z2 := GroundT.mk long rise change pits; let Z3 := Value.int IntKind.i64 change; let Z4 := List.length pits; let Z5 := Value.int IntKind.i64 rise; let Z6 := Value.int IntKind.i64 long; let Z7 := nat_lit 0 = nat_lit 0 ∧ nat_lit 0 = nat_lit 0; let Z8 := (8 : Int); let Z9 := (0 : Int); let Z10 := (1 : Int); let Z11 := (40 : Int); let Z12 := (20 : Int); let Z13 := (1000 : Int); let Z14 := GroundT.long Z2; let Z15 := groundM Z2; let Z16 : List PitT := GroundT.pits Z2; let Z17 := pits = pits; let Z18 := nat_lit 0 = nat_lit 0 ∧ Z7; let Z19 := Value.bool Z15; let Z20 := Z17 ∧ True; let Z21 := (↑Z4 : Int); let Z22 := Value.int IntKind.i64 Z9; let Z23 := Value.int IntKind.i64 Z12; let Z24 := Value.int IntKind.i64 Z11; let Z25 := Z4 = Z4; let Z26 := -Z10; let Z27 := List.length Z16; let Z28 := True ∧ Z20; let Z29 := Value.int IntKind.i64 Z13; let Z30 := Z6 = Z6; let Z31 := Z3 = Z3; let Z32 := Z5 = Z5; let Z33 := Value.int IntKind.i64 Z21; let Z34 := nat_lit 0 = nat_lit 0 ∧ Z25; let Z35 := fun (p : Nat × Int) => List.drop (Z0 p) Z16; let Z36 := inM long Z9 Z11; let Z37 := inM change Z9 Z12; let Z38 := (Z9, Z9); let Z39 := inM rise Z9 Z13; let Z45 := nat_lit 0 = nat_lit 0 ∧ Z34; let Z49 := Z22 = Z22; let Z52 := Z23 = Z23 ∧ True; let Z58 := True ∧ (Z19 = Z1 ∧ True) ∧ Z28; let Z62 := decide (Z21 > Z8); let Z70 : Type := { p : Nat × Int // Z0 p ≤ Z27 ∧ pitsM Z14 Z26 Z16 = pitsM Z14 (Prod.snd p) (Z35 p) }; let Z72 := fun (x : Z70) => Subtype.val x; let Z73 := fun (x : Z70) => Prod.snd (Z72 x); let Z76 := fun (x : Z70) => (↑(Prod.fst (Z72 x)) : Int); let Z79 := fun (x : Z70) => Z4 - Prod.fst (Z72 x); let Z82 := fun (t : Z70) => nat_lit 0 + Int.toNat (Z76 t); let Z83 := fun (t : Z70) => IntKind.wrap IntKind.i64 (Z73 t + Z10); let Z86 := fun (t : Z70) => List.getD pits (Z82 t) (Z9, Z38, Z38, Z38, Z38); let Z87 := fun (t : Z70) => decide (Z76 t < Z21); let Z88 := fun (t : Z70) => Prod.fst (Z86 t); let Z89 := fun (t : Z70) => Prod.snd (Z86 t); let Z90 := fun (t : Z70) => Value.int IntKind.i64 (Z88 t); let Z91 := fun (t : Z70) => Prod.snd (Z89 t); let Z92 := fun (t : Z70) => Prod.fst (Z89 t); let Z97 := fun (t : Z70) => Prod.fst (Z91 t); let Z98 := fun (t : Z70) => Prod.snd (Z91 t); let Z103 := fun (t : Z70) => Prod.fst (Z98 t); let Z104 := fun (t : Z70) => Prod.snd (Z98 t); True ∧ (Z30 ∧ Z49 ∧ Z24 = Z24 ∧ True) ∧ True ∧ ((!Z36) = true → Z58) ∧ ((!Z36) = false → True ∧ (Z32 ∧ Z49 ∧ Z29 = Z29 ∧ True) ∧ True ∧ ((!Z39) = true → Z58) ∧ ((!Z39) = false → True ∧ (Z31 ∧ Z49 ∧ Z52) ∧ True ∧ ((!Z37) = true → Z58) ∧ ((!Z37) = false → (Z62 = true → Z58) ∧ (Z62 = false → (∃ (x : Z70), (Z18 ∧ Value.int IntKind.i64 Z26 = Value.int IntKind.i64 (Z73 x) ∧ Z45 ∧ Z33 = Z33 ∧ Z22 = Value.int IntKind.i64 (Z76 x) ∧ True) ∧ True ∧ Z17 ∧ (Z30 ∧ Z32 ∧ Z31 ∧ Z45 ∧ True) ∧ True) ∧ ∀ (t : Z70), (Z87 t = true → (Z9 ≤ Z76 t ∧ Z76 t < Z21) ∧ Z82 t < List.length pits ∧ True ∧ (Z90 t = Z90 t ∧ Value.int IntKind.i64 (Z83 t) = Value.int IntKind.i64 (Z83 t) ∧ Z30 ∧ True) ∧ True ∧ ((!inM (Z88 t) (Z83 t) long) = true → Z58) ∧ ((!inM (Z88 t) (Z83 t) long) = false → True ∧ ((Value.int IntKind.i64 (Prod.fst (Z92 t)) = Value.int IntKind.i64 (Prod.fst (Z92 t)) ∧ Value.int IntKind.i64 (Prod.snd (Z92 t)) = Value.int IntKind.i64 (Prod.snd (Z92 t)) ∧ True) ∧ Z29 = Z29 ∧ True) ∧ True ∧ ((!spanM (Z92 t) Z13) = true → Z58) ∧ ((!spanM (Z92 t) Z13) = false → True ∧ ((Value.int IntKind.i64 (Prod.fst (Z97 t)) = Value.int IntKind.i64 (Prod.fst (Z97 t)) ∧ Value.int IntKind.i64 (Prod.snd (Z97 t)) = Value.int IntKind.i64 (Prod.snd (Z97 t)) ∧ True) ∧ Z52) ∧ True ∧ ((!spanM (Z97 t) Z12) = true → Z58) ∧ ((!spanM (Z97 t) Z12) = false → True ∧ ((Value.int IntKind.i64 (Prod.fst (Z103 t)) = Value.int IntKind.i64 (Prod.fst (Z103 t)) ∧ Value.int IntKind.i64 (Prod.snd (Z103 t)) = Value.int IntKind.i64 (Prod.snd (Z103 t)) ∧ True) ∧ Z52) ∧ True ∧ ((!spanM (Z103 t) Z12) = true → Z58) ∧ ((!spanM (Z103 t) Z12) = false → True ∧ ((Value.int IntKind.i64 (Prod.fst (Z104 t)) = Value.int IntKind.i64 (Prod.fst (Z104 t)) ∧ Value.int IntKind.i64 (Prod.snd (Z104 t)) = Value.int IntKind.i64 (Prod.snd (Z104 t)) ∧ True) ∧ Z52) ∧ True ∧ ((!spanM (Z104 t) Z12) = true → Z58) ∧ ((!spanM (Z104 t) Z12) = false → True ∧ ∃ (x : Z70), ((Z18 ∧ Z90 t = Value.int IntKind.i64 (Z73 x) ∧ Z45 ∧ Z33 = Z33 ∧ Value.int IntKind.i64 (IntKind.wrap IntKind.i64 (Z76 t + Z10)) = Value.int IntKind.i64 (Z76 x) ∧ True) ∧ True ∧ Z17 ∧ (Z30 ∧ Z32 ∧ Z31 ∧ Z45 ∧ True) ∧ True) ∧ Z79 x < Z79 t)))))) ∧ (Z87 t = false → True ∧ (Z19 = Value.bool true ∧ True) ∧ Z28))))))
    (by kernel_rfl) ?_
  simp only [eq_self, true_and, and_true, Int.toNat_natCast, Nat.zero_add]
  simp only [isGroundS] at hl
  have no : ∀ b : Bool, (!b) = true → b = false := by intro b; cases b <;> simp
  have yes : ∀ b : Bool, (!b) = false → b = true := by intro b; cases b <;> simp
  refine ⟨fun h => ?_, fun h1 => ⟨fun h => ?_, fun h2 => ⟨fun h => ?_, fun h3 => ⟨fun h => ?_, fun h4 => ⟨⟨⟨(0, -1), by simp⟩, by simp⟩, ?_⟩⟩⟩⟩⟩
  · simp [groundM, no _ h]
  · simp [groundM, no _ h]
  · simp [groundM, no _ h]
  · have : ¬ ((pits.length : Int) ≤ 8) := by simp at h; omega
    simp [groundM, this]
  · have h4' : (pits.length : Int) ≤ 8 := by simp at h4; omega
    have hg : groundM ⟨long, rise, change, pits⟩ = pitsM long (-1) pits := by simp [groundM, yes _ h1, yes _ h2, yes _ h3, h4']
    rw [hg]
    rintro ⟨⟨i, b⟩, hi, hp⟩
    simp only at hi hp ⊢
    refine ⟨fun h => ?_, fun h => ?_⟩
    · have hlt : i < pits.length := by simp at h; omega
      have hd : pits.drop i = pits.getD i ((0, (0, 0), (0, 0), (0, 0), 0, 0) : PitT) :: pits.drop (i + 1) := by
        rw [List.drop_eq_getElem_cons hlt]; simp [hlt]
      have key := hp
      rw [hd] at key
      generalize pits.getD i ((0, (0, 0), (0, 0), (0, 0), 0, 0) : PitT) = p at *
      simp only [pitsM, okPitM] at key
      refine ⟨⟨by omega, by omega⟩, hlt, fun k1 => ?_, fun k1 => ⟨fun k2 => ?_, fun k2 => ⟨fun k3 => ?_, fun k3 => ⟨fun k4 => ?_, fun k4 => ⟨fun k5 => ?_, fun k5 => ?_⟩⟩⟩⟩⟩
      · rw [key, no _ k1]; simp
      · have := no _ k2; rw [key]; simp [this]
      · have := no _ k3; rw [key]; simp [this]
      · have := no _ k4; rw [key]; simp [this]
      · have := no _ k5; rw [key]; simp [this]
      · refine ⟨⟨(i + 1, p.1), by omega, ?_⟩, ?_⟩
        · rw [key]; simp [yes _ k1, yes _ k2, yes _ k3, yes _ k4, yes _ k5]
        · have hw : IntKind.i64.wrap ((i : Int) + 1) = (i : Int) + 1 := wrap_id (by omega) (by omega)
          simp [hw]
          omega
    · have : i = pits.length := by simp at h; omega
      subst this
      rw [hp]
      simp [pitsM]

theorem isGround_sound : Sound Try.prog 86 isGroundS.con := FSpec.sound _ (enter_of Try.func86 (by kernel_rfl) (by kernel_rfl)) isGround_ok

end AE.Soil

namespace AE.Soil
open Go AE Go.Proofs

def failV (e : Int) : AV := .ifc 142 (.agg [.i e])
def mustS : FSpec2 UU where
  X := Bool × Int
  pick := fun args _ => match args with
    | [a, b] => match avBool a, avInt b with
      | some a, some b => some (a, b)
      | _, _ => none
    | _ => none
  args := fun x => [.v (.bool x.1), .i x.2]
  H := fun _ => []
  c := fun x => x.1
  R := fun _ => .val ⟨.tup [], [], [], []⟩
  R' := fun x => .panic (failV x.2)
set_option maxRecDepth 100000 in
theorem must_ok1 : ∀ x, mustS.pre x → mustS.c x = true → FunOk Try.prog 85 (mustS.args x) (mustS.H x) (mustS.R x) := by
  rintro ⟨b, e⟩ _ hb
  refine fun_of (T := []) (L := fun _ => none) (hs := fun _ => []) hmix .nil Try.func85 (by kernel_rfl) (by kernel_rfl) ?_
  refine Eq.mp (α :=
      ((!b) = true → False) ∧ ((!b) = false → True ∧ (True ∧ True) ∧ True ∧ True))
    (by kernel_rfl) ?_
  simp only [eq_self, true_and, and_true, Int.toNat_natCast, Nat.zero_add, Nat.sub_zero, Value.int.injEq, Value.bool.injEq, decide_eq_true_eq, decide_eq_false_iff_not]
  simp only [mustS] at hb
  simp [hb]

set_option maxRecDepth 100000 in
theorem must_ok2 : ∀ x, mustS.pre x → mustS.c x = false → FunOk Try.prog 85 (mustS.args x) (mustS.H x) (mustS.R' x) := by
  rintro ⟨b, e⟩ _ hb
  refine fun_of (T := []) (L := fun _ => none) (hs := fun _ => []) hmix .nil Try.func85 (by kernel_rfl) (by kernel_rfl) ?_
  refine Eq.mp (α :=
      ((!b) = true → True ∧ nat_lit 142 = (142 : TypeId) ∧ Value.int IntKind.i64 e = Value.int IntKind.i64 e ∧ True) ∧ ((!b) = false → False))
    (by kernel_rfl) ?_
  simp only [eq_self, true_and, and_true, Int.toNat_natCast, Nat.zero_add, Nat.sub_zero, Value.int.injEq, Value.bool.injEq, decide_eq_true_eq, decide_eq_false_iff_not]
  simp only [mustS] at hb
  simp [hb]

theorem must_sound : Sound Try.prog 85 mustS.con := FSpec2.sound _ (enter_of Try.func85 (by kernel_rfl) (by kernel_rfl)) fun x h => ⟨must_ok1 x h, must_ok2 x h⟩

end AE.Soil

namespace AE.Soil
open Go AE Go.Proofs

set_option maxRecDepth 100000 in
theorem rin_ok : ∀ x, withinS.pre x → FunOk Try.prog 72 (withinS.args x) (withinS.H x) (withinS.R x) := by
  rintro ⟨n, lo, hi⟩ _
  refine fun_of (T := []) (L := fun _ => none) (hs := fun _ => []) hmix .nil Try.func72 (by kernel_rfl) (by kernel_rfl) ?_
  refine Eq.mp (α :=
      let Z1 := Value.bool (inM n lo hi); let Z2 := decide (lo ≤ n); (Z2 = true → True ∧ (Value.bool (decide (n ≤ hi)) = Z1 ∧ True) ∧ True ∧ True) ∧ (Z2 = false → True ∧ (Z1 = Value.bool false ∧ True) ∧ True ∧ True))
    (by kernel_rfl) ?_
  simp only [eq_self, true_and, and_true, Int.toNat_natCast, Nat.zero_add, Nat.sub_zero, Value.int.injEq, Value.bool.injEq, decide_eq_true_eq, decide_eq_false_iff_not]
  simp only [inM]
  simp +contextual
  omega

theorem rin_sound : Sound Try.prog 72 withinS.con := FSpec.sound _ (enter_of Try.func72 (by kernel_rfl) (by kernel_rfl)) rin_ok

def rspanM (s : Span) (lo hi : Int) : Bool := decide (lo ≤ s.1) && decide (s.1 ≤ s.2) && decide (s.2 ≤ hi)
def rspanS : FSpec UU where
  X := Span × Int × Int
  pick := fun args _ => match args with
    | [a, b, c] => match avSpan a, avInt b, avInt c with
      | some a, some b, some c => some (a, b, c)
      | _, _, _ => none
    | _ => none
  args := fun x => [vSpan x.1, .i x.2.1, .i x.2.2]
  H := fun _ => []
  R := fun x => .val ⟨.b (rspanM x.1 x.2.1 x.2.2), [], [], []⟩
set_option maxRecDepth 100000 in
theorem rspan_ok : ∀ x, rspanS.pre x → FunOk Try.prog 73 (rspanS.args x) (rspanS.H x) (rspanS.R x) := by
  rintro ⟨⟨lo, hi⟩, m, n⟩ _
  refine fun_of (T := []) (L := fun _ => none) (hs := fun _ => []) hmix .nil Try.func73 (by kernel_rfl) (by kernel_rfl) ?_
  refine Eq.mp (α :=
      let Z0 := (lo, hi); let Z7 := (Value.bool (rspanM Z0 m n) = Value.bool false ∧ True) ∧ True ∧ True; let Z9 := decide (m ≤ lo); let Z10 := decide (lo ≤ hi); (Z9 = true → (Z10 = true → True ∧ (Value.bool (decide (hi ≤ n)) = Value.bool (rspanM Z0 m n) ∧ True) ∧ True ∧ True) ∧ (Z10 = false → True ∧ Z7)) ∧ (Z9 = false → True ∧ Z7))
    (by kernel_rfl) ?_
  simp only [eq_self, true_and, and_true, Int.toNat_natCast, Nat.zero_add, Nat.sub_zero, Value.int.injEq, Value.bool.injEq, decide_eq_true_eq, decide_eq_false_iff_not]
  simp only [rspanM]
  simp +contextual
  omega

theorem rspan_sound : Sound Try.prog 73 rspanS.con := FSpec.sound _ (enter_of Try.func73 (by kernel_rfl) (by kernel_rfl)) rspan_ok

def vPit (p : PitT) : AV := .agg (CC.enc .pit p)
def isPlaceS : FSpec UU where
  X := GroundT
  pick := fun args H => match args with
    | [a] => avGround H a
    | _ => none
  args := fun x => [vGround x 0]
  H := fun x => [.one (.ro .pit x.pits)]
  R := fun x => .val ⟨.fn (.func 88) [] [.ptr 1 0 0 0], [], [], [.cells (cGround x 0) 32]⟩
set_option maxRecDepth 100000 in
theorem isPlace_ok : ∀ x, isPlaceS.pre x → FunOk Try.prog 83 (isPlaceS.args x) (isPlaceS.H x) (isPlaceS.R x) := by
  rintro ⟨long, rise, change, pits⟩ _
  refine fun_of (T := []) (L := fun _ => none) (hs := fun _ => []) hmix .nil Try.func83 (by kernel_rfl) (by kernel_rfl) ?_
  refine Eq.mp (α :=
      True ∧ ((Fn.func (nat_lit 88) = Fn.func (88 : FuncId) ∧ True ∧ (nat_lit 0 = nat_lit 0 ∧ nat_lit 0 = nat_lit 0 ∧ nat_lit 0 = nat_lit 0) ∧ True) ∧ True) ∧ True ∧ pits = pits ∧ (Value.int IntKind.i64 long = Value.int IntKind.i64 long ∧ Value.int IntKind.i64 rise = Value.int IntKind.i64 rise ∧ Value.int IntKind.i64 change = Value.int IntKind.i64 change ∧ (nat_lit 0 = nat_lit 0 ∧ nat_lit 0 = nat_lit 0 ∧ List.length pits = List.length pits) ∧ True) ∧ True)
    (by kernel_rfl) ?_
  simp only [eq_self, true_and, and_true, Int.toNat_natCast, Nat.zero_add, Nat.sub_zero, Value.int.injEq, Value.bool.injEq, decide_eq_true_eq, decide_eq_false_iff_not]

theorem isPlace_sound : Sound Try.prog 83 isPlaceS.con := FSpec.sound _ (enter_of Try.func83 (by kernel_rfl) (by kernel_rfl)) isPlace_ok

def placeS : FSpec UU where
  X := Int × Int × Int × Int
  pick := fun args H => match args with
    | [a, .ptr id k 0 0] => match avInt a, blkAt H id k with
      | some a, some (.cells [b, c, d, _] _) => match avInt b, avInt c, avInt d with
        | some b, some c, some d => some (a, b, c, d)
        | _, _, _ => none
      | some a, some (.rc [b, c, d, _] _) => match avInt b, avInt c, avInt d with
        | some b, some c, some d => some (a, b, c, d)
        | _, _, _ => none
      | _, _ => none
    | _ => none
  args := fun x => [.i x.1, .ptr 0 0 0 0]
  H := fun x => [.one (.rc [.i x.2.1, .i x.2.2.1, .i x.2.2.2, .junk] 32)]
  R := fun x => .val ⟨.b (inM x.1 0 x.2.1), [], [], []⟩
def Twithin : Tab UU := [(89, withinS.con)]
theorem Twithin_ok : Twithin.Sound Try.prog := .cons within_sound .nil
set_option maxRecDepth 100000 in
theorem place_ok : ∀ x, placeS.pre x → FunOk Try.prog 88 (placeS.args x) (placeS.H x) (placeS.R x) := by
  rintro ⟨n, long, rise, change⟩ _
  refine fun_of (T := Twithin) (L := fun _ => none) (hs := fun _ => []) hmix Twithin_ok Try.func88 (by kernel_rfl) (by kernel_rfl) ?_
  refine Eq.mp (α :=
      let Z0 := Value.int IntKind.i64 long; let Z1 := (0 : Int); let Z3 := Value.int IntKind.i64 Z1; True ∧ (Value.int IntKind.i64 n = Value.int IntKind.i64 n ∧ Z3 = Z3 ∧ Z0 = Z0 ∧ True) ∧ True ∧ True ∧ (Value.bool (inM n Z1 long) = Value.bool (inM n Z1 long) ∧ True) ∧ True ∧ (Z0 = Z0 ∧ Value.int IntKind.i64 rise = Value.int IntKind.i64 rise ∧ Value.int IntKind.i64 change = Value.int IntKind.i64 change ∧ True ∧ True) ∧ True)
    (by kernel_rfl) ?_
  simp only [eq_self, true_and, and_true, Int.toNat_natCast, Nat.zero_add, Nat.sub_zero, Value.int.injEq, Value.bool.injEq, decide_eq_true_eq, decide_eq_false_iff_not]

theorem place_sound : Sound Try.prog 88 placeS.con := FSpec.sound _ (enter_of Try.func88 (by kernel_rfl) (by kernel_rfl)) place_ok

end AE.Soil

namespace AE.Soil
open Go AE Go.Proofs

abbrev pit0 : PitT := (0, (0, 0), (0, 0), (0, 0), 0, 0)
def rGroundL (g : GroundT) : LSpec UU where
  T := { i : Nat // i ≤ g.pits.length ∧ ∃ b : Int, pitsM g.long (-1) g.pits = pitsM g.long b (g.pits.drop i) ∧ (i = 0 → b = -1) ∧ (0 < i → b = (g.pits.getD (i - 1) pit0).1 ∧ 0 ≤ b ∧ b ≤ g.long) }
  fr := fun t => [(1, .ptr 1 0 0 0), (3, .i t.1)]
  H := fun _ => [.one (.ro .pit g.pits), .one (.cells (cGround g 0) 32)]
  mu := fun t => g.pits.length - t.1
def Trground : Tab UU := [(72, withinS.con), (73, rspanS.con)]
theorem Trground_ok : Trground.Sound Try.prog := .cons rin_sound (.cons rspan_sound .nil)
set_option maxRecDepth 100000 in
theorem rGround_ok : ∀ x, isGroundS.pre x → FunOk Try.prog 50 (isGroundS.args x) (isGroundS.H x) (isGroundS.R x) := by
  rintro ⟨long, rise, change, pits⟩ hl
  refine fun_of (T := Trground) (L := fun _ => some (.inv (rGroundL ⟨long, rise, change, pits⟩))) (hs := fun _ => []) hmix Trground_ok Try.func50 (by kernel_rfl) (by kernel_rfl) ?_
  refine Eq.mp (α :=
      let Z0 := Value.bool false; let Z1 := GroundT.mk long rise change pits; let Z2 := Value.int IntKind.i64 rise; let Z3 := List.length pits; let Z4 := Value.int IntKind.i64 change; let Z5 := Value.int IntKind.i64 long; let Z6 := nat_lit 0 = nat_lit 0 ∧ nat_lit 0 = nat_lit 0; let Z7 := (8 : Int); let Z8 := (0 : Int); let Z9 := (1 : Int); let Z10 := (20 : Int); let Z11 := (40 : Int); let Z12 := (0 : Nat); let Z13 := (1 : Nat); let Z14 : List PitT := GroundT.pits Z1; let Z15 := (1000 : Int); let Z16 := groundM Z1; let Z17 := GroundT.long Z1; let Z18 := List.length pits; let Z19 := pits = pits; let Z20 := fun (i : Nat) => i = Z12; let Z21 := nat_lit 0 = nat_lit 0 ∧ Z6; let Z22 := Z19 ∧ True; let Z23 := Value.bool Z16; let Z24 := (↑Z3 : Int); let Z25 := Value.int IntKind.i64 Z8; let Z26 := Value.int IntKind.i64 Z10; let Z27 := Value.int IntKind.i64 Z11; let Z28 := fun (i : Nat) => Z12 < i; let Z29 := fun (b : Int) => Z8 ≤ b; let Z30 := Z3 = Z3; let Z31 := -Z9; let Z32 := Value.int IntKind.i64 Z15; let Z33 := List.length Z14; let Z34 := True ∧ Z22; let Z35 := Z5 = Z5; let Z36 := fun (i : Nat) => List.drop i Z14; let Z37 := Z4 = Z4; let Z38 := Z2 = Z2; let Z39 := fun (b : Int) => b ≤ Z17; let Z40 := fun (b : Int) => b = Z31; let Z41 := nat_lit 0 = nat_lit 0 ∧ Z30; let Z42 := inM long Z8 Z11; let Z43 := inM change Z8 Z10; let Z44 := (Z8, Z8); let Z45 := Z23 = Z0; let Z46 := inM rise Z8 Z15; let Z47 := fun (i : Nat) => i ≤ Z33; let Z48 := fun (i : Nat) => i - Z13; let Z49 := !Z43; let Z50 := !Z42; let Z51 := Z45 ∧ True; let Z52 := !Z46; let Z53 := nat_lit 0 = nat_lit 0 ∧ Z41; let Z54 := Z53 ∧ True; let Z55 := Z24 > Z7; let Z56 := fun (b : Int) (i : Nat) => pitsM Z17 b (Z36 i); let Z57 := fun (i : Nat) (b : Int) => Z20 i → Z40 b; let Z58 := Z25 = Z25; let Z59 := Z26 = Z26; let Z60 := fun (b : Int) => Z29 b ∧ Z39 b; let Z61 := Z32 = Z32; let Z62 := Z59 ∧ True; let Z63 := Z61 ∧ True; let Z64 := pitsM Z17 Z31 Z14; let Z65 := fun (i : Nat) => List.getD Z14 (Z48 i) pit0; let Z66 := Z51 ∧ Z34; let Z67 := True ∧ Z66; let Z68 := Z37 ∧ Z54; let Z69 := (Z44, Z44); let Z70 := fun (i : Nat) => Prod.fst (Z65 i); let Z71 := fun (b : Int) (i : Nat) => b = Z70 i; let Z72 := Z38 ∧ Z68; let Z73 := Z58 ∧ Z62; let Z74 := decide Z55; let Z75 := Z58 ∧ Z63; let Z76 := fun (b : Int) (i : Nat) => Z64 = Z56 b i; let Z77 := Z35 ∧ Z72; let Z78 := (Z44, Z69); let Z79 := Z77 ∧ True; let Z80 := Z19 ∧ Z79; let Z81 := fun (b : Int) (i : Nat) => Z71 b i ∧ Z60 b; let Z82 := True ∧ Z80; let Z83 := fun (i : Nat) (b : Int) => Z28 i → Z81 b i; let Z84 := (Z44, Z78); let Z85 := fun (i : Nat) (b : Int) => Z57 i b ∧ Z83 i b; let Z86 := (Z8, Z84); let Z87 := fun (b : Int) (i : Nat) => Z76 b i ∧ Z85 i b; let Z88 := fun (i : Nat) => ∃ (b : Int), Z87 b i; let Z89 := fun (i : Nat) => Z47 i ∧ Z88 i; let Z90 : Type := { i : Nat // Z89 i }; let Z91 := fun (x : Z90) => Subtype.val x; let Z92 := fun (x : Z90) => (↑(Z91 x) : Int); let Z93 := fun (t : Z90) => Int.toNat (Z92 t); let Z94 := fun (x : Z90) => Value.int IntKind.i64 (Z92 x); let Z95 := fun (x : Z90) => Z3 - Z91 x; let Z96 := fun (t : Z90) => Z92 t > Z8; let Z97 := fun (t : Z90) => nat_lit 0 + Z93 t; let Z98 := fun (t : Z90) => Z92 t < Z24; let Z99 := fun (t : Z90) => Z92 t - Z9; let Z100 := fun (t : Z90) => Z92 t + Z9; let Z101 := fun (t : Z90) => IntKind.wrap IntKind.i64 (Z100 t); let Z102 := fun (t : Z90) => IntKind.wrap IntKind.i64 (Z99 t); let Z103 := fun (t : Z90) => Int.toNat (Z102 t); let Z104 := fun (t : Z90) => Value.int IntKind.i64 (Z101 t); let Z105 := fun (t : Z90) => nat_lit 0 + Z103 t; let Z106 := fun (t : Z90) => List.getD pits (Z97 t) Z86; let Z107 := fun (t : Z90) => Prod.snd (Z106 t); let Z108 := fun (t : Z90) => Prod.fst (Z106 t); let Z109 := fun (t : Z90) => Value.int IntKind.i64 (Z108 t); let Z110 := fun (t : Z90) => List.getD pits (Z105 t) Z86; let Z111 := fun (t : Z90) => inM (Z108 t) Z8 long; let Z112 := fun (t : Z90) => !Z111 t; let Z113 := fun (t : Z90) => Prod.snd (Z107 t); let Z114 := fun (t : Z90) => Prod.fst (Z107 t); let Z115 := fun (t : Z90) => Prod.snd (Z114 t); let Z116 := fun (t : Z90) => Prod.fst (Z114 t); let Z117 := fun (t : Z90) => Value.int IntKind.i64 (Z115 t); let Z118 := fun (t : Z90) => Value.int IntKind.i64 (Z116 t); let Z119 := fun (t : Z90) => Prod.fst (Z110 t); let Z120 := fun (t : Z90) => Prod.snd (Z113 t); let Z121 := fun (t : Z90) => Prod.fst (Z113 t); let Z122 := fun (t : Z90) => Prod.fst (Z121 t); let Z123 := fun (t : Z90) => Prod.snd (Z121 t); let Z124 := fun (t : Z90) => Prod.snd (Z120 t); let Z125 := fun (t : Z90) => Prod.fst (Z120 t); let Z126 := fun (t : Z90) => rspanM (Z114 t) Z8 Z15; let Z127 := fun (t : Z90) => Value.int IntKind.i64 (Z122 t); let Z128 := fun (t : Z90) => Value.int IntKind.i64 (Z123 t); let Z129 := fun (t : Z90) => Prod.fst (Z125 t); let Z130 := fun (t : Z90) => Prod.snd (Z125 t); let Z131 := fun (t : Z90) => Prod.fst (Z124 t); let Z132 := fun (t : Z90) => Prod.snd (Z124 t); let Z133 := fun (t : Z90) => !Z126 t; let Z134 := fun (t : Z90) => Z133 t = true; let Z135 := fun (t : Z90) => Z133 t = false; let Z136 := fun (t : Z90) => Value.int IntKind.i64 (Z129 t); let Z137 := fun (t : Z90) => Value.int IntKind.i64 (Z130 t); let Z138 := fun (t : Z90) => Value.int IntKind.i64 (Z131 t); let Z139 := fun (t : Z90) => Value.int IntKind.i64 (Z132 t); let Z140 := fun (t : Z90) => rspanM (Z121 t) Z8 Z10; let Z141 := fun (t : Z90) => !Z140 t; let Z146 := fun (t : Z90) => !rspanM (Z125 t) Z8 Z10; let Z147 := fun (t : Z90) => !rspanM (Z124 t) Z8 Z10; let Z155 := fun (t : Z90) => decide (Z96 t); let Z160 := fun (t : Z90) => decide (Z98 t); let Z177 := fun (t : Z90) => decide (Z108 t ≤ Z119 t); let Z178 := fun (t : Z90) => ∃ (x : Z90), ((Z21 ∧ Z104 t = Z94 x ∧ True) ∧ Z82) ∧ Z95 x < Z95 t; True ∧ (Z35 ∧ Z58 ∧ Z27 = Z27 ∧ True) ∧ True ∧ (Z50 = true → Z67) ∧ (Z50 = false → True ∧ (Z38 ∧ Z75) ∧ True ∧ (Z52 = true → Z67) ∧ (Z52 = false → True ∧ (Z37 ∧ Z73) ∧ True ∧ (Z49 = true → Z67) ∧ (Z49 = false → (Z74 = true → Z67) ∧ (Z74 = false → (∃ (x : Z90), (Z21 ∧ Z25 = Z94 x ∧ True) ∧ Z82) ∧ ∀ (t : Z90), (Z160 t = true → (Z8 ≤ Z92 t ∧ Z98 t) ∧ Z97 t < Z18 ∧ True ∧ (Z109 t = Z109 t ∧ Z58 ∧ Z35 ∧ True) ∧ True ∧ (Z112 t = true → Z67) ∧ (Z112 t = false → (Z155 t = true → (Z8 ≤ Z102 t ∧ Z102 t < Z24) ∧ Z105 t < Z18 ∧ (Z177 t = true → Z67) ∧ (Z177 t = false → True ∧ ((Z118 t = Z118 t ∧ Z117 t = Z117 t ∧ True) ∧ Z75) ∧ True ∧ (Z134 t → Z67) ∧ (Z135 t → True ∧ ((Z127 t = Z127 t ∧ Z128 t = Z128 t ∧ True) ∧ Z73) ∧ True ∧ (Z141 t = true → Z67) ∧ (Z141 t = false → True ∧ ((Z136 t = Z136 t ∧ Z137 t = Z137 t ∧ True) ∧ Z73) ∧ True ∧ (Z146 t = true → Z67) ∧ (Z146 t = false → True ∧ ((Z138 t = Z138 t ∧ Z139 t = Z139 t ∧ True) ∧ Z73) ∧ True ∧ (Z147 t = true → Z67) ∧ (Z147 t = false → True ∧ Z178 t)))))) ∧ (Z155 t = false → True ∧ ((Z118 t = Z118 t ∧ Z117 t = Z117 t ∧ True) ∧ Z75) ∧ True ∧ (Z134 t → Z67) ∧ (Z135 t → True ∧ ((Z127 t = Z127 t ∧ Z128 t = Z128 t ∧ True) ∧ Z73) ∧ True ∧ (Z141 t = true → Z67) ∧ (Z141 t = false → True ∧ ((Z136 t = Z136 t ∧ Z137 t = Z137 t ∧ True) ∧ Z73) ∧ True ∧ (Z146 t = true → Z67) ∧ (Z146 t = false → True ∧ ((Z138 t = Z138 t ∧ Z139 t = Z139 t ∧ True) ∧ Z73) ∧ True ∧ (Z147 t = true → Z67) ∧ (Z147 t = false → True ∧ Z178 t))))))) ∧ (Z160 t = false → True ∧ (Z23 = Value.bool true ∧ True) ∧ Z34))))))
    (by kernel_rfl) ?_
  simp only [eq_self, true_and, and_true, Int.toNat_natCast, Nat.zero_add]
  simp only [isGroundS] at hl
  have no : ∀ b : Bool, (!b) = true → b = false := by intro b; cases b <;> simp
  have yes : ∀ b : Bool, (!b) = false → b = true := by intro b; cases b <;> simp
  have rs : ∀ (s : Span) (n : Int), rspanM s 0 n = spanM s n := fun _ _ => rfl
  refine ⟨fun h => ?_, fun h1 => ⟨fun h => ?_, fun h2 => ⟨fun h => ?_, fun h3 => ⟨fun h => ?_, fun h4 => ⟨⟨⟨0, by simp, -1, by simp⟩, by simp⟩, ?_⟩⟩⟩⟩⟩
  · simp [groundM, no _ h]
  · simp [groundM, no _ h]
  · simp [groundM, no _ h]
  · have : ¬ ((pits.length : Int) ≤ 8) := by simp at h; omega
    simp [groundM, this]
  · have h4' : (pits.length : Int) ≤ 8 := by simp at h4; omega
    have hg : groundM ⟨long, rise, change, pits⟩ = pitsM long (-1) pits := by simp [groundM, yes _ h1, yes _ h2, yes _ h3, h4']
    have hl40 : 0 ≤ long ∧ long ≤ 40 := by have := yes _ h1; simpa [inM] using this
    rintro ⟨i, hi, b, hp, hb0, hb1⟩
    simp only at hi hp hb0 hb1 ⊢
    refine ⟨fun h => ?_, fun h => ?_⟩
    · have hlt : i < pits.length := by simp at h; omega
      have hd : pits.drop i = pits.getD i pit0 :: pits.drop (i + 1) := by
        rw [List.drop_eq_getElem_cons hlt]; simp [hlt]
      have key := hp
      rw [hd] at key
      obtain ⟨p, hpe⟩ : ∃ p, pits.getD i pit0 = p := ⟨_, rfl⟩
      rw [hpe] at key ⊢
      simp only [pitsM, okPitM] at key
      refine ⟨⟨by omega, by omega⟩, hlt, fun k1 => ?_, fun k1 => ⟨fun k0 => ?_, fun k0 => ?_⟩⟩
      · have hn := no _ k1
        have hin : inM p.1 (W (b + 1)) long = false := by
          rcases Nat.eq_zero_or_pos i with h0 | h0
          · rw [hb0 h0]; exact hn
          · have hh := hb1 h0
            have hw : W (b + 1) = b + 1 := wrap_id (by omega) (by omega)
            rw [hw]
            simp [inM] at hn ⊢
            omega
        rw [hg, key, hin]; simp
      · have hy := yes _ k1
        have h0 : 0 < i := by simp at k0; omega
        have hh := hb1 h0
        have hw : W (b + 1) = b + 1 := wrap_id (by omega) (by omega)
        have hw1 : IntKind.i64.wrap ((i : Int) - 1) = (i : Int) - 1 := wrap_id (by omega) (by omega)
        have ht : ((i : Int) - 1).toNat = i - 1 := by omega
        obtain ⟨hlo, hhi⟩ : 0 ≤ p.1 ∧ p.1 ≤ long := by simpa [inM] using hy
        rw [hw1, ht, ← hh.1]
        refine ⟨⟨by omega, by omega⟩, by omega, fun k => ?_, fun k => ?_⟩
        · have hin : inM p.1 (W (b + 1)) long = false := by
            rw [hw]; simp at k; simp [inM]; omega
          rw [hg, key, hin]; simp
        · have hin : inM p.1 (W (b + 1)) long = true := by
            rw [hw]; simp at k; simp [inM]; omega
          refine ⟨fun k2 => ?_, fun k2 => ⟨fun k3 => ?_, fun k3 => ⟨fun k4 => ?_, fun k4 => ⟨fun k5 => ?_, fun k5 => ?_⟩⟩⟩⟩
          · have := no _ k2; rw [rs] at this; rw [hg, key]; simp [this]
          · have := no _ k3; rw [rs] at this; rw [hg, key]; simp [this]
          · have := no _ k4; rw [rs] at this; rw [hg, key]; simp [this]
          · have := no _ k5; rw [rs] at this; rw [hg, key]; simp [this]
          · have y2 := yes _ k2
            have y3 := yes _ k3
            have y4 := yes _ k4
            have y5 := yes _ k5
            rw [rs] at y2 y3 y4 y5
            refine ⟨⟨i + 1, by omega, p.1, ?_, by omega, fun _ => ⟨by rw [Nat.add_sub_cancel, hpe], hlo, hhi⟩⟩, ?_⟩
            · rw [key, hin, y2, y3, y4, y5]; simp
            · have hw : IntKind.i64.wrap ((i : Int) + 1) = (i : Int) + 1 := wrap_id (by omega) (by omega)
              simp [hw]
              omega
      · have hy := yes _ k1
        have h0 : i = 0 := by simp at k0; omega
        obtain ⟨hlo, hhi⟩ : 0 ≤ p.1 ∧ p.1 ≤ long := by simpa [inM] using hy
        have hin : inM p.1 (W (b + 1)) long = true := by rw [hb0 h0]; exact hy
        refine ⟨fun k2 => ?_, fun k2 => ⟨fun k3 => ?_, fun k3 => ⟨fun k4 => ?_, fun k4 => ⟨fun k5 => ?_, fun k5 => ?_⟩⟩⟩⟩
        · have := no _ k2; rw [rs] at this; rw [hg, key]; simp [this]
        · have := no _ k3; rw [rs] at this; rw [hg, key]; simp [this]
        · have := no _ k4; rw [rs] at this; rw [hg, key]; simp [this]
        · have := no _ k5; rw [rs] at this; rw [hg, key]; simp [this]
        · have y2 := yes _ k2
          have y3 := yes _ k3
          have y4 := yes _ k4
          have y5 := yes _ k5
          rw [rs] at y2 y3 y4 y5
          refine ⟨⟨i + 1, by omega, p.1, ?_, by omega, fun _ => ⟨by rw [Nat.add_sub_cancel, hpe], hlo, hhi⟩⟩, ?_⟩
          · rw [key, hin, y2, y3, y4, y5]; simp
          · have hw : IntKind.i64.wrap ((i : Int) + 1) = (i : Int) + 1 := wrap_id (by omega) (by omega)
            simp [hw]
            omega
    · have : i = pits.length := by simp at h; omega
      subst this
      rw [hg, hp]
      simp [pitsM]

theorem rGround_sound : Sound Try.prog 50 isGroundS.con := FSpec.sound _ (enter_of Try.func50 (by kernel_rfl) (by kernel_rfl)) rGround_ok

end AE.Soil

namespace AE.Soil
open Go AE Go.Proofs

def farM (p : PitT) (at_ rise : Int) : Int := W (max (W (at_ - p.1)) (W (p.1 - at_)) * rise)
def dugM (p : PitT) (at_ rise : Int) : Span := (W (p.2.1.1 - farM p at_ rise), W (p.2.1.2 + farM p at_ rise))
def avPit : AV → Option PitT
  | .agg [a, b, c, d, e, f, g, h, i] => match avInt a, avInt b, avInt c, avInt d, avInt e, avInt f, avInt g, avInt h, avInt i with
    | some a, some b, some c, some d, some e, some f, some g, some h, some i => some (a, (b, c), (d, e), (f, g), (h, i))
    | _, _, _, _, _, _, _, _, _ => none
  | _ => none
def limitS : FSpec UU where
  X := Int × Int
  pick := fun args _ => match args with
    | [_, b, c] => match avInt b, avInt c with
      | some b, some c => some (b, c)
      | _, _ => none
    | _ => none
  args := fun x => [.agg [], .i x.1, .i x.2]
  H := fun _ => []
  R := fun _ => .val ⟨vSpan (0, 1000), [], [], []⟩
set_option maxRecDepth 100000 in
theorem limit_ok : ∀ x, limitS.pre x → FunOk Try.prog 121 (limitS.args x) (limitS.H x) (limitS.R x) := by
  rintro ⟨a, b⟩ _
  refine fun_of (T := []) (L := fun _ => none) (hs := fun _ => []) hmix .nil Try.func121 (by kernel_rfl) (by kernel_rfl) ?_
  refine Eq.mp (α :=
      let Z2 := Value.int IntKind.i64 (0 : Int); let Z3 := Value.int IntKind.i64 (1000 : Int); True ∧ ((Z2 = Z2 ∧ Z3 = Z3 ∧ True) ∧ True) ∧ True ∧ True)
    (by kernel_rfl) ?_
  simp

theorem limit_sound : Sound Try.prog 121 limitS.con := FSpec.sound _ (enter_of Try.func121 (by kernel_rfl) (by kernel_rfl)) limit_ok
def dugS : FSpec UU where
  X := PitT × Int × Int
  pick := fun args _ => match args with
    | [a, b, c] => match avPit a, avInt b, avInt c with
      | some a, some b, some c => some (a, b, c)
      | _, _, _ => none
    | _ => none
  args := fun x => [.agg (encP x.1), .i x.2.1, .i x.2.2]
  H := fun _ => []
  R := fun x => .val ⟨vSpan (dugM x.1 x.2.1 x.2.2), [], [], []⟩
set_option maxRecDepth 100000 in
theorem dug_ok : ∀ x, dugS.pre x → FunOk Try.prog 122 (dugS.args x) (dugS.H x) (dugS.R x) := by
  rintro ⟨⟨p, ⟨a, b⟩, ⟨c, d⟩, ⟨e, f⟩, ⟨g, h⟩⟩, n, r⟩ _
  refine fun_of (T := []) (L := fun _ => none) (hs := fun _ => []) hmix .nil Try.func122 (by kernel_rfl) (by kernel_rfl) ?_
  refine Eq.mp (α :=
      let Z9 := IntKind.wrap IntKind.i64 (max (IntKind.wrap IntKind.i64 (n - p)) (IntKind.wrap IntKind.i64 (p - n)) * r); let Z10 := (p, (a, b), (c, d), (e, f), g, h); True ∧ ((Value.int IntKind.i64 (IntKind.wrap IntKind.i64 (a - Z9)) = Value.int IntKind.i64 (Prod.fst (dugM Z10 n r)) ∧ Value.int IntKind.i64 (IntKind.wrap IntKind.i64 (b + Z9)) = Value.int IntKind.i64 (Prod.snd (dugM Z10 n r)) ∧ True) ∧ True) ∧ True ∧ True)
    (by kernel_rfl) ?_
  simp only [eq_self, true_and, and_true, Int.toNat_natCast, Nat.zero_add, Nat.sub_zero, Value.int.injEq, Value.bool.injEq, decide_eq_true_eq, decide_eq_false_iff_not]
  exact ⟨rfl, rfl⟩

theorem dug_sound : Sound Try.prog 122 dugS.con := FSpec.sound _ (enter_of Try.func122 (by kernel_rfl) (by kernel_rfl)) dug_ok

def placesS : FSpec UU where
  X := Bool
  pick := fun args _ => match args with
    | [.ptr _ _ _ _, b] => avBool b
    | _ => none
  args := fun (b : Bool) => [.ptr 0 0 0 0, .b b]
  H := fun _ => [.one (.rc [.junk, .junk, .junk, .junk, .junk, .junk] 137)]
  R := fun (b : Bool) => .val ⟨.fn (.func 97) [] [.ptr 1 0 0 0, .ptr 2 0 0 0], [], [], [.cells [.ptr 0 0 0 0] 138, .cells [.b b] 4]⟩
set_option maxRecDepth 100000 in
theorem places_ok : ∀ x, placesS.pre x → FunOk Try.prog 91 (placesS.args x) (placesS.H x) (placesS.R x) := by
  intro (b : Bool) _
  refine fun_of (T := []) (L := fun _ => none) (hs := fun _ => []) hmix .nil Try.func91 (by kernel_rfl) (by kernel_rfl) ?_
  refine Eq.mp (α :=
      let Z1 := nat_lit 0 = nat_lit 0 ∧ nat_lit 0 = nat_lit 0 ∧ nat_lit 0 = nat_lit 0; True ∧ ((Fn.func (nat_lit 97) = Fn.func (97 : FuncId) ∧ True ∧ Z1 ∧ Z1 ∧ True) ∧ True) ∧ True ∧ (True ∧ True ∧ True ∧ True ∧ True ∧ True ∧ True) ∧ (Z1 ∧ True) ∧ (Value.bool b = Value.bool b ∧ True) ∧ True)
    (by kernel_rfl) ?_
  simp

theorem places_sound : Sound Try.prog 91 placesS.con := FSpec.sound _ (enter_of Try.func91 (by kernel_rfl) (by kernel_rfl)) places_ok
end AE.Soil

namespace AE.Soil
open Go AE Go.Proofs

abbrev t0 : Bool × PitT := (true, 0, (0, 0), (0, 0), (0, 0), 0, 0)
def tellsM (l : List PitT) : List (Bool × PitT) := l.foldl (fun a p => a ++ [(false, p)]) [t0]
theorem tells_go : ∀ (l : List PitT) (a : List (Bool × PitT)), l.foldl (fun a p => a ++ [(false, p)]) a = a ++ l.map fun p => (false, p)
  | [], a => by simp
  | p :: l, a => by rw [List.foldl_cons, tells_go l]; simp
theorem tells_eq (l : List PitT) : tellsM l = t0 :: l.map fun p => (false, p) := tells_go l [t0]
theorem tells_snoc (l : List PitT) (p : PitT) : tellsM (l ++ [p]) = tellsM l ++ [(false, p)] := by rw [tells_eq, tells_eq]; simp
theorem tells_len (l : List PitT) : (tellsM l).length = l.length + 1 := by rw [tells_eq]; simp
def tellM (t : Bool × PitT) (at_ rise : Int) : Span := if t.1 then (0, 1000) else dugM t.2 at_ rise
def hardTM (l : List (Bool × PitT)) (rise at_ : Int) : Span := l.foldl (fun s t => bothM s (tellM t at_ rise)) (0, 1000)
def hardM (g : GroundT) (at_ : Int) : Span := hardTM (tellsM g.pits) g.rise at_
def pmapM (l : List PitT) : List (Int × Mix3) := l.map fun p => (p.1, p.2.2)
def mixAtM (l : List (Int × Mix3)) (at_ : Int) : Mix3 := if mhasM UU MM.pits [at_] l then andM anyM (mgetM UU MM.pits [at_] l).2 else anyM
abbrev m0 : Mix3 := ((0, 0), (0, 0), 0, 0)
def nM (g : GroundT) : Nat := (g.long + 1).toNat
def hardsM (g : GroundT) (i : Nat) : List Span := (List.range (nM g)).map fun j => if j < i then hardM g (j : Int) else (0, 0)
def mixesM (g : GroundT) (i : Nat) : List Mix3 := (List.range (nM g)).map fun j => if j < i then mixAtM (pmapM g.pits) (j : Int) else m0
def idxM (n : Nat) (back : Bool) (k : Nat) : Nat := if back then n - 1 - k else k
def accM (l : List Mix3) (back : Bool) (change : Int) : Nat → Mix3
  | 0 => l.getD (idxM l.length back 0) m0
  | k + 1 => andM (l.getD (idxM l.length back (k + 1)) m0) (nextM (accM l back change k) change)
def passM (l : List Mix3) (back : Bool) (change : Int) (k : Nat) : List Mix3 := (List.range l.length).map fun j => if idxM l.length back j < k then accM l back change (idxM l.length back j) else l.getD j m0
def nowM (l : List Mix3) (back : Bool) (change : Int) : Nat → Mix3
  | 0 => m0
  | k + 1 => accM l back change k
def stageM (g : GroundT) : Nat → List Mix3
  | 0 => mixesM g (nM g)
  | i + 1 => passM (stageM g i) (i == 1) g.change (nM g)
def boxesM (g : GroundT) : List Mix3 := stageM g 2
def badM (g : GroundT) (j : Nat) : Bool := decide ((hardM g (j : Int)).1 > (hardM g (j : Int)).2) || noneM ((boxesM g).getD j m0)
def lookM (g : GroundT) : Bool := (List.range (nM g)).all fun j => !badM g j
theorem hards_len (g : GroundT) (i : Nat) : (hardsM g i).length = nM g := by simp [hardsM]
theorem mixes_len (g : GroundT) (i : Nat) : (mixesM g i).length = nM g := by simp [mixesM]
theorem pass_len (l : List Mix3) (b : Bool) (c : Int) (k : Nat) : (passM l b c k).length = l.length := by simp [passM]
theorem stage_len (g : GroundT) : ∀ i, (stageM g i).length = nM g
  | 0 => mixes_len g _
  | i + 1 => by unfold stageM; rw [pass_len, stage_len g i]
def SpOk (s : Span) (n : Int) : Prop := 0 ≤ s.1 ∧ s.1 ≤ s.2 ∧ s.2 ≤ n
structure PitOk (long : Int) (p : PitT) : Prop where
  at_ : 0 ≤ p.1 ∧ p.1 ≤ long
  hard : SpOk p.2.1 1000
  sand : SpOk p.2.2.1 20
  silt : SpOk p.2.2.2.1 20
  clay : SpOk p.2.2.2.2 20
structure GOk (g : GroundT) : Prop where
  long : 0 ≤ g.long ∧ g.long ≤ 40
  rise : 0 ≤ g.rise ∧ g.rise ≤ 1000
  change : 0 ≤ g.change ∧ g.change ≤ 20
  len : g.pits.length ≤ 8
  pits : ∀ p ∈ g.pits, PitOk g.long p
  inc : g.pits.Pairwise fun p q => p.1 < q.1
theorem inM_iff {n lo hi : Int} : inM n lo hi = true ↔ lo ≤ n ∧ n ≤ hi := by simp [inM]
theorem spanM_iff {s : Span} {n : Int} : spanM s n = true ↔ SpOk s n := by simp [spanM, SpOk, and_assoc]
theorem pits_go {long : Int} (hl : long ≤ 40) : ∀ (l : List PitT) (b : Int), -1 ≤ b → b ≤ 40 → pitsM long b l = true → (∀ p ∈ l, b < p.1 ∧ PitOk long p) ∧ l.Pairwise fun p q => p.1 < q.1
  | [], b, _, _, _ => ⟨fun p hp => (by cases hp), List.Pairwise.nil⟩
  | q :: l, b, h1, h2, h => by
    have hw : W (b + 1) = b + 1 := wrap_id (by omega) (by omega)
    simp only [pitsM, okPitM, Bool.and_eq_true, inM_iff, spanM_iff, hw] at h
    obtain ⟨⟨⟨⟨⟨a1, a2⟩, a3⟩, a4⟩, a5⟩, h⟩ := h
    obtain ⟨i1, i2⟩ := pits_go hl l q.1 (by omega) (by omega) h
    refine ⟨fun p hp => ?_, List.Pairwise.cons (fun p hp => (i1 p hp).1) i2⟩
    rcases List.mem_cons.1 hp with rfl | hp
    · exact ⟨by omega, ⟨by omega, by omega⟩, a2, a3, a4, a5⟩
    · exact ⟨by have := (i1 p hp).1; omega, (i1 p hp).2⟩
theorem ground_ok {g : GroundT} (h : groundM g = true) : GOk g := by
  simp only [groundM, Bool.and_eq_true, inM_iff, decide_eq_true_eq] at h
  obtain ⟨⟨⟨⟨a1, a2⟩, a3⟩, a4⟩, h⟩ := h
  obtain ⟨i1, i2⟩ := pits_go a1.2 g.pits (-1) (by omega) (by omega) h
  exact ⟨a1, a2, a3, by omega, fun p hp => (i1 p hp).2, i2⟩
theorem n_ok {g : GroundT} (h : GOk g) : ((nM g : Nat) : Int) = g.long + 1 ∧ 0 < nM g ∧ nM g ≤ 41 := by
  have := h.long
  unfold nM; omega

theorem map_set {α : Type} (n : Nat) (f f' : Nat → α) (i : Nat) (x : α) (hi : i < n) (hx : x = f' i) (h : ∀ j, j < n → j ≠ i → f' j = f j) : ((List.range n).map f).set i x = (List.range n).map f' := by
  refine List.ext_getElem (by simp) fun j h1 h2 => ?_
  have hj : j < n := by simpa using h2
  rw [List.getElem_set]
  by_cases he : i = j
  · subst he; simp [hx]
  · rw [if_neg he]; simp [h j hj (fun e => he e.symm)]
theorem map_get {α : Type} (n : Nat) (f : Nat → α) (i : Nat) (d : α) (hi : i < n) : ((List.range n).map f).getD i d = f i := by
  rw [List.getD_eq_getElem?_getD, List.getElem?_eq_getElem (by simpa using hi)]; simp
theorem hards_set {g : GroundT} {k : Nat} (hk : k < nM g) {x : Span} (hx : x = hardM g (k : Int)) : (hardsM g k).set k x = hardsM g (k + 1) := by
  unfold hardsM
  refine map_set _ _ (fun j => if j < k + 1 then hardM g (j : Int) else (0, 0)) k x hk (by rw [if_pos (by omega)]; exact hx) fun j _ hne => ?_
  by_cases h : j < k
  · rw [if_pos h, if_pos (by omega)]
  · rw [if_neg h, if_neg (by omega)]
theorem mixes_set {g : GroundT} {k : Nat} (hk : k < nM g) {x : Mix3} (hx : x = mixAtM (pmapM g.pits) (k : Int)) : (mixesM g k).set k x = mixesM g (k + 1) := by
  unfold mixesM
  refine map_set _ _ (fun j => if j < k + 1 then mixAtM (pmapM g.pits) (j : Int) else m0) k x hk (by rw [if_pos (by omega)]; exact hx) fun j _ hne => ?_
  by_cases h : j < k
  · rw [if_pos h, if_pos (by omega)]
  · rw [if_neg h, if_neg (by omega)]
theorem idx_lt {n k : Nat} (b : Bool) (hk : k < n) : idxM n b k < n := by unfold idxM; split <;> omega
theorem idx_idx {n k : Nat} (b : Bool) (hk : k < n) : idxM n b (idxM n b k) = k := by unfold idxM; split <;> omega
theorem pass_get (l : List Mix3) (b : Bool) (c : Int) {k : Nat} (hk : k < l.length) : (passM l b c k).getD (idxM l.length b k) m0 = l.getD (idxM l.length b k) m0 := by
  unfold passM
  rw [map_get _ _ _ _ (idx_lt b hk), idx_idx b hk, if_neg (Nat.lt_irrefl _)]
theorem pass_set (l : List Mix3) (b : Bool) (c : Int) {k : Nat} (hk : k < l.length) {x : Mix3} (hx : x = accM l b c k) : (passM l b c k).set (idxM l.length b k) x = passM l b c (k + 1) := by
  unfold passM
  refine map_set _ _ (fun j => if idxM l.length b j < k + 1 then accM l b c (idxM l.length b j) else l.getD j m0) _ x (idx_lt b hk) ?_ fun j hj hne => ?_
  · rw [idx_idx b hk, if_pos (by omega)]; exact hx
  · have h0 : idxM l.length b j ≠ k := fun e => hne (by rw [← e, idx_idx b hj])
    by_cases h : idxM l.length b j < k
    · rw [if_pos h, if_pos (by omega)]
    · rw [if_neg h, if_neg (by omega)]
theorem pass_zero (l : List Mix3) (b : Bool) (c : Int) : passM l b c 0 = l := by
  unfold passM
  refine List.ext_getElem (by simp) fun j h1 h2 => ?_
  simp [List.getD_eq_getElem?_getD, List.getElem?_eq_getElem h2]
theorem six {a b : Mix3} (h : a = b) : a.1.1 = b.1.1 ∧ a.1.2 = b.1.2 ∧ a.2.1.1 = b.2.1.1 ∧ a.2.1.2 = b.2.1.2 ∧ a.2.2.1 = b.2.2.1 ∧ a.2.2.2 = b.2.2.2 := by
  subst h; exact ⟨rfl, rfl, rfl, rfl, rfl, rfl⟩
theorem take_snoc {α : Type} (l : List α) (i : Nat) (h : i < l.length) (d : α) : l.take (i + 1) = l.take i ++ [l.getD i d] := by
  rw [List.take_add_one, List.getD_eq_getElem?_getD, List.getElem?_eq_getElem h]; rfl
theorem sucI (i : Nat) (h : i < 1000000000) : IntKind.i64.wrap ((i : Int) + 1) = ((i + 1 : Nat) : Int) := by rw [wrap_id (by omega) (by omega)]; rfl
theorem dec1 {N b : Nat} (h : b < N) : N - (b + 1) < N - b := by omega
theorem hardT_suc (l : List (Bool × PitT)) (rise at_ : Int) (i : Nat) (h : i < l.length) : hardTM (l.take (i + 1)) rise at_ = bothM (hardTM (l.take i) rise at_) (tellM (l.getD i t0) at_ rise) := by
  unfold hardTM
  rw [take_snoc l i h t0, List.foldl_append]; rfl
theorem pmap_put {ps : List PitT} (hi : ps.Pairwise fun p q => p.1 < q.1) {i : Nat} (h : i < ps.length) : mputM UU MM.pits [(ps.getD i pit0).1] ((ps.getD i pit0).1, (ps.getD i pit0).2.2) (pmapM (ps.take i)) = pmapM (ps.take (i + 1)) := by
  have hnone : mfind UU MM.pits [(ps.getD i pit0).1] (pmapM (ps.take i)) = none := by
    refine (List.find?_eq_none (p := fun e : Int × Mix3 => decide ([(ps.getD i pit0).1] = [e.1])) (l := pmapM (ps.take i))).2 ?_
    intro e he
    unfold pmapM at he
    obtain ⟨p, hp, rfl⟩ := List.mem_map.1 he
    obtain ⟨j, hj, rfl⟩ := List.mem_take_iff_getElem.1 hp
    have hlt := List.pairwise_iff_getElem.1 hi j i (by omega) h (by omega)
    have hg : ps.getD i pit0 = ps[i] := by rw [List.getD_eq_getElem?_getD, List.getElem?_eq_getElem h]; rfl
    rw [hg]
    have : ¬ [ps[i].1] = [ps[j].1] := by
      intro e
      have : ps[i].1 = ps[j].1 := by simpa using e
      omega
    simpa using this
  unfold mputM
  rw [hnone]
  show pmapM (ps.take i) ++ [((ps.getD i pit0).1, (ps.getD i pit0).2.2)] = _
  rw [take_snoc ps i h pit0]
  unfold pmapM
  rw [List.map_append]; rfl
theorem pass_first (l : List Mix3) (b : Bool) (c : Int) (h : 0 < l.length) : (passM l b c 0).getD (idxM l.length b 0) m0 = accM l b c 0 := pass_get l b c h
theorem pass_next (l : List Mix3) (b : Bool) (c : Int) {k : Nat} (hk : k < l.length) (h0 : k ≠ 0) : andM ((passM l b c k).getD (idxM l.length b k) m0) (nextM (nowM l b c k) c) = accM l b c k := by
  obtain ⟨j, rfl⟩ : ∃ j, k = j + 1 := ⟨k - 1, by omega⟩
  rw [pass_get l b c hk]; rfl
theorem look_bad {g : GroundT} {j : Nat} (hj : j < nM g) (h : badM g j = true) : lookM g = false := by
  unfold lookM
  rw [List.all_eq_false]
  exact ⟨j, List.mem_range.2 hj, by rw [h]; decide⟩
theorem look_good {g : GroundT} (h : ∀ j, j < nM g → badM g j = false) : lookM g = true := by
  unfold lookM
  rw [List.all_eq_true]
  intro j hj
  rw [h j (List.mem_range.1 hj)]; rfl
theorem hards_get {g : GroundT} {k : Nat} (hk : k < nM g) : (hardsM g (nM g)).getD k (0, 0) = hardM g (k : Int) := by
  unfold hardsM
  rw [map_get _ _ _ _ hk, if_pos hk]
theorem mixAt_yes {l : List (Int × Mix3)} {a : Int} (h : mhasM UU MM.pits [a] l = true) : mixAtM l a = andM anyM (mgetM UU MM.pits [a] l).2 := by
  unfold mixAtM; rw [h]; rfl
theorem mixAt_no {l : List (Int × Mix3)} {a : Int} (h : mhasM UU MM.pits [a] l = false) : mixAtM l a = anyM := by
  unfold mixAtM; rw [h]; rfl
end AE.Soil

namespace AE.Soil
open Go AE Go.Proofs

def onlyAt (n : Nat) (i : ItW UU) (k : Nat) : Option (ItW UU) := match Nat.beq k n with
  | true => some i
  | false => none
theorem onlyAt_ok {n : Nat} {i : ItW UU} (h : ItOk Try.prog i) : ∀ k j, onlyAt n i k = some j → ItOk Try.prog j := by
  intro k j hk
  unfold onlyAt at hk
  split at hk
  · cases hk; exact h
  · cases hk
theorem it_ok {L : Nat → Nat → Option (LRule UU)} : ItOk Try.prog (itOf Try.prog [] 97 Try.f97 L) :=
  itOf_ok hmix .nil Try.func97 (by kernel_rfl) (by kernel_rfl) (enter_of Try.func97 (by kernel_rfl) (by kernel_rfl))
def itFr (l c1 c2 : Nat) : Fr := [(0, .fn (.yield l) [] []), (1, .ptr c1 0 0 0), (2, .ptr c2 0 0 0)]
def lookHp (g : GroundT) (hs : List Span) (ms : List Mix3) (tl : List (Bool × PitT)) (mp : List (Int × Mix3)) : Heap UU := [.one (.ro .pit g.pits), .one (.cells (cGround g 0) 32), .one (.cells [.v (.pointer none)] 138), .one (.cells [.b false] 4), .one (.row .span hs 26), .one (.row .mix ms 151),
  .one (.cells [.i g.long, .i g.rise, .i g.change, .sl 0 0 0 g.pits.length, .gs 4 0, .gs 5 0] 137), .one (.cells [.ptr 6 0 0 0] 138), .one (.row .tell tl 156), .one (.cells [.gs 8 0] 147), .one (.map .pits mp), .one (.cells [.map 10 0] 148)]
def lookF : Fr := [(1, .ptr 1 0 0 0), (2, .ptr 2 0 0 0), (3, .ptr 3 0 0 0), (4, .ptr 7 0 0 0), (5, .ptr 9 0 0 0), (6, .ptr 11 0 0 0)]
def gCell : AB UU := .one (.cells [.ptr 6 0 0 0] 138)
def bCell (b : Bool) : AB UU := .one (.cells [.b b] 4)
def ffCell : AB UU := .one (.cells [.ff] 4)
def lookL1 (g : GroundT) : LSpec UU where
  T := { i : Nat // i ≤ g.pits.length }
  fr := fun i => lookF ++ [(38, .sl 0 0 0 g.pits.length), (39, .i g.pits.length), (40, .i i.1)]
  H := fun i => lookHp g (hardsM g 0) (mixesM g 0) (tellsM (g.pits.take i.1)) (pmapM (g.pits.take i.1))
  mu := fun i => g.pits.length - i.1
def lookHa (g : GroundT) (k : Nat) : Heap UU := lookHp g (hardsM g k) (mixesM g k) (tellsM g.pits) (pmapM g.pits) ++ [gCell, ffCell]
def lookI1 (g : GroundT) (l : Nat) : LSpec UU where
  T := { k : Nat // k ≤ nM g }
  fr := fun k => itFr l 12 13 ++ [(10, .i (nM g : Nat)), (11, .i k.1)]
  H := fun k => lookHa g k.1
  mu := fun k => nM g - k.1
def lookL2 (g : GroundT) : LSpec UU where
  T := { p : Nat × Nat // p.1 < nM g ∧ p.2 ≤ (tellsM g.pits).length }
  fr := fun p => lookF ++ [(9, .i p.1.1), (10, .ptr 14 0 0 0), (70, .gs 8 0), (71, .i (tellsM g.pits).length), (72, .i p.1.2)]
  H := fun p => lookHa g p.1.1 ++ [.one (.cells [.i (hardTM ((tellsM g.pits).take p.1.2) g.rise p.1.1).1, .i (hardTM ((tellsM g.pits).take p.1.2) g.rise p.1.1).2] 26)]
  mu := fun p => (tellsM g.pits).length - p.1.2
def lookHb (g : GroundT) (ms : List Mix3) : Heap UU := lookHp g (hardsM g (nM g)) ms (tellsM g.pits) (pmapM g.pits) ++ [.one (.row .bool [false, true] 4)]
def lookSt (i : Int) : Fr := lookF ++ [(120, .gs 12 0), (121, .i 2), (122, .i i)]
def mCell (m : Mix3) : AB UU := .one (.cells [.i m.1.1, .i m.1.2, .i m.2.1.1, .i m.2.1.2, .i m.2.2.1, .i m.2.2.2] 151)
def lookI2 (g : GroundT) (l : Nat) : LSpec UU where
  T := { p : Nat × Nat // p.1 < 2 ∧ p.2 ≤ nM g }
  fr := fun p => itFr l 15 16 ++ [(10, .i (nM g : Nat)), (11, .i p.1.2)]
  H := fun p => lookHb g (passM (stageM g p.1.1) (p.1.1 == 1) g.change p.1.2) ++ [mCell (nowM (stageM g p.1.1) (p.1.1 == 1) g.change p.1.2), bCell (p.1.2 == 0), gCell, bCell (p.1.1 == 1)]
  mu := fun p => nM g - p.1.2
def lookI3 (g : GroundT) (l : Nat) : LSpec UU where
  T := { k : Nat // k ≤ nM g ∧ ∀ j, j < k → badM g j = false }
  fr := fun k => itFr l 13 14 ++ [(10, .i (nM g : Nat)), (11, .i k.1)]
  H := fun _ => lookHb g (boxesM g) ++ [gCell, ffCell]
  mu := fun k => nM g - k.1
def lookLs (g : GroundT) (k : Nat) : Option (LRule UU) :=
  match k with
  | 5 => some (.inv (lookL1 g))
  | 14 => some (.invR (lookL2 g) fun a b => b.1.1 = a.1.1)
  | 23 => some (.steps [(lookSt 0, lookHb g (stageM g 0)), (lookSt 1, lookHb g (stageM g 1)), (lookSt 2, lookHb g (stageM g 2))])
  | _ => none
def at3 (i1 i2 i3 : ItW UU) (k : Nat) : Option (ItW UU) :=
  match k with
  | 12 => some i1
  | 28 => some i2
  | 36 => some i3
  | _ => none
theorem at3_ok {i1 i2 i3 : ItW UU} (h1 : ItOk Try.prog i1) (h2 : ItOk Try.prog i2) (h3 : ItOk Try.prog i3) : ∀ k j, at3 i1 i2 i3 k = some j → ItOk Try.prog j := by
  intro k j hk
  unfold at3 at hk
  split at hk
  · cases hk; exact h1
  · cases hk; exact h2
  · cases hk; exact h3
  · cases hk
def lookS : FSpec2 UU where
  X := GroundT
  pick := fun args H => match args with
    | [a] => avGround H a
    | _ => none
  args := fun x => [vGround x 0]
  H := fun x => [.one (.ro .pit x.pits)]
  c := fun x => lookM x
  R := fun x => .val ⟨.tup [.ptr 3 0 0 0, .b true], [], [], [.row .span (hardsM x (nM x)) 26, .row .mix (boxesM x) 151, .cells [.i x.long, .i x.rise, .i x.change, .sl 0 0 0 x.pits.length, .gs 1 0, .gs 2 0] 137]⟩
  R' := fun _ => .val ⟨.tup [.v (.pointer none), .b false], [], [], []⟩
  pre := fun x => groundM x = true
def Tlook : Tab UU := [(121, limitS.con), (122, dugS.con), (92, bothS.con), (93, anyS.con), (94, andS.con), (95, nextS.con), (96, isNoneS.con), (91, placesS.con)]
theorem Tlook_ok : Tlook.Sound Try.prog := .cons limit_sound (.cons dug_sound (.cons both_sound (.cons any_sound (.cons and_sound (.cons next_sound (.cons isNone_sound (.cons places_sound .nil)))))))
set_option maxHeartbeats 0 in
set_option maxRecDepth 100000 in
theorem look_ok : ∀ x, lookS.pre x → (lookS.c x = true → FunOk Try.prog 87 (lookS.args x) (lookS.H x) (lookS.R x)) ∧ (lookS.c x = false → FunOk Try.prog 87 (lookS.args x) (lookS.H x) (lookS.R' x)) := by
  rintro ⟨long, rise, change, ps⟩ hx
  refine fun_of2 (T := Tlook) (L := lookLs ⟨long, rise, change, ps⟩) (hs := fun _ => []) (sp := fun _ => none) hmix Tlook_ok (td := fun _ => none) (fun _ _ h => by cases h) (it := at3 (itOf Try.prog [] 97 Try.f97 fun l _ => some (.inv (lookI1 ⟨long, rise, change, ps⟩ l))) (itOf Try.prog [] 97 Try.f97 fun l _ => some (.invR (lookI2 ⟨long, rise, change, ps⟩ l) fun a b => b.1.1 = a.1.1)) (itOf Try.prog [] 97 Try.f97 fun l _ => some (.inv (lookI3 ⟨long, rise, change, ps⟩ l)))) (at3_ok it_ok it_ok it_ok) Try.func87 (by kernel_rfl) (by kernel_rfl) ?_
  refine Eq.mp (α :=
      let Z0 := True ∧ True ∧ True ∧ True; let Z1 := False ∧ False ∧ False ∧ True; let Z2 := (26 : TypeId); let Z3 := nat_lit 0 = nat_lit 0 ∧ nat_lit 0 = nat_lit 0 ∧ True; let Z4 := (151 : TypeId); let Z5 := (149 : TypeId); let Z6 := (146 : TypeId); let Z7 := (156 : TypeId); let Z8 := True ∧ Z0; let Z9 := nat_lit 0 = nat_lit 0 ∧ nat_lit 0 = nat_lit 0 ∧ nat_lit 0 = nat_lit 0; let Z10 := List.length (tellsM ps); let Z11 := ps = ps ∧ True; let Z12 := (↑(List.length ps) : Int); let Z13 := (1099511627776 : Int); let Z14 := lookM (GroundT.mk long rise change ps) = true; let Z15 := Value.int IntKind.i64 (0 : Int); let Z16 := fun (l : Nat) => Fn.yield l = Fn.yield l ∧ True ∧ True; let Z17 := Value.int IntKind.i64 (2 : Int); let Z18 := Value.bool false = Value.bool false; let Z19 := lookM (GroundT.mk long rise change ps) = false; let Z20 := True ∧ Z8; let Z21 := nat_lit 156 = Z7; let Z22 := fun (k : Nat) => k ≤ nM (GroundT.mk long rise change ps); let Z23 := fun (j : Nat) => badM (GroundT.mk long rise change ps) j = false; let Z24 := Z9 ∧ True; let Z25 := (281474976710656 : Int); let Z26 := List.length ps = List.length ps; let Z27 := Value.int IntKind.i64 (1000 : Int); let Z28 := True ∧ Z11; let Z29 := List.length (GroundT.pits (GroundT.mk long rise change ps)); let Z30 := (↑(nM (GroundT.mk long rise change ps)) : Int); let Z31 := Value.int IntKind.i64 rise = Value.int IntKind.i64 rise; let Z32 := Value.int IntKind.i64 change = Value.int IntKind.i64 change; let Z33 := AV.v Z15; let Z34 := Value.int IntKind.i64 long = Value.int IntKind.i64 long; let Z35 := Value.bool true = Value.bool true ∧ True; let Z36 := Value.bool false = Value.bool true ∧ True; let Z37 := Value.bool true = Value.bool false ∧ True; let Z38 := Z18 ∧ True; let Z39 := pmapM ps = pmapM ps; let Z40 := True ∧ Z20; let Z41 := tellsM ps = tellsM ps; let Z42 : List Span := hardsM (GroundT.mk long rise change ps) (nM (GroundT.mk long rise change ps)); let Z43 : List Mix3 := mixesM (GroundT.mk long rise change ps) (0 : Nat); let Z44 : List Mix3 := stageM (GroundT.mk long rise change ps) (2 : Nat); let Z45 := Z31 ∧ True; let Z46 := AV.ifc Z6 (AV.agg []); let Z47 : List Span := hardsM (GroundT.mk long rise change ps) (0 : Nat); let Z48 := Z32 ∧ True; let Z49 : List Mix3 := stageM (GroundT.mk long rise change ps) (0 : Nat); let Z50 : List Mix3 := stageM (GroundT.mk long rise change ps) (1 : Nat); let Z51 := Prod.fst (Prod.fst anyM); let Z52 := Prod.snd (Prod.fst anyM); let Z53 := List.length (boxesM (GroundT.mk long rise change ps)); let Z54 := fun (p : Nat × Nat) => Prod.fst p < nM (GroundT.mk long rise change ps); let Z55 := fun (p : Nat × Nat) => Prod.snd p ≤ nM (GroundT.mk long rise change ps); let Z56 := Value.pointer none = Value.pointer none; let Z57 := Value.int IntKind.i64 Z12; let Z58 := fun (p : Nat × Nat) => Prod.fst p < (2 : Nat); let Z59 := Z38 ∧ True; let Z60 := False ∧ Z37; let Z61 := False ∧ Z36; let Z62 := nat_lit 0 = nat_lit 0 ∧ Z26; let Z63 := Z40 ∧ True; let Z64 := (↑Z10 : Int); let Z65 : List Bool := [true]; let Z66 : Type := { k : Nat // Z22 k }; let Z67 := (↑(List.length (tellsM ps)) : Int); let Z68 := ((0 : Int), (0 : Int)); let Z69 := long + (1 : Int); let Z70 := Value.int IntKind.i64 Z30; let Z71 := fun (i : Nat) => i ≤ Z29; let Z72 := Prod.snd (Prod.snd anyM); let Z73 := Prod.fst (Prod.snd anyM); let Z74 := ps = ps ∧ Z1; let Z75 := List.length (tellsM (GroundT.pits (GroundT.mk long rise change ps))); let Z76 := fun (j k : Nat) => j < k → Z23 j; let Z77 := Z56 ∧ True; let Z78 := Z60 ∧ True; let Z79 := ((0 : Int), (1000 : Int)); let Z80 := (4 : TypeId) = (4 : TypeId); let Z81 := fun (x : Z66) => Subtype.val x; let Z82 := Z61 ∧ True; let Z83 := (0 : Int) < (2 : Int); let Z84 : List AV := [Z33]; let Z85 := (1 : Int) < (2 : Int); let Z86 := (2 : Int) < (2 : Int); let Z87 := (0 : Int) ≤ (0 : Int); let Z88 := Z24 ∧ (True ∧ True) ∧ True; let Z89 := Z2 = Z2; let Z90 := True ∧ Z74; let Z91 := Z7 = Z7; let Z92 := Z4 = Z4; let Z93 := Value.int IntKind.i64 Z51; let Z94 := nat_lit 0 = nat_lit 0 ∧ Z62; let Z95 := fun (k : Nat) => ∀ (j : Nat), Z76 j k; let Z96 := Value.int IntKind.i64 Z52; let Z97 := Value.int IntKind.i64 Z64; let Z98 := (↑Z53 : Int); let Z99 := Prod.fst Z73; let Z100 := Prod.snd Z72; let Z101 := AV.v Z96; let Z102 := AV.v Z93; let Z103 := Prod.fst Z72; let Z104 := Prod.snd Z73; let Z105 := Value.int IntKind.i64 Z67; let Z106 := Z94 ∧ True; let Z107 := List.length Z42; let Z108 := boxesM (GroundT.mk long rise change ps) = boxesM (GroundT.mk long rise change ps); let Z109 : Type := { i : Nat // Z71 i }; let Z110 := IntKind.wrap IntKind.i64 Z69; let Z111 := fun (x : Z109) => Subtype.val x; let Z112 := fun (x : Z66) => (↑(Z81 x) : Int); let Z113 := (nat_lit 0 = nat_lit 0 ∧ True) ∧ Z88; let Z114 := Z9 ∧ Z35; let Z115 := Z9 ∧ Z38; let Z116 := Int.toNat Z110; let Z117 := Z15 = Z15; let Z118 := Z17 = Z17; let Z119 := fun (x : Z66) => mixesM (GroundT.mk long rise change ps) (Z81 x); let Z120 := fun (x : Z66) => hardsM (GroundT.mk long rise change ps) (Z81 x); let Z121 : List Bool := false :: Z65; let Z122 := Value.int IntKind.i64 Z100; let Z123 := Value.int IntKind.i64 Z103; let Z124 := Value.int IntKind.i64 Z104; let Z125 := Value.int IntKind.i64 Z99; let Z126 := fun (p : Nat × Nat) => Prod.snd p ≤ Z75; let Z127 := Z114 ∧ True; let Z128 := Z27 = Z27; let Z129 := AV.v Z123; let Z130 := AV.v Z124; let Z131 := AV.v Z125; let Z132 := Value.int IntKind.i64 Z110; let Z133 := AV.v Z122; let Z134 := (↑Z107 : Int); let Z135 := fun (x : Z66) => Value.int IntKind.i64 (Z112 x); let Z136 := fun (x : Z109) => List.take (Z111 x) ps; let Z137 := Z24 ∧ Z59; let Z138 := Z128 ∧ True; let Z139 := Z94 ∧ Z3; let Z140 := fun (x : Z109) => (↑(Z111 x) : Int); let Z141 := Z56 ∧ Z38; let Z142 := fun (x : Z109) => pmapM (Z136 x); let Z143 := fun (x : Z109) => tellsM (Z136 x); let Z144 := Z82 ∧ Z28; let Z145 := fun (t : Z109) => Int.toNat (Z140 t); let Z146 := fun (k : Nat) => Z22 k ∧ Z95 k; let Z147 := fun (p : Nat × Nat) => Z58 p ∧ Z55 p; let Z148 := Z141 ∧ True; let Z149 : List AV := [Z133]; let Z150 := True ∧ Z144; let Z151 := Z57 = Z57; let Z152 : List AV := Z33 :: Z84; let Z153 := (0 : Int) ≤ Z110; let Z154 := fun (x : Z109) => Value.int IntKind.i64 (Z140 x); let Z155 := fun (x : Z66) => nM (GroundT.mk long rise change ps) - Z81 x; let Z156 := Z91 ∧ Z41; let Z157 := List.getD Z121 (nat_lit 1) false; let Z158 := List.getD Z121 (nat_lit 2) false; let Z159 := List.getD Z121 (nat_lit 0) false; let Z160 := Z32 ∧ Z106; let Z161 := Z42 = Z42; let Z162 := Z70 = Z70; let Z163 : Type := { k : Nat // Z146 k }; let Z164 := decide Z83; let Z165 := decide Z85; let Z166 := decide Z86; let Z167 := Value.bool Z158; let Z168 := Value.bool Z157; let Z169 := Value.bool Z159; let Z170 := fun (x : Z163) => Subtype.val x; let Z171 := fun (x : Z109) => List.length ps - Z111 x; let Z172 := Z78 ∧ Z90; let Z173 := Z110 ≤ Z13; let Z174 := Z39 ∧ Z113; let Z175 := (Z68, Z68); let Z176 := fun (t : Z66) => Z112 t + (1 : Int); let Z177 := True ∧ Z172; let Z178 : Type := { p : Nat × Nat // Z147 p }; let Z179 := fun (t : Z66) => Z112 t < Z30; let Z180 := fun (t : Z109) => nat_lit 0 + Z145 t; let Z181 := fun (x : Z178) => Subtype.val x; let Z182 := fun (p : Nat × Nat) => Z54 p ∧ Z126 p; let Z183 := Z92 ∧ Z108; let Z184 := Z32 ∧ Z139; let Z185 := Z97 = Z97; let Z186 := fun (x : Z163) => (↑(Z170 x) : Int); let Z187 := Z105 = Z97; let Z188 := (nat_lit 0 = nat_lit 0 ∧ True) ∧ Z174; let Z189 := fun (t : Z109) => Z140 t < Z12; let Z190 := fun (t : Z66) => IntKind.wrap IntKind.i64 (Z176 t); let Z191 := Z19 → Z150; let Z192 := fun (x : Z178) => Prod.snd (Z181 x); let Z193 := fun (x : Z178) => Prod.fst (Z181 x); let Z194 := Z148 ∧ Z28; let Z195 := Z110 = Z110; let Z196 := fun (t : Z163) => Int.toNat (Z186 t); let Z197 := Z132 = Z70; let Z198 := True ∧ Z194; let Z199 := fun (t : Z109) => (0 : Nat) + Z145 t; let Z200 := fun (x : Z163) => Value.int IntKind.i64 (Z186 x); let Z201 := Z31 ∧ Z160; let Z202 : List AV := Z33 :: Z152; let Z203 := fun (t : Z66) => Value.int IntKind.i64 (Z190 t); let Z204 : Type := { p : Nat × Nat // Z182 p }; let Z205 := fun (x : Z178) => (↑(Z192 x) : Int); let Z206 := Z14 → Z177; let Z207 := fun (x : Z204) => Subtype.val x; let Z208 := fun (x : Z178) => stageM (GroundT.mk long rise change ps) (Z193 x); let Z209 := fun (t : Z178) => Int.toNat (Z205 t); let Z210 := fun (x : Z163) => nM (GroundT.mk long rise change ps) - Z170 x; let Z211 := Z117 ∧ Z138; let Z212 := fun (t : Z163) => (0 : Int) ≤ Z186 t; let Z213 := Z89 ∧ Z161; let Z214 := fun (x : Z204) => Prod.fst (Z207 x); let Z215 := fun (x : Z204) => Prod.snd (Z207 x); let Z216 := fun (x : Z178) => Value.int IntKind.i64 (Z205 x); let Z217 := fun (t : Z163) => nat_lit 0 + Z196 t; let Z218 := Z31 ∧ Z184; let Z219 := Z211 ∧ True; let Z220 := fun (x : Z178) => Z192 x == nat_lit 0; let Z221 := fun (x : Z178) => Z193 x == nat_lit 1; let Z222 := Z121 = Z121; let Z223 := fun (t : Z66) => Z135 t = Z135 t; let Z224 := Z19 → Z198; let Z225 := fun (x : Z178) => Value.bool (Z221 x); let Z226 := fun (x : Z178) => Value.bool (Z220 x); let Z227 := fun (t : Z163) => Z186 t + (1 : Int); let Z228 := fun (t : Z163) => Z186 t < Z30; let Z229 := fun (t : Z178) => Z220 t = true; let Z230 := fun (t : Z178) => Z221 t = true; let Z231 := fun (t : Z178) => Z220 t = false; let Z232 := fun (x : Z163) => Z15 = Z200 x; let Z233 := fun (x : Z204) => (↑(Z214 x) : Int); let Z234 := fun (x : Z204) => (↑(Z215 x) : Int); let Z235 := fun (t : Z178) => Z221 t = false; let Z236 := fun (t : Z178) => long - Z205 t; let Z237 := fun (x : Z178) => nM (GroundT.mk long rise change ps) - Z192 x; let Z238 : List AV := Z129 :: Z149; let Z239 := Z34 ∧ Z201; let Z240 := fun (t : Z178) => (0 : Int) ≤ Z205 t; let Z241 := fun (x : Z204) => mixesM (GroundT.mk long rise change ps) (Z214 x); let Z242 := fun (x : Z204) => hardsM (GroundT.mk long rise change ps) (Z214 x); let Z243 := fun (x : Z163) => Z232 x ∧ True; let Z244 := fun (t : Z178) => nat_lit 0 + Z209 t; let Z245 := fun (t : Z204) => Int.toNat (Z233 t); let Z246 := fun (t : Z204) => Int.toNat (Z234 t); let Z247 := fun (t : Z178) => Z193 t == (1 : Nat); let Z248 : List AV := Z33 :: Z202; let Z249 := (Z68, Z175); let Z250 := fun (t : Z163) => IntKind.wrap IntKind.i64 (Z227 t); let Z251 := fun (x : Z204) => List.take (Z215 x) (tellsM ps); let Z252 := fun (x : Z204) => Value.int IntKind.i64 (Z234 x); let Z253 := fun (x : Z204) => Value.int IntKind.i64 (Z233 x); let Z254 := fun (x : Z178) => Z226 x = Value.bool true; let Z255 := fun (x : Z178) => Z226 x = Value.bool false; let Z256 := fun (t : Z178) => IntKind.wrap IntKind.i64 (Z236 t); let Z257 := fun (t : Z204) => [Z233 t]; let Z258 := fun (t : Z178) => Z205 t + (1 : Int); let Z259 := fun (x : Z178) => Z254 x ∧ True; let Z260 := fun (x : Z178) => Z255 x ∧ True; let Z261 := fun (t : Z178) => Z205 t < Z30; let Z262 := fun (t : Z163) => Z186 t < Z98; let Z263 := fun (x : Z178) => Z15 = Z216 x; let Z264 := fun (t : Z178) => Int.toNat (Z256 t); let Z265 := fun (t : Z163) => Value.int IntKind.i64 (Z250 t); let Z266 := Z34 ∧ Z218; let Z267 := fun (t : Z178) => (0 : Nat) + Z209 t; let Z268 := fun (t : Z204) => List.length (Z241 t); let Z269 := fun (t : Z204) => List.length (Z242 t); let Z270 := fun (x : Z178) => Z263 x ∧ True; let Z271 := Z266 ∧ True; let Z272 := fun (x t : Z66) => Z155 x < Z155 t; let Z273 := fun (t : Z178) => IntKind.wrap IntKind.i64 (Z258 t); let Z274 := fun (t : Z204) => (0 : Int) ≤ Z233 t; let Z275 := fun (t : Z204) => (0 : Int) ≤ Z234 t; let Z276 := fun (t : Z204) => nat_lit 0 + Z245 t; let Z277 := fun (t : Z204) => nat_lit 0 + Z246 t; let Z278 := fun (t : Z66) => Z223 t ∧ Z45; let Z279 := fun (t : Z163) => Z217 t < Z53; let Z280 := fun (t : Z204) => mgetM UU MM.pits (Z257 t) (pmapM ps); let Z281 := fun (t : Z204) => mhasM UU MM.pits (Z257 t) (pmapM ps); let Z282 := fun (x : Z204) => Z10 - Z215 x; let Z283 := fun (t : Z163) => Z186 t < Z134; let Z284 := Z80 ∧ Z222; let Z285 := fun (t : Z204) => (↑(Z268 t) : Int); let Z286 := fun (t : Z204) => (↑(Z269 t) : Int); let Z287 := fun (t : Z178) => Value.int IntKind.i64 (Z273 t); let Z288 := fun (t : Z204) => Z234 t + (1 : Int); let Z289 := fun (t : Z178) => (0 : Int) ≤ Z256 t; let Z290 := Z284 ∧ True; let Z291 := fun (t : Z204) => Z281 t = true; let Z292 := fun (t : Z204) => Z281 t = false; let Z293 := fun (t : Z178) => nat_lit 0 + Z264 t; let Z294 := fun (x : Z204) => Z15 = Z252 x; let Z295 := Z156 ∧ Z188; let Z296 : List AV := Z33 :: Z248; let Z297 := fun (t x : Z66) => Z203 t = Z135 x; let Z298 := fun (t : Z204) => Prod.snd (Z280 t); let Z299 := fun (t : Z204) => (0 : Nat) + Z245 t; let Z300 := fun (x : Z204) => Z294 x ∧ True; let Z301 := fun (t : Z163) => Z217 t < Z107; let Z302 := fun (t x : Z66) => Z297 t x ∧ True; let Z303 := fun (t : Z204) => Z234 t < Z64; let Z304 := fun (t : Z66) => decide (Z179 t); let Z305 := fun (t : Z204) => IntKind.wrap IntKind.i64 (Z288 t); let Z306 := fun (t : Z204) => Z234 t < Z67; let Z307 := (nat_lit 0 = nat_lit 0 ∧ True) ∧ Z290; let Z308 := fun (t : Z178) => (0 : Nat) + Z264 t; let Z309 := fun (t : Z204) => Value.int IntKind.i64 (Z305 t); let Z310 := fun (t : Z204) => Z277 t < List.length (tellsM ps); let Z311 := fun (t : Z204) => Prod.snd (Z298 t); let Z312 := fun (t : Z204) => Prod.fst (Z298 t); let Z313 : List AV := Z130 :: Z238; let Z314 := Z24 ∧ Z295; let Z315 := fun (t x : Z178) => Z193 t = Z193 x; let Z316 := fun (x : Z178) => Z193 x = Z193 x; let Z317 := fun (t : Z204) => Prod.snd (Z312 t); let Z318 := fun (t : Z204) => Prod.fst (Z312 t); let Z319 := (Z68, Z249); let Z320 := fun (t : Z163) => List.getD Z42 (Z217 t) Z68; let Z321 : List AV := Z33 :: Z296; let Z322 := fun (t : Z204) => Prod.snd (Z311 t); let Z323 := fun (t : Z204) => Prod.fst (Z311 t); let Z324 := fun (t : Z66) (x : Z204) => Z119 t = Z241 x; let Z325 := fun (t : Z66) (x : Z204) => Z120 t = Z242 x; let Z326 := Z284 ∧ Z88; let Z327 := fun (t : Z66) (x : Z204) => Z135 t = Z253 x; let Z328 := fun (t : Z163) => Prod.snd (Z320 t); let Z329 := fun (t : Z163) => Prod.fst (Z320 t); let Z330 := fun (t : Z109) => decide (Z189 t); let Z331 := Z39 ∧ Z307; let Z332 := fun (t : Z204) => Prod.snd (Z322 t); let Z333 := fun (t : Z204) => Prod.fst (Z323 t); let Z334 := fun (t : Z204) => Prod.fst (Z322 t); let Z335 := fun (t : Z204) => Prod.snd (Z323 t); let Z336 := (nat_lit 0 = nat_lit 0 ∧ True) ∧ Z326; let Z337 := (nat_lit 0 = nat_lit 0 ∧ True) ∧ Z331; let Z338 := Z284 ∧ Z137; let Z339 := fun (x : Z163) => Z197 ∧ Z243 x; let Z340 := (nat_lit 0 = nat_lit 0 ∧ True) ∧ Z338; let Z341 := Z206 ∧ Z224; let Z342 := fun (x t : Z163) => Z210 x < Z210 t; let Z343 := fun (x : Z204) => Z214 x = Z214 x; let Z344 := fun (t x : Z204) => Z214 t = Z214 x; let Z345 := ((0 : Int), Z319); let Z346 := fun (t : Z66) (x : Z204) => Z89 ∧ Z325 t x; let Z347 := Z183 ∧ Z271; let Z348 := fun (t : Z66) (x : Z204) => Z92 ∧ Z324 t x; let Z349 := Z39 ∧ Z336; let Z350 := fun (x : Z178) => Z197 ∧ Z270 x; let Z351 := fun (t x : Z66) => Z162 ∧ Z302 t x; let Z352 := fun (t x : Z163) => Z265 t = Z200 x; let Z353 := (true, Z345); let Z354 : List AV := Z131 :: Z313; let Z355 := fun (x : Z163) => Z9 ∧ Z339 x; let Z356 := (nat_lit 0 = nat_lit 0 ∧ True) ∧ Z349; let Z357 := fun (t x : Z178) => Z226 t = Z226 x; let Z358 := fun (t x : Z178) => Z225 t = Z225 x; let Z359 := fun (t x : Z163) => Z352 t x ∧ True; let Z360 := fun (t : Z163) => decide (Z228 t); let Z361 := fun (t x : Z178) => Z358 t x ∧ True; let Z362 := fun (t x : Z178) => Z357 t x ∧ True; let Z363 := fun (t : Z163) => Z212 t ∧ Z262 t; let Z364 := fun (t x : Z178) => Z361 t x ∧ True; let Z365 := Z39 ∧ Z340; let Z366 := fun (x : Z204) => Z187 ∧ Z300 x; let Z367 := fun (t : Z163) => Z360 t = true; let Z368 := fun (t : Z163) => Z360 t = false; let Z369 := fun (x t : Z178) => Z237 x < Z237 t; let Z370 := fun (x : Z178) => Z9 ∧ Z350 x; let Z371 := fun (x : Z204) => nat_lit 0 = nat_lit 0 ∧ Z366 x; let Z372 := fun (x : Z204) => hardTM (Z251 x) rise (Z233 x); let Z373 := fun (t x : Z66) => Z9 ∧ Z351 t x; let Z374 := List.getD (tellsM ps) (nat_lit 0) Z353; let Z375 := (nat_lit 0 = nat_lit 0 ∧ True) ∧ Z365; let Z376 := fun (t : Z163) => Z212 t ∧ Z283 t; let Z377 := fun (x : Z163) => Z9 ∧ Z355 x; let Z378 := fun (t x : Z204) => Z241 t = Z241 x; let Z379 := fun (t x : Z204) => Z242 t = Z242 x; let Z380 := fun (x : Z204) => Prod.fst (Z372 x); let Z381 := fun (x : Z204) => Prod.snd (Z372 x); let Z382 := fun (t : Z204) => Z253 t = Z253 t; let Z383 := fun (t x : Z204) => Z253 t = Z253 x; let Z384 := fun (t : Z163) => List.getD (boxesM (GroundT.mk long rise change ps)) (Z217 t) Z249; let Z385 := fun (t x : Z178) => Z287 t = Z216 x; let Z386 := Prod.snd Z374; let Z387 := Prod.fst Z374; let Z388 := fun (t : Z163) => noneM (Z384 t); let Z389 := fun (t x : Z178) => Z385 t x ∧ True; let Z390 := fun (x : Z204) => Value.int IntKind.i64 (Z380 x); let Z391 := fun (t : Z178) => decide (Z261 t); let Z392 := fun (x : Z204) => Value.int IntKind.i64 (Z381 x); let Z393 := fun (t x : Z178) => Z24 ∧ Z364 t x; let Z394 := Z156 ∧ Z337; let Z395 := fun (t : Z204) => AV.v (Z390 t); let Z396 := fun (t : Z204) => AV.v (Z392 t); let Z397 := fun (x : Z178) => Z9 ∧ Z370 x; let Z398 := fun (x : Z204) => Z9 ∧ Z371 x; let Z399 := fun (t : Z163) => Z388 t = true; let Z400 := fun (t x : Z66) => Z9 ∧ Z373 t x; let Z401 := fun (t : Z163) => Z388 t = false; let Z402 := fun (t : Z178) => Z391 t = true; let Z403 := fun (t : Z178) => Z391 t = false; let Z404 := fun (t : Z204) => Z233 t < Z285 t; let Z405 := fun (t : Z204) => Z233 t < Z286 t; let Z406 := fun (t : Z163) => Prod.fst (Z384 t); let Z407 := fun (t : Z163) => Prod.snd (Z384 t); let Z408 : List AV := Z101 :: Z354; let Z409 := fun (l : Nat) (x : Z163) => Z16 l ∧ Z377 x; let Z410 := fun (t : Z204) => [Z396 t]; let Z411 := fun (t : Z204) => List.set (Z241 t) (Z276 t) anyM; let Z412 := fun (t : Z163) => Prod.fst (Z406 t); let Z413 := fun (t : Z163) => Prod.snd (Z406 t); let Z414 := fun (t : Z204) => Z276 t < Z268 t; let Z415 := fun (t : Z204) => Z276 t < Z269 t; let Z416 := fun (t : Z163) => Prod.fst (Z407 t); let Z417 := fun (t : Z163) => Prod.snd (Z407 t); let Z418 := fun (t : Z204) => Z382 t ∧ Z45; let Z419 := fun (t : Z204) => bothM (Z372 t) Z79; let Z420 := Prod.snd Z386; let Z421 := Prod.fst Z386; let Z422 := fun (t : Z163) => Value.int IntKind.i64 (Z412 t); let Z423 := fun (t : Z204) => True ∧ Z418 t; let Z424 := fun (t : Z163) => Value.int IntKind.i64 (Z413 t); let Z425 := fun (t : Z204) => List.set (Z241 t) (Z299 t) anyM; let Z426 := fun (l : Nat) (x : Z178) => Z16 l ∧ Z397 x; let Z427 := Z24 ∧ Z394; let Z428 := fun (t : Z204) => List.length (Z411 t); let Z429 := fun (t x : Z204) => Z89 ∧ Z379 t x; let Z430 := fun (t : Z163) => Prod.snd (Z416 t); let Z431 := fun (t : Z163) => Prod.fst (Z417 t); let Z432 := fun (l : Nat) (t x : Z66) => Z16 l ∧ Z400 t x; let Z433 := fun (t : Z163) => Prod.snd (Z417 t); let Z434 := fun (t : Z163) => Prod.fst (Z416 t); let Z435 := fun (t x : Z204) => Z92 ∧ Z378 t x; let Z436 := fun (t : Z204) => Prod.snd (Z419 t); let Z437 := fun (t : Z204) => Prod.fst (Z419 t); let Z438 := fun (x t : Z204) => Z282 x < Z282 t; let Z439 := fun (t x : Z204) => Z309 t = Z252 x; let Z440 := Value.int IntKind.i64 Z421; let Z441 := Z156 ∧ Z356; let Z442 := fun (t : Z204) => Z275 t ∧ Z306 t; let Z443 := fun (t x : Z204) => Z439 t x ∧ True; let Z444 := fun (t : Z163) => Value.int IntKind.i64 (Z431 t); let Z445 := fun (t : Z163) => Value.int IntKind.i64 (Z433 t); let Z446 := fun (t : Z163) => Value.int IntKind.i64 (Z430 t); let Z447 := fun (t : Z163) => Value.int IntKind.i64 (Z434 t); let Z448 := fun (t : Z204) => Value.int IntKind.i64 (Z437 t); let Z449 := fun (t : Z204) => (↑(Z428 t) : Int); let Z450 := fun (t : Z204) => Value.int IntKind.i64 (Z436 t); let Z451 := fun (x : Z178) => nowM (Z208 x) (Z221 x) change (Z192 x); let Z452 := fun (x : Z178) => passM (Z208 x) (Z221 x) change (Z192 x); let Z453 := fun (t x : Z163) => Z162 ∧ Z359 t x; let Z454 := fun (t : Z178) => nextM (Z451 t) change; let Z455 := fun (t : Z66) => dugM Z386 (Z112 t) rise; let Z456 := fun (t : Z109) => List.getD ps (Z180 t) Z345; let Z457 := Z266 ∧ Z314; let Z458 := Prod.fst Z420; let Z459 := Prod.snd Z420; let Z460 := fun (t : Z178) => nowM (Z208 t) (Z247 t) change (Z192 t); let Z461 := fun (t : Z178) => passM (Z208 t) (Z247 t) change (Z192 t); let Z462 := fun (t : Z178) => List.length (Z452 t); let Z463 := Prod.fst Z458; let Z464 := Prod.snd Z458; let Z465 := Z156 ∧ Z375; let Z466 := fun (x : Z178) => Prod.snd (Z451 x); let Z467 := fun (x : Z178) => Prod.fst (Z451 x); let Z468 : List AV := Z102 :: Z408; let Z469 := fun (t : Z178) => nextM (Z460 t) change; let Z470 := fun (t : Z109) => List.getD ps (Z199 t) Z345; let Z471 := Z24 ∧ Z441; let Z472 := fun (t x : Z163) => Z9 ∧ Z453 t x; let Z473 := fun (t : Z178) => Prod.snd (Z454 t); let Z474 := fun (t : Z178) => Prod.fst (Z454 t); let Z475 := Z213 ∧ Z347; let Z476 := fun (x : Z178) => Prod.snd (Z467 x); let Z477 := fun (x : Z178) => Prod.fst (Z467 x); let Z478 := Value.int IntKind.i64 Z463; let Z479 := Value.int IntKind.i64 Z464; let Z480 := fun (t : Z178) => (↑(Z462 t) : Int); let Z481 := Prod.snd Z459; let Z482 := fun (t : Z204) => decide (Z303 t); let Z483 := Prod.fst Z459; let Z484 := fun (x : Z178) => Prod.fst (Z466 x); let Z485 := fun (x : Z178) => Prod.snd (Z466 x); let Z486 := fun (t : Z178) => Prod.fst (Z474 t); let Z487 := fun (t : Z178) => Prod.snd (Z474 t); let Z488 := fun (t x : Z178) => Z162 ∧ Z389 t x; let Z489 := fun (x : Z178) => Value.int IntKind.i64 (Z477 x); let Z490 := fun (x : Z178) => Value.int IntKind.i64 (Z476 x); let Z491 := Prod.snd Z483; let Z492 := fun (t : Z204) => bif Z281 t then Z318 t else (0 : Int); let Z493 := Prod.fst Z483; let Z494 := fun (t : Z204) => bif Z281 t then Z317 t else (0 : Int); let Z495 := fun (t : Z204) => Z482 t = true; let Z496 := fun (t : Z204) => Z482 t = false; let Z497 := fun (t : Z178) => Prod.fst (Z473 t); let Z498 := fun (t : Z178) => Prod.snd (Z473 t); let Z499 := fun (t : Z109) => Prod.snd (Z456 t); let Z500 := fun (t : Z109) => Prod.fst (Z456 t); let Z501 := fun (x : Z178) => Prod.snd (Z485 x); let Z502 := fun (x : Z178) => Prod.fst (Z484 x); let Z503 := fun (x : Z178) => Prod.snd (Z484 x); let Z504 := fun (x : Z178) => Prod.fst (Z485 x); let Z505 := Prod.fst Z481; let Z506 := Prod.snd Z481; let Z507 := fun (t : Z178) => Value.int IntKind.i64 (Z487 t); let Z508 := fun (t : Z178) => Value.int IntKind.i64 (Z486 t); let Z509 := Z24 ∧ Z465; let Z510 := fun (t : Z178) => Prod.snd (Z498 t); let Z511 := fun (t : Z178) => Prod.fst (Z498 t); let Z512 := fun (t : Z178) => Prod.snd (Z497 t); let Z513 := ps = ps ∧ Z475; let Z514 := fun (t : Z178) => Prod.fst (Z497 t); let Z515 := fun (t : Z204) => Value.int IntKind.i64 (Z492 t); let Z516 := Value.int IntKind.i64 Z491; let Z517 := fun (t : Z204) => Value.int IntKind.i64 (Z494 t); let Z518 := Value.int IntKind.i64 Z493; let Z519 := fun (t x : Z163) => Z9 ∧ Z472 t x; let Z520 := fun (t : Z109) => Value.int IntKind.i64 (Z500 t); let Z521 := fun (x : Z178) => Value.int IntKind.i64 (Z504 x); let Z522 := fun (x : Z178) => Value.int IntKind.i64 (Z502 x); let Z523 := fun (x : Z178) => Value.int IntKind.i64 (Z501 x); let Z524 := fun (x : Z178) => Value.int IntKind.i64 (Z503 x); let Z525 := fun (t : Z204) => bif Z281 t then Z335 t else (0 : Int); let Z526 := Prod.snd Z505; let Z527 := Prod.fst Z506; let Z528 := Prod.snd Z506; let Z529 := fun (t : Z204) => bif Z281 t then Z334 t else (0 : Int); let Z530 := fun (t : Z204) => bif Z281 t then Z333 t else (0 : Int); let Z531 := Prod.fst Z505; let Z532 := fun (t : Z204) => bif Z281 t then Z332 t else (0 : Int); let Z533 := True ∧ Z513; let Z534 := fun (t : Z109) => AV.v (Z520 t); let Z535 := fun (t : Z109) => [Z500 t]; let Z536 := fun (t : Z109) => Prod.fst (Z470 t); let Z537 := fun (t : Z109) => Prod.snd (Z470 t); let Z538 := fun (t : Z204) (x : Z66) => Z425 t = Z119 x; let Z539 := fun (t : Z178) => Value.int IntKind.i64 (Z514 t); let Z540 := fun (t : Z178) => Value.int IntKind.i64 (Z511 t); let Z541 := fun (t : Z178) => Value.int IntKind.i64 (Z512 t); let Z542 := fun (t : Z178) => Value.int IntKind.i64 (Z510 t); let Z543 := fun (t x : Z178) => Z9 ∧ Z488 t x; let Z544 := fun (t : Z204) => Value.int IntKind.i64 (Z525 t); let Z545 := Value.int IntKind.i64 Z528; let Z546 := Value.int IntKind.i64 Z531; let Z547 := fun (t : Z204) => Value.int IntKind.i64 (Z532 t); let Z548 := Value.int IntKind.i64 Z526; let Z549 := Value.int IntKind.i64 Z527; let Z550 := fun (t : Z204) => Value.int IntKind.i64 (Z529 t); let Z551 := fun (t : Z204) => Value.int IntKind.i64 (Z530 t); let Z552 := fun (x : Z178) => Z15 = Z490 x; let Z553 := fun (x : Z178) => Z15 = Z489 x; let Z554 := fun (t : Z109) => Prod.fst (Z499 t); let Z555 := fun (t : Z109) => Prod.snd (Z499 t); let Z556 := fun (t : Z109) => [Z536 t]; let Z557 := fun (t : Z109) => Prod.snd (Z554 t); let Z558 := fun (t : Z109) => Prod.fst (Z554 t); let Z559 := fun (l : Nat) (t x : Z163) => Z16 l ∧ Z519 t x; let Z560 := fun (x : Z178) => Z15 = Z523 x; let Z561 := fun (x : Z178) => Z15 = Z524 x; let Z562 := fun (x : Z178) => Z15 = Z521 x; let Z563 := fun (x : Z178) => Z15 = Z522 x; let Z564 := fun (t : Z109) => Prod.fst (Z537 t); let Z565 := fun (t : Z109) => Prod.snd (Z537 t); let Z566 := fun (t x : Z178) => Z9 ∧ Z543 t x; let Z567 := fun (x : Z178) => Z560 x ∧ True; let Z568 := fun (t : Z109) => Value.int IntKind.i64 (Z557 t); let Z569 := fun (t : Z109) => Value.int IntKind.i64 (Z558 t); let Z570 := fun (t : Z109) => Prod.fst (Z555 t); let Z571 := fun (t : Z109) => Prod.snd (Z555 t); let Z572 := fun (t : Z109) => AV.v (Z568 t); let Z573 := fun (t : Z109) => AV.v (Z569 t); let Z574 := fun (t : Z163) => Z329 t > Z328 t; let Z575 := fun (t x : Z204) => Z185 ∧ Z443 t x; let Z576 := fun (t : Z109) => Prod.fst (Z570 t); let Z577 := fun (t : Z109) => Prod.snd (Z570 t); let Z578 := fun (t : Z204) (x : Z66) => Z92 ∧ Z538 t x; let Z579 := fun (t : Z204) => List.getD (tellsM ps) (Z277 t) Z353; let Z580 := fun (t : Z109) => Prod.snd (Z571 t); let Z581 := fun (t : Z109) => Prod.fst (Z571 t); let Z582 := fun (t : Z109) => Prod.fst (Z565 t); let Z583 := fun (t : Z109) => Prod.snd (Z565 t); let Z584 := fun (t x : Z204) => nat_lit 0 = nat_lit 0 ∧ Z575 t x; let Z585 := fun (t : Z109) => Value.int IntKind.i64 (Z577 t); let Z586 := fun (t : Z109) => Value.int IntKind.i64 (Z576 t); let Z587 := fun (t : Z109) => Prod.fst (Z580 t); let Z588 := fun (t : Z109) => AV.v (Z586 t); let Z589 := fun (t : Z109) => Prod.fst (Z581 t); let Z590 := fun (t : Z109) => Prod.snd (Z581 t); let Z591 := fun (t : Z109) => Prod.snd (Z580 t); let Z592 := fun (t : Z109) => AV.v (Z585 t); let Z593 := fun (x t : Z178) => Z260 x ∧ Z393 t x; let Z594 := fun (l : Nat) (t x : Z178) => Z16 l ∧ Z566 t x; let Z595 := fun (t : Z109) => Prod.snd (Z582 t); let Z596 := fun (t : Z109) => Prod.fst (Z582 t); let Z597 := fun (t : Z204) => Prod.fst (Z579 t); let Z598 := fun (t : Z204) => Prod.snd (Z579 t); let Z599 := Z127 ∧ Z533; let Z600 := fun (t : Z109) => Prod.snd (Z583 t); let Z601 := fun (t : Z109) => Prod.fst (Z583 t); let Z602 := True ∧ Z599; let Z603 := fun (t : Z109) => Value.int IntKind.i64 (Z589 t); let Z604 := fun (t : Z109) => Value.int IntKind.i64 (Z587 t); let Z605 := fun (t : Z109) => Value.int IntKind.i64 (Z591 t); let Z606 := fun (t : Z109) => Value.int IntKind.i64 (Z590 t); let Z607 := fun (t : Z204) => Z597 t = true; let Z608 := fun (t : Z204) => Z597 t = false; let Z609 := fun (t : Z109) => AV.v (Z605 t); let Z610 := fun (t : Z109) => AV.v (Z606 t); let Z611 := fun (t : Z109) => AV.v (Z603 t); let Z612 := fun (t : Z109) => AV.v (Z604 t); let Z613 := fun (t : Z109) => Prod.snd (Z601 t); let Z614 := fun (t : Z109) => Prod.snd (Z600 t); let Z615 := fun (t : Z109) => Prod.fst (Z600 t); let Z616 := fun (t : Z109) => Prod.fst (Z601 t); let Z617 := fun (t x : Z204) => Z9 ∧ Z584 t x; let Z618 := fun (t : Z204) => Z274 t ∧ Z404 t; let Z619 := fun (t : Z204) => Z274 t ∧ Z405 t; let Z620 := fun (t : Z109) => [Z609 t]; let Z621 := fun (x t x_1 : Z178) => Z369 x t ∧ Z315 x x_1; let Z622 := Z266 ∧ Z427; let Z623 := Z14 → Z602; let Z624 := fun (t : Z204) => Prod.snd (Z598 t); let Z625 := fun (t : Z204) => Prod.fst (Z598 t); let Z626 := fun (t : Z204) => Z233 t < Z449 t; let Z627 := fun (t : Z178) => Z205 t < Z480 t; let Z628 := fun (t : Z204) => Value.int IntKind.i64 (Z625 t); let Z629 := fun (t : Z204) => Z276 t < Z428 t; let Z630 := fun (t : Z178) => Z244 t < Z462 t; let Z631 := fun (t : Z204) => Prod.snd (Z624 t); let Z632 := fun (t : Z204) => Prod.fst (Z624 t); let Z633 := fun (t : Z66) (x : Z204) => Z327 t x ∧ Z398 x; let Z634 := fun (t : Z204) => Prod.snd (Z632 t); let Z635 := fun (t : Z204) => Prod.fst (Z632 t); let Z636 := Z266 ∧ Z471; let Z637 := fun (t : Z178) => Z256 t < Z480 t; let Z638 := fun (t : Z204) => Value.int IntKind.i64 (Z635 t); let Z639 := fun (t : Z204) => Value.int IntKind.i64 (Z634 t); let Z640 := fun (t : Z204) => Prod.fst (Z631 t); let Z641 := fun (t : Z204) => Prod.snd (Z631 t); let Z642 := fun (t : Z66) (x : Z204) => Z9 ∧ Z633 t x; let Z643 := fun (t : Z178) => Z293 t < Z462 t; let Z644 := fun (t : Z204) => Prod.snd (Z640 t); let Z645 := fun (t : Z204) => Prod.fst (Z640 t); let Z646 := Z266 ∧ Z509; let Z647 := fun (t : Z204) => Prod.fst (Z641 t); let Z648 := fun (t : Z204) => Prod.snd (Z641 t); let Z649 := fun (t : Z163) => Z399 t → Z341; let Z650 := fun (t : Z204) => Value.int IntKind.i64 (Z645 t); let Z651 := fun (t : Z204) => Value.int IntKind.i64 (Z644 t); let Z652 := fun (t : Z204) => Prod.snd (Z647 t); let Z653 := fun (t : Z204) => Prod.fst (Z648 t); let Z654 := fun (t : Z204) => Prod.snd (Z648 t); let Z655 := fun (t : Z204) => Prod.fst (Z647 t); let Z656 := fun (t : Z66) (x : Z204) => Z9 ∧ Z642 t x; let Z657 := fun (t : Z204) => Value.int IntKind.i64 (Z654 t); let Z658 := fun (t : Z204) => Value.int IntKind.i64 (Z653 t); let Z659 := fun (t : Z204) => Value.int IntKind.i64 (Z655 t); let Z660 := fun (t : Z204) => Value.int IntKind.i64 (Z652 t); let Z661 := fun (t x : Z178) => Z362 t x ∧ Z393 t x; let Z662 := fun (x t x_1 : Z204) => Z438 x t ∧ Z344 x x_1; let Z663 := Z623 ∧ Z191; let Z664 := fun (t : Z66) (x : Z204) => Z9 ∧ Z656 t x; let Z665 := fun (t : Z204) => dugM (Z598 t) (Z233 t) rise; let Z666 := fun (t : Z204) => Prod.fst (Z665 t); let Z667 := fun (t : Z204) => Prod.snd (Z665 t); let Z668 := fun (t : Z204) => Z392 t = Z392 t; let Z669 := fun (t : Z204) => Z390 t = Z390 t; let Z670 := fun (t : Z204) => List.set (Z242 t) (Z299 t) (Z372 t); let Z671 := fun (t : Z204) => Z668 t ∧ True; let Z672 := fun (t : Z66) (x : Z204) => Z9 ∧ Z664 t x; let Z673 := fun (t : Z204) => Value.int IntKind.i64 (Z666 t); let Z674 := fun (t : Z204) => Value.int IntKind.i64 (Z667 t); let Z675 := Z183 ∧ Z636; let Z676 := fun (t : Z204) => Z395 t :: Z410 t; let Z677 := fun (t : Z204) => List.getD (Z411 t) (Z276 t) Z249; let Z678 := fun (t : Z178) => Z240 t ∧ Z627 t; let Z679 := fun (t : Z66) (x : Z204) => Z9 ∧ Z672 t x; let Z680 := fun (t : Z178) => List.getD (Z452 t) (Z244 t) Z249; let Z681 := fun (t : Z204) => Z274 t ∧ Z626 t; let Z682 := fun (t x : Z204) => Z450 t = Z392 x; let Z683 := fun (t x : Z204) => Z448 t = Z390 x; let Z684 := fun (t : Z204) => Prod.fst (Z677 t); let Z685 := fun (t : Z204) => Prod.snd (Z677 t); let Z686 := fun (t x : Z204) => Z682 t x ∧ True; let Z687 := fun (t : Z178) => Prod.snd (Z680 t); let Z688 := fun (t : Z178) => Prod.fst (Z680 t); let Z689 := fun (t : Z204) => Prod.snd (Z684 t); let Z690 := fun (t : Z204) => Prod.fst (Z684 t); let Z691 := fun (t : Z204) => List.getD (Z425 t) (Z299 t) Z249; let Z692 := fun (t : Z66) (x : Z204) => Z9 ∧ Z679 t x; let Z693 := fun (t : Z204) => Prod.fst (Z685 t); let Z694 := fun (t : Z204) => Prod.snd (Z685 t); let Z695 := fun (t : Z163) => Z424 t = Z424 t; let Z696 := fun (t : Z163) => Z422 t = Z422 t; let Z697 := fun (t : Z178) => Prod.snd (Z688 t); let Z698 := fun (t : Z178) => Prod.fst (Z688 t); let Z699 := fun (t : Z178) => List.getD (Z461 t) (Z267 t) Z249; let Z700 := fun (t : Z204) => Value.int IntKind.i64 (Z689 t); let Z701 := fun (t : Z204) => Value.int IntKind.i64 (Z690 t); let Z702 := fun (t : Z178) => Prod.snd (Z687 t); let Z703 := fun (t : Z178) => Prod.fst (Z687 t); let Z704 := fun (t : Z204) => Prod.fst (Z693 t); let Z705 := fun (t : Z204) => Prod.fst (Z694 t); let Z706 := fun (t : Z204) => Prod.snd (Z693 t); let Z707 := fun (t : Z178) => List.getD (Z452 t) (Z293 t) Z249; let Z708 := fun (t : Z204) => Prod.snd (Z694 t); let Z709 := fun (t : Z178) => Value.int IntKind.i64 (Z697 t); let Z710 := fun (t : Z178) => Value.int IntKind.i64 (Z698 t); let Z711 := fun (t : Z178) => Prod.snd (Z702 t); let Z712 := fun (t : Z178) => AV.v (Z709 t); let Z713 := fun (t : Z178) => Prod.fst (Z703 t); let Z714 := fun (t : Z178) => Prod.snd (Z703 t); let Z715 := fun (t : Z178) => Prod.fst (Z702 t); let Z716 := fun (t : Z178) => AV.v (Z710 t); let Z717 := fun (t : Z204) (x : Z66) => Z670 t = Z120 x; let Z718 := fun (t : Z204) => Value.int IntKind.i64 (Z704 t); let Z719 := fun (t : Z204) => Value.int IntKind.i64 (Z705 t); let Z720 := fun (t : Z204) => Value.int IntKind.i64 (Z706 t); let Z721 := fun (t : Z204) => Value.int IntKind.i64 (Z708 t); let Z722 := fun (t : Z178) => Prod.fst (Z699 t); let Z723 := fun (t : Z178) => Prod.snd (Z699 t); let Z724 := fun (t : Z178) => Value.int IntKind.i64 (Z715 t); let Z725 := fun (t : Z178) => Value.int IntKind.i64 (Z713 t); let Z726 := fun (t : Z178) => Value.int IntKind.i64 (Z711 t); let Z727 := fun (t : Z178) => Value.int IntKind.i64 (Z714 t); let Z728 := fun (t : Z163) => Z447 t = Z447 t; let Z729 := fun (t : Z163) => Z446 t = Z446 t; let Z730 := fun (t : Z163) => Z444 t = Z444 t; let Z731 := fun (t : Z163) => Z445 t = Z445 t; let Z732 := fun (t : Z178) => AV.v (Z724 t); let Z733 := fun (t : Z178) => Prod.fst (Z707 t); let Z734 := fun (t : Z178) => AV.v (Z725 t); let Z735 := fun (t : Z178) => Prod.snd (Z707 t); let Z736 := fun (t : Z178) => AV.v (Z726 t); let Z737 := fun (t : Z178) => AV.v (Z727 t); let Z738 := fun (t : Z178) => Prod.snd (Z722 t); let Z739 := fun (t : Z178) => Prod.fst (Z722 t); let Z740 := fun (t : Z163) => Z731 t ∧ True; let Z741 := fun (t : Z178) => Prod.snd (Z733 t); let Z742 := fun (t : Z178) => Prod.fst (Z733 t); let Z743 := fun (t : Z178) => Prod.snd (Z723 t); let Z744 := fun (t : Z178) => Prod.fst (Z723 t); let Z745 := fun (t : Z178) => List.getD (Z461 t) (Z308 t) Z249; let Z746 := fun (t : Z178) => Z289 t ∧ Z637 t; let Z747 := fun (t : Z178) => [Z736 t]; let Z748 := fun (t : Z178) => Prod.snd (Z735 t); let Z749 := fun (t : Z178) => Prod.fst (Z735 t); let Z750 := fun (t : Z178) => Value.int IntKind.i64 (Z739 t); let Z751 := fun (t : Z178) => Prod.snd (Z744 t); let Z752 := fun (t : Z178) => Prod.snd (Z743 t); let Z753 := fun (t : Z178) => Prod.fst (Z743 t); let Z754 := fun (t : Z178) => AV.v (Z750 t); let Z755 := fun (t : Z178) => Prod.fst (Z744 t); let Z756 := fun (t : Z178) => Value.int IntKind.i64 (Z742 t); let Z757 := fun (t : Z178) => Value.int IntKind.i64 (Z741 t); let Z758 := fun (t : Z178) => Prod.fst (Z749 t); let Z759 := fun (t : Z178) => AV.v (Z757 t); let Z760 := fun (t : Z178) => AV.v (Z756 t); let Z761 := fun (t : Z178) => Prod.snd (Z748 t); let Z762 := fun (t : Z178) => Prod.fst (Z748 t); let Z763 := fun (t : Z178) => Prod.snd (Z749 t); let Z764 := fun (t : Z178) => Value.int IntKind.i64 (Z755 t); let Z765 := fun (t : Z178) => Value.int IntKind.i64 (Z753 t); let Z766 := fun (t : Z178) => AV.v (Z764 t); let Z767 := fun (t : Z178) => AV.v (Z765 t); let Z768 := fun (t : Z178) => Prod.snd (Z745 t); let Z769 := fun (t : Z178) => Prod.fst (Z745 t); let Z770 := fun (t : Z204) (x : Z66) => Z89 ∧ Z717 t x; let Z771 := fun (t : Z178) => Value.int IntKind.i64 (Z758 t); let Z772 := fun (t : Z178) => Value.int IntKind.i64 (Z761 t); let Z773 := fun (t : Z178) => Value.int IntKind.i64 (Z762 t); let Z774 := fun (t : Z178) => Value.int IntKind.i64 (Z763 t); let Z775 := fun (t : Z178) => AV.v (Z771 t); let Z776 := fun (t : Z178) => AV.v (Z772 t); let Z777 := fun (t : Z178) => AV.v (Z774 t); let Z778 := fun (t : Z178) => AV.v (Z773 t); let Z779 := fun (t : Z178) => Prod.fst (Z769 t); let Z780 := fun (t : Z178) => Prod.snd (Z769 t); let Z781 := fun (t : Z178) => Prod.snd (Z768 t); let Z782 := fun (t : Z178) => Prod.fst (Z768 t); let Z783 := Z468 = Z468; let Z784 := fun (t : Z178) => [Z776 t]; let Z785 := fun (t : Z178) => Value.int IntKind.i64 (Z779 t); let Z786 := Z213 ∧ Z675; let Z787 := fun (t : Z178) => Prod.snd (Z782 t); let Z788 := fun (t : Z178) => Prod.fst (Z781 t); let Z789 := fun (t : Z178) => Prod.fst (Z782 t); let Z790 := fun (t : Z178) => Prod.snd (Z781 t); let Z791 := fun (t : Z178) => AV.v (Z785 t); let Z792 := fun (t : Z178) => Value.int IntKind.i64 (Z788 t); let Z793 := fun (t : Z178) => Value.int IntKind.i64 (Z789 t); let Z794 := fun (t : Z178) => AV.v (Z792 t); let Z795 := fun (t : Z178) => AV.v (Z793 t); let Z796 := fun (t x : Z204) => Z383 t x ∧ Z617 t x; let Z797 := fun (t : Z178) => Z489 t = Z489 t; let Z798 := fun (t : Z178) => Z490 t = Z490 t; let Z799 := Z38 ∧ Z786; let Z800 := fun (t : Z204) => (Z492 t, Z494 t); let Z801 := fun (t : Z178) => Z508 t = Z508 t; let Z802 := fun (t : Z178) => Z507 t = Z507 t; let Z803 := fun (t x : Z204) => Z9 ∧ Z796 t x; let Z804 := fun (t : Z204) => Z515 t = Z515 t; let Z805 := fun (t : Z204) => Z517 t = Z517 t; let Z806 := fun (t : Z178) => Z523 t = Z523 t; let Z807 := fun (t : Z178) => Z521 t = Z521 t; let Z808 := fun (t : Z178) => Z522 t = Z522 t; let Z809 := fun (t : Z178) => Z524 t = Z524 t; let Z810 := fun (t : Z204) => (Z530 t, Z525 t); let Z811 := fun (t : Z204) => (Z529 t, Z532 t); let Z812 := fun (t : Z178) => Z806 t ∧ True; let Z813 := fun (t : Z204) (x : Z66) => Z578 t x ∧ Z457; let Z814 := fun (t : Z178) => Z542 t = Z542 t; let Z815 := fun (t : Z178) => Z540 t = Z540 t; let Z816 := fun (t : Z178) => Z539 t = Z539 t; let Z817 := fun (t : Z178) => Z541 t = Z541 t; let Z818 := Z77 ∧ Z799; let Z819 := fun (t x : Z204) => Z9 ∧ Z803 t x; let Z820 := fun (t : Z178) => Z814 t ∧ True; let Z821 := fun (t : Z204) => Z547 t = Z547 t; let Z822 := fun (t : Z204) => Z550 t = Z550 t; let Z823 := fun (t : Z204) => Z551 t = Z551 t; let Z824 := fun (t : Z204) => Z544 t = Z544 t; let Z825 := fun (t : Z204) => Z821 t ∧ True; let Z826 := fun (t x : Z204) => Z9 ∧ Z819 t x; let Z827 := fun (t : Z163) => decide (Z574 t); let Z828 := fun (t : Z163) => Z827 t = true; let Z829 := fun (x : Z178) => Z562 x ∧ Z567 x; let Z830 := fun (t : Z163) => Z827 t = false; let Z831 := fun (t x : Z204) => Z9 ∧ Z826 t x; let Z832 := fun (t : Z163) => Z368 t → Z663; let Z833 := fun (t x : Z204) => Z9 ∧ Z831 t x; let Z834 := fun (t : Z204) => bothM (Z372 t) (Z665 t); let Z835 := fun (t : Z204) => Prod.snd (Z834 t); let Z836 := fun (t : Z204) => Prod.fst (Z834 t); let Z837 := fun (t : Z204) => Value.int IntKind.i64 (Z835 t); let Z838 := fun (t : Z204) => Value.int IntKind.i64 (Z836 t); let Z839 := fun (t x : Z204) => Z9 ∧ Z833 t x; let Z840 := Z239 ∧ Z818; let Z841 := fun (t : Z109) => Z612 t :: Z620 t; let Z842 := ps = ps ∧ Z840; let Z843 := True ∧ Z842; let Z844 := fun (t : Z178) => andM (Z680 t) (Z454 t); let Z845 := fun (t : Z204) => Z628 t = Z628 t; let Z846 := fun (t : Z178) => Prod.snd (Z844 t); let Z847 := fun (t : Z178) => Prod.fst (Z844 t); let Z848 := fun (t : Z178) => Prod.fst (Z847 t); let Z849 := fun (t : Z178) => Prod.snd (Z847 t); let Z850 := fun (t : Z178) => Prod.fst (Z846 t); let Z851 := fun (t : Z178) => Prod.snd (Z846 t); let Z852 := fun (t : Z178) => andM (Z707 t) (Z454 t); let Z853 := fun (t : Z178) => Value.int IntKind.i64 (Z848 t); let Z854 := fun (t : Z178) => Value.int IntKind.i64 (Z849 t); let Z855 := fun (t : Z178) => Prod.snd (Z850 t); let Z856 := fun (t : Z178) => Prod.snd (Z851 t); let Z857 := fun (t : Z178) => Prod.fst (Z850 t); let Z858 := fun (t : Z178) => AV.v (Z853 t); let Z859 := fun (t : Z178) => AV.v (Z854 t); let Z860 := fun (t : Z178) => Prod.fst (Z851 t); let Z861 := fun (t : Z178) => andM (Z699 t) (Z469 t); let Z862 := fun (t : Z178) => Value.int IntKind.i64 (Z855 t); let Z863 := fun (t : Z178) => Value.int IntKind.i64 (Z857 t); let Z864 := fun (t : Z178) => Value.int IntKind.i64 (Z856 t); let Z865 := fun (t : Z178) => Value.int IntKind.i64 (Z860 t); let Z866 := fun (t : Z178) => AV.v (Z862 t); let Z867 := fun (t : Z178) => Prod.snd (Z852 t); let Z868 := fun (t : Z178) => AV.v (Z863 t); let Z869 := fun (t : Z178) => AV.v (Z864 t); let Z870 := fun (t : Z178) => AV.v (Z865 t); let Z871 := fun (t : Z178) => Prod.fst (Z852 t); let Z872 := fun (t : Z178) => Prod.fst (Z871 t); let Z873 := fun (t : Z178) => Prod.snd (Z871 t); let Z874 := fun (t : Z178) => Prod.snd (Z861 t); let Z875 := fun (t : Z178) => Prod.fst (Z861 t); let Z876 := fun (t : Z178) => [Z869 t]; let Z877 := fun (t : Z178) => Prod.fst (Z867 t); let Z878 := fun (t : Z178) => Prod.snd (Z867 t); let Z879 := fun (t x : Z178) => Z709 t = Z490 x; let Z880 := fun (t x : Z178) => Z710 t = Z489 x; let Z881 := fun (t : Z178) => Prod.fst (Z875 t); let Z882 := fun (t : Z178) => Value.int IntKind.i64 (Z872 t); let Z883 := fun (t : Z178) => Value.int IntKind.i64 (Z873 t); let Z884 := fun (t : Z178) => Prod.snd (Z875 t); let Z885 := fun (t : Z178) => AV.v (Z883 t); let Z886 := fun (t : Z178) => Prod.snd (Z877 t); let Z887 := fun (t : Z178) => Prod.fst (Z877 t); let Z888 := fun (t : Z178) => AV.v (Z882 t); let Z889 := fun (t : Z178) => Prod.fst (Z878 t); let Z890 := fun (t : Z178) => Prod.snd (Z878 t); let Z891 := fun (t : Z204) => Z639 t = Z639 t; let Z892 := fun (t : Z204) => Z638 t = Z638 t; let Z893 := fun (t : Z178) => Prod.fst (Z874 t); let Z894 := fun (t : Z178) => Prod.snd (Z874 t); let Z895 := fun (t : Z178) => andM (Z745 t) (Z469 t); let Z896 := fun (t : Z178) => Value.int IntKind.i64 (Z881 t); let Z897 := fun (t : Z178) => AV.v (Z896 t); let Z898 := fun (t : Z178) => Prod.fst (Z894 t); let Z899 := fun (t : Z178) => Value.int IntKind.i64 (Z886 t); let Z900 := fun (t : Z178) => Value.int IntKind.i64 (Z889 t); let Z901 := fun (t : Z178) => Prod.fst (Z893 t); let Z902 := fun (t : Z178) => Value.int IntKind.i64 (Z890 t); let Z903 := fun (t : Z178) => Prod.snd (Z893 t); let Z904 := fun (t : Z178) => Value.int IntKind.i64 (Z887 t); let Z905 := fun (t : Z178) => Prod.snd (Z894 t); let Z906 := fun (t : Z178) => AV.v (Z900 t); let Z907 := fun (t : Z178) => AV.v (Z904 t); let Z908 := fun (t : Z178) => AV.v (Z899 t); let Z909 := fun (t : Z178) => AV.v (Z902 t); let Z910 := fun (t x : Z178) => Z726 t = Z523 x; let Z911 := fun (t x : Z178) => Z725 t = Z522 x; let Z912 := fun (t : Z178) => Value.int IntKind.i64 (Z898 t); let Z913 := fun (t : Z178) => Value.int IntKind.i64 (Z901 t); let Z914 := fun (t x : Z178) => Z727 t = Z524 x; let Z915 := fun (t x : Z178) => Z724 t = Z521 x; let Z916 := fun (t : Z178) => Prod.snd (Z895 t); let Z917 := fun (t : Z178) => Prod.fst (Z895 t); let Z918 := fun (t : Z178) => AV.v (Z913 t); let Z919 := fun (t : Z178) => AV.v (Z912 t); let Z920 := fun (t x : Z178) => Z910 t x ∧ True; let Z921 := fun (t : Z178) => [Z909 t]; let Z922 := fun (t x : Z178) => Z756 t = Z489 x; let Z923 := fun (t x : Z178) => Z757 t = Z490 x; let Z924 := fun (t : Z178) => Prod.snd (Z917 t); let Z925 := fun (t : Z178) => Prod.fst (Z917 t); let Z926 := fun (t : Z163) => Z828 t → Z341; let Z927 := fun (t : Z178) => Prod.fst (Z916 t); let Z928 := fun (t : Z178) => Prod.snd (Z916 t); let Z929 := fun (t : Z204) => Z650 t = Z650 t; let Z930 := fun (t : Z204) => Z651 t = Z651 t; let Z931 := fun (t : Z178) => Value.int IntKind.i64 (Z925 t); let Z932 := fun (t : Z178) => Prod.fst (Z928 t); let Z933 := fun (t : Z178) => Prod.snd (Z927 t); let Z934 := fun (t : Z178) => Prod.snd (Z928 t); let Z935 := fun (t : Z178) => Prod.fst (Z927 t); let Z936 := fun (t : Z178) => AV.v (Z931 t); let Z937 := fun (t : Z178) => Value.int IntKind.i64 (Z935 t); let Z938 := fun (t : Z178) => Value.int IntKind.i64 (Z932 t); let Z939 := fun (t x : Z178) => Z774 t = Z524 x; let Z940 := fun (t x : Z178) => Z771 t = Z522 x; let Z941 := fun (t x : Z178) => Z773 t = Z521 x; let Z942 := fun (t x : Z178) => Z772 t = Z523 x; let Z943 := fun (t : Z178) => AV.v (Z937 t); let Z944 := fun (t : Z178) => AV.v (Z938 t); let Z945 := fun (t x : Z178) => Z942 t x ∧ True; let Z946 := fun (t : Z204) => Z659 t = Z659 t; let Z947 := fun (t : Z204) => Z657 t = Z657 t; let Z948 := fun (t : Z204) => Z660 t = Z660 t; let Z949 := fun (t : Z204) => Z658 t = Z658 t; let Z950 := fun (t : Z204) => Z947 t ∧ True; let Z951 := fun (t x : Z204) => Z838 t = Z390 x; let Z952 := fun (t x : Z204) => Z837 t = Z392 x; let Z953 := fun (t x : Z204) => Z952 t x ∧ True; let Z954 := fun (t : Z204) => Z669 t ∧ Z671 t; let Z955 := fun (t : Z204) => Z673 t = Z673 t; let Z956 := fun (t : Z204) => Z674 t = Z674 t; let Z957 := fun (t : Z204) => Z956 t ∧ True; let Z958 := fun (t : Z204) => Z676 t = Z676 t; let Z959 := fun (x : Z178) => Z561 x ∧ Z829 x; let Z960 := fun (t x : Z204) => Z683 t x ∧ Z686 t x; let Z961 := fun (t x : Z204) => Z960 t x ∧ True; let Z962 := fun (t x : Z204) => (True ∧ True) ∧ Z961 t x; let Z963 := fun (t : Z204) => Z701 t = Z701 t; let Z964 := fun (t : Z204) => Z700 t = Z700 t; let Z965 := fun (t : Z204) => Z954 t ∧ Z219; let Z966 := fun (t x : Z204) => Z24 ∧ Z962 t x; let Z967 := fun (t : Z178) => Z710 t = Z710 t; let Z968 := fun (t : Z178) => Z709 t = Z709 t; let Z969 := fun (t x : Z204) => (nat_lit 0 = nat_lit 0 ∧ True) ∧ Z966 t x; let Z970 := fun (t : Z204) => Z718 t = Z718 t; let Z971 := fun (t : Z204) => Z721 t = Z721 t; let Z972 := fun (t : Z204) => Z719 t = Z719 t; let Z973 := fun (t : Z204) => Z720 t = Z720 t; let Z974 := fun (t : Z178) => (Z698 t, Z738 t); let Z975 := fun (t : Z204) => Z971 t ∧ True; let Z976 := fun (t : Z178) => Z725 t = Z725 t; let Z977 := fun (t : Z178) => Z726 t = Z726 t; let Z978 := fun (t : Z178) => Z724 t = Z724 t; let Z979 := fun (t : Z178) => Z727 t = Z727 t; let Z980 := fun (t : Z178) => Z977 t ∧ True; let Z981 := fun (t : Z163) => Z730 t ∧ Z740 t; let Z982 := fun (t x : Z204) => Z39 ∧ Z969 t x; let Z983 := fun (t : Z178) => (Z715 t, Z752 t); let Z984 := fun (t : Z178) => (Z713 t, Z751 t); let Z985 := fun (l : Nat) (t x : Z163) => Z559 l t x ∧ Z843; let Z986 := fun (t : Z178) => Z732 t :: Z747 t; let Z987 := fun (t x : Z204) => (nat_lit 0 = nat_lit 0 ∧ True) ∧ Z982 t x; let Z988 := fun (t x : Z178) => Z854 t = Z490 x; let Z989 := fun (t x : Z178) => Z853 t = Z489 x; let Z990 := fun (t : Z109) => Z610 t :: Z841 t; let Z991 := fun (t : Z178) => Z757 t = Z757 t; let Z992 := fun (t : Z178) => Z756 t = Z756 t; let Z993 := fun (t : Z178) => Z767 t :: Z747 t; let Z994 := fun (t : Z178) => (Z742 t, Z780 t); let Z995 := fun (t x : Z178) => Z864 t = Z523 x; let Z996 := fun (t x : Z178) => Z862 t = Z524 x; let Z997 := fun (t x : Z178) => Z863 t = Z522 x; let Z998 := fun (t x : Z178) => Z865 t = Z521 x; let Z999 := fun (t : Z178) => Z772 t = Z772 t; let Z1000 := fun (t : Z178) => Z771 t = Z771 t; let Z1001 := fun (t : Z178) => Z773 t = Z773 t; let Z1002 := fun (t : Z178) => Z774 t = Z774 t; let Z1003 := fun (t x : Z178) => Z995 t x ∧ True; let Z1004 := fun (t x : Z178) => Z883 t = Z490 x; let Z1005 := fun (t x : Z178) => Z882 t = Z489 x; let Z1006 := fun (t : Z178) => Z999 t ∧ True; let Z1007 := fun (t : Z178) => (Z762 t, Z790 t); let Z1008 := fun (t : Z178) => (Z758 t, Z787 t); let Z1009 := fun (t : Z178) => Z778 t :: Z784 t; let Z1010 := fun (t x : Z178) => Z904 t = Z522 x; let Z1011 := fun (t x : Z178) => Z899 t = Z524 x; let Z1012 := fun (t x : Z178) => Z900 t = Z521 x; let Z1013 := fun (t x : Z178) => Z902 t = Z523 x; let Z1014 := fun (t x : Z204) => Z156 ∧ Z987 t x; let Z1015 := fun (t x : Z178) => Z1013 t x ∧ True; let Z1016 := fun (t : Z178) => Z794 t :: Z784 t; let Z1017 := fun (t x : Z204) => Z24 ∧ Z1014 t x; let Z1018 := fun (t : Z204) (x : Z66) => Z770 t x ∧ Z813 t x; let Z1019 := fun (t : Z204) (x : Z66) => Z38 ∧ Z1018 t x; let Z1020 := fun (t : Z178) => Z807 t ∧ Z812 t; let Z1021 := fun (t : Z204) (x : Z66) => Z77 ∧ Z1019 t x; let Z1022 := fun (t : Z204) => (Z810 t, Z811 t); let Z1023 := fun (t : Z178) => Z815 t ∧ Z820 t; let Z1024 := fun (t : Z204) => Z822 t ∧ Z825 t; let Z1025 := fun (l : Nat) (t x : Z163) => Z985 l t x ∧ Z342 x t; let Z1026 := fun (t x : Z204) => Z266 ∧ Z1017 t x; let Z1027 := fun (x : Z178) => Z563 x ∧ Z959 x; let Z1028 := fun (t : Z204) (x : Z66) => Z239 ∧ Z1021 t x; let Z1029 := fun (t : Z204) (x : Z66) => ps = ps ∧ Z1028 t x; let Z1030 := fun (t : Z204) (x : Z66) => True ∧ Z1029 t x; let Z1031 := fun (l : Nat) (t : Z163) => ∃ (x : Z163), Z1025 l t x; let Z1032 := fun (l : Nat) (t : Z163) => True ∧ Z1031 l t; let Z1033 := fun (t : Z109) => Z611 t :: Z990 t; let Z1034 := fun (t x : Z204) => Z435 t x ∧ Z1026 t x; let Z1035 := fun (t : Z163) => Z729 t ∧ Z981 t; let Z1036 := fun (t : Z178) => (Z848 t, Z884 t); let Z1037 := fun (l : Nat) (t x : Z66) (t_1 : Z204) => Z432 l t x ∧ Z1030 t_1 x; let Z1038 := fun (t : Z178) => Z737 t :: Z986 t; let Z1039 := fun (t : Z178) => Z870 t :: Z876 t; let Z1040 := fun (t : Z163) (l : Nat) => Z401 t → Z1032 l t; let Z1041 := fun (t : Z178) => (Z860 t, Z905 t); let Z1042 := fun (t : Z178) => (Z857 t, Z903 t); let Z1043 := fun (x : Z178) => Z552 x ∧ Z1027 x; let Z1044 := fun (t : Z178) => Z737 t :: Z993 t; let Z1045 := fun (t : Z178) => Z919 t :: Z876 t; let Z1046 := fun (t : Z178) => (Z872 t, Z924 t); let Z1047 := fun (t : Z178) => Z906 t :: Z921 t; let Z1048 := fun (t x : Z178) => Z915 t x ∧ Z920 t x; let Z1049 := fun (t : Z178) => (Z889 t, Z934 t); let Z1050 := fun (t : Z178) => (Z887 t, Z933 t); let Z1051 := fun (t : Z178) => Z777 t :: Z1009 t; let Z1052 := fun (t : Z178) => Z944 t :: Z921 t; let Z1053 := fun (t : Z178) => Z777 t :: Z1016 t; let Z1054 := fun (t x : Z178) => Z941 t x ∧ Z945 t x; let Z1055 := fun (l : Nat) (t x : Z66) (t_1 : Z204) => Z1037 l t x t_1 ∧ Z272 x t; let Z1056 := fun (t : Z204) => Z949 t ∧ Z950 t; let Z1057 := fun (l : Nat) (t : Z66) (t_1 : Z204) => ∃ (x : Z66), Z1055 l t x t_1; let Z1058 := fun (t x : Z204) => Z429 t x ∧ Z1034 t x; let Z1059 := fun (l : Nat) (t : Z66) (t_1 : Z204) => True ∧ Z1057 l t t_1; let Z1060 := fun (t : Z109) => Z592 t :: Z1033 t; let Z1061 := fun (t x : Z204) => Z38 ∧ Z1058 t x; let Z1062 := fun (t : Z178) => Z809 t ∧ Z1020 t; let Z1063 := fun (t : Z204) => (Z800 t, Z1022 t); let Z1064 := fun (t x : Z204) => Z77 ∧ Z1061 t x; let Z1065 := fun (t x : Z204) => Z951 t x ∧ Z953 t x; let Z1066 := fun (t x : Z204) => Z1065 t x ∧ True; let Z1067 := fun (t x : Z204) => (True ∧ True) ∧ Z1066 t x; let Z1068 := fun (t : Z178) => Z817 t ∧ Z1023 t; let Z1069 := fun (t : Z204) => Z824 t ∧ Z1024 t; let Z1070 := fun (t x : Z204) => Z24 ∧ Z1067 t x; let Z1071 := fun (t : Z204) => Z955 t ∧ Z957 t; let Z1072 := fun (t : Z204) => Z1071 t ∧ True; let Z1073 := fun (t x : Z204) => (nat_lit 0 = nat_lit 0 ∧ True) ∧ Z1070 t x; let Z1074 := fun (t x : Z204) => Z39 ∧ Z1073 t x; let Z1075 := fun (t : Z204) (l : Nat) (t_1 : Z66) => Z292 t → Z1059 l t_1 t; let Z1076 := fun (t x : Z204) => (nat_lit 0 = nat_lit 0 ∧ True) ∧ Z1074 t x; let Z1077 := fun (x : Z178) => Z553 x ∧ Z1043 x; let Z1078 := fun (t x : Z204) => Z239 ∧ Z1064 t x; let Z1079 := fun (t x : Z204) => ps = ps ∧ Z1078 t x; let Z1080 := fun (t x : Z204) => True ∧ Z1079 t x; let Z1081 := fun (t x : Z204) => Z156 ∧ Z1076 t x; let Z1082 := fun (t x : Z204) => Z24 ∧ Z1081 t x; let Z1083 := fun (t : Z163) (l : Nat) => Z649 t ∧ Z1040 t l; let Z1084 := fun (t : Z163) (l : Nat) => True ∧ Z1083 t l; let Z1085 := fun (t : Z204) => Z972 t ∧ Z975 t; let Z1086 := fun (t : Z178) => Z978 t ∧ Z980 t; let Z1087 := fun (t : Z163) => Z728 t ∧ Z1035 t; let Z1088 := fun (t x : Z204) => Z266 ∧ Z1082 t x; let Z1089 := fun (t : Z178) => Z734 t :: Z1038 t; let Z1090 := fun (t : Z178) => (Z984 t, Z983 t); let Z1091 := fun (t : Z109) => Z588 t :: Z1060 t; let Z1092 := fun (t : Z178) => Z766 t :: Z1044 t; let Z1093 := fun (t x : Z178) => Z998 t x ∧ Z1003 t x; let Z1094 := fun (t : Z178) => Z1001 t ∧ Z1006 t; let Z1095 := fun (t : Z178) => Z775 t :: Z1051 t; let Z1096 := fun (t : Z178) => (Z1008 t, Z1007 t); let Z1097 := fun (t x : Z178) => Z1012 t x ∧ Z1015 t x; let Z1098 := fun (t : Z178) => Z795 t :: Z1053 t; let Z1099 := fun (t : Z204) => andM (Z677 t) (Z1063 t); let Z1100 := fun (t : Z204) => Prod.fst (Z1099 t); let Z1101 := fun (t : Z204) => Prod.snd (Z1099 t); let Z1102 := fun (t : Z204) => Prod.fst (Z1100 t); let Z1103 := fun (t : Z204) => Prod.snd (Z1100 t); let Z1104 := fun (t : Z204) => andM (Z691 t) (Z1063 t); let Z1105 := fun (t : Z204) => Prod.snd (Z1101 t); let Z1106 := fun (t : Z204) => Prod.fst (Z1101 t); let Z1107 := fun (t : Z204) => Value.int IntKind.i64 (Z1103 t); let Z1108 := fun (t : Z204) => Value.int IntKind.i64 (Z1102 t); let Z1109 := fun (t : Z204) => Prod.fst (Z1105 t); let Z1110 := fun (t : Z204) => Prod.snd (Z1106 t); let Z1111 := fun (t : Z204) => AV.v (Z1107 t); let Z1112 := fun (t : Z204) => AV.v (Z1108 t); let Z1113 := fun (t : Z204) => Prod.snd (Z1105 t); let Z1114 := fun (t : Z204) => Prod.fst (Z1106 t); let Z1115 := fun (t : Z204) => Prod.fst (Z1104 t); let Z1116 := fun (t : Z204) => Prod.snd (Z1104 t); let Z1117 := fun (t : Z204) => Value.int IntKind.i64 (Z1109 t); let Z1118 := fun (t : Z204) => Value.int IntKind.i64 (Z1113 t); let Z1119 := fun (t : Z204) => Value.int IntKind.i64 (Z1110 t); let Z1120 := fun (t : Z204) => Value.int IntKind.i64 (Z1114 t); let Z1121 := fun (t : Z204) => AV.v (Z1119 t); let Z1122 := fun (t : Z204) => AV.v (Z1117 t); let Z1123 := fun (t : Z204) => AV.v (Z1120 t); let Z1124 := fun (t : Z204) => AV.v (Z1118 t); let Z1125 := fun (t : Z204) => Prod.snd (Z1115 t); let Z1126 := fun (t : Z204) => Prod.fst (Z1115 t); let Z1127 := fun (t : Z204) => Prod.fst (Z1116 t); let Z1128 := fun (t : Z204) => Prod.snd (Z1116 t); let Z1129 := fun (t : Z204) => [Z1124 t]; let Z1130 := fun (t : Z204) => Value.int IntKind.i64 (Z1126 t); let Z1131 := fun (t : Z204) => AV.v (Z1130 t); let Z1132 := fun (t : Z204) => Prod.snd (Z1127 t); let Z1133 := fun (t : Z204) => Prod.fst (Z1128 t); let Z1134 := fun (t : Z204) => Prod.fst (Z1127 t); let Z1135 := fun (t : Z204) => Prod.snd (Z1128 t); let Z1136 := fun (t x : Z204) => Z435 t x ∧ Z1088 t x; let Z1137 := fun (t : Z204) => Value.int IntKind.i64 (Z1134 t); let Z1138 := fun (t : Z204) => Value.int IntKind.i64 (Z1133 t); let Z1139 := fun (t : Z204) => AV.v (Z1138 t); let Z1140 := fun (t : Z204) => AV.v (Z1137 t); let Z1141 := fun (t : Z178) => Z866 t :: Z1039 t; let Z1142 := fun (t : Z178) => Z808 t ∧ Z1062 t; let Z1143 := fun (t : Z178) => Z866 t :: Z1045 t; let Z1144 := fun (t : Z178) => Z816 t ∧ Z1068 t; let Z1145 := fun (t : Z109) => Z572 t :: Z1091 t; let Z1146 := fun (t : Z178) => Z908 t :: Z1047 t; let Z1147 := fun (t x : Z178) => Z914 t x ∧ Z1048 t x; let Z1148 := fun (t : Z204) => Z823 t ∧ Z1069 t; let Z1149 := fun (t : Z178) => Z908 t :: Z1052 t; let Z1150 := fun (t x : Z178) => Z939 t x ∧ Z1054 t x; let Z1151 := fun (t : Z204) => Z948 t ∧ Z1056 t; let Z1152 := fun (t : Z163) => Z695 t ∧ Z1087 t; let Z1153 := fun (t x : Z204) => Z429 t x ∧ Z1136 t x; let Z1154 := fun (t x : Z204) => Z839 t x ∧ Z1080 t x; let Z1155 := fun (t x : Z204) => Z38 ∧ Z1153 t x; let Z1156 := fun (t : Z178) => Z712 t :: Z1089 t; let Z1157 := fun (t x : Z204) => Z77 ∧ Z1155 t x; let Z1158 := fun (t : Z178) => Z712 t :: Z1092 t; let Z1159 := fun (t : Z178) => Z759 t :: Z1095 t; let Z1160 := fun (t x : Z204) => Z239 ∧ Z1157 t x; let Z1161 := fun (t x : Z204) => ps = ps ∧ Z1160 t x; let Z1162 := fun (t x : Z204) => True ∧ Z1161 t x; let Z1163 := fun (t : Z109) => Z573 t :: Z1145 t; let Z1164 := fun (t : Z204) => Z954 t ∧ Z1072 t; let Z1165 := fun (t : Z178) => Z759 t :: Z1098 t; let Z1166 := fun (t : Z178) => Z798 t ∧ Z1142 t; let Z1167 := fun (t : Z178) => Z802 t ∧ Z1144 t; let Z1168 := fun (t x x_1 : Z204) => Z1154 t x ∧ Z662 x t x_1; let Z1169 := fun (t : Z204) => Z805 t ∧ Z1148 t; let Z1170 := fun (t : Z109) => Z534 t :: Z1163 t; let Z1171 := fun (t : Z109) => AV.agg (Z1170 t); let Z1172 := fun (t : Z109) => AV.ifc (nat_lit 149) (Z1171 t); let Z1173 := fun (t : Z163) => Z696 t ∧ Z1152 t; let Z1174 := fun (t : Z204) => Z973 t ∧ Z1085 t; let Z1175 := fun (t : Z163) => Z1173 t ∧ True; let Z1176 := fun (t : Z178) => Z979 t ∧ Z1086 t; let Z1177 := fun (t : Z178) => Z716 t :: Z1156 t; let Z1178 := fun (t : Z178) => (Z974 t, Z1090 t); let Z1179 := fun (t : Z178) => Z868 t :: Z1141 t; let Z1180 := fun (t : Z178) => Z754 t :: Z1158 t; let Z1181 := fun (t : Z178) => (Z1042 t, Z1041 t); let Z1182 := fun (t x : Z204) => ∃ (x_1 : Z204), Z1168 t x_1 x; let Z1183 := fun (t x : Z204) => True ∧ Z1182 t x; let Z1184 := fun (t x : Z204) => True ∧ Z1183 t x; let Z1185 := fun (t : Z178) => Z918 t :: Z1143 t; let Z1186 := fun (t x : Z178) => Z996 t x ∧ Z1093 t x; let Z1187 := fun (t : Z178) => Z1002 t ∧ Z1094 t; let Z1188 := fun (t : Z178) => Z907 t :: Z1146 t; let Z1189 := fun (t x : Z178) => Z911 t x ∧ Z1147 t x; let Z1190 := fun (t : Z178) => Z760 t :: Z1159 t; let Z1191 := fun (t : Z178) => (Z1050 t, Z1049 t); let Z1192 := fun (t : Z178) => (Z994 t, Z1096 t); let Z1193 := fun (t : Z178) => Z943 t :: Z1149 t; let Z1194 := fun (t x : Z178) => Z1011 t x ∧ Z1097 t x; let Z1195 := fun (t : Z178) => Z791 t :: Z1165 t; let Z1196 := fun (t x : Z178) => Z940 t x ∧ Z1150 t x; let Z1197 := fun (t : Z204) => Z946 t ∧ Z1151 t; let Z1198 := fun (t x : Z204) => Z839 t x ∧ Z1162 t x; let Z1199 := fun (t : Z178) => List.set (Z461 t) (Z267 t) (Z1178 t); let Z1200 := fun (t : Z178) => Z797 t ∧ Z1166 t; let Z1201 := fun (t : Z178) => Z1200 t ∧ Z48; let Z1202 := fun (t : Z178) => Z801 t ∧ Z1167 t; let Z1203 := fun (t : Z178) => Z1202 t ∧ True; let Z1204 := fun (t : Z204) => Z804 t ∧ Z1169 t; let Z1205 := fun (t : Z204) => Z1204 t ∧ True; let Z1206 := fun (t : Z178) => List.set (Z461 t) (Z308 t) (Z1192 t); let Z1207 := fun (t x : Z178) => Z1199 t = Z452 x; let Z1208 := fun (t x : Z178) => Z92 ∧ Z1207 t x; let Z1209 := fun (t x x_1 : Z204) => Z1198 t x ∧ Z662 x t x_1; let Z1210 := fun (t : Z178) => Z859 t :: Z1179 t; let Z1211 := fun (t x : Z178) => Z1206 t = Z452 x; let Z1212 := fun (t : Z178) => Z859 t :: Z1185 t; let Z1213 := fun (t x : Z178) => Z92 ∧ Z1211 t x; let Z1214 := fun (t x : Z204) => ∃ (x_1 : Z204), Z1209 t x_1 x; let Z1215 := fun (t x : Z204) => True ∧ Z1214 t x; let Z1216 := fun (t x : Z204) => True ∧ Z1215 t x; let Z1217 := fun (t : Z178) => Z885 t :: Z1188 t; let Z1218 := fun (t x : Z178) => Z879 t x ∧ Z1189 t x; let Z1219 := fun (t : Z204) => Z970 t ∧ Z1174 t; let Z1220 := fun (t : Z178) => Z885 t :: Z1193 t; let Z1221 := fun (t : Z178) => Z976 t ∧ Z1176 t; let Z1222 := fun (t x : Z178) => Z923 t x ∧ Z1196 t x; let Z1223 := fun (t x : Z204) => Z965 t ∧ Z1184 t x; let Z1224 := fun (t x : Z204) => True ∧ Z1223 t x; let Z1225 := fun (t x : Z204) => True ∧ Z1224 t x; let Z1226 := fun (t : Z204) => Z930 t ∧ Z1197 t; let Z1227 := fun (t x : Z178) => Z997 t x ∧ Z1186 t x; let Z1228 := fun (t : Z178) => Z1000 t ∧ Z1187 t; let Z1229 := fun (t x : Z178) => Z1010 t x ∧ Z1194 t x; let Z1230 := fun (t x : Z204) => Z423 t ∧ Z1225 t x; let Z1231 := fun (t x : Z204) => True ∧ Z1230 t x; let Z1232 := fun (t : Z204) => (Z1102 t, Z1125 t); let Z1233 := fun (t : Z204) => (Z1109 t, Z1135 t); let Z1234 := fun (t : Z204) => (Z1114 t, Z1132 t); let Z1235 := fun (t : Z204) => Z1122 t :: Z1129 t; let Z1236 := fun (t : Z204) => Z1139 t :: Z1129 t; let Z1237 := fun (t : Z178) => Z858 t :: Z1210 t; let Z1238 := fun (t : Z178) => (Z1036 t, Z1181 t); let Z1239 := fun (t : Z178) => Z897 t :: Z1212 t; let Z1240 := fun (t x : Z204) => Z607 t → Z1231 t x; let Z1241 := fun (t x : Z178) => Z880 t x ∧ Z1218 t x; let Z1242 := fun (t : Z178) => Z888 t :: Z1217 t; let Z1243 := fun (t : Z178) => (Z1046 t, Z1191 t); let Z1244 := fun (t : Z178) => Z936 t :: Z1220 t; let Z1245 := fun (t x : Z178) => Z922 t x ∧ Z1222 t x; let Z1246 := fun (t : Z204) => Z929 t ∧ Z1226 t; let Z1247 := fun (t : Z163) (l : Nat) => Z1175 t ∧ Z1084 t l; let Z1248 := fun (t : Z163) (l : Nat) => True ∧ Z1247 t l; let Z1249 := fun (t : Z204) => Z964 t ∧ Z1219 t; let Z1250 := fun (t : Z178) => List.set (Z461 t) (Z267 t) (Z1238 t); let Z1251 := fun (t : Z178) => Z968 t ∧ Z1221 t; let Z1252 := fun (t x : Z178) => Z1241 t x ∧ Z593 x t; let Z1253 := fun (t : Z163) (l : Nat) => Z279 t ∧ Z1248 t l; let Z1254 := fun (t x : Z178) => Z284 ∧ Z1252 t x; let Z1255 := fun (t : Z178) => List.set (Z461 t) (Z308 t) (Z1243 t); let Z1256 := fun (t x : Z178) => (nat_lit 0 = nat_lit 0 ∧ True) ∧ Z1254 t x; let Z1257 := fun (t x : Z178) => Z1245 t x ∧ Z593 x t; let Z1258 := fun (t x : Z178) => Z39 ∧ Z1256 t x; let Z1259 := fun (t x : Z178) => (nat_lit 0 = nat_lit 0 ∧ True) ∧ Z1258 t x; let Z1260 := fun (t x : Z178) => Z988 t x ∧ Z1227 t x; let Z1261 := fun (t : Z178) => Z991 t ∧ Z1228 t; let Z1262 := fun (t : Z163) (l : Nat) => Z363 t ∧ Z1253 t l; let Z1263 := fun (t x : Z178) => Z156 ∧ Z1259 t x; let Z1264 := fun (t x : Z178) => Z1250 t = Z452 x; let Z1265 := fun (t x : Z178) => Z24 ∧ Z1263 t x; let Z1266 := fun (t x : Z178) => Z92 ∧ Z1264 t x; let Z1267 := fun (t x : Z178) => Z284 ∧ Z1257 t x; let Z1268 := fun (t x : Z178) => (nat_lit 0 = nat_lit 0 ∧ True) ∧ Z1267 t x; let Z1269 := fun (t x : Z178) => Z39 ∧ Z1268 t x; let Z1270 := fun (t x : Z178) => (nat_lit 0 = nat_lit 0 ∧ True) ∧ Z1269 t x; let Z1271 := fun (t x : Z178) => Z1004 t x ∧ Z1229 t x; let Z1272 := fun (t x : Z178) => Z266 ∧ Z1265 t x; let Z1273 := fun (t x : Z178) => Z156 ∧ Z1270 t x; let Z1274 := fun (t x : Z178) => Z24 ∧ Z1273 t x; let Z1275 := fun (t x : Z178) => Z1255 t = Z452 x; let Z1276 := fun (t x : Z178) => Z92 ∧ Z1275 t x; let Z1277 := fun (t x : Z178) => Z266 ∧ Z1274 t x; let Z1278 := fun (t : Z204) => Z891 t ∧ Z1246 t; let Z1279 := fun (t : Z163) (l : Nat) => Z830 t → Z1262 t l; let Z1280 := fun (t : Z204) => Z963 t ∧ Z1249 t; let Z1281 := fun (t : Z178) => Z967 t ∧ Z1251 t; let Z1282 := fun (t : Z178) => Z1180 t = Z1177 t; let Z1283 := fun (t x : Z178) => Z989 t x ∧ Z1260 t x; let Z1284 := fun (t : Z178) => Z992 t ∧ Z1261 t; let Z1285 := fun (t : Z178) => Z1195 t = Z1190 t; let Z1286 := fun (t x : Z178) => Z1005 t x ∧ Z1271 t x; let Z1287 := fun (t : Z204) => Z892 t ∧ Z1278 t; let Z1288 := fun (t x : Z204) => Z1164 t ∧ Z1216 t x; let Z1289 := fun (t x : Z204) => True ∧ Z1288 t x; let Z1290 := fun (t x : Z204) => True ∧ Z1289 t x; let Z1291 := fun (t : Z163) (l : Nat) => Z926 t ∧ Z1279 t l; let Z1292 := fun (t x : Z178) => Z1283 t x ∧ Z661 t x; let Z1293 := fun (t : Z204) => Z1121 t :: Z1235 t; let Z1294 := fun (t : Z204) => Z1121 t :: Z1236 t; let Z1295 := fun (t : Z163) (l : Nat) => Z301 t ∧ Z1291 t l; let Z1296 := fun (t x : Z178) => Z284 ∧ Z1292 t x; let Z1297 := fun (t x : Z178) => (nat_lit 0 = nat_lit 0 ∧ True) ∧ Z1296 t x; let Z1298 := fun (t x : Z178) => Z1286 t x ∧ Z661 t x; let Z1299 := fun (t x : Z178) => Z39 ∧ Z1297 t x; let Z1300 := fun (t x : Z178) => (nat_lit 0 = nat_lit 0 ∧ True) ∧ Z1299 t x; let Z1301 := fun (t x : Z178) => Z156 ∧ Z1300 t x; let Z1302 := fun (t x : Z178) => Z24 ∧ Z1301 t x; let Z1303 := fun (t x : Z178) => Z284 ∧ Z1298 t x; let Z1304 := fun (t x : Z178) => (nat_lit 0 = nat_lit 0 ∧ True) ∧ Z1303 t x; let Z1305 := fun (t x : Z178) => Z39 ∧ Z1304 t x; let Z1306 := fun (t x : Z178) => (nat_lit 0 = nat_lit 0 ∧ True) ∧ Z1305 t x; let Z1307 := fun (t : Z163) (l : Nat) => Z376 t ∧ Z1295 t l; let Z1308 := fun (t x : Z178) => Z266 ∧ Z1302 t x; let Z1309 := fun (t x : Z178) => Z156 ∧ Z1306 t x; let Z1310 := fun (t x : Z178) => Z24 ∧ Z1309 t x; let Z1311 := fun (t : Z163) (l : Nat) => Z301 t ∧ Z1307 t l; let Z1312 := fun (t x : Z178) => Z266 ∧ Z1310 t x; let Z1313 := fun (t : Z204) => Z845 t ∧ Z1287 t; let Z1314 := fun (t : Z163) (l : Nat) => Z376 t ∧ Z1311 t l; let Z1315 := fun (t : Z163) (l : Nat) => True ∧ Z1314 t l; let Z1316 := fun (l : Nat) (t : Z163) => l = l ∧ Z1315 t l; let Z1317 := fun (t : Z204) => Z1313 t ∧ Z418 t; let Z1318 := fun (t : Z163) (l : Nat) => Z367 t → Z1316 l t; let Z1319 := fun (t : Z163) (l : Nat) => Z1318 t l ∧ Z832 t; let Z1320 := fun (l : Nat) => ∀ (t : Z163), Z1319 t l; let Z1321 := fun (t : Z204) => Z1123 t :: Z1293 t; let Z1322 := fun (t : Z204) => (Z1234 t, Z1233 t); let Z1323 := fun (t : Z204) => Z1140 t :: Z1294 t; let Z1324 := fun (t x : Z178) => Z1208 t x ∧ Z1272 t x; let Z1325 := fun (t x : Z178) => Z213 ∧ Z1324 t x; let Z1326 := fun (t x : Z178) => Z38 ∧ Z1325 t x; let Z1327 := fun (t : Z178) => Z1239 t = Z1237 t; let Z1328 := fun (t x : Z178) => Z77 ∧ Z1326 t x; let Z1329 := fun (t x : Z178) => Z239 ∧ Z1328 t x; let Z1330 := fun (t x : Z178) => ps = ps ∧ Z1329 t x; let Z1331 := fun (t x : Z178) => True ∧ Z1330 t x; let Z1332 := fun (t x : Z178) => Z1213 t x ∧ Z1277 t x; let Z1333 := fun (t : Z204) => Z1280 t ∧ Z1205 t; let Z1334 := fun (t : Z178) => Z1281 t ∧ Z1203 t; let Z1335 := fun (t x : Z178) => Z213 ∧ Z1332 t x; let Z1336 := fun (t x : Z178) => Z38 ∧ Z1335 t x; let Z1337 := fun (t : Z178) => Z1244 t = Z1242 t; let Z1338 := fun (t x : Z178) => Z77 ∧ Z1336 t x; let Z1339 := fun (t x : Z178) => Z239 ∧ Z1338 t x; let Z1340 := fun (t x : Z178) => ps = ps ∧ Z1339 t x; let Z1341 := fun (t x : Z178) => True ∧ Z1340 t x; let Z1342 := fun (l : Nat) (t x : Z178) => Z594 l t x ∧ Z1331 t x; let Z1343 := fun (t : Z178) => Z1284 t ∧ Z1203 t; let Z1344 := fun (l : Nat) (t x : Z178) => Z594 l t x ∧ Z1341 t x; let Z1345 := fun (l : Nat) (t x x_1 : Z178) => Z1342 l t x ∧ Z621 x t x_1; let Z1346 := fun (l : Nat) (t x : Z178) => ∃ (x_1 : Z178), Z1345 l t x_1 x; let Z1347 := fun (l : Nat) (t x : Z178) => True ∧ Z1346 l t x; let Z1348 := fun (l : Nat) (t x x_1 : Z178) => Z1344 l t x ∧ Z621 x t x_1; let Z1349 := fun (l : Nat) (t x : Z178) => ∃ (x_1 : Z178), Z1348 l t x_1 x; let Z1350 := fun (l : Nat) (t x : Z178) => True ∧ Z1349 l t x; let Z1351 := fun (t : Z204) => Z1111 t :: Z1321 t; let Z1352 := fun (t : Z204) => Z1111 t :: Z1323 t; let Z1353 := fun (t x : Z178) => Z1266 t x ∧ Z1308 t x; let Z1354 := fun (t x : Z178) => Z213 ∧ Z1353 t x; let Z1355 := fun (t x : Z178) => Z38 ∧ Z1354 t x; let Z1356 := fun (t x : Z178) => Z77 ∧ Z1355 t x; let Z1357 := fun (t x : Z178) => Z239 ∧ Z1356 t x; let Z1358 := fun (t x : Z178) => ps = ps ∧ Z1357 t x; let Z1359 := fun (t x : Z178) => True ∧ Z1358 t x; let Z1360 := fun (t x : Z178) => Z1276 t x ∧ Z1312 t x; let Z1361 := fun (t x : Z178) => Z213 ∧ Z1360 t x; let Z1362 := fun (t x : Z178) => Z38 ∧ Z1361 t x; let Z1363 := fun (t x : Z178) => Z77 ∧ Z1362 t x; let Z1364 := fun (t x : Z178) => Z239 ∧ Z1363 t x; let Z1365 := fun (t x : Z178) => ps = ps ∧ Z1364 t x; let Z1366 := fun (t x : Z178) => True ∧ Z1365 t x; let Z1367 := fun (l : Nat) (t x : Z178) => Z594 l t x ∧ Z1359 t x; let Z1368 := fun (l : Nat) (t x : Z178) => Z594 l t x ∧ Z1366 t x; let Z1369 := fun (l : Nat) (t x x_1 : Z178) => Z1367 l t x ∧ Z621 x t x_1; let Z1370 := fun (l : Nat) (t x : Z178) => ∃ (x_1 : Z178), Z1369 l t x_1 x; let Z1371 := fun (l : Nat) (t x : Z178) => True ∧ Z1370 l t x; let Z1372 := fun (t : Z204) => Z1112 t :: Z1351 t; let Z1373 := fun (t : Z204) => (Z1232 t, Z1322 t); let Z1374 := fun (t : Z204) => Z1131 t :: Z1352 t; let Z1375 := fun (l : Nat) (t x x_1 : Z178) => Z1368 l t x ∧ Z621 x t x_1; let Z1376 := fun (l : Nat) (t x : Z178) => ∃ (x_1 : Z178), Z1375 l t x_1 x; let Z1377 := fun (l : Nat) (t x : Z178) => True ∧ Z1376 l t x; let Z1378 := fun (t : Z204) => List.set (Z425 t) (Z299 t) (Z1373 t); let Z1379 := fun (t : Z204) (x : Z66) => Z1378 t = Z119 x; let Z1380 := fun (t : Z204) (x : Z66) => Z92 ∧ Z1379 t x; let Z1381 := fun (t x : Z204) => Z1317 t ∧ Z1290 t x; let Z1382 := fun (t x : Z204) => True ∧ Z1381 t x; let Z1383 := fun (t : Z204) (x : Z66) => Z1380 t x ∧ Z457; let Z1384 := fun (t x : Z204) => Z608 t → Z1382 t x; let Z1385 := fun (t : Z204) (x : Z66) => Z770 t x ∧ Z1383 t x; let Z1386 := fun (t : Z204) (x : Z66) => Z38 ∧ Z1385 t x; let Z1387 := fun (t : Z204) (x : Z66) => Z77 ∧ Z1386 t x; let Z1388 := fun (t : Z204) (x : Z66) => Z239 ∧ Z1387 t x; let Z1389 := fun (t : Z204) (x : Z66) => ps = ps ∧ Z1388 t x; let Z1390 := fun (t : Z204) (x : Z66) => True ∧ Z1389 t x; let Z1391 := fun (l : Nat) (t x : Z66) (t_1 : Z204) => Z432 l t x ∧ Z1390 t_1 x; let Z1392 := fun (l : Nat) (t x : Z66) (t_1 : Z204) => Z1391 l t x t_1 ∧ Z272 x t; let Z1393 := fun (l : Nat) (t : Z66) (t_1 : Z204) => ∃ (x : Z66), Z1392 l t x t_1; let Z1394 := fun (l : Nat) (t : Z66) (t_1 : Z204) => True ∧ Z1393 l t t_1; let Z1395 := fun (t : Z178) (l : Nat) (x : Z178) => Z1282 t ∧ Z1347 l t x; let Z1396 := fun (t : Z178) (l : Nat) (x : Z178) => Z630 t ∧ Z1395 t l x; let Z1397 := fun (t : Z178) (l : Nat) (x : Z178) => Z1285 t ∧ Z1350 l t x; let Z1398 := fun (t : Z178) (l : Nat) (x : Z178) => Z678 t ∧ Z1396 t l x; let Z1399 := fun (t : Z178) (l : Nat) (x : Z178) => Z643 t ∧ Z1397 t l x; let Z1400 := fun (t : Z178) (l : Nat) (x : Z178) => Z630 t ∧ Z1398 t l x; let Z1401 := fun (t : Z178) (l : Nat) (x : Z178) => Z746 t ∧ Z1399 t l x; let Z1402 := fun (t : Z178) (l : Nat) (x : Z178) => Z678 t ∧ Z1400 t l x; let Z1403 := fun (t : Z178) (l : Nat) (x : Z178) => Z229 t → Z1402 t l x; let Z1404 := fun (t : Z178) (l : Nat) (x : Z178) => Z643 t ∧ Z1401 t l x; let Z1405 := fun (t : Z178) (l : Nat) (x : Z178) => Z746 t ∧ Z1404 t l x; let Z1406 := fun (t : Z178) (l : Nat) (x : Z178) => Z229 t → Z1405 t l x; let Z1407 := fun (t x : Z204) => Z1240 t x ∧ Z1384 t x; let Z1408 := fun (t x : Z204) => Z310 t ∧ Z1407 t x; let Z1409 := fun (t x : Z204) => Z442 t ∧ Z1408 t x; let Z1410 := fun (t x : Z204) => Z495 t → Z1409 t x; let Z1411 := fun (t : Z178) (l : Nat) (x : Z178) => Z1327 t ∧ Z1371 l t x; let Z1412 := fun (t : Z178) (l : Nat) (x : Z178) => Z630 t ∧ Z1411 t l x; let Z1413 := fun (t : Z178) (l : Nat) (x : Z178) => Z1337 t ∧ Z1377 l t x; let Z1414 := fun (t : Z178) (l : Nat) (x : Z178) => Z678 t ∧ Z1412 t l x; let Z1415 := fun (t : Z178) (l : Nat) (x : Z178) => True ∧ Z1414 t l x; let Z1416 := fun (t : Z178) (l : Nat) (x : Z178) => Z643 t ∧ Z1413 t l x; let Z1417 := fun (t : Z178) (l : Nat) (x : Z178) => Z746 t ∧ Z1416 t l x; let Z1418 := fun (t : Z178) (l : Nat) (x : Z178) => True ∧ Z1417 t l x; let Z1419 := fun (t : Z204) => Z1374 t = Z1372 t; let Z1420 := fun (t : Z178) (l : Nat) (x : Z178) => Z1334 t ∧ Z1415 t l x; let Z1421 := fun (t : Z178) (l : Nat) (x : Z178) => True ∧ Z1420 t l x; let Z1422 := fun (t : Z178) (l : Nat) (x : Z178) => True ∧ Z1421 t l x; let Z1423 := fun (t : Z178) (l : Nat) (x : Z178) => Z1343 t ∧ Z1418 t l x; let Z1424 := fun (t : Z178) (l : Nat) (x : Z178) => True ∧ Z1423 t l x; let Z1425 := fun (t : Z178) (l : Nat) (x : Z178) => True ∧ Z1424 t l x; let Z1426 := fun (t : Z178) (l : Nat) (x : Z178) => Z1201 t ∧ Z1422 t l x; let Z1427 := fun (t : Z178) (l : Nat) (x : Z178) => True ∧ Z1426 t l x; let Z1428 := fun (t : Z178) (l : Nat) (x : Z178) => Z231 t → Z1427 t l x; let Z1429 := fun (t : Z178) (l : Nat) (x : Z178) => Z1201 t ∧ Z1425 t l x; let Z1430 := fun (t : Z178) (l : Nat) (x : Z178) => True ∧ Z1429 t l x; let Z1431 := fun (t : Z178) (l : Nat) (x : Z178) => Z231 t → Z1430 t l x; let Z1432 := fun (t : Z204) (l : Nat) (t_1 : Z66) => Z1419 t ∧ Z1394 l t_1 t; let Z1433 := fun (t : Z204) (l : Nat) (t_1 : Z66) => Z629 t ∧ Z1432 t l t_1; let Z1434 := fun (t : Z204) (l : Nat) (t_1 : Z66) => Z681 t ∧ Z1433 t l t_1; let Z1435 := fun (t : Z204) (l : Nat) (t_1 : Z66) => True ∧ Z1434 t l t_1; let Z1436 := fun (t : Z204) (l : Nat) (t_1 : Z66) => Z1333 t ∧ Z1435 t l t_1; let Z1437 := fun (t : Z204) (l : Nat) (t_1 : Z66) => True ∧ Z1436 t l t_1; let Z1438 := fun (t : Z204) (l : Nat) (t_1 : Z66) => Z629 t ∧ Z1437 t l t_1; let Z1439 := fun (t : Z204) (l : Nat) (t_1 : Z66) => Z681 t ∧ Z1438 t l t_1; let Z1440 := fun (t : Z204) (l : Nat) (t_1 : Z66) => Z291 t → Z1439 t l t_1; let Z1441 := fun (t : Z178) (l : Nat) (x : Z178) => Z1403 t l x ∧ Z1428 t l x; let Z1442 := fun (t : Z178) (l : Nat) (x : Z178) => Z630 t ∧ Z1441 t l x; let Z1443 := fun (t : Z204) (l : Nat) (t_1 : Z66) => Z1440 t l t_1 ∧ Z1075 t l t_1; let Z1444 := fun (t : Z178) (l : Nat) (x : Z178) => Z678 t ∧ Z1442 t l x; let Z1445 := fun (t : Z178) (l : Nat) (x : Z178) => True ∧ Z1444 t l x; let Z1446 := fun (l : Nat) (t x : Z178) => l = l ∧ Z1445 t l x; let Z1447 := fun (t : Z178) (l : Nat) (x : Z178) => Z235 t → Z1446 l t x; let Z1448 := fun (t : Z204) (l : Nat) (t_1 : Z66) => Z783 ∧ Z1443 t l t_1; let Z1449 := fun (t : Z204) (l : Nat) (t_1 : Z66) => Z414 t ∧ Z1448 t l t_1; let Z1450 := fun (t : Z178) (l : Nat) (x : Z178) => Z1406 t l x ∧ Z1431 t l x; let Z1451 := fun (t : Z204) (l : Nat) (t_1 : Z66) => Z618 t ∧ Z1449 t l t_1; let Z1452 := fun (t : Z178) (l : Nat) (x : Z178) => Z643 t ∧ Z1450 t l x; let Z1453 := fun (t : Z178) (l : Nat) (x : Z178) => Z746 t ∧ Z1452 t l x; let Z1454 := fun (t : Z178) (l : Nat) (x : Z178) => True ∧ Z1453 t l x; let Z1455 := fun (l : Nat) (t x : Z178) => l = l ∧ Z1454 t l x; let Z1456 := fun (t : Z178) (l : Nat) (x : Z178) => Z230 t → Z1455 l t x; let Z1457 := fun (t : Z204) (l : Nat) (t_1 : Z66) => Z958 t ∧ Z1451 t l t_1; let Z1458 := fun (t : Z204) (l : Nat) (t_1 : Z66) => Z415 t ∧ Z1457 t l t_1; let Z1459 := fun (t : Z204) (l : Nat) (t_1 : Z66) => Z619 t ∧ Z1458 t l t_1; let Z1460 := fun (t : Z204) (l : Nat) (t_1 : Z66) => True ∧ Z1459 t l t_1; let Z1461 := fun (t : Z204) (l : Nat) (t_1 : Z66) => True ∧ Z1460 t l t_1; let Z1462 := fun (t : Z204) (l : Nat) (t_1 : Z66) => True ∧ Z1461 t l t_1; let Z1463 := fun (t : Z204) (l : Nat) (t_1 : Z66) => Z496 t → Z1462 t l t_1; let Z1464 := fun (t x : Z204) (l : Nat) (t_1 : Z66) => Z1410 t x ∧ Z1463 t l t_1; let Z1465 := fun (t x : Z204) (l : Nat) (t_1 : Z66) => Z344 t x → Z1464 t x l t_1; let Z1466 := fun (x : Z204) (l : Nat) (t : Z66) => ∀ (t_1 : Z204), Z1465 t_1 x l t; ((Z195 ∧ Z153 ∧ Z173 ∧ (↑(nat_lit 16) : Int) * Z110 ≤ Z25) ∧ Z152 = List.map AV.nrm1 Z152) ∧ ((Z195 ∧ Z153 ∧ Z173 ∧ (↑(nat_lit 48) : Int) * Z110 ≤ Z25) ∧ Z321 = List.map AV.nrm1 Z321) ∧ (nat_lit 1 = nat_lit 1 ∧ ((true = true → AV.ifc (nat_lit 146) (AV.agg []) = Z46) ∧ (true = false → AV.ifc (nat_lit 146) (AV.agg []) = AV.ifc Z5 (AV.agg (Z33 :: Z33 :: Z33 :: Z321)))) ∧ True) ∧ (∃ (x : Z109), (Z9 ∧ Z9 ∧ Z9 ∧ Z9 ∧ Z9 ∧ Z9 ∧ Z94 ∧ Z151 ∧ Z15 = Z154 x ∧ True) ∧ True ∧ ps = ps ∧ Z239 ∧ Z77 ∧ Z38 ∧ (nat_lit 26 = Z2 ∧ List.replicate Z116 Z68 = hardsM (GroundT.mk long rise change ps) (nat_lit 0)) ∧ (nat_lit 151 = Z4 ∧ List.replicate Z116 Z249 = mixesM (GroundT.mk long rise change ps) (nat_lit 0)) ∧ Z266 ∧ Z24 ∧ (Z21 ∧ [Z353] = Z143 x) ∧ (nat_lit 0 = nat_lit 0 ∧ True) ∧ [] = Z142 x ∧ (nat_lit 0 = nat_lit 0 ∧ True) ∧ True) ∧ ∀ (t : Z109), (Z330 t = true → ((0 : Int) ≤ Z140 t ∧ Z189 t) ∧ Z180 t < List.length ps ∧ (nat_lit 1 = nat_lit 1 ∧ ((false = true → Z1172 t = Z46) ∧ (false = false → Z1172 t = AV.ifc Z5 (AV.agg [AV.v (Value.int IntKind.i64 (Z536 t)), Z573 t, AV.v (Value.int IntKind.i64 (Prod.snd (Z564 t))), Z588 t, AV.v (Value.int IntKind.i64 (Z595 t)), Z611 t, AV.v (Value.int IntKind.i64 (Z613 t)), Z612 t, AV.v (Value.int IntKind.i64 (Z614 t))]))) ∧ True) ∧ nat_lit 1 ≤ nat_lit 1 ∧ List.length (Z143 t) + nat_lit 1 ≤ nat_lit 1099511627776 ∧ ([List.getD (Z535 t) (nat_lit 0) (0 : Int)] = Z535 t ∧ AV.agg (AV.v (Value.int IntKind.i64 (Z596 t)) :: Z592 t :: AV.v (Value.int IntKind.i64 (Z616 t)) :: Z610 t :: AV.v (Value.int IntKind.i64 (Z615 t)) :: Z620 t) = AV.agg (List.map AV.nrm1 (Z1091 t))) ∧ True ∧ ∃ (x : Z109), ((Z9 ∧ Z9 ∧ Z9 ∧ Z9 ∧ Z9 ∧ Z9 ∧ Z94 ∧ Z151 ∧ Value.int IntKind.i64 (IntKind.wrap IntKind.i64 (Z140 t + (1 : Int))) = Z154 x ∧ True) ∧ True ∧ ps = ps ∧ Z239 ∧ Z77 ∧ Z38 ∧ (Z89 ∧ Z47 = hardsM (GroundT.mk long rise change ps) (nat_lit 0)) ∧ (Z92 ∧ Z43 = mixesM (GroundT.mk long rise change ps) (nat_lit 0)) ∧ Z266 ∧ Z24 ∧ (Z21 ∧ Z143 t ++ List.take (1 : Nat) (List.drop (0 : Nat) [(false, Z500 t, (Prod.fst (Z564 t), Z557 t), (Z596 t, Z577 t), (Z616 t, Z590 t), Z615 t, Z591 t)]) = Z143 x) ∧ (nat_lit 0 = nat_lit 0 ∧ True) ∧ mputM UU MM.pits (Z556 t) (List.getD (Z556 t) (0 : Nat) (0 : Int), (Z576 t, Z595 t), (Z589 t, Z613 t), Z587 t, Z614 t) (Z142 t) = Z142 x ∧ (nat_lit 0 = nat_lit 0 ∧ True) ∧ True) ∧ Z171 x < Z171 t) ∧ (Z330 t = false → True ∧ Z115 ∧ Z63 ∧ ∀ (l : Nat), (∃ (x : Z66), (Z16 l ∧ Z9 ∧ Z9 ∧ Z197 ∧ Z15 = Z135 x ∧ True) ∧ True ∧ ps = ps ∧ Z239 ∧ Z77 ∧ Z38 ∧ (Z89 ∧ Z47 = Z120 x) ∧ (Z92 ∧ Z43 = Z119 x) ∧ Z266 ∧ Z24 ∧ (Z91 ∧ Z143 t = tellsM ps) ∧ (nat_lit 0 = nat_lit 0 ∧ True) ∧ Z142 t = pmapM ps ∧ (nat_lit 0 = nat_lit 0 ∧ True) ∧ Z137) ∧ ∀ (t : Z66), (Z304 t = true → l = l ∧ True ∧ (Z87 ∧ (0 : Int) < Z67) ∧ nat_lit 0 < List.length (tellsM ps) ∧ (Z387 = true → True ∧ (True ∧ Z278 t) ∧ True ∧ ∃ (x : Z204), (Z692 t x ∧ True ∧ ps = ps ∧ Z239 ∧ Z77 ∧ Z38 ∧ Z346 t x ∧ Z348 t x ∧ Z266 ∧ Z24 ∧ Z156 ∧ (nat_lit 0 = nat_lit 0 ∧ True) ∧ Z39 ∧ (nat_lit 0 = nat_lit 0 ∧ True) ∧ Z24 ∧ (True ∧ True) ∧ (Z15 = Z390 x ∧ Z27 = Z392 x ∧ True) ∧ True) ∧ Z343 x ∧ Z1466 x l t) ∧ (Z387 = false → True ∧ ((Z440 = Z440 ∧ Z478 = Z478 ∧ Z479 = Z479 ∧ Z518 = Z518 ∧ Z516 = Z516 ∧ Z546 = Z546 ∧ Z548 = Z548 ∧ Z549 = Z549 ∧ Z545 = Z545 ∧ True) ∧ Z278 t) ∧ True ∧ ∃ (x : Z204), (Z692 t x ∧ True ∧ ps = ps ∧ Z239 ∧ Z77 ∧ Z38 ∧ Z346 t x ∧ Z348 t x ∧ Z266 ∧ Z24 ∧ Z156 ∧ (nat_lit 0 = nat_lit 0 ∧ True) ∧ Z39 ∧ (nat_lit 0 = nat_lit 0 ∧ True) ∧ Z24 ∧ (True ∧ True) ∧ (Value.int IntKind.i64 (Prod.fst (Z455 t)) = Z390 x ∧ Value.int IntKind.i64 (Prod.snd (Z455 t)) = Z392 x ∧ True) ∧ True) ∧ Z343 x ∧ Z1466 x l t)) ∧ (Z304 t = false → (nat_lit 2 = nat_lit 2 ∧ AV.v (Value.bool false) = AV.v (Value.bool false) ∧ AV.v (Value.bool true) = AV.v (Value.bool true) ∧ True) ∧ ((Z9 ∧ Z9 ∧ Z9 ∧ Z9 ∧ Z9 ∧ Z9 ∧ nat_lit 0 = nat_lit 0 ∧ Value.int IntKind.i64 (↑(nat_lit 2) : Int) = Z17 ∧ Z117 ∧ True) ∧ True ∧ ps = ps ∧ Z239 ∧ Z77 ∧ Z38 ∧ (Z89 ∧ Z120 t = Z42) ∧ (Z92 ∧ Z119 t = stageM (GroundT.mk long rise change ps) (nat_lit 0)) ∧ Z266 ∧ Z24 ∧ Z156 ∧ (nat_lit 0 = nat_lit 0 ∧ True) ∧ Z39 ∧ (nat_lit 0 = nat_lit 0 ∧ True) ∧ (nat_lit 4 = (4 : TypeId) ∧ Z222) ∧ True) ∧ (Z164 = true → (Z87 ∧ (0 : Int) < (↑(nat_lit 2) : Int)) ∧ nat_lit 0 < nat_lit 2 ∧ True ∧ (Z9 ∧ Z169 = Z169 ∧ True) ∧ Z63 ∧ ∀ (l : Nat), ∃ (x : Z178), (Z426 l x ∧ True ∧ ps = ps ∧ Z239 ∧ Z77 ∧ Z38 ∧ Z213 ∧ (Z92 ∧ Z49 = Z452 x) ∧ Z266 ∧ Z24 ∧ Z156 ∧ (nat_lit 0 = nat_lit 0 ∧ True) ∧ Z39 ∧ (nat_lit 0 = nat_lit 0 ∧ True) ∧ Z284 ∧ Z1077 x ∧ Z259 x ∧ Z24 ∧ (Z169 = Z225 x ∧ True) ∧ True) ∧ Z316 x ∧ ∀ (t : Z178), Z315 t x → (Z402 t → Z1456 t l x ∧ Z1447 t l x) ∧ (Z403 t → ((Z9 ∧ Z9 ∧ Z9 ∧ Z9 ∧ Z9 ∧ Z9 ∧ nat_lit 0 = nat_lit 0 ∧ Z118 ∧ Value.int IntKind.i64 (IntKind.wrap IntKind.i64 ((0 : Int) + (1 : Int))) = Value.int IntKind.i64 (1 : Int) ∧ True) ∧ True ∧ ps = ps ∧ Z239 ∧ Z77 ∧ Z38 ∧ Z213 ∧ (Z92 ∧ Z461 t = stageM (GroundT.mk long rise change ps) (nat_lit 1)) ∧ Z622) ∧ (Z165 = true → ((0 : Int) ≤ (1 : Int) ∧ (1 : Int) < (↑(nat_lit 2) : Int)) ∧ nat_lit 1 < nat_lit 2 ∧ True ∧ (Z9 ∧ Z168 = Z168 ∧ True) ∧ Z63 ∧ ∀ (l : Nat), ∃ (x : Z178), (Z426 l x ∧ True ∧ ps = ps ∧ Z239 ∧ Z77 ∧ Z38 ∧ Z213 ∧ (Z92 ∧ Z50 = Z452 x) ∧ Z266 ∧ Z24 ∧ Z156 ∧ (nat_lit 0 = nat_lit 0 ∧ True) ∧ Z39 ∧ (nat_lit 0 = nat_lit 0 ∧ True) ∧ Z284 ∧ Z1077 x ∧ Z259 x ∧ Z24 ∧ (Z168 = Z225 x ∧ True) ∧ True) ∧ Z316 x ∧ ∀ (t : Z178), Z315 t x → (Z402 t → Z1456 t l x ∧ Z1447 t l x) ∧ (Z403 t → ((Z9 ∧ Z9 ∧ Z9 ∧ Z9 ∧ Z9 ∧ Z9 ∧ nat_lit 0 = nat_lit 0 ∧ Z118 ∧ Value.int IntKind.i64 (IntKind.wrap IntKind.i64 ((1 : Int) + (1 : Int))) = Z17 ∧ True) ∧ True ∧ ps = ps ∧ Z239 ∧ Z77 ∧ Z38 ∧ Z213 ∧ (Z92 ∧ Z461 t = stageM (GroundT.mk long rise change ps) (nat_lit 2)) ∧ Z622) ∧ (Z166 = true → ((0 : Int) ≤ (2 : Int) ∧ (2 : Int) < (↑(nat_lit 2) : Int)) ∧ nat_lit 2 < nat_lit 2 ∧ True ∧ (Z9 ∧ Z167 = Z167 ∧ True) ∧ Z63 ∧ ∀ (l : Nat), ∃ (x : Z178), (Z426 l x ∧ True ∧ ps = ps ∧ Z239 ∧ Z77 ∧ Z38 ∧ Z213 ∧ (Z92 ∧ Z44 = Z452 x) ∧ Z266 ∧ Z24 ∧ Z156 ∧ (nat_lit 0 = nat_lit 0 ∧ True) ∧ Z39 ∧ (nat_lit 0 = nat_lit 0 ∧ True) ∧ Z284 ∧ Z1077 x ∧ Z259 x ∧ Z24 ∧ (Z167 = Z225 x ∧ True) ∧ True) ∧ Z316 x ∧ ∀ (t : Z178), Z315 t x → (Z402 t → Z1456 t l x ∧ Z1447 t l x) ∧ (Z403 t → False)) ∧ (Z166 = false → True ∧ Z115 ∧ Z63 ∧ ∀ (l : Nat), (∃ (x : Z163), Z409 l x ∧ True ∧ ps = ps ∧ Z239 ∧ Z77 ∧ Z38 ∧ Z213 ∧ (Z92 ∧ Z44 = boxesM (GroundT.mk long rise change ps)) ∧ Z646) ∧ Z1320 l))) ∧ (Z165 = false → True ∧ Z115 ∧ Z63 ∧ ∀ (l : Nat), (∃ (x : Z163), Z409 l x ∧ True ∧ ps = ps ∧ Z239 ∧ Z77 ∧ Z38 ∧ Z213 ∧ (Z92 ∧ Z50 = boxesM (GroundT.mk long rise change ps)) ∧ Z646) ∧ Z1320 l))) ∧ (Z164 = false → True ∧ Z115 ∧ Z63 ∧ ∀ (l : Nat), (∃ (x : Z163), Z409 l x ∧ True ∧ ps = ps ∧ Z239 ∧ Z77 ∧ Z38 ∧ Z213 ∧ (Z92 ∧ Z49 = boxesM (GroundT.mk long rise change ps)) ∧ Z646) ∧ Z1320 l))))
    (by kernel_rfl) ?_
  simp only [eq_self, true_and, and_true, Int.toNat_natCast, Nat.zero_add, Nat.sub_zero, Value.int.injEq, Value.bool.injEq, decide_eq_true_eq, decide_eq_false_iff_not]
  have hg := ground_ok hx
  have hlong : 0 ≤ long ∧ long ≤ 40 := hg.long
  obtain ⟨hn0, hn1, hn2⟩ := n_ok hg
  have hn0' : ((nM ⟨long, rise, change, ps⟩ : Nat) : Int) = long + 1 := hn0
  have hps : ps.length ≤ 8 := hg.len
  have hW : IntKind.i64.wrap (long + 1) = ((nM ⟨long, rise, change, ps⟩ : Nat) : Int) := by rw [wrap_id (by omega) (by omega)]; omega
  have hTL := tells_len ps
  rw [hW]
  refine ⟨⟨⟨by omega, by omega, by omega⟩, rfl⟩, ⟨⟨by omega, by omega, by omega⟩, rfl⟩, ⟨fun h => h, fun h => absurd h (by decide)⟩, ⟨⟨0, Nat.zero_le _⟩, rfl, ?_, ?_, rfl, rfl⟩, fun t => ⟨fun ht => ?_, fun ht => ?_⟩⟩
  · rw [Int.toNat_natCast]
    refine List.ext_getElem (by simp [hardsM]) fun j h1 h2 => ?_
    simp [hardsM]
  · rw [Int.toNat_natCast]
    refine List.ext_getElem (by simp [mixesM]) fun j h1 h2 => ?_
    simp [mixesM]
  · obtain ⟨i, hi⟩ := t
    have hlt : i < ps.length := by have h0 : (i : Int) < (ps.length : Int) := ht; omega
    have hTi := tells_len (ps.take i)
    rw [List.length_take] at hTi
    refine ⟨⟨Int.natCast_nonneg _, ht⟩, hlt, ⟨fun h => absurd h (by decide), fun h => h⟩, Nat.le_refl _, by show (tellsM (ps.take i)).length + 1 ≤ _; omega, ⟨rfl, rfl⟩, ⟨i + 1, hlt⟩, ⟨sucI i (by omega), ?_, ?_⟩, dec1 hlt⟩
    · show tellsM (ps.take i) ++ [(false, ps.getD i pit0)] = tellsM (ps.take (i + 1))
      rw [take_snoc ps i hlt pit0, tells_snoc]
    · exact pmap_put hg.inc hlt
  obtain ⟨i, hi⟩ := t
  have hie : i = ps.length := by have h0 : ¬ (i : Int) < (ps.length : Int) := ht; omega
  subst hie
  refine fun l => ⟨⟨⟨0, Nat.zero_le _⟩, ⟨rfl, rfl⟩, rfl, rfl, by rw [List.take_length], by rw [List.take_length]⟩, fun t => ⟨fun ht => ?_, fun ht => ?_⟩⟩
  · obtain ⟨k, hk⟩ := t
    have hlt : k < nM ⟨long, rise, change, ps⟩ := by have h0 : (k : Int) < ((nM ⟨long, rise, change, ps⟩ : Nat) : Int) := ht; omega
    refine ⟨⟨Int.le_refl _, by omega⟩, by omega, fun _ => ⟨⟨(k, 0), hlt, Nat.zero_le _⟩, ⟨⟨rfl, rfl⟩, rfl, rfl, rfl, rfl⟩, ?_⟩, fun h => ?_⟩
    · rintro ⟨⟨k1, j⟩, hk1, hj⟩ hr
      have hr' : k1 = k := hr
      subst hr'
      refine ⟨fun hjl => ?_, fun hjl => ?_⟩
      · have hlt2 : j < (tellsM ps).length := by have h0 : (j : Int) < ((tellsM ps).length : Int) := hjl; omega
        have hstep := hardT_suc (tellsM ps) rise (k1 : Int) j hlt2
        have hA : ((tellsM ps).getD j t0).1 = true → bothM (hardTM ((tellsM ps).take j) rise (k1 : Int)) (0, 1000) = hardTM ((tellsM ps).take (j + 1)) rise (k1 : Int) := fun hb => by
          rw [hstep]; unfold tellM; rw [if_pos hb]
        have hB : ((tellsM ps).getD j t0).1 = false → bothM (hardTM ((tellsM ps).take j) rise (k1 : Int)) (dugM ((tellsM ps).getD j t0).2 (k1 : Int) rise) = hardTM ((tellsM ps).take (j + 1)) rise (k1 : Int) := fun hb => by
          rw [hstep]; unfold tellM; rw [if_neg (by rw [hb]; decide)]
        exact ⟨⟨Int.natCast_nonneg _, hjl⟩, hlt2, fun hb => ⟨⟨(k1, j + 1), hk1, hlt2⟩, ⟨⟨rfl, sucI j (by omega)⟩, rfl, rfl, congrArg Prod.fst (hA hb), congrArg Prod.snd (hA hb)⟩, dec1 hlt2, rfl⟩,
          fun hb => ⟨⟨(k1, j + 1), hk1, hlt2⟩, ⟨⟨rfl, sucI j (by omega)⟩, rfl, rfl, congrArg Prod.fst (hB hb), congrArg Prod.snd (hB hb)⟩, dec1 hlt2, rfl⟩⟩
      · have hje : j = (tellsM ps).length := by have h0 : ¬ (j : Int) < ((tellsM ps).length : Int) := hjl; have hj' : j ≤ (tellsM ps).length := hj; omega
        have hh : hardTM ((tellsM ps).take j) rise (k1 : Int) = hardM ⟨long, rise, change, ps⟩ (k1 : Int) := by rw [hje, List.take_length]; rfl
        have hl1 := hards_len ⟨long, rise, change, ps⟩ k1
        have hl2 := mixes_len ⟨long, rise, change, ps⟩ k1
        have hlh : (0 : Int) ≤ (k1 : Int) ∧ (k1 : Int) < ((hardsM ⟨long, rise, change, ps⟩ k1).length : Int) := by omega
        have hlm : (0 : Int) ≤ (k1 : Int) ∧ (k1 : Int) < ((mixesM ⟨long, rise, change, ps⟩ k1).length : Int) := by omega
        have hls : (0 : Int) ≤ (k1 : Int) ∧ (k1 : Int) < (((mixesM ⟨long, rise, change, ps⟩ k1).set k1 anyM).length : Int) := by rw [List.length_set]; omega
        have nlh : k1 < (hardsM ⟨long, rise, change, ps⟩ k1).length := by omega
        have nlm : k1 < (mixesM ⟨long, rise, change, ps⟩ k1).length := by omega
        have nls : k1 < ((mixesM ⟨long, rise, change, ps⟩ k1).set k1 anyM).length := by rw [List.length_set]; omega
        have hset := hards_set hlt hh
        have hgetA : ((mixesM ⟨long, rise, change, ps⟩ k1).set k1 anyM).getD k1 m0 = anyM := by
          rw [List.getD_eq_getElem?_getD, List.getElem?_set_self (by omega)]; rfl
        refine ⟨hlh, nlh, hlm, nlm, fun hm => ⟨hls, nls, hls, nls, ⟨k1 + 1, hlt⟩, ⟨sucI k1 (by omega), hset, ?_⟩, dec1 hlt⟩, fun hm => ⟨⟨k1 + 1, hlt⟩, ⟨sucI k1 (by omega), hset, mixes_set hlt (mixAt_no hm).symm⟩, dec1 hlt⟩⟩
        have hm' : mhasM UU MM.pits [(k1 : Int)] (pmapM ps) = true := hm
        simp only [hm', cond_true]
        show ((mixesM ⟨long, rise, change, ps⟩ k1).set k1 anyM).set k1 (andM (((mixesM ⟨long, rise, change, ps⟩ k1).set k1 anyM).getD k1 m0) (mgetM UU MM.pits [(k1 : Int)] (pmapM ps)).2) = mixesM ⟨long, rise, change, ps⟩ (k1 + 1)
        rw [hgetA, List.set_set]
        exact mixes_set hlt (mixAt_yes hm').symm
    · rw [tells_eq] at h
      exact absurd h (by simp)
  · obtain ⟨k, hk⟩ := t
    have hke : k = nM ⟨long, rise, change, ps⟩ := by have h0 : ¬ (k : Int) < ((nM ⟨long, rise, change, ps⟩ : Nat) : Int) := ht; have hk' : k ≤ nM ⟨long, rise, change, ps⟩ := hk; omega
    subst hke
    have hS := stage_len ⟨long, rise, change, ps⟩
    refine ⟨⟨rfl, rfl, rfl⟩, fun _ => ⟨⟨Int.le_refl _, by decide⟩, by decide, fun l => ⟨⟨(0, 0), by decide, Nat.zero_le _⟩, ⟨⟨rfl, rfl⟩, (pass_zero _ _ _).symm, ⟨rfl, rfl, rfl, rfl, rfl, rfl⟩, rfl, rfl⟩, ?_⟩⟩, fun h => absurd (by decide) h⟩
    rintro ⟨⟨i, k⟩, hi2, hk2⟩ hr
    have hr' : i = 0 := hr
    subst hr'
    refine ⟨fun ht2 => ?_, fun ht2 => ?_⟩
    · have hlt : k < nM ⟨long, rise, change, ps⟩ := by have h0 : (k : Int) < ((nM ⟨long, rise, change, ps⟩ : Nat) : Int) := ht2; omega
      have hi1 : k < nM ⟨long, rise, change, ps⟩ := hlt
      have hx2 : idxM (stageM ⟨long, rise, change, ps⟩ 0).length false k = k := rfl
      have hkl : k < (stageM ⟨long, rise, change, ps⟩ 0).length := by rw [hS 0]; exact hlt
      have hpl : (passM (stageM ⟨long, rise, change, ps⟩ 0) false change k).length = nM ⟨long, rise, change, ps⟩ := by rw [pass_len]; exact hS 0
      have r1 : (0 : Int) ≤ ((k : Nat) : Int) ∧ ((k : Nat) : Int) < ((passM (stageM ⟨long, rise, change, ps⟩ 0) false change k).length : Int) := by rw [hpl]; omega
      have r2 : k < (passM (stageM ⟨long, rise, change, ps⟩ 0) false change k).length := by rw [hpl]; exact hi1
      have hnx : ∀ A : Mix3, A = accM (stageM ⟨long, rise, change, ps⟩ 0) false change k → (passM (stageM ⟨long, rise, change, ps⟩ 0) false change k).set k A = passM (stageM ⟨long, rise, change, ps⟩ 0) false change (k + 1) := fun A hA => by
        have := pass_set (stageM ⟨long, rise, change, ps⟩ 0) false change hkl hA
        rw [hx2] at this; exact this
      have hf : (k == 0) = true → (passM (stageM ⟨long, rise, change, ps⟩ 0) false change k).getD k m0 = accM (stageM ⟨long, rise, change, ps⟩ 0) false change k := fun h0 => by
        have e0 : k = 0 := by simpa using h0
        subst e0
        have := pass_first (stageM ⟨long, rise, change, ps⟩ 0) false change hkl
        rw [hx2] at this; exact this
      have hn : (k == 0) = false → andM ((passM (stageM ⟨long, rise, change, ps⟩ 0) false change k).getD k m0) (nextM (nowM (stageM ⟨long, rise, change, ps⟩ 0) false change k) change) = accM (stageM ⟨long, rise, change, ps⟩ 0) false change k := fun h0 => by
        have e0 : k ≠ 0 := by simpa using h0
        have := pass_next (stageM ⟨long, rise, change, ps⟩ 0) false change hkl e0
        rw [hx2] at this; exact this
      have hsu := sucI k (by omega)
      exact ⟨fun h => absurd (show ((0 : Nat) == 1) = true from h) (by decide), fun _ => ⟨r1, r2, fun h0 => ⟨r1, r2, r1, r2, ⟨(0, k + 1), (by show (0 : Nat) < 2; decide), hlt⟩, ⟨hsu, hnx _ (hf h0), six (b := accM (stageM ⟨long, rise, change, ps⟩ 0) false change k) (hf h0), rfl, rfl⟩, dec1 hlt, rfl⟩, fun h0 => ⟨r1, r2, ⟨(0, k + 1), (by show (0 : Nat) < 2; decide), hlt⟩, ⟨hsu, hnx _ (hn h0), six (b := accM (stageM ⟨long, rise, change, ps⟩ 0) false change k) (hn h0), h0, rfl⟩, dec1 hlt, rfl⟩⟩⟩
    have hke0 : k = nM ⟨long, rise, change, ps⟩ := by have h0 : ¬ (k : Int) < ((nM ⟨long, rise, change, ps⟩ : Nat) : Int) := ht2; have hk3 : k ≤ nM ⟨long, rise, change, ps⟩ := hk2; omega
    subst hke0
    refine ⟨⟨by decide, rfl⟩, fun _ => ⟨⟨by decide, by decide⟩, by decide, fun l => ⟨⟨(1, 0), by decide, Nat.zero_le _⟩, ⟨⟨rfl, rfl⟩, (pass_zero _ _ _).symm, ⟨rfl, rfl, rfl, rfl, rfl, rfl⟩, rfl, rfl⟩, ?_⟩⟩, fun h => absurd (by decide) h⟩
    rintro ⟨⟨i, k⟩, hi2, hk2⟩ hr
    have hr' : i = 1 := hr
    subst hr'
    refine ⟨fun ht2 => ?_, fun ht2 => ?_⟩
    · have hlt : k < nM ⟨long, rise, change, ps⟩ := by have h0 : (k : Int) < ((nM ⟨long, rise, change, ps⟩ : Nat) : Int) := ht2; omega
      have hi1 : (nM ⟨long, rise, change, ps⟩ - 1 - k) < nM ⟨long, rise, change, ps⟩ := by omega
      have ei : IntKind.i64.wrap (long - (k : Int)) = ((nM ⟨long, rise, change, ps⟩ - 1 - k : Nat) : Int) := by rw [wrap_id (by omega) (by omega)]; omega
      have hx2 : idxM (stageM ⟨long, rise, change, ps⟩ 1).length true k = nM ⟨long, rise, change, ps⟩ - 1 - k := by rw [hS 1]; rfl
      have hkl : k < (stageM ⟨long, rise, change, ps⟩ 1).length := by rw [hS 1]; exact hlt
      have hpl : (passM (stageM ⟨long, rise, change, ps⟩ 1) true change k).length = nM ⟨long, rise, change, ps⟩ := by rw [pass_len]; exact hS 1
      have r1 : (0 : Int) ≤ (((nM ⟨long, rise, change, ps⟩ - 1 - k) : Nat) : Int) ∧ (((nM ⟨long, rise, change, ps⟩ - 1 - k) : Nat) : Int) < ((passM (stageM ⟨long, rise, change, ps⟩ 1) true change k).length : Int) := by rw [hpl]; omega
      have r2 : (nM ⟨long, rise, change, ps⟩ - 1 - k) < (passM (stageM ⟨long, rise, change, ps⟩ 1) true change k).length := by rw [hpl]; exact hi1
      have hnx : ∀ A : Mix3, A = accM (stageM ⟨long, rise, change, ps⟩ 1) true change k → (passM (stageM ⟨long, rise, change, ps⟩ 1) true change k).set (nM ⟨long, rise, change, ps⟩ - 1 - k) A = passM (stageM ⟨long, rise, change, ps⟩ 1) true change (k + 1) := fun A hA => by
        have := pass_set (stageM ⟨long, rise, change, ps⟩ 1) true change hkl hA
        rw [hx2] at this; exact this
      have hf : (k == 0) = true → (passM (stageM ⟨long, rise, change, ps⟩ 1) true change k).getD (nM ⟨long, rise, change, ps⟩ - 1 - k) m0 = accM (stageM ⟨long, rise, change, ps⟩ 1) true change k := fun h0 => by
        have e0 : k = 0 := by simpa using h0
        subst e0
        have := pass_first (stageM ⟨long, rise, change, ps⟩ 1) true change hkl
        rw [hx2] at this; exact this
      have hn : (k == 0) = false → andM ((passM (stageM ⟨long, rise, change, ps⟩ 1) true change k).getD (nM ⟨long, rise, change, ps⟩ - 1 - k) m0) (nextM (nowM (stageM ⟨long, rise, change, ps⟩ 1) true change k) change) = accM (stageM ⟨long, rise, change, ps⟩ 1) true change k := fun h0 => by
        have e0 : k ≠ 0 := by simpa using h0
        have := pass_next (stageM ⟨long, rise, change, ps⟩ 1) true change hkl e0
        rw [hx2] at this; exact this
      have hsu := sucI k (by omega)
      simp only [ei, Int.toNat_natCast]
      exact ⟨fun _ => ⟨r1, r2, fun h0 => ⟨r1, r2, r1, r2, ⟨(1, k + 1), (by show (1 : Nat) < 2; decide), hlt⟩, ⟨hsu, hnx _ (hf h0), six (b := accM (stageM ⟨long, rise, change, ps⟩ 1) true change k) (hf h0), rfl, rfl⟩, dec1 hlt, rfl⟩, fun h0 => ⟨r1, r2, ⟨(1, k + 1), (by show (1 : Nat) < 2; decide), hlt⟩, ⟨hsu, hnx _ (hn h0), six (b := accM (stageM ⟨long, rise, change, ps⟩ 1) true change k) (hn h0), h0, rfl⟩, dec1 hlt, rfl⟩⟩, fun h => absurd (show ((1 : Nat) == 1) = false from h) (by decide)⟩
    have hke1 : k = nM ⟨long, rise, change, ps⟩ := by have h0 : ¬ (k : Int) < ((nM ⟨long, rise, change, ps⟩ : Nat) : Int) := ht2; have hk3 : k ≤ nM ⟨long, rise, change, ps⟩ := hk2; omega
    subst hke1
    refine ⟨⟨by decide, rfl⟩, fun h => absurd h (by decide), fun _ => ?_⟩
    refine fun l => ⟨⟨⟨0, Nat.zero_le _, fun j hj => absurd hj (Nat.not_lt_zero _)⟩, ⟨rfl, rfl⟩, rfl⟩, fun t => ⟨fun ht3 => ?_, fun ht3 => ?_⟩⟩
    · obtain ⟨k, hk, hb⟩ := t
      have hlt : k < nM ⟨long, rise, change, ps⟩ := by have h0 : (k : Int) < ((nM ⟨long, rise, change, ps⟩ : Nat) : Int) := ht3; omega
      have hl1 := hards_len ⟨long, rise, change, ps⟩ (nM ⟨long, rise, change, ps⟩)
      have hl2 : (boxesM ⟨long, rise, change, ps⟩).length = nM ⟨long, rise, change, ps⟩ := hS 2
      have r1 : (0 : Int) ≤ (k : Int) ∧ (k : Int) < ((hardsM ⟨long, rise, change, ps⟩ (nM ⟨long, rise, change, ps⟩)).length : Int) := by omega
      have r2 : k < (hardsM ⟨long, rise, change, ps⟩ (nM ⟨long, rise, change, ps⟩)).length := by omega
      have r3 : (0 : Int) ≤ (k : Int) ∧ (k : Int) < ((boxesM ⟨long, rise, change, ps⟩).length : Int) := by omega
      have r4 : k < (boxesM ⟨long, rise, change, ps⟩).length := by omega
      have hgd := hards_get hlt
      refine ⟨r1, r2, r1, r2, fun h => ?_, fun h => ⟨r3, r4, fun h2 => ?_, fun h2 => ?_⟩⟩
      · have h' : ((hardsM ⟨long, rise, change, ps⟩ (nM ⟨long, rise, change, ps⟩)).getD k (0, 0)).1 > ((hardsM ⟨long, rise, change, ps⟩ (nM ⟨long, rise, change, ps⟩)).getD k (0, 0)).2 := h
        rw [hgd] at h'
        have hbad := look_bad hlt (show badM ⟨long, rise, change, ps⟩ k = true by unfold badM; rw [decide_eq_true h']; rfl)
        exact ⟨fun hl => absurd hl (by rw [hbad]; decide), fun _ => trivial⟩
      · have h2' : noneM ((boxesM ⟨long, rise, change, ps⟩).getD k m0) = true := h2
        have hbad := look_bad hlt (show badM ⟨long, rise, change, ps⟩ k = true by unfold badM; rw [h2']; simp)
        exact ⟨fun hl => absurd hl (by rw [hbad]; decide), fun _ => trivial⟩
      · have h' : ¬ ((hardsM ⟨long, rise, change, ps⟩ (nM ⟨long, rise, change, ps⟩)).getD k (0, 0)).1 > ((hardsM ⟨long, rise, change, ps⟩ (nM ⟨long, rise, change, ps⟩)).getD k (0, 0)).2 := h
        rw [hgd] at h'
        have h2' : noneM ((boxesM ⟨long, rise, change, ps⟩).getD k m0) = false := h2
        have hgood : badM ⟨long, rise, change, ps⟩ k = false := by unfold badM; rw [h2', decide_eq_false h']; rfl
        refine ⟨⟨k + 1, hlt, fun j hj => ?_⟩, sucI k (by omega), dec1 hlt⟩
        rcases Nat.lt_or_eq_of_le (Nat.le_of_lt_succ hj) with h1 | rfl
        · exact hb j h1
        · exact hgood
    · obtain ⟨k, hk, hb⟩ := t
      have hke3 : k = nM ⟨long, rise, change, ps⟩ := by have h0 : ¬ (k : Int) < ((nM ⟨long, rise, change, ps⟩ : Nat) : Int) := ht3; have hk3 : k ≤ nM ⟨long, rise, change, ps⟩ := hk; omega
      subst hke3
      have hgood := look_good hb
      exact ⟨fun _ => trivial, fun h => absurd h (by rw [hgood]; decide)⟩

theorem look_sound : Sound Try.prog 87 lookS.con := FSpec2.sound _ (enter_of Try.func87 (by kernel_rfl) (by kernel_rfl)) look_ok
end AE.Soil

namespace AE.Soil
open Go AE Go.Proofs

def sliceAt (c : CC) (H : Heap UU) : AV → Option (List (c.ty))
  | .v (.slice none 0 0) => some []
  | .gs id k => rowAt (U := UU) c H id k
  | .sl id k _ _ => match Nat.beq id noId with
    | true => some []
    | false => rowAt (U := UU) c H id k
  | _ => none
def restOf : Code → Code
  | .seq _ c => c
  | c => c
theorem told_ok : TdOk Try.prog 81 (tdOf (U := UU) Try.prog [] Try.f81 (restOf (bodyOf Try.f81)) 5) :=
  tdOf_ok hmix .nil Try.func81 (enter_of Try.func81 (by kernel_rfl) (by kernel_rfl)) rfl rfl rfl rfl rfl (by decide) (by kernel_rfl)
def tdAt (n : Nat) (d : TdW UU) (k : Nat) : Option (TdW UU) := match Nat.beq k n with
  | true => some d
  | false => none
theorem tdAt_ok {n : Nat} {d : TdW UU} (h : TdOk Try.prog n d) : ∀ k e, tdAt n d k = some e → TdOk Try.prog k e := by
  intro k e hk
  unfold tdAt at hk
  split at hk
  · rename_i hb
    cases hk
    rw [Nat.eq_of_beq_eq_true hb]; exact h
  · cases hk

inductive Ask where
  | place
  | cls
  | span (ok : Bool)
def askM (a : Ask) (long n : Int) : Bool := match a with
  | .place => inM n 0 long
  | .cls => inM n 0 3
  | .span ok => inM n 0 long && ok
def openErrM (g : GroundT) (a : Ask) (l : List Int) : Int := if groundM g then (if l.all (askM a g.long) then (if lookM g then 0 else 10) else 2) else 1
theorem open_arg {g : GroundT} {a : Ask} {l : List Int} (h : groundM g = false) : openErrM g a l = 1 := by unfold openErrM; rw [h]; rfl
theorem open_range {g : GroundT} {a : Ask} {l : List Int} (h : groundM g = true) {i : Nat} (hi : i < l.length) (hn : askM a g.long (l.getD i 0) = false) : openErrM g a l = 2 := by
  have : l.all (askM a g.long) = false := by
    rw [List.all_eq_false]
    refine ⟨l.getD i 0, ?_, by rw [hn]; decide⟩
    rw [List.getD_eq_getElem?_getD, List.getElem?_eq_getElem hi]; exact List.getElem_mem hi
  unfold openErrM; rw [h, this]; rfl
theorem open_look {g : GroundT} {a : Ask} {l : List Int} (h : groundM g = true) (ha : l.all (askM a g.long) = true) : openErrM g a l = if lookM g then 0 else 10 := by
  unfold openErrM; rw [h, ha]; rfl
theorem ask_suc {a : Ask} {long : Int} {l : List Int} {i : Nat} (hi : i < l.length) (h : (l.take i).all (askM a long) = true) (hn : askM a long (l.getD i 0) = true) : (l.take (i + 1)).all (askM a long) = true := by
  rw [take_snoc l i hi 0, List.all_append, h, List.all_cons, hn]; rfl
def openL (g : GroundT) (l : List Int) : LSpec UU where
  T := { i : Nat // i ≤ l.length ∧ (l.take i).all (askM .place g.long) = true }
  fr := fun i => [(1, .fn (.func 88) [] [.ptr 1 0 0 0]), (3, .ptr 3 0 0 0), (14, .sl 2 0 0 l.length), (15, .i l.length), (16, .i i.1)]
  H := fun _ => [.one (.ro .pit g.pits), .one (.rc (cGround g 0) 32), .one (.ro .int l), .one (.cells (cGround g 0) 32)]
  mu := fun i => l.length - i.1
def openAS : FSpec2 UU where
  X := GroundT × List Int
  pick := fun args H => match args with
    | [a, .fn (.func 88) [] [_], l] => match avGround H a, sliceAt .int H l with
      | some a, some l => some (a, l)
      | _, _ => none
    | _ => none
  args := fun x => [vGround x.1 0, .fn (.func 88) [] [.ptr 1 0 0 0], .sl 2 0 0 x.2.length]
  H := fun x => [.one (.ro .pit x.1.pits), .one (.rc (cGround x.1 0) 32), .one (.ro .int x.2)]
  c := fun x => openErrM x.1 .place x.2 == 0
  R := fun x => .val ⟨.ptr 5 0 0 0, [], [], [.row .span (hardsM x.1 (nM x.1)) 26, .row .mix (boxesM x.1) 151, .cells [.i x.1.long, .i x.1.rise, .i x.1.change, .sl 0 0 0 x.1.pits.length, .gs 3 0, .gs 4 0] 137]⟩
  R' := fun x => .panic (failV (openErrM x.1 .place x.2))
  pre := fun x => x.1.pits.length < 1000000 ∧ x.2.length < 1000
def Topen : Tab UU := [(86, isGroundS.con), (85, mustS.con), (87, lookS.con), (88, placeS.con)]
theorem Topen_ok : Topen.Sound Try.prog := .cons isGround_sound (.cons must_sound (.cons look_sound (.cons place_sound .nil)))
set_option maxHeartbeats 0 in
set_option maxRecDepth 100000 in
theorem openA_ok : ∀ x, openAS.pre x → (openAS.c x = true → FunOk Try.prog 82 (openAS.args x) (openAS.H x) (openAS.R x)) ∧ (openAS.c x = false → FunOk Try.prog 82 (openAS.args x) (openAS.H x) (openAS.R' x)) := by
  rintro ⟨⟨long, rise, change, ps⟩, l⟩ hx
  refine fun_of2 (T := Topen) (L := fun _ => some (.inv (openL ⟨long, rise, change, ps⟩ l))) (hs := fun _ => []) (sp := fun _ => none) hmix Topen_ok (td := fun _ => none) (fun _ _ h => by cases h) (it := fun _ => none) (fun _ _ h => by cases h) Try.func82 (by kernel_rfl) (by kernel_rfl) ?_
  refine Eq.mp (α :=
      let Z0 := List.length l; let Z1 := Value.bool true; let Z2 := Value.bool false; let Z3 := GroundT.mk long rise change ps; let Z4 := List.length ps; let Z5 := Value.int IntKind.i64 rise; let Z6 := Value.int IntKind.i64 long; let Z7 := Value.int IntKind.i64 change; let Z9 := (0 : Int); let Z10 := (1 : Int); let Z16 := groundM Z3; let Z18 := ps = ps; let Z19 := l = l; let Z20 := (26 : TypeId); let Z22 := (142 : TypeId); let Z23 := (151 : TypeId); let Z26 := nat_lit 0 = nat_lit 0 ∧ nat_lit 0 = nat_lit 0 ∧ nat_lit 0 = nat_lit 0; let Z27 := (↑Z0 : Int); let Z28 := Fn.func (88 : FuncId); let Z29 := Value.bool Z16; let Z31 := openErrM Z3 Ask.place l; let Z33 := Value.int IntKind.i64 Z10; let Z34 := Value.int IntKind.i64 (2 : Int); let Z36 := Value.int IntKind.i64 (10 : Int); let Z38 := Z26 ∧ True; let Z40 := Z7 = Z7; let Z41 := Z5 = Z5; let Z42 := Z6 = Z6; let Z46 := Value.int IntKind.i64 Z27; let Z47 := Value.int IntKind.i64 Z31; let Z51 := Z22 = Z22; let Z62 := Z36 = Z36 ∧ True; let Z63 := Z31 == Z9; let Z67 := Z63 = true; let Z68 := Z63 = false; let Z70 := Z67 → False; let Z74 : Type := { i : Nat // i ≤ Z0 ∧ List.all (List.take i l) (askM Ask.place (GroundT.long Z3)) = true }; let Z75 := fun (x : Z74) => Subtype.val x; let Z78 := fun (x : Z74) => (↑(Z75 x) : Int); let Z84 := fun (x : Z74) => Z0 - Z75 x; let Z86 := fun (t : Z74) => nat_lit 0 + Int.toNat (Z78 t); let Z88 := Z42 ∧ Z41 ∧ Z40 ∧ (nat_lit 0 = nat_lit 0 ∧ nat_lit 0 = nat_lit 0 ∧ Z4 = Z4) ∧ True; let Z89 := Z88 ∧ True; let Z90 := fun (t : Z74) => List.getD l (Z86 t) Z9; let Z93 := fun (t : Z74) => inM (Z90 t) Z9 long; let Z94 := fun (t : Z74) => Value.bool (Z93 t); let Z96 := fun (t : Z74) => decide (Z78 t < Z27); Z4 < nat_lit 1000000 ∧ Z89 ∧ (Z18 ∧ True) ∧ True ∧ (Z16 = true → (Z29 = Z29 ∧ Z33 = Z33 ∧ True) ∧ True ∧ (∃ (x : Z74), ((Z28 = Z28 ∧ True ∧ Z38) ∧ Z26 ∧ (nat_lit 0 = nat_lit 0 ∧ nat_lit 0 = nat_lit 0 ∧ Z0 = Z0) ∧ Z46 = Z46 ∧ Value.int IntKind.i64 Z9 = Value.int IntKind.i64 (Z78 x) ∧ True) ∧ True ∧ Z18 ∧ Z88 ∧ Z19 ∧ Z89) ∧ ∀ (t : Z74), (Z96 t = true → (Z9 ≤ Z78 t ∧ Z78 t < Z27) ∧ Z86 t < List.length l ∧ True ∧ (Value.int IntKind.i64 (Z90 t) = Value.int IntKind.i64 (Z90 t) ∧ Z38) ∧ ((Z42 ∧ Z41 ∧ Z40 ∧ True ∧ True) ∧ True) ∧ True ∧ (Z93 t = true → (Z94 t = Z94 t ∧ Z34 = Z34 ∧ True) ∧ True ∧ True ∧ ∃ (x : Z74), (((Z28 = Z28 ∧ True ∧ Z38) ∧ Z26 ∧ (nat_lit 0 = nat_lit 0 ∧ nat_lit 0 = nat_lit 0 ∧ Z0 = Z0) ∧ Z46 = Z46 ∧ Value.int IntKind.i64 (IntKind.wrap IntKind.i64 (Z78 t + Z10)) = Value.int IntKind.i64 (Z78 x) ∧ True) ∧ True ∧ Z18 ∧ Z88 ∧ Z19 ∧ Z89) ∧ Z84 x < Z84 t) ∧ (Z93 t = false → (Z94 t = Z94 t ∧ Z34 = Z34 ∧ True) ∧ True ∧ Z70 ∧ (Z68 → True ∧ Z51 ∧ Z34 = Z47 ∧ True))) ∧ (Z96 t = false → Z16 = true ∧ (lookM Z3 = true → Z89 ∧ (Z18 ∧ True) ∧ True ∧ (true = true → (Z1 = Z1 ∧ Z62) ∧ True ∧ (Z67 → True ∧ Z38 ∧ True ∧ Z18 ∧ Z88 ∧ Z19 ∧ (Z20 = Z20 ∧ hardsM Z3 (nM Z3) = hardsM Z3 (nM Z3)) ∧ (Z23 = Z23 ∧ boxesM Z3 = boxesM Z3) ∧ (Z42 ∧ Z41 ∧ Z40 ∧ (nat_lit 0 = nat_lit 0 ∧ nat_lit 0 = nat_lit 0 ∧ Z4 = Z4) ∧ nat_lit 0 = nat_lit 0 ∧ nat_lit 0 = nat_lit 0 ∧ True) ∧ True) ∧ (Z68 → False)) ∧ (true = false → (Z1 = Z1 ∧ Z62) ∧ True ∧ Z70 ∧ (Z68 → True ∧ Z51 ∧ Z36 = Z47 ∧ True))) ∧ (lookM Z3 = false → Z89 ∧ (Z18 ∧ True) ∧ True ∧ (false = true → (Z2 = Z2 ∧ Z62) ∧ True ∧ (Z67 → True ∧ (False ∧ True) ∧ True ∧ Z18 ∧ Z88 ∧ Z19 ∧ False ∧ False ∧ False ∧ True) ∧ (Z68 → False)) ∧ (false = false → (Z2 = Z2 ∧ Z62) ∧ True ∧ Z70 ∧ (Z68 → True ∧ Z51 ∧ Z36 = Z47 ∧ True))))) ∧ (Z16 = false → (Z29 = Z29 ∧ Z33 = Z33 ∧ True) ∧ True ∧ Z70 ∧ (Z68 → True ∧ Z51 ∧ Z33 = Z47 ∧ True)))
    (by kernel_rfl) ?_
  simp only [eq_self, true_and, and_true, Int.toNat_natCast, Nat.zero_add, Nat.sub_zero, Value.int.injEq, Value.bool.injEq, decide_eq_true_eq, decide_eq_false_iff_not]
  obtain ⟨hl1, hl2⟩ := hx
  have hl2' : l.length < 1000 := hl2
  refine ⟨hl1, fun hg => ⟨⟨⟨0, Nat.zero_le _, rfl⟩, rfl⟩, fun t => ⟨fun ht => ?_, fun ht => ⟨hg, fun hk => ?_, fun hk => ?_⟩⟩⟩, fun hg => ?_⟩
  · obtain ⟨i, hi, ha⟩ := t
    have hlt : i < l.length := by have h0 : (i : Int) < (l.length : Int) := ht; omega
    refine ⟨⟨Int.natCast_nonneg _, ht⟩, hlt, fun h => ⟨⟨i + 1, hlt, ask_suc hlt ha h⟩, sucI i (by omega), dec1 hlt⟩, fun h => ?_⟩
    rw [open_range (a := .place) hg hlt h]
    exact ⟨fun h => absurd h (by decide), fun _ => rfl⟩
  · obtain ⟨i, hi, ha⟩ := t
    have hie : i = l.length := by have h0 : ¬ (i : Int) < (l.length : Int) := ht; omega
    rw [hie, List.take_length] at ha
    rw [open_look (a := .place) hg ha, hk]
    exact ⟨fun _ => ⟨fun _ => trivial, fun h => absurd h (by decide)⟩, fun h => absurd h (by decide)⟩
  · obtain ⟨i, hi, ha⟩ := t
    have hie : i = l.length := by have h0 : ¬ (i : Int) < (l.length : Int) := ht; omega
    rw [hie, List.take_length] at ha
    rw [open_look (a := .place) hg ha, hk]
    exact ⟨fun h => absurd h (by decide), fun _ => ⟨fun h => absurd h (by decide), fun _ => rfl⟩⟩
  · rw [open_arg hg]
    exact ⟨fun h => absurd h (by decide), fun _ => rfl⟩

theorem openA_sound : Sound Try.prog 82 openAS.con := FSpec2.sound _ (enter_of Try.func82 (by kernel_rfl) (by kernel_rfl)) openA_ok
end AE.Soil

namespace AE.Soil
open Go AE Go.Proofs

theorem open_ok {g : GroundT} {a : Ask} {l : List Int} (h : (openErrM g a l == 0) = true) : groundM g = true ∧ l.all (askM a g.long) = true ∧ lookM g = true := by
  cases hg : groundM g with
  | false => rw [open_arg hg] at h; exact absurd h (by decide)
  | true =>
    cases ha : l.all (askM a g.long) with
    | false =>
      have : openErrM g a l = 2 := by unfold openErrM; rw [hg, ha]; rfl
      rw [this] at h; exact absurd h (by decide)
    | true =>
      rw [open_look hg ha] at h
      cases hl : lookM g with
      | false => rw [hl] at h; exact absurd h (by decide)
      | true => exact ⟨rfl, rfl, rfl⟩
theorem place_nat {g : GroundT} {n : Int} (h : (openErrM g .place [n] == 0) = true) : ∃ k : Nat, n = (k : Int) ∧ k < nM g := by
  obtain ⟨hg, ha, _⟩ := open_ok h
  have hk := ground_ok hg
  obtain ⟨h0, h1, h2⟩ := n_ok hk
  have : inM n 0 g.long = true := by simpa [askM] using ha
  have := inM_iff.1 this
  obtain ⟨k, rfl⟩ := Int.eq_ofNat_of_zero_le this.1
  exact ⟨k, rfl, by omega⟩
def hardOM (g : GroundT) (at_ : Int) : Span × Int := if openErrM g .place [at_] == 0 then (hardM g at_, 0) else ((0, 0), openErrM g .place [at_])
def Tq : Tab UU := [(83, isPlaceS.con), (82, openAS.con)]
theorem Tq_ok : Tq.Sound Try.prog := .cons isPlace_sound (.cons openA_sound .nil)
def hardOS : FSpec UU where
  X := GroundT × Int
  pick := fun args H => match args with
    | [a, b] => match avGround H a, avInt b with
      | some a, some b => some (a, b)
      | _, _ => none
    | _ => none
  args := fun x => [vGround x.1 0, .i x.2]
  H := fun x => [.one (.ro .pit x.1.pits)]
  R := fun x => .val ⟨.tup [vSpan (hardOM x.1 x.2).1, .i (hardOM x.1 x.2).2], [], [], []⟩
  pre := fun x => x.1.pits.length < 1000000
set_option maxHeartbeats 0 in
set_option maxRecDepth 100000 in
theorem hardO_ok : ∀ x, hardOS.pre x → FunOk Try.prog 76 (hardOS.args x) (hardOS.H x) (hardOS.R x) := by
  rintro ⟨⟨long, rise, change, ps⟩, at_⟩ hx
  refine fun_ofT (T := Tq) (L := fun _ => none) (hs := fun _ => []) (sp := fun _ => none) hmix Tq_ok (tdAt_ok told_ok) (it := fun _ => none) (fun _ _ h => by cases h) Try.func76 (by kernel_rfl) (by kernel_rfl) ?_
  refine Eq.mp (α :=
      let Z0 := GroundT.mk long rise change ps; let Z1 := Value.int IntKind.i64 change; let Z2 := Value.int IntKind.i64 long; let Z3 := List.length ps; let Z4 := Value.int IntKind.i64 rise; let Z5 := nat_lit 0 = nat_lit 0 ∧ nat_lit 0 = nat_lit 0; let Z6 := nat_lit 0 = nat_lit 0 ∧ nat_lit 1 = nat_lit 1; let Z7 := (0 : Int); let Z8 := AV.v (Value.int IntKind.i64 at_); let Z11 := (5 : Nat); let Z14 := ps = ps; let Z17 := Fn.func (88 : FuncId); let Z19 := Value.int IntKind.i64 Z7; let Z26 := nat_lit 0 + Int.toNat at_; let Z28 := Prod.fst (hardOM Z0 at_); let Z30 : List Int := [at_]; let Z37 := Value.int IntKind.i64 (Prod.snd (hardOM Z0 at_)); let Z39 := Value.int IntKind.i64 (Prod.fst Z28); let Z40 := Value.int IntKind.i64 (Prod.snd Z28); let Z43 := List.length (hardsM Z0 (nM Z0)); let Z44 := openErrM Z0 Ask.place Z30; let Z48 := Z30 = Z30; let Z51 := Z44 == Z7; let Z53 := List.getD (hardsM Z0 (nM Z0)) Z26 (Z7, Z7); let Z54 := Z2 = Z2 ∧ Z4 = Z4 ∧ Z1 = Z1 ∧ (nat_lit 0 = nat_lit 0 ∧ nat_lit 0 = nat_lit 0 ∧ Z3 = Z3) ∧ True; True ∧ (Z54 ∧ True) ∧ (Z14 ∧ True) ∧ (nat_lit 1 = nat_lit 1 ∧ Z8 = Z8 ∧ True) ∧ (Z3 < nat_lit 1000000 ∧ nat_lit 1 < nat_lit 1000) ∧ (Z51 = true → (Z54 ∧ (Z17 = Z17 ∧ True ∧ (nat_lit 0 = nat_lit 0 ∧ Z5) ∧ True) ∧ (Z11 = Z11 ∧ nat_lit 0 = nat_lit 0 ∧ Z6) ∧ True) ∧ (Z14 ∧ Z54 ∧ Z48 ∧ True) ∧ (Z7 ≤ at_ ∧ at_ < (↑Z43 : Int)) ∧ Z26 < Z43 ∧ (true = true → True ∧ True ∧ (((Value.int IntKind.i64 (Prod.fst Z53) = Z39 ∧ Value.int IntKind.i64 (Prod.snd Z53) = Z40 ∧ True) ∧ Z19 = Z37 ∧ True) ∧ True) ∧ True ∧ Z14 ∧ True) ∧ (true = false → False)) ∧ (Z51 = false → (Z54 ∧ (Z17 = Z17 ∧ True ∧ (nat_lit 0 = nat_lit 0 ∧ Z5) ∧ True) ∧ (Z11 = Z11 ∧ nat_lit 0 = nat_lit 0 ∧ Z6) ∧ True) ∧ (Z14 ∧ Z54 ∧ Z48 ∧ True) ∧ True ∧ True ∧ (((Z19 = Z39 ∧ Z19 = Z40 ∧ True) ∧ Value.int IntKind.i64 Z44 = Z37 ∧ True) ∧ True) ∧ True ∧ Z14 ∧ True))
    (by kernel_rfl) ?_
  simp only [eq_self, true_and, and_true, Int.toNat_natCast, Nat.zero_add, Nat.sub_zero, Value.int.injEq, Value.bool.injEq, decide_eq_true_eq, decide_eq_false_iff_not]
  refine ⟨⟨hx, by decide⟩, fun h => ?_, fun h => ?_⟩
  · obtain ⟨k, rfl, hk⟩ := place_nat h
    have hl := hards_len ⟨long, rise, change, ps⟩ (nM ⟨long, rise, change, ps⟩)
    have e : hardOM ⟨long, rise, change, ps⟩ (k : Int) = (hardM ⟨long, rise, change, ps⟩ (k : Int), 0) := by unfold hardOM; rw [h]; rfl
    rw [Int.toNat_natCast, hards_get hk, e]
    exact ⟨⟨Int.natCast_nonneg _, by omega⟩, by omega, fun _ => ⟨⟨rfl, rfl⟩, rfl⟩, fun h => absurd h (by decide)⟩
  · have e : hardOM ⟨long, rise, change, ps⟩ at_ = ((0, 0), openErrM ⟨long, rise, change, ps⟩ .place [at_]) := by unfold hardOM; rw [h]; rfl
    rw [e]; exact ⟨⟨rfl, rfl⟩, rfl⟩

theorem hardO_sound : Sound Try.prog 76 hardOS.con := FSpec.sound _ (enter_of Try.func76 (by kernel_rfl) (by kernel_rfl)) hardO_ok

def partsOM (g : GroundT) (at_ : Int) : Mix3 × Int := if openErrM g .place [at_] == 0 then ((boxesM g).getD at_.toNat m0, 0) else (m0, openErrM g .place [at_])
end AE.Soil
