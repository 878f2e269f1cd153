/- An own symbolic executor for the model's code, and what the functions beneath the law compute, joined out of: Ae29, Ae30, Ae31, AeT, SoU, SoA, SoB, SoC, SoD, SoE, SoF, SoG, SoH0, SoH, SoI. No condition. -/
import Derived.Test.YtlhpkhpgjccbpaaGreatM2
import Derived.Test.YtlhpkhpgjccbpaaGreatRows
import Derived.RecoverIn
import Derived.IntWalk

set_option linter.unusedSimpArgs false
set_option linter.unusedVariables false
set_option maxHeartbeats 0
set_option maxRecDepth 100000
namespace AE
open Go

variable {U : Uni}

mutual
def rnV (τ : Nat → Nat) : AV → AV
  | .ptr id k i fo => .ptr (τ id) k i fo
  | .sl id k off len => .sl (τ id) k off len
  | .gs id k => .gs (τ id) k
  | .map id k => .map (τ id) k
  | .fn f xs ys => .fn f (rnL τ xs) (rnL τ ys)
  | .ifc t x => .ifc t (rnV τ x)
  | .agg xs => .agg (rnL τ xs)
  | .tup xs => .tup (rnL τ xs)
  | .alt c a b => .alt c (rnV τ a) (rnV τ b)
  | .junk => .junk
  | .tt => .tt
  | .ff => .ff
  | .v x => .v x
def rnL (τ : Nat → Nat) : List AV → List AV
  | [] => []
  | x :: xs => rnV τ x :: rnL τ xs
end
mutual
theorem rnV_ok {τ : Nat → Nat} {π π' : Plc} (hτ : ∀ id k p, π id k = some p → π' (τ id) k = some p) : ∀ {a : AV} {y : Value}, Rep π a y → Rep π' (rnV τ a) y
  | .junk, _, _ => by simp [rnV, Rep]
  | .tt, y, e => by simpa [rnV, Rep] using e
  | .ff, y, e => by simpa [rnV, Rep] using e
  | .v x, y, e => by simpa [rnV, Rep] using e
  | .ptr id k i fo, y, e => by
    simp only [rnV, Rep] at e ⊢; obtain ⟨p, hp, e⟩ := e; exact ⟨p, hτ _ _ _ hp, e⟩
  | .sl id k off len, y, e => by
    simp only [rnV, Rep] at e ⊢; obtain ⟨a, c, e, hlc, hh⟩ := e
    exact ⟨a, c, e, hlc, fun hl => let ⟨p, hp, ha⟩ := hh hl; ⟨p, hτ _ _ _ hp, ha⟩⟩
  | .gs id k, y, e => by
    simp only [rnV, Rep] at e ⊢; obtain ⟨p, hp, e⟩ := e; exact ⟨p, hτ _ _ _ hp, e⟩
  | .map id k, y, e => by
    simp only [rnV, Rep] at e ⊢; obtain ⟨p, hp, e⟩ := e; exact ⟨p, hτ _ _ _ hp, e⟩
  | .fn f xs ys, y, e => by
    simp only [rnV, Rep] at e ⊢; obtain ⟨a, b, e, h1, h2⟩ := e
    exact ⟨a, b, e, rnL_ok hτ h1, rnL_ok hτ h2⟩
  | .ifc t x, y, e => by
    simp only [rnV, Rep] at e ⊢; obtain ⟨z, e, h1⟩ := e; exact ⟨z, e, rnV_ok hτ h1⟩
  | .agg xs, y, e => by
    simp only [rnV, Rep] at e ⊢; obtain ⟨a, e, h1⟩ := e; exact ⟨a, e, rnL_ok hτ h1⟩
  | .tup xs, y, e => by
    simp only [rnV, Rep] at e ⊢; obtain ⟨a, e, h1⟩ := e; exact ⟨a, e, rnL_ok hτ h1⟩
  | .alt c a b, y, e => by
    simp only [rnV, Rep] at e ⊢; exact ⟨fun hc => rnV_ok hτ (e.1 hc), fun hc => rnV_ok hτ (e.2 hc)⟩
theorem rnL_ok {τ : Nat → Nat} {π π' : Plc} (hτ : ∀ id k p, π id k = some p → π' (τ id) k = some p) : ∀ {xs : List AV} {ys : List Value}, RepL π xs ys → RepL π' (rnL τ xs) ys
  | [], ys, e => by simpa [rnL, RepL] using e
  | x :: xs, ys, e => by
    simp only [rnL, RepL] at e ⊢; obtain ⟨z, zs, e, h1, h2⟩ := e
    exact ⟨z, zs, e, rnV_ok hτ h1, rnL_ok hτ h2⟩
end

theorem rnL_length {τ : Nat → Nat} : ∀ (xs : List AV), (rnL τ xs).length = xs.length
  | [] => rfl
  | x :: xs => by simp [rnL, rnL_length xs]
theorem rnL_getD {τ : Nat → Nat} : ∀ {xs : List AV} {k : Nat}, k < xs.length → (rnL τ xs).getD k .junk = rnV τ (xs.getD k .junk)
  | [], _, h => by simp at h
  | x :: xs, 0, _ => by simp [rnL]
  | x :: xs, k + 1, h => by simpa [rnL] using rnL_getD (xs := xs) (k := k) (by simpa using h)

def rnB (τ : Nat → Nat) : AB1 U → AB1 U
  | .cells vs t => .cells (rnL τ vs) t
  | .rc vs t => .rc (rnL τ vs) t
  | .row c l t => match U.mv c with
    | false => .row c l t
    | true => .row (U.rc τ c) (U.rcl τ c l) t
  | .ro c l => match U.mv c with
    | false => .ro c l
    | true => .ro (U.rc τ c) (U.rcl τ c l)
  | .map m l => .map m l
  | .mrow o vs => .mrow o (rnL τ vs)
def rnBok : AB1 U → Bool
  | .cells .. => true
  | .rc .. => true
  | .row c _ _ => U.mv c || U.pl c
  | .ro c _ => U.mv c || U.pl c
  | .map m _ => U.mpl m
  | .mrow _ _ => true
def dgBok : AB1 U → Bool
  | .cells .. => true
  | .rc .. => true
  | .row c _ _ => U.pl c
  | .ro c _ => U.pl c
  | .map m _ => U.mpl m
  | .mrow _ _ => true
theorem rnB_ok {τ : Nat → Nat} {π π' : Plc} (hτ : ∀ id k p, π id k = some p → π' (τ id) k = some p) {b : AB1 U} (hf : rnBok b = true) {w : World} {p : Place} (h : BlkOk π w p b) : BlkOk π' w p (rnB τ b) := by
  cases b with
  | cells vs t => obtain ⟨h0, cs, h1, h2⟩ := h; exact ⟨h0, cs, h1, rnL_ok hτ h2⟩
  | rc vs t => obtain ⟨h0, cs, h1, h2⟩ := h; exact ⟨h0, cs, h1, rnL_ok hτ h2⟩
  | row c l t =>
    simp only [rnB]
    split
    · rename_i hm
      exact fixB_ok (b := .row c l t) (by simp only [rnBok, hm, Bool.false_or] at hf; exact hf) h
    · rename_i hm
      obtain ⟨h0, h1, h2, h3, cs, h4, h5⟩ := h
      have hlen : (U.rcl τ c l).length = l.length := by rw [U.rclmap, List.length_map]
      refine ⟨h0, by rw [U.rcsz]; exact h1, by rw [hlen]; exact h2, h3, cs, Uni.moved hm (fun id _ k p hp => hτ id k p hp) h4, ?_⟩
      rw [U.rcsz, hlen]; exact h5
  | ro c l =>
    simp only [rnB]
    split
    · rename_i hm
      exact fixB_ok (b := .ro c l) (by simp only [rnBok, hm, Bool.false_or] at hf; exact hf) h
    · rename_i hm
      obtain ⟨h1, h2⟩ := h
      refine ⟨by rw [U.rcsz]; exact h1, fun i x' hi j a' ha' => ?_⟩
      rw [U.rclmap, List.getElem?_map] at hi
      cases hx : l[i]? with
      | none => rw [hx] at hi; cases hi
      | some x =>
        rw [hx] at hi; simp only [Option.map_some, Option.some.injEq] at hi; subst hi
        obtain ⟨a, ha, hr⟩ := U.rcok c hm π π' τ (fun id _ k p hp => hτ id k p hp) x j a' ha'
        obtain ⟨y, hy, hry⟩ := h2 i x hx j a ha
        exact ⟨y, hy, hr y hry⟩
  | map m l => exact fixB_ok (b := .map m l) hf h
  | mrow o vs =>
    obtain ⟨es, ck, ks, h1, h2, h3, h4, h5, h6⟩ := h
    have hg : ∀ k, k < vs.length → (rnL τ vs).getD k .junk = rnV τ (vs.getD k .junk) := fun k hk => rnL_getD hk
    refine ⟨es, ck, ks, h1, h2, fun k hk => by rw [rnL_length]; exact h3 k hk, h4, ?_, fun k hk hn => ?_⟩
    · refine RepL.of_get (by have := h5.length; simpa using this) fun j x hx => ?_
      rw [List.getElem?_map] at hx
      cases hj : ks[j]? with
      | none => rw [hj] at hx; cases hx
      | some k =>
        rw [hj] at hx; simp only [Option.map_some, Option.some.injEq] at hx; subst hx
        obtain ⟨y, hy, hr⟩ := h5.get (j := j) (x := vs.getD k .junk) (by rw [List.getElem?_map, hj]; rfl)
        rw [hg k (h3 k (List.mem_of_getElem? hj))]
        exact ⟨y, hy, rnV_ok hτ hr⟩
    · rw [rnL_length] at hk
      rw [hg k hk]; exact rnV_ok hτ (h6 k hk hn)
theorem rnB_own {τ : Nat → Nat} {b : AB1 U} : (rnB τ b).own = b.own := by
  cases b <;> first | rfl | (simp only [rnB]; split <;> rfl)
theorem rnB_phys {τ : Nat → Nat} {b : AB1 U} {p : Place} : (rnB τ b).phys p ↔ b.phys p := by
  cases b with
  | row c l t => simp only [rnB]; split <;> exact Iff.rfl
  | ro c l =>
    simp only [rnB]
    split
    · exact Iff.rfl
    · show _ ≠ [] ∧ _ ≠ 0 ↔ _
      rw [U.rclmap, U.rcsz]
      exact ⟨fun h => ⟨fun e => h.1 (by rw [e]; rfl), h.2⟩, fun h => ⟨fun e => h.1 (List.map_eq_nil_iff.1 e), h.2⟩⟩
  | _ => exact Iff.rfl

def rnR (τ : Nat → Nat) (r : ORes U) : ORes U := ⟨rnV τ r.val, r.upd.map fun (id, k, b) => (τ id, k, rnB τ b), r.kill.map fun (id, k) => (τ id, k), r.new.map (rnB τ)⟩

def tauN (σ : Nat → Nat) (N base i : Nat) : Nat :=
  match Nat.blt i N with
  | true => σ i
  | false => match Nat.ble noId i with
    | true => i
    | false => base + (i - N)

def callA (args AL : List AV) (H HL : Heap U) (base : Nat) (R : OOut U) (K : OOut U → Prop) : Prop :=
  let l0 := mtL 0 args AL []
  let l := mtH 0 H HL 40 l0 l0
  let σ := lookN l
  let N := HL.length
  isB (nodupB (liveL σ 0 HL)) (leL H σ N args AL ∧ leHs σ N H 0 HL ∧ match R with
    | .val r => isB ((r.new.all rnBok && r.upd.all fun (_, _, b) => rnBok b) && Nat.blt (N + r.new.length) noId) (K (.val (rnR (tauN σ N base) r)))
    | .panic x => isB x.fixed (K (.panic x)))

theorem lift_ok {P : Program} {f : FuncId} {AL args : List AV} {HL H : Heap U} {base : Nat} {R : OOut U} {K : OOut U → Prop} (hF : FunOk P f AL HL R) (h : callA args AL H HL base R K) : ∃ r, K r ∧ CallOk P f args H base r := by
  unfold callA at h
  simp only at h
  generalize lookN (mtH 0 H HL 40 _ _) = σ at h
  obtain ⟨hn, hA, hH, h⟩ := isB_ok h
  have fresh : ∀ π : Plc, Fresh (π.ren σ HL.length) HL.length := fun π id k hi => by unfold Plc.ren; rw [if_neg (by omega)]
  cases R with
  | panic x =>
    obtain ⟨hfx, h⟩ := isB_ok h
    refine ⟨_, h, fun π w vs hc hv => (hF _ w vs (fresh π) (hc.ren hH hn) (leL_ok hc hA hv)).mono ?_⟩
    rintro e w' ⟨y, rfl, hr, hk⟩
    exact ⟨y, rfl, hr.fixed hfx, hk⟩
  | val r =>
    obtain ⟨hfx, h⟩ := isB_ok h
    rw [Bool.and_eq_true, Bool.and_eq_true, List.all_eq_true, List.all_eq_true] at hfx
    obtain ⟨⟨hfn, hfu⟩, hsm⟩ := hfx
    have hsm' : HL.length + r.new.length < noId := by simpa using hsm
    refine ⟨_, h, fun π w vs hc hv hfresh => (hF _ w vs (fresh π) (hc.ren hH hn) (leL_ok hc hA hv)).mono ?_⟩
    rintro e w' ⟨v, πn, rfl, hp⟩
    have hlen : (rnR (tauN σ HL.length base) r).new.length = r.new.length := by simp [rnR]
    rw [hlen] at hfresh
    generalize hN : HL.length = N at *
    let π' : Plc := fun id k => if base ≤ id ∧ id < base + r.new.length then πn (N + (id - base)) k else π id k
    have hin : ∀ j k, j < r.new.length → π' (base + j) k = πn (N + j) k := fun j k hj => by
      show (if _ then _ else _) = _
      rw [if_pos (by omega), Nat.add_sub_cancel_left]
    have hout : ∀ id k, (id < base ∨ base + r.new.length ≤ id) → π' id k = π id k := fun id k hj => by
      show (if _ then _ else _) = _
      rw [if_neg (by omega)]
    have hold : ∀ id k p, π id k = some p → π' id k = some p := fun id k p hpp => by
      rw [hout id k ?_]; exact hpp
      apply Classical.byContradiction
      intro hh
      have := hfresh (id - base) k (by omega)
      rw [show base + (id - base) = id by omega, hpp] at this; cases this
    have hren : ∀ id k p, (π.ren σ N) id k = some p → id < N ∧ π (σ id) k = some p := fun id k p hpp => by
      unfold Plc.ren at hpp
      split at hpp
      · rename_i hlt; exact ⟨hlt, hpp⟩
      · cases hpp
    have hlow : ∀ id, id < N → tauN σ N base id = σ id := fun id hi => by
      unfold tauN
      have : Nat.blt id N = true := by simpa using hi
      rw [this]
    have hhigh : ∀ j, N + j < noId → tauN σ N base (N + j) = base + j := fun j hjn => by
      unfold tauN
      have : Nat.blt (N + j) N = false := by
        cases hb : Nat.blt (N + j) N with
        | false => rfl
        | true => rw [Nat.blt_eq] at hb; omega
      have h2 : Nat.ble noId (N + j) = false := by
        cases hb : Nat.ble noId (N + j) with
        | false => rfl
        | true => have := Nat.le_of_ble_eq_true hb; omega
      rw [this]; simp [h2]
    have hτ : ∀ id k p, πn id k = some p → π' (tauN σ N base id) k = some p := by
      intro id k p hpp
      rcases Nat.lt_or_ge id N with hi | hi
      · rw [hp.only id k (.inl hi)] at hpp
        rw [hlow id hi]; exact hold _ _ _ (hren id k p hpp).2
      · rcases Nat.lt_or_ge id (N + r.new.length) with h2 | h2
        · have := hhigh (id - N) (by omega)
          rw [show N + (id - N) = id by omega] at this
          rw [this, hin _ _ (by omega), show N + (id - N) = id by omega]; exact hpp
        · rw [hp.only id k (.inr h2), fresh π id k (by omega)] at hpp; cases hpp
    have arg : ∀ id k b0, HL.at id k = some b0 → id < N ∧ ∃ b1, H.at (σ id) k = some b1 ∧ (b0.own = true → b1.own = true) ∧ ∀ p, π (σ id) k = some p → (b0.phys p → b1.phys p) := by
      intro id k b0 hb0
      have hlt := (at_lt hb0).1
      rw [hN] at hlt
      obtain ⟨b1, hb1, hh⟩ := leBk_at hH hb0
      obtain ⟨p, hp1, hok⟩ := hc.ok _ _ _ hb1
      refine ⟨hlt, b1, hb1, (hh π w p hc hok).2.1, fun p' hp' => ?_⟩
      rw [hp1] at hp'; cases hp'
      exact (hh π w p hc hok).2.2
    refine ⟨v, π', rfl, rnV_ok hτ hp.rep, hold, fun id k hi => hout id k (by rw [hlen] at hi; exact hi), fun j b hb => ?_, fun i j b b' p p' hb hb' hne hpp hpp' h1 h2 => ?_, fun id k b hb => ?_, fun id k hb => ?_, ?_⟩
    · simp only [rnR, List.getElem?_map, Option.map_eq_some_iff] at hb
      obtain ⟨b0, hb0, rfl⟩ := hb
      have hj : j < r.new.length := (List.getElem?_eq_some_iff.1 hb0).1
      obtain ⟨ho, p, hpp, hok, hph⟩ := hp.new j b0 hb0
      refine ⟨by rw [rnB_own]; exact ho, p, by rw [hin j 0 hj]; exact hpp, rnB_ok hτ (hfn b0 (List.mem_of_getElem? hb0)) hok, fun h => ?_⟩
      rcases hph (rnB_phys.1 h) with h | ⟨id, k, b2, q, hm, hb2, ho2, hq, hqp, e⟩
      · exact .inl h
      · obtain ⟨hlt, b1, hb1, hown, hphys⟩ := arg id k b2 hb2
        have hq' := (hren _ _ _ hq).2
        exact .inr ⟨σ id, k, b1, q, List.mem_map.2 ⟨(id, k), hm, by simp only [hlow id hlt]⟩, hb1, hown ho2, hq', hphys q hq' hqp, e⟩
    · simp only [rnR, List.getElem?_map, Option.map_eq_some_iff] at hb hb'
      obtain ⟨b0, hb0, rfl⟩ := hb
      obtain ⟨b0', hb0', rfl⟩ := hb'
      rw [hin i 0 (List.getElem?_eq_some_iff.1 hb0).1] at hpp
      rw [hin j 0 (List.getElem?_eq_some_iff.1 hb0').1] at hpp'
      exact hp.newsep i j b0 b0' p p' hb0 hb0' hne hpp hpp' (rnB_phys.1 h1) (rnB_phys.1 h2)
    · obtain ⟨⟨id0, k0, b0⟩, hm, e⟩ := List.mem_map.1 hb
      simp only [Prod.mk.injEq] at e
      obtain ⟨rfl, rfl, rfl⟩ := e
      obtain ⟨b2, p, hb2, ho2, ho, hpp, hok, hph⟩ := hp.upd _ _ _ hm
      obtain ⟨hlt, b1, hb1, hown, hphys⟩ := arg id0 k0 b2 hb2
      have hq' := (hren _ _ _ hpp).2
      rw [hlow id0 hlt]
      exact ⟨b1, p, hb1, hown ho2, by rw [rnB_own]; exact ho, hq', rnB_ok hτ (hfu _ hm) hok, fun h => hphys p hq' (hph (rnB_phys.1 h))⟩
    · obtain ⟨⟨id0, k0⟩, hm, e⟩ := List.mem_map.1 hb
      simp only [Prod.mk.injEq] at e
      obtain ⟨rfl, rfl⟩ := e
      obtain ⟨b2, hb2, ho2⟩ := hp.kill _ _ hm
      obtain ⟨hlt, b1, hb1, hown, _⟩ := arg id0 k0 b2 hb2
      rw [hlow id0 hlt]
      exact ⟨b1, hb1, hown ho2⟩
    · refine hp.keeps.weaken fun n _ ⟨id, k, p, b0, hm, hb0, hph, hpp, e⟩ => ?_
      obtain ⟨hlt, b1, hb1, _, hphys⟩ := arg id k b0 hb0
      have hq' := (hren _ _ _ hpp).2
      refine ⟨σ id, k, p, b1, ?_, hb1, hphys p hq' hph, hq', e⟩
      rcases hm with ⟨b, hm⟩ | hm
      · exact .inl ⟨rnB (tauN σ N base) b, List.mem_map.2 ⟨_, hm, by simp only [hlow id hlt]⟩⟩
      · exact .inr (List.mem_map.2 ⟨_, hm, by simp only [hlow id hlt]⟩)

mutual
def dgV (gh : List Nat) : AV → AV
  | .sl id k off len => match memN id gh with
    | true => match len with
      | 0 => .sl noId 0 0 0
      | _ + 1 => .junk
    | false => .sl id k off len
  | .gs id k => match memN id gh with
    | true => .junk
    | false => .gs id k
  | .ptr id k i fo => match memN id gh with
    | true => .junk
    | false => .ptr id k i fo
  | .map id k => match memN id gh with
    | true => .junk
    | false => .map id k
  | .fn f xs ys => .fn f (dgL gh xs) (dgL gh ys)
  | .ifc t x => .ifc t (dgV gh x)
  | .agg xs => .agg (dgL gh xs)
  | .tup xs => .tup (dgL gh xs)
  | .alt c a b => .alt c (dgV gh a) (dgV gh b)
  | .junk => .junk
  | .tt => .tt
  | .ff => .ff
  | .v x => .v x
def dgL (gh : List Nat) : List AV → List AV
  | [] => []
  | x :: xs => dgV gh x :: dgL gh xs
end
mutual
theorem dg_rep {gh : List Nat} {π π2 : Plc} (h : ∀ id k, id ∉ gh → π2 id k = π id k) : ∀ {a : AV} {y : Value}, Rep π a y → Rep π2 (dgV gh a) y
  | .junk, _, _ => by simp [Rep, dgV]
  | .tt, y, e => by simpa [Rep, dgV] using e
  | .ff, y, e => by simpa [Rep, dgV] using e
  | .v x, y, e => by simpa [Rep, dgV] using e
  | .gs id k, y, e => by
    simp only [dgV]
    split
    · simp [Rep]
    · rename_i hm; simp only [Rep] at e ⊢; rw [h id k (memN_false hm)]; exact e
  | .sl id k off len, y, e => by
    simp only [dgV]
    split
    · split
      · simp only [Rep] at e ⊢
        obtain ⟨a, c, e, hl, _⟩ := e
        exact ⟨a, c, e, hl, fun hh => absurd hh (Nat.lt_irrefl _)⟩
      · simp [Rep]
    · rename_i hm; simp only [Rep] at e ⊢; rw [h id k (memN_false hm)]; exact e
  | .ptr id k i fo, y, e => by
    simp only [dgV]
    split
    · simp [Rep]
    · rename_i hm; simp only [Rep] at e ⊢; rw [h id k (memN_false hm)]; exact e
  | .map id k, y, e => by
    simp only [dgV]
    split
    · simp [Rep]
    · rename_i hm; simp only [Rep] at e ⊢; rw [h id k (memN_false hm)]; exact e
  | .fn f xs ys, y, e => by
    simp only [dgV, Rep] at e ⊢; obtain ⟨a, b, e, h1, h2⟩ := e
    exact ⟨a, b, e, dg_repL h h1, dg_repL h h2⟩
  | .ifc t x, y, e => by
    simp only [dgV, Rep] at e ⊢; obtain ⟨z, e, h1⟩ := e; exact ⟨z, e, dg_rep h h1⟩
  | .agg xs, y, e => by
    simp only [dgV, Rep] at e ⊢; obtain ⟨a, e, h1⟩ := e; exact ⟨a, e, dg_repL h h1⟩
  | .tup xs, y, e => by
    simp only [dgV, Rep] at e ⊢; obtain ⟨a, e, h1⟩ := e; exact ⟨a, e, dg_repL h h1⟩
  | .alt c a b, y, e => by
    simp only [dgV, Rep] at e ⊢; exact ⟨fun hc => dg_rep h (e.1 hc), fun hc => dg_rep h (e.2 hc)⟩
theorem dg_repL {gh : List Nat} {π π2 : Plc} (h : ∀ id k, id ∉ gh → π2 id k = π id k) : ∀ {xs : List AV} {ys : List Value}, RepL π xs ys → RepL π2 (dgL gh xs) ys
  | [], ys, e => by simpa [RepL, dgL] using e
  | x :: xs, ys, e => by
    simp only [dgL, RepL] at e ⊢; obtain ⟨z, zs, e, h1, h2⟩ := e
    exact ⟨z, zs, e, dg_rep h h1, dg_repL h h2⟩
end
theorem dgL_length (gh : List Nat) : ∀ (xs : List AV), (dgL gh xs).length = xs.length
  | [] => rfl
  | x :: xs => by simp [dgL, dgL_length gh xs]
theorem dgL_getD {gh : List Nat} : ∀ {xs : List AV} {k : Nat}, k < xs.length → (dgL gh xs).getD k .junk = dgV gh (xs.getD k .junk)
  | [], _, h => by simp at h
  | x :: xs, 0, _ => by simp [dgL]
  | x :: xs, k + 1, h => by simpa [dgL] using dgL_getD (xs := xs) (k := k) (by simpa using h)
def dgB (gh : List Nat) : AB1 U → AB1 U
  | .cells vs t => .cells (dgL gh vs) t
  | .rc vs t => .rc (dgL gh vs) t
  | .mrow o vs => .mrow o (dgL gh vs)
  | .row c l t => .row c l t
  | .ro c l => .ro c l
  | .map m l => .map m l
theorem dgB_own {gh : List Nat} {b : AB1 U} : (dgB gh b).own = b.own := by cases b <;> rfl
theorem dgB_phys {gh : List Nat} {b : AB1 U} {p : Place} : (dgB gh b).phys p ↔ b.phys p := by cases b <;> exact Iff.rfl
theorem dgB_ok {gh : List Nat} {π π2 : Plc} (h : ∀ id k, id ∉ gh → π2 id k = π id k) {b : AB1 U} (hf : dgBok b = true) {w : World} {p : Place} (hb : BlkOk π w p b) : BlkOk π2 w p (dgB gh b) := by
  cases b with
  | cells vs t => obtain ⟨h0, cs, h1, h2⟩ := hb; exact ⟨h0, cs, h1, dg_repL h h2⟩
  | rc vs t => obtain ⟨h0, cs, h1, h2⟩ := hb; exact ⟨h0, cs, h1, dg_repL h h2⟩
  | row c l t => exact fixB_ok (b := .row c l t) hf hb
  | ro c l => exact fixB_ok (b := .ro c l) hf hb
  | map m l => exact fixB_ok (b := .map m l) hf hb
  | mrow o vs =>
    obtain ⟨es, ck, ks, h1, h2, h3, h4, h5, h6⟩ := hb
    refine ⟨es, ck, ks, h1, h2, fun k hk => by rw [dgL_length]; exact h3 k hk, h4, ?_, fun k hk hn => ?_⟩
    · refine RepL.of_get (by have := h5.length; simpa using this) fun j x hx => ?_
      rw [List.getElem?_map] at hx
      cases hj : ks[j]? with
      | none => rw [hj] at hx; cases hx
      | some k =>
        rw [hj] at hx; simp only [Option.map_some, Option.some.injEq] at hx; subst hx
        obtain ⟨y, hy, hr⟩ := h5.get (j := j) (x := vs.getD k .junk) (by rw [List.getElem?_map, hj]; rfl)
        rw [dgL_getD (h3 k (List.mem_of_getElem? hj))]
        exact ⟨y, hy, dg_rep h hr⟩
    · rw [dgL_length] at hk
      rw [dgL_getD hk]; exact dg_rep h (h6 k hk hn)
def dgR (gh : List Nat) (r : ORes U) : ORes U := ⟨dgV gh r.val, r.upd.map fun (id, k, b) => (id, k, dgB gh b), r.kill, r.new.map (dgB gh)⟩
def roAll (HL : Heap U) : List Nat → Bool
  | [] => true
  | id :: l => (match nth HL id with
    | some (.one (.ro ..)) => true
    | _ => false) && roAll HL l
theorem roAll_ok {HL : Heap U} : ∀ {l : List Nat}, roAll HL l = true → ∀ id ∈ l, ∀ k b, HL.at id k = some b → b.own = false
  | [], _, id, h, _, _, _ => by cases h
  | x :: l, h, id, hm, k, b, hb => by
    simp only [roAll, Bool.and_eq_true] at h
    rcases List.mem_cons.1 hm with rfl | hm
    · have h1 := h.1
      split at h1
      · rename_i c l' hid
        rw [nth_eq] at hid
        unfold Heap.at at hb; rw [hid] at hb
        simp only at hb
        split at hb
        · cases hb; rfl
        · cases hb
      · cases h1
    · exact roAll_ok h.2 id hm k b hb

theorem FunOk.nil {P : Program} {f : FuncId} {AL : List AV} {HL : Heap U} {r : ORes U} {gh : List Nat} (hA : nlOkL gh AL) (hH : nlOkH gh 0 HL) (hro : roAll HL gh = true) (hge : geL 0 HL.length gh = true) (hb : (r.new.all dgBok && r.upd.all fun (_, _, b) => dgBok b) = true)
    (h : FunOk P f AL HL (.val r)) : FunOk P f (nlL gh AL) (nlH gh 0 HL) (.val (dgR gh r)) := by
  intro π w vs hf hc hv
  rw [nlH_length] at hf
  rw [Bool.and_eq_true, List.all_eq_true, List.all_eq_true] at hb
  obtain ⟨hbn, hbu⟩ := hb
  have hN := Plc.nilAt π gh HL
  have hlow : ∀ id, id ∈ gh → id < HL.length := fun id hm => (geL_ok hge id hm).2
  have hf2 : Fresh (π.nil gh HL) HL.length := fun id k hi => by
    rw [hN.out id k (fun hm => by have := hlow id hm; omega)]; exact hf id k hi
  refine (h (π.nil gh HL) w vs hf2 (hc.nil hH) (nl_repL hN hA hv)).mono ?_
  rintro e w' ⟨v, πn, rfl, hp⟩
  let π' : Plc := fun id k => if id ∈ gh then π id k else πn id k
  have hin : ∀ id k, id ∈ gh → π' id k = π id k := fun id k hm => by show (if _ then _ else _) = _; rw [if_pos hm]
  have hout : ∀ id k, id ∉ gh → π' id k = πn id k := fun id k hm => by show (if _ then _ else _) = _; rw [if_neg hm]
  have hlen : (dgR gh r).new.length = r.new.length := by simp [dgR]
  have hnew : ∀ j, HL.length + j ∉ gh := fun j hm => by have := hlow _ hm; omega
  have hroo := roAll_ok hro
  have arg : ∀ id k b0, HL.at id k = some b0 → b0.own = true → id ∉ gh ∧ ∃ b1, (nlH gh 0 HL).at id k = some b1 ∧ b1.own = true ∧ (∀ p, b1.phys p ↔ b0.phys p) ∧ ∀ p, (π.nil gh HL) id k = some p → π id k = some p := by
    intro id k b0 hb0 ho
    have hni : id ∉ gh := fun hm => by rw [hroo id hm k b0 hb0] at ho; cases ho
    obtain ⟨b1, hb1, hown, hph, _⟩ := nlA_at hH hb0 hni
    exact ⟨hni, b1, hb1, by rw [hown]; exact ho, hph, fun p hpp => by rw [hN.out id k hni] at hpp; exact hpp⟩
  refine ⟨v, π', rfl, dg_rep hout hp.rep, fun id k p hpp => ?_, fun id k hi => ?_, fun j b hb => ?_, fun i j b b' p p' hb hb' hne hpp hpp' h1 h2 => ?_, fun id k b hb => ?_, fun id k hb => ?_, ?_⟩
  · by_cases hm : id ∈ gh
    · rw [hin id k hm]; exact hpp
    · rw [hout id k hm]; exact hp.sub _ _ _ (by rw [hN.out id k hm]; exact hpp)
  · rw [nlH_length, hlen] at hi
    by_cases hm : id ∈ gh
    · exact hin id k hm
    · rw [hout id k hm, hp.only id k hi, hN.out id k hm]
  · simp only [dgR, List.getElem?_map, Option.map_eq_some_iff] at hb
    obtain ⟨b0, hb0, rfl⟩ := hb
    obtain ⟨ho, p, hpp, hok, hph⟩ := hp.new j b0 hb0
    rw [nlH_length]
    refine ⟨by rw [dgB_own]; exact ho, p, by rw [hout _ _ (hnew j)]; exact hpp, dgB_ok hout (hbn b0 (List.mem_of_getElem? hb0)) hok, fun h => ?_⟩
    rcases hph (dgB_phys.1 h) with h | ⟨id, k, b2, q, hm, hb2, ho2, hq, hqp, e⟩
    · exact .inl h
    · obtain ⟨_, b1, hb1, hown, hphys, hpl⟩ := arg id k b2 hb2 ho2
      exact .inr ⟨id, k, b1, q, hm, hb1, hown, hpl q hq, (hphys q).2 hqp, e⟩
  · simp only [dgR, List.getElem?_map, Option.map_eq_some_iff] at hb hb'
    obtain ⟨b0, hb0, rfl⟩ := hb
    obtain ⟨b0', hb0', rfl⟩ := hb'
    rw [nlH_length] at hpp hpp'
    rw [hout _ _ (hnew i)] at hpp
    rw [hout _ _ (hnew j)] at hpp'
    exact hp.newsep i j b0 b0' p p' hb0 hb0' hne hpp hpp' (dgB_phys.1 h1) (dgB_phys.1 h2)
  · obtain ⟨⟨id0, k0, b0⟩, hm, e⟩ := List.mem_map.1 hb
    simp only [Prod.mk.injEq] at e
    obtain ⟨rfl, rfl, rfl⟩ := e
    obtain ⟨b2, p, hb2, ho2, ho, hpp, hok, hph⟩ := hp.upd _ _ _ hm
    obtain ⟨_, b1, hb1, hown, hphys, hpl⟩ := arg id0 k0 b2 hb2 ho2
    exact ⟨b1, p, hb1, hown, by rw [dgB_own]; exact ho, hpl p hpp, dgB_ok hout (hbu _ hm) hok, fun h => (hphys p).2 (hph (dgB_phys.1 h))⟩
  · obtain ⟨b2, hb2, ho2⟩ := hp.kill id k hb
    obtain ⟨_, b1, hb1, hown, _, _⟩ := arg id k b2 hb2 ho2
    exact ⟨b1, hb1, hown⟩
  · refine hp.keeps.weaken fun n _ ⟨id, k, p, b0, hm, hb0, hph, hpp, e⟩ => ?_
    have ho : b0.own = true := by
      rcases hm with ⟨b, hm⟩ | hm
      · obtain ⟨b2, _, hb2, ho2, _⟩ := hp.upd _ _ _ hm
        rw [hb0] at hb2; cases hb2; exact ho2
      · obtain ⟨b2, hb2, ho2⟩ := hp.kill _ _ hm
        rw [hb0] at hb2; cases hb2; exact ho2
    obtain ⟨_, b1, hb1, _, hphys, hpl⟩ := arg id k b0 hb0 ho
    refine ⟨id, k, p, b1, ?_, hb1, (hphys p).2 hph, hpl p hpp, e⟩
    rcases hm with ⟨b, hm⟩ | hm
    · exact .inl ⟨dgB gh b, List.mem_map.2 ⟨_, hm, rfl⟩⟩
    · exact .inr hm

def callN (args AL : List AV) (H HL : Heap U) (base : Nat) (R : OOut U) (K : OOut U → Prop) : Prop :=
  let l0 := mtL 0 args AL []
  let l := mtH 0 H HL 40 l0 l0
  match ghP 0 H HL l (ghL 0 args AL []) with
  | [] => callA args AL H HL base R K
  | gh => match R with
    | .val r => isB (roAll HL gh && geL 0 HL.length gh && (r.new.all dgBok && r.upd.all fun (_, _, b) => dgBok b)) (nlOkL gh AL ∧ nlOkH gh 0 HL ∧ callA args (nlL gh AL) H (nlH gh 0 HL) base (.val (dgR gh r)) K)
    | .panic x => isB x.fixed (nlOkL gh AL ∧ nlOkH gh 0 HL ∧ geL 0 HL.length gh = true ∧ callA args (nlL gh AL) H (nlH gh 0 HL) base (.panic x) K)

theorem FunOk.nilP {P : Program} {f : FuncId} {AL : List AV} {HL : Heap U} {x : AV} {gh : List Nat} (hA : nlOkL gh AL) (hH : nlOkH gh 0 HL) (hge : geL 0 HL.length gh = true) (hx : x.fixed = true)
    (h : FunOk P f AL HL (.panic x)) : FunOk P f (nlL gh AL) (nlH gh 0 HL) (.panic x) := by
  intro π w vs hf hc hv
  rw [nlH_length] at hf
  have hN := Plc.nilAt π gh HL
  have hf2 : Fresh (π.nil gh HL) HL.length := fun id k hi => by
    rw [hN.out id k (fun hm => by have := geL_ok hge id hm; omega)]; exact hf id k hi
  refine (h (π.nil gh HL) w vs hf2 (hc.nil hH) (nl_repL hN hA hv)).mono ?_
  rintro e w' ⟨y, rfl, hr, hk⟩
  exact ⟨y, rfl, hr.fixed hx, hk⟩

theorem liftN_ok {P : Program} {f : FuncId} {AL args : List AV} {HL H : Heap U} {base : Nat} {R : OOut U} {K : OOut U → Prop} (hF : FunOk P f AL HL R) (h : callN args AL H HL base R K) : ∃ r, K r ∧ CallOk P f args H base r := by
  unfold callN at h
  simp only at h
  split at h
  · exact lift_ok hF h
  · generalize ghP 0 H HL _ _ = gh at h
    cases R with
    | val r =>
      obtain ⟨hb, hA, hH, h⟩ := isB_ok h
      rw [Bool.and_eq_true, Bool.and_eq_true] at hb
      exact lift_ok (FunOk.nil hA hH hb.1.1 hb.1.2 hb.2 hF) h
    | panic x =>
      obtain ⟨hb, hA, hH, hge, h⟩ := isB_ok h
      exact lift_ok (FunOk.nilP hA hH hge hb hF) h

structure FSpec (U : Uni) where
  X : Type
  pick : List AV → Heap U → Option X
  args : X → List AV
  H : X → Heap U
  R : X → OOut U
  pre : X → Prop := fun _ => True

def FSpec.con (s : FSpec U) : Con U := fun args H base K =>
  match s.pick args H with
  | some x => s.pre x ∧ callN args (s.args x) H (s.H x) base (s.R x) K
  | none => False

theorem FSpec.sound {P : Program} {f : FuncId} (s : FSpec U) (he : ∀ args w, (callFunc f args).run P w = .ok (.enter f args) w) (h : ∀ x, s.pre x → FunOk P f (s.args x) (s.H x) (s.R x)) : Sound P f s.con where
  enters := he
  ok := fun args H base K hk => by
    unfold FSpec.con at hk
    split at hk
    · rename_i x _; exact liftN_ok (h x hk.1) hk.2
    · exact hk.elim

def asRow (c : U.C) : AB1 U → Option (List (U.ty c))
  | .row c' l _ => match U.deq c' c with
    | .isTrue h => some (h ▸ l)
    | .isFalse _ => none
  | .ro c' l => match U.deq c' c with
    | .isTrue h => some (h ▸ l)
    | .isFalse _ => none
  | _ => none
def blkAt (H : Heap U) (id k : Nat) : Option (AB1 U) :=
  match nth H id with
  | some (.one b) => match k with
    | 0 => some b
    | _ + 1 => none
  | some (.fam _ f) => some (f k)
  | _ => none
def rowAt (c : U.C) (H : Heap U) (id k : Nat) : Option (List (U.ty c)) :=
  match blkAt H id k with
  | some b => asRow c b
  | none => none
def avInt : AV → Option Int
  | .v (.int _ n) => some n
  | _ => none
def avBool : AV → Option Bool
  | .tt => some true
  | .ff => some false
  | .v (.bool b) => some b
  | _ => none
end AE

namespace AE
open Go

variable {U : Uni}

theorem bodyOf_eq {fn : Func} (hb : fn.body.isSome = true) : fn.body = some (bodyOf fn) := by
  obtain ⟨c, hc⟩ := Option.isSome_iff_exists.1 hb
  unfold bodyOf; rw [hc]

theorem fun_ofG {P : Program} {T : Tab U} (hm : P.follows .mixedOrders = true) (hT : T.Sound P) {tl : Nat → Option FuncId} (htl : ∀ k f, tl k = some f → ToldOk P k f) {it : Nat → Option (ItW U)} (hIt : ∀ k i, it k = some i → ItOk P i) {f : FuncId} {fn : Func} (hf : P.funcs[f]? = some fn) (hb : fn.body.isSome = true) {AL : List AV} (hal : Nat.ble AL.length fn.ntmps = true) {HL : Heap U} {R : OOut U}
    {L : Nat → Option (LRule U)} {hs : Nat → List Nat} {sp : Nat → Option (Nat × Nat)} (h : wpA { P := P, T := T, nt := fn.ntmps } { it := it, m := HL.length, L := L, hs := hs, sp := sp } (bodyOf fn) (frameOf 0 AL) [] HL (endG P T tl fn HL R)) : FunOk P f AL HL R :=
  fun_okG (E := { P := P, T := T, nt := fn.ntmps }) hm hT htl hf (bodyOf_eq hb) rfl hal (C := { it := it, m := HL.length, L := L, hs := hs, sp := sp }) hIt rfl rfl (fun _ _ _ hh => hh) (fun _ _ _ _ h => h) h

def endE (P : Program) (T : Tab U) (tl : Nat → Option FuncId) (fn : Func) (HL : Heap U) (c : Bool) (R R' : OOut U) (e : Ex) (fr : Fr) (df : Df) (H : Heap U) : Prop :=
  match e with
  | .pan x => c = false ∧ endG P T tl fn HL R' (.pan x) fr df H
  | .nrm => c = true ∧ endG P T tl fn HL R .nrm fr df H
  | .ret => c = true ∧ endG P T tl fn HL R .ret fr df H
  | _ => False
theorem fun_ofE {P : Program} {T : Tab U} (hm : P.follows .mixedOrders = true) (hT : T.Sound P) {tl : Nat → Option FuncId} (htl : ∀ k f, tl k = some f → ToldOk P k f) {it : Nat → Option (ItW U)} (hIt : ∀ k i, it k = some i → ItOk P i) {f : FuncId} {fn : Func} (hf : P.funcs[f]? = some fn) (hb : fn.body.isSome = true) {AL : List AV} (hal : Nat.ble AL.length fn.ntmps = true) {HL : Heap U} {c : Bool} {R R' : OOut U}
    {L : Nat → Option (LRule U)} {hs : Nat → List Nat} {sp : Nat → Option (Nat × Nat)} (h : wpA { P := P, T := T, nt := fn.ntmps } { it := it, m := HL.length, L := L, hs := hs, sp := sp } (bodyOf fn) (frameOf 0 AL) [] HL (endE P T tl fn HL c R R')) : (c = true → FunOk P f AL HL R) ∧ (c = false → FunOk P f AL HL R') := by
  refine ⟨fun hc => ?_, fun hc => ?_⟩
  · refine fun_okG (E := { P := P, T := T, nt := fn.ntmps }) hm hT htl hf (bodyOf_eq hb) rfl hal (C := { it := it, m := HL.length, L := L, hs := hs, sp := sp }) hIt rfl rfl (fun _ _ _ hh => hh) (fun e fr df H hk => ?_) h
    cases e with
    | pan x => have := hk.1; rw [hc] at this; cases this
    | nrm => exact hk.2
    | ret => exact hk.2
    | exit i => exact hk.elim
    | goto i => exact hk.elim
  · refine fun_okG (E := { P := P, T := T, nt := fn.ntmps }) hm hT htl hf (bodyOf_eq hb) rfl hal (C := { it := it, m := HL.length, L := L, hs := hs, sp := sp }) hIt rfl rfl (fun _ _ _ hh => hh) (fun e fr df H hk => ?_) h
    cases e with
    | pan x => exact hk.2
    | nrm => have := hk.1; rw [hc] at this; cases this
    | ret => have := hk.1; rw [hc] at this; cases this
    | exit i => exact hk.elim
    | goto i => exact hk.elim

theorem fun_of {P : Program} {T : Tab U} (hm : P.follows .mixedOrders = true) (hT : T.Sound P) {f : FuncId} {fn : Func} (hf : P.funcs[f]? = some fn) (hb : fn.body.isSome = true) {AL : List AV} (hal : Nat.ble AL.length fn.ntmps = true) {HL : Heap U} {R : OOut U}
    {L : Nat → Option (LRule U)} {hs : Nat → List Nat} (h : wpA { P := P, T := T, nt := fn.ntmps } { m := HL.length, L := L, hs := hs } (bodyOf fn) (frameOf 0 AL) [] HL (endG P T (fun _ => none) fn HL R)) : FunOk P f AL HL R :=
  fun_ofG (sp := fun _ => none) hm hT (fun _ _ h => by cases h) (fun _ _ h => by cases h) hf hb hal h

theorem enter_of {P : Program} {f : FuncId} {fn : Func} (hf : P.funcs[f]? = some fn) (hname : (fn.name == "runtime.NumGoroutine") = false) (hb : fn.body.isSome = true) (args : Array Value) (w : World) :
    (callFunc f args).run P w = .ok (.enter f args) w := by
  have h1 : fn.name ≠ "runtime.NumGoroutine" := by simpa using hname
  obtain ⟨c, hc⟩ := Option.isSome_iff_exists.1 hb
  simp [callFunc, hf, h1, hc]

theorem Tab.Sound.nil {P : Program} : Tab.Sound P ([] : Tab U) := trivial
theorem Tab.Sound.cons {P : Program} {f : FuncId} {c : Con U} {T : Tab U} (h : AE.Sound P f c) (hT : T.Sound P) : Tab.Sound P ((f, c) :: T) := ⟨h, hT⟩
end AE

namespace AE
open Go

variable {U : Uni}

structure FSpec2 (U : Uni) where
  X : Type
  pick : List AV → Heap U → Option X
  args : X → List AV
  H : X → Heap U
  c : X → Bool
  R : X → OOut U
  R' : X → OOut U
  pre : X → Prop := fun _ => True

def FSpec2.con (s : FSpec2 U) : Con U := fun args H base K =>
  match s.pick args H with
  | some x => s.pre x ∧ (s.c x = true → callN args (s.args x) H (s.H x) base (s.R x) K) ∧ (s.c x = false → callN args (s.args x) H (s.H x) base (s.R' x) K)
  | none => False

theorem FSpec2.sound {P : Program} {f : FuncId} (s : FSpec2 U) (he : ∀ args w, (callFunc f args).run P w = .ok (.enter f args) w)
    (h : ∀ x, s.pre x → (s.c x = true → FunOk P f (s.args x) (s.H x) (s.R x)) ∧ (s.c x = false → FunOk P f (s.args x) (s.H x) (s.R' x))) : Sound P f s.con where
  enters := he
  ok := fun args H base K hk => by
    unfold FSpec2.con at hk
    split at hk
    · rename_i x _
      cases hc : s.c x with
      | true => exact liftN_ok ((h x hk.1).1 hc) (hk.2.1 hc)
      | false => exact liftN_ok ((h x hk.1).2 hc) (hk.2.2 hc)
    · exact hk.elim
end AE

namespace AE
open Go

variable {U : Uni}

structure TdW (U : Uni) where
  run : AV → List AV → Heap U → (Heap U → Prop) → Prop
def TdOk (P : Program) (k : FuncId) (d : TdW U) : Prop :=
  (∀ args w, (callFunc k args).run P w = .ok (.enter k args) w) ∧
  ∀ (x : AV) (cs : List AV) (H : Heap U) (K : Heap U → Prop), d.run x cs H K →
    ∀ (n : Nat) (π : Plc) (w : World) (y : Value) (cvs : List Value) (u : FrameMode) (hf : Fresh π H.length), Conc π H w → Rep π x y → RepL π cs cvs → ((u = .returning ∧ y = .nilIface) ∨ u = .panicking [{ v := y, recovered := false }]) →
      CallsDIn (Fw none) n P k cvs.toArray u w (fun e u' w' => (∃ v, e = .returned v) ∧ settle u' = .returning ∧ ∃ fr2 H2 π2 a2 nt, K H2 ∧ St (Base.of π H w nt hf) fr2 [] H2 π2 w' a2)
def tdEnd (K : Heap U → Prop) (e : Ex) (_ : Fr) (df : Df) (H : Heap U) : Prop :=
  match e with
  | .nrm => sameDf df [] ∧ K H
  | .ret => sameDf df [] ∧ K H
  | _ => False
def tdOf (P : Program) (T : Tab U) (fn : Func) (c : Code) (t : Nat) : TdW U where
  run := fun x cs H K => match cs with
    | [cv] => wpA { P := P, T := T, nt := fn.ntmps } { m := H.length, L := fun _ => none, hs := fun _ => [], sp := fun _ => none } c [(t, x), (0, cv)] [] H (tdEnd K)
    | _ => False
theorem tdOf_ok {P : Program} {T : Tab U} (hm : P.follows .mixedOrders = true) (hT : T.Sound P) {k : FuncId} {fn : Func} {id : Nat} {o : Oper} {c : Code} {t : Nat} (hf : P.funcs[k]? = some fn) (he : ∀ args w, (callFunc k args).run P w = .ok (.enter k args) w)
    (hb : fn.body = some (.seq (.region id #[o] false) c)) (hr : fn.results = #[]) {ts : Array TypeId} (h1 : o.op = .call { callee := .builtin .recover, args := #[], argTypes := ts }) (hg : o.guard = none) (hd : o.dst = some t) (ht : t ≠ 0) (htn : Nat.blt t fn.ntmps = true) : TdOk P k (tdOf (U := U) P T fn c t) := by
  have htn' : t < fn.ntmps := by simpa using htn
  refine ⟨he, fun x cs1 H K hrun n π w y cvs u hfr hc hx hcvs hu => ?_⟩
  simp only [tdOf] at hrun
  split at hrun
  case h_2 => exact hrun.elim
  rename_i cx
  simp only [RepL] at hcvs
  obtain ⟨cv, zs, rfl, hcv, rfl⟩ := hcvs
  refine callsDIn_of_wpSIn hf hb trivial fun c₀ cs hcm => ?_
  have hrec : ∀ a : Act, (execOp a.eval o).run P w = .ok .recover w := by
    intro a
    simp [execOp, h1, resolve, invoke, builtin]
  obtain ⟨u', hset, hxx⟩ : ∃ u', settle u' = .returning ∧ (match recoverD (c₀ :: cs) with | some (v, cs') => v = y ∧ cs' = { c₀ with mode := u' } :: cs | none => y = .nilIface ∧ c₀ = { c₀ with mode := u' }) := by
    rcases hu with ⟨rfl, rfl⟩ | rfl
    · exact ⟨.returning, rfl, by simp [recoverD, hcm]; cases c₀; simp_all⟩
    · exact ⟨.panicking [{ v := y, recovered := true }], by simp [settle], by simp [recoverD, hcm]⟩
  let a0 : Act := { tmps := #[cv] ++ Array.replicate (fn.ntmps - (#[cv] : Array Value).size) undef, defers := [] }
  have key : ∀ cs', cs' = { c₀ with mode := u' } :: cs → c.wpSIn (Fw none) n P (bodyPostS P fn c₀ cs (fun e u' w' => (∃ v, e = .returned v) ∧ settle u' = .returning ∧ ∃ fr2 H2 π2 a2 nt, K H2 ∧ St (Base.of π H w nt hfr) fr2 [] H2 π2 w' a2)) (a0.put o.dst y) cs' w := by
    intro cs' hcs'
    have hsz : a0.tmps.size = fn.ntmps := by
      show (#[cv] ++ Array.replicate (fn.ntmps - (#[cv] : Array Value).size) undef : Array Value).size = _
      simp only [Array.size_append, List.size_toArray, List.length_singleton, Array.size_replicate]; omega
    have hS0 : St (Base.of π H w fn.ntmps hfr) [(0, cx)] [] H π w a0 := by
      refine ⟨fun s => ?_, hc, hfr, fun _ _ _ => rfl, Keeps.refl _ _, fun _ h => .inl h, hsz, trivial, rfl, Nat.le_refl _⟩
      rw [Fr.get_cons]
      split
      · rename_i e
        subst e
        have : a0.tmps.getD 0 undef = cv := by
          show (#[cv] ++ Array.replicate (fn.ntmps - (#[cv] : Array Value).size) undef : Array Value).getD 0 undef = cv
          rw [Array.getD_eq_getD_getElem?, Array.getElem?_append_left (by simp)]; rfl
        rw [this]; exact hcv
      · simp [Fr.get, Rep]
    have hS1 : St (Base.of π H w fn.ntmps hfr) [(t, x), (0, cx)] [] H π w (a0.put o.dst y) := by
      refine ⟨?_, hc, hfr, fun _ _ _ => rfl, Keeps.refl _ _, fun _ h => .inl h, by rw [Act.put_size]; exact hsz, trivial, by rw [Act.put_defers']; rfl, Nat.le_refl _⟩
      have := hS0.fr.putO (dst := some t) (v := y) (x := x) hx (by unfold dstOk; rw [hsz]; simpa using htn')
      rw [hd]; exact this
    refine wpSIn_of_wpIn rfl (Go.wpIn_mono (wpA_ok (E := { P := P, T := T, nt := fn.ntmps }) hm hT (B := Base.of π H w fn.ntmps hfr) rfl (C := { m := H.length, L := fun _ => none, hs := fun _ => [], sp := fun _ => none }) (fun _ _ h => by cases h) rfl (rd := none) (fun _ => rfl) (n := n) (fun a H K hh => hh.elim) c _ _ _ _ hrun π w _ hS1) fun e a' w' q => ?_)
    have hrun2 : ∀ tmps, (results fn tmps).run P w' = .ok (.tuple #[]) w' := by
      intro tmps
      simp [results, hr]
    cases e with
    | normal =>
      obtain ⟨fr2, df2, H2, π2, hk2, hs2⟩ := q
      obtain ⟨hdf, hk2⟩ := hk2
      cases sameDf_ok hdf
      exact ⟨hs2.df, u', hcs', _, hrun2 _, ⟨_, rfl⟩, hset, fr2, H2, π2, a', _, hk2, hs2⟩
    | ret =>
      obtain ⟨fr2, df2, H2, π2, hk2, hs2⟩ := q
      obtain ⟨hdf, hk2⟩ := hk2
      cases sameDf_ok hdf
      exact ⟨hs2.df, u', hcs', _, hrun2 _, ⟨_, rfl⟩, hset, fr2, H2, π2, a', _, hk2, hs2⟩
    | exit i => obtain ⟨_, _, _, _, hk, _⟩ := q; exact hk.elim
    | goto i => obtain ⟨_, _, _, _, hk, _⟩ := q; exact hk.elim
    | panic ch => obtain ⟨_, _, _, _, _, _, _, hk, _⟩ := q; exact hk.elim
    | outgrown => exact q.elim
  refine wpSIn_seq (wpSIn_region ?_)
  have hl : List.range (#[o] : Array Oper).size = [0] := rfl
  rw [hl, wpOpsSIn]
  have ho : (#[o] : Array Oper)[0]? = some o := rfl
  have hw : Region.wanted o (yielded #[o] a0.tmps) = true := by simp [Region.wanted, hg]
  simp only [ho]
  refine ⟨fun _ _ => trivial, ?_⟩
  rw [if_pos hw]
  simp only [hrec]
  cases hrd : recoverD (c₀ :: cs) with
  | none =>
    rw [hrd] at hxx
    obtain ⟨hx1, hx2⟩ := hxx
    subst hx1
    exact key _ (by rw [← hx2])
  | some p =>
    obtain ⟨v, cs'⟩ := p
    rw [hrd] at hxx
    simp only at hxx ⊢
    obtain ⟨hx1, hx2⟩ := hxx
    subst hx1
    exact key _ hx2

def tdEndN (K : Heap U → Prop) (e : Ex) (_ : Fr) (df : Df) (H : Heap U) : Prop :=
  match e with
  | .nrm => sameDf df [] ∧ K H
  | _ => False
def tdOf2 (P : Program) (T : Tab U) (fn : Func) (c : Code) (f : FuncId) : TdW U where
  run := fun x cs H K => match cs with
    | [c1, c2] => match T.look f with
      | some con => con [x, c1] H H.length fun
        | .val r => wpA { P := P, T := T, nt := fn.ntmps } { m := H.length, L := fun _ => none, hs := fun _ => [], sp := fun _ => none } c (Fr.put [(0, c1), (1, c2)] (some 3) r.val) [] (H.app r) (tdEndN K)
        | .panic _ => False
      | none => False
    | _ => False
theorem callsDIn_of {n : Nat} {P : Program} {k : FuncId} {fn : Func} {c : Code} {args : Array Value} {u : FrameMode} {w : World} {R : Ending → FrameMode → World → Prop} (hf : P.funcs[k]? = some fn) (hb : fn.body = some c)
    (h : ∀ (c₀ : Frame) (cs : List Frame), c₀.mode = u →
      c.wpS P (bodyPostS P fn c₀ cs fun e u' w' => (∃ v, e = .returned v) ∧ R e u' w') { tmps := args ++ Array.replicate (fn.ntmps - args.size) undef, defers := [] } (c₀ :: cs) w) :
    CallsDIn (Fw none) n P k args u w fun e u' w' => (∃ v, e = .returned v) ∧ R e u' w' := by
  refine ⟨trivial, fun c₀ cs hc _ => ?_⟩
  let b : Frame := { (default : Frame) with fn := k, kind := .deferred }
  have henter : Frame.enter P k args .deferred = b.at { tmps := args ++ Array.replicate (fn.ntmps - args.size) undef, defers := [] } [.code c] := by
    simp [Frame.enter, Frame.at, hf, hb, b]
  obtain ⟨e, a', cs', w', hq, harr⟩ := h c₀ cs hc b [] rfl rfl
  rw [← henter] at harr
  cases e with
  | normal =>
    obtain ⟨hd, u', rfl, v, hr, hR⟩ := hq
    exact ⟨.returned v, u', w', _, hR, comesIn_wide.2 (Steps.trans harr (.one step_end)), rfl, rfl, rfl, hd, fn, hf, hr⟩
  | ret =>
    obtain ⟨hd, u', rfl, v, hr, hR⟩ := hq
    obtain ⟨todo, hs⟩ := harr
    exact ⟨.returned v, u', w', _, hR, comesIn_wide.2 hs, rfl, rfl, rfl, hd, fn, hf, hr⟩
  | panic ch => obtain ⟨_, _, _, ⟨v, hv⟩, _⟩ := hq; cases hv
  | outgrown => obtain ⟨_, ⟨v, hv⟩, _⟩ := hq; cases hv
  | exit i => exact hq.elim
  | goto i => exact hq.elim
theorem tdOf2_ok {P : Program} {T : Tab U} (hm : P.follows .mixedOrders = true) (hT : T.Sound P) {k f : FuncId} {fn : Func} {id : Nat} {o1 o2 : Oper} {c : Code} (hf : P.funcs[k]? = some fn) (he : ∀ args w, (callFunc k args).run P w = .ok (.enter k args) w)
    (hb : fn.body = some (.seq (.region id #[o1, o2] false) c)) (hr : fn.results = #[]) (hnt : fn.ntmps = 6) {ts1 ts2 : Array TypeId} (h1 : o1.op = .call { callee := .builtin .recover, args := #[], argTypes := ts1 }) (hg1 : o1.guard = none) (hd1 : o1.dst = some 2)
    (h2 : o2.op = .call { callee := .value (.func f), args := #[.tmp 2, .tmp 0], argTypes := ts2 }) (hg2 : o2.guard = none) (hd2 : o2.dst = some 3) : TdOk P k (tdOf2 (U := U) P T fn c f) := by
  refine ⟨he, fun x cs1 H K hrun n π w y cvs u hfr hc hx hcvs hu => ?_⟩
  simp only [tdOf2] at hrun
  split at hrun
  case h_2 => exact hrun.elim
  rename_i x1 x2
  simp only [RepL] at hcvs
  obtain ⟨c1, zs, rfl, hc1, c2, zs2, rfl, hc2, rfl⟩ := hcvs
  split at hrun
  case h_2 => exact hrun.elim
  rename_i con hcon
  have hsound := hT.get hcon
  obtain ⟨r, hr1, hcall⟩ := hsound.ok _ _ _ _ hrun
  cases r with
  | panic _ => exact hr1.elim
  | val r =>
  have hcall' := hcall π w [y, c1] hc (RepL.cons hx (RepL.cons hc1 (RepL.nil π))) fun j k _ => hfr _ _ (by omega)
  refine callsDIn_of hf hb fun c₀ cs hcm => ?_
  have hrec : ∀ a : Act, (execOp a.eval o1).run P w = .ok .recover w := by
    intro a
    simp [execOp, h1, resolve, invoke, builtin]
  have hcallrun : ∀ (a : Act) (w : World), (execOp a.eval o2).run P w = .ok (.enter f #[a.eval (.tmp 2), a.eval (.tmp 0)]) w := by
    intro a w
    have h0 : a.eval (.func f) = .func (.func f) #[] #[] := rfl
    simp [execOp, h2, resolve, invoke, Deferred.ofValue, h0, hsound.enters]
  obtain ⟨u', hset, hxx⟩ : ∃ u', settle u' = .returning ∧ (match recoverD (c₀ :: cs) with | some (v, cs') => v = y ∧ cs' = { c₀ with mode := u' } :: cs | none => y = .nilIface ∧ c₀ = { c₀ with mode := u' }) := by
    rcases hu with ⟨rfl, rfl⟩ | rfl
    · exact ⟨.returning, rfl, by simp [recoverD, hcm]; cases c₀; simp_all⟩
    · exact ⟨.panicking [{ v := y, recovered := true }], by simp [settle], by simp [recoverD, hcm]⟩
  have e0 : (#[c1, c2] ++ Array.replicate (fn.ntmps - (#[c1, c2] : Array Value).size) undef : Array Value) = #[c1, c2, undef, undef, undef, undef] := by rw [hnt]; rfl
  have hw1 : ∀ tmps, Region.wanted o1 (yielded #[o1, o2] tmps) = true := fun _ => by simp [Region.wanted, hg1]
  have hw2 : ∀ tmps, Region.wanted o2 (yielded #[o1, o2] tmps) = true := fun _ => by simp [Region.wanted, hg2]
  refine wpS_seq (wpS_region ?_)
  have hl : List.range (#[o1, o2] : Array Oper).size = [0, 1] := rfl
  rw [hl]
  have e0' : ((([c1, c2] : List Value).toArray) ++ Array.replicate (fn.ntmps - (([c1, c2] : List Value).toArray).size) undef : Array Value) = #[c1, c2, undef, undef, undef, undef] := e0
  rw [e0']
  let a1 : Act := { tmps := #[c1, c2, y, undef, undef, undef], defers := [] }
  let Q := Exit.thenS (c.wpS P (bodyPostS P fn c₀ cs (fun e u' w' => (∃ v, e = .returned v) ∧ settle u' = .returning ∧ ∃ fr2 H2 π2 a2 nt, K H2 ∧ St (Base.of π H w nt hfr) fr2 [] H2 π2 w' a2))) (bodyPostS P fn c₀ cs (fun e u' w' => (∃ v, e = .returned v) ∧ settle u' = .returning ∧ ∃ fr2 H2 π2 a2 nt, K H2 ∧ St (Base.of π H w nt hfr) fr2 [] H2 π2 w' a2))
  have key : ∀ cs', cs' = { c₀ with mode := u' } :: cs → wpOpsS P #[o1, o2] Q [1] a1 cs' w := by
    intro cs' hcs'
    simp only [wpOpsS]
    have ho : (#[o1, o2] : Array Oper)[1]? = some o2 := rfl
    simp only [ho, hw2, if_true, hcallrun]
    have ev : (#[a1.eval (.tmp 2), a1.eval (.tmp 0)] : Array Value) = #[y, c1] := rfl
    rw [ev]
    show Oper.upon _ _ _ _ _ _
    rw [Oper.upon_enter]
    refine hcall'.mono fun e w' h => ?_
    obtain ⟨v, πn, he', hp⟩ := h
    subst he'
    have hS0 : St (Base.of π H w fn.ntmps hfr) [(0, x1), (1, x2)] [] H π w a1 := by
      refine ⟨fun s => ?_, hc, hfr, fun _ _ _ => rfl, Keeps.refl _ _, fun _ h => .inl h, by rw [hnt]; rfl, trivial, rfl, Nat.le_refl _⟩
      rw [Fr.get_cons]
      split
      · rename_i e; subst e; exact hc1
      · rw [Fr.get_cons]
        split
        · rename_i e; subst e; exact hc2
        · simp [Fr.get, Rep]
    have hS2 := hS0.step (Step.post (dst := o2.dst) hS0.conc hS0.fr hS0.fresh hp (by rw [hd2]; rfl))
    rw [hd2] at hS2 ⊢
    show c.wpS P _ _ _ _
    refine wpS_of_wp (wpIn_wide.1 (Go.wpIn_mono (wpA_ok (E := { P := P, T := T, nt := fn.ntmps }) hm hT (B := Base.of π H w fn.ntmps hfr) rfl (C := { m := H.length, L := fun _ => none, hs := fun _ => [], sp := fun _ => none }) (fun _ _ h => by cases h) rfl (rd := none) (fun _ => rfl) (n := 0) (fun a H K hh => hh.elim) c _ _ _ _ hr1 πn w' _ hS2) fun e a' w2 q => ?_))
    cases e with
    | normal =>
      obtain ⟨fr2, df2, H2, π2, hk2, hs2⟩ := q
      obtain ⟨hdf, hk2⟩ := hk2
      cases sameDf_ok hdf
      exact ⟨hs2.df, u', hcs', .tuple #[], by simp [results, hr], ⟨_, rfl⟩, hset, fr2, H2, π2, a', _, hk2, hs2⟩
    | ret => obtain ⟨_, _, _, _, hk, _⟩ := q; exact hk.elim
    | exit i => obtain ⟨_, _, _, _, hk, _⟩ := q; exact hk.elim
    | goto i => obtain ⟨_, _, _, _, hk, _⟩ := q; exact hk.elim
    | panic ch => obtain ⟨_, _, _, _, _, _, _, hk, _⟩ := q; exact hk.elim
    | outgrown => exact q.elim
  rw [wpOpsS]
  have ho : (#[o1, o2] : Array Oper)[0]? = some o1 := rfl
  have ea : (({ tmps := #[c1, c2, undef, undef, undef, undef], defers := [] } : Act).put o1.dst y) = a1 := by rw [hd1]; rfl
  simp only [ho, hw1, if_true, hrec]
  cases hrd : recoverD (c₀ :: cs) with
  | none =>
    rw [hrd] at hxx
    simp only
    obtain ⟨hx1, hx2⟩ := hxx
    subst hx1
    rw [ea]
    exact key _ (by rw [← hx2])
  | some p =>
    obtain ⟨v, cs'⟩ := p
    rw [hrd] at hxx
    simp only at hxx ⊢
    obtain ⟨hx1, hx2⟩ := hxx
    subst hx1
    rw [ea]
    exact key _ hx2

def tdHit (td : Nat → Option (TdW U)) (df : Df) : Option (TdW U × List AV) :=
  match df with
  | [.call (.func k) caps xs] => match td k with
    | some d => some (d, xs ++ caps)
    | none => none
  | _ => none
theorem tdHit_ok {td : Nat → Option (TdW U)} {df : Df} {d : TdW U} {cs : List AV} (h : tdHit td df = some (d, cs)) : ∃ k caps xs, df = [.call (.func k) caps xs] ∧ td k = some d ∧ cs = xs ++ caps := by
  unfold tdHit at h
  split at h
  · rename_i k caps xs
    split at h
    · rename_i d' hd
      cases h
      exact ⟨k, caps, xs, rfl, hd, rfl⟩
    · cases h
  · cases h
def endT (P : Program) (T : Tab U) (tl : Nat → Option FuncId) (td : Nat → Option (TdW U)) (fn : Func) (HL : Heap U) (R : OOut U) (e : Ex) (fr : Fr) (df : Df) (H : Heap U) : Prop :=
  match tdHit td (stripM df) with
  | some (d, c) => match e with
    | .nrm => d.run (.v .nilIface) c H fun H2 => endA0 P fn HL R .ret fr H2
    | .ret => d.run (.v .nilIface) c H fun H2 => endA0 P fn HL R .ret fr H2
    | .pan x => d.run x c H fun H2 => endA0 P fn HL R .ret fr H2
    | _ => False
  | none => endG P T tl fn HL R e fr df H

theorem fun_okT {E : Env U} (hm : E.P.follows .mixedOrders = true) (hT : E.T.Sound E.P) {tl : Nat → Option FuncId} (htl : ∀ k f, tl k = some f → ToldOk E.P k f) {td : Nat → Option (TdW U)} (htd : ∀ k d, td k = some d → TdOk E.P k d) {f : FuncId} {fn : Func} {c : Code} (hf : E.P.funcs[f]? = some fn) (hb : fn.body = some c) (hnt : E.nt = fn.ntmps) {AL : List AV} (hal : Nat.ble AL.length fn.ntmps = true) {HL : Heap U} {R : OOut U} {C : Cfg U}
    (hIt : ∀ k it, C.it k = some it → ItOk E.P it) (hCm : C.m = HL.length) (hr : C.rnd = false) (hEY : ∀ a H K, ¬ E.Y a H K)
    {K : Ex → Fr → Df → Heap U → Prop} (hK : ∀ e fr df H, K e fr df H → endT E.P E.T tl td fn HL R e fr df H) (h : wpA E C c (frameOf 0 AL) [] HL K) : FunOk E.P f AL HL R := by
  have hal' : AL.length ≤ fn.ntmps := by simpa using hal
  have start : ∀ (π : Plc) (w : World) (vs : List Value) (hfr : Fresh π HL.length), Conc π HL w → RepL π AL vs →
      St (Base.of π HL w E.nt hfr) (frameOf 0 AL) [] HL π w { tmps := vs.toArray ++ Array.replicate (fn.ntmps - vs.toArray.size) undef, defers := [] } := by
    intro π w vs hfr hc hv
    have hl := hv.length
    refine ⟨frameOf_ok fun j x hx => ?_, hc, hfr, fun _ _ _ => rfl, Keeps.refl _ _, fun _ h => .inl h, ?_, trivial, rfl, Nat.le_refl _⟩
    · obtain ⟨y, hy, hr⟩ := hv.get hx
      have hj : j < vs.length := (List.getElem?_eq_some_iff.1 hy).1
      have : (vs.toArray ++ Array.replicate (fn.ntmps - vs.toArray.size) undef).getD (0 + j) undef = y := by
        rw [Nat.zero_add, Array.getD_eq_getD_getElem?, Array.getElem?_append_left (by simpa using hj)]
        simp [hy]
      rw [this]; exact hr
    · simp only [Array.size_append, List.size_toArray, Array.size_replicate]
      rw [hnt]; omega
  have main : ∀ (RR : Ending → World → Prop) (π : Plc) (w : World) (vs : List Value) (hfr : Fresh π HL.length), Conc π HL w → RepL π AL vs →
      (∀ e fr H π' w' (a' : Act), (e = .nrm ∨ e = .ret) → endA0 E.P fn HL R e fr H → St (Base.of π HL w E.nt hfr) fr [] H π' w' a' → ∃ v, (results fn a'.tmps).run E.P w' = .ok v w' ∧ RR (.returned v) w') →
      (∀ x y fr H π' w' (a' : Act), endA0 E.P fn HL R (.pan x) fr H → Rep π' x y → St (Base.of π HL w E.nt hfr) fr [] H π' w' a' → RR (.panicked [{ v := y, recovered := false }]) w') →
      Calls E.P f vs.toArray w RR := by
    intro RR π w vs hfr hc hv kret kpan
    have tail : ∀ (e : Ex) (x : AV) (y : Value) (u : FrameMode) fr df H π' w' (a' : Act), ((e = .nrm ∨ e = .ret) ∧ u = .returning ∧ x = .v .nilIface ∧ y = .nilIface ∨ e = .pan x ∧ u = .panicking [{ v := y, recovered := false }]) → Rep π' x y → endT E.P E.T tl td fn HL R e fr df H →
        St (Base.of π HL w E.nt hfr) fr (stripM df) H π' w' a' → LeavesInM (Fw none) 0 E.P fn a'.tmps RR a'.defers u w' := by
      intro e x y u fr df H π' w' a' he hxy hk hS
      unfold endT at hk
      split at hk
      · rename_i d c hit
        obtain ⟨k, caps, xs, hdf, htd', rfl⟩ := tdHit_ok hit
        rw [hdf] at hS
        obtain ⟨cap, args, ds', hds, hcap, hargs, hrest⟩ := hS.df
        have hds' : ds' = [] := hrest
        subst hds'
        have hcr := RepL.append hargs hcap
        have hca : args ++ cap = (args.toList ++ cap.toList).toArray := by simp
        have htok := htd k d htd'
        have hrun : d.run x (xs ++ caps) H (fun H2 => endA0 E.P fn HL R .ret fr H2) := by
          rcases he with ⟨he, _, rfl, _⟩ | ⟨rfl, _⟩
          · rcases he with rfl | rfl <;> exact hk
          · exact hk
        have hnr : u ≠ .run := by rcases he with ⟨_, rfl, _⟩ | ⟨_, rfl⟩ <;> simp
        rw [hds]
        have hu : (u = .returning ∧ y = .nilIface) ∨ u = .panicking [{ v := y, recovered := false }] := by
          rcases he with ⟨_, h1, _, h2⟩ | ⟨_, h⟩
          · exact .inl ⟨h1, h2⟩
          · exact .inr h
        refine ⟨hnr, .inr ⟨fun hh => by simp [Fw, Fence.wide] at hh, _, _, k, (args.toList ++ cap.toList).toArray, rfl, ?_, fun _ _ => trivial, ?_⟩⟩
        · show (callFunc k (args ++ cap)).run E.P w' = _
          rw [hca]
          exact htok.1 _ _
        · refine (htok.2 x (xs ++ caps) H _ hrun (0 - 1) π' w' y _ u hS.fresh hS.conc hxy hcr hu).mono fun e u' w2 h2 => ?_
          obtain ⟨⟨v, rfl⟩, hset, fr2, H2, π2, a2, nt2, hk2, hs2⟩ := h2
          simp only [hset]
          have hS0 : St (Base.of π HL w E.nt hfr) fr [] H π' w' { a' with defers := [] } := ⟨hS.fr, hS.conc, hS.fresh, hS.only, hS.keeps, hS.own, hS.nt, trivial, rfl, hS.len⟩
          have hStep : Step π' H w' { a' with defers := [] } fr H2 π2 w2 { a' with defers := [] } :=
            { fr := hS.fr.mono hs2.sub, conc := hs2.conc, fresh := hs2.fresh, sub := hs2.sub, only := hs2.only, keeps := hs2.keeps.weaken fun n _ h => h.resolve_right (fun h => h), own := hs2.own, nt := rfl, defers := rfl, len := hs2.len }
          have hS2 := hS0.step hStep
          obtain ⟨v3, hv1, hv2⟩ := kret .ret fr H2 π2 w2 _ (.inr rfl) hk2 hS2
          exact ⟨v3, hv1, hv2⟩
      unfold endG at hk
      split at hk
      · rename_i hdf
        rw [hdf] at hS
        have hd : a'.defers = [] := hS.df
        rw [hd]
        rcases he with ⟨he, rfl, _⟩ | ⟨rfl, rfl⟩
        · obtain ⟨v, hv1, hv2⟩ := kret e fr H π' w' a' he hk hS
          exact ⟨v, hv1, hv2⟩
        · exact kpan x y fr H π' w' a' hk hxy hS
      · rename_i k c hdf
        rw [hdf] at hS
        split at hk
        case h_2 => exact hk.elim
        rename_i g htg
        split at hk
        case h_2 => exact hk.elim
        rename_i con hcon
        obtain ⟨cap, args, ds', hds, hcap, hargs, hrest⟩ := hS.df
        have hds' : ds' = [] := hrest
        subst hds'
        have hargs' : args = #[] := by apply Array.toList_inj.1; simpa [RepL] using hargs
        subst hargs'
        simp only [RepL] at hcap
        obtain ⟨cv, zs, hcl, hcr, hz⟩ := hcap
        subst hz
        have hcap' : cap = #[cv] := by apply Array.toList_inj.1; rw [hcl]
        subst hcap'
        have hsound := hT.get hcon
        have htold := htl k g htg
        have hcon' : con [x, c] H H.length fun
          | .val r => worked (fun _ fr _ H => endA0 E.P fn HL R .ret fr H) .ret fr [] (H.app r)
          | .panic _ => False := by
          rcases he with ⟨he, _, rfl, _⟩ | ⟨rfl, _⟩
          · rcases he with rfl | rfl <;> exact hk
          · exact hk
        obtain ⟨r, hr1, hcall⟩ := hsound.ok _ _ _ _ hcon'
        cases r with
        | panic _ => exact hr1.elim
        | val r =>
          have hcall' := hcall π' w' [y, cv] hS.conc (RepL.cons hxy (RepL.cons hcr (RepL.nil π'))) fun j k _ => hS.fresh _ _ (by omega)
          have hnr : u ≠ .run := by rcases he with ⟨_, rfl, _⟩ | ⟨_, rfl⟩ <;> simp
          rw [hds]
          have hu : (u = .returning ∧ y = .nilIface) ∨ u = .panicking [{ v := y, recovered := false }] := by
            rcases he with ⟨_, h1, _, h2⟩ | ⟨_, h⟩
            · exact .inl ⟨h1, h2⟩
            · exact .inr h
          refine ⟨hnr, .inr ⟨fun hh => by simp [Fw, Fence.wide] at hh, _, _, k, #[cv], rfl, ?_, fun _ _ => trivial, ?_⟩⟩
          · show (callFunc k (#[] ++ #[cv])).run E.P w' = _
            rw [show (#[] ++ #[cv] : Array Value) = #[cv] by simp]
            exact htold.1 _ _
          · refine (htold.2 (0 - 1) y cv u w' (fun w2 => ∃ v πn, Post H H.length r π' πn w' w2 v) hu (hcall'.mono fun e w2 h2 => ?_)).mono fun e u' w2 h2 => ?_
            · obtain ⟨v, πn, he', hp⟩ := h2; exact ⟨v, he', v, πn, hp⟩
            · obtain ⟨⟨v, rfl⟩, hset, v', πn, hp⟩ := h2
              simp only [hset]
              have hS0 : St (Base.of π HL w E.nt hfr) fr [] H π' w' { a' with defers := [] } := ⟨hS.fr, hS.conc, hS.fresh, hS.only, hS.keeps, hS.own, hS.nt, trivial, rfl, hS.len⟩
              have hS2 := hS0.step (Step.post (dst := none) hS.conc hS.fr hS.fresh hp rfl)
              obtain ⟨v3, hv1, hv2⟩ := kret .ret fr (H.app r) πn w2 _ (.inr rfl) (worked_ok hr1) hS2
              exact ⟨v3, hv1, hv2⟩
      · exact hk.elim
    have noExit : ∀ (e : Ex) fr df H, (∃ i, e = .exit i ∨ e = .goto i) → ¬ endT E.P E.T tl td fn HL R e fr df H := by
      intro e fr df H he hk
      unfold endT at hk
      split at hk
      · obtain ⟨i, rfl | rfl⟩ := he <;> exact hk
      unfold endG at hk
      split at hk
      · obtain ⟨i, rfl | rfl⟩ := he <;> exact hk
      · split at hk
        · split at hk
          · obtain ⟨i, rfl | rfl⟩ := he <;> exact hk
          · exact hk
        · exact hk
      · exact hk
    refine callsIn_wide.1 (callsIn_of_wp_marks (n := 0) hf hb trivial (Go.wpIn_mono (wpA_ok hm hT (B := Base.of π HL w E.nt hfr) rfl hIt hCm (rd := none) (fun _ => rfl) (n := 0) (fun a H K hh => (hEY a H K hh).elim) c _ _ _ _ h π w _ (start π w vs hfr hc hv)) fun e a w' q => ?_))
    replace q := QOf.mono hK e a w' q
    cases e with
    | normal =>
      obtain ⟨fr, df, H, π', hk, hS⟩ := q
      exact leaves_marks (by simp) df w' a rfl hS fun w2 a2 ht hS2 => by rw [← ht]; exact tail .nrm (.v .nilIface) .nilIface .returning fr df H π' w2 a2 (.inl ⟨.inl rfl, rfl, rfl, rfl⟩) (by simp [Rep]) hk hS2
    | ret =>
      obtain ⟨fr, df, H, π', hk, hS⟩ := q
      exact leaves_marks (by simp) df w' a rfl hS fun w2 a2 ht hS2 => by rw [← ht]; exact tail .ret (.v .nilIface) .nilIface .returning fr df H π' w2 a2 (.inl ⟨.inr rfl, rfl, rfl, rfl⟩) (by simp [Rep]) hk hS2
    | panic ch =>
      obtain ⟨x, y, fr, df, H, π', rfl, hk, hxy, hS⟩ := q
      exact leaves_marks (by simp) df w' a rfl hS fun w2 a2 ht hS2 => by rw [← ht]; exact tail (.pan x) x y _ fr df H π' w2 a2 (.inr ⟨rfl, rfl⟩) hxy hk hS2
    | exit i => obtain ⟨fr, df, H, π', hk, hS⟩ := q; exact (noExit _ _ _ _ ⟨i, .inl rfl⟩ hk).elim
    | goto i => obtain ⟨fr, df, H, π', hk, hS⟩ := q; exact (noExit _ _ _ _ ⟨i, .inr rfl⟩ hk).elim
    | outgrown => exact q.elim
  cases R with
  | val r =>
    intro π w vs hfr hc hv
    refine main _ π w vs hfr hc hv (fun e fr H π' w' a' he hk hS => ?_) (fun x y fr H π' w' a' hk _ _ => hk.elim)
    have hk' : ownCov (r.upd.map (·.1) ++ r.kill.map (·.1)) 0 HL ∧ isB (okR HL r) (resA E.P fn.results.toList fr H fun vs => weakN HL.length [(0, tupOf vs)] [] H [(0, r.val)] (HL.app r)) := by
      rcases he with rfl | rfl <;> exact hk
    obtain ⟨hcov, hk⟩ := hk'
    obtain ⟨hok, hk⟩ := isB_ok hk
    obtain ⟨xs, hw, hres⟩ := results_ok hk
    obtain ⟨v, hrun, hrep⟩ := hres π' w' a'.tmps hS.conc hS.fr
    have hS0 : St (Base.of π HL w 1 hfr) [(0, tupOf xs)] [] H π' w' { tmps := #[v], defers := [] } := by
      refine ⟨fun t => ?_, hS.conc, hS.fresh, hS.only, hS.keeps, hS.own, rfl, trivial, rfl, hS.len⟩
      rw [Fr.get_cons]
      split
      · rename_i e; subst e; exact hrep
      · simp [Fr.get, Rep]
    obtain ⟨πn, hSn⟩ := weakN_ok hw hS0
    exact ⟨v, hrun, v, πn, rfl, post_of hfr hc hcov hok hSn rfl⟩
  | panic x =>
    intro π w vs hfr hc hv
    refine main _ π w vs hfr hc hv (fun e fr H π' w' a' he hk _ => by rcases he with rfl | rfl <;> exact hk.elim) (fun x' y fr H π' w' a' hk hr hS => ?_)
    obtain ⟨hcov, hk⟩ := hk
    obtain ⟨hfx, hk⟩ := isB_ok hk
    refine ⟨y, rfl, (leV_ok hS.conc hk hr).fixed hfx, hS.keeps.weaken fun n hn hh => ?_⟩
    obtain ⟨id, k, b0, p, hb0, ho, _⟩ := hh.resolve_right (fun h => h)
    have := (ownCov_get hcov hb0 ho).1
    cases this

theorem fun_ofT {P : Program} {T : Tab U} (hm : P.follows .mixedOrders = true) (hT : T.Sound P) {td : Nat → Option (TdW U)} (htd : ∀ k d, td k = some d → TdOk P k d) {it : Nat → Option (ItW U)} (hIt : ∀ k i, it k = some i → ItOk P i) {f : FuncId} {fn : Func} (hf : P.funcs[f]? = some fn) (hb : fn.body.isSome = true) {AL : List AV} (hal : Nat.ble AL.length fn.ntmps = true) {HL : Heap U} {R : OOut U}
    {L : Nat → Option (LRule U)} {hs : Nat → List Nat} {sp : Nat → Option (Nat × Nat)} (h : wpA { P := P, T := T, nt := fn.ntmps } { it := it, m := HL.length, L := L, hs := hs, sp := sp } (bodyOf fn) (frameOf 0 AL) [] HL (endT P T (fun _ => none) td fn HL R)) : FunOk P f AL HL R :=
  fun_okT (E := { P := P, T := T, nt := fn.ntmps }) hm hT (fun _ _ h => by cases h) htd hf (bodyOf_eq hb) rfl hal (C := { it := it, m := HL.length, L := L, hs := hs, sp := sp }) hIt rfl rfl (fun _ _ _ hh => hh) (fun _ _ _ _ h => h) h
end AE
namespace AE
open Go
variable {U : Uni}
theorem fun_of2 {P : Program} {T : Tab U} (hm : P.follows .mixedOrders = true) (hT : T.Sound P) {td : Nat → Option (TdW U)} (htd : ∀ k d, td k = some d → TdOk P k d) {it : Nat → Option (ItW U)} (hIt : ∀ k i, it k = some i → ItOk P i) {f : FuncId} {fn : Func} (hf : P.funcs[f]? = some fn) (hb : fn.body.isSome = true) {AL : List AV} (hal : Nat.ble AL.length fn.ntmps = true) {HL : Heap U} {c : Bool} {R R' : OOut U}
    {L : Nat → Option (LRule U)} {hs : Nat → List Nat} {sp : Nat → Option (Nat × Nat)} (h : wpA { P := P, T := T, nt := fn.ntmps } { it := it, m := HL.length, L := L, hs := hs, sp := sp } (bodyOf fn) (frameOf 0 AL) [] HL (fun e fr df H => (c = true → endT P T (fun _ => none) td fn HL R e fr df H) ∧ (c = false → endT P T (fun _ => none) td fn HL R' e fr df H))) : (c = true → FunOk P f AL HL R) ∧ (c = false → FunOk P f AL HL R') :=
  ⟨fun hc => fun_okT (E := { P := P, T := T, nt := fn.ntmps }) hm hT (fun _ _ h => by cases h) htd hf (bodyOf_eq hb) rfl hal (C := { it := it, m := HL.length, L := L, hs := hs, sp := sp }) hIt rfl rfl (fun _ _ _ hh => hh) (fun _ _ _ _ h => h.1 hc) h,
   fun hc => fun_okT (E := { P := P, T := T, nt := fn.ntmps }) hm hT (fun _ _ h => by cases h) htd hf (bodyOf_eq hb) rfl hal (C := { it := it, m := HL.length, L := L, hs := hs, sp := sp }) hIt rfl rfl (fun _ _ _ hh => hh) (fun _ _ _ _ h => h.2 hc) h⟩
end AE

namespace AE.Soil
open Go AE

abbrev Span := Int × Int
abbrev Mix3 := Span × Span × Span
abbrev PitT := Int × Span × Span × Span × Span
abbrev StepT := Int × Int × Int
abbrev TeamT := Span × Span × Span × Int
abbrev Sd := Nat × Nat × Nat
def vSd (s : Sd) : AV := match s.1 with
  | 0 => .v (.slice none 0 0)
  | 1 => .gs s.2.1 0
  | _ + 2 => .sl s.2.1 0 0 s.2.2
theorem vSd_one (s : Sd) : (vSd s).one = true := by
  unfold vSd
  split <;> rfl
def gSd : List AV → Nat → Sd
  | .gs id _ :: _, 0 => (1, id, 0)
  | .sl id _ _ n :: _, 0 => (2, id, n)
  | _ :: l, n + 1 => gSd l n
  | _, _ => (0, 0, 0)

inductive CC where
  | int | span | mix | pit | u16 | rmix | place | tell | bool | psp
  | tstep | team | stp (id : Nat) | plotk (a b : Nat) | plotg | rhorse
  deriving DecidableEq

def CC.ty : CC → Type
  | .int => Int
  | .span => Span
  | .mix => Mix3
  | .pit => PitT
  | .u16 => Int
  | .rmix => Int × Int
  | .place => Int × Int × Int × Int
  | .tell => Bool × PitT
  | .bool => Bool
  | .psp => Nat × Nat
  | .tstep => StepT
  | .team => TeamT
  | .stp _ => Bool × Int
  | .plotk _ _ => (Int × Int × Int) × Nat × Nat × Nat
  | .plotg => (Int × Int × Int) × Sd × Sd
  | .rhorse => Int × Int × Int × Bool

def gi : List AV → Nat → Int
  | .v (.int _ n) :: _, 0 => n
  | _ :: l, n + 1 => gi l n
  | _, _ => 0
def gb : List AV → Bool
  | [.v (.bool b)] => b
  | _ => false
def encP (p : PitT) : List AV := [.i p.1, .i p.2.1.1, .i p.2.1.2, .i p.2.2.1.1, .i p.2.2.1.2, .i p.2.2.2.1.1, .i p.2.2.2.1.2, .i p.2.2.2.2.1, .i p.2.2.2.2.2]
def decPit (l : List AV) : PitT := (gi l 0, (gi l 1, gi l 2), (gi l 3, gi l 4), (gi l 5, gi l 6), (gi l 7, gi l 8))
def vTell (t : Bool × PitT) : AV := .alt t.1 (.ifc 176 (.agg [])) (.ifc 179 (.agg (encP t.2)))
def decTell : AV → Bool × PitT
  | .alt c _ (.ifc _ (.agg l)) => (c, decPit l)
  | .ifc _ (.agg []) => (true, (0, (0, 0), (0, 0), (0, 0), (0, 0)))
  | .ifc _ (.agg l) => (false, decPit l)
  | _ => (true, (0, (0, 0), (0, 0), (0, 0), (0, 0)))

def vStp (id : Nat) (x : Bool × Int) : AV := .alt x.1 (.ifc 138 (.agg [.ptr id 0 0 0, .i x.2])) (.ifc 139 (.agg [.ptr id 0 0 0, .i x.2]))
def decStp : List AV → Bool × Int
  | [.alt c _ (.ifc _ (.agg [_, .v (.int _ n)]))] => (c, n)
  | [.ifc t (.agg [_, .v (.int _ n)])] => (Nat.beq t 138, n)
  | _ => (true, 0)
def decPtr : List AV → Nat × Nat
  | [.ptr id 0 0 fo] => (id, fo)
  | _ => (0, 0)
def CC.enc : (c : CC) → c.ty → List AV
  | .int, x => [.i x]
  | .span, s => [.i s.1, .i s.2]
  | .mix, m => [.i m.1.1, .i m.1.2, .i m.2.1.1, .i m.2.1.2, .i m.2.2.1, .i m.2.2.2]
  | .pit, p => [.i p.1, .i p.2.1.1, .i p.2.1.2, .i p.2.2.1.1, .i p.2.2.1.2, .i p.2.2.2.1.1, .i p.2.2.2.1.2, .i p.2.2.2.2.1, .i p.2.2.2.2.2]
  | .u16, x => [.v (.int .u16 x)]
  | .rmix, m => [.i m.1, .i m.2]
  | .place, m => [.i m.1, .i m.2.1, .i m.2.2.1, .i m.2.2.2]
  | .tell, t => [vTell t]
  | .bool, b => [.b b]
  | .psp, p => [.ptr p.1 0 0 p.2]
  | .tstep, s => [.i s.1, .i s.2.1, .i s.2.2]
  | .team, t => [.i t.1.1, .i t.1.2, .i t.2.1.1, .i t.2.1.2, .i t.2.2.1.1, .i t.2.2.1.2, .i t.2.2.2]
  | .stp id, x => [vStp id x]
  | .plotk a b, x => [.i x.1.1, .i x.1.2.1, .i x.1.2.2, .sl a x.2.2.2 0 x.2.1, .sl b x.2.2.2 0 x.2.2.1]
  | .plotg, x => [.i x.1.1, .i x.1.2.1, .i x.1.2.2, vSd x.2.1, vSd x.2.2]
  | .rhorse, x => [.i x.1, .i x.2.1, .i x.2.2.1, .b x.2.2.2]
def CC.dec : (c : CC) → List AV → c.ty
  | .int, l => gi l 0
  | .span, l => (gi l 0, gi l 1)
  | .mix, l => ((gi l 0, gi l 1), (gi l 2, gi l 3), (gi l 4, gi l 5))
  | .pit, l => (gi l 0, (gi l 1, gi l 2), (gi l 3, gi l 4), (gi l 5, gi l 6), (gi l 7, gi l 8))
  | .u16, l => gi l 0
  | .rmix, l => (gi l 0, gi l 1)
  | .place, l => (gi l 0, gi l 1, gi l 2, gi l 3)
  | .tell, [x] => decTell x
  | .tell, _ => (true, (0, (0, 0), (0, 0), (0, 0), (0, 0)))
  | .bool, l => gb l
  | .psp, l => decPtr l
  | .tstep, l => (gi l 0, gi l 1, gi l 2)
  | .team, l => ((gi l 0, gi l 1), (gi l 2, gi l 3), (gi l 4, gi l 5), gi l 6)
  | .stp _, l => decStp l
  | .plotk _ _, l => ((gi l 0, gi l 1, gi l 2), 0, 0, 0)
  | .plotg, l => ((gi l 0, gi l 1, gi l 2), gSd l 3, gSd l 4)
  | .rhorse, l => (gi l 0, gi l 1, gi l 2, gb (l.drop 3))
def CC.df : (c : CC) → c.ty
  | .int => (0 : Int)
  | .span => ((0, 0) : Span)
  | .mix => (((0, 0), (0, 0), (0, 0)) : Mix3)
  | .pit => ((0, (0, 0), (0, 0), (0, 0), (0, 0)) : PitT)
  | .u16 => (0 : Int)
  | .rmix => ((0, 0) : Int × Int)
  | .place => ((0, 0, 0, 0) : Int × Int × Int × Int)
  | .tell => ((true, 0, (0, 0), (0, 0), (0, 0), (0, 0)) : Bool × PitT)
  | .bool => false
  | .psp => ((0, 0) : Nat × Nat)
  | .tstep => ((0, 0, 0) : StepT)
  | .team => (((0, 0), (0, 0), (0, 0), 0) : TeamT)
  | .stp _ => ((true, 0) : Bool × Int)
  | .plotk _ _ => (((0, 0, 0), 0, 0, 0) : (Int × Int × Int) × Nat × Nat × Nat)
  | .plotg => (((0, 0, 0), (0, 0, 0), (0, 0, 0)) : (Int × Int × Int) × Sd × Sd)
  | .rhorse => ((0, 0, 0, false) : Int × Int × Int × Bool)
def CC.sz : CC → Nat
  | .int => 1
  | .span => 2
  | .mix => 6
  | .pit => 9
  | .u16 => 1
  | .rmix => 2
  | .place => 4
  | .tell => 1
  | .bool => 1
  | .psp => 1
  | .tstep => 3
  | .team => 7
  | .stp _ => 1
  | .plotk _ _ => 5
  | .plotg => 5
  | .rhorse => 4
def CC.code : Nat → Option CC
  | 3 => some .int
  | 4 => some .bool
  | 23 => some .span
  | 181 => some .mix
  | 151 => some .pit
  | 907166 => some .u16
  | 154 => some .rmix
  | 943211 => some .place
  | 186 => some .tell
  | 911770 => some .psp
  | 92 => some .tstep
  | 25 => some .team
  | 99 => some (.stp 0)
  | 31 => some .plotg
  | 85 => some .rhorse
  | _ => none
def CC.mv : CC → Bool
  | .stp _ => true
  | .plotk _ _ => true
  | _ => false
def CC.ids : CC → List Nat
  | .stp id => [id]
  | .plotk a b => [a, b]
  | _ => []
def CC.rc (τ : Nat → Nat) : CC → CC
  | .stp id => .stp (τ id)
  | .plotk a b => .plotk (τ a) (τ b)
  | .int => .int
  | .span => .span
  | .mix => .mix
  | .pit => .pit
  | .u16 => .u16
  | .rmix => .rmix
  | .place => .place
  | .tell => .tell
  | .bool => .bool
  | .psp => .psp
  | .tstep => .tstep
  | .team => .team
  | .plotg => .plotg
  | .rhorse => .rhorse
def CC.rce (τ : Nat → Nat) : (c : CC) → c.ty → (c.rc τ).ty
  | .stp _, x => x
  | .plotk _ _, x => x
  | .int, x => x
  | .span, x => x
  | .mix, x => x
  | .pit, x => x
  | .u16, x => x
  | .rmix, x => x
  | .place, x => x
  | .tell, x => x
  | .bool, x => x
  | .psp, x => x
  | .tstep, x => x
  | .team, x => x
  | .plotg, x => x
  | .rhorse, x => x
def CC.rcl (τ : Nat → Nat) : (c : CC) → List c.ty → List (c.rc τ).ty
  | .stp _, x => x
  | .plotk _ _, x => x
  | .int, x => x
  | .span, x => x
  | .mix, x => x
  | .pit, x => x
  | .u16, x => x
  | .rmix, x => x
  | .place, x => x
  | .tell, x => x
  | .bool, x => x
  | .psp, x => x
  | .tstep, x => x
  | .team, x => x
  | .plotg, x => x
  | .rhorse, x => x

inductive MM where
  | pits | safe
  deriving DecidableEq
def MM.ty : MM → Type
  | .pits => Int × Mix3
  | .safe => Int × Int × Bool
def MM.code : Nat → Option MM
  | 178 => some .pits
  | 113 => some .safe
  | _ => none

def UU : Uni where
  C := CC
  deq := inferInstance
  ty := CC.ty
  enc := CC.enc
  dec := CC.dec
  df := CC.df
  sz := CC.sz
  code := CC.code
  M := MM
  mdeq := inferInstance
  mty := MM.ty
  mkey := fun | .pits, x => [x.1] | .safe, x => [x.1, x.2.1]
  mval := fun | .pits, x => .agg (CC.enc .mix x.2) | .safe, x => .b x.2.2
  mdec := fun | .pits, k, v => (k.getD 0 0, match v with | .agg l => CC.dec .mix l | _ => ((0, 0), (0, 0), (0, 0))) | .safe, k, v => (k.getD 0 0, k.getD 1 0, gb [v])
  mdf := fun | .pits => ((0, (0, 0), (0, 0), (0, 0)) : Int × Mix3) | .safe => ((0, 0, false) : Int × Int × Bool)
  mks := fun | .pits => (false, [.i64]) | .safe => (true, [.i64, .i64])
  mcode := MM.code
  len := fun c x => by cases c <;> rfl
  ones := fun c x a h => by
    cases c <;> simp only [CC.enc, List.mem_cons, List.not_mem_nil, or_false] at h <;> rcases h with rfl | rfl | rfl | rfl | rfl | rfl | rfl | rfl | rfl <;> first | rfl | exact vSd_one _
  pl := fun c => match c with
    | .psp => false
    | .stp _ => false
    | .plotk _ _ => false
    | .plotg => false
    | _ => true
  plok := fun c h x a ha => by
    cases c <;> first
      | (cases h; done)
      | (simp only [CC.enc, List.mem_cons, List.not_mem_nil, or_false] at ha <;> rcases ha with rfl | rfl | rfl | rfl | rfl | rfl | rfl | rfl | rfl <;> rfl)
  mpl := fun _ => true
  mplok := fun m _ x => by cases m <;> rfl
  cut := fun t => Nat.beq t 43
  fl := fun c => match c with
    | .plotg => true
    | _ => false
  mv := CC.mv
  ids := CC.ids
  rc := CC.rc
  rce := CC.rce
  rcl := CC.rcl
  rclmap := fun τ c l => by cases c <;> exact (List.map_id' l).symm
  rcsz := fun τ c => by cases c <;> rfl
  rcok := fun c h π π' τ hτ x j a' ha => by
    cases c with
    | stp id =>
      have hid := hτ id (List.mem_singleton.2 rfl)
      match j, ha with
      | 0, ha =>
        cases ha
        refine ⟨_, rfl, fun y hy => ?_⟩
        unfold vStp at hy ⊢
        simp only [Rep, RepL] at hy ⊢
        constructor
        · intro hc
          obtain ⟨z, rfl, a, rfl, z1, zs, e1, ⟨p, hp, e2⟩, e3⟩ := hy.1 hc
          exact ⟨_, rfl, _, rfl, z1, zs, e1, ⟨p, hid _ _ hp, e2⟩, e3⟩
        · intro hc
          obtain ⟨z, rfl, a, rfl, z1, zs, e1, ⟨p, hp, e2⟩, e3⟩ := hy.2 hc
          exact ⟨_, rfl, _, rfl, z1, zs, e1, ⟨p, hid _ _ hp, e2⟩, e3⟩
    | plotk a b =>
      have h1 := hτ a (by simp [CC.ids])
      have h2 := hτ b (by simp [CC.ids])
      match j, ha with
      | 0, ha => cases ha; exact ⟨_, rfl, fun y hy => hy⟩
      | 1, ha => cases ha; exact ⟨_, rfl, fun y hy => hy⟩
      | 2, ha => cases ha; exact ⟨_, rfl, fun y hy => hy⟩
      | 3, ha =>
        cases ha
        refine ⟨_, rfl, fun y hy => ?_⟩
        simp only [Rep] at hy ⊢
        obtain ⟨a, c, e, hl, hh⟩ := hy
        exact ⟨a, c, e, hl, fun h0 => let ⟨p, hp, e⟩ := hh h0; ⟨p, h1 _ _ hp, e⟩⟩
      | 4, ha =>
        cases ha
        refine ⟨_, rfl, fun y hy => ?_⟩
        simp only [Rep] at hy ⊢
        obtain ⟨a, c, e, hl, hh⟩ := hy
        exact ⟨a, c, e, hl, fun h0 => let ⟨p, hp, e⟩ := hh h0; ⟨p, h2 _ _ hp, e⟩⟩
    | _ => cases h
  rcback := fun c h π π' τ hτ x j a' ha => by
    cases c with
    | stp id =>
      have hid := hτ id (List.mem_singleton.2 rfl)
      match j, ha with
      | 0, ha =>
        cases ha
        refine ⟨_, rfl, fun y hy => ?_⟩
        simp only [CC.rce] at hy
        unfold vStp at hy ⊢
        simp only [Rep, RepL] at hy ⊢
        simp only [hid]
        exact hy
    | plotk a b =>
      have h1 := hτ a (by simp [CC.ids])
      have h2 := hτ b (by simp [CC.ids])
      match j, ha with
      | 0, ha => cases ha; exact ⟨_, rfl, fun y hy => hy⟩
      | 1, ha => cases ha; exact ⟨_, rfl, fun y hy => hy⟩
      | 2, ha => cases ha; exact ⟨_, rfl, fun y hy => hy⟩
      | 3, ha =>
        cases ha
        refine ⟨_, rfl, fun y hy => ?_⟩
        simp only [Rep, CC.rce] at hy ⊢
        simp only [h1]
        exact hy
      | 4, ha =>
        cases ha
        refine ⟨_, rfl, fun y hy => ?_⟩
        simp only [Rep, CC.rce] at hy ⊢
        simp only [h2]
        exact hy
    | _ => cases h
  stay := fun c h π π' hτ x a ha y hy => by
    cases c with
    | stp id =>
      have hid := hτ id (List.mem_singleton.2 rfl)
      simp only [CC.enc, List.mem_singleton] at ha
      subst ha
      unfold vStp at hy ⊢
      simp only [Rep, RepL] at hy ⊢
      constructor
      · intro hc
        obtain ⟨z, rfl, a, rfl, z1, zs, e1, ⟨p, hp, e2⟩, e3⟩ := hy.1 hc
        exact ⟨_, rfl, _, rfl, z1, zs, e1, ⟨p, hid _ _ hp, e2⟩, e3⟩
      · intro hc
        obtain ⟨z, rfl, a, rfl, z1, zs, e1, ⟨p, hp, e2⟩, e3⟩ := hy.2 hc
        exact ⟨_, rfl, _, rfl, z1, zs, e1, ⟨p, hid _ _ hp, e2⟩, e3⟩
    | plotk a b =>
      have h1 := hτ a (by simp [CC.ids])
      have h2 := hτ b (by simp [CC.ids])
      simp only [CC.enc, List.mem_cons, List.not_mem_nil, or_false] at ha
      rcases ha with rfl | rfl | rfl | rfl | rfl
      · exact hy
      · exact hy
      · exact hy
      · simp only [Rep] at hy ⊢
        obtain ⟨a, c, e, hl, hh⟩ := hy
        exact ⟨a, c, e, hl, fun h0 => let ⟨p, hp, e⟩ := hh h0; ⟨p, h1 _ _ hp, e⟩⟩
      · simp only [Rep] at hy ⊢
        obtain ⟨a, c, e, hl, hh⟩ := hy
        exact ⟨a, c, e, hl, fun h0 => let ⟨p, hp, e⟩ := hh h0; ⟨p, h2 _ _ hp, e⟩⟩
    | _ => cases h
end AE.Soil

namespace AE.Soil
open Go AE Go.Proofs

theorem hmix : Tryz.prog.follows .mixedOrders = true := by kernel_rfl

theorem wrap_id {x : Int} (h1 : -9223372036854775808 ≤ x) (h2 : x ≤ 9223372036854775807) : IntKind.i64.wrap x = x := IntWalk.i64_in x ⟨h1, h2⟩

def avSpan : AV → Option Span
  | .agg [a, b] => match avInt a, avInt b with
    | some a, some b => some (a, b)
    | _, _ => none
  | _ => none
def vSpan (s : Span) : AV := .agg [.i s.1, .i s.2]

def inM (n lo hi : Int) : Bool := decide (lo ≤ n) && decide (n ≤ hi)
def spanM (s : Span) (n : Int) : Bool := decide (0 ≤ s.1) && decide (s.1 ≤ s.2) && decide (s.2 ≤ n)
def withinS : FSpec UU where
  X := Int × Int × Int
  pick := fun args _ => match args with
    | [a, b, c] => match avInt a, avInt b, avInt c with
      | some a, some b, some c => some (a, b, c)
      | _, _, _ => none
    | _ => none
  args := fun x => [.i x.1, .i x.2.1, .i x.2.2]
  H := fun _ => []
  R := fun x => .val ⟨.b (inM x.1 x.2.1 x.2.2), [], [], []⟩
theorem within_ok : ∀ x, withinS.pre x → FunOk Tryz.prog 123 (withinS.args x) (withinS.H x) (withinS.R x) := by
  rintro ⟨n, lo, hi⟩ _
  refine fun_of (T := []) (L := fun _ => none) (hs := fun _ => []) hmix .nil Tryz.func123 (by kernel_rfl) (by kernel_rfl) ?_
  refine Eq.mp (α :=
      let A0 := decide (lo ≤ n); (A0 = true → True ∧ (Value.bool (decide (n ≤ hi)) = Value.bool (inM n lo hi) ∧ True) ∧ True ∧ True) ∧ (A0 = false → True ∧ (Value.bool (inM n lo hi) = Value.bool false ∧ True) ∧ True ∧ True))
    (by kernel_rfl) ?_
  simp only [eq_self, AE.goS]
  simp only [inM]
  simp +contextual
  omega

theorem within_sound : Sound Tryz.prog 123 withinS.con := FSpec.sound _ (enter_of Tryz.func123 (by kernel_rfl) (by kernel_rfl)) within_ok

def isSpanS : FSpec UU where
  X := Span × Int
  pick := fun args _ => match args with
    | [a, b] => match avSpan a, avInt b with
      | some a, some b => some (a, b)
      | _, _ => none
    | _ => none
  args := fun x => [vSpan x.1, .i x.2]
  H := fun _ => []
  R := fun x => .val ⟨.b (spanM x.1 x.2), [], [], []⟩
theorem isSpan_ok : ∀ x, isSpanS.pre x → FunOk Tryz.prog 124 (isSpanS.args x) (isSpanS.H x) (isSpanS.R x) := by
  rintro ⟨⟨lo, hi⟩, n⟩ _
  refine fun_of (T := []) (L := fun _ => none) (hs := fun _ => []) hmix .nil Tryz.func124 (by kernel_rfl) (by kernel_rfl) ?_
  refine Eq.mp (α :=
      let A0 := Value.bool (spanM (lo, hi) n); let A1 := (A0 = Value.bool false ∧ True) ∧ True ∧ True; let A2 := decide ((0 : Int) ≤ lo); let A3 := decide (lo ≤ hi); (A2 = true → (A3 = true → True ∧ (Value.bool (decide (hi ≤ n)) = A0 ∧ True) ∧ True ∧ True) ∧ (A3 = false → True ∧ A1)) ∧ (A2 = false → True ∧ A1))
    (by kernel_rfl) ?_
  simp only [eq_self, AE.goS]
  simp only [spanM]
  simp +contextual
  omega

theorem isSpan_sound : Sound Tryz.prog 124 isSpanS.con := FSpec.sound _ (enter_of Tryz.func124 (by kernel_rfl) (by kernel_rfl)) isSpan_ok

theorem foldl_take (f : Int → Int → Int) (n : Int) (l : List Int) (i : Nat) (h : i < l.length) (d : Int) : (l.take (i + 1)).foldl f n = f ((l.take i).foldl f n) (l.getD i d) := by
  rw [List.take_add_one, List.foldl_append, List.getD_eq_getElem?_getD, List.getElem?_eq_getElem h]
  rfl

def mmS (f : Int → Int → Int) : FSpec UU where
  X := Int × List Int
  pick := fun args H => match args with
    | [a, .gs id k] => match avInt a, rowAt (U := UU) .int H id k with
      | some a, some l => some (a, l)
      | _, _ => none
    | _ => none
  args := fun x => [.i x.1, .sl 0 0 0 x.2.length]
  H := fun x => [.one (.ro .int x.2)]
  R := fun x => .val ⟨.i (x.2.foldl f x.1), [], [], []⟩
  pre := fun x => x.2.length < 1000000

def mmL (f : Int → Int → Int) (n : Int) (l : List Int) : LSpec UU where
  T := { i : Nat // i ≤ l.length }
  fr := fun t => [(0, .i ((l.take t.1).foldl f n)), (7, .sl 0 0 0 l.length), (8, .i l.length), (9, .i t.1)]
  H := fun _ => [.one (.ro .int l)]
  mu := fun t => l.length - t.1

theorem most_ok : ∀ x, (mmS max).pre x → FunOk Tryz.prog 132 ((mmS max).args x) ((mmS max).H x) ((mmS max).R x) := by
  rintro ⟨n, l⟩ hl
  refine fun_of (T := []) (L := fun _ => some (.inv (mmL max n l))) (hs := fun _ => []) hmix .nil Tryz.func132 (by kernel_rfl) (by kernel_rfl) ?_
  refine Eq.mp (α :=
      let A3 := (↑(List.length l) : Int); let A4 := True ∧ l = l ∧ True; let A0 : Type := { i : Nat // (i ≤ List.length l) }; let A2 := Value.int IntKind.i64 A3; let A5 := fun (x : A0) => Subtype.val x; let A7 := nat_lit 0 = nat_lit 0 ∧ nat_lit 0 = nat_lit 0 ∧ List.length l = List.length l; let A1 := fun (x : A0) => (↑(A5 x) : Int); let A8 := fun (t : A0) => Int.toNat (A1 t); let A9 := fun (x : A0) => List.foldl max n ((List.take (A5 x) l)); let Aa := fun (x : A0) => List.length l - A5 x; let A6 := fun (x : A0) => Value.int IntKind.i64 (A9 x); let Ab := fun (t : A0) => decide (A1 t < A3); (∃ (x : A0), (Value.int IntKind.i64 n = A6 x ∧ A7 ∧ A2 = A2 ∧ Value.int IntKind.i64 (0 : Int) = Value.int IntKind.i64 (A1 x) ∧ True) ∧ A4) ∧ ∀ (t : A0), (Ab t = true → ((0 : Int) ≤ A1 t ∧ A1 t < A3) ∧ nat_lit 0 + A8 t < List.length l ∧ True ∧ ∃ (x : A0), ((Value.int IntKind.i64 (max (A9 t) (List.getD l ((0 : Nat) + A8 t) (0 : Int))) = A6 x ∧ A7 ∧ A2 = A2 ∧ Value.int IntKind.i64 (IntKind.wrap IntKind.i64 (A1 t + (1 : Int))) = Value.int IntKind.i64 (A1 x) ∧ True) ∧ A4) ∧ Aa x < Aa t) ∧ (Ab t = false → True ∧ (A6 t = Value.int IntKind.i64 (List.foldl max n l) ∧ True) ∧ A4))
    (by kernel_rfl) ?_
  simp only [eq_self, AE.goS]
  simp only [mmS] at hl
  refine ⟨⟨⟨0, by omega⟩, ?_⟩, ?_⟩
  · simp
  · rintro ⟨i, hi⟩
    refine ⟨fun h => ?_, fun h => ?_⟩
    · simp at h
      refine ⟨⟨by omega, by simpa using h⟩, by simpa using h, ⟨⟨i + 1, by omega⟩, ?_⟩⟩
      rw [wrap_id (by simp; omega) (by simp; omega)]
      rw [foldl_take _ _ _ _ h 0]
      simp
      omega
    · simp at h
      have : i = l.length := by omega
      subst this
      simp

theorem most_sound : Sound Tryz.prog 132 (mmS max).con := FSpec.sound _ (enter_of Tryz.func132 (by kernel_rfl) (by kernel_rfl)) most_ok

theorem least_ok : ∀ x, (mmS min).pre x → FunOk Tryz.prog 133 ((mmS min).args x) ((mmS min).H x) ((mmS min).R x) := by
  rintro ⟨n, l⟩ hl
  refine fun_of (T := []) (L := fun _ => some (.inv (mmL min n l))) (hs := fun _ => []) hmix .nil Tryz.func133 (by kernel_rfl) (by kernel_rfl) ?_
  refine Eq.mp (α :=
      let A3 := (↑(List.length l) : Int); let A4 := True ∧ l = l ∧ True; let A0 : Type := { i : Nat // (i ≤ List.length l) }; let A2 := Value.int IntKind.i64 A3; let A5 := fun (x : A0) => Subtype.val x; let A7 := nat_lit 0 = nat_lit 0 ∧ nat_lit 0 = nat_lit 0 ∧ List.length l = List.length l; let A1 := fun (x : A0) => (↑(A5 x) : Int); let A8 := fun (t : A0) => Int.toNat (A1 t); let A9 := fun (x : A0) => List.foldl min n ((List.take (A5 x) l)); let Aa := fun (x : A0) => List.length l - A5 x; let A6 := fun (x : A0) => Value.int IntKind.i64 (A9 x); let Ab := fun (t : A0) => decide (A1 t < A3); (∃ (x : A0), (Value.int IntKind.i64 n = A6 x ∧ A7 ∧ A2 = A2 ∧ Value.int IntKind.i64 (0 : Int) = Value.int IntKind.i64 (A1 x) ∧ True) ∧ A4) ∧ ∀ (t : A0), (Ab t = true → ((0 : Int) ≤ A1 t ∧ A1 t < A3) ∧ nat_lit 0 + A8 t < List.length l ∧ True ∧ ∃ (x : A0), ((Value.int IntKind.i64 (min (A9 t) (List.getD l ((0 : Nat) + A8 t) (0 : Int))) = A6 x ∧ A7 ∧ A2 = A2 ∧ Value.int IntKind.i64 (IntKind.wrap IntKind.i64 (A1 t + (1 : Int))) = Value.int IntKind.i64 (A1 x) ∧ True) ∧ A4) ∧ Aa x < Aa t) ∧ (Ab t = false → True ∧ (A6 t = Value.int IntKind.i64 (List.foldl min n l) ∧ True) ∧ A4))
    (by kernel_rfl) ?_
  simp only [eq_self, AE.goS]
  simp only [mmS] at hl
  refine ⟨⟨⟨0, by omega⟩, ?_⟩, ?_⟩
  · simp
  · rintro ⟨i, hi⟩
    refine ⟨fun h => ?_, fun h => ?_⟩
    · simp at h
      refine ⟨⟨by omega, by simpa using h⟩, by simpa using h, ⟨⟨i + 1, by omega⟩, ?_⟩⟩
      rw [wrap_id (by simp; omega) (by simp; omega)]
      rw [foldl_take _ _ _ _ h 0]
      simp
      omega
    · simp at h
      have : i = l.length := by omega
      subst this
      simp

theorem least_sound : Sound Tryz.prog 133 (mmS min).con := FSpec.sound _ (enter_of Tryz.func133 (by kernel_rfl) (by kernel_rfl)) least_ok

def bothM (a b : Span) : Span := (max a.1 b.1, min a.2 b.2)
def bothS : FSpec UU where
  X := Span × Span
  pick := fun args _ => match args with
    | [a, b] => match avSpan a, avSpan b with
      | some a, some b => some (a, b)
      | _, _ => none
    | _ => none
  args := fun x => [vSpan x.1, vSpan x.2]
  H := fun _ => []
  R := fun x => .val ⟨vSpan (bothM x.1 x.2), [], [], []⟩

def Tmm : Tab UU := [(132, (mmS max).con), (133, (mmS min).con)]
theorem Tmm_ok : Tmm.Sound Tryz.prog := .cons most_sound (.cons least_sound .nil)

theorem both_ok : ∀ x, bothS.pre x → FunOk Tryz.prog 126 (bothS.args x) (bothS.H x) (bothS.R x) := by
  rintro ⟨⟨a, b⟩, ⟨c, d⟩⟩ _
  refine fun_of (T := Tmm) (L := fun _ => none) (hs := fun _ => []) hmix Tmm_ok Tryz.func126 (by kernel_rfl) (by kernel_rfl) ?_
  refine Eq.mp (α :=
      let A2 := nat_lit 0 = nat_lit 0 ∧ nat_lit 0 = nat_lit 0 ∧ nat_lit 1 = nat_lit 1; let A3 := bothM (a, b) (c, d); let A0 : List Int := [c]; let A1 : List Int := [d]; (nat_lit 1 = nat_lit 1 ∧ AV.v (Value.int IntKind.i64 c) = AV.v (Value.int IntKind.i64 c) ∧ True) ∧ nat_lit 1 < nat_lit 1000000 ∧ (Value.int IntKind.i64 a = Value.int IntKind.i64 a ∧ ((3 : Nat) = (3 : Nat) ∧ A2) ∧ True) ∧ (A0 = A0 ∧ True) ∧ (nat_lit 1 = nat_lit 1 ∧ AV.v (Value.int IntKind.i64 d) = AV.v (Value.int IntKind.i64 d) ∧ True) ∧ nat_lit 1 < nat_lit 1000000 ∧ (Value.int IntKind.i64 b = Value.int IntKind.i64 b ∧ ((4 : Nat) = (4 : Nat) ∧ A2) ∧ True) ∧ (A1 = A1 ∧ True) ∧ True ∧ ((Value.int IntKind.i64 (List.foldl max a A0) = Value.int IntKind.i64 (Prod.fst A3) ∧ Value.int IntKind.i64 (List.foldl min b A1) = Value.int IntKind.i64 (Prod.snd A3) ∧ True) ∧ True) ∧ True ∧ True)
    (by kernel_rfl) ?_
  simp only [eq_self, AE.goS]
  simp [bothM]

theorem both_sound : Sound Tryz.prog 126 bothS.con := FSpec.sound _ (enter_of Tryz.func126 (by kernel_rfl) (by kernel_rfl)) both_ok

end AE.Soil

namespace AE.Soil
open Go AE Go.Proofs

abbrev W (x : Int) : Int := IntKind.wrap IntKind.i64 x

def avMix : AV → Option Mix3
  | .agg [a, b, c, d, e, f] => match avInt a, avInt b, avInt c, avInt d, avInt e, avInt f with
    | some a, some b, some c, some d, some e, some f => some ((a, b), (c, d), (e, f))
    | _, _, _, _, _, _ => none
  | _ => none
def vMix (m : Mix3) : AV := .agg [.i m.1.1, .i m.1.2, .i m.2.1.1, .i m.2.1.2, .i m.2.2.1, .i m.2.2.2]

def noneM (m : Mix3) : Bool := decide (m.1.1 > m.1.2) || decide (m.2.1.1 > m.2.1.2) || decide (m.2.2.1 > m.2.2.2)
def isNoneS : FSpec UU where
  X := Mix3
  pick := fun args _ => match args with
    | [a] => avMix a
    | _ => none
  args := fun x => [vMix x]
  H := fun _ => []
  R := fun x => .val ⟨.b (noneM x), [], [], []⟩
theorem isNone_ok : ∀ x, isNoneS.pre x → FunOk Tryz.prog 130 (isNoneS.args x) (isNoneS.H x) (isNoneS.R x) := by
  rintro ⟨⟨a, b⟩, ⟨c, d⟩, ⟨e, f⟩⟩ _
  refine fun_of (T := []) (L := fun _ => none) (hs := fun _ => []) hmix .nil Tryz.func130 (by kernel_rfl) (by kernel_rfl) ?_
  refine Eq.mp (α :=
      let A0 := Value.bool (noneM (((a, b), (((c, d), e, f))))); let A1 := (A0 = Value.bool true ∧ True) ∧ True ∧ True; let A2 := decide (a > b); let A3 := decide (c > d); (A2 = true → True ∧ A1) ∧ (A2 = false → (A3 = true → True ∧ A1) ∧ (A3 = false → True ∧ (Value.bool (decide (e > f)) = A0 ∧ True) ∧ True ∧ True)))
    (by kernel_rfl) ?_
  simp only [eq_self, AE.goS]
  simp only [noneM]
  simp +contextual
  omega

theorem isNone_sound : Sound Tryz.prog 130 isNoneS.con := FSpec.sound _ (enter_of Tryz.func130 (by kernel_rfl) (by kernel_rfl)) isNone_ok

def oneM (a b c : Span) : Span := (max (max 0 a.1) (W (W (20 - b.2) - c.2)), min (min 20 a.2) (W (W (20 - b.1) - c.1)))
def oneS : FSpec UU where
  X := Span × Span × Span
  pick := fun args _ => match args with
    | [a, b, c] => match avSpan a, avSpan b, avSpan c with
      | some a, some b, some c => some (a, b, c)
      | _, _, _ => none
    | _ => none
  args := fun x => [vSpan x.1, vSpan x.2.1, vSpan x.2.2]
  H := fun _ => []
  R := fun x => .val ⟨vSpan (oneM x.1 x.2.1 x.2.2), [], [], []⟩
theorem one_ok : ∀ x, oneS.pre x → FunOk Tryz.prog 136 (oneS.args x) (oneS.H x) (oneS.R x) := by
  rintro ⟨⟨a, b⟩, ⟨c, d⟩, ⟨e, f⟩⟩ _
  refine fun_of (T := Tmm) (L := fun _ => none) (hs := fun _ => []) hmix Tmm_ok Tryz.func136 (by kernel_rfl) (by kernel_rfl) ?_
  refine Eq.mp (α :=
      let A2 := nat_lit 0 = nat_lit 0 ∧ nat_lit 0 = nat_lit 0 ∧ nat_lit 2 = nat_lit 2; let A3 := Value.int IntKind.i64 (0 : Int); let A4 := Value.int IntKind.i64 (20 : Int); let A5 := oneM (a, b) (c, d) (e, f); let A6 := IntKind.wrap IntKind.i64 ((IntKind.wrap IntKind.i64 ((20 : Int) - c)) - e); let A7 := IntKind.wrap IntKind.i64 ((IntKind.wrap IntKind.i64 ((20 : Int) - d)) - f); let A8 := Value.int IntKind.i64 A6; let A9 := AV.v (Value.int IntKind.i64 A7); let A0 : List Int := [a, A7]; let A1 : List Int := [b, A6]; (nat_lit 2 = nat_lit 2 ∧ AV.v (Value.int IntKind.i64 a) = AV.v (Value.int IntKind.i64 a) ∧ A9 = A9 ∧ True) ∧ nat_lit 2 < nat_lit 1000000 ∧ (A3 = A3 ∧ ((4 : Nat) = (4 : Nat) ∧ A2) ∧ True) ∧ (A0 = A0 ∧ True) ∧ (nat_lit 2 = nat_lit 2 ∧ AV.v (Value.int IntKind.i64 b) = AV.v (Value.int IntKind.i64 b) ∧ AV.v A8 = AV.v A8 ∧ True) ∧ nat_lit 2 < nat_lit 1000000 ∧ (A4 = A4 ∧ ((5 : Nat) = (5 : Nat) ∧ A2) ∧ True) ∧ (A1 = A1 ∧ True) ∧ True ∧ ((Value.int IntKind.i64 (List.foldl max (0 : Int) A0) = Value.int IntKind.i64 (Prod.fst A5) ∧ Value.int IntKind.i64 (List.foldl min (20 : Int) A1) = Value.int IntKind.i64 (Prod.snd A5) ∧ True) ∧ True) ∧ True ∧ True)
    (by kernel_rfl) ?_
  simp only [eq_self, AE.goS]
  simp [oneM]

theorem one_sound : Sound Tryz.prog 136 oneS.con := FSpec.sound _ (enter_of Tryz.func136 (by kernel_rfl) (by kernel_rfl)) one_ok

def tightM (m : Mix3) : Mix3 := (oneM m.1 m.2.1 m.2.2, oneM m.2.1 m.1 m.2.2, oneM m.2.2 m.1 m.2.1)
def tightS : FSpec UU where
  X := Mix3
  pick := fun args _ => match args with
    | [a] => avMix a
    | _ => none
  args := fun x => [vMix x]
  H := fun _ => []
  R := fun x => .val ⟨vMix (tightM x), [], [], []⟩
def Tone : Tab UU := [(136, oneS.con)]
theorem Tone_ok : Tone.Sound Tryz.prog := .cons one_sound .nil
theorem tight_ok : ∀ x, tightS.pre x → FunOk Tryz.prog 134 (tightS.args x) (tightS.H x) (tightS.R x) := by
  rintro ⟨⟨a, b⟩, ⟨c, d⟩, ⟨e, f⟩⟩ _
  refine fun_of (T := Tone) (L := fun _ => none) (hs := fun _ => []) hmix Tone_ok Tryz.func134 (by kernel_rfl) (by kernel_rfl) ?_
  refine Eq.mp (α :=
      let A0 := Value.int IntKind.i64 e = Value.int IntKind.i64 e; let A1 := (Value.int IntKind.i64 f = Value.int IntKind.i64 f) ∧ True; let A4 := oneM (a, b) (c, d) (e, f); let A5 := oneM (c, d) (a, b) (e, f); let A6 := oneM (e, f) (a, b) (c, d); let A2 := (Value.int IntKind.i64 a = Value.int IntKind.i64 a) ∧ (Value.int IntKind.i64 b = Value.int IntKind.i64 b) ∧ True; let A3 := (Value.int IntKind.i64 c = Value.int IntKind.i64 c) ∧ (Value.int IntKind.i64 d = Value.int IntKind.i64 d) ∧ True; let A7 := ((a, b), (((c, d), e, f))); let A8 := Prod.fst (tightM A7); let A9 := Prod.snd (tightM A7); let Aa := Prod.fst A9; let Ab := Prod.snd A9; True ∧ (A2 ∧ A3 ∧ (A0 ∧ A1) ∧ True) ∧ True ∧ True ∧ (A3 ∧ A2 ∧ (A0 ∧ A1) ∧ True) ∧ True ∧ True ∧ ((A0 ∧ A1) ∧ A2 ∧ A3 ∧ True) ∧ True ∧ True ∧ ((Value.int IntKind.i64 (Prod.fst A4) = Value.int IntKind.i64 (Prod.fst A8) ∧ Value.int IntKind.i64 (Prod.snd A4) = Value.int IntKind.i64 (Prod.snd A8) ∧ Value.int IntKind.i64 (Prod.fst A5) = Value.int IntKind.i64 (Prod.fst Aa) ∧ Value.int IntKind.i64 (Prod.snd A5) = Value.int IntKind.i64 (Prod.snd Aa) ∧ Value.int IntKind.i64 (Prod.fst A6) = Value.int IntKind.i64 (Prod.fst Ab) ∧ Value.int IntKind.i64 (Prod.snd A6) = Value.int IntKind.i64 (Prod.snd Ab) ∧ True) ∧ True) ∧ True ∧ True)
    (by kernel_rfl) ?_
  simp only [eq_self, AE.goS]
  simp [tightM]

theorem tight_sound : Sound Tryz.prog 134 tightS.con := FSpec.sound _ (enter_of Tryz.func134 (by kernel_rfl) (by kernel_rfl)) tight_ok

def meetM (m o : Mix3) : Mix3 := (bothM m.1 o.1, bothM m.2.1 o.2.1, bothM m.2.2 o.2.2)
def andM (m o : Mix3) : Mix3 := if meetM m o = m ∨ noneM (meetM m o) = true then meetM m o else tightM (meetM m o)
def andS : FSpec UU where
  X := Mix3 × Mix3
  pick := fun args _ => match args with
    | [a, b] => match avMix a, avMix b with
      | some a, some b => some (a, b)
      | _, _ => none
    | _ => none
  args := fun x => [vMix x.1, vMix x.2]
  H := fun _ => []
  R := fun x => .val ⟨vMix (andM x.1 x.2), [], [], []⟩
def Tand : Tab UU := [(126, bothS.con), (130, isNoneS.con), (134, tightS.con)]
theorem Tand_ok : Tand.Sound Tryz.prog := .cons both_sound (.cons isNone_sound (.cons tight_sound .nil))
theorem and_ok : ∀ x, andS.pre x → FunOk Tryz.prog 128 (andS.args x) (andS.H x) (andS.R x) := by
  rintro ⟨⟨⟨a, b⟩, ⟨c, d⟩, ⟨e, f⟩⟩, ⟨⟨a', b'⟩, ⟨c', d'⟩, ⟨e', f'⟩⟩⟩ _
  refine fun_of (T := Tand) (L := fun _ => none) (hs := fun _ => []) hmix Tand_ok Tryz.func128 (by kernel_rfl) (by kernel_rfl) ?_
  refine Eq.mp (α :=
      let A0 := bothM (c, d) (c', d'); let A1 := bothM (a, b) (a', b'); let A2 := bothM (e, f) (e', f'); let A9 := Prod.fst A1; let Aa := Prod.snd A2; let Ab := Prod.snd A0; let Ac := Prod.fst A2; let Ad := Prod.snd A1; let Ae := Prod.fst A0; let A3 := Value.int IntKind.i64 A9; let A4 := Value.int IntKind.i64 Ab; let A5 := Value.int IntKind.i64 Ad; let A6 := Value.int IntKind.i64 Ae; let A7 := Value.int IntKind.i64 Ac; let A8 := Value.int IntKind.i64 Aa; let Af := (A1, ((A0, A2))); let Ag := noneM Af; let Ah := tightM Af; let Ai := andM (((a, b), (((c, d), e, f)))) (((a', b'), (((c', d'), e', f')))); let Aj := Prod.fst Ah; let Ak := Prod.snd Ah; let Al := Prod.snd Ak; let Am := Prod.fst Ak; let An := Prod.snd Ai; let Ao := Prod.fst Ai; let Ap := Prod.snd An; let Aq := Prod.fst An; let Ar := Value.int IntKind.i64 (Prod.fst Ao); let As := Value.int IntKind.i64 (Prod.snd Ao); let At := Value.int IntKind.i64 (Prod.snd Ap); let Au := Value.int IntKind.i64 (Prod.fst Ap); let Av := Value.int IntKind.i64 (Prod.fst Aq); let Aw := Value.int IntKind.i64 (Prod.snd Aq); let Ax := ((A9 == a) && ((Ad == b) && true)) && (((Ae == c) && ((Ab == d) && true)) && (((Ac == e) && ((Aa == f) && true)) && true)); let Ay := ((A3 = A3) ∧ (A5 = A5) ∧ (A6 = A6) ∧ (A4 = A4) ∧ (A7 = A7) ∧ (A8 = A8) ∧ True) ∧ True; let Az := (((A3 = Ar) ∧ (A5 = As) ∧ (A6 = Av) ∧ (A4 = Aw) ∧ (A7 = Au) ∧ (A8 = At) ∧ True) ∧ True) ∧ True ∧ True; True ∧ ((Value.int IntKind.i64 a = Value.int IntKind.i64 a ∧ Value.int IntKind.i64 b = Value.int IntKind.i64 b ∧ True) ∧ (Value.int IntKind.i64 a' = Value.int IntKind.i64 a' ∧ Value.int IntKind.i64 b' = Value.int IntKind.i64 b' ∧ True) ∧ True) ∧ True ∧ True ∧ ((Value.int IntKind.i64 c = Value.int IntKind.i64 c ∧ Value.int IntKind.i64 d = Value.int IntKind.i64 d ∧ True) ∧ (Value.int IntKind.i64 c' = Value.int IntKind.i64 c' ∧ Value.int IntKind.i64 d' = Value.int IntKind.i64 d' ∧ True) ∧ True) ∧ True ∧ True ∧ ((Value.int IntKind.i64 e = Value.int IntKind.i64 e ∧ Value.int IntKind.i64 f = Value.int IntKind.i64 f ∧ True) ∧ (Value.int IntKind.i64 e' = Value.int IntKind.i64 e' ∧ Value.int IntKind.i64 f' = Value.int IntKind.i64 f' ∧ True) ∧ True) ∧ True ∧ (Ax = true → True ∧ Az) ∧ (Ax = false → True ∧ Ay ∧ True ∧ (Ag = true → True ∧ Az) ∧ (Ag = false → True ∧ Ay ∧ True ∧ True ∧ ((Value.int IntKind.i64 (Prod.fst Aj) = Ar ∧ Value.int IntKind.i64 (Prod.snd Aj) = As ∧ Value.int IntKind.i64 (Prod.fst Am) = Av ∧ Value.int IntKind.i64 (Prod.snd Am) = Aw ∧ Value.int IntKind.i64 (Prod.fst Al) = Au ∧ Value.int IntKind.i64 (Prod.snd Al) = At ∧ True) ∧ True) ∧ True ∧ True)))
    (by kernel_rfl) ?_
  simp only [eq_self, AE.goS]
  simp +contextual [andM, meetM, bothM]
  intro h1 h2
  rw [if_neg (by rintro ⟨⟨h3, h4⟩, ⟨h5, h6⟩, h7, h8⟩; exact h1 h3 h4 h5 h6 h7 h8)]
  simp

theorem and_sound : Sound Tryz.prog 128 andS.con := FSpec.sound _ (enter_of Tryz.func128 (by kernel_rfl) (by kernel_rfl)) and_ok

def wideM (s : Span) (c : Int) : Span := (W (s.1 - c), W (s.2 + c))
def wideS : FSpec UU where
  X := Span × Int
  pick := fun args H => match args with
    | [a, .ptr id 0 0 0] => match avSpan a, blkAt H id 0 with
      | some a, some (.cells [c] _) => match avInt c with
        | some c => some (a, c)
        | _ => none
      | _, _ => none
    | _ => none
  args := fun x => [vSpan x.1, .ptr 0 0 0 0]
  H := fun x => [.one (.rc [.i x.2] 3)]
  R := fun x => .val ⟨vSpan (wideM x.1 x.2), [], [], []⟩
theorem wide_ok : ∀ x, wideS.pre x → FunOk Tryz.prog 135 (wideS.args x) (wideS.H x) (wideS.R x) := by
  rintro ⟨⟨a, b⟩, c⟩ _
  refine fun_of (T := []) (L := fun _ => none) (hs := fun _ => []) hmix .nil Tryz.func135 (by kernel_rfl) (by kernel_rfl) ?_
  refine Eq.mp (α :=
      True ∧ ((Value.int IntKind.i64 (IntKind.wrap IntKind.i64 (a - c)) = Value.int IntKind.i64 (Prod.fst (wideM (a, b) c)) ∧ Value.int IntKind.i64 (IntKind.wrap IntKind.i64 (b + c)) = Value.int IntKind.i64 (Prod.snd (wideM (a, b) c)) ∧ True) ∧ True) ∧ True ∧ (Value.int IntKind.i64 c = Value.int IntKind.i64 c ∧ True) ∧ True)
    (by kernel_rfl) ?_
  simp only [eq_self, AE.goS]
  simp [wideM]

theorem wide_sound : Sound Tryz.prog 135 wideS.con := FSpec.sound _ (enter_of Tryz.func135 (by kernel_rfl) (by kernel_rfl)) wide_ok

def nextM (m : Mix3) (c : Int) : Mix3 := if noneM m = true then m else tightM (wideM m.1 c, wideM m.2.1 c, wideM m.2.2 c)
def nextS : FSpec UU where
  X := Mix3 × Int
  pick := fun args _ => match args with
    | [a, b] => match avMix a, avInt b with
      | some a, some b => some (a, b)
      | _, _ => none
    | _ => none
  args := fun x => [vMix x.1, .i x.2]
  H := fun _ => []
  R := fun x => .val ⟨vMix (nextM x.1 x.2), [], [], []⟩
def Tnext : Tab UU := [(135, wideS.con), (130, isNoneS.con), (134, tightS.con)]
theorem Tnext_ok : Tnext.Sound Tryz.prog := .cons wide_sound (.cons isNone_sound (.cons tight_sound .nil))
theorem next_ok : ∀ x, nextS.pre x → FunOk Tryz.prog 129 (nextS.args x) (nextS.H x) (nextS.R x) := by
  rintro ⟨⟨⟨a, b⟩, ⟨c, d⟩, ⟨e, f⟩⟩, n⟩ _
  refine fun_of (T := Tnext) (L := fun _ => none) (hs := fun _ => []) hmix Tnext_ok Tryz.func129 (by kernel_rfl) (by kernel_rfl) ?_
  refine Eq.mp (α :=
      let A0 := (nat_lit 0 = nat_lit 0 ∧ nat_lit 0 = nat_lit 0 ∧ nat_lit 0 = nat_lit 0) ∧ True; let A2 := Value.int IntKind.i64 a = Value.int IntKind.i64 a; let A3 := Value.int IntKind.i64 b = Value.int IntKind.i64 b; let A4 := Value.int IntKind.i64 d = Value.int IntKind.i64 d; let A5 := Value.int IntKind.i64 c = Value.int IntKind.i64 c; let A6 := Value.int IntKind.i64 (Prod.fst (wideM (a, b) n)); let A7 := Value.int IntKind.i64 (Prod.snd (wideM (c, d) n)); let A8 := Value.int IntKind.i64 (Prod.fst (wideM (c, d) n)); let A9 := Value.int IntKind.i64 (Prod.fst (wideM (e, f) n)); let Aa := Value.int IntKind.i64 (Prod.snd (wideM (e, f) n)); let Ab := Value.int IntKind.i64 (Prod.snd (wideM (a, b) n)); let A1 := ((Value.int IntKind.i64 n = Value.int IntKind.i64 n) ∧ True) ∧ True; let Ac := (Value.int IntKind.i64 e = Value.int IntKind.i64 e) ∧ (Value.int IntKind.i64 f = Value.int IntKind.i64 f) ∧ True; let Ad := ((a, b), (((c, d), e, f))); let Ae := noneM Ad; let Af := nextM Ad n; let Ag := tightM ((wideM (a, b) n, ((wideM (c, d) n, wideM (e, f) n)))); let Ah := Prod.snd Af; let Ai := Prod.fst Af; let Aj := Prod.snd Ah; let Ak := Prod.fst Ah; let Al := Value.int IntKind.i64 (Prod.snd Ai); let Am := Value.int IntKind.i64 (Prod.fst Ai); let An := Prod.fst Ag; let Ao := Prod.snd Ag; let Ap := Value.int IntKind.i64 (Prod.snd Aj); let Aq := Value.int IntKind.i64 (Prod.fst Aj); let Ar := Value.int IntKind.i64 (Prod.snd Ak); let As := Value.int IntKind.i64 (Prod.fst Ak); let At := Prod.snd Ao; let Au := Prod.fst Ao; True ∧ ((A2 ∧ A3 ∧ A5 ∧ A4 ∧ Ac) ∧ True) ∧ True ∧ (Ae = true → True ∧ ((Value.int IntKind.i64 a = Am ∧ Value.int IntKind.i64 b = Al ∧ Value.int IntKind.i64 c = As ∧ Value.int IntKind.i64 d = Ar ∧ Value.int IntKind.i64 e = Aq ∧ Value.int IntKind.i64 f = Ap ∧ True) ∧ True) ∧ True ∧ True) ∧ (Ae = false → True ∧ ((A2 ∧ A3 ∧ True) ∧ A0) ∧ A1 ∧ True ∧ ((A5 ∧ A4 ∧ True) ∧ A0) ∧ A1 ∧ True ∧ (Ac ∧ A0) ∧ A1 ∧ True ∧ ((A6 = A6 ∧ Ab = Ab ∧ A8 = A8 ∧ A7 = A7 ∧ A9 = A9 ∧ Aa = Aa ∧ True) ∧ True) ∧ True ∧ True ∧ ((Value.int IntKind.i64 (Prod.fst An) = Am ∧ Value.int IntKind.i64 (Prod.snd An) = Al ∧ Value.int IntKind.i64 (Prod.fst Au) = As ∧ Value.int IntKind.i64 (Prod.snd Au) = Ar ∧ Value.int IntKind.i64 (Prod.fst At) = Aq ∧ Value.int IntKind.i64 (Prod.snd At) = Ap ∧ True) ∧ True) ∧ True ∧ True))
    (by kernel_rfl) ?_
  simp only [eq_self, AE.goS]
  simp +contextual [nextM]

theorem next_sound : Sound Tryz.prog 129 nextS.con := FSpec.sound _ (enter_of Tryz.func129 (by kernel_rfl) (by kernel_rfl)) next_ok

def anyM : Mix3 := ((0, 20), (0, 20), (0, 20))
def anyS : FSpec UU where
  X := Unit
  pick := fun args _ => match args with
    | [] => some ()
    | _ => none
  args := fun _ => []
  H := fun _ => []
  R := fun _ => .val ⟨vMix anyM, [], [], []⟩
theorem any_ok : ∀ x, anyS.pre x → FunOk Tryz.prog 127 (anyS.args x) (anyS.H x) (anyS.R x) := by
  intro x _
  refine fun_of (T := []) (L := fun _ => none) (hs := fun _ => []) hmix .nil Tryz.func127 (by kernel_rfl) (by kernel_rfl) ?_
  refine Eq.mp (α :=
      let A0 := Value.int IntKind.i64 (0 : Int); let A1 := Value.int IntKind.i64 (20 : Int); let A2 := Prod.snd (Prod.snd anyM); let A3 := Prod.fst (Prod.snd anyM); True ∧ ((A0 = Value.int IntKind.i64 (Prod.fst (Prod.fst anyM)) ∧ A1 = Value.int IntKind.i64 (Prod.snd (Prod.fst anyM)) ∧ A0 = Value.int IntKind.i64 (Prod.fst A3) ∧ A1 = Value.int IntKind.i64 (Prod.snd A3) ∧ A0 = Value.int IntKind.i64 (Prod.fst A2) ∧ A1 = Value.int IntKind.i64 (Prod.snd A2) ∧ True) ∧ True) ∧ True ∧ True)
    (by kernel_rfl) ?_
  simp only [eq_self, AE.goS]
  simp [anyM]

theorem any_sound : Sound Tryz.prog 127 anyS.con := FSpec.sound _ (enter_of Tryz.func127 (by kernel_rfl) (by kernel_rfl)) any_ok

end AE.Soil

namespace AE.Soil
open Go AE Go.Proofs

structure GroundT where
  long : Int
  rise : Int
  change : Int
  pits : List PitT

def avGround (H : Heap UU) : AV → Option GroundT
  | .agg [a, b, c, .sl id k _ _] => match avInt a, avInt b, avInt c, rowAt (U := UU) .pit H id k with
    | some a, some b, some c, some l => some ⟨a, b, c, l⟩
    | _, _, _, _ => none
  | .agg [a, b, c, .gs id k] => match avInt a, avInt b, avInt c, rowAt (U := UU) .pit H id k with
    | some a, some b, some c, some l => some ⟨a, b, c, l⟩
    | _, _, _, _ => none
  | _ => none
def vGround (g : GroundT) (id : Nat) : AV := .agg [.i g.long, .i g.rise, .i g.change, .sl id 0 0 g.pits.length]
def cGround (g : GroundT) (id : Nat) : List AV := [.i g.long, .i g.rise, .i g.change, .sl id 0 0 g.pits.length]

def okPitM (long b : Int) (p : PitT) : Bool := inM p.1 (W (b + 1)) long && spanM p.2.1 1000 && spanM p.2.2.1 20 && spanM p.2.2.2.1 20 && spanM p.2.2.2.2 20
def pitsM (long : Int) : Int → List PitT → Bool
  | _, [] => true
  | b, p :: l => okPitM long b p && pitsM long p.1 l
def groundM (g : GroundT) : Bool := inM g.long 0 40 && inM g.rise 0 1000 && inM g.change 0 20 && decide ((g.pits.length : Int) ≤ 8) && pitsM g.long (-1) g.pits

def isGroundS : FSpec UU where
  X := GroundT
  pick := fun args H => match args with
    | [a] => avGround H a
    | _ => none
  args := fun x => [vGround x 0]
  H := fun x => [.one (.ro .pit x.pits)]
  R := fun x => .val ⟨.b (groundM x), [], [], []⟩
  pre := fun x => x.pits.length < 1000000
def isGroundL (g : GroundT) : LSpec UU where
  T := { p : Nat × Int // p.1 ≤ g.pits.length ∧ pitsM g.long (-1) g.pits = pitsM g.long p.2 (g.pits.drop p.1) }
  fr := fun t => [(1, .ptr 1 0 0 0), (3, .i t.1.2), (29, .sl 0 0 0 g.pits.length), (30, .i g.pits.length), (31, .i t.1.1)]
  H := fun _ => [.one (.ro .pit g.pits), .one (.cells (cGround g 0) 28)]
  mu := fun t => g.pits.length - t.1.1
def Tground : Tab UU := [(123, withinS.con), (124, isSpanS.con)]
theorem Tground_ok : Tground.Sound Tryz.prog := .cons within_sound (.cons isSpan_sound .nil)
theorem isGround_ok : ∀ x, isGroundS.pre x → FunOk Tryz.prog 120 (isGroundS.args x) (isGroundS.H x) (isGroundS.R x) := by
  rintro ⟨long, rise, change, pits⟩ hl
  refine fun_of (T := Tground) (L := fun _ => some (.inv (isGroundL ⟨long, rise, change, pits⟩))) (hs := fun _ => []) hmix Tground_ok Tryz.func120 (by kernel_rfl) (by kernel_rfl) ?_
  refine Eq.mp (α :=
      let Ah := nat_lit 0 = nat_lit 0 ∧ nat_lit 0 = nat_lit 0 ∧ nat_lit 0 = nat_lit 0; let A5 := (↑(List.length pits) : Int); let A6 := Value.int IntKind.i64 (0 : Int); let Ai := Value.int IntKind.i64 (20 : Int); let Aj := Value.int IntKind.i64 (40 : Int); let Ak := (-1 : Int); let Al := Value.int IntKind.i64 (1000 : Int); let Am := True ∧ pits = pits ∧ True; let A7 := Value.int IntKind.i64 long = Value.int IntKind.i64 long; let An := Value.int IntKind.i64 rise = Value.int IntKind.i64 rise; let Ao := Value.int IntKind.i64 change = Value.int IntKind.i64 change; let Ap := Value.int IntKind.i64 A5; let A3 := ((0 : Int), (0 : Int)); let Aq := !(inM change (0 : Int) (20 : Int)); let Ar := !(inM long (0 : Int) (40 : Int)); let As := !(inM rise (0 : Int) (1000 : Int)); let A8 := nat_lit 0 = nat_lit 0 ∧ nat_lit 0 = nat_lit 0 ∧ List.length pits = List.length pits; let A9 := A6 = A6; let A4 := (Ai = Ai) ∧ True; let At := (Al = Al) ∧ True; let Au := Ap = Ap; let A1 := True ∧ ((Value.bool (groundM (GroundT.mk long rise change pits)) = Value.bool false) ∧ True) ∧ Am; let Av := decide (A5 > (8 : Int)); let Aw := True ∧ pits = pits ∧ (A7 ∧ An ∧ Ao ∧ A8 ∧ True) ∧ True; let A0 : Type := { p : Nat × Int // ((Prod.fst p ≤ (List.length (GroundT.pits (GroundT.mk long rise change pits)))) ∧ (pitsM (GroundT.long (GroundT.mk long rise change pits)) Ak (GroundT.pits (GroundT.mk long rise change pits))) = (pitsM (GroundT.long (GroundT.mk long rise change pits)) (Prod.snd p) ((List.drop (Prod.fst p) (GroundT.pits (GroundT.mk long rise change pits)))))) }; let Ax := fun (x : A0) => Subtype.val x; let Ay := fun (x : A0) => Prod.snd (Ax x); let Az := fun (x : A0) => Prod.fst (Ax x); let AA := fun (x : A0) => Value.int IntKind.i64 (Ay x); let A2 := fun (x : A0) => (↑(Az x) : Int); let AB := fun (x : A0) => Value.int IntKind.i64 (A2 x); let AC := fun (x : A0) => List.length pits - Az x; let AD := fun (t : A0) => nat_lit 0 + (Int.toNat (A2 t)); let Aa := fun (t : A0) => IntKind.wrap IntKind.i64 ((Ay t + (1 : Int))); let AE := fun (t : A0) => A2 t < A5; let AF := fun (t : A0) => Value.int IntKind.i64 (Aa t); let AG := fun (t : A0) => List.getD pits (AD t) (((0 : Int), ((A3, ((A3, ((A3, A3)))))))); let AH := fun (t : A0) => decide (AE t); let Ab := fun (t : A0) => Prod.fst (AG t); let AI := fun (t : A0) => Prod.snd (AG t); let Ac := fun (t : A0) => Value.int IntKind.i64 (Ab t); let AJ := fun (t : A0) => Prod.snd (AI t); let Ad := fun (t : A0) => Prod.fst (AI t); let AK := fun (t : A0) => Value.int IntKind.i64 ((Prod.fst (Ad t))); let AL := fun (t : A0) => Value.int IntKind.i64 ((Prod.snd (Ad t))); let Ae := fun (t : A0) => Prod.fst (AJ t); let AM := fun (t : A0) => Prod.snd (AJ t); let AN := fun (t : A0) => !(spanM (Ad t) (1000 : Int)); let Af := fun (t : A0) => Prod.fst (AM t); let Ag := fun (t : A0) => Prod.snd (AM t); let AO := fun (t : A0) => Value.int IntKind.i64 ((Prod.snd (Ae t))); let AP := fun (t : A0) => Value.int IntKind.i64 ((Prod.fst (Ae t))); let AQ := fun (t : A0) => !(spanM (Ae t) (20 : Int)); let AR := fun (t : A0) => Value.int IntKind.i64 ((Prod.fst (Af t))); let AS := fun (t : A0) => Value.int IntKind.i64 ((Prod.fst (Ag t))); let AT := fun (t : A0) => Value.int IntKind.i64 ((Prod.snd (Ag t))); let AU := fun (t : A0) => Value.int IntKind.i64 ((Prod.snd (Af t))); let AV := fun (t : A0) => spanM (Af t) (20 : Int); let AW := fun (t : A0) => !(spanM (Ag t) (20 : Int)); True ∧ (A7 ∧ A9 ∧ Aj = Aj ∧ True) ∧ True ∧ (Ar = true → A1) ∧ (Ar = false → True ∧ (An ∧ A9 ∧ At) ∧ True ∧ (As = true → A1) ∧ (As = false → True ∧ (Ao ∧ A9 ∧ A4) ∧ True ∧ (Aq = true → A1) ∧ (Aq = false → (Av = true → A1) ∧ (Av = false → (∃ (x : A0), (Ah ∧ Value.int IntKind.i64 Ak = AA x ∧ A8 ∧ Au ∧ A6 = AB x ∧ True) ∧ Aw) ∧ ∀ (t : A0), (AH t = true → ((0 : Int) ≤ A2 t ∧ AE t) ∧ AD t < List.length pits ∧ True ∧ (Ac t = Ac t ∧ AF t = AF t ∧ A7 ∧ True) ∧ True ∧ ((!inM (Ab t) (Aa t) long) = true → A1) ∧ ((!inM (Ab t) (Aa t) long) = false → True ∧ ((AK t = AK t ∧ AL t = AL t ∧ True) ∧ At) ∧ True ∧ (AN t = true → A1) ∧ (AN t = false → True ∧ ((AP t = AP t ∧ AO t = AO t ∧ True) ∧ A4) ∧ True ∧ (AQ t = true → A1) ∧ (AQ t = false → True ∧ ((AR t = AR t ∧ AU t = AU t ∧ True) ∧ A4) ∧ True ∧ ((!AV t) = true → A1) ∧ ((!AV t) = false → True ∧ ((AS t = AS t ∧ AT t = AT t ∧ True) ∧ A4) ∧ True ∧ (AW t = true → A1) ∧ (AW t = false → True ∧ ∃ (x : A0), ((Ah ∧ Ac t = AA x ∧ A8 ∧ Au ∧ Value.int IntKind.i64 (IntKind.wrap IntKind.i64 (A2 t + (1 : Int))) = AB x ∧ True) ∧ Aw) ∧ AC x < AC t)))))) ∧ (AH t = false → True ∧ (Value.bool (groundM (GroundT.mk long rise change pits)) = Value.bool true ∧ True) ∧ Am))))))
    (by kernel_rfl) ?_
  simp only [eq_self, true_and, and_true, Int.toNat_natCast, Nat.zero_add]
  simp only [isGroundS] at hl
  have no : ∀ b : Bool, (!b) = true → b = false := by intro b; cases b <;> simp
  have yes : ∀ b : Bool, (!b) = false → b = true := by intro b; cases b <;> simp
  refine ⟨fun h => ?_, fun h1 => ⟨fun h => ?_, fun h2 => ⟨fun h => ?_, fun h3 => ⟨fun h => ?_, fun h4 => ⟨⟨⟨(0, -1), by simp⟩, by simp⟩, ?_⟩⟩⟩⟩⟩
  · simp [groundM, no _ h]
  · simp [groundM, no _ h]
  · simp [groundM, no _ h]
  · have : ¬ ((pits.length : Int) ≤ 8) := by simp at h; omega
    simp [groundM, this]
  · have h4' : (pits.length : Int) ≤ 8 := by simp at h4; omega
    have hg : groundM ⟨long, rise, change, pits⟩ = pitsM long (-1) pits := by simp [groundM, yes _ h1, yes _ h2, yes _ h3, h4']
    rw [hg]
    rintro ⟨⟨i, b⟩, hi, hp⟩
    simp only at hi hp ⊢
    refine ⟨fun h => ?_, fun h => ?_⟩
    · have hlt : i < pits.length := by simp at h; omega
      have hd : pits.drop i = pits.getD i ((0, (0, 0), (0, 0), (0, 0), 0, 0) : PitT) :: pits.drop (i + 1) := by
        rw [List.drop_eq_getElem_cons hlt]; simp [hlt]
      have key := hp
      rw [hd] at key
      generalize pits.getD i ((0, (0, 0), (0, 0), (0, 0), 0, 0) : PitT) = p at *
      simp only [pitsM, okPitM] at key
      refine ⟨⟨by omega, by omega⟩, hlt, fun k1 => ?_, fun k1 => ⟨fun k2 => ?_, fun k2 => ⟨fun k3 => ?_, fun k3 => ⟨fun k4 => ?_, fun k4 => ⟨fun k5 => ?_, fun k5 => ?_⟩⟩⟩⟩⟩
      · rw [key, no _ k1]; simp
      · have := no _ k2; rw [key]; simp [this]
      · have := no _ k3; rw [key]; simp [this]
      · have := no _ k4; rw [key]; simp [this]
      · have := no _ k5; rw [key]; simp [this]
      · refine ⟨⟨(i + 1, p.1), by omega, ?_⟩, ?_⟩
        · rw [key]; simp [yes _ k1, yes _ k2, yes _ k3, yes _ k4, yes _ k5]
        · have hw : IntKind.i64.wrap ((i : Int) + 1) = (i : Int) + 1 := wrap_id (by omega) (by omega)
          simp [hw]
          omega
    · have : i = pits.length := by simp at h; omega
      subst this
      rw [hp]
      simp [pitsM]

theorem isGround_sound : Sound Tryz.prog 120 isGroundS.con := FSpec.sound _ (enter_of Tryz.func120 (by kernel_rfl) (by kernel_rfl)) isGround_ok

end AE.Soil

namespace AE.Soil
open Go AE Go.Proofs

def failV (e : Int) : AV := .ifc 172 (.agg [.i e])
def mustS : FSpec2 UU where
  X := Bool × Int
  pick := fun args _ => match args with
    | [a, b] => match avBool a, avInt b with
      | some a, some b => some (a, b)
      | _, _ => none
    | _ => none
  args := fun x => [.v (.bool x.1), .i x.2]
  H := fun _ => []
  c := fun x => x.1
  R := fun _ => .val ⟨.tup [], [], [], []⟩
  R' := fun x => .panic (failV x.2)
theorem must_ok1 : ∀ x, mustS.pre x → mustS.c x = true → FunOk Tryz.prog 119 (mustS.args x) (mustS.H x) (mustS.R x) := by
  rintro ⟨b, e⟩ _ hb
  refine fun_of (T := []) (L := fun _ => none) (hs := fun _ => []) hmix .nil Tryz.func119 (by kernel_rfl) (by kernel_rfl) ?_
  refine Eq.mp (α :=
      ((!b) = true → False) ∧ ((!b) = false → True ∧ (True ∧ True) ∧ True ∧ True))
    (by kernel_rfl) ?_
  simp only [eq_self, AE.goS]
  simp only [mustS] at hb
  simp [hb]

theorem must_ok2 : ∀ x, mustS.pre x → mustS.c x = false → FunOk Tryz.prog 119 (mustS.args x) (mustS.H x) (mustS.R' x) := by
  rintro ⟨b, e⟩ _ hb
  refine fun_of (T := []) (L := fun _ => none) (hs := fun _ => []) hmix .nil Tryz.func119 (by kernel_rfl) (by kernel_rfl) ?_
  refine Eq.mp (α :=
      ((!b) = true → True ∧ nat_lit 172 = (172 : TypeId) ∧ Value.int IntKind.i64 e = Value.int IntKind.i64 e ∧ True) ∧ ((!b) = false → False))
    (by kernel_rfl) ?_
  simp only [eq_self, AE.goS]
  simp only [mustS] at hb
  simp [hb]

theorem must_sound : Sound Tryz.prog 119 mustS.con := FSpec2.sound _ (enter_of Tryz.func119 (by kernel_rfl) (by kernel_rfl)) fun x h => ⟨must_ok1 x h, must_ok2 x h⟩

end AE.Soil

namespace AE.Soil
open Go AE Go.Proofs

theorem rin_ok : ∀ x, withinS.pre x → FunOk Tryz.prog 102 (withinS.args x) (withinS.H x) (withinS.R x) := by
  rintro ⟨n, lo, hi⟩ _
  refine fun_of (T := []) (L := fun _ => none) (hs := fun _ => []) hmix .nil Tryz.func102 (by kernel_rfl) (by kernel_rfl) ?_
  refine Eq.mp (α :=
      let A0 := decide (lo ≤ n); (A0 = true → True ∧ (Value.bool (decide (n ≤ hi)) = Value.bool (inM n lo hi) ∧ True) ∧ True ∧ True) ∧ (A0 = false → True ∧ (Value.bool (inM n lo hi) = Value.bool false ∧ True) ∧ True ∧ True))
    (by kernel_rfl) ?_
  simp only [eq_self, AE.goS]
  simp only [inM]
  simp +contextual
  omega

theorem rin_sound : Sound Tryz.prog 102 withinS.con := FSpec.sound _ (enter_of Tryz.func102 (by kernel_rfl) (by kernel_rfl)) rin_ok

def rspanM (s : Span) (lo hi : Int) : Bool := decide (lo ≤ s.1) && decide (s.1 ≤ s.2) && decide (s.2 ≤ hi)
def rspanS : FSpec UU where
  X := Span × Int × Int
  pick := fun args _ => match args with
    | [a, b, c] => match avSpan a, avInt b, avInt c with
      | some a, some b, some c => some (a, b, c)
      | _, _, _ => none
    | _ => none
  args := fun x => [vSpan x.1, .i x.2.1, .i x.2.2]
  H := fun _ => []
  R := fun x => .val ⟨.b (rspanM x.1 x.2.1 x.2.2), [], [], []⟩
theorem rspan_ok : ∀ x, rspanS.pre x → FunOk Tryz.prog 103 (rspanS.args x) (rspanS.H x) (rspanS.R x) := by
  rintro ⟨⟨lo, hi⟩, m, n⟩ _
  refine fun_of (T := []) (L := fun _ => none) (hs := fun _ => []) hmix .nil Tryz.func103 (by kernel_rfl) (by kernel_rfl) ?_
  refine Eq.mp (α :=
      let A0 := Value.bool (rspanM (lo, hi) m n); let A1 := (A0 = Value.bool false ∧ True) ∧ True ∧ True; let A2 := decide (lo ≤ hi); let A3 := decide (m ≤ lo); (A3 = true → (A2 = true → True ∧ (Value.bool (decide (hi ≤ n)) = A0 ∧ True) ∧ True ∧ True) ∧ (A2 = false → True ∧ A1)) ∧ (A3 = false → True ∧ A1))
    (by kernel_rfl) ?_
  simp only [eq_self, AE.goS]
  simp only [rspanM]
  simp +contextual
  omega

theorem rspan_sound : Sound Tryz.prog 103 rspanS.con := FSpec.sound _ (enter_of Tryz.func103 (by kernel_rfl) (by kernel_rfl)) rspan_ok

def isPlaceS : FSpec UU where
  X := GroundT
  pick := fun args H => match args with
    | [a] => avGround H a
    | _ => none
  args := fun x => [vGround x 0]
  H := fun x => [.one (.ro .pit x.pits)]
  R := fun x => .val ⟨.fn (.func 122) [] [.ptr 1 0 0 0], [], [], [.cells (cGround x 0) 28]⟩
theorem isPlace_ok : ∀ x, isPlaceS.pre x → FunOk Tryz.prog 116 (isPlaceS.args x) (isPlaceS.H x) (isPlaceS.R x) := by
  rintro ⟨long, rise, change, pits⟩ _
  refine fun_of (T := []) (L := fun _ => none) (hs := fun _ => []) hmix .nil Tryz.func116 (by kernel_rfl) (by kernel_rfl) ?_
  refine Eq.mp (α :=
      True ∧ ((Fn.func (nat_lit 122) = Fn.func (122 : FuncId) ∧ True ∧ (nat_lit 0 = nat_lit 0 ∧ nat_lit 0 = nat_lit 0 ∧ nat_lit 0 = nat_lit 0) ∧ True) ∧ True) ∧ True ∧ pits = pits ∧ (Value.int IntKind.i64 long = Value.int IntKind.i64 long ∧ Value.int IntKind.i64 rise = Value.int IntKind.i64 rise ∧ Value.int IntKind.i64 change = Value.int IntKind.i64 change ∧ (nat_lit 0 = nat_lit 0 ∧ nat_lit 0 = nat_lit 0 ∧ List.length pits = List.length pits) ∧ True) ∧ True)
    (by kernel_rfl) ?_
  simp only [eq_self, AE.goS]

theorem isPlace_sound : Sound Tryz.prog 116 isPlaceS.con := FSpec.sound _ (enter_of Tryz.func116 (by kernel_rfl) (by kernel_rfl)) isPlace_ok

def placeS : FSpec UU where
  X := Int × Int × Int × Int
  pick := fun args H => match args with
    | [a, .ptr id k 0 0] => match avInt a, blkAt H id k with
      | some a, some (.cells [b, c, d, _] _) => match avInt b, avInt c, avInt d with
        | some b, some c, some d => some (a, b, c, d)
        | _, _, _ => none
      | some a, some (.rc [b, c, d, _] _) => match avInt b, avInt c, avInt d with
        | some b, some c, some d => some (a, b, c, d)
        | _, _, _ => none
      | _, _ => none
    | _ => none
  args := fun x => [.i x.1, .ptr 0 0 0 0]
  H := fun x => [.one (.rc [.i x.2.1, .i x.2.2.1, .i x.2.2.2, .junk] 28)]
  R := fun x => .val ⟨.b (inM x.1 0 x.2.1), [], [], []⟩
def Twithin : Tab UU := [(123, withinS.con)]
theorem Twithin_ok : Twithin.Sound Tryz.prog := .cons within_sound .nil
theorem place_ok : ∀ x, placeS.pre x → FunOk Tryz.prog 122 (placeS.args x) (placeS.H x) (placeS.R x) := by
  rintro ⟨n, long, rise, change⟩ _
  refine fun_of (T := Twithin) (L := fun _ => none) (hs := fun _ => []) hmix Twithin_ok Tryz.func122 (by kernel_rfl) (by kernel_rfl) ?_
  refine Eq.mp (α :=
      let A0 := inM n (0 : Int) long; let A1 := Value.int IntKind.i64 (0 : Int); let A2 := Value.int IntKind.i64 long = Value.int IntKind.i64 long; True ∧ (Value.int IntKind.i64 n = Value.int IntKind.i64 n ∧ A1 = A1 ∧ A2 ∧ True) ∧ True ∧ True ∧ (Value.bool A0 = Value.bool A0 ∧ True) ∧ True ∧ (A2 ∧ Value.int IntKind.i64 rise = Value.int IntKind.i64 rise ∧ Value.int IntKind.i64 change = Value.int IntKind.i64 change ∧ True ∧ True) ∧ True)
    (by kernel_rfl) ?_
  simp only [eq_self, AE.goS]

theorem place_sound : Sound Tryz.prog 122 placeS.con := FSpec.sound _ (enter_of Tryz.func122 (by kernel_rfl) (by kernel_rfl)) place_ok

end AE.Soil

namespace AE.Soil
open Go AE Go.Proofs

abbrev pit0 : PitT := (0, (0, 0), (0, 0), (0, 0), 0, 0)
def rGroundL (g : GroundT) : LSpec UU where
  T := { i : Nat // i ≤ g.pits.length ∧ ∃ b : Int, pitsM g.long (-1) g.pits = pitsM g.long b (g.pits.drop i) ∧ (i = 0 → b = -1) ∧ (0 < i → b = (g.pits.getD (i - 1) pit0).1 ∧ 0 ≤ b ∧ b ≤ g.long) }
  fr := fun t => [(1, .ptr 1 0 0 0), (3, .i t.1)]
  H := fun _ => [.one (.ro .pit g.pits), .one (.cells (cGround g 0) 28)]
  mu := fun t => g.pits.length - t.1
def Trground : Tab UU := [(102, withinS.con), (103, rspanS.con)]
theorem Trground_ok : Trground.Sound Tryz.prog := .cons rin_sound (.cons rspan_sound .nil)
theorem rGround_ok : ∀ x, isGroundS.pre x → FunOk Tryz.prog 79 (isGroundS.args x) (isGroundS.H x) (isGroundS.R x) := by
  rintro ⟨long, rise, change, pits⟩ hl
  refine fun_of (T := Trground) (L := fun _ => some (.inv (rGroundL ⟨long, rise, change, pits⟩))) (hs := fun _ => []) hmix Trground_ok Tryz.func79 (by kernel_rfl) (by kernel_rfl) ?_
  refine Eq.mp (α :=
      let Af := nat_lit 0 = nat_lit 0 ∧ nat_lit 0 = nat_lit 0 ∧ nat_lit 0 = nat_lit 0; let A6 := (↑(List.length pits) : Int); let A7 := Value.int IntKind.i64 (0 : Int); let Ag := Value.int IntKind.i64 (20 : Int); let Ah := Value.int IntKind.i64 (40 : Int); let Ai := (-1 : Int); let Aj := Value.int IntKind.i64 (1000 : Int); let Ak := True ∧ pits = pits ∧ True; let A8 := Value.int IntKind.i64 long = Value.int IntKind.i64 long; let Al := Value.int IntKind.i64 change = Value.int IntKind.i64 change; let Am := Value.int IntKind.i64 rise = Value.int IntKind.i64 rise; let A3 := ((0 : Int), (0 : Int)); let An := !(inM long (0 : Int) (40 : Int)); let Ao := !(inM change (0 : Int) (20 : Int)); let Ap := !(inM rise (0 : Int) (1000 : Int)); let A4 := A7 = A7; let A1 := True ∧ ((Value.bool (groundM (GroundT.mk long rise change pits)) = Value.bool false) ∧ True) ∧ Ak; let A5 := A4 ∧ (Ag = Ag) ∧ True; let Aq := decide (A6 > (8 : Int)); let Ar := A4 ∧ (Aj = Aj) ∧ True; let As := True ∧ pits = pits ∧ (A8 ∧ Am ∧ Al ∧ (nat_lit 0 = nat_lit 0 ∧ nat_lit 0 = nat_lit 0 ∧ List.length pits = List.length pits) ∧ True) ∧ True; let At := ((0 : Int), ((A3, ((A3, ((A3, A3))))))); let AX := fun (i : Nat) => ∃ (b : Int), (((pitsM (GroundT.long (GroundT.mk long rise change pits)) Ai (GroundT.pits (GroundT.mk long rise change pits))) = (pitsM (GroundT.long (GroundT.mk long rise change pits)) b ((List.drop i (GroundT.pits (GroundT.mk long rise change pits)))))) ∧ (((i = (0 : Nat)) → (b = Ai)) ∧ (((0 : Nat) < i) → ((b = (Prod.fst ((List.getD (GroundT.pits (GroundT.mk long rise change pits)) ((i - (1 : Nat))) pit0)))) ∧ (((0 : Int) ≤ b) ∧ b ≤ GroundT.long (GroundT.mk long rise change pits)))))); let A0 : Type := { i : Nat // ((i ≤ (List.length (GroundT.pits (GroundT.mk long rise change pits)))) ∧ AX i) }; let Au := fun (x : A0) => Subtype.val x; let A2 := fun (x : A0) => (↑(Au x) : Int); let Av := fun (x : A0) => Value.int IntKind.i64 (A2 x); let Aw := fun (x : A0) => List.length pits - Au x; let Ax := fun (t : A0) => nat_lit 0 + (Int.toNat (A2 t)); let Ay := fun (t : A0) => A2 t < A6; let A9 := fun (t : A0) => IntKind.wrap IntKind.i64 ((A2 t - (1 : Int))); let Az := fun (t : A0) => nat_lit 0 + (Int.toNat (A9 t)); let AA := fun (t : A0) => List.getD pits (Ax t) At; let AB := fun (t : A0) => Prod.snd (AA t); let Aa := fun (t : A0) => Prod.fst (AA t); let AC := fun (t : A0) => Value.int IntKind.i64 (Aa t); let AD := fun (t : A0) => !(inM (Aa t) (0 : Int) long); let AE := fun (t : A0) => Prod.snd (AB t); let Ab := fun (t : A0) => Prod.fst (AB t); let AF := fun (t : A0) => Value.int IntKind.i64 ((Prod.snd (Ab t))); let AG := fun (t : A0) => Value.int IntKind.i64 ((Prod.fst (Ab t))); let AH := fun (t : A0) => Prod.snd (AE t); let Ac := fun (t : A0) => Prod.fst (AE t); let Ad := fun (t : A0) => Prod.snd (AH t); let Ae := fun (t : A0) => Prod.fst (AH t); let AI := fun (t : A0) => Value.int IntKind.i64 ((Prod.fst (Ac t))); let AJ := fun (t : A0) => Value.int IntKind.i64 ((Prod.snd (Ac t))); let AK := fun (t : A0) => !(rspanM (Ab t) (0 : Int) (1000 : Int)); let AL := fun (t : A0) => Value.int IntKind.i64 ((Prod.fst (Ae t))); let AM := fun (t : A0) => Value.int IntKind.i64 ((Prod.snd (Ae t))); let AN := fun (t : A0) => Value.int IntKind.i64 ((Prod.fst (Ad t))); let AO := fun (t : A0) => Value.int IntKind.i64 ((Prod.snd (Ad t))); let AP := fun (t : A0) => !(rspanM (Ac t) (0 : Int) (20 : Int)); let AQ := fun (t : A0) => !(rspanM (Ae t) (0 : Int) (20 : Int)); let AR := fun (t : A0) => !(rspanM (Ad t) (0 : Int) (20 : Int)); let AS := fun (t : A0) => decide ((A2 t > (0 : Int))); let AT := fun (t : A0) => decide (Ay t); let AU := fun (t : A0) => decide ((Aa t ≤ (Prod.fst ((List.getD pits (Az t) At))))); let AY := fun (t : A0) => ∃ (x : A0), (((Af ∧ (((Value.int IntKind.i64 ((IntKind.wrap IntKind.i64 ((A2 t + (1 : Int)))))) = Av x) ∧ True)) ∧ As) ∧ Aw x < Aw t); let AV := fun (t : A0) => ((AG t = AG t) ∧ (AF t = AF t) ∧ True) ∧ Ar; let AW := fun (t : A0) => ((AK t = true) → A1) ∧ ((AK t = false) → (True ∧ ((((AI t = AI t) ∧ (AJ t = AJ t) ∧ True) ∧ A5) ∧ (True ∧ (((AP t = true) → A1) ∧ ((AP t = false) → (True ∧ ((((AL t = AL t) ∧ (AM t = AM t) ∧ True) ∧ A5) ∧ (True ∧ (((AQ t = true) → A1) ∧ ((AQ t = false) → (True ∧ ((((AN t = AN t) ∧ (AO t = AO t) ∧ True) ∧ A5) ∧ (True ∧ (((AR t = true) → A1) ∧ ((AR t = false) → (True ∧ AY t))))))))))))))))); True ∧ (A8 ∧ A4 ∧ Ah = Ah ∧ True) ∧ True ∧ (An = true → A1) ∧ (An = false → True ∧ (Am ∧ Ar) ∧ True ∧ (Ap = true → A1) ∧ (Ap = false → True ∧ (Al ∧ A5) ∧ True ∧ (Ao = true → A1) ∧ (Ao = false → (Aq = true → A1) ∧ (Aq = false → (∃ (x : A0), (Af ∧ A7 = Av x ∧ True) ∧ As) ∧ ∀ (t : A0), (AT t = true → ((0 : Int) ≤ A2 t ∧ Ay t) ∧ Ax t < List.length pits ∧ True ∧ (AC t = AC t ∧ A4 ∧ A8 ∧ True) ∧ True ∧ (AD t = true → A1) ∧ (AD t = false → (AS t = true → ((0 : Int) ≤ A9 t ∧ A9 t < A6) ∧ Az t < List.length pits ∧ (AU t = true → A1) ∧ (AU t = false → True ∧ AV t ∧ True ∧ AW t)) ∧ (AS t = false → True ∧ AV t ∧ True ∧ AW t))) ∧ (AT t = false → True ∧ (Value.bool (groundM (GroundT.mk long rise change pits)) = Value.bool true ∧ True) ∧ Ak))))))
    (by kernel_rfl) ?_
  simp only [eq_self, true_and, and_true, Int.toNat_natCast, Nat.zero_add]
  simp only [isGroundS] at hl
  have no : ∀ b : Bool, (!b) = true → b = false := by intro b; cases b <;> simp
  have yes : ∀ b : Bool, (!b) = false → b = true := by intro b; cases b <;> simp
  have rs : ∀ (s : Span) (n : Int), rspanM s 0 n = spanM s n := fun _ _ => rfl
  refine ⟨fun h => ?_, fun h1 => ⟨fun h => ?_, fun h2 => ⟨fun h => ?_, fun h3 => ⟨fun h => ?_, fun h4 => ⟨⟨⟨0, by simp, -1, by simp⟩, by simp⟩, ?_⟩⟩⟩⟩⟩
  · simp [groundM, no _ h]
  · simp [groundM, no _ h]
  · simp [groundM, no _ h]
  · have : ¬ ((pits.length : Int) ≤ 8) := by simp at h; omega
    simp [groundM, this]
  · have h4' : (pits.length : Int) ≤ 8 := by simp at h4; omega
    have hg : groundM ⟨long, rise, change, pits⟩ = pitsM long (-1) pits := by simp [groundM, yes _ h1, yes _ h2, yes _ h3, h4']
    have hl40 : 0 ≤ long ∧ long ≤ 40 := by have := yes _ h1; simpa [inM] using this
    rintro ⟨i, hi, b, hp, hb0, hb1⟩
    simp only at hi hp hb0 hb1 ⊢
    refine ⟨fun h => ?_, fun h => ?_⟩
    · have hlt : i < pits.length := by simp at h; omega
      have hd : pits.drop i = pits.getD i pit0 :: pits.drop (i + 1) := by
        rw [List.drop_eq_getElem_cons hlt]; simp [hlt]
      have key := hp
      rw [hd] at key
      obtain ⟨p, hpe⟩ : ∃ p, pits.getD i pit0 = p := ⟨_, rfl⟩
      rw [hpe] at key ⊢
      simp only [pitsM, okPitM] at key
      refine ⟨⟨by omega, by omega⟩, hlt, fun k1 => ?_, fun k1 => ⟨fun k0 => ?_, fun k0 => ?_⟩⟩
      · have hn := no _ k1
        have hin : inM p.1 (W (b + 1)) long = false := by
          rcases Nat.eq_zero_or_pos i with h0 | h0
          · rw [hb0 h0]; exact hn
          · have hh := hb1 h0
            have hw : W (b + 1) = b + 1 := wrap_id (by omega) (by omega)
            rw [hw]
            simp [inM] at hn ⊢
            omega
        rw [hg, key, hin]; simp
      · have hy := yes _ k1
        have h0 : 0 < i := by simp at k0; omega
        have hh := hb1 h0
        have hw : W (b + 1) = b + 1 := wrap_id (by omega) (by omega)
        have hw1 : IntKind.i64.wrap ((i : Int) - 1) = (i : Int) - 1 := wrap_id (by omega) (by omega)
        have ht : ((i : Int) - 1).toNat = i - 1 := by omega
        obtain ⟨hlo, hhi⟩ : 0 ≤ p.1 ∧ p.1 ≤ long := by simpa [inM] using hy
        rw [hw1, ht, ← hh.1]
        refine ⟨⟨by omega, by omega⟩, by omega, fun k => ?_, fun k => ?_⟩
        · have hin : inM p.1 (W (b + 1)) long = false := by
            rw [hw]; simp at k; simp [inM]; omega
          rw [hg, key, hin]; simp
        · have hin : inM p.1 (W (b + 1)) long = true := by
            rw [hw]; simp at k; simp [inM]; omega
          refine ⟨fun k2 => ?_, fun k2 => ⟨fun k3 => ?_, fun k3 => ⟨fun k4 => ?_, fun k4 => ⟨fun k5 => ?_, fun k5 => ?_⟩⟩⟩⟩
          · have := no _ k2; rw [rs] at this; rw [hg, key]; simp [this]
          · have := no _ k3; rw [rs] at this; rw [hg, key]; simp [this]
          · have := no _ k4; rw [rs] at this; rw [hg, key]; simp [this]
          · have := no _ k5; rw [rs] at this; rw [hg, key]; simp [this]
          · have y2 := yes _ k2
            have y3 := yes _ k3
            have y4 := yes _ k4
            have y5 := yes _ k5
            rw [rs] at y2 y3 y4 y5
            refine ⟨⟨i + 1, by omega, p.1, ?_, by omega, fun _ => ⟨by rw [Nat.add_sub_cancel, hpe], hlo, hhi⟩⟩, ?_⟩
            · rw [key, hin, y2, y3, y4, y5]; simp
            · have hw : IntKind.i64.wrap ((i : Int) + 1) = (i : Int) + 1 := wrap_id (by omega) (by omega)
              simp [hw]
              omega
      · have hy := yes _ k1
        have h0 : i = 0 := by simp at k0; omega
        obtain ⟨hlo, hhi⟩ : 0 ≤ p.1 ∧ p.1 ≤ long := by simpa [inM] using hy
        have hin : inM p.1 (W (b + 1)) long = true := by rw [hb0 h0]; exact hy
        refine ⟨fun k2 => ?_, fun k2 => ⟨fun k3 => ?_, fun k3 => ⟨fun k4 => ?_, fun k4 => ⟨fun k5 => ?_, fun k5 => ?_⟩⟩⟩⟩
        · have := no _ k2; rw [rs] at this; rw [hg, key]; simp [this]
        · have := no _ k3; rw [rs] at this; rw [hg, key]; simp [this]
        · have := no _ k4; rw [rs] at this; rw [hg, key]; simp [this]
        · have := no _ k5; rw [rs] at this; rw [hg, key]; simp [this]
        · have y2 := yes _ k2
          have y3 := yes _ k3
          have y4 := yes _ k4
          have y5 := yes _ k5
          rw [rs] at y2 y3 y4 y5
          refine ⟨⟨i + 1, by omega, p.1, ?_, by omega, fun _ => ⟨by rw [Nat.add_sub_cancel, hpe], hlo, hhi⟩⟩, ?_⟩
          · rw [key, hin, y2, y3, y4, y5]; simp
          · have hw : IntKind.i64.wrap ((i : Int) + 1) = (i : Int) + 1 := wrap_id (by omega) (by omega)
            simp [hw]
            omega
    · have : i = pits.length := by simp at h; omega
      subst this
      rw [hg, hp]
      simp [pitsM]

theorem rGround_sound : Sound Tryz.prog 79 isGroundS.con := FSpec.sound _ (enter_of Tryz.func79 (by kernel_rfl) (by kernel_rfl)) rGround_ok

end AE.Soil

namespace AE.Soil
open Go AE Go.Proofs

def farM (p : PitT) (at_ rise : Int) : Int := W (max (W (at_ - p.1)) (W (p.1 - at_)) * rise)
def dugM (p : PitT) (at_ rise : Int) : Span := (W (p.2.1.1 - farM p at_ rise), W (p.2.1.2 + farM p at_ rise))
def avPit : AV → Option PitT
  | .agg [a, b, c, d, e, f, g, h, i] => match avInt a, avInt b, avInt c, avInt d, avInt e, avInt f, avInt g, avInt h, avInt i with
    | some a, some b, some c, some d, some e, some f, some g, some h, some i => some (a, (b, c), (d, e), (f, g), (h, i))
    | _, _, _, _, _, _, _, _, _ => none
  | _ => none
def limitS : FSpec UU where
  X := Int × Int
  pick := fun args _ => match args with
    | [_, b, c] => match avInt b, avInt c with
      | some b, some c => some (b, c)
      | _, _ => none
    | _ => none
  args := fun x => [.agg [], .i x.1, .i x.2]
  H := fun _ => []
  R := fun _ => .val ⟨vSpan (0, 1000), [], [], []⟩
theorem limit_ok : ∀ x, limitS.pre x → FunOk Tryz.prog 155 (limitS.args x) (limitS.H x) (limitS.R x) := by
  rintro ⟨a, b⟩ _
  refine fun_of (T := []) (L := fun _ => none) (hs := fun _ => []) hmix .nil Tryz.func155 (by kernel_rfl) (by kernel_rfl) ?_
  refine Eq.mp (α :=
      let A0 := Value.int IntKind.i64 (0 : Int); let A1 := Value.int IntKind.i64 (1000 : Int); True ∧ ((A0 = A0 ∧ A1 = A1 ∧ True) ∧ True) ∧ True ∧ True)
    (by kernel_rfl) ?_
  simp

theorem limit_sound : Sound Tryz.prog 155 limitS.con := FSpec.sound _ (enter_of Tryz.func155 (by kernel_rfl) (by kernel_rfl)) limit_ok
def dugS : FSpec UU where
  X := PitT × Int × Int
  pick := fun args _ => match args with
    | [a, b, c] => match avPit a, avInt b, avInt c with
      | some a, some b, some c => some (a, b, c)
      | _, _, _ => none
    | _ => none
  args := fun x => [.agg (encP x.1), .i x.2.1, .i x.2.2]
  H := fun _ => []
  R := fun x => .val ⟨vSpan (dugM x.1 x.2.1 x.2.2), [], [], []⟩
theorem dug_ok : ∀ x, dugS.pre x → FunOk Tryz.prog 156 (dugS.args x) (dugS.H x) (dugS.R x) := by
  rintro ⟨⟨p, ⟨a, b⟩, ⟨c, d⟩, ⟨e, f⟩, ⟨g, h⟩⟩, n, r⟩ _
  refine fun_of (T := []) (L := fun _ => none) (hs := fun _ => []) hmix .nil Tryz.func156 (by kernel_rfl) (by kernel_rfl) ?_
  refine Eq.mp (α :=
      let A0 := IntKind.wrap IntKind.i64 ((max (IntKind.wrap IntKind.i64 (n - p)) (IntKind.wrap IntKind.i64 (p - n))) * r); let A1 := (p, (a, b), (((c, d), (((e, f), g, h))))); True ∧ ((Value.int IntKind.i64 (IntKind.wrap IntKind.i64 (a - A0)) = Value.int IntKind.i64 (Prod.fst (dugM A1 n r)) ∧ Value.int IntKind.i64 (IntKind.wrap IntKind.i64 (b + A0)) = Value.int IntKind.i64 (Prod.snd (dugM A1 n r)) ∧ True) ∧ True) ∧ True ∧ True)
    (by kernel_rfl) ?_
  simp only [eq_self, AE.goS]
  exact ⟨rfl, rfl⟩

theorem dug_sound : Sound Tryz.prog 156 dugS.con := FSpec.sound _ (enter_of Tryz.func156 (by kernel_rfl) (by kernel_rfl)) dug_ok

def placesS : FSpec UU where
  X := Bool
  pick := fun args _ => match args with
    | [.ptr _ _ _ _, b] => avBool b
    | _ => none
  args := fun (b : Bool) => [.ptr 0 0 0 0, .b b]
  H := fun _ => [.one (.rc [.junk, .junk, .junk, .junk, .junk, .junk] 166)]
  R := fun (b : Bool) => .val ⟨.fn (.func 131) [] [.ptr 1 0 0 0, .ptr 2 0 0 0], [], [], [.cells [.ptr 0 0 0 0] 167, .cells [.b b] 4]⟩
theorem places_ok : ∀ x, placesS.pre x → FunOk Tryz.prog 125 (placesS.args x) (placesS.H x) (placesS.R x) := by
  intro (b : Bool) _
  refine fun_of (T := []) (L := fun _ => none) (hs := fun _ => []) hmix .nil Tryz.func125 (by kernel_rfl) (by kernel_rfl) ?_
  refine Eq.mp (α :=
      let A0 := nat_lit 0 = nat_lit 0 ∧ nat_lit 0 = nat_lit 0 ∧ nat_lit 0 = nat_lit 0; True ∧ ((Fn.func (nat_lit 131) = Fn.func (131 : FuncId) ∧ True ∧ A0 ∧ A0 ∧ True) ∧ True) ∧ True ∧ (True ∧ True ∧ True ∧ True ∧ True ∧ True ∧ True) ∧ (A0 ∧ True) ∧ (Value.bool b = Value.bool b ∧ True) ∧ True)
    (by kernel_rfl) ?_
  simp

theorem places_sound : Sound Tryz.prog 125 placesS.con := FSpec.sound _ (enter_of Tryz.func125 (by kernel_rfl) (by kernel_rfl)) places_ok
end AE.Soil

namespace AE.Soil
open Go AE Go.Proofs

abbrev t0 : Bool × PitT := (true, 0, (0, 0), (0, 0), (0, 0), 0, 0)
def tellsM (l : List PitT) : List (Bool × PitT) := l.foldl (fun a p => a ++ [(false, p)]) [t0]
theorem tells_go : ∀ (l : List PitT) (a : List (Bool × PitT)), l.foldl (fun a p => a ++ [(false, p)]) a = a ++ l.map fun p => (false, p)
  | [], a => by simp
  | p :: l, a => by rw [List.foldl_cons, tells_go l]; simp
theorem tells_eq (l : List PitT) : tellsM l = t0 :: l.map fun p => (false, p) := tells_go l [t0]
theorem tells_snoc (l : List PitT) (p : PitT) : tellsM (l ++ [p]) = tellsM l ++ [(false, p)] := by rw [tells_eq, tells_eq]; simp
theorem tells_len (l : List PitT) : (tellsM l).length = l.length + 1 := by rw [tells_eq]; simp
def tellM (t : Bool × PitT) (at_ rise : Int) : Span := if t.1 then (0, 1000) else dugM t.2 at_ rise
def hardTM (l : List (Bool × PitT)) (rise at_ : Int) : Span := l.foldl (fun s t => bothM s (tellM t at_ rise)) (0, 1000)
def hardM (g : GroundT) (at_ : Int) : Span := hardTM (tellsM g.pits) g.rise at_
def pmapM (l : List PitT) : List (Int × Mix3) := l.map fun p => (p.1, p.2.2)
def mixAtM (l : List (Int × Mix3)) (at_ : Int) : Mix3 := if mhasM UU MM.pits [at_] l then andM anyM (mgetM UU MM.pits [at_] l).2 else anyM
abbrev m0 : Mix3 := ((0, 0), (0, 0), 0, 0)
def nM (g : GroundT) : Nat := (g.long + 1).toNat
def hardsM (g : GroundT) (i : Nat) : List Span := (List.range (nM g)).map fun j => if j < i then hardM g (j : Int) else (0, 0)
def mixesM (g : GroundT) (i : Nat) : List Mix3 := (List.range (nM g)).map fun j => if j < i then mixAtM (pmapM g.pits) (j : Int) else m0
def idxM (n : Nat) (back : Bool) (k : Nat) : Nat := if back then n - 1 - k else k
def accM (l : List Mix3) (back : Bool) (change : Int) : Nat → Mix3
  | 0 => l.getD (idxM l.length back 0) m0
  | k + 1 => andM (l.getD (idxM l.length back (k + 1)) m0) (nextM (accM l back change k) change)
def passM (l : List Mix3) (back : Bool) (change : Int) (k : Nat) : List Mix3 := (List.range l.length).map fun j => if idxM l.length back j < k then accM l back change (idxM l.length back j) else l.getD j m0
def nowM (l : List Mix3) (back : Bool) (change : Int) : Nat → Mix3
  | 0 => m0
  | k + 1 => accM l back change k
def stageM (g : GroundT) : Nat → List Mix3
  | 0 => mixesM g (nM g)
  | i + 1 => passM (stageM g i) (i == 1) g.change (nM g)
def boxesM (g : GroundT) : List Mix3 := stageM g 2
def badM (g : GroundT) (j : Nat) : Bool := decide ((hardM g (j : Int)).1 > (hardM g (j : Int)).2) || noneM ((boxesM g).getD j m0)
def lookM (g : GroundT) : Bool := (List.range (nM g)).all fun j => !badM g j
theorem hards_len (g : GroundT) (i : Nat) : (hardsM g i).length = nM g := by simp [hardsM]
theorem mixes_len (g : GroundT) (i : Nat) : (mixesM g i).length = nM g := by simp [mixesM]
theorem pass_len (l : List Mix3) (b : Bool) (c : Int) (k : Nat) : (passM l b c k).length = l.length := by simp [passM]
theorem stage_len (g : GroundT) : ∀ i, (stageM g i).length = nM g
  | 0 => mixes_len g _
  | i + 1 => by unfold stageM; rw [pass_len, stage_len g i]
def SpOk (s : Span) (n : Int) : Prop := 0 ≤ s.1 ∧ s.1 ≤ s.2 ∧ s.2 ≤ n
structure PitOk (long : Int) (p : PitT) : Prop where
  at_ : 0 ≤ p.1 ∧ p.1 ≤ long
  hard : SpOk p.2.1 1000
  sand : SpOk p.2.2.1 20
  silt : SpOk p.2.2.2.1 20
  clay : SpOk p.2.2.2.2 20
structure GOk (g : GroundT) : Prop where
  long : 0 ≤ g.long ∧ g.long ≤ 40
  rise : 0 ≤ g.rise ∧ g.rise ≤ 1000
  change : 0 ≤ g.change ∧ g.change ≤ 20
  len : g.pits.length ≤ 8
  pits : ∀ p ∈ g.pits, PitOk g.long p
  inc : g.pits.Pairwise fun p q => p.1 < q.1
theorem inM_iff {n lo hi : Int} : inM n lo hi = true ↔ lo ≤ n ∧ n ≤ hi := by simp [inM]
theorem spanM_iff {s : Span} {n : Int} : spanM s n = true ↔ SpOk s n := by simp [spanM, SpOk, and_assoc]
theorem pits_go {long : Int} (hl : long ≤ 40) : ∀ (l : List PitT) (b : Int), -1 ≤ b → b ≤ 40 → pitsM long b l = true → (∀ p ∈ l, b < p.1 ∧ PitOk long p) ∧ l.Pairwise fun p q => p.1 < q.1
  | [], b, _, _, _ => ⟨fun p hp => (by cases hp), List.Pairwise.nil⟩
  | q :: l, b, h1, h2, h => by
    have hw : W (b + 1) = b + 1 := wrap_id (by omega) (by omega)
    simp only [pitsM, okPitM, Bool.and_eq_true, inM_iff, spanM_iff, hw] at h
    obtain ⟨⟨⟨⟨⟨a1, a2⟩, a3⟩, a4⟩, a5⟩, h⟩ := h
    obtain ⟨i1, i2⟩ := pits_go hl l q.1 (by omega) (by omega) h
    refine ⟨fun p hp => ?_, List.Pairwise.cons (fun p hp => (i1 p hp).1) i2⟩
    rcases List.mem_cons.1 hp with rfl | hp
    · exact ⟨by omega, ⟨by omega, by omega⟩, a2, a3, a4, a5⟩
    · exact ⟨by have := (i1 p hp).1; omega, (i1 p hp).2⟩
theorem ground_ok {g : GroundT} (h : groundM g = true) : GOk g := by
  simp only [groundM, Bool.and_eq_true, inM_iff, decide_eq_true_eq] at h
  obtain ⟨⟨⟨⟨a1, a2⟩, a3⟩, a4⟩, h⟩ := h
  obtain ⟨i1, i2⟩ := pits_go a1.2 g.pits (-1) (by omega) (by omega) h
  exact ⟨a1, a2, a3, by omega, fun p hp => (i1 p hp).2, i2⟩
theorem n_ok {g : GroundT} (h : GOk g) : ((nM g : Nat) : Int) = g.long + 1 ∧ 0 < nM g ∧ nM g ≤ 41 := by
  have := h.long
  unfold nM; omega

theorem map_set {α : Type} (n : Nat) (f f' : Nat → α) (i : Nat) (x : α) (hi : i < n) (hx : x = f' i) (h : ∀ j, j < n → j ≠ i → f' j = f j) : ((List.range n).map f).set i x = (List.range n).map f' := by
  refine List.ext_getElem (by simp) fun j h1 h2 => ?_
  have hj : j < n := by simpa using h2
  rw [List.getElem_set]
  by_cases he : i = j
  · subst he; simp [hx]
  · rw [if_neg he]; simp [h j hj (fun e => he e.symm)]
theorem map_get {α : Type} (n : Nat) (f : Nat → α) (i : Nat) (d : α) (hi : i < n) : ((List.range n).map f).getD i d = f i := by
  rw [List.getD_eq_getElem?_getD, List.getElem?_eq_getElem (by simpa using hi)]; simp
theorem hards_set {g : GroundT} {k : Nat} (hk : k < nM g) {x : Span} (hx : x = hardM g (k : Int)) : (hardsM g k).set k x = hardsM g (k + 1) := by
  unfold hardsM
  refine map_set _ _ (fun j => if j < k + 1 then hardM g (j : Int) else (0, 0)) k x hk (by rw [if_pos (by omega)]; exact hx) fun j _ hne => ?_
  by_cases h : j < k
  · rw [if_pos h, if_pos (by omega)]
  · rw [if_neg h, if_neg (by omega)]
theorem mixes_set {g : GroundT} {k : Nat} (hk : k < nM g) {x : Mix3} (hx : x = mixAtM (pmapM g.pits) (k : Int)) : (mixesM g k).set k x = mixesM g (k + 1) := by
  unfold mixesM
  refine map_set _ _ (fun j => if j < k + 1 then mixAtM (pmapM g.pits) (j : Int) else m0) k x hk (by rw [if_pos (by omega)]; exact hx) fun j _ hne => ?_
  by_cases h : j < k
  · rw [if_pos h, if_pos (by omega)]
  · rw [if_neg h, if_neg (by omega)]
theorem idx_lt {n k : Nat} (b : Bool) (hk : k < n) : idxM n b k < n := by unfold idxM; split <;> omega
theorem idx_idx {n k : Nat} (b : Bool) (hk : k < n) : idxM n b (idxM n b k) = k := by unfold idxM; split <;> omega
theorem pass_get (l : List Mix3) (b : Bool) (c : Int) {k : Nat} (hk : k < l.length) : (passM l b c k).getD (idxM l.length b k) m0 = l.getD (idxM l.length b k) m0 := by
  unfold passM
  rw [map_get _ _ _ _ (idx_lt b hk), idx_idx b hk, if_neg (Nat.lt_irrefl _)]
theorem pass_set (l : List Mix3) (b : Bool) (c : Int) {k : Nat} (hk : k < l.length) {x : Mix3} (hx : x = accM l b c k) : (passM l b c k).set (idxM l.length b k) x = passM l b c (k + 1) := by
  unfold passM
  refine map_set _ _ (fun j => if idxM l.length b j < k + 1 then accM l b c (idxM l.length b j) else l.getD j m0) _ x (idx_lt b hk) ?_ fun j hj hne => ?_
  · rw [idx_idx b hk, if_pos (by omega)]; exact hx
  · have h0 : idxM l.length b j ≠ k := fun e => hne (by rw [← e, idx_idx b hj])
    by_cases h : idxM l.length b j < k
    · rw [if_pos h, if_pos (by omega)]
    · rw [if_neg h, if_neg (by omega)]
theorem pass_zero (l : List Mix3) (b : Bool) (c : Int) : passM l b c 0 = l := by
  unfold passM
  refine List.ext_getElem (by simp) fun j h1 h2 => ?_
  simp [List.getD_eq_getElem?_getD, List.getElem?_eq_getElem h2]
theorem six {a b : Mix3} (h : a = b) : a.1.1 = b.1.1 ∧ a.1.2 = b.1.2 ∧ a.2.1.1 = b.2.1.1 ∧ a.2.1.2 = b.2.1.2 ∧ a.2.2.1 = b.2.2.1 ∧ a.2.2.2 = b.2.2.2 := by
  subst h; exact ⟨rfl, rfl, rfl, rfl, rfl, rfl⟩
theorem take_snoc {α : Type} (l : List α) (i : Nat) (h : i < l.length) (d : α) : l.take (i + 1) = l.take i ++ [l.getD i d] := by
  rw [List.take_add_one, List.getD_eq_getElem?_getD, List.getElem?_eq_getElem h]; rfl
theorem sucI (i : Nat) (h : i < 1000000000) : IntKind.i64.wrap ((i : Int) + 1) = ((i + 1 : Nat) : Int) := by rw [wrap_id (by omega) (by omega)]; rfl
theorem dec1 {N b : Nat} (h : b < N) : N - (b + 1) < N - b := by omega
theorem hardT_suc (l : List (Bool × PitT)) (rise at_ : Int) (i : Nat) (h : i < l.length) : hardTM (l.take (i + 1)) rise at_ = bothM (hardTM (l.take i) rise at_) (tellM (l.getD i t0) at_ rise) := by
  unfold hardTM
  rw [take_snoc l i h t0, List.foldl_append]; rfl
theorem pmap_put {ps : List PitT} (hi : ps.Pairwise fun p q => p.1 < q.1) {i : Nat} (h : i < ps.length) : mputM UU MM.pits [(ps.getD i pit0).1] ((ps.getD i pit0).1, (ps.getD i pit0).2.2) (pmapM (ps.take i)) = pmapM (ps.take (i + 1)) := by
  have hnone : mfind UU MM.pits [(ps.getD i pit0).1] (pmapM (ps.take i)) = none := by
    refine (List.find?_eq_none (p := fun e : Int × Mix3 => decide ([(ps.getD i pit0).1] = [e.1])) (l := pmapM (ps.take i))).2 ?_
    intro e he
    unfold pmapM at he
    obtain ⟨p, hp, rfl⟩ := List.mem_map.1 he
    obtain ⟨j, hj, rfl⟩ := List.mem_take_iff_getElem.1 hp
    have hlt := List.pairwise_iff_getElem.1 hi j i (by omega) h (by omega)
    have hg : ps.getD i pit0 = ps[i] := by rw [List.getD_eq_getElem?_getD, List.getElem?_eq_getElem h]; rfl
    rw [hg]
    have : ¬ [ps[i].1] = [ps[j].1] := by
      intro e
      have : ps[i].1 = ps[j].1 := by simpa using e
      omega
    simpa using this
  unfold mputM
  rw [hnone]
  show pmapM (ps.take i) ++ [((ps.getD i pit0).1, (ps.getD i pit0).2.2)] = _
  rw [take_snoc ps i h pit0]
  unfold pmapM
  rw [List.map_append]; rfl
theorem pass_first (l : List Mix3) (b : Bool) (c : Int) (h : 0 < l.length) : (passM l b c 0).getD (idxM l.length b 0) m0 = accM l b c 0 := pass_get l b c h
theorem pass_next (l : List Mix3) (b : Bool) (c : Int) {k : Nat} (hk : k < l.length) (h0 : k ≠ 0) : andM ((passM l b c k).getD (idxM l.length b k) m0) (nextM (nowM l b c k) c) = accM l b c k := by
  obtain ⟨j, rfl⟩ : ∃ j, k = j + 1 := ⟨k - 1, by omega⟩
  rw [pass_get l b c hk]; rfl
theorem look_bad {g : GroundT} {j : Nat} (hj : j < nM g) (h : badM g j = true) : lookM g = false := by
  unfold lookM
  rw [List.all_eq_false]
  exact ⟨j, List.mem_range.2 hj, by rw [h]; decide⟩
theorem look_good {g : GroundT} (h : ∀ j, j < nM g → badM g j = false) : lookM g = true := by
  unfold lookM
  rw [List.all_eq_true]
  intro j hj
  rw [h j (List.mem_range.1 hj)]; rfl
theorem hards_get {g : GroundT} {k : Nat} (hk : k < nM g) : (hardsM g (nM g)).getD k (0, 0) = hardM g (k : Int) := by
  unfold hardsM
  rw [map_get _ _ _ _ hk, if_pos hk]
theorem mixAt_yes {l : List (Int × Mix3)} {a : Int} (h : mhasM UU MM.pits [a] l = true) : mixAtM l a = andM anyM (mgetM UU MM.pits [a] l).2 := by
  unfold mixAtM; rw [h]; rfl
theorem mixAt_no {l : List (Int × Mix3)} {a : Int} (h : mhasM UU MM.pits [a] l = false) : mixAtM l a = anyM := by
  unfold mixAtM; rw [h]; rfl
end AE.Soil

namespace AE.Soil
open Go AE Go.Proofs

def onlyAt (n : Nat) (i : ItW UU) (k : Nat) : Option (ItW UU) := match Nat.beq k n with
  | true => some i
  | false => none
theorem onlyAt_ok {n : Nat} {i : ItW UU} (h : ItOk Tryz.prog i) : ∀ k j, onlyAt n i k = some j → ItOk Tryz.prog j := by
  intro k j hk
  unfold onlyAt at hk
  split at hk
  · cases hk; exact h
  · cases hk
theorem it_ok {L : Nat → Nat → Option (LRule UU)} : ItOk Tryz.prog (itOf Tryz.prog [] 131 Tryz.f131 L) :=
  itOf_ok hmix .nil Tryz.func131 (by kernel_rfl) (by kernel_rfl) (enter_of Tryz.func131 (by kernel_rfl) (by kernel_rfl))
def itFr (l c1 c2 : Nat) : Fr := [(0, .fn (.yield l) [] []), (1, .ptr c1 0 0 0), (2, .ptr c2 0 0 0)]
def lookHp (g : GroundT) (hs : List Span) (ms : List Mix3) (tl : List (Bool × PitT)) (mp : List (Int × Mix3)) : Heap UU := [.one (.ro .pit g.pits), .one (.cells (cGround g 0) 28), .one (.cells [.v (.pointer none)] 167), .one (.cells [.b false] 4), .one (.row .span hs 23), .one (.row .mix ms 181),
  .one (.cells [.i g.long, .i g.rise, .i g.change, .sl 0 0 0 g.pits.length, .gs 4 0, .gs 5 0] 166), .one (.cells [.ptr 6 0 0 0] 167), .one (.row .tell tl 186), .one (.cells [.gs 8 0] 177), .one (.map .pits mp), .one (.cells [.map 10 0] 178)]
def lookF : Fr := [(1, .ptr 1 0 0 0), (2, .ptr 2 0 0 0), (3, .ptr 3 0 0 0), (4, .ptr 7 0 0 0), (5, .ptr 9 0 0 0), (6, .ptr 11 0 0 0)]
def gCell : AB UU := .one (.cells [.ptr 6 0 0 0] 167)
def bCell (b : Bool) : AB UU := .one (.cells [.b b] 4)
def ffCell : AB UU := .one (.cells [.ff] 4)
def lookL1 (g : GroundT) : LSpec UU where
  T := { i : Nat // i ≤ g.pits.length }
  fr := fun i => lookF ++ [(38, .sl 0 0 0 g.pits.length), (39, .i g.pits.length), (40, .i i.1)]
  H := fun i => lookHp g (hardsM g 0) (mixesM g 0) (tellsM (g.pits.take i.1)) (pmapM (g.pits.take i.1))
  mu := fun i => g.pits.length - i.1
def lookHa (g : GroundT) (k : Nat) : Heap UU := lookHp g (hardsM g k) (mixesM g k) (tellsM g.pits) (pmapM g.pits) ++ [gCell, ffCell]
def lookI1 (g : GroundT) (l : Nat) : LSpec UU where
  T := { k : Nat // k ≤ nM g }
  fr := fun k => itFr l 12 13 ++ [(10, .i (nM g : Nat)), (11, .i k.1)]
  H := fun k => lookHa g k.1
  mu := fun k => nM g - k.1
def lookL2 (g : GroundT) : LSpec UU where
  T := { p : Nat × Nat // p.1 < nM g ∧ p.2 ≤ (tellsM g.pits).length }
  fr := fun p => lookF ++ [(9, .i p.1.1), (10, .ptr 14 0 0 0), (70, .gs 8 0), (71, .i (tellsM g.pits).length), (72, .i p.1.2)]
  H := fun p => lookHa g p.1.1 ++ [.one (.cells [.i (hardTM ((tellsM g.pits).take p.1.2) g.rise p.1.1).1, .i (hardTM ((tellsM g.pits).take p.1.2) g.rise p.1.1).2] 23)]
  mu := fun p => (tellsM g.pits).length - p.1.2
def lookHb (g : GroundT) (ms : List Mix3) : Heap UU := lookHp g (hardsM g (nM g)) ms (tellsM g.pits) (pmapM g.pits) ++ [.one (.row .bool [false, true] 4)]
def lookSt (i : Int) : Fr := lookF ++ [(120, .gs 12 0), (121, .i 2), (122, .i i)]
def mCell (m : Mix3) : AB UU := .one (.cells [.i m.1.1, .i m.1.2, .i m.2.1.1, .i m.2.1.2, .i m.2.2.1, .i m.2.2.2] 181)
def lookI2 (g : GroundT) (l : Nat) : LSpec UU where
  T := { p : Nat × Nat // p.1 < 2 ∧ p.2 ≤ nM g }
  fr := fun p => itFr l 15 16 ++ [(10, .i (nM g : Nat)), (11, .i p.1.2)]
  H := fun p => lookHb g (passM (stageM g p.1.1) (p.1.1 == 1) g.change p.1.2) ++ [mCell (nowM (stageM g p.1.1) (p.1.1 == 1) g.change p.1.2), bCell (p.1.2 == 0), gCell, bCell (p.1.1 == 1)]
  mu := fun p => nM g - p.1.2
def lookI3 (g : GroundT) (l : Nat) : LSpec UU where
  T := { k : Nat // k ≤ nM g ∧ ∀ j, j < k → badM g j = false }
  fr := fun k => itFr l 13 14 ++ [(10, .i (nM g : Nat)), (11, .i k.1)]
  H := fun _ => lookHb g (boxesM g) ++ [gCell, ffCell]
  mu := fun k => nM g - k.1
def lookLs (g : GroundT) (k : Nat) : Option (LRule UU) :=
  match k with
  | 5 => some (.inv (lookL1 g))
  | 14 => some (.invR (lookL2 g) fun a b => b.1.1 = a.1.1)
  | 23 => some (.steps [(lookSt 0, lookHb g (stageM g 0)), (lookSt 1, lookHb g (stageM g 1)), (lookSt 2, lookHb g (stageM g 2))])
  | _ => none
def at3 (i1 i2 i3 : ItW UU) (k : Nat) : Option (ItW UU) :=
  match k with
  | 12 => some i1
  | 28 => some i2
  | 36 => some i3
  | _ => none
theorem at3_ok {i1 i2 i3 : ItW UU} (h1 : ItOk Tryz.prog i1) (h2 : ItOk Tryz.prog i2) (h3 : ItOk Tryz.prog i3) : ∀ k j, at3 i1 i2 i3 k = some j → ItOk Tryz.prog j := by
  intro k j hk
  unfold at3 at hk
  split at hk
  · cases hk; exact h1
  · cases hk; exact h2
  · cases hk; exact h3
  · cases hk
def lookS : FSpec2 UU where
  X := GroundT
  pick := fun args H => match args with
    | [a] => avGround H a
    | _ => none
  args := fun x => [vGround x 0]
  H := fun x => [.one (.ro .pit x.pits)]
  c := fun x => lookM x
  R := fun x => .val ⟨.tup [.ptr 3 0 0 0, .b true], [], [], [.row .span (hardsM x (nM x)) 23, .row .mix (boxesM x) 181, .cells [.i x.long, .i x.rise, .i x.change, .sl 0 0 0 x.pits.length, .gs 1 0, .gs 2 0] 166]⟩
  R' := fun _ => .val ⟨.tup [.v (.pointer none), .b false], [], [], []⟩
  pre := fun x => groundM x = true
def Tlook : Tab UU := [(155, limitS.con), (156, dugS.con), (126, bothS.con), (127, anyS.con), (128, andS.con), (129, nextS.con), (130, isNoneS.con), (125, placesS.con)]
theorem Tlook_ok : Tlook.Sound Tryz.prog := .cons limit_sound (.cons dug_sound (.cons both_sound (.cons any_sound (.cons and_sound (.cons next_sound (.cons isNone_sound (.cons places_sound .nil)))))))
theorem look_ok : ∀ x, lookS.pre x → (lookS.c x = true → FunOk Tryz.prog 121 (lookS.args x) (lookS.H x) (lookS.R x)) ∧ (lookS.c x = false → FunOk Tryz.prog 121 (lookS.args x) (lookS.H x) (lookS.R' x)) := by
  rintro ⟨long, rise, change, ps⟩ hx
  refine fun_of2 (T := Tlook) (L := lookLs ⟨long, rise, change, ps⟩) (hs := fun _ => []) (sp := fun _ => none) hmix Tlook_ok (td := fun _ => none) (fun _ _ h => by cases h) (it := at3 (itOf Tryz.prog [] 131 Tryz.f131 fun l _ => some (.inv (lookI1 ⟨long, rise, change, ps⟩ l))) (itOf Tryz.prog [] 131 Tryz.f131 fun l _ => some (.invR (lookI2 ⟨long, rise, change, ps⟩ l) fun a b => b.1.1 = a.1.1)) (itOf Tryz.prog [] 131 Tryz.f131 fun l _ => some (.inv (lookI3 ⟨long, rise, change, ps⟩ l)))) (at3_ok it_ok it_ok it_ok) Tryz.func121 (by kernel_rfl) (by kernel_rfl) ?_
  refine Eq.mp (α :=
      let Bq := (23 : TypeId); let Br := (181 : TypeId); let Cd := (179 : TypeId); let Bs := (186 : TypeId); let A2 := nat_lit 0 = nat_lit 0 ∧ nat_lit 0 = nat_lit 0 ∧ nat_lit 0 = nat_lit 0; let Ce := List.length (tellsM ps); let Cf := (↑(List.length ps) : Int); let Cg := lookM (GroundT.mk long rise change ps) = true; let Ae := Value.int IntKind.i64 (0 : Int); let AD := fun (l : Nat) => Fn.yield l = Fn.yield l ∧ True ∧ True; let AT := Value.int IntKind.i64 (2 : Int); let Ch := lookM (GroundT.mk long rise change ps) = false; let Ci := nat_lit 186 = Bs; let Cj := fun (k : Nat) => k ≤ nM (GroundT.mk long rise change ps); let A5 := A2 ∧ True; let Ck := (281474976710656 : Int); let Bt := Value.int IntKind.i64 (1000 : Int); let Cl := True ∧ ps = ps ∧ True; let AU := (↑(nM (GroundT.mk long rise change ps)) : Int); let Bu := Value.int IntKind.i64 rise = Value.int IntKind.i64 rise; let Bv := Value.int IntKind.i64 change = Value.int IntKind.i64 change; let Ai := AV.v Ae; let Cm := Value.int IntKind.i64 long = Value.int IntKind.i64 long; let A6 := (Value.bool false = Value.bool false) ∧ True; let Ac := pmapM ps = pmapM ps; let AH : List Span := hardsM (GroundT.mk long rise change ps) (nM (GroundT.mk long rise change ps)); let Cn : List Mix3 := mixesM (GroundT.mk long rise change ps) (0 : Nat); let Co : List Mix3 := stageM (GroundT.mk long rise change ps) (2 : Nat); let Cp := Bu ∧ True; let Cq := AV.ifc ((176 : TypeId)) (AV.agg []); let Cr : List Span := hardsM (GroundT.mk long rise change ps) (0 : Nat); let Cs : List Mix3 := stageM (GroundT.mk long rise change ps) (0 : Nat); let Ct : List Mix3 := stageM (GroundT.mk long rise change ps) (1 : Nat); let Cu := List.length (boxesM (GroundT.mk long rise change ps)); let Cv := Value.pointer none = Value.pointer none; let Cw := Value.int IntKind.i64 Cf; let Ao := (True ∧ True ∧ True ∧ True ∧ True ∧ True ∧ True) ∧ True; let Cx := (↑Ce : Int); let A9 : Type := { k : Nat // Cj k }; let Bw := (↑(List.length (tellsM ps)) : Int); let AE := ((0 : Int), (0 : Int)); let Bx := Value.int IntKind.i64 AU; let Cy := Prod.snd (Prod.snd anyM); let Cz := Prod.fst (Prod.snd anyM); let A7 := Cv ∧ True; let AW := fun (x : A9) => Subtype.val x; let CA := (0 : Int) ≤ (0 : Int); let CB := A5 ∧ (True ∧ True) ∧ True; let Ap := Bq = Bq; let CC := Bs = Bs; let Aa := Br = Br; let AX := nat_lit 0 = nat_lit 0 ∧ nat_lit 0 = nat_lit 0 ∧ List.length ps = List.length ps; let HC := fun (k : Nat) => ∀ (j : Nat), (j < k → (badM (GroundT.mk long rise change ps) j = false)); let By := Value.int IntKind.i64 Cx; let CD := List.length AH; let A3 : Type := { i : Nat // (i ≤ (List.length (GroundT.pits (GroundT.mk long rise change ps)))) }; let Al := IntKind.wrap IntKind.i64 (long + (1 : Int)); let Bz := fun (x : A3) => Subtype.val x; let AY := fun (x : A9) => (↑(AW x) : Int); let AZ := A2 ∧ A6; let CE := Int.toNat Al; let CF := Ae = Ae; let CG := AT = AT; let AI := fun (x : A9) => mixesM (GroundT.mk long rise change ps) (AW x); let B0 := fun (x : A9) => hardsM (GroundT.mk long rise change ps) (AW x); let AJ : List Bool := false :: ([true] : List Bool); let AK := fun (x : A9) => Value.int IntKind.i64 (AY x); let CH := fun (x : A3) => List.take (Bz x) ps; let CI := A5 ∧ A6 ∧ True; let AL := fun (x : A3) => (↑(Bz x) : Int); let B1 := fun (x : A3) => pmapM (CH x); let AM := fun (x : A3) => tellsM (CH x); let CJ := fun (t : A3) => Int.toNat (AL t); let CK := Cw = Cw; let BA : List AV := Ai :: ([Ai] : List AV); let CL := (0 : Int) ≤ Al; let CM := fun (x : A3) => Value.int IntKind.i64 (AL x); let CN := fun (x : A9) => nM (GroundT.mk long rise change ps) - AW x; let Ad := CC ∧ tellsM ps = tellsM ps; let BB := Bx = Bx; let A4 : Type := { k : Nat // (Cj k ∧ HC k) }; let CO := decide ((0 : Int) < (2 : Int)); let CP := decide ((1 : Int) < (2 : Int)); let CQ := decide ((2 : Int) < (2 : Int)); let BC := Value.bool (List.getD AJ (nat_lit 2) false); let BD := Value.bool (List.getD AJ (nat_lit 1) false); let BE := Value.bool (List.getD AJ (nat_lit 0) false); let CR := fun (x : A4) => Subtype.val x; let CS := fun (x : A3) => List.length ps - Bz x; let CT := Al ≤ ((1099511627776 : Int)); let A0 : Type := { p : Nat × Nat // ((Prod.fst p < (2 : Nat)) ∧ Prod.snd p ≤ nM (GroundT.mk long rise change ps)) }; let CU := fun (t : A3) => nat_lit 0 + CJ t; let CV := fun (x : A0) => Subtype.val x; let CW := Aa ∧ boxesM (GroundT.mk long rise change ps) = boxesM (GroundT.mk long rise change ps); let Aq := fun (x : A4) => (↑(CR x) : Int); let CX := fun (t : A3) => AL t < Cf; let Ar := fun (x : A0) => Prod.snd (CV x); let As := fun (x : A0) => Prod.fst (CV x); let CY := Al = Al; let BF := (Value.int IntKind.i64 Al) = Bx; let CZ := fun (x : A4) => Value.int IntKind.i64 (Aq x); let A1 : Type := { p : Nat × Nat // ((Prod.fst p < nM (GroundT.mk long rise change ps)) ∧ Prod.snd p ≤ (List.length (tellsM (GroundT.pits (GroundT.mk long rise change ps))))) }; let At := fun (x : A0) => (↑(Ar x) : Int); let D0 := fun (x : A1) => Subtype.val x; let B2 := fun (x : A0) => stageM (GroundT.mk long rise change ps) (As x); let D1 := fun (t : A0) => Int.toNat (At t); let D2 := fun (x : A4) => nM (GroundT.mk long rise change ps) - CR x; let D3 := fun (t : A4) => (0 : Int) ≤ Aq t; let Af := Ap ∧ AH = AH; let Au := fun (x : A1) => Prod.fst (D0 x); let BG := fun (x : A1) => Prod.snd (D0 x); let D4 := fun (x : A0) => Value.int IntKind.i64 (At x); let B3 := fun (t : A4) => nat_lit 0 + (Int.toNat (Aq t)); let BH := fun (x : A0) => Ar x == nat_lit 0; let AN := fun (x : A0) => As x == nat_lit 1; let D5 := AJ = AJ; let AO := fun (x : A0) => Value.bool (AN x); let B4 := fun (x : A0) => Value.bool (BH x); let D6 := fun (t : A0) => BH t = true; let D7 := fun (t : A0) => BH t = false; let Aj := fun (x : A1) => (↑(Au x) : Int); let AF := fun (x : A1) => (↑(BG x) : Int); let D8 := fun (x : A0) => nM (GroundT.mk long rise change ps) - Ar x; let A8 := Cm ∧ Bu ∧ Bv ∧ AX ∧ True; let AG := fun (x : A1) => mixesM (GroundT.mk long rise change ps) (Au x); let AP := fun (x : A1) => hardsM (GroundT.mk long rise change ps) (Au x); let D9 := fun (t : A0) => nat_lit 0 + D1 t; let Da := fun (t : A1) => Int.toNat (Aj t); let Db := fun (t : A0) => As t == (1 : Nat); let Ak := (AE, ((AE, AE))); let Dc := fun (x : A1) => Value.int IntKind.i64 (AF x); let AQ := fun (x : A1) => Value.int IntKind.i64 (Aj x); let BI := fun (t : A0) => IntKind.wrap IntKind.i64 ((long - At t)); let Dd := fun (t : A1) => [Aj t]; let BJ := fun (x : A0) => (B4 x = Value.bool true) ∧ True; let De := fun (t : A0) => Int.toNat (BI t); let Ab := Cm ∧ Bu ∧ Bv ∧ AX ∧ nat_lit 0 = nat_lit 0 ∧ nat_lit 0 = nat_lit 0 ∧ True; let BK := fun (t : A0) => (0 : Nat) + D1 t; let Df := fun (t : A1) => List.length (AG t); let Dg := fun (t : A1) => List.length (AP t); let Dh := fun (x t : A9) => CN x < CN t; let BL := fun (t : A1) => (0 : Int) ≤ Aj t; let AR := fun (t : A1) => nat_lit 0 + Da t; let Di := fun (t : A1) => nat_lit 0 + (Int.toNat (AF t)); let Dj := fun (t : A9) => (AK t = AK t) ∧ Cp; let Am := fun (t : A1) => mhasM UU MM.pits (Dd t) (pmapM ps); let Dk := fun (x : A1) => Ce - BG x; let Ag := ((4 : TypeId) = (4 : TypeId)) ∧ D5; let Dl := fun (t : A0) => nat_lit 0 + De t; let Dm := fun (t : A1) => Prod.snd ((mgetM UU MM.pits (Dd t) (pmapM ps))); let B5 := fun (t : A1) => (0 : Nat) + Da t; let Dn := fun (t : A4) => B3 t < CD; let Do := fun (t : A9) => decide ((AY t < AU)); let BM := fun (t : A0) => (0 : Nat) + De t; let Dp := fun (t : A1) => Prod.snd (Dm t); let Dq := fun (t : A1) => Prod.fst (Dm t); let B6 := fun (t x : A0) => As t = As x; let BN := fun (x : A0) => As x = As x; let Dr := fun (t : A4) => List.getD AH (B3 t) AE; let BO : List AV := Ai :: (Ai :: (Ai :: (Ai :: BA))); let Ds := fun (t : A1) => Prod.snd (Dp t); let Dt := fun (t : A1) => Prod.fst (Dp t); let Du := fun (t : A3) => decide (CX t); let Dv := (Cg → (True ∧ ((False ∧ Value.bool true = Value.bool false ∧ True) ∧ True) ∧ True ∧ ps = ps ∧ False ∧ False ∧ False ∧ True)) ∧ (Ch → (True ∧ ((Cv ∧ A6) ∧ True) ∧ Cl)); let Dw := fun (x : A1) => Au x = Au x; let Dx := fun (t x : A1) => Au t = Au x; let BP := ((0 : Int), ((AE, Ak))); let Dy := fun (t : A9) (x : A1) => Ap ∧ B0 t = AP x; let Dz := fun (t : A9) (x : A1) => Aa ∧ AI t = AG x; let BQ := (true, BP); let DA := fun (t : A4) => decide ((Aq t < AU)); let AS := fun (x : A1) => hardTM ((List.take (BG x) (tellsM ps))) rise (Aj x); let DB := List.getD (tellsM ps) (nat_lit 0) BQ; let DC := fun (t : A4) => D3 t ∧ (Aq t < ((↑CD : Int))); let BR := fun (t : A4) => List.getD (boxesM (GroundT.mk long rise change ps)) (B3 t) Ak; let BS := Prod.snd DB; let DD := Prod.fst DB; let DE := fun (t : A4) => noneM (BR t); let Av := fun (x : A1) => Value.int IntKind.i64 ((Prod.fst (AS x))); let DF := fun (t : A0) => decide ((At t < AU)); let Aw := fun (x : A1) => Value.int IntKind.i64 ((Prod.snd (AS x))); let DG := fun (t x : A0) => A5 ∧ ((AO t = AO x) ∧ True) ∧ True; let BT := fun (t : A0) => DF t = true; let BU := fun (t : A0) => DF t = false; let DH := fun (t : A4) => Prod.fst (BR t); let DI := fun (t : A4) => Prod.snd (BR t); let BV := fun (l : Nat) (x : A4) => AD l ∧ A2 ∧ A2 ∧ BF ∧ (Ae = CZ x) ∧ True; let DJ := fun (t : A1) => List.set (AG t) (AR t) anyM; let DK := fun (t : A4) => Prod.fst (DI t); let DL := fun (t : A4) => Prod.snd (DI t); let DM := fun (t : A1) => (AQ t = AQ t) ∧ Cp; let DN := fun (t : A1) => bothM (AS t) (((0 : Int), (1000 : Int))); let DO := Prod.snd BS; let DP := fun (t : A4) => Value.int IntKind.i64 ((Prod.fst (DH t))); let DQ := fun (t : A4) => Value.int IntKind.i64 ((Prod.snd (DH t))); let BW := fun (t : A1) => List.set (AG t) (B5 t) anyM; let BX := fun (l : Nat) (x : A0) => AD l ∧ A2 ∧ A2 ∧ BF ∧ (Ae = D4 x) ∧ True; let DR := fun (t : A1) => List.length (DJ t); let DS := fun (t x : A1) => Ap ∧ AP t = AP x; let DT := fun (l : Nat) (t x : A9) => AD l ∧ (A2 ∧ (A2 ∧ (BB ∧ (((Value.int IntKind.i64 ((IntKind.wrap IntKind.i64 ((AY t + (1 : Int)))))) = AK x) ∧ True)))); let DU := fun (t x : A1) => Aa ∧ AG t = AG x; let DV := Value.int IntKind.i64 (Prod.fst BS); let DW := fun (t : A4) => Value.int IntKind.i64 ((Prod.fst (DL t))); let DX := fun (t : A4) => Value.int IntKind.i64 ((Prod.snd (DL t))); let DY := fun (t : A4) => Value.int IntKind.i64 ((Prod.snd (DK t))); let DZ := fun (t : A4) => Value.int IntKind.i64 ((Prod.fst (DK t))); let BY := fun (x : A0) => nowM (B2 x) (AN x) change (Ar x); let Ah := fun (x : A0) => passM (B2 x) (AN x) change (Ar x); let B7 := fun (t : A0) => nextM (BY t) change; let E0 := fun (t : A9) => dugM BS (AY t) rise; let E1 := fun (t : A3) => List.getD ps (CU t) BP; let E2 := Ab ∧ A5 ∧ Ad ∧ (nat_lit 0 = nat_lit 0 ∧ True) ∧ Ac ∧ (nat_lit 0 = nat_lit 0 ∧ True) ∧ CB; let E3 := Prod.fst DO; let E4 := Prod.snd DO; let An := fun (t : A0) => passM (B2 t) (Db t) change (Ar t); let BZ := fun (t : A0) => List.length (Ah t); let E5 := fun (x : A0) => Prod.snd (BY x); let E6 := fun (x : A0) => Prod.fst (BY x); let E7 : List AV := (AV.v (Value.int IntKind.i64 (Prod.fst (Prod.fst anyM)))) :: ((AV.v (Value.int IntKind.i64 (Prod.snd (Prod.fst anyM)))) :: ((AV.v (Value.int IntKind.i64 (Prod.fst Cz))) :: ((AV.v (Value.int IntKind.i64 (Prod.snd Cz))) :: ((AV.v (Value.int IntKind.i64 (Prod.fst Cy))) :: ([(AV.v (Value.int IntKind.i64 (Prod.snd Cy)))] : List AV) : List AV) : List AV) : List AV) : List AV); let E8 := fun (t : A0) => nextM ((nowM (B2 t) (Db t) change (Ar t))) change; let E9 := fun (t : A3) => List.getD ps (((0 : Nat) + CJ t)) BP; let Ea := fun (t : A0) => Prod.snd (B7 t); let Eb := fun (t : A0) => Prod.fst (B7 t); let Ec := Value.int IntKind.i64 (Prod.fst E3); let Ed := Value.int IntKind.i64 (Prod.snd E3); let Ee := fun (t : A0) => (↑(BZ t) : Int); let Ef := Prod.snd E4; let Eg := fun (t : A1) => decide ((AF t < Cx)); let Eh := Prod.fst E4; let Ei := fun (x : A0) => Prod.fst (E5 x); let Ej := fun (x : A0) => Prod.snd (E5 x); let Ax := fun (x : A0) => Value.int IntKind.i64 ((Prod.fst (E6 x))); let Ay := fun (x : A0) => Value.int IntKind.i64 ((Prod.snd (E6 x))); let Ek := fun (t : A1) => bif Am t then (Prod.fst (Dq t)) else (0 : Int); let El := fun (t : A1) => bif Am t then (Prod.snd (Dq t)) else (0 : Int); let Em := fun (t : A0) => Prod.fst (Ea t); let En := fun (t : A0) => Prod.snd (Ea t); let Eo := fun (t : A3) => Prod.snd (E1 t); let C0 := fun (t : A3) => Prod.fst (E1 t); let Ep := Prod.fst Ef; let Er := Prod.snd Ef; let Es := fun (t : A0) => Value.int IntKind.i64 ((Prod.snd (Eb t))); let Et := fun (t : A0) => Value.int IntKind.i64 ((Prod.fst (Eb t))); let Eu := fun (t : A1) => Value.int IntKind.i64 (Ek t); let Ev := Value.int IntKind.i64 (Prod.snd Eh); let Ew := fun (t : A1) => Value.int IntKind.i64 (El t); let Ex := Value.int IntKind.i64 (Prod.fst Eh); let Az := fun (x : A0) => Value.int IntKind.i64 ((Prod.fst (Ej x))); let AA := fun (x : A0) => Value.int IntKind.i64 ((Prod.fst (Ei x))); let AB := fun (x : A0) => Value.int IntKind.i64 ((Prod.snd (Ej x))); let AC := fun (x : A0) => Value.int IntKind.i64 ((Prod.snd (Ei x))); let Ey := fun (t : A1) => bif Am t then (Prod.snd (Dt t)) else (0 : Int); let Ez := fun (t : A1) => bif Am t then (Prod.fst (Ds t)) else (0 : Int); let EA := fun (t : A1) => bif Am t then (Prod.fst (Dt t)) else (0 : Int); let EB := fun (t : A1) => bif Am t then (Prod.snd (Ds t)) else (0 : Int); let EC := fun (t : A3) => [C0 t]; let ED := fun (t : A3) => Prod.fst (E9 t); let EE := fun (t : A3) => Prod.snd (E9 t); let EF := fun (t : A0) => Value.int IntKind.i64 ((Prod.fst (Em t))); let EG := fun (t : A0) => Value.int IntKind.i64 ((Prod.fst (En t))); let EH := fun (t : A0) => Value.int IntKind.i64 ((Prod.snd (Em t))); let EI := fun (t : A0) => Value.int IntKind.i64 ((Prod.snd (En t))); let EJ := fun (t : A1) => Value.int IntKind.i64 (Ey t); let EK := Value.int IntKind.i64 (Prod.snd Er); let EL := Value.int IntKind.i64 (Prod.fst Ep); let EM := fun (t : A1) => Value.int IntKind.i64 (EB t); let EN := Value.int IntKind.i64 (Prod.snd Ep); let EO := Value.int IntKind.i64 (Prod.fst Er); let EP := fun (t : A1) => Value.int IntKind.i64 (Ez t); let EQ := fun (t : A1) => Value.int IntKind.i64 (EA t); let ER := fun (t : A3) => Prod.fst (Eo t); let ES := fun (t : A3) => Prod.snd (Eo t); let ET := fun (t : A3) => [ED t]; let EU := fun (t : A3) => Prod.snd (ER t); let EV := fun (t : A3) => Prod.fst (EE t); let EW := fun (t : A3) => Prod.snd (EE t); let EX := fun (t : A3) => Prod.fst (ES t); let EY := fun (t : A3) => Prod.snd (ES t); let EZ := fun (t : A3) => AV.v ((Value.int IntKind.i64 ((Prod.fst (ER t))))); let F0 := fun (t : A3) => Prod.fst (EX t); let F1 := fun (t : A3) => Prod.snd (EX t); let F2 := fun (t : A1) => List.getD (tellsM ps) (Di t) BQ; let F3 := fun (t : A3) => Prod.snd (EY t); let F4 := fun (t : A3) => Prod.fst (EY t); let F5 := fun (t : A3) => Prod.fst (EW t); let F6 := fun (t : A3) => Prod.snd (EW t); let F7 := fun (t : A3) => Prod.fst (F3 t); let F8 := fun (t : A3) => AV.v ((Value.int IntKind.i64 (F0 t))); let F9 := fun (t : A3) => Prod.fst (F4 t); let Fa := fun (t : A3) => Prod.snd (F4 t); let Fb := fun (t : A3) => Prod.snd (F3 t); let Fc := fun (t : A3) => AV.v ((Value.int IntKind.i64 (F1 t))); let Fd := fun (x t : A0) => ((B4 x = Value.bool false) ∧ True) ∧ DG t x; let B8 := fun (l : Nat) (t x : A0) => AD l ∧ (A2 ∧ (A2 ∧ (BB ∧ (((Value.int IntKind.i64 ((IntKind.wrap IntKind.i64 ((At t + (1 : Int)))))) = D4 x) ∧ True)))); let Fe := fun (t : A3) => Prod.snd (F5 t); let Ff := fun (t : A3) => Prod.fst (F5 t); let Fg := fun (t : A1) => Prod.fst (F2 t); let C1 := fun (t : A1) => Prod.snd (F2 t); let Fh := fun (t : A3) => Prod.snd (F6 t); let Fi := fun (t : A3) => Prod.fst (F6 t); let Fj := fun (t : A3) => AV.v ((Value.int IntKind.i64 (Fa t))); let Fk := fun (t : A3) => AV.v ((Value.int IntKind.i64 (F9 t))); let Fl := fun (t : A3) => AV.v ((Value.int IntKind.i64 (F7 t))); let Fm := fun (t : A3) => Prod.snd (Fi t); let Fo := fun (t : A3) => Prod.snd (Fh t); let Fp := fun (t : A3) => Prod.fst (Fh t); let Fq := fun (t : A3) => Prod.fst (Fi t); let Fr := fun (t : A3) => [(AV.v ((Value.int IntKind.i64 (Fb t))))]; let B9 := fun (x t x_1 : A0) => (D8 x < D8 t) ∧ B6 x x_1; let Fs := Ab ∧ A5 ∧ Ad ∧ (nat_lit 0 = nat_lit 0 ∧ True) ∧ Ac ∧ (nat_lit 0 = nat_lit 0 ∧ True) ∧ Ag ∧ True; let Ft := fun (t : A1) => Prod.snd (C1 t); let Fu := fun (t : A1) => Value.int IntKind.i64 ((Prod.fst (C1 t))); let Fv := fun (t : A1) => AR t < DR t; let Ba := fun (t : A0) => D9 t < BZ t; let Fw := fun (t : A1) => Prod.snd (Ft t); let Fx := fun (t : A1) => Prod.fst (Ft t); let Fy := fun (t : A1) => Value.int IntKind.i64 ((Prod.fst (Fx t))); let Fz := fun (t : A1) => Value.int IntKind.i64 ((Prod.snd (Fx t))); let FA := fun (t : A1) => Prod.fst (Fw t); let FB := fun (t : A1) => Prod.snd (Fw t); let Bb := fun (t : A0) => Dl t < BZ t; let C2 := Ab ∧ A5 ∧ Ad ∧ (nat_lit 0 = nat_lit 0 ∧ True) ∧ Ac ∧ (nat_lit 0 = nat_lit 0 ∧ True) ∧ Ag ∧ CI; let FC := fun (t : A1) => Prod.fst (FB t); let FD := fun (t : A1) => Prod.snd (FB t); let FE := fun (t : A1) => Value.int IntKind.i64 ((Prod.fst (FA t))); let FF := fun (t : A1) => Value.int IntKind.i64 ((Prod.snd (FA t))); let FG := fun (t : A1) => Value.int IntKind.i64 ((Prod.snd (FD t))); let FH := fun (t : A1) => Value.int IntKind.i64 ((Prod.fst (FD t))); let FI := fun (t : A1) => Value.int IntKind.i64 ((Prod.fst (FC t))); let FJ := fun (t : A1) => Value.int IntKind.i64 ((Prod.snd (FC t))); let FK := fun (t x : A0) => ((B4 t = B4 x) ∧ True) ∧ DG t x; let FL := fun (x t x_1 : A1) => (Dk x < Dk t) ∧ Dx x x_1; let C3 := fun (t : A1) => dugM (C1 t) (Aj t) rise; let FM := fun (t : A1) => Value.int IntKind.i64 ((Prod.fst (C3 t))); let FN := fun (t : A1) => Value.int IntKind.i64 ((Prod.snd (C3 t))); let FO := fun (t : A1) => (AV.v (Av t)) :: ([(AV.v (Aw t))]); let C4 := fun (t : A1) => List.getD (DJ t) (AR t) Ak; let Bc := fun (t : A0) => ((0 : Int) ≤ At t) ∧ At t < Ee t; let C5 := fun (t : A0) => List.getD (Ah t) (D9 t) Ak; let FP := fun (t : A1) => BL t ∧ (Aj t < ((↑(DR t) : Int))); let FQ := fun (t : A1) => Prod.fst (C4 t); let FR := fun (t : A1) => Prod.snd (C4 t); let FS := fun (t : A0) => Prod.snd (C5 t); let FT := fun (t : A0) => Prod.fst (C5 t); let FU := fun (t : A9) (x : A1) => A2 ∧ A2 ∧ A2 ∧ A2 ∧ A2 ∧ A2 ∧ (AK t = AQ x) ∧ A2 ∧ nat_lit 0 = nat_lit 0 ∧ ((Value.int IntKind.i64 Bw) = By) ∧ (Ae = Dc x) ∧ True; let FV := fun (t : A1) => Prod.fst (FR t); let FW := fun (t : A1) => Prod.snd (FR t); let FX := fun (t : A0) => Prod.fst (FT t); let C6 := fun (t : A0) => List.getD (An t) (BK t) Ak; let FY := fun (t : A1) => Value.int IntKind.i64 ((Prod.snd (FQ t))); let FZ := fun (t : A1) => Value.int IntKind.i64 ((Prod.fst (FQ t))); let G0 := fun (t : A0) => Prod.snd (FS t); let G1 := fun (t : A0) => Prod.fst (FS t); let C7 := fun (t : A0) => List.getD (Ah t) (Dl t) Ak; let Bd := fun (t : A0) => Value.int IntKind.i64 ((Prod.snd (FT t))); let Be := fun (t : A0) => Value.int IntKind.i64 (FX t); let G2 := fun (t : A0) => AV.v (Bd t); let G3 := fun (t : A0) => Prod.fst (G1 t); let G4 := fun (t : A0) => Prod.fst (G0 t); let G5 := fun (t : A1) => Value.int IntKind.i64 ((Prod.fst (FV t))); let G6 := fun (t : A1) => Value.int IntKind.i64 ((Prod.fst (FW t))); let G7 := fun (t : A1) => Value.int IntKind.i64 ((Prod.snd (FV t))); let G8 := fun (t : A1) => Value.int IntKind.i64 ((Prod.snd (FW t))); let G9 := fun (t : A0) => Prod.fst (C6 t); let Ga := fun (t : A0) => Prod.snd (C6 t); let Bf := fun (t : A0) => Value.int IntKind.i64 (G4 t); let Bg := fun (t : A0) => Value.int IntKind.i64 (G3 t); let Bh := fun (t : A0) => Value.int IntKind.i64 ((Prod.snd (G0 t))); let Bi := fun (t : A0) => Value.int IntKind.i64 ((Prod.snd (G1 t))); let Gb := fun (t : A0) => Prod.fst (C7 t); let Gc := fun (t : A0) => Prod.snd (C7 t); let Gd := fun (t : A0) => AV.v (Bi t); let Ge := fun (t : A0) => Prod.fst (Gb t); let Gf := fun (t : A0) => Prod.snd (Ga t); let Gg := fun (t : A0) => Prod.fst (Ga t); let C8 := fun (t : A0) => List.getD (An t) (BM t) Ak; let Bj := fun (t : A0) => ((0 : Int) ≤ BI t) ∧ BI t < Ee t; let Gh := fun (t : A0) => [(AV.v (Bh t))]; let Gi := fun (t : A0) => Prod.snd (Gc t); let Gj := fun (t : A0) => Prod.fst (Gc t); let Bk := fun (t : A0) => Value.int IntKind.i64 (Ge t); let Bl := fun (t : A0) => Value.int IntKind.i64 ((Prod.snd (Gb t))); let Gk := fun (t : A0) => Prod.fst (Gj t); let Gl := fun (t : A0) => AV.v (Bl t); let Gm := fun (t : A0) => Prod.fst (Gi t); let Gn := fun (t : A0) => Prod.snd (C8 t); let Go := fun (t : A0) => Prod.fst (C8 t); let Gp := fun (t : A1) (x : A9) => Ap ∧ (List.set (AP t) (B5 t) (AS t)) = B0 x; let Bm := fun (t : A0) => Value.int IntKind.i64 (Gk t); let Bn := fun (t : A0) => Value.int IntKind.i64 ((Prod.snd (Gi t))); let Bo := fun (t : A0) => Value.int IntKind.i64 (Gm t); let Bp := fun (t : A0) => Value.int IntKind.i64 ((Prod.snd (Gj t))); let Gq := fun (t : A0) => AV.v (Bp t); let Gr := fun (t : A0) => Prod.snd (Gn t); let Gs := fun (t : A0) => Prod.fst (Gn t); let Gt := fun (t : A0) => [(AV.v (Bn t))]; let Gu := fun (t : A4) => decide (((Prod.fst (Dr t)) > (Prod.snd (Dr t)))); let Gv := fun (t : A1) => bothM (AS t) (C3 t); let Gw := fun (t x : A1) => A2 ∧ (A2 ∧ (A2 ∧ (A2 ∧ (A2 ∧ (A2 ∧ ((AQ t = AQ x) ∧ (A2 ∧ (nat_lit 0 = nat_lit 0 ∧ ((By = By) ∧ (((Value.int IntKind.i64 ((IntKind.wrap IntKind.i64 ((AF t + (1 : Int)))))) = Dc x) ∧ True)))))))))); let Gx := fun (t : A0) => andM (C5 t) (B7 t); let Gy := fun (t : A0) => Prod.snd (Gx t); let Gz := fun (t : A0) => Prod.fst (Gx t); let GA := fun (t : A0) => Prod.fst (Gz t); let GB := fun (t : A0) => Prod.fst (Gy t); let GC := fun (t : A0) => Prod.snd (Gy t); let GD := fun (t : A0) => andM (C7 t) (B7 t); let GE := fun (t : A0) => Value.int IntKind.i64 (GA t); let GF := fun (t : A0) => Value.int IntKind.i64 ((Prod.snd (Gz t))); let GG := fun (t : A0) => Prod.fst (GB t); let GH := fun (t : A0) => AV.v (GF t); let GI := fun (t : A0) => Prod.fst (GC t); let GJ := fun (t : A0) => andM (C6 t) (E8 t); let GK := fun (t : A0) => Value.int IntKind.i64 ((Prod.snd (GB t))); let GL := fun (t : A0) => Value.int IntKind.i64 (GG t); let GM := fun (t : A0) => Value.int IntKind.i64 ((Prod.snd (GC t))); let GN := fun (t : A0) => Value.int IntKind.i64 (GI t); let GO := fun (t : A0) => AV.v (GK t); let GP := fun (t : A0) => Prod.snd (GD t); let GQ := fun (t : A0) => Prod.fst (GD t); let GR := fun (t : A0) => Prod.fst (GQ t); let GS := fun (t : A0) => Prod.snd (GJ t); let GT := fun (t : A0) => Prod.fst (GJ t); let GU := fun (t : A0) => [(AV.v (GM t))]; let GV := fun (t : A0) => Prod.fst (GP t); let GW := fun (t : A0) => Prod.snd (GP t); let GX := fun (t : A0) => Value.int IntKind.i64 (GR t); let GY := fun (t : A0) => Value.int IntKind.i64 ((Prod.snd (GQ t))); let GZ := fun (t : A0) => AV.v (GY t); let H0 := fun (t : A0) => Prod.fst (GV t); let H1 := fun (t : A0) => Prod.fst (GW t); let H2 := fun (t : A0) => Prod.fst (GS t); let H3 := fun (t : A0) => Prod.snd (GS t); let H4 := fun (t : A0) => andM (C8 t) (E8 t); let H5 := fun (t : A0) => Value.int IntKind.i64 ((Prod.snd (GV t))); let H6 := fun (t : A0) => Value.int IntKind.i64 (H1 t); let H7 := fun (t : A0) => Value.int IntKind.i64 ((Prod.snd (GW t))); let H8 := fun (t : A0) => Value.int IntKind.i64 (H0 t); let H9 := fun (t : A0) => AV.v (H5 t); let Ha := fun (t : A0) => Prod.snd (H4 t); let Hb := fun (t : A0) => Prod.fst (H4 t); let Hc := fun (t : A0) => [(AV.v (H7 t))]; let Hd := fun (t : A0) => Prod.fst (Ha t); let He := fun (t : A0) => Prod.snd (Ha t); let Hf := fun (t : A1) => (Av t = Av t) ∧ (Aw t = Aw t) ∧ True; let HD := fun (l : Nat) (t : A4) => ∃ (x : A4), (((AD l ∧ (A2 ∧ (A2 ∧ (BB ∧ (((Value.int IntKind.i64 ((IntKind.wrap IntKind.i64 ((Aq t + (1 : Int)))))) = CZ x) ∧ True))))) ∧ True ∧ ps = ps ∧ A8 ∧ A7 ∧ A6 ∧ Af ∧ CW ∧ Ab ∧ A5 ∧ Ad ∧ (nat_lit 0 = nat_lit 0 ∧ True) ∧ Ac ∧ (nat_lit 0 = nat_lit 0 ∧ True) ∧ Ag ∧ CB) ∧ D2 x < D2 t); let HE := fun (l : Nat) (t : A9) (t_1 : A1) => ∃ (x : A9), ((DT l t x ∧ True ∧ ps = ps ∧ A8 ∧ A7 ∧ A6 ∧ Gp t_1 x ∧ (Aa ∧ BW t_1 = AI x) ∧ E2) ∧ Dh x t); let Hg := fun (t : A1) => (((Ek t, El t)), ((((EA t, Ey t)), ((Ez t, EB t))))); let C9 := fun (x : A0) => (Ae = Ax x) ∧ (Ae = Ay x) ∧ (Ae = AA x) ∧ (Ae = AC x) ∧ (Ae = Az x) ∧ (Ae = AB x) ∧ True; let Hh := fun (t : A3) => F8 t :: (Fc t :: (Fk t :: (Fj t :: (Fl t :: Fr t)))); let Hi := fun (t : A1) => andM (C4 t) (Hg t); let Hj := fun (t : A1) => Prod.fst (Hi t); let Hk := fun (t : A1) => Prod.snd (Hi t); let Hl := fun (t : A1) => Prod.fst (Hj t); let Hm := fun (t : A1) => andM ((List.getD (BW t) (B5 t) Ak)) (Hg t); let Hn := fun (t : A1) => Prod.snd (Hk t); let Ho := fun (t : A1) => Prod.fst (Hk t); let Hp := fun (t : A1) => Prod.fst (Hn t); let Hq := fun (t : A1) => AV.v ((Value.int IntKind.i64 ((Prod.snd (Hj t))))); let Hr := fun (t : A1) => Prod.fst (Ho t); let Hs := fun (t : A1) => Prod.fst (Hm t); let Ht := fun (t : A1) => Prod.snd (Hm t); let Hu := fun (t : A1) => AV.v ((Value.int IntKind.i64 ((Prod.snd (Ho t))))); let Hv := fun (t : A1) => Prod.fst (Ht t); let Hw := fun (t : A1) => Prod.snd (Ht t); let Hx := fun (t : A1) => [(AV.v ((Value.int IntKind.i64 ((Prod.snd (Hn t))))))]; let Hy := fun (t : A3) => AV.ifc (nat_lit 179) ((AV.agg (((AV.v ((Value.int IntKind.i64 (C0 t)))) :: (EZ t :: ((AV.v ((Value.int IntKind.i64 (EU t)))) :: Hh t)))))); let HF := fun (t x : A1) => ∃ (x_1 : A1), ((Gw t x_1 ∧ True ∧ ps = ps ∧ A8 ∧ A7 ∧ A6 ∧ DS t x_1 ∧ DU t x_1 ∧ Ab ∧ A5 ∧ Ad ∧ (nat_lit 0 = nat_lit 0 ∧ True) ∧ Ac ∧ (nat_lit 0 = nat_lit 0 ∧ True) ∧ A5 ∧ (True ∧ True) ∧ (((Value.int IntKind.i64 ((Prod.fst (DN t)))) = Av x_1) ∧ ((Value.int IntKind.i64 ((Prod.snd (DN t)))) = Aw x_1) ∧ True) ∧ True) ∧ FL x_1 t x); let Hz := fun (t : A0) => ((Ax t = Ax t) ∧ (Ay t = Ay t) ∧ (AA t = AA t) ∧ (AC t = AC t) ∧ (Az t = Az t) ∧ (AB t = AB t) ∧ True) ∧ Bv ∧ True; let HA := fun (t : A0) => ((Et t = Et t) ∧ (Es t = Es t) ∧ (EF t = EF t) ∧ (EH t = EH t) ∧ (EG t = EG t) ∧ (EI t = EI t) ∧ True) ∧ True; let HG := fun (t x : A1) => ∃ (x_1 : A1), ((Gw t x_1 ∧ True ∧ ps = ps ∧ A8 ∧ A7 ∧ A6 ∧ DS t x_1 ∧ DU t x_1 ∧ Ab ∧ A5 ∧ Ad ∧ (nat_lit 0 = nat_lit 0 ∧ True) ∧ Ac ∧ (nat_lit 0 = nat_lit 0 ∧ True) ∧ A5 ∧ (True ∧ True) ∧ (((Value.int IntKind.i64 ((Prod.fst (Gv t)))) = Av x_1) ∧ ((Value.int IntKind.i64 ((Prod.snd (Gv t)))) = Aw x_1) ∧ True) ∧ True) ∧ FL x_1 t x); let Ca := fun (l : Nat) => ∀ (t : A4), (((DA t = true) → (l = l ∧ (True ∧ (DC t ∧ (Dn t ∧ (DC t ∧ (Dn t ∧ (((Gu t = true) → Dv) ∧ ((Gu t = false) → ((D3 t ∧ (Aq t < ((↑Cu : Int)))) ∧ ((B3 t < Cu) ∧ (True ∧ ((((DP t = DP t) ∧ (DQ t = DQ t) ∧ (DZ t = DZ t) ∧ (DY t = DY t) ∧ (DW t = DW t) ∧ (DX t = DX t) ∧ True) ∧ True) ∧ (True ∧ (((DE t = true) → Dv) ∧ ((DE t = false) → (True ∧ HD l t))))))))))))))))) ∧ ((DA t = false) → ((Cg → (True ∧ ((A2 ∧ Value.bool true = Value.bool true ∧ True) ∧ True) ∧ True ∧ ps = ps ∧ Af ∧ CW ∧ Ab ∧ True)) ∧ (Ch → (True ∧ ((False ∧ Value.bool false = Value.bool true ∧ True) ∧ True) ∧ Cl))))); let HH := fun (l : Nat) (t x : A0) => ∃ (x_1 : A0), ((B8 l t x_1 ∧ (True ∧ (ps = ps ∧ (A8 ∧ (A7 ∧ (A6 ∧ (Af ∧ ((Aa ∧ ((List.set (An t) (BK t) (((((FX t, (Prod.snd (G9 t)))), ((((G3 t, (Prod.snd (Gg t)))), ((G4 t, (Prod.snd (Gf t)))))))))) = Ah x_1)) ∧ Ab ∧ A5 ∧ Ad ∧ (nat_lit 0 = nat_lit 0 ∧ True) ∧ Ac ∧ (nat_lit 0 = nat_lit 0 ∧ True) ∧ Ag ∧ ((Be t = Ax x_1) ∧ (Bd t = Ay x_1) ∧ (Bg t = AA x_1) ∧ (Bi t = AC x_1) ∧ (Bf t = Az x_1) ∧ (Bh t = AB x_1) ∧ True) ∧ Fd x_1 t)))))))) ∧ B9 x_1 t x); let HI := fun (l : Nat) (t x : A0) => ∃ (x_1 : A0), ((B8 l t x_1 ∧ (True ∧ (ps = ps ∧ (A8 ∧ (A7 ∧ (A6 ∧ (Af ∧ ((Aa ∧ ((List.set (An t) (BM t) (((((Ge t, (Prod.snd (Go t)))), ((((Gk t, (Prod.snd (Gs t)))), ((Gm t, (Prod.snd (Gr t)))))))))) = Ah x_1)) ∧ Ab ∧ A5 ∧ Ad ∧ (nat_lit 0 = nat_lit 0 ∧ True) ∧ Ac ∧ (nat_lit 0 = nat_lit 0 ∧ True) ∧ Ag ∧ ((Bk t = Ax x_1) ∧ (Bl t = Ay x_1) ∧ (Bm t = AA x_1) ∧ (Bp t = AC x_1) ∧ (Bo t = Az x_1) ∧ (Bn t = AB x_1) ∧ True) ∧ Fd x_1 t)))))))) ∧ B9 x_1 t x); let HJ := fun (l : Nat) (t x : A0) => ∃ (x_1 : A0), ((B8 l t x_1 ∧ (True ∧ (ps = ps ∧ (A8 ∧ (A7 ∧ (A6 ∧ (Af ∧ ((Aa ∧ ((List.set (An t) (BK t) (((((GA t, (Prod.snd (GT t)))), ((((GG t, (Prod.snd (H2 t)))), ((GI t, (Prod.snd (H3 t)))))))))) = Ah x_1)) ∧ Ab ∧ A5 ∧ Ad ∧ (nat_lit 0 = nat_lit 0 ∧ True) ∧ Ac ∧ (nat_lit 0 = nat_lit 0 ∧ True) ∧ Ag ∧ ((GE t = Ax x_1) ∧ (GF t = Ay x_1) ∧ (GL t = AA x_1) ∧ (GK t = AC x_1) ∧ (GN t = Az x_1) ∧ (GM t = AB x_1) ∧ True) ∧ FK t x_1)))))))) ∧ B9 x_1 t x); let HK := fun (l : Nat) (t x : A0) => ∃ (x_1 : A0), ((B8 l t x_1 ∧ (True ∧ (ps = ps ∧ (A8 ∧ (A7 ∧ (A6 ∧ (Af ∧ ((Aa ∧ ((List.set (An t) (BM t) (((((GR t, (Prod.snd (Hb t)))), ((((H0 t, (Prod.snd (Hd t)))), ((H1 t, (Prod.snd (He t)))))))))) = Ah x_1)) ∧ Ab ∧ A5 ∧ Ad ∧ (nat_lit 0 = nat_lit 0 ∧ True) ∧ Ac ∧ (nat_lit 0 = nat_lit 0 ∧ True) ∧ Ag ∧ ((GX t = Ax x_1) ∧ (GY t = Ay x_1) ∧ (H8 t = AA x_1) ∧ (H5 t = AC x_1) ∧ (H6 t = Az x_1) ∧ (H7 t = AB x_1) ∧ True) ∧ FK t x_1)))))))) ∧ B9 x_1 t x); let HL := fun (l : Nat) (t : A9) (t_1 : A1) => ∃ (x : A9), ((DT l t x ∧ (True ∧ (ps = ps ∧ (A8 ∧ (A7 ∧ (A6 ∧ (Gp t_1 x ∧ ((Aa ∧ ((List.set (BW t_1) (B5 t_1) (((((Hl t_1, (Prod.snd (Hs t_1)))), ((((Hr t_1, (Prod.snd (Hv t_1)))), ((Hp t_1, (Prod.snd (Hw t_1)))))))))) = AI x)) ∧ E2)))))))) ∧ Dh x t); let Cb := fun (t : A0) (l : Nat) (x : A0) => (AN t = false) → (l = l ∧ (True ∧ (Bc t ∧ (Ba t ∧ ((D6 t → (Bc t ∧ (Ba t ∧ (Bc t ∧ (Ba t ∧ ((((AV.v ((Value.int IntKind.i64 ((Prod.fst (G9 t)))))) :: (G2 t :: ((AV.v ((Value.int IntKind.i64 ((Prod.fst (Gg t)))))) :: (Gd t :: ((AV.v ((Value.int IntKind.i64 ((Prod.fst (Gf t)))))) :: Gh t))))) = ((AV.v (Be t)) :: (G2 t :: ((AV.v (Bg t)) :: (Gd t :: ((AV.v (Bf t)) :: Gh t)))))) ∧ True ∧ HH l t x)))))) ∧ (D7 t → (True ∧ (Hz t ∧ (True ∧ (True ∧ ((((Be t = Be t) ∧ (Bd t = Bd t) ∧ (Bg t = Bg t) ∧ (Bi t = Bi t) ∧ (Bf t = Bf t) ∧ (Bh t = Bh t) ∧ True) ∧ HA t) ∧ (True ∧ (Bc t ∧ (Ba t ∧ ((((AV.v ((Value.int IntKind.i64 ((Prod.fst (GT t)))))) :: (GH t :: ((AV.v ((Value.int IntKind.i64 ((Prod.fst (H2 t)))))) :: (GO t :: ((AV.v ((Value.int IntKind.i64 ((Prod.fst (H3 t)))))) :: GU t))))) = ((AV.v (GE t)) :: (GH t :: ((AV.v (GL t)) :: (GO t :: ((AV.v (GN t)) :: GU t)))))) ∧ True ∧ HJ l t x))))))))))))))); let Cc := fun (t : A0) (l : Nat) (x : A0) => (AN t = true) → (l = l ∧ (True ∧ (Bj t ∧ (Bb t ∧ ((D6 t → (Bj t ∧ (Bb t ∧ (Bj t ∧ (Bb t ∧ ((((AV.v ((Value.int IntKind.i64 ((Prod.fst (Go t)))))) :: (Gl t :: ((AV.v ((Value.int IntKind.i64 ((Prod.fst (Gs t)))))) :: (Gq t :: ((AV.v ((Value.int IntKind.i64 ((Prod.fst (Gr t)))))) :: Gt t))))) = ((AV.v (Bk t)) :: (Gl t :: ((AV.v (Bm t)) :: (Gq t :: ((AV.v (Bo t)) :: Gt t)))))) ∧ True ∧ HI l t x)))))) ∧ (D7 t → (True ∧ (Hz t ∧ (True ∧ (True ∧ ((((Bk t = Bk t) ∧ (Bl t = Bl t) ∧ (Bm t = Bm t) ∧ (Bp t = Bp t) ∧ (Bo t = Bo t) ∧ (Bn t = Bn t) ∧ True) ∧ HA t) ∧ (True ∧ (Bj t ∧ (Bb t ∧ ((((AV.v ((Value.int IntKind.i64 ((Prod.fst (Hb t)))))) :: (GZ t :: ((AV.v ((Value.int IntKind.i64 ((Prod.fst (Hd t)))))) :: (H9 t :: ((AV.v ((Value.int IntKind.i64 ((Prod.fst (He t)))))) :: Hc t))))) = ((AV.v (GX t)) :: (GZ t :: ((AV.v (H8 t)) :: (H9 t :: ((AV.v (H6 t)) :: Hc t)))))) ∧ True ∧ HK l t x))))))))))))))); let HB := fun (x : A1) (l : Nat) (t : A9) => ∀ (t_1 : A1), (Dx t_1 x → (((Eg t_1 = true) → ((((0 : Int) ≤ AF t_1) ∧ AF t_1 < Bw) ∧ ((Di t_1 < List.length (tellsM ps)) ∧ (((Fg t_1 = true) → (True ∧ (True ∧ DM t_1) ∧ True ∧ True ∧ (Hf t_1 ∧ (CF ∧ (Bt = Bt) ∧ True) ∧ True) ∧ True ∧ True ∧ HF t_1 x)) ∧ ((Fg t_1 = false) → (True ∧ (((Fu t_1 = Fu t_1) ∧ (Fy t_1 = Fy t_1) ∧ (Fz t_1 = Fz t_1) ∧ (FE t_1 = FE t_1) ∧ (FF t_1 = FF t_1) ∧ (FI t_1 = FI t_1) ∧ (FJ t_1 = FJ t_1) ∧ (FH t_1 = FH t_1) ∧ (FG t_1 = FG t_1) ∧ True) ∧ DM t_1) ∧ True ∧ True ∧ (Hf t_1 ∧ ((FM t_1 = FM t_1) ∧ (FN t_1 = FN t_1) ∧ True) ∧ True) ∧ True ∧ True ∧ HG t_1 x)))))) ∧ ((Eg t_1 = false) → (True ∧ (True ∧ (True ∧ ((BL t_1 ∧ (Aj t_1 < ((↑(Dg t_1) : Int)))) ∧ ((AR t_1 < Dg t_1) ∧ ((FO t_1 = FO t_1) ∧ ((BL t_1 ∧ (Aj t_1 < ((↑(Df t_1) : Int)))) ∧ ((AR t_1 < Df t_1) ∧ ((E7 = E7) ∧ (((Am t_1 = true) → (FP t_1 ∧ (Fv t_1 ∧ (True ∧ ((((FZ t_1 = FZ t_1) ∧ (FY t_1 = FY t_1) ∧ (G5 t_1 = G5 t_1) ∧ (G7 t_1 = G7 t_1) ∧ (G6 t_1 = G6 t_1) ∧ (G8 t_1 = G8 t_1) ∧ True) ∧ ((Eu t_1 = Eu t_1) ∧ (Ew t_1 = Ew t_1) ∧ (EQ t_1 = EQ t_1) ∧ (EJ t_1 = EJ t_1) ∧ (EP t_1 = EP t_1) ∧ (EM t_1 = EM t_1) ∧ True) ∧ True) ∧ (True ∧ (FP t_1 ∧ (Fv t_1 ∧ ((((AV.v ((Value.int IntKind.i64 ((Prod.fst (Hs t_1)))))) :: (Hq t_1 :: ((AV.v ((Value.int IntKind.i64 ((Prod.fst (Hv t_1)))))) :: (Hu t_1 :: ((AV.v ((Value.int IntKind.i64 ((Prod.fst (Hw t_1)))))) :: Hx t_1))))) = ((AV.v ((Value.int IntKind.i64 (Hl t_1)))) :: (Hq t_1 :: ((AV.v ((Value.int IntKind.i64 (Hr t_1)))) :: (Hu t_1 :: ((AV.v ((Value.int IntKind.i64 (Hp t_1)))) :: Hx t_1)))))) ∧ True ∧ HL l t t_1))))))))) ∧ ((Am t_1 = false) → (True ∧ HE l t t_1))))))))))))))); ((CY ∧ CL ∧ CT ∧ (↑(nat_lit 16) : Int) * Al ≤ Ck) ∧ BA = List.map AV.nrm1 BA) ∧ ((CY ∧ CL ∧ CT ∧ (↑(nat_lit 48) : Int) * Al ≤ Ck) ∧ BO = List.map AV.nrm1 BO) ∧ (nat_lit 1 = nat_lit 1 ∧ ((true = true → AV.ifc (nat_lit 176) (AV.agg []) = Cq) ∧ (true = false → AV.ifc (nat_lit 176) (AV.agg []) = AV.ifc Cd (AV.agg (Ai :: Ai :: Ai :: BO)))) ∧ True) ∧ (∃ (x : A3), (A2 ∧ A2 ∧ A2 ∧ A2 ∧ A2 ∧ A2 ∧ AX ∧ CK ∧ Ae = CM x ∧ True) ∧ True ∧ ps = ps ∧ A8 ∧ A7 ∧ A6 ∧ (nat_lit 23 = Bq ∧ List.replicate CE AE = hardsM (GroundT.mk long rise change ps) (nat_lit 0)) ∧ (nat_lit 181 = Br ∧ List.replicate CE Ak = mixesM (GroundT.mk long rise change ps) (nat_lit 0)) ∧ Ab ∧ A5 ∧ (Ci ∧ [BQ] = AM x) ∧ (nat_lit 0 = nat_lit 0 ∧ True) ∧ [] = B1 x ∧ (nat_lit 0 = nat_lit 0 ∧ True) ∧ True) ∧ ∀ (t : A3), (Du t = true → ((0 : Int) ≤ AL t ∧ CX t) ∧ CU t < List.length ps ∧ (nat_lit 1 = nat_lit 1 ∧ ((false = true → Hy t = Cq) ∧ (false = false → Hy t = AV.ifc Cd (AV.agg [AV.v (Value.int IntKind.i64 (ED t)), EZ t, AV.v (Value.int IntKind.i64 (Prod.snd (EV t))), F8 t, AV.v (Value.int IntKind.i64 (Fe t)), Fk t, AV.v (Value.int IntKind.i64 (Fm t)), Fl t, AV.v (Value.int IntKind.i64 (Fo t))]))) ∧ True) ∧ nat_lit 1 ≤ nat_lit 1 ∧ List.length (AM t) + nat_lit 1 ≤ nat_lit 1099511627776 ∧ ([List.getD (EC t) (nat_lit 0) (0 : Int)] = EC t ∧ AV.agg (AV.v (Value.int IntKind.i64 (Ff t)) :: Fc t :: AV.v (Value.int IntKind.i64 (Fq t)) :: Fj t :: AV.v (Value.int IntKind.i64 (Fp t)) :: Fr t) = AV.agg (List.map AV.nrm1 (Hh t))) ∧ True ∧ ∃ (x : A3), ((A2 ∧ A2 ∧ A2 ∧ A2 ∧ A2 ∧ A2 ∧ AX ∧ CK ∧ Value.int IntKind.i64 (IntKind.wrap IntKind.i64 (AL t + (1 : Int))) = CM x ∧ True) ∧ True ∧ ps = ps ∧ A8 ∧ A7 ∧ A6 ∧ (Ap ∧ Cr = hardsM (GroundT.mk long rise change ps) (nat_lit 0)) ∧ (Aa ∧ Cn = mixesM (GroundT.mk long rise change ps) (nat_lit 0)) ∧ Ab ∧ A5 ∧ (Ci ∧ AM t ++ List.take (1 : Nat) (List.drop (0 : Nat) [(false, C0 t, (Prod.fst (EV t), EU t), (Ff t, F1 t), (Fq t, Fa t), Fp t, Fb t)]) = AM x) ∧ (nat_lit 0 = nat_lit 0 ∧ True) ∧ mputM UU MM.pits (ET t) (List.getD (ET t) (0 : Nat) (0 : Int), (F0 t, Fe t), (F9 t, Fm t), F7 t, Fo t) (B1 t) = B1 x ∧ (nat_lit 0 = nat_lit 0 ∧ True) ∧ True) ∧ CS x < CS t) ∧ (Du t = false → True ∧ AZ ∧ Ao ∧ ∀ (l : Nat), (∃ (x : A9), (AD l ∧ A2 ∧ A2 ∧ BF ∧ Ae = AK x ∧ True) ∧ True ∧ ps = ps ∧ A8 ∧ A7 ∧ A6 ∧ (Ap ∧ Cr = B0 x) ∧ (Aa ∧ Cn = AI x) ∧ Ab ∧ A5 ∧ (CC ∧ AM t = tellsM ps) ∧ (nat_lit 0 = nat_lit 0 ∧ True) ∧ B1 t = pmapM ps ∧ (nat_lit 0 = nat_lit 0 ∧ True) ∧ CI) ∧ ∀ (t : A9), (Do t = true → l = l ∧ True ∧ (CA ∧ (0 : Int) < Bw) ∧ nat_lit 0 < List.length (tellsM ps) ∧ (DD = true → True ∧ (True ∧ Dj t) ∧ True ∧ ∃ (x : A1), (FU t x ∧ True ∧ ps = ps ∧ A8 ∧ A7 ∧ A6 ∧ Dy t x ∧ Dz t x ∧ Ab ∧ A5 ∧ Ad ∧ (nat_lit 0 = nat_lit 0 ∧ True) ∧ Ac ∧ (nat_lit 0 = nat_lit 0 ∧ True) ∧ A5 ∧ (True ∧ True) ∧ (Ae = Av x ∧ Bt = Aw x ∧ True) ∧ True) ∧ Dw x ∧ HB x l t) ∧ (DD = false → True ∧ ((DV = DV ∧ Ec = Ec ∧ Ed = Ed ∧ Ex = Ex ∧ Ev = Ev ∧ EL = EL ∧ EN = EN ∧ EO = EO ∧ EK = EK ∧ True) ∧ Dj t) ∧ True ∧ ∃ (x : A1), (FU t x ∧ True ∧ ps = ps ∧ A8 ∧ A7 ∧ A6 ∧ Dy t x ∧ Dz t x ∧ Ab ∧ A5 ∧ Ad ∧ (nat_lit 0 = nat_lit 0 ∧ True) ∧ Ac ∧ (nat_lit 0 = nat_lit 0 ∧ True) ∧ A5 ∧ (True ∧ True) ∧ (Value.int IntKind.i64 (Prod.fst (E0 t)) = Av x ∧ Value.int IntKind.i64 (Prod.snd (E0 t)) = Aw x ∧ True) ∧ True) ∧ Dw x ∧ HB x l t)) ∧ (Do t = false → (nat_lit 2 = nat_lit 2 ∧ AV.v (Value.bool false) = AV.v (Value.bool false) ∧ AV.v (Value.bool true) = AV.v (Value.bool true) ∧ True) ∧ ((A2 ∧ A2 ∧ A2 ∧ A2 ∧ A2 ∧ A2 ∧ nat_lit 0 = nat_lit 0 ∧ Value.int IntKind.i64 (↑(nat_lit 2) : Int) = AT ∧ CF ∧ True) ∧ True ∧ ps = ps ∧ A8 ∧ A7 ∧ A6 ∧ (Ap ∧ B0 t = AH) ∧ (Aa ∧ AI t = stageM (GroundT.mk long rise change ps) (nat_lit 0)) ∧ Ab ∧ A5 ∧ Ad ∧ (nat_lit 0 = nat_lit 0 ∧ True) ∧ Ac ∧ (nat_lit 0 = nat_lit 0 ∧ True) ∧ (nat_lit 4 = (4 : TypeId) ∧ D5) ∧ True) ∧ (CO = true → (CA ∧ (0 : Int) < (↑(nat_lit 2) : Int)) ∧ nat_lit 0 < nat_lit 2 ∧ True ∧ (A2 ∧ BE = BE ∧ True) ∧ Ao ∧ ∀ (l : Nat), ∃ (x : A0), (BX l x ∧ True ∧ ps = ps ∧ A8 ∧ A7 ∧ A6 ∧ Af ∧ (Aa ∧ Cs = Ah x) ∧ Ab ∧ A5 ∧ Ad ∧ (nat_lit 0 = nat_lit 0 ∧ True) ∧ Ac ∧ (nat_lit 0 = nat_lit 0 ∧ True) ∧ Ag ∧ C9 x ∧ BJ x ∧ A5 ∧ (BE = AO x ∧ True) ∧ True) ∧ BN x ∧ ∀ (t : A0), B6 t x → (BT t → Cc t l x ∧ Cb t l x) ∧ (BU t → ((A2 ∧ A2 ∧ A2 ∧ A2 ∧ A2 ∧ A2 ∧ nat_lit 0 = nat_lit 0 ∧ CG ∧ Value.int IntKind.i64 (IntKind.wrap IntKind.i64 ((0 : Int) + (1 : Int))) = Value.int IntKind.i64 (1 : Int) ∧ True) ∧ True ∧ ps = ps ∧ A8 ∧ A7 ∧ A6 ∧ Af ∧ (Aa ∧ An t = stageM (GroundT.mk long rise change ps) (nat_lit 1)) ∧ Fs) ∧ (CP = true → ((0 : Int) ≤ (1 : Int) ∧ (1 : Int) < (↑(nat_lit 2) : Int)) ∧ nat_lit 1 < nat_lit 2 ∧ True ∧ (A2 ∧ BD = BD ∧ True) ∧ Ao ∧ ∀ (l : Nat), ∃ (x : A0), (BX l x ∧ True ∧ ps = ps ∧ A8 ∧ A7 ∧ A6 ∧ Af ∧ (Aa ∧ Ct = Ah x) ∧ Ab ∧ A5 ∧ Ad ∧ (nat_lit 0 = nat_lit 0 ∧ True) ∧ Ac ∧ (nat_lit 0 = nat_lit 0 ∧ True) ∧ Ag ∧ C9 x ∧ BJ x ∧ A5 ∧ (BD = AO x ∧ True) ∧ True) ∧ BN x ∧ ∀ (t : A0), B6 t x → (BT t → Cc t l x ∧ Cb t l x) ∧ (BU t → ((A2 ∧ A2 ∧ A2 ∧ A2 ∧ A2 ∧ A2 ∧ nat_lit 0 = nat_lit 0 ∧ CG ∧ Value.int IntKind.i64 (IntKind.wrap IntKind.i64 ((1 : Int) + (1 : Int))) = AT ∧ True) ∧ True ∧ ps = ps ∧ A8 ∧ A7 ∧ A6 ∧ Af ∧ (Aa ∧ An t = stageM (GroundT.mk long rise change ps) (nat_lit 2)) ∧ Fs) ∧ (CQ = true → ((0 : Int) ≤ (2 : Int) ∧ (2 : Int) < (↑(nat_lit 2) : Int)) ∧ nat_lit 2 < nat_lit 2 ∧ True ∧ (A2 ∧ BC = BC ∧ True) ∧ Ao ∧ ∀ (l : Nat), ∃ (x : A0), (BX l x ∧ True ∧ ps = ps ∧ A8 ∧ A7 ∧ A6 ∧ Af ∧ (Aa ∧ Co = Ah x) ∧ Ab ∧ A5 ∧ Ad ∧ (nat_lit 0 = nat_lit 0 ∧ True) ∧ Ac ∧ (nat_lit 0 = nat_lit 0 ∧ True) ∧ Ag ∧ C9 x ∧ BJ x ∧ A5 ∧ (BC = AO x ∧ True) ∧ True) ∧ BN x ∧ ∀ (t : A0), B6 t x → (BT t → Cc t l x ∧ Cb t l x) ∧ (BU t → False)) ∧ (CQ = false → True ∧ AZ ∧ Ao ∧ ∀ (l : Nat), (∃ (x : A4), BV l x ∧ True ∧ ps = ps ∧ A8 ∧ A7 ∧ A6 ∧ Af ∧ (Aa ∧ Co = boxesM (GroundT.mk long rise change ps)) ∧ C2) ∧ Ca l))) ∧ (CP = false → True ∧ AZ ∧ Ao ∧ ∀ (l : Nat), (∃ (x : A4), BV l x ∧ True ∧ ps = ps ∧ A8 ∧ A7 ∧ A6 ∧ Af ∧ (Aa ∧ Ct = boxesM (GroundT.mk long rise change ps)) ∧ C2) ∧ Ca l))) ∧ (CO = false → True ∧ AZ ∧ Ao ∧ ∀ (l : Nat), (∃ (x : A4), BV l x ∧ True ∧ ps = ps ∧ A8 ∧ A7 ∧ A6 ∧ Af ∧ (Aa ∧ Cs = boxesM (GroundT.mk long rise change ps)) ∧ C2) ∧ Ca l))))
    (by kernel_rfl) ?_
  simp only [eq_self, AE.goS]
  have hg := ground_ok hx
  have hlong : 0 ≤ long ∧ long ≤ 40 := hg.long
  obtain ⟨hn0, hn1, hn2⟩ := n_ok hg
  have hn0' : ((nM ⟨long, rise, change, ps⟩ : Nat) : Int) = long + 1 := hn0
  have hps : ps.length ≤ 8 := hg.len
  have hW : IntKind.i64.wrap (long + 1) = ((nM ⟨long, rise, change, ps⟩ : Nat) : Int) := by rw [wrap_id (by omega) (by omega)]; omega
  have hTL := tells_len ps
  rw [hW]
  refine ⟨⟨⟨by omega, by omega, by omega⟩, rfl⟩, ⟨⟨by omega, by omega, by omega⟩, rfl⟩, ⟨fun h => h, fun h => absurd h (by decide)⟩, ⟨⟨0, Nat.zero_le _⟩, rfl, ?_, ?_, rfl, rfl⟩, fun t => ⟨fun ht => ?_, fun ht => ?_⟩⟩
  · rw [Int.toNat_natCast]
    refine List.ext_getElem (by simp [hardsM]) fun j h1 h2 => ?_
    simp [hardsM]
  · rw [Int.toNat_natCast]
    refine List.ext_getElem (by simp [mixesM]) fun j h1 h2 => ?_
    simp [mixesM]
  · obtain ⟨i, hi⟩ := t
    have hlt : i < ps.length := by have h0 : (i : Int) < (ps.length : Int) := ht; omega
    have hTi := tells_len (ps.take i)
    rw [List.length_take] at hTi
    refine ⟨⟨Int.natCast_nonneg _, ht⟩, hlt, ⟨fun h => absurd h (by decide), fun h => h⟩, Nat.le_refl _, by show (tellsM (ps.take i)).length + 1 ≤ _; omega, ⟨rfl, rfl⟩, ⟨i + 1, hlt⟩, ⟨sucI i (by omega), ?_, ?_⟩, dec1 hlt⟩
    · show tellsM (ps.take i) ++ [(false, ps.getD i pit0)] = tellsM (ps.take (i + 1))
      rw [take_snoc ps i hlt pit0, tells_snoc]
    · exact pmap_put hg.inc hlt
  obtain ⟨i, hi⟩ := t
  have hie : i = ps.length := by have h0 : ¬ (i : Int) < (ps.length : Int) := ht; omega
  subst hie
  refine fun l => ⟨⟨⟨0, Nat.zero_le _⟩, ⟨rfl, rfl⟩, rfl, rfl, by rw [List.take_length], by rw [List.take_length]⟩, fun t => ⟨fun ht => ?_, fun ht => ?_⟩⟩
  · obtain ⟨k, hk⟩ := t
    have hlt : k < nM ⟨long, rise, change, ps⟩ := by have h0 : (k : Int) < ((nM ⟨long, rise, change, ps⟩ : Nat) : Int) := ht; omega
    refine ⟨⟨Int.le_refl _, by omega⟩, by omega, fun _ => ⟨⟨(k, 0), hlt, Nat.zero_le _⟩, ⟨⟨rfl, rfl⟩, rfl, rfl, rfl, rfl⟩, ?_⟩, fun h => ?_⟩
    · rintro ⟨⟨k1, j⟩, hk1, hj⟩ hr
      have hr' : k1 = k := hr
      subst hr'
      refine ⟨fun hjl => ?_, fun hjl => ?_⟩
      · have hlt2 : j < (tellsM ps).length := by have h0 : (j : Int) < ((tellsM ps).length : Int) := hjl; omega
        have hstep := hardT_suc (tellsM ps) rise (k1 : Int) j hlt2
        have hA : ((tellsM ps).getD j t0).1 = true → bothM (hardTM ((tellsM ps).take j) rise (k1 : Int)) (0, 1000) = hardTM ((tellsM ps).take (j + 1)) rise (k1 : Int) := fun hb => by
          rw [hstep]; unfold tellM; rw [if_pos hb]
        have hB : ((tellsM ps).getD j t0).1 = false → bothM (hardTM ((tellsM ps).take j) rise (k1 : Int)) (dugM ((tellsM ps).getD j t0).2 (k1 : Int) rise) = hardTM ((tellsM ps).take (j + 1)) rise (k1 : Int) := fun hb => by
          rw [hstep]; unfold tellM; rw [if_neg (by rw [hb]; decide)]
        exact ⟨⟨Int.natCast_nonneg _, hjl⟩, hlt2, fun hb => ⟨⟨(k1, j + 1), hk1, hlt2⟩, ⟨⟨rfl, sucI j (by omega)⟩, rfl, rfl, congrArg Prod.fst (hA hb), congrArg Prod.snd (hA hb)⟩, dec1 hlt2, rfl⟩,
          fun hb => ⟨⟨(k1, j + 1), hk1, hlt2⟩, ⟨⟨rfl, sucI j (by omega)⟩, rfl, rfl, congrArg Prod.fst (hB hb), congrArg Prod.snd (hB hb)⟩, dec1 hlt2, rfl⟩⟩
      · have hje : j = (tellsM ps).length := by have h0 : ¬ (j : Int) < ((tellsM ps).length : Int) := hjl; have hj' : j ≤ (tellsM ps).length := hj; omega
        have hh : hardTM ((tellsM ps).take j) rise (k1 : Int) = hardM ⟨long, rise, change, ps⟩ (k1 : Int) := by rw [hje, List.take_length]; rfl
        have hl1 := hards_len ⟨long, rise, change, ps⟩ k1
        have hl2 := mixes_len ⟨long, rise, change, ps⟩ k1
        have hlh : (0 : Int) ≤ (k1 : Int) ∧ (k1 : Int) < ((hardsM ⟨long, rise, change, ps⟩ k1).length : Int) := by omega
        have hlm : (0 : Int) ≤ (k1 : Int) ∧ (k1 : Int) < ((mixesM ⟨long, rise, change, ps⟩ k1).length : Int) := by omega
        have hls : (0 : Int) ≤ (k1 : Int) ∧ (k1 : Int) < (((mixesM ⟨long, rise, change, ps⟩ k1).set k1 anyM).length : Int) := by rw [List.length_set]; omega
        have nlh : k1 < (hardsM ⟨long, rise, change, ps⟩ k1).length := by omega
        have nlm : k1 < (mixesM ⟨long, rise, change, ps⟩ k1).length := by omega
        have nls : k1 < ((mixesM ⟨long, rise, change, ps⟩ k1).set k1 anyM).length := by rw [List.length_set]; omega
        have hset := hards_set hlt hh
        have hgetA : ((mixesM ⟨long, rise, change, ps⟩ k1).set k1 anyM).getD k1 m0 = anyM := by
          rw [List.getD_eq_getElem?_getD, List.getElem?_set_self (by omega)]; rfl
        refine ⟨hlh, nlh, hlm, nlm, fun hm => ⟨hls, nls, hls, nls, ⟨k1 + 1, hlt⟩, ⟨sucI k1 (by omega), hset, ?_⟩, dec1 hlt⟩, fun hm => ⟨⟨k1 + 1, hlt⟩, ⟨sucI k1 (by omega), hset, mixes_set hlt (mixAt_no hm).symm⟩, dec1 hlt⟩⟩
        have hm' : mhasM UU MM.pits [(k1 : Int)] (pmapM ps) = true := hm
        simp only [hm', cond_true]
        show ((mixesM ⟨long, rise, change, ps⟩ k1).set k1 anyM).set k1 (andM (((mixesM ⟨long, rise, change, ps⟩ k1).set k1 anyM).getD k1 m0) (mgetM UU MM.pits [(k1 : Int)] (pmapM ps)).2) = mixesM ⟨long, rise, change, ps⟩ (k1 + 1)
        rw [hgetA, List.set_set]
        exact mixes_set hlt (mixAt_yes hm').symm
    · rw [tells_eq] at h
      exact absurd h (by simp)
  · obtain ⟨k, hk⟩ := t
    have hke : k = nM ⟨long, rise, change, ps⟩ := by have h0 : ¬ (k : Int) < ((nM ⟨long, rise, change, ps⟩ : Nat) : Int) := ht; have hk' : k ≤ nM ⟨long, rise, change, ps⟩ := hk; omega
    subst hke
    have hS := stage_len ⟨long, rise, change, ps⟩
    refine ⟨⟨rfl, rfl, rfl⟩, fun _ => ⟨⟨Int.le_refl _, by decide⟩, by decide, fun l => ⟨⟨(0, 0), by decide, Nat.zero_le _⟩, ⟨⟨rfl, rfl⟩, (pass_zero _ _ _).symm, ⟨rfl, rfl, rfl, rfl, rfl, rfl⟩, rfl, rfl⟩, ?_⟩⟩, fun h => absurd (by decide) h⟩
    rintro ⟨⟨i, k⟩, hi2, hk2⟩ hr
    have hr' : i = 0 := hr
    subst hr'
    refine ⟨fun ht2 => ?_, fun ht2 => ?_⟩
    · have hlt : k < nM ⟨long, rise, change, ps⟩ := by have h0 : (k : Int) < ((nM ⟨long, rise, change, ps⟩ : Nat) : Int) := ht2; omega
      have hi1 : k < nM ⟨long, rise, change, ps⟩ := hlt
      have hx2 : idxM (stageM ⟨long, rise, change, ps⟩ 0).length false k = k := rfl
      have hkl : k < (stageM ⟨long, rise, change, ps⟩ 0).length := by rw [hS 0]; exact hlt
      have hpl : (passM (stageM ⟨long, rise, change, ps⟩ 0) false change k).length = nM ⟨long, rise, change, ps⟩ := by rw [pass_len]; exact hS 0
      have r1 : (0 : Int) ≤ ((k : Nat) : Int) ∧ ((k : Nat) : Int) < ((passM (stageM ⟨long, rise, change, ps⟩ 0) false change k).length : Int) := by rw [hpl]; omega
      have r2 : k < (passM (stageM ⟨long, rise, change, ps⟩ 0) false change k).length := by rw [hpl]; exact hi1
      have hnx : ∀ A : Mix3, A = accM (stageM ⟨long, rise, change, ps⟩ 0) false change k → (passM (stageM ⟨long, rise, change, ps⟩ 0) false change k).set k A = passM (stageM ⟨long, rise, change, ps⟩ 0) false change (k + 1) := fun A hA => by
        have := pass_set (stageM ⟨long, rise, change, ps⟩ 0) false change hkl hA
        rw [hx2] at this; exact this
      have hf : (k == 0) = true → (passM (stageM ⟨long, rise, change, ps⟩ 0) false change k).getD k m0 = accM (stageM ⟨long, rise, change, ps⟩ 0) false change k := fun h0 => by
        have e0 : k = 0 := by simpa using h0
        subst e0
        have := pass_first (stageM ⟨long, rise, change, ps⟩ 0) false change hkl
        rw [hx2] at this; exact this
      have hn : (k == 0) = false → andM ((passM (stageM ⟨long, rise, change, ps⟩ 0) false change k).getD k m0) (nextM (nowM (stageM ⟨long, rise, change, ps⟩ 0) false change k) change) = accM (stageM ⟨long, rise, change, ps⟩ 0) false change k := fun h0 => by
        have e0 : k ≠ 0 := by simpa using h0
        have := pass_next (stageM ⟨long, rise, change, ps⟩ 0) false change hkl e0
        rw [hx2] at this; exact this
      have hsu := sucI k (by omega)
      exact ⟨fun h => absurd (show ((0 : Nat) == 1) = true from h) (by decide), fun _ => ⟨r1, r2, fun h0 => ⟨r1, r2, r1, r2, ⟨(0, k + 1), (by show (0 : Nat) < 2; decide), hlt⟩, ⟨hsu, hnx _ (hf h0), six (b := accM (stageM ⟨long, rise, change, ps⟩ 0) false change k) (hf h0), rfl, rfl⟩, dec1 hlt, rfl⟩, fun h0 => ⟨r1, r2, ⟨(0, k + 1), (by show (0 : Nat) < 2; decide), hlt⟩, ⟨hsu, hnx _ (hn h0), six (b := accM (stageM ⟨long, rise, change, ps⟩ 0) false change k) (hn h0), h0, rfl⟩, dec1 hlt, rfl⟩⟩⟩
    have hke0 : k = nM ⟨long, rise, change, ps⟩ := by have h0 : ¬ (k : Int) < ((nM ⟨long, rise, change, ps⟩ : Nat) : Int) := ht2; have hk3 : k ≤ nM ⟨long, rise, change, ps⟩ := hk2; omega
    subst hke0
    refine ⟨⟨by decide, rfl⟩, fun _ => ⟨⟨by decide, by decide⟩, by decide, fun l => ⟨⟨(1, 0), by decide, Nat.zero_le _⟩, ⟨⟨rfl, rfl⟩, (pass_zero _ _ _).symm, ⟨rfl, rfl, rfl, rfl, rfl, rfl⟩, rfl, rfl⟩, ?_⟩⟩, fun h => absurd (by decide) h⟩
    rintro ⟨⟨i, k⟩, hi2, hk2⟩ hr
    have hr' : i = 1 := hr
    subst hr'
    refine ⟨fun ht2 => ?_, fun ht2 => ?_⟩
    · have hlt : k < nM ⟨long, rise, change, ps⟩ := by have h0 : (k : Int) < ((nM ⟨long, rise, change, ps⟩ : Nat) : Int) := ht2; omega
      have hi1 : (nM ⟨long, rise, change, ps⟩ - 1 - k) < nM ⟨long, rise, change, ps⟩ := by omega
      have ei : IntKind.i64.wrap (long - (k : Int)) = ((nM ⟨long, rise, change, ps⟩ - 1 - k : Nat) : Int) := by rw [wrap_id (by omega) (by omega)]; omega
      have hx2 : idxM (stageM ⟨long, rise, change, ps⟩ 1).length true k = nM ⟨long, rise, change, ps⟩ - 1 - k := by rw [hS 1]; rfl
      have hkl : k < (stageM ⟨long, rise, change, ps⟩ 1).length := by rw [hS 1]; exact hlt
      have hpl : (passM (stageM ⟨long, rise, change, ps⟩ 1) true change k).length = nM ⟨long, rise, change, ps⟩ := by rw [pass_len]; exact hS 1
      have r1 : (0 : Int) ≤ (((nM ⟨long, rise, change, ps⟩ - 1 - k) : Nat) : Int) ∧ (((nM ⟨long, rise, change, ps⟩ - 1 - k) : Nat) : Int) < ((passM (stageM ⟨long, rise, change, ps⟩ 1) true change k).length : Int) := by rw [hpl]; omega
      have r2 : (nM ⟨long, rise, change, ps⟩ - 1 - k) < (passM (stageM ⟨long, rise, change, ps⟩ 1) true change k).length := by rw [hpl]; exact hi1
      have hnx : ∀ A : Mix3, A = accM (stageM ⟨long, rise, change, ps⟩ 1) true change k → (passM (stageM ⟨long, rise, change, ps⟩ 1) true change k).set (nM ⟨long, rise, change, ps⟩ - 1 - k) A = passM (stageM ⟨long, rise, change, ps⟩ 1) true change (k + 1) := fun A hA => by
        have := pass_set (stageM ⟨long, rise, change, ps⟩ 1) true change hkl hA
        rw [hx2] at this; exact this
      have hf : (k == 0) = true → (passM (stageM ⟨long, rise, change, ps⟩ 1) true change k).getD (nM ⟨long, rise, change, ps⟩ - 1 - k) m0 = accM (stageM ⟨long, rise, change, ps⟩ 1) true change k := fun h0 => by
        have e0 : k = 0 := by simpa using h0
        subst e0
        have := pass_first (stageM ⟨long, rise, change, ps⟩ 1) true change hkl
        rw [hx2] at this; exact this
      have hn : (k == 0) = false → andM ((passM (stageM ⟨long, rise, change, ps⟩ 1) true change k).getD (nM ⟨long, rise, change, ps⟩ - 1 - k) m0) (nextM (nowM (stageM ⟨long, rise, change, ps⟩ 1) true change k) change) = accM (stageM ⟨long, rise, change, ps⟩ 1) true change k := fun h0 => by
        have e0 : k ≠ 0 := by simpa using h0
        have := pass_next (stageM ⟨long, rise, change, ps⟩ 1) true change hkl e0
        rw [hx2] at this; exact this
      have hsu := sucI k (by omega)
      simp only [ei, Int.toNat_natCast]
      exact ⟨fun _ => ⟨r1, r2, fun h0 => ⟨r1, r2, r1, r2, ⟨(1, k + 1), (by show (1 : Nat) < 2; decide), hlt⟩, ⟨hsu, hnx _ (hf h0), six (b := accM (stageM ⟨long, rise, change, ps⟩ 1) true change k) (hf h0), rfl, rfl⟩, dec1 hlt, rfl⟩, fun h0 => ⟨r1, r2, ⟨(1, k + 1), (by show (1 : Nat) < 2; decide), hlt⟩, ⟨hsu, hnx _ (hn h0), six (b := accM (stageM ⟨long, rise, change, ps⟩ 1) true change k) (hn h0), h0, rfl⟩, dec1 hlt, rfl⟩⟩, fun h => absurd (show ((1 : Nat) == 1) = false from h) (by decide)⟩
    have hke1 : k = nM ⟨long, rise, change, ps⟩ := by have h0 : ¬ (k : Int) < ((nM ⟨long, rise, change, ps⟩ : Nat) : Int) := ht2; have hk3 : k ≤ nM ⟨long, rise, change, ps⟩ := hk2; omega
    subst hke1
    refine ⟨⟨by decide, rfl⟩, fun h => absurd h (by decide), fun _ => ?_⟩
    refine fun l => ⟨⟨⟨0, Nat.zero_le _, fun j hj => absurd hj (Nat.not_lt_zero _)⟩, ⟨rfl, rfl⟩, rfl⟩, fun t => ⟨fun ht3 => ?_, fun ht3 => ?_⟩⟩
    · obtain ⟨k, hk, hb⟩ := t
      have hlt : k < nM ⟨long, rise, change, ps⟩ := by have h0 : (k : Int) < ((nM ⟨long, rise, change, ps⟩ : Nat) : Int) := ht3; omega
      have hl1 := hards_len ⟨long, rise, change, ps⟩ (nM ⟨long, rise, change, ps⟩)
      have hl2 : (boxesM ⟨long, rise, change, ps⟩).length = nM ⟨long, rise, change, ps⟩ := hS 2
      have r1 : (0 : Int) ≤ (k : Int) ∧ (k : Int) < ((hardsM ⟨long, rise, change, ps⟩ (nM ⟨long, rise, change, ps⟩)).length : Int) := by omega
      have r2 : k < (hardsM ⟨long, rise, change, ps⟩ (nM ⟨long, rise, change, ps⟩)).length := by omega
      have r3 : (0 : Int) ≤ (k : Int) ∧ (k : Int) < ((boxesM ⟨long, rise, change, ps⟩).length : Int) := by omega
      have r4 : k < (boxesM ⟨long, rise, change, ps⟩).length := by omega
      have hgd := hards_get hlt
      refine ⟨r1, r2, r1, r2, fun h => ?_, fun h => ⟨r3, r4, fun h2 => ?_, fun h2 => ?_⟩⟩
      · have h' : ((hardsM ⟨long, rise, change, ps⟩ (nM ⟨long, rise, change, ps⟩)).getD k (0, 0)).1 > ((hardsM ⟨long, rise, change, ps⟩ (nM ⟨long, rise, change, ps⟩)).getD k (0, 0)).2 := h
        rw [hgd] at h'
        have hbad := look_bad hlt (show badM ⟨long, rise, change, ps⟩ k = true by unfold badM; rw [decide_eq_true h']; rfl)
        exact ⟨fun hl => absurd hl (by rw [hbad]; decide), fun _ => trivial⟩
      · have h2' : noneM ((boxesM ⟨long, rise, change, ps⟩).getD k m0) = true := h2
        have hbad := look_bad hlt (show badM ⟨long, rise, change, ps⟩ k = true by unfold badM; rw [h2']; simp)
        exact ⟨fun hl => absurd hl (by rw [hbad]; decide), fun _ => trivial⟩
      · have h' : ¬ ((hardsM ⟨long, rise, change, ps⟩ (nM ⟨long, rise, change, ps⟩)).getD k (0, 0)).1 > ((hardsM ⟨long, rise, change, ps⟩ (nM ⟨long, rise, change, ps⟩)).getD k (0, 0)).2 := h
        rw [hgd] at h'
        have h2' : noneM ((boxesM ⟨long, rise, change, ps⟩).getD k m0) = false := h2
        have hgood : badM ⟨long, rise, change, ps⟩ k = false := by unfold badM; rw [h2', decide_eq_false h']; rfl
        refine ⟨⟨k + 1, hlt, fun j hj => ?_⟩, sucI k (by omega), dec1 hlt⟩
        rcases Nat.lt_or_eq_of_le (Nat.le_of_lt_succ hj) with h1 | rfl
        · exact hb j h1
        · exact hgood
    · obtain ⟨k, hk, hb⟩ := t
      have hke3 : k = nM ⟨long, rise, change, ps⟩ := by have h0 : ¬ (k : Int) < ((nM ⟨long, rise, change, ps⟩ : Nat) : Int) := ht3; have hk3 : k ≤ nM ⟨long, rise, change, ps⟩ := hk; omega
      subst hke3
      have hgood := look_good hb
      exact ⟨fun _ => trivial, fun h => absurd h (by rw [hgood]; decide)⟩

theorem look_sound : Sound Tryz.prog 121 lookS.con := FSpec2.sound _ (enter_of Tryz.func121 (by kernel_rfl) (by kernel_rfl)) look_ok
end AE.Soil

namespace AE.Soil
open Go AE Go.Proofs

def sliceAt (c : CC) (H : Heap UU) : AV → Option (List (c.ty))
  | .v (.slice none 0 0) => some []
  | .gs id k => rowAt (U := UU) c H id k
  | .sl id k _ _ => match Nat.beq id noId with
    | true => some []
    | false => rowAt (U := UU) c H id k
  | _ => none
def restOf : Code → Code
  | .seq _ c => c
  | c => c
theorem told_ok : TdOk Tryz.prog 114 (tdOf (U := UU) Tryz.prog [] Tryz.f114 (restOf (bodyOf Tryz.f114)) 5) :=
  tdOf_ok hmix .nil Tryz.func114 (enter_of Tryz.func114 (by kernel_rfl) (by kernel_rfl)) rfl rfl rfl rfl rfl (by decide) (by kernel_rfl)
def tdAt (n : Nat) (d : TdW UU) (k : Nat) : Option (TdW UU) := match Nat.beq k n with
  | true => some d
  | false => none
theorem tdAt_ok {n : Nat} {d : TdW UU} (h : TdOk Tryz.prog n d) : ∀ k e, tdAt n d k = some e → TdOk Tryz.prog k e := by
  intro k e hk
  unfold tdAt at hk
  split at hk
  · rename_i hb
    cases hk
    rw [Nat.eq_of_beq_eq_true hb]; exact h
  · cases hk

inductive Ask where
  | place
  | cls
  | span (ok : Bool)
def askM (a : Ask) (long n : Int) : Bool := match a with
  | .place => inM n 0 long
  | .cls => inM n 0 3
  | .span ok => inM n 0 long && ok
def openErrM (g : GroundT) (a : Ask) (l : List Int) : Int := if groundM g then (if l.all (askM a g.long) then (if lookM g then 0 else 10) else 2) else 1
theorem open_arg {g : GroundT} {a : Ask} {l : List Int} (h : groundM g = false) : openErrM g a l = 1 := by unfold openErrM; rw [h]; rfl
theorem open_range {g : GroundT} {a : Ask} {l : List Int} (h : groundM g = true) {i : Nat} (hi : i < l.length) (hn : askM a g.long (l.getD i 0) = false) : openErrM g a l = 2 := by
  have : l.all (askM a g.long) = false := by
    rw [List.all_eq_false]
    refine ⟨l.getD i 0, ?_, by rw [hn]; decide⟩
    rw [List.getD_eq_getElem?_getD, List.getElem?_eq_getElem hi]; exact List.getElem_mem hi
  unfold openErrM; rw [h, this]; rfl
theorem open_look {g : GroundT} {a : Ask} {l : List Int} (h : groundM g = true) (ha : l.all (askM a g.long) = true) : openErrM g a l = if lookM g then 0 else 10 := by
  unfold openErrM; rw [h, ha]; rfl
theorem ask_suc {a : Ask} {long : Int} {l : List Int} {i : Nat} (hi : i < l.length) (h : (l.take i).all (askM a long) = true) (hn : askM a long (l.getD i 0) = true) : (l.take (i + 1)).all (askM a long) = true := by
  rw [take_snoc l i hi 0, List.all_append, h, List.all_cons, hn]; rfl
def openL (g : GroundT) (l : List Int) : LSpec UU where
  T := { i : Nat // i ≤ l.length ∧ (l.take i).all (askM .place g.long) = true }
  fr := fun i => [(1, .fn (.func 122) [] [.ptr 1 0 0 0]), (3, .ptr 3 0 0 0), (14, .sl 2 0 0 l.length), (15, .i l.length), (16, .i i.1)]
  H := fun _ => [.one (.ro .pit g.pits), .one (.rc (cGround g 0) 28), .one (.ro .int l), .one (.cells (cGround g 0) 28)]
  mu := fun i => l.length - i.1
def openAS : FSpec2 UU where
  X := GroundT × List Int
  pick := fun args H => match args with
    | [a, .fn (.func 122) [] [_], l] => match avGround H a, sliceAt .int H l with
      | some a, some l => some (a, l)
      | _, _ => none
    | _ => none
  args := fun x => [vGround x.1 0, .fn (.func 122) [] [.ptr 1 0 0 0], .sl 2 0 0 x.2.length]
  H := fun x => [.one (.ro .pit x.1.pits), .one (.rc (cGround x.1 0) 28), .one (.ro .int x.2)]
  c := fun x => openErrM x.1 .place x.2 == 0
  R := fun x => .val ⟨.ptr 5 0 0 0, [], [], [.row .span (hardsM x.1 (nM x.1)) 23, .row .mix (boxesM x.1) 181, .cells [.i x.1.long, .i x.1.rise, .i x.1.change, .sl 0 0 0 x.1.pits.length, .gs 3 0, .gs 4 0] 166]⟩
  R' := fun x => .panic (failV (openErrM x.1 .place x.2))
  pre := fun x => x.1.pits.length < 1000000 ∧ x.2.length < 1000
def Topen : Tab UU := [(120, isGroundS.con), (119, mustS.con), (121, lookS.con), (122, placeS.con)]
theorem Topen_ok : Topen.Sound Tryz.prog := .cons isGround_sound (.cons must_sound (.cons look_sound (.cons place_sound .nil)))
theorem openA_ok : ∀ x, openAS.pre x → (openAS.c x = true → FunOk Tryz.prog 115 (openAS.args x) (openAS.H x) (openAS.R x)) ∧ (openAS.c x = false → FunOk Tryz.prog 115 (openAS.args x) (openAS.H x) (openAS.R' x)) := by
  rintro ⟨⟨long, rise, change, ps⟩, l⟩ hx
  refine fun_of2 (T := Topen) (L := fun _ => some (.inv (openL ⟨long, rise, change, ps⟩ l))) (hs := fun _ => []) (sp := fun _ => none) hmix Topen_ok (td := fun _ => none) (fun _ _ h => by cases h) (it := fun _ => none) (fun _ _ h => by cases h) Tryz.func115 (by kernel_rfl) (by kernel_rfl) ?_
  refine Eq.mp (α :=
      let Ak := (23 : TypeId); let Al := (172 : TypeId); let Am := (181 : TypeId); let A6 := nat_lit 0 = nat_lit 0 ∧ nat_lit 0 = nat_lit 0 ∧ nat_lit 0 = nat_lit 0; let An := (↑(List.length l) : Int); let A7 := ps = ps ∧ True; let Ao := openErrM (GroundT.mk long rise change ps) Ask.place l; let Ap := Fn.func ((122 : FuncId)); let A8 := Value.int IntKind.i64 (2 : Int); let A9 := Value.int IntKind.i64 (1 : Int); let Aa := Value.int IntKind.i64 (10 : Int); let Aq := groundM (GroundT.mk long rise change ps) = true; let Ab := A6 ∧ True; let Ac := Value.int IntKind.i64 rise = Value.int IntKind.i64 rise; let Ad := Value.int IntKind.i64 long = Value.int IntKind.i64 long; let Ae := Value.int IntKind.i64 change = Value.int IntKind.i64 change; let Ar : List Span := hardsM (GroundT.mk long rise change ps) (nM (GroundT.mk long rise change ps)); let As := Value.int IntKind.i64 An; let Af := Value.int IntKind.i64 Ao; let At := nat_lit 0 = nat_lit 0 ∧ nat_lit 0 = nat_lit 0 ∧ List.length l = List.length l; let Ag := Al = Al; let Au := nat_lit 0 = nat_lit 0 ∧ nat_lit 0 = nat_lit 0 ∧ List.length ps = List.length ps; let Av := (A8 = A8) ∧ True; let Aw := (Aa = Aa) ∧ True; let Ax := Ao == (0 : Int); let Ay := As = As; let Ah := Ax = true; let A2 := Ax = false; let Ai := Ah → False; let Az := A2 → False; let AA := (Ap = Ap) ∧ True ∧ Ab; let A0 : Type := { i : Nat // ((i ≤ List.length l) ∧ (List.all (List.take i l) (askM Ask.place (GroundT.long (GroundT.mk long rise change ps)))) = true) }; let AB := fun (x : A0) => Subtype.val x; let AC := Value.bool true = Value.bool true ∧ Aw; let AD := (Value.bool false = Value.bool false) ∧ Aw; let A1 := fun (x : A0) => (↑(AB x) : Int); let AE := fun (x : A0) => Value.int IntKind.i64 (A1 x); let AF := (Value.bool (groundM (GroundT.mk long rise change ps)) = Value.bool (groundM (GroundT.mk long rise change ps))) ∧ (A9 = A9) ∧ True; let AG := fun (x : A0) => List.length l - AB x; let AH := fun (t : A0) => nat_lit 0 + (Int.toNat (A1 t)); let AI := fun (t : A0) => A1 t < An; let A3 := Ad ∧ Ac ∧ Ae ∧ Au ∧ True; let A4 := A3 ∧ True; let AJ := fun (t : A0) => List.getD l (AH t) (0 : Int); let AK := fun (t : A0) => Value.int IntKind.i64 (AJ t); let Aj := fun (t : A0) => inM (AJ t) (0 : Int) long; let A5 := fun (t : A0) => Value.bool (Aj t); let AL := fun (t : A0) => decide (AI t); let AM := True ∧ (Ai ∧ (A2 → (True ∧ Ag ∧ (Aa = Af) ∧ True))); let AN := ps = ps ∧ A3 ∧ l = l ∧ A4; List.length ps < nat_lit 1000000 ∧ A4 ∧ A7 ∧ True ∧ (Aq → AF ∧ True ∧ (∃ (x : A0), (AA ∧ A6 ∧ At ∧ Ay ∧ Value.int IntKind.i64 (0 : Int) = AE x ∧ True) ∧ True ∧ AN) ∧ ∀ (t : A0), (AL t = true → ((0 : Int) ≤ A1 t ∧ AI t) ∧ AH t < List.length l ∧ True ∧ (AK t = AK t ∧ Ab) ∧ ((Ad ∧ Ac ∧ Ae ∧ True ∧ True) ∧ True) ∧ True ∧ (Aj t = true → (A5 t = A5 t ∧ Av) ∧ True ∧ True ∧ ∃ (x : A0), ((AA ∧ A6 ∧ At ∧ Ay ∧ Value.int IntKind.i64 (IntKind.wrap IntKind.i64 (A1 t + (1 : Int))) = AE x ∧ True) ∧ True ∧ AN) ∧ AG x < AG t) ∧ (Aj t = false → (A5 t = A5 t ∧ Av) ∧ True ∧ Ai ∧ (A2 → True ∧ Ag ∧ A8 = Af ∧ True))) ∧ (AL t = false → Aq ∧ (lookM (GroundT.mk long rise change ps) = true → A4 ∧ A7 ∧ True ∧ (true = true → AC ∧ True ∧ (Ah → True ∧ Ab ∧ True ∧ ps = ps ∧ A3 ∧ l = l ∧ (Ak = Ak ∧ Ar = Ar) ∧ (Am = Am ∧ boxesM (GroundT.mk long rise change ps) = boxesM (GroundT.mk long rise change ps)) ∧ (Ad ∧ Ac ∧ Ae ∧ Au ∧ nat_lit 0 = nat_lit 0 ∧ nat_lit 0 = nat_lit 0 ∧ True) ∧ True) ∧ Az) ∧ (true = false → AC ∧ AM)) ∧ (lookM (GroundT.mk long rise change ps) = false → A4 ∧ A7 ∧ True ∧ (false = true → AD ∧ True ∧ (Ah → True ∧ (False ∧ True) ∧ True ∧ ps = ps ∧ A3 ∧ l = l ∧ False ∧ False ∧ False ∧ True) ∧ Az) ∧ (false = false → AD ∧ AM)))) ∧ (groundM (GroundT.mk long rise change ps) = false → AF ∧ True ∧ Ai ∧ (A2 → True ∧ Ag ∧ A9 = Af ∧ True)))
    (by kernel_rfl) ?_
  simp only [eq_self, AE.goS]
  obtain ⟨hl1, hl2⟩ := hx
  have hl2' : l.length < 1000 := hl2
  refine ⟨hl1, fun hg => ⟨⟨⟨0, Nat.zero_le _, rfl⟩, rfl⟩, fun t => ⟨fun ht => ?_, fun ht => ⟨hg, fun hk => ?_, fun hk => ?_⟩⟩⟩, fun hg => ?_⟩
  · obtain ⟨i, hi, ha⟩ := t
    have hlt : i < l.length := by have h0 : (i : Int) < (l.length : Int) := ht; omega
    refine ⟨⟨Int.natCast_nonneg _, ht⟩, hlt, fun h => ⟨⟨i + 1, hlt, ask_suc hlt ha h⟩, sucI i (by omega), dec1 hlt⟩, fun h => ?_⟩
    rw [open_range (a := .place) hg hlt h]
    exact ⟨fun h => absurd h (by decide), fun _ => rfl⟩
  · obtain ⟨i, hi, ha⟩ := t
    have hie : i = l.length := by have h0 : ¬ (i : Int) < (l.length : Int) := ht; omega
    rw [hie, List.take_length] at ha
    rw [open_look (a := .place) hg ha, hk]
    exact ⟨fun _ => ⟨fun _ => trivial, fun h => absurd h (by decide)⟩, fun h => absurd h (by decide)⟩
  · obtain ⟨i, hi, ha⟩ := t
    have hie : i = l.length := by have h0 : ¬ (i : Int) < (l.length : Int) := ht; omega
    rw [hie, List.take_length] at ha
    rw [open_look (a := .place) hg ha, hk]
    exact ⟨fun h => absurd h (by decide), fun _ => ⟨fun h => absurd h (by decide), fun _ => rfl⟩⟩
  · rw [open_arg hg]
    exact ⟨fun h => absurd h (by decide), fun _ => rfl⟩

theorem openA_sound : Sound Tryz.prog 115 openAS.con := FSpec2.sound _ (enter_of Tryz.func115 (by kernel_rfl) (by kernel_rfl)) openA_ok
end AE.Soil
