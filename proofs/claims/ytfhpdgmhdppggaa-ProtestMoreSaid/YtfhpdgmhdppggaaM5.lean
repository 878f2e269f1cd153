/- An own symbolic executor for the model's code, and what the functions beneath the law compute, joined out of: PtB0, PtB, PrR, AeR, PsR. No condition. -/
import Derived.Test.YtfhpdgmhdppggaaM4
import Derived.Test.YtfhpdgmhdppggaaRows
import Derived.ProofKit
import Derived.OpenShut
import Derived.Below
import Derived.Carry
import Derived.ChangeArms

namespace AE.Pr
open Go AE Go.Proofs

theorem lineM_filter {x x' : RT} {hd : Int} {p : Int × Int → Bool} (h : ∀ t, isM x' hd t = (isM x hd t && p t)) (a n : Nat) : lineM x' hd a n = (lineM x hd a n).filter p := by
  unfold lineM
  rw [List.filter_map, List.filter_filter]
  congr 1
  refine List.filter_congr fun b _ => ?_
  rw [h, Bool.and_comm]; rfl
theorem allM_filter {x x' : RT} {hd : Int} {p : Int × Int → Bool} (h1 : x'.1.1 = x.1.1) (h2 : x'.1.2.1 = x.1.2.1) (h : ∀ t, isM x' hd t = (isM x hd t && p t)) : allM x' hd = (allM x hd).filter p := by
  unfold allM preM
  rw [List.filter_append, List.filter_flatMap, h1, h2]
  have e : (fun a => lineM x' hd a (2 ^ x.1.2.1.toNat)) = fun a => (lineM x hd a (2 ^ x.1.2.1.toNat)).filter p := funext fun a => lineM_filter h _ _
  rw [e, lineM_filter h]
def extH (x : HT) (m : W3) : HT := (x.1, x.2.1, x.2.2 ++ [m])
def lessH (x : HT) (l : Int) : HT := ((x.1.1, x.1.2.1, l), x.2.1, x.2.2)
theorem allH_ext (x : HT) (m : W3) : allH (extH x m) = (allH x).filter fun t => rightM t m := by
  refine allM_filter rfl rfl fun t => ?_
  unfold isM
  show (_ && _ && (x.2.2 ++ [m]).all (rightM t)) = _
  rw [List.all_append, List.all_cons, List.all_nil, Bool.and_true, Bool.and_assoc, Bool.and_assoc, Bool.and_assoc]
  rfl
theorem allH_less (x : HT) (l : Int) (hl : l ≤ x.1.2.2) : allH (lessH x l) = (allH x).filter fun t => decide (popM t.2 ≤ l) := by
  refine allM_filter rfl rfl fun t => ?_
  unfold isM
  show (decide (popM t.2 ≤ l) && _ && _) = (decide (popM t.2 ≤ x.1.2.2) && _ && _ && decide (popM t.2 ≤ l))
  by_cases h : popM t.2 ≤ l
  · have : popM t.2 ≤ x.1.2.2 := by omega
    simp only [h, this, decide_true, Bool.true_and, Bool.and_true]; rfl
  · simp [h]
/-- What is told of fewer truths. -/
theorem count_some {x : HT} (h : hearM x = true) : countM x = (((allH x).length : Int), 0) := by simp [countM, h]
theorem liars_some {x : HT} (h : hearM x = true) : liarsM x = if ((allH x).length : Int) > 0 then (spanM (allH x), 0) else ((0, 0), 10) := by simp [liarsM, h]
theorem rule_some {x : HT} {w : W3} (h : hearM x = true) : ruleM x w = if wordM x.1.1 x.1.2.1 w then (if ((allH x).length : Int) > 0 then (verdictM (allH x) w, 0) else (0, 10)) else (0, 2) := by
  unfold ruleM openErrM
  cases wordM x.1.1 x.1.2.1 w <;> simp [h]
theorem span_sub {A B : List (Int × Int)} (h : ∀ t ∈ B, t ∈ A) (hB : 0 < B.length) : (spanM A).1 ≤ (spanM B).1 ∧ (spanM B).2 ≤ (spanM A).2 := by
  have hA : 0 < A.length := by
    have := h _ (getD_mem (0, 0) hB)
    exact List.length_pos_of_mem this
  obtain ⟨h1, _, _⟩ := span_is hA
  obtain ⟨_, ⟨t, ht, e1⟩, ⟨u, hu, e2⟩⟩ := span_is hB
  exact ⟨by rw [e1]; exact (h1 t (h t ht)).1, by rw [e2]; exact (h1 u (h u hu)).2⟩
theorem verdict_cases (A : List (Int × Int)) (w : W3) (hA : 0 < A.length) : (verdictM A w = 2 ↔ ∀ t ∈ A, rightM t w = true) ∧ (verdictM A w = 0 ↔ ∀ t ∈ A, rightM t w = false) ∧ (verdictM A w = 0 ∨ verdictM A w = 1 ∨ verdictM A w = 2) := by
  have h0 := getD_mem (0, 0) hA
  have hw : wrongsM A w = false ↔ ∀ t ∈ A, rightM t w = true := by unfold wrongsM; rw [List.any_eq_false]; simp
  have hr : rightsM A w = false ↔ ∀ t ∈ A, rightM t w = false := by unfold rightsM; rw [List.any_eq_false]; simp
  have hne : ¬ (wrongsM A w = false ∧ rightsM A w = false) := fun ⟨a, b⟩ => by
    have := hw.1 a _ h0
    rw [hr.1 b _ h0] at this; cases this
  rw [← hw, ← hr]
  unfold verdictM
  cases h1 : wrongsM A w <;> cases h2 : rightsM A w <;> simp_all
theorem verdict_sub {A B : List (Int × Int)} (h : ∀ t ∈ B, t ∈ A) (hB : 0 < B.length) (w : W3) (ho : verdictM A w ≠ 1) : verdictM A w = verdictM B w := by
  have hA : 0 < A.length := by
    have := h _ (getD_mem (0, 0) hB)
    exact List.length_pos_of_mem this
  obtain ⟨a1, a2, a3⟩ := verdict_cases A w hA
  obtain ⟨b1, b2, _⟩ := verdict_cases B w hB
  rcases a3 with a3 | a3 | a3
  · rw [a3]; exact (b2.2 fun t ht => a2.1 a3 t (h t ht)).symm
  · exact absurd a3 ho
  · rw [a3]; exact (b1.2 fun t ht => a1.1 a3 t (h t ht)).symm
/-- All that is asked of a hearing with fewer truths. -/
theorem more_of {x q : HT} {p : Int × Int → Bool} (hx : hearM x = true) (hq : hearM q = true) (h1 : q.1.1 = x.1.1) (h2 : q.1.2.1 = x.1.2.1) (hf : allH q = (allH x).filter p) (w : W3) :
    (countM x).2 = 0 ∧ (countM q).2 = 0 ∧ ¬ (countM q).1 > (countM x).1 ∧ (decide ((countM q).1 > 0) = ((liarsM q).2 == 0)) ∧
    ((countM q).1 ≠ 0 → (ruleM q w).2 = (ruleM x w).2 ∧ ((ruleM x w).2 = 0 → (ruleM x w).1 ≠ 1 → (ruleM x w).1 = (ruleM q w).1) ∧ (liarsM x).2 = 0 ∧ ¬ (liarsM q).1.1 < (liarsM x).1.1 ∧ ¬ (liarsM q).1.2 > (liarsM x).1.2) := by
  rw [count_some hx, count_some hq, liars_some hx, liars_some hq, rule_some hx, rule_some hq, hf, h1, h2]
  have hsub : ∀ t ∈ (allH x).filter p, t ∈ allH x := fun t ht => (List.mem_filter.1 ht).1
  have hle := List.length_filter_le p (allH x)
  generalize hB : (allH x).filter p = B at *
  generalize allH x = A at *
  refine ⟨rfl, rfl, by show ¬ ((B.length : Int) > (A.length : Int)); omega, ?_, fun hne => ?_⟩
  · show decide ((B.length : Int) > 0) = _
    by_cases h : (B.length : Int) > 0
    · rw [if_pos h, decide_eq_true h]; rfl
    · rw [if_neg h, decide_eq_false h]; rfl
  · have hne' : (B.length : Int) ≠ 0 := hne
    have hBp : 0 < B.length := by omega
    have hB' : (B.length : Int) > 0 := by omega
    have hA' : (A.length : Int) > 0 := by omega
    have hs := span_sub hsub hBp
    simp only [hB', hA', if_true]
    refine ⟨by split <;> rfl, fun h3 h4 => ?_, trivial, by omega, by omega⟩
    split at h3
    · rename_i hw
      simp only [hw, if_true] at h4 ⊢
      exact verdict_sub hsub hBp w h4
    · cases h3
theorem more_cases {x q : HT} {p : Int × Int → Bool} (hx : hearM x = true) (hq : hearM q = true) (h1 : q.1.1 = x.1.1) (h2 : q.1.2.1 = x.1.2.1) (hf : allH q = (allH x).filter p) (w : W3) :
    (countM x).2 = 0 ∧ (countM q).2 = 0 ∧ (countM q).1 ≤ (countM x).1 ∧ (((countM q).1 = 0 ∧ (liarsM q).2 = 10) ∨
      (0 < (countM q).1 ∧ (liarsM q).2 = 0 ∧ (ruleM q w).2 = (ruleM x w).2 ∧ ((ruleM x w).2 = 0 → (ruleM x w).1 ≠ 1 → (ruleM x w).1 = (ruleM q w).1) ∧ (liarsM x).2 = 0 ∧ (liarsM x).1.1 ≤ (liarsM q).1.1 ∧ (liarsM q).1.2 ≤ (liarsM x).1.2)) := by
  obtain ⟨a1, a2, a3, a4, a5⟩ := more_of hx hq h1 h2 hf w
  refine ⟨a1, a2, by omega, ?_⟩
  have hc : (countM q).1 = ((allH q).length : Int) := by rw [count_some hq]
  by_cases h0 : (countM q).1 = 0
  · left
    refine ⟨h0, ?_⟩
    rw [liars_some hq, if_neg (by omega)]
  · right
    obtain ⟨b1, b2, b3, b4, b5⟩ := a5 h0
    refine ⟨by omega, ?_, b1, b2, b3, by omega, by omega⟩
    rw [liars_some hq, if_pos (by omega)]
theorem suff_of {G : Prop} (R : Prop) (h : R → G) (hR : R) : G := h hR
theorem hear_less {x : HT} (h : hearM x = true) {l : Int} (h0 : 0 ≤ l) (h1 : l ≤ x.1.2.1) : hearM (lessH x l) = true := by
  unfold hearM at h ⊢
  simp only [Bool.and_eq_true, inM, decide_eq_true_eq] at h ⊢
  exact ⟨⟨⟨⟨h.1.1.1.1, h0, h1⟩, h.1.1.2⟩, h.1.2⟩, h.2⟩
/-- With nobody who lied each claim is right in each truth. -/
theorem none_lied {x : HT} (hx : hearM x = true) (hl : x.1.2.2 = 0) {t : Int × Int} (ht : t ∈ allH x) {c : Cl} (hc : c ∈ x.2.1) : claimRM t c = true := by
  have hk := hear_ok hx
  obtain ⟨a, b, ha, hb, hi, rfl⟩ := mem_allM_iff.1 ht
  have hw6 : 0 ≤ x.1.2.1 ∧ x.1.2.1 ≤ 6 := hk.w
  have hpop := isM_li hi
  have hpop' : popM (b : Int) ≤ 0 := by have : (rtM x).1.2.2 = 0 := hl; rw [this] at hpop; exact hpop
  obtain ⟨_, hcw, _⟩ := hk.claims c hc
  obtain ⟨k, hk2⟩ := Int.eq_ofNat_of_zero_le hcw.1
  have hk6 : k < 6 := by omega
  have hb64 : b < 64 := Nat.lt_of_lt_of_le hb (pow_le hk.w)
  have hb0 : hasM (b : Int) (k : Int) = false := by
    have : ∀ (b : Fin 64) (k : Fin 6), popM ((b.val : Nat) : Int) ≤ 0 → hasM ((b.val : Nat) : Int) ((k.val : Nat) : Int) = false := by decide +kernel
    exact this ⟨b, hb64⟩ ⟨k, hk6⟩ hpop'
  unfold isM at hi
  simp only [Bool.and_eq_true] at hi
  have hsay := (List.all_eq_true.1 hi.1.2) k (List.mem_range.2 (by show k < x.1.2.1.toNat; omega))
  rw [sayM_told hk6] at hsay
  have hev : hasM (everyH x) (k : Int) = true := by
    have : ∀ (n : Fin 7) (k : Fin 6), k.val < n.val → hasM (everyM n.val) ((k.val : Nat) : Int) = true := by decide +kernel
    exact this ⟨x.1.2.1.toNat, by omega⟩ ⟨k, hk6⟩ (by show k < x.1.2.1.toNat; omega)
  have hb0' : hasM (tM a b).2 (k : Int) = false := hb0
  rw [hev, hb0'] at hsay
  have htold : toldM x.2.1 (tM a b) (k : Int) = true := by
    cases h : toldM x.2.1 (tM a b) (k : Int) with
    | true => rfl
    | false => rw [h] at hsay; cases hsay
  have := List.all_eq_true.1 htold c hc
  have e : (c.1 == (k : Int)) = true := by rw [hk2]; simp
  rw [e] at this
  simpa using this
/-- With nobody who lied: what is told of a claim's words. -/
theorem none_told {x : HT} (hx : hearM x = true) (hl : x.1.2.2 = 0) (hn : (countM x).1 ≠ 0) {c : Cl} (hc : c ∈ x.2.1) :
    (ruleM x c.2.2.1).2 = 0 ∧ (c.2.1 = 0 → (ruleM x c.2.2.1).1 = 2) ∧ (c.2.1 ≠ 0 → (ruleM x c.2.2.2).2 = 0) ∧
    (c.2.1 = 1 → ¬ ((ruleM x c.2.2.1).1 = 0 ∧ (ruleM x c.2.2.2).1 = 0)) ∧ (c.2.1 = 2 → ¬ ((ruleM x c.2.2.1).1 = 2 ∧ (ruleM x c.2.2.2).1 = 0)) := by
  have hk := hear_ok hx
  obtain ⟨hkind, _, hA, hB⟩ := hk.claims c hc
  rw [count_some hx] at hn
  have hn' : ((allH x).length : Int) ≠ 0 := hn
  have hpos : 0 < (allH x).length := by omega
  have hpos' : ((allH x).length : Int) > 0 := by omega
  have h0 := getD_mem (0, 0) hpos
  have hall : ∀ t ∈ allH x, claimRM t c = true := fun t ht => none_lied hx hl ht hc
  have rA : ruleM x c.2.2.1 = (verdictM (allH x) c.2.2.1, 0) := by rw [rule_some hx, hA, if_pos rfl, if_pos hpos']
  have rB : c.2.1 ≠ 0 → ruleM x c.2.2.2 = (verdictM (allH x) c.2.2.2, 0) := fun h => by rw [rule_some hx, hB h, if_pos rfl, if_pos hpos']
  have vA := verdict_cases (allH x) c.2.2.1 hpos
  have vB := verdict_cases (allH x) c.2.2.2 hpos
  have hc0 := hall _ h0
  refine ⟨by rw [rA], fun h => ?_, fun h => by rw [rB h], fun h => ?_, fun h => ?_⟩
  · rw [rA]
    refine vA.1.2 fun t ht => ?_
    have := hall t ht
    simpa [claimRM, claimM, ciM, h] using this
  · rw [rA, rB (by omega)]
    rintro ⟨e1, e2⟩
    have g1 := vA.2.1.1 e1 _ h0
    have g2 := vB.2.1.1 e2 _ h0
    have : claimRM ((allH x).getD 0 (0, 0)) c = (rightM ((allH x).getD 0 (0, 0)) c.2.2.1 || rightM ((allH x).getD 0 (0, 0)) c.2.2.2) := by
      simp only [claimRM, claimM, ciM, h, decide_true, if_true]
    rw [this, g1, g2] at hc0; cases hc0
  · rw [rA, rB (by omega)]
    rintro ⟨e1, e2⟩
    have g1 := vA.1.1 e1 _ h0
    have g2 := vB.2.1.1 e2 _ h0
    have : claimRM ((allH x).getD 0 (0, 0)) c = (!rightM ((allH x).getD 0 (0, 0)) c.2.2.1 || rightM ((allH x).getD 0 (0, 0)) c.2.2.2) := by
      simp only [claimRM, claimM, ciM, h]; rfl
    rw [this, g1, g2] at hc0; cases hc0
end AE.Pr

namespace AE.Pr
open Go AE Go.Proofs

def Tmore : Tab UU := [(12, heavyS.con), (13, aliveS.con), (14, countS.con), (20, ruleS.con), (22, liarsS.con), (39, isHearingS.con)]
theorem Tmore_ok : Tmore.Sound Try.prog := .cons heavy_sound (.cons alive_sound (.cons count_sound (.cons rule_sound (.cons liars_sound (.cons hearR_sound .nil)))))
def hrBox (x : HT) (b : Bool) (i n : Nat) : AB UU := .one (.cells [.i x.1.1, .i x.1.2.1, .i x.1.2.2, .sl 0 0 0 x.2.1.length, vSd (b, i, n)] 25)
def lessQ (x : HT) : HT := lessH x (max 0 (W (x.1.2.2 - 1)))
def moreL2 (x : HT) : LSpec UU where
  T := { i : Nat // i ≤ x.2.1.length }
  fr := fun i => [(8, .ptr 6 0 0 0), (170, .sl 0 0 0 x.2.1.length), (171, .i x.2.1.length), (172, .i i.1)]
  H := fun _ => hH x ++ [.none, .none, .none, .none, hrBox (lessH x 0) false 1 x.2.2.length]
  mu := fun i => x.2.1.length - i.1
def moreLs (x : HT) (k : Nat) : Option (LRule UU) :=
  match k with
  | 10 => some (.unroll 3)
  | 27 => some (.inv (moreL2 x))
  | _ => none
def lawMS : FSpec UU where
  X := HT × W3 × W3
  pick := fun args H => match args with
    | [a, b, c] => match avH H a, avW b, avW c with
      | some a, some b, some c => some (a, b, c)
      | _, _, _ => none
    | _ => none
  args := fun x => [vH x.1, vW x.2.1, vW x.2.2]
  H := fun x => hH x.1
  R := fun _ => .val ⟨.b true, [], [], []⟩
  pre := fun x => bigH x.1
set_option maxHeartbeats 0 in
set_option maxRecDepth 100000 in
theorem lawM_ok : ∀ x, lawMS.pre x → FunOk Try.prog 10 (lawMS.args x) (lawMS.H x) (lawMS.R x) := by
  rintro ⟨⟨⟨f, w, li⟩, cs, ks⟩, ⟨p, n, q⟩, ⟨p', n', q'⟩⟩ hl
  refine fun_of (T := Tmore) (L := moreLs ((f, w, li), cs, ks)) (hs := fun _ => []) hmix Tmore_ok Try.func10 (by kernel_rfl) (by kernel_rfl) ?_
  refine Eq.mp (α :=
      let Z0 := nat_lit 10 = nat_lit 10; let Z1 := Value.bool p'; let Z2 := Value.bool q'; let Z3 := (nat_lit 0, nat_lit 0); let Z4 := List.length cs; let Z5 := Value.bool true; let Z6 := List.length ks; let Z7 := (w, li); let Z8 := Value.bool false; let Z9 := (n, q); let Z10 := (n', q'); let Z11 := nat_lit 1 < nat_lit 2; let Z12 := nat_lit 2 < nat_lit 2; let Z13 := Value.int IntKind.i64 li; let Z14 := Value.int IntKind.i64 w; let Z15 := Value.int IntKind.i64 f; let Z16 := Value.int IntKind.i64 n'; let Z17 := (↑(nat_lit 2) : Int); let Z18 := nat_lit 0 = nat_lit 0 ∧ nat_lit 0 = nat_lit 0; let Z19 := AV.v Z14; let Z20 := AV.v (Value.int IntKind.i64 n); let Z21 : List ((Int × Int × Int) × Sd × Sd) := []; let Z22 : List (Bool × Int × Bool) := []; let Z23 := AV.v Z15; let Z24 := (1 : Int); let Z25 := AV.v Z13; let Z26 := (0 : Int); let Z27 := (2 : Int); let Z28 := (6 : Int); let Z29 := (0 : Nat); let Z30 := AV.sl (nat_lit 1) (nat_lit 0) (nat_lit 0) Z6; let Z31 := AV.sl (nat_lit 0) (nat_lit 0) (nat_lit 0) Z4; let Z32 := (1 : Nat); let Z33 : Option (List AV) := some []; let Z34 := Z12 ∧ False; let Z35 := (10 : Nat); let Z36 : List (Bool × Int × Bool) := List.drop (nat_lit 0) ks; let Z37 := ks = ks; let Z38 := List.length cs; let Z39 := cs = cs; let Z40 := (cs, ks); let Z41 := (nat_lit 0, Z4); let Z42 := Z2 = Z2; let Z43 := (nat_lit 1, Z6); let Z44 := Z1 = Z1; let Z45 := Z4 < nat_lit 1000; let Z46 := Z6 < nat_lit 1000; let Z47 := nat_lit 0 = nat_lit 0 ∧ Z18; let Z48 := Z37 ∧ True; let Z49 : List AV := [AV.v (Value.bool q)]; let Z50 := (↑Z4 : Int); let Z51 := Z42 ∧ True; let Z52 := Z6 = Z6; let Z53 := (w, Z26); let Z54 := Z4 = Z4; let Z55 := (f, Z7); let Z56 := Z5 = Z5; let Z57 := Value.int IntKind.i64 Z28; let Z58 := Z5 = Z8; let Z59 := Value.int IntKind.i64 Z26; let Z60 := (p, Z9); let Z61 := (Z35, nat_lit 0); let Z62 := (p', Z10); let Z63 := (false, Z3); let Z64 := (Z26, false); let Z65 := Z13 = Z13; let Z66 := Z14 = Z14; let Z67 := Z16 = Z16; let Z68 := Z15 = Z15; let Z69 : List AV := [Z30]; let Z70 := Z56 ∧ True; let Z71 := Z58 ∧ True; let Z72 := nat_lit 0 = nat_lit 0 ∧ Z52; let Z73 := nat_lit 0 = nat_lit 0 ∧ Z54; let Z74 : List (Bool × Int × Bool) := List.drop Z29 ks; let Z75 := Value.int IntKind.i64 Z50; let Z76 := (false, Z43); let Z77 := (false, Z41); let Z78 := (Z26, Z26); let Z79 := (f, Z53); let Z80 := li - Z24; let Z81 := Z26 < Z17; let Z82 := nat_lit 0 = nat_lit 0 ∧ Z72; let Z83 := nat_lit 0 = nat_lit 0 ∧ Z73; let Z84 : List (Bool × Int × Bool) := List.take Z6 Z36; let Z85 := (true, Z61); let Z86 := Z39 ∧ Z48; let Z87 : List AV := Z20 :: Z49; let Z88 := Z82 ∧ True; let Z89 := Z45 ∧ Z46; let Z90 := (false, Z64); let Z91 := True ∧ Z86; let Z92 := IntKind.wrap IntKind.i64 Z80; let Z93 : List AV := Z31 :: Z69; let Z94 := Z26 + Z24; let Z95 := Z67 ∧ Z51; let Z96 := Z59 = Z59; let Z97 := Z57 = Z57; let Z98 : List (Bool × Int × Bool) := Z60 :: Z22; let Z99 : List (Bool × Int × Bool) := List.take Z6 Z74; let Z100 : List AV := AV.v (Value.bool p) :: Z87; let Z101 := IntKind.wrap IntKind.i64 Z94; let Z102 := (Z63, Z63); let Z103 := (Z26, Z78); let Z104 : Option (List AV) := some Z100; let Z105 := Z75 = Z75; let Z106 : List (Bool × Int × Bool) := List.drop (nat_lit 0) Z98; let Z107 := (Z55, Z40); let Z108 := Z44 ∧ Z95; let Z109 := max Z26 Z92; let Z110 := hearM Z107; let Z111 := countM Z107; let Z112 := liarsM Z107; let Z113 := Z70 ∧ Z91; let Z114 := Z108 ∧ True; let Z115 := Z71 ∧ Z91; let Z116 := !Z110; let Z117 := (Z77, Z76); let Z118 := (w, Z109); let Z119 := True ∧ Z113; let Z120 := True ∧ Z115; let Z121 := Prod.snd Z111; let Z122 := (Z79, Z40); let Z123 := Prod.fst Z111; let Z124 := Value.int IntKind.i64 Z109; let Z125 : List (Bool × Int × Bool) := List.drop Z29 Z98; let Z126 : List (Bool × Int × Bool) := List.take (nat_lit 1) Z106; let Z127 := Z83 ∧ Z88; let Z128 := Z101 < Z17; let Z129 := (Z77, Z85); let Z130 := AV.v Z124; let Z131 := Z26 ≤ Z101; let Z132 := True ∧ Z119; let Z133 := Prod.fst Z112; let Z134 := Prod.snd Z112; let Z135 := countM Z122; let Z136 := True ∧ Z132; let Z137 := Prod.fst Z133; let Z138 := (f, Z118); let Z139 := Prod.snd Z133; let Z140 := Prod.snd Z135; let Z141 := True ∧ Z136; let Z142 := Prod.fst Z135; let Z143 := Z101 + Z24; let Z144 := (Z90, Z90); let Z145 := Prod.snd Z107; let Z146 := ruleM Z107 Z62; let Z147 := heavyM Z107 Z28 Z28; let Z148 := Prod.snd Z146; let Z149 := Prod.fst Z146; let Z150 := IntKind.wrap IntKind.i64 Z143; let Z151 : List (Bool × Int × Bool) := List.take Z32 Z125; let Z152 : List Cl := Prod.fst Z145; let Z153 := Z65 ∧ Z127; let Z154 := Z121 != Z26; let Z155 := List.length Z152; let Z156 := Z134 != Z26; let Z157 := (Z26, Z144); let Z158 := Z154 = true; let Z159 := Z154 = false; let Z160 := Z150 < Z17; let Z161 := (Z55, Z129); let Z162 := Z26 ≤ Z150; let Z163 := fun (i : Nat) => i ≤ Z155; let Z164 := Z156 = true; let Z165 := Z140 != Z26; let Z166 := Z156 = false; let Z167 := Z142 == Z26; let Z168 := Z140 == Z26; let Z169 : List (Bool × Int × Bool) := Z22 ++ Z84; let Z170 := Z96 ∧ Z127; let Z171 : List AV := Z130 :: Z93; let Z172 := Z165 = true; let Z173 := Z165 = false; let Z174 := Z168 = true; let Z175 : Type := { i : Nat // Z163 i }; let Z176 := Z167 = true; let Z177 := Z167 = false; let Z178 := Z66 ∧ Z153; let Z179 := Z168 = false; let Z180 := Z149 != Z24; let Z181 := fun (x : Z175) => Subtype.val x; let Z182 := Z148 == Z26; let Z183 := (Z103, Z102); let Z184 := Z180 = true; let Z185 : List (Bool × Int × Bool) := Z22 ++ Z99; let Z186 := Z180 = false; let Z187 := Z182 = true; let Z188 := Z182 = false; let Z189 := (Z26, Z157); let Z190 := fun (x : Z175) => (↑(Z181 x) : Int); let Z191 : List AV := Z19 :: Z171; let Z192 := fun (t : Z175) => Int.toNat (Z190 t); let Z193 := fun (x : Z175) => Value.int IntKind.i64 (Z190 x); let Z194 := Z66 ∧ Z170; let Z195 := Z131 ∧ Z128; let Z196 := Z68 ∧ Z178; let Z197 := fun (x : Z175) => Z4 - Z181 x; let Z198 := Z196 ∧ True; let Z199 : List AV := Z23 :: Z191; let Z200 := fun (t : Z175) => Z26 ≤ Z190 t; let Z201 := fun (t : Z175) => nat_lit 0 + Z192 t; let Z202 := fun (t : Z175) => Z190 t < Z50; let Z203 := fun (t : Z175) => Z190 t + Z24; let Z204 := (Z138, Z117); let Z205 := fun (x : Z175) => Z59 = Z193 x; let Z206 := Z68 ∧ Z194; let Z207 := fun (x : Z175) => Z205 x ∧ True; let Z208 := Z206 ∧ True; let Z209 := fun (t : Z175) => IntKind.wrap IntKind.i64 (Z203 t); let Z210 := True ∧ Z208; let Z211 := fun (t : Z175) => Z201 t < Z38; let Z212 := Z158 → Z120; let Z213 := True ∧ Z210; let Z214 := fun (t : Z175) => Value.int IntKind.i64 (Z209 t); let Z215 := Z164 → Z120; let Z216 := True ∧ Z213; let Z217 := True ∧ Z216; let Z218 : List ((Int × Int × Int) × Sd × Sd) := Z204 :: Z21; let Z219 := Z179 → Z120; let Z220 := Z174 → Z141; let Z221 := Z37 ∧ Z217; let Z222 := Z39 ∧ Z221; let Z223 := True ∧ Z222; let Z224 := Z162 ∧ Z160; let Z225 := fun (x : Z175) => Z105 ∧ Z207 x; let Z226 := Z224 ∧ Z34; let Z227 : List (Bool × Int × Bool) := Z169 ++ Z126; let Z228 := fun (x : Z175) => Z83 ∧ Z225 x; let Z229 := List.length Z227; let Z230 := fun (x : Z175) => Z47 ∧ Z228 x; let Z231 : List (Bool × Int × Bool) := Z185 ++ Z151; let Z232 := List.length Z231; let Z233 := fun (t : Z175) => List.getD cs (Z201 t) Z189; let Z234 := fun (x t : Z175) => Z197 x < Z197 t; let Z235 := (cs, Z231); let Z236 := Z232 < nat_lit 1000; let Z237 : List ((Int × Int × Int) × Sd × Sd) := Z161 :: Z218; let Z238 := fun (t : Z175) => Z200 t ∧ Z202 t; let Z239 := fun (t : Z175) => Prod.snd (Z233 t); let Z240 := fun (t x : Z175) => Z214 t = Z193 x; let Z241 := fun (t : Z175) => Prod.fst (Z239 t); let Z242 := fun (t : Z175) => Prod.snd (Z239 t); let Z243 := Z45 ∧ Z236; let Z244 := fun (t x : Z175) => Z240 t x ∧ True; let Z245 := fun (t : Z175) => Prod.fst (Z242 t); let Z246 := fun (t : Z175) => Prod.snd (Z242 t); let Z247 := fun (t : Z175) => Prod.fst (Z245 t); let Z248 := fun (t : Z175) => Prod.snd (Z245 t); let Z249 := fun (t : Z175) => Prod.fst (Z246 t); let Z250 := fun (t : Z175) => Prod.snd (Z246 t); let Z251 := fun (t : Z175) => Value.bool (Z247 t); let Z252 := fun (t : Z175) => Value.bool (Z249 t); let Z253 := fun (t : Z175) => Prod.snd (Z248 t); let Z254 := fun (t : Z175) => Prod.fst (Z250 t); let Z255 := fun (t : Z175) => Prod.fst (Z248 t); let Z256 := fun (t : Z175) => Prod.snd (Z250 t); let Z257 := fun (t : Z175) => Value.bool (Z256 t); let Z258 := fun (t : Z175) => Value.bool (Z253 t); let Z259 := fun (t : Z175) => Z241 t == Z27; let Z260 := fun (t : Z175) => Z241 t == Z26; let Z261 := fun (t : Z175) => Z241 t == Z24; let Z262 := fun (t : Z175) => Value.int IntKind.i64 (Z254 t); let Z263 := fun (t : Z175) => Value.int IntKind.i64 (Z255 t); let Z264 := fun (t : Z175) => Z260 t = true; let Z265 := fun (t : Z175) => Z261 t = true; let Z266 := fun (t : Z175) => Z259 t = true; let Z267 := fun (t : Z175) => Z259 t = false; let Z268 := fun (t : Z175) => Z260 t = false; let Z269 := fun (t : Z175) => Z261 t = false; let Z270 := fun (t x : Z175) => Z105 ∧ Z244 t x; let Z271 := Z220 ∧ Z219; let Z272 := fun (t : Z175) => ruleM Z122 (Z245 t); let Z273 := fun (t : Z175) => ruleM Z122 (Z246 t); let Z274 := fun (t : Z175) => Prod.snd (Z273 t); let Z275 := fun (t : Z175) => Prod.fst (Z272 t); let Z276 := fun (t : Z175) => Prod.snd (Z272 t); let Z277 := fun (t : Z175) => Prod.fst (Z273 t); let Z278 := fun (t : Z175) => decide (Z202 t); let Z279 := fun (t x : Z175) => Z83 ∧ Z270 t x; let Z280 := fun (t : Z175) => Z278 t = true; let Z281 := fun (t : Z175) => Z278 t = false; let Z282 := fun (t x : Z175) => Z47 ∧ Z279 t x; let Z283 := List.getD Z237 (nat_lit 0) Z183; let Z284 := List.getD Z237 (nat_lit 1) Z183; let Z285 := fun (t : Z175) => Z275 t != Z27; let Z286 := fun (t : Z175) => Z274 t != Z26; let Z287 := fun (t : Z175) => Z276 t != Z26; let Z288 := fun (t : Z175) => Z277 t == Z26; let Z289 := fun (t : Z175) => Z275 t == Z27; let Z290 := fun (t : Z175) => Z275 t == Z26; let Z291 := fun (t : Z175) => Z287 t = true; let Z292 := fun (t : Z175) => Z286 t = true; let Z293 := fun (t : Z175) => Z285 t = true; let Z294 := fun (t : Z175) => Z286 t = false; let Z295 := fun (t : Z175) => Z285 t = false; let Z296 := fun (t : Z175) => Z287 t = false; let Z297 := fun (t : Z175) => Z290 t = true; let Z298 := fun (t : Z175) => Z289 t = true; let Z299 := fun (t : Z175) => Z288 t = true; let Z300 := fun (t : Z175) => Z288 t = false; let Z301 := fun (t : Z175) => Z290 t = false; let Z302 := fun (t : Z175) => Z289 t = false; let Z303 := Prod.fst Z283; let Z304 := Prod.snd Z284; let Z305 := Prod.snd Z283; let Z306 := Prod.fst Z284; let Z307 := Prod.fst Z305; let Z308 := Prod.snd Z304; let Z309 := Prod.fst Z304; let Z310 := Prod.fst Z306; let Z311 := Prod.fst Z303; let Z312 := Prod.snd Z303; let Z313 := Prod.snd Z306; let Z314 := Prod.snd Z312; let Z315 := Prod.fst Z312; let Z316 := Prod.snd Z313; let Z317 := Prod.fst Z313; let Z318 := Prod.snd Z308; let Z319 := Prod.snd Z307; let Z320 := Value.int IntKind.i64 Z311; let Z321 := Prod.snd Z309; let Z322 := Value.int IntKind.i64 Z310; let Z323 := Prod.snd Z319; let Z324 := Value.int IntKind.i64 Z314; let Z325 := Value.int IntKind.i64 Z315; let Z326 := Value.int IntKind.i64 Z316; let Z327 := Prod.snd Z321; let Z328 := Prod.snd Z318; let Z329 := Value.int IntKind.i64 Z317; let Z330 := Z323 = Z4; let Z331 := Z328 = Z6; let Z332 := Z327 = Z4; let Z333 := (Z306, Z40); let Z334 := fun (t : Z175) => Z281 t → Z141; let Z335 := fun (x : Z175) => Z230 x ∧ Z223; let Z336 := hearM Z333; let Z337 := liarsM Z333; let Z338 := countM Z333; let Z339 := nat_lit 0 = nat_lit 0 ∧ Z330; let Z340 := nat_lit 0 = nat_lit 0 ∧ Z331; let Z341 := nat_lit 0 = nat_lit 0 ∧ Z332; let Z342 := Z172 → Z271; let Z343 := Z176 → Z271; let Z344 := !Z336; let Z345 := Prod.fst Z338; let Z346 := Prod.snd Z338; let Z347 := nat_lit 0 = nat_lit 0 ∧ Z341; let Z348 := nat_lit 0 = nat_lit 0 ∧ Z340; let Z349 := nat_lit 0 = nat_lit 0 ∧ Z339; let Z350 := Prod.snd Z337; let Z351 := Z344 = true; let Z352 := Prod.fst Z337; let Z353 := Z344 = false; let Z354 := Z348 ∧ True; let Z355 := fun (t : Z175) => Z291 t → Z120; let Z356 := fun (t : Z175) => Z293 t → Z120; let Z357 := fun (t : Z175) => Z292 t → Z120; let Z358 := fun (t : Z175) => Z299 t → Z120; let Z359 := Prod.snd Z352; let Z360 := Prod.fst Z352; let Z361 := ruleM Z333 Z62; let Z362 := Prod.fst Z361; let Z363 := Prod.snd Z361; let Z364 := Z345 > Z26; let Z365 := Z346 != Z26; let Z366 := Z345 == Z26; let Z367 := Z350 == Z26; let Z368 := Z365 = true; let Z369 := Z365 = false; let Z370 := Z366 = true; let Z371 := Z366 = false; let Z372 := Z229 = Z232; let Z373 := nat_lit 0 = nat_lit 0 ∧ Z372; let Z374 := nat_lit 0 = nat_lit 0 ∧ Z373; let Z375 := Z0 ∧ Z374; let Z376 := Z345 > Z123; let Z377 := Z375 ∧ True; let Z378 := Z231 = Z231; let Z379 := Z378 ∧ True; let Z380 := Z360 < Z137; let Z381 := Z359 > Z139; let Z382 := Z39 ∧ Z379; let Z383 := Z368 → Z120; let Z384 := Z363 != Z148; let Z385 := Z149 != Z362; let Z386 := Z384 = true; let Z387 := Z385 = true; let Z388 := Z384 = false; let Z389 := Z385 = false; let Z390 := fun (t x : Z175) => Z282 t x ∧ Z223; let Z391 := fun (t : Z175) => Z251 t = Z251 t; let Z392 := fun (t : Z175) => Z252 t = Z252 t; let Z393 := fun (t : Z175) => Z257 t = Z257 t; let Z394 := Z386 → Z120; let Z395 := fun (t : Z175) => Z258 t = Z258 t; let Z396 := Z387 → Z120; let Z397 := fun (t : Z175) => Z393 t ∧ True; let Z398 := fun (t : Z175) => Z395 t ∧ True; let Z399 := fun (t : Z175) => Z263 t = Z263 t; let Z400 := fun (t : Z175) => Z262 t = Z262 t; let Z401 := ∃ (x : Z175), Z335 x; let Z402 := (Z303, Z235); let Z403 := hearM Z402; let Z404 := countM Z402; let Z405 := liarsM Z402; let Z406 := !Z403; let Z407 := Prod.snd Z404; let Z408 := Prod.fst Z404; let Z409 := Prod.snd Z405; let Z410 := Prod.fst Z405; let Z411 := Prod.fst Z410; let Z412 := Prod.snd Z410; let Z413 := ruleM Z402 Z62; let Z414 := Prod.snd Z413; let Z415 := Prod.fst Z413; let Z416 := Z408 > Z26; let Z417 := Z407 != Z26; let Z418 := Z408 == Z26; let Z419 := Z409 == Z26; let Z420 := Z408 > Z123; let Z421 := Z412 > Z139; let Z422 := Z411 < Z137; let Z423 := Z149 != Z415; let Z424 := Z414 != Z148; let Z425 := fun (t x : Z175) => Z390 t x ∧ Z234 x t; let Z426 := Z322 = Z322; let Z427 := Z320 = Z320; let Z428 := Z326 = Z326; let Z429 := Z329 = Z329; let Z430 := Z325 = Z325; let Z431 := Z324 = Z324; let Z432 := Z347 ∧ Z354; let Z433 := Z349 ∧ Z377; let Z434 := fun (t : Z175) => ∃ (x : Z175), Z425 t x; let Z435 := fun (t : Z175) => True ∧ Z434 t; let Z436 := fun (t : Z175) => Z399 t ∧ Z398 t; let Z437 := fun (t : Z175) => Z400 t ∧ Z397 t; let Z438 := fun (t : Z175) => Z267 t → Z435 t; let Z439 := fun (t : Z175) => Z300 t → Z435 t; let Z440 := fun (t : Z175) => Z302 t → Z435 t; let Z441 := Z428 ∧ Z432; let Z442 := Z431 ∧ Z433; let Z443 := fun (t : Z175) => Z391 t ∧ Z436 t; let Z444 := fun (t : Z175) => Z392 t ∧ Z437 t; let Z445 := fun (t : Z175) => Z443 t ∧ True; let Z446 := fun (t : Z175) => Z444 t ∧ True; let Z447 := fun (t : Z175) => Z358 t ∧ Z439 t; let Z448 := decide Z81; let Z449 := fun (t : Z175) => Z206 ∧ Z446 t; let Z450 := fun (t : Z175) => Z206 ∧ Z445 t; let Z451 := decide Z128; let Z452 := Z451 = true; let Z453 := Z451 = false; let Z454 := decide Z160; let Z455 := Z454 = true; let Z456 := Z454 = false; let Z457 := fun (t : Z175) => Z298 t → Z447 t; let Z458 := Z455 → Z226; let Z459 := Z429 ∧ Z441; let Z460 := Z430 ∧ Z442; let Z461 := Z426 ∧ Z459; let Z462 := Z461 ∧ True; let Z463 := Z461 ∧ Z114; let Z464 := Z427 ∧ Z460; let Z465 := Z464 ∧ True; let Z466 := fun (t : Z175) => Z457 t ∧ Z440 t; let Z467 := fun (t : Z175) => Z294 t → Z466 t; let Z468 := fun (t : Z175) => Z357 t ∧ Z467 t; let Z469 := fun (t : Z175) => Z266 t → Z468 t; let Z470 := fun (t : Z175) => Z469 t ∧ Z438 t; let Z471 := fun (t : Z175) => Z269 t → Z470 t; let Z472 := fun (t : Z175) => Z301 t → Z470 t; let Z473 := fun (t : Z175) => Z300 t → Z470 t; let Z474 := decide Z364; let Z475 := fun (t : Z175) => Z358 t ∧ Z473 t; let Z476 := fun (t : Z175) => Z297 t → Z475 t; let Z477 := Z474 == Z367; let Z478 := !Z477; let Z479 := Z478 = true; let Z480 := Z478 = false; let Z481 := Z479 → Z120; let Z482 := decide Z376; let Z483 := Z482 = true; let Z484 := Z482 = false; let Z485 := decide Z380; let Z486 := decide Z381; let Z487 := Z486 = true; let Z488 := Z485 = true; let Z489 := Z485 = false; let Z490 := Z486 = false; let Z491 := Z483 → Z120; let Z492 := Z488 → Z120; let Z493 := Z487 → Z120; let Z494 := decide Z416; let Z495 := Z494 == Z419; let Z496 := !Z495; let Z497 := decide Z420; let Z498 := decide Z421; let Z499 := decide Z422; let Z500 := Z498 = true; let Z501 := Z499 = true; let Z502 := Z498 = false; let Z503 := Z499 = false; let Z504 := Z501 → Z120; let Z505 := Z500 → Z120; let Z506 := fun (t : Z175) => Z476 t ∧ Z472 t; let Z507 := fun (t : Z175) => Z294 t → Z506 t; let Z508 := fun (t : Z175) => Z357 t ∧ Z507 t; let Z509 := fun (t : Z175) => Z265 t → Z508 t; let Z510 := fun (t : Z175) => Z509 t ∧ Z471 t; let Z511 := fun (t : Z175) => Z268 t → Z510 t; let Z512 := fun (t : Z175) => Z295 t → Z510 t; let Z513 := fun (t : Z175) => Z356 t ∧ Z512 t; let Z514 := fun (t : Z175) => Z264 t → Z513 t; let Z515 := fun (t : Z175) => Z514 t ∧ Z511 t; let Z516 := fun (t : Z175) => Z296 t → Z515 t; let Z517 := fun (t : Z175) => Z355 t ∧ Z516 t; let Z518 := fun (t : Z175) => Z86 ∧ Z517 t; let Z519 := fun (t : Z175) => Z449 t ∧ Z518 t; let Z520 := fun (t : Z175) => Z89 ∧ Z519 t; let Z521 := fun (t : Z175) => Z86 ∧ Z520 t; let Z522 := fun (t : Z175) => Z450 t ∧ Z521 t; let Z523 := fun (t : Z175) => Z89 ∧ Z522 t; let Z524 := fun (t : Z175) => Z211 t ∧ Z523 t; let Z525 := fun (t : Z175) => Z238 t ∧ Z524 t; let Z526 := fun (t : Z175) => Z280 t → Z525 t; let Z527 := fun (t : Z175) => Z526 t ∧ Z334 t; let Z528 := ∀ (t : Z175), Z527 t; let Z529 := Z401 ∧ Z528; let Z539 := Z458 ∧ (Z456 → Z89 ∧ Z208 ∧ Z86 ∧ Z342 ∧ (Z173 → Z343 ∧ (Z177 → Z529))); let Z585 := (Z452 → Z195 ∧ Z11 ∧ Z89 ∧ Z462 ∧ Z86 ∧ (Z351 → Z539) ∧ (Z353 → Z89 ∧ Z462 ∧ Z86 ∧ Z89 ∧ Z463 ∧ Z86 ∧ Z89 ∧ Z462 ∧ Z86 ∧ Z212 ∧ (Z159 → Z383 ∧ (Z369 → Z491 ∧ (Z484 → Z481 ∧ (Z480 → (Z370 → Z539) ∧ (Z371 → Z394 ∧ (Z388 → (Z187 → (Z184 → Z396 ∧ (Z389 → Z215 ∧ (Z166 → Z492 ∧ (Z489 → Z493 ∧ (Z490 → Z539))))) ∧ (Z186 → Z215 ∧ (Z166 → Z492 ∧ (Z489 → Z493 ∧ (Z490 → Z539))))) ∧ (Z188 → Z215 ∧ (Z166 → Z492 ∧ (Z489 → Z493 ∧ (Z490 → Z539)))))))))))) ∧ (Z453 → Z89 ∧ Z208 ∧ Z86 ∧ Z342 ∧ (Z173 → Z343 ∧ (Z177 → Z529))); (Z4 < nat_lit 9223372036854775808 ∧ Z6 < nat_lit 9223372036854775808) ∧ (Z196 ∧ Z97 ∧ Z97 ∧ True) ∧ Z86 ∧ (Z147 = true → Z141) ∧ (Z147 = false → Z89 ∧ Z198 ∧ Z86 ∧ (Z116 = true → Z141) ∧ (Z116 = false → (nat_lit 0 = nat_lit 0 ∧ Z33 = Z33) ∧ nat_lit 0 + Z6 ≤ List.length ks ∧ nat_lit 0 + List.length Z84 ≤ nat_lit 1099511627776 ∧ (nat_lit 1 = nat_lit 1 ∧ Z104 = Z104) ∧ nat_lit 1 ≤ nat_lit 1 ∧ List.length Z169 + nat_lit 1 ≤ nat_lit 1099511627776 ∧ Z89 ∧ Z198 ∧ Z86 ∧ Z89 ∧ (Z196 ∧ Z114) ∧ Z86 ∧ Z89 ∧ Z198 ∧ Z86 ∧ (nat_lit 2 = nat_lit 2 ∧ some (Z23 :: Z19 :: Z25 :: Z31 :: AV.gs Z35 (nat_lit 0) :: Z199) = some (Z23 :: Z19 :: Z25 :: Z31 :: AV.gs (nat_lit 10) (nat_lit 0) :: Z199)) ∧ (Z448 = true → (Z26 ≤ Z26 ∧ Z81) ∧ nat_lit 0 < nat_lit 2 ∧ Z243 ∧ Z465 ∧ Z382 ∧ (Z406 = true → Z585) ∧ (Z406 = false → Z243 ∧ Z465 ∧ Z382 ∧ Z243 ∧ (Z464 ∧ Z114) ∧ Z382 ∧ Z243 ∧ Z465 ∧ Z382 ∧ Z212 ∧ (Z159 → (Z417 = true → Z120) ∧ (Z417 = false → (Z497 = true → Z120) ∧ (Z497 = false → (Z496 = true → Z120) ∧ (Z496 = false → (Z418 = true → Z585) ∧ (Z418 = false → (Z424 = true → Z120) ∧ (Z424 = false → (Z187 → (Z184 → (Z423 = true → Z120) ∧ (Z423 = false → Z215 ∧ (Z166 → Z504 ∧ (Z503 → Z505 ∧ (Z502 → Z585))))) ∧ (Z186 → Z215 ∧ (Z166 → Z504 ∧ (Z503 → Z505 ∧ (Z502 → Z585))))) ∧ (Z188 → Z215 ∧ (Z166 → Z504 ∧ (Z503 → Z505 ∧ (Z502 → Z585)))))))))))) ∧ (Z448 = false → Z89 ∧ Z208 ∧ Z86 ∧ Z342 ∧ (Z173 → Z343 ∧ (Z177 → Z529))))))
    (by kernel_rfl) ?_
  simp only [eq_self, true_and, and_true, Int.toNat_natCast, Nat.zero_add, Nat.sub_zero, Value.int.injEq, Value.bool.injEq, decide_eq_true_eq, decide_eq_false_iff_not]
  refine ⟨hl, fun _ => trivial, fun hhv => ?_⟩
  have hl1 : cs.length < 1000 := (heavy_no hhv).1.1
  have hl2 : ks.length < 1000 := (heavy_no hhv).1.2
  have hl3 : cs.length ≤ 60 ∧ ks.length ≤ 60 := by
    simp only [heavyM, Bool.or_eq_false_iff, decide_eq_false_iff_not] at hhv
    omega
  refine ⟨⟨hl1, hl2⟩, fun _ => trivial, fun hh0 => ?_⟩
  have hh : hearM ((f, w, li), cs, ks) = true := by simpa using hh0
  have hk := hear_ok hh
  have hw6 : 0 ≤ w ∧ w ≤ 6 := hk.w
  have hL0 : 0 ≤ li ∧ li ≤ w := hk.l
  have hWl : IntKind.i64.wrap (li - 1) = li - 1 := wrap_id (by omega) (by omega)
  have w1 : IntKind.i64.wrap (0 + 1) = 1 := by decide
  have w2 : IntKind.i64.wrap (1 + 1) = 2 := by decide
  have happ : [] ++ List.take ks.length (List.drop 0 ks) ++ List.take 1 (List.drop 0 [(p, n, q)]) = ks ++ [(p, n, q)] := by simp
  have hlk : (ks ++ [(p, n, q)]).length < 1000 := by simp; omega
  have hlk2 : ks.length + 1 < 1000 := by omega
  have g0 : ∀ a b d : (Int × Int × Int) × (Bool × Nat × Nat) × (Bool × Nat × Nat), [a, b].getD 0 d = a := fun _ _ _ => rfl
  have g1 : ∀ a b d : (Int × Int × Int) × (Bool × Nat × Nat) × (Bool × Nat × Nat), [a, b].getD 1 d = b := fun _ _ _ => rfl
  rw [hWl]
  simp only [w1, w2, happ, g0, g1]
  refine ⟨Nat.le_refl _, by simp; omega, Nat.le_refl _, by simp; omega, ⟨hl1, hl2⟩, ⟨hl1, hl2⟩, ⟨hl1, hl2⟩, ?_⟩
  have F : ∀ q : HT, (∃ pr, allH q = (allH ((f, w, li), cs, ks)).filter pr) → q.1.1 = f → q.1.2.1 = w → hearM q = false ∨ (hearM q = true ∧ (countM q).2 = 0 ∧ (countM q).1 ≤ (countM ((f, w, li), cs, ks)).1 ∧ (((countM q).1 = 0 ∧ (liarsM q).2 = 10) ∨
      (0 < (countM q).1 ∧ (liarsM q).2 = 0 ∧ (ruleM q (p', n', q')).2 = (ruleM ((f, w, li), cs, ks) (p', n', q')).2 ∧ ((ruleM ((f, w, li), cs, ks) (p', n', q')).2 ≠ 0 ∨ ((ruleM ((f, w, li), cs, ks) (p', n', q')).2 = 0 ∧ (ruleM ((f, w, li), cs, ks) (p', n', q')).1 = 1) ∨ ((ruleM ((f, w, li), cs, ks) (p', n', q')).2 = 0 ∧ (ruleM ((f, w, li), cs, ks) (p', n', q')).1 ≠ 1 ∧ (ruleM q (p', n', q')).1 = (ruleM ((f, w, li), cs, ks) (p', n', q')).1)) ∧ (liarsM ((f, w, li), cs, ks)).2 = 0 ∧ (liarsM ((f, w, li), cs, ks)).1.1 ≤ (liarsM q).1.1 ∧ (liarsM q).1.2 ≤ (liarsM ((f, w, li), cs, ks)).1.2))) := by
    rintro q ⟨pr, hpr⟩ h1 h2
    cases hq : hearM q with
    | false => exact .inl rfl
    | true =>
      obtain ⟨_, a2, a3, a4⟩ := more_cases hh hq h1 h2 hpr (p', n', q')
      refine .inr ⟨rfl, a2, a3, a4.imp id ?_⟩
      rintro ⟨b1, b2, b3, b4, b5⟩
      refine ⟨b1, b2, b3, ?_, b5⟩
      by_cases c1 : (ruleM ((f, w, li), cs, ks) (p', n', q')).2 = 0
      · by_cases c2 : (ruleM ((f, w, li), cs, ks) (p', n', q')).1 = 1
        · exact .inr (.inl ⟨c1, c2⟩)
        · exact .inr (.inr ⟨c1, c2, (b4 c1 c2).symm⟩)
      · exact .inl c1
  have hcx : (countM ((f, w, li), cs, ks)).2 = 0 := by rw [count_some hh]
  have hcx0 : 0 ≤ (countM ((f, w, li), cs, ks)).1 := by rw [count_some hh]; exact Int.natCast_nonneg _
  have F0 := F ((f, w, li), cs, ks ++ [(p, n, q)]) ⟨_, allH_ext ((f, w, li), cs, ks) (p, n, q)⟩ rfl rfl
  have F1 := F ((f, w, max 0 (li - 1)), cs, ks) ⟨_, allH_less ((f, w, li), cs, ks) (max 0 (li - 1)) (by show max 0 (li - 1) ≤ li; omega)⟩ rfl rfl
  apply suff_of
  case h =>
    intro hR
    rcases F0 with aq | ⟨aq, aa, ab, az⟩
    · rcases F1 with bq | ⟨bq, ba, bb, bz⟩
      · simp [hl1, hl2, hlk2, hcx, hcx0, aq, bq]
        exact hR
      · have bb2 := Int.not_lt.2 bb
        rcases bz with bz | bz
        · simp [hl1, hl2, hlk2, hcx, hcx0, aq, bq, ba, bb, bb2, bz]
          exact hR
        · obtain ⟨bc, bd, be, bf, bg, bh, bi⟩ := bz
          have bn := Int.ne_of_gt bc
          have bh2 := Int.not_lt.2 bh
          have bi2 := Int.not_lt.2 bi
          rcases bf with bf | ⟨bf, bj⟩ | ⟨bf, bj, bk⟩
          · simp [hl1, hl2, hlk2, hcx, hcx0, aq, bq, ba, bb, bb2, bc, bd, be, bf, bg, bh, bi, bn, bh2, bi2]
            exact hR
          · simp [hl1, hl2, hlk2, hcx, hcx0, aq, bq, ba, bb, bb2, bc, bd, be, bf, bj, bg, bh, bi, bn, bh2, bi2]
            exact hR
          · simp [hl1, hl2, hlk2, hcx, hcx0, aq, bq, ba, bb, bb2, bc, bd, be, bf, bj, bk, bg, bh, bi, bn, bh2, bi2]
            exact hR
    · have ab2 := Int.not_lt.2 ab
      rcases az with az | az
      · rcases F1 with bq | ⟨bq, ba, bb, bz⟩
        · simp [hl1, hl2, hlk2, hcx, hcx0, aq, aa, ab, ab2, az, bq]
          exact hR
        · have bb2 := Int.not_lt.2 bb
          rcases bz with bz | bz
          · simp [hl1, hl2, hlk2, hcx, hcx0, aq, aa, ab, ab2, az, bq, ba, bb, bb2, bz]
            exact hR
          · obtain ⟨bc, bd, be, bf, bg, bh, bi⟩ := bz
            have bn := Int.ne_of_gt bc
            have bh2 := Int.not_lt.2 bh
            have bi2 := Int.not_lt.2 bi
            rcases bf with bf | ⟨bf, bj⟩ | ⟨bf, bj, bk⟩
            · simp [hl1, hl2, hlk2, hcx, hcx0, aq, aa, ab, ab2, az, bq, ba, bb, bb2, bc, bd, be, bf, bg, bh, bi, bn, bh2, bi2]
              exact hR
            · simp [hl1, hl2, hlk2, hcx, hcx0, aq, aa, ab, ab2, az, bq, ba, bb, bb2, bc, bd, be, bf, bj, bg, bh, bi, bn, bh2, bi2]
              exact hR
            · simp [hl1, hl2, hlk2, hcx, hcx0, aq, aa, ab, ab2, az, bq, ba, bb, bb2, bc, bd, be, bf, bj, bk, bg, bh, bi, bn, bh2, bi2]
              exact hR
      · obtain ⟨ac, ad, ae, af, ag, ah, ai⟩ := az
        have an := Int.ne_of_gt ac
        have ah2 := Int.not_lt.2 ah
        have ai2 := Int.not_lt.2 ai
        rcases af with af | ⟨af, aj⟩ | ⟨af, aj, ak⟩
        · rcases F1 with bq | ⟨bq, ba, bb, bz⟩
          · simp [hl1, hl2, hlk2, hcx, hcx0, aq, aa, ab, ab2, ac, ad, ae, af, ag, ah, ai, an, ah2, ai2, bq]
            exact hR
          · have bb2 := Int.not_lt.2 bb
            rcases bz with bz | bz
            · simp [hl1, hl2, hlk2, hcx, hcx0, aq, aa, ab, ab2, ac, ad, ae, af, ag, ah, ai, an, ah2, ai2, bq, ba, bb, bb2, bz]
              exact hR
            · obtain ⟨bc, bd, be, bf, bg, bh, bi⟩ := bz
              have bn := Int.ne_of_gt bc
              have bh2 := Int.not_lt.2 bh
              have bi2 := Int.not_lt.2 bi
              rcases bf with bf | ⟨bf, bj⟩ | ⟨bf, bj, bk⟩
              · simp [hl1, hl2, hlk2, hcx, hcx0, aq, aa, ab, ab2, ac, ad, ae, af, ag, ah, ai, an, ah2, ai2, bq, ba, bb, bb2, bc, bd, be, bf, bg, bh, bi, bn, bh2, bi2]
                exact hR
              · exact absurd bf af
              · exact absurd bf af
        · rcases F1 with bq | ⟨bq, ba, bb, bz⟩
          · simp [hl1, hl2, hlk2, hcx, hcx0, aq, aa, ab, ab2, ac, ad, ae, af, aj, ag, ah, ai, an, ah2, ai2, bq]
            exact hR
          · have bb2 := Int.not_lt.2 bb
            rcases bz with bz | bz
            · simp [hl1, hl2, hlk2, hcx, hcx0, aq, aa, ab, ab2, ac, ad, ae, af, aj, ag, ah, ai, an, ah2, ai2, bq, ba, bb, bb2, bz]
              exact hR
            · obtain ⟨bc, bd, be, bf, bg, bh, bi⟩ := bz
              have bn := Int.ne_of_gt bc
              have bh2 := Int.not_lt.2 bh
              have bi2 := Int.not_lt.2 bi
              rcases bf with bf | ⟨bf, bj⟩ | ⟨bf, bj, bk⟩
              · exact absurd af bf
              · simp [hl1, hl2, hlk2, hcx, hcx0, aq, aa, ab, ab2, ac, ad, ae, af, aj, ag, ah, ai, an, ah2, ai2, bq, ba, bb, bb2, bc, bd, be, bf, bj, bg, bh, bi, bn, bh2, bi2]
                exact hR
              · exact absurd aj bj
        · rcases F1 with bq | ⟨bq, ba, bb, bz⟩
          · simp [hl1, hl2, hlk2, hcx, hcx0, aq, aa, ab, ab2, ac, ad, ae, af, aj, ak, ag, ah, ai, an, ah2, ai2, bq]
            exact hR
          · have bb2 := Int.not_lt.2 bb
            rcases bz with bz | bz
            · simp [hl1, hl2, hlk2, hcx, hcx0, aq, aa, ab, ab2, ac, ad, ae, af, aj, ak, ag, ah, ai, an, ah2, ai2, bq, ba, bb, bb2, bz]
              exact hR
            · obtain ⟨bc, bd, be, bf, bg, bh, bi⟩ := bz
              have bn := Int.ne_of_gt bc
              have bh2 := Int.not_lt.2 bh
              have bi2 := Int.not_lt.2 bi
              rcases bf with bf | ⟨bf, bj⟩ | ⟨bf, bj, bk⟩
              · exact absurd af bf
              · exact absurd bj aj
              · simp [hl1, hl2, hlk2, hcx, hcx0, aq, aa, ab, ab2, ac, ad, ae, af, aj, ak, ag, ah, ai, an, ah2, ai2, bq, ba, bb, bb2, bc, bd, be, bf, bj, bk, bg, bh, bi, bn, bh2, bi2]
                exact hR
  case hR =>
    have hh2 : hearM ((f, w, 0), cs, ks) = true := hear_less hh (Int.le_refl 0) hw6.1
    have e0 : (countM ((f, w, 0), cs, ks)).2 = 0 := by rw [count_some hh2]
    refine ⟨fun h => absurd e0 h, fun _ => ⟨fun _ => e0, fun hn => ⟨⟨0, Nat.zero_le _, rfl⟩, fun a _ ha => ?_⟩⟩⟩
    have hsu : ∃ b : Nat, IntKind.i64.wrap ((a : Int) + 1) = (b : Int) ∧ b ≤ cs.length ∧ cs.length - b < cs.length - a := ⟨a + 1, sucI a (by omega), ha, dec1 ha⟩
    have hcm : cs.getD a dfC ∈ cs := getD_mem dfC ha
    have hkd := (hk.claims _ hcm).1
    obtain ⟨t1, t2, t3, t4, t5⟩ := none_told hh2 rfl hn hcm
    rw [List.getD_eq_getElem?_getD] at hkd t1 t2 t3 t4 t5
    generalize cs[a]?.getD dfC = c at *
    generalize (((f, w, (0 : Int)), cs, ks) : HT) = y at *
    have hk3 : c.2.1 = 0 ∨ c.2.1 = 1 ∨ c.2.1 = 2 := by omega
    rcases hk3 with h | h | h
    · simp [ha, t1, t2 h, h, hsu]
    · have t4' := t4 h
      have t3' := t3 (by omega)
      by_cases b1 : (ruleM y c.2.2.1).1 = 0
      · have b2 : ¬ (ruleM y c.2.2.2).1 = 0 := fun e => t4' ⟨b1, e⟩
        simp [ha, t1, t3', h, hsu, b1, b2]
      · simp [ha, t1, t3', h, hsu, b1]
    · have t5' := t5 h
      have t3' := t3 (by omega)
      by_cases b1 : (ruleM y c.2.2.1).1 = 2
      · have b2 : ¬ (ruleM y c.2.2.2).1 = 0 := fun e => t5' ⟨b1, e⟩
        simp [ha, t1, t3', h, hsu, b1, b2]
      · simp [ha, t1, t3', h, hsu, b1]

theorem lawM_sound : Sound Try.prog 10 lawMS.con := FSpec.sound _ (enter_of Try.func10 (by kernel_rfl) (by kernel_rfl)) lawM_ok
end AE.Pr

namespace AE
open Go Go.ChangeShapes Go.WideShapes

theorem Keeps.but {w w' : World} (h : Keeps (fun _ => False) w w') (may : MemPlace → Prop) : w.keptBut w' may := by
  refine ⟨h.os, h.output, fun i hi => ?_⟩
  have hb := h.block i hi fun h => h
  rw [hb]
  exact (World.keptBut_refl w may).2.2 i hi
theorem Keeps.frozen {w w' : World} (h : Keeps (fun _ => False) w w') (a : Addr) (ha : a.block < w.heap.size) : w'.frozen? a = w.frozen? a := by
  unfold World.frozen?
  rw [h.block a.block ha fun h => h]
theorem post_of_keeps {P : Program} {H : Type} {enc : TypeId × Value → H} {f : Func} {s : ChangeSpec} {apart fresh handsOn again : Bool} {W W' : World} {args : Array Value} {v : Value} {ds gs : List (DataW H)} {before pa pv : List MemPlace}
    (hW : DataW.Whole enc P f.params.toList s.vars apart W args.toList ds gs before)
    (hres : ∀ (b : Nat) (sp : Nat → Bool) (hd : Bool), DataW.TrodAll enc P W' b sp hd f.resultTypes.toList (v.resultList f.resultTypes.size) (s.fn H (ds ++ gs)).results [])
    (hargs : ∀ sp : Nat → Bool, (∀ p ∈ before, sp p.block = true) → DataW.TrodAll enc P W' 0 sp true f.params.toList args.toList (s.fn H (ds ++ gs)).args pa)
    (hvars : ∀ sp : Nat → Bool, (∀ p ∈ before, sp p.block = true) → DataW.TrodVars enc P W' sp s.vars (s.fn H (ds ++ gs)).vars pv)
    (hps : before = pa ++ pv) (hk : Keeps (fun _ => False) W W')
    (hok : ∀ (j : Nat) (t : TypeId) (r : Value), f.resultTypes[j]? = some t → (v.resultList f.resultTypes.size)[j]? = some r → Value.okWide P W' .any 0 t r) :
    s.post enc P f apart fresh handsOn again W args v W' := by
  have hlt := hW.lt
  have hold : ∀ p ∈ before, (fun b => decide (b < W.heap.size)) p.block = true := fun p hp => by simpa using hlt p hp
  have hb : ∀ p, p ∈ [] ++ pa ++ pv ↔ p ∈ before := fun p => by rw [hps, List.nil_append]
  refine ⟨ds, gs, before, [], pa, pv, hW, hres _ _ _, hargs _ hold, hvars _ hold, World.keptBut_mono (fun p hp => ⟨hp, ?_⟩) (hk.but _), fun _ => ?_⟩
  · exact Or.inr (List.mem_append.1 (hps ▸ hp))
  · obtain ⟨_, _, _, _, _, hz, hn⟩ := hW
    refine ⟨hok, _, _, [] ++ pa ++ pv, ⟨[] ++ pa, pv, trodAll_append (hargs _ (fun _ _ => rfl)) (hres _ _ _), hvars _ (fun _ _ => rfl), rfl, fun b off hp => ?_, fun ha => ?_⟩, fun p hp _ => (hb p).1 hp⟩
    · have hp' := (hb _).1 hp
      rw [hk.frozen _ (hlt _ hp')]
      exact hz b off hp'
    · have := hn ha
      rwa [hps, ← List.nil_append pa] at this
end AE

namespace AE
open Go Go.ChangeShapes Go.WideShapes Go.RowKit

theorem Keeps.below {w w' : World} (h : Keeps (fun _ => False) w w') : Below w.heap.size w w' :=
  ⟨h.os, h.tape, h.output, h.size, fun k hk => h.block k hk fun e => e⟩

/-- What a cell of a flat type holds. -/
inductive FK where
  | int (k : IntKind)
  | bool
def FK.ok : FK → Value → Prop
  | .int k, v => ∃ n, v = .int k n ∧ (Lit.int k n).wf = true
  | .bool, v => ∃ b, v = .bool b
def FKs : List FK → List Value → Prop
  | [], vs => vs = []
  | k :: ks, vs => ∃ v r, vs = v :: r ∧ k.ok v ∧ FKs ks r
theorem FKs.append : ∀ {a b : List FK} {x y : List Value}, FKs a x → FKs b y → FKs (a ++ b) (x ++ y)
  | [], _, _, _, h, k => by cases h; exact k
  | _ :: _, _, _, _, ⟨v, r, e, h1, h2⟩, k => ⟨v, _, by rw [e]; rfl, h1, h2.append k⟩
theorem FKs.length : ∀ {a : List FK} {x : List Value}, FKs a x → x.length = a.length
  | [], _, h => by cases h; rfl
  | _ :: _, _, ⟨v, r, e, _, h⟩ => by rw [e, List.length_cons, List.length_cons, h.length]

mutual
def flat (P : Program) : Nat → TypeId → Option (List FK)
  | 0, _ => none
  | n + 1, t => match P.underlying t with
    | some .bool => some [.bool]
    | some (.int k) => some [.int k]
    | some (.struct fs) => flatFs P n 0 fs.toList
    | _ => none
def flatFs (P : Program) : Nat → Nat → List Field → Option (List FK)
  | _, _, [] => some []
  | 0, _, _ :: _ => none
  | n + 1, o, f :: fs => match Nat.beq f.offset o, flat P n f.type with
    | true, some l => match Nat.beq (P.cellsOf f.type) l.length, flatFs P n (o + l.length) fs with
      | true, some r => some (l ++ r)
      | _, _ => none
    | _, _ => none
end

section
variable {H : Type} {enc : TypeId × Value → H} {P : Program} {w : World} {base : Nat} {spare : Nat → Bool} {held : Bool}
mutual
theorem flat_ok : ∀ (n : Nat) {t : TypeId} {ks : List FK} {fuel : Nat} {cs : List Value} {x : DataW H × List MemPlace}, flat P n t = some ks → P.cellsOf t = ks.length → DataW.trod enc P w base spare held fuel t cs = some x → FKs ks cs
  | 0, t, ks, fuel, cs, x, h, _, _ => by simp [flat] at h
  | n + 1, t, ks, fuel, cs, x, h, hc, hx => by
    unfold flat at h
    split at h
    · rename_i hu
      cases h
      cases fuel with
      | zero => simp [DataW.trod] at hx
      | succ m =>
        unfold DataW.trod at hx
        rw [hu] at hx
        split at hx <;> first | (simp_all; done) | skip
        rename_i b _ _
        exact ⟨_, _, rfl, ⟨_, rfl⟩, rfl⟩
    · rename_i k hu
      cases h
      cases fuel with
      | zero => simp [DataW.trod] at hx
      | succ m =>
        unfold DataW.trod at hx
        rw [hu] at hx
        split at hx <;> first | (simp_all; done) | skip
        split at hx
        · rename_i k1 _ _ he hh
          have he' : k = k1 := by simpa using he
          subst he'
          obtain ⟨rfl, hh⟩ := hh
          exact ⟨_, _, rfl, ⟨_, rfl, hh⟩, rfl⟩
        · cases hx
    · rename_i fs hu
      obtain ⟨xs, m, _, _, hl, hlen, hf⟩ := DataW.trod_struct hu hx
      have := flatFs_ok n (cs := cs) h (fun f hm => by
        obtain ⟨i, hi, rfl⟩ := List.getElem_of_mem hm
        have h1 : i < fs.size := by simpa using hi
        have h2 := hf i fs[i] (Array.getElem?_eq_getElem h1)
        rw [List.getElem?_eq_getElem (by omega)] at h2
        exact ⟨_, m, by rw [Array.getElem_toList]; exact h2⟩) (by rw [hl, hc]; omega)
      simpa using this
    · cases h
theorem flatFs_ok : ∀ (n : Nat) {o : Nat} {fs : List Field} {ks : List FK} {cs : List Value}, flatFs P n o fs = some ks →
    (∀ f ∈ fs, ∃ y m, DataW.trod enc P w base spare held m f.type ((cs.drop f.offset).take (P.cellsOf f.type)) = some y) → cs.length = o + ks.length → FKs ks (cs.drop o)
  | n, o, [], ks, cs, h, _, hl => by
    have : ks = [] := by cases n <;> simpa [flatFs] using h.symm
    subst this
    show cs.drop o = []
    exact List.drop_eq_nil_of_le (by simpa using Nat.le_of_eq hl)
  | 0, o, f :: fs, ks, cs, h, _, _ => by simp [flatFs] at h
  | n + 1, o, f :: fs, ks, cs, h, hf, hl => by
    unfold flatFs at h
    split at h
    case h_2 => cases h
    rename_i l ho hfl
    split at h
    case h_2 => cases h
    rename_i r hc hr
    cases h
    replace ho := Nat.eq_of_beq_eq_true ho
    replace hc := Nat.eq_of_beq_eq_true hc
    obtain ⟨y, m, hy⟩ := hf f (List.mem_cons_self ..)
    have h1 := flat_ok n hfl hc hy
    have h2 := flatFs_ok n (cs := cs) hr (fun g hg => hf g (List.mem_cons_of_mem _ hg)) (by rw [hl, List.length_append]; omega)
    rw [ho, hc] at h1
    have h3 := h1.append h2
    rw [← List.drop_drop, List.take_append_drop] at h3
    exact h3
end

theorem cells_get {a : Addr} {n : Nat} {cs : List Value} (h : w.cells? base a n = some cs) : cs.length = n ∧ ∀ j, j < n → w.cell? (a.add j) = cs[j]? := by
  unfold World.cells? at h
  split at h
  · exact ⟨by simpa using mapM_some_length h, fun j hj => mapM_some_get h j j (by simp [hj])⟩
  · cases h

theorem cell_spot {a : Addr} {v : Value} (h : w.cell? a = some v) : a.spot = none := by
  unfold World.cell? at h
  split at h
  · split at h
    · cases h
    · rename_i hs; simpa using hs
  · cases h

/-- A slice of flat elements, read as data, is a row of the executor's memory. -/
theorem row_of_trod {U : Uni} (c : U.C) {t e : TypeId} {ks : List FK} {n fuel : Nat} {v : Value} {x : DataW H × List MemPlace} (ht : P.underlying t = some (.slice e)) (hfl : flat P n e = some ks) (hce : P.cellsOf e = ks.length) (hsz : ks.length = U.sz c) (hpos : 0 < ks.length)
    (hdec : ∀ cs, FKs ks cs → ∃ x, U.enc c x = cs.map .v) (h : DataW.trod enc P w base spare held fuel t [v] = some x) :
    ∃ (l : List (U.ty c)) (p : Place), l.length < 9223372036854775808 ∧ (∀ π, BlkOk π w p (.ro c l)) ∧ ∀ (π : Plc) (id k : Nat), π id k = some p → Rep π (.sl id k 0 l.length) v := by
  rcases DataW.trod_slice ht h with ⟨h0, _⟩ | ⟨a, len, cap, elems, rest, m, _, hv, _, hb, hl, hm, hlen, hel, _, _⟩
  · cases h0
    refine ⟨[], ⟨0, 0, U.sz c, none, 0, 0⟩, by simp, fun π => ⟨rfl, fun i x hi => by simp at hi⟩, fun π id k _ => ?_⟩
    simp only [Rep]
    exact ⟨none, 0, rfl, Nat.le_refl _, fun h => absurd h (Nat.lt_irrefl 0)⟩
  · cases hv
    have each : ∀ i, i < len → ∃ x : U.ty c, ∀ j a1, (U.enc c x)[j]? = some a1 → ∃ y, w.cell? ((a.add (i * P.cellsOf e)).add j) = some y ∧ a1 = .v y := by
      intro i hi
      have h1 := hel i hi
      rw [List.getElem?_eq_getElem (by omega), Option.bind_eq_some_iff] at h1
      obtain ⟨cs, hcs, htr⟩ := h1
      obtain ⟨hcl, hcg⟩ := cells_get hcs
      obtain ⟨x, hx⟩ := hdec cs (flat_ok n hfl hce htr)
      refine ⟨x, fun j a1 hj => ?_⟩
      rw [hx, List.getElem?_map] at hj
      cases hc : cs[j]? with
      | none => rw [hc] at hj; cases hj
      | some y =>
        rw [hc] at hj
        have hjl := (List.getElem?_eq_some_iff.1 hc).1
        exact ⟨y, by rw [hcg j (by omega), hc], by simpa using hj.symm⟩
    have spot : 0 < len → a.spot = none := by
      intro h0
      obtain ⟨x, hx⟩ := each 0 h0
      have hl2 := U.len c x
      obtain ⟨y, hy, _⟩ := hx 0 ((U.enc c x)[0]'(by omega)) (List.getElem?_eq_getElem _)
      have h9 : (a.add (0 * P.cellsOf e)).add 0 = a := by simp [Addr.add]
      rw [h9] at hy
      exact cell_spot hy
    have : ∃ l : List (U.ty c), l.length = len ∧ ∀ i x, l[i]? = some x → ∀ j a1, (U.enc c x)[j]? = some a1 → ∃ y, w.cell? ((a.add (i * P.cellsOf e)).add j) = some y ∧ a1 = .v y := by
      refine ⟨(List.range len).pmap (fun i hi => (each i hi).choose) (fun i hi => List.mem_range.1 hi), by simp, fun i x hi => ?_⟩
      rw [List.getElem?_pmap] at hi
      by_cases h0 : i < len
      · rw [Option.pmap_eq_some_iff] at hi
        obtain ⟨i', h1, h2, rfl⟩ := hi
        have : i' = i := by rw [List.getElem?_range h0] at h2; exact (Option.some.inj h2).symm
        subst this
        exact (each i' h1).choose_spec
      · simp [List.getElem?_eq_none (show (List.range len).length ≤ i by simp; omega)] at hi
    obtain ⟨l, hll, hl2⟩ := this
    have hml : maxLen = 9223372036854775807 := by decide
    refine ⟨l, ⟨a.block, a.off, U.sz c, none, 0, 0⟩, by omega, fun π => ⟨rfl, fun i x hi j a1 hj => ?_⟩, fun π id k hp => ?_⟩
    · obtain ⟨y, hy, rfl⟩ := hl2 i x hi j a1 hj
      have hi' := (List.getElem?_eq_some_iff.1 hi).1
      have hs := spot (by omega)
      refine ⟨y, ?_, by simp [Rep]⟩
      rw [← hy]
      congr 1
      cases a
      simp only at hs
      subst hs
      simp only [Addr.add, hce, hsz]
      split <;> split <;> simp_all
    · simp only [Rep]
      refine ⟨some a, cap, by rw [hll], by omega, fun h0 => ⟨_, hp, ?_⟩⟩
      have hs := spot (by omega)
      cases a
      simp only at hs
      subst hs
      simp
end

/-- Rows that are only read, as memory. -/
def rosPlc (ps : List Place) : Plc := fun id k => if k = 0 then ps[id]? else none
theorem rosPlc_fresh (ps : List Place) : Fresh (rosPlc ps) ps.length := by
  intro id k h
  unfold rosPlc
  split
  · rw [List.getElem?_eq_none h]
  · rfl
def roH {U : Uni} (bs : List ((c : U.C) × List (U.ty c))) : Heap U := bs.map fun b => .one (.ro b.1 b.2)
theorem roH_at {U : Uni} {bs : List ((c : U.C) × List (U.ty c))} {id k : Nat} {b : AB1 U} (h : (roH bs).at id k = some b) : k = 0 ∧ ∃ c, bs[id]? = some c ∧ b = .ro c.1 c.2 := by
  unfold Heap.at roH at h
  rw [List.getElem?_map] at h
  cases hb : bs[id]? with
  | none => rw [hb] at h; cases h
  | some c =>
    rw [hb] at h
    simp only [Option.map_some] at h
    split at h
    · rename_i e; exact ⟨e, c, rfl, by simpa using h.symm⟩
    · cases h
theorem roH_conc {U : Uni} {w : World} {bs : List ((c : U.C) × List (U.ty c))} {ps : List Place} (hl : ps.length = bs.length) (h : ∀ (i : Nat) (b : (c : U.C) × List (U.ty c)) (p : Place), bs[i]? = some b → ps[i]? = some p → ∀ π, BlkOk (U := U) π w p (.ro b.1 b.2)) : Conc (rosPlc ps) (roH bs) w where
  ok := fun id k b hb => by
    obtain ⟨rfl, c, hc, rfl⟩ := roH_at hb
    have h1 := (List.getElem?_eq_some_iff.1 hc).1
    refine ⟨ps[id], ?_, h id c _ hc (List.getElem?_eq_getElem (by omega)) _⟩
    unfold rosPlc
    rw [if_pos rfl, List.getElem?_eq_getElem (by omega)]
  sep := fun id k b id' k' b' p p' hb _ _ ho => by
    obtain ⟨rfl, c, hc, rfl⟩ := roH_at hb
    cases ho
theorem roH_length {U : Uni} (bs : List ((c : U.C) × List (U.ty c))) : (roH bs).length = bs.length := by simp [roH]
/-- A call that owns nothing of its memory keeps all that was there. -/
theorem keeps_of_ro {U : Uni} {bs : List ((c : U.C) × List (U.ty c))} {w w' : World} {O : Nat → Prop} (h : Keeps O w w') (hO : ∀ n, ¬ O n) : Keeps (fun _ => False) w w' := h.weaken fun n _ hn => hO n hn

/-- Arguments read in a world that keeps all that was there as they read before. -/
theorem trodAll_stays {H : Type} {enc : TypeId × Value → H} {P : Program} (hl : laidOutB P = true) {W W' : World} {sp' : Nat → Bool} : ∀ {ts : List TypeId} {vs : List Value} {ds : List (DataW H)} {ps : List MemPlace},
    (ts.all fun t => P.readableRec t && decide (t < P.types.size)) = true → DataW.TrodAll enc P W 0 (fun _ => true) true ts vs ds ps → (∀ p ∈ ps, W.sameAt W' p) → (∀ p ∈ ps, sp' p.block = true) → DataW.TrodAll enc P W' 0 sp' true ts vs ds ps
  | [], [], [], _, _, h, _, _ => h
  | _ :: _, _ :: _, _ :: _, _, ht, ⟨p, q, h1, h2, e⟩, hs, hp => by
    simp only [List.all_cons, Bool.and_eq_true, decide_eq_true_eq] at ht
    exact ⟨p, q, WideElems.Trod_stays hl ht.1.1 ht.1.2 h1 (fun x hx => hs x (by rw [e]; exact List.mem_append_left _ hx)) (fun x hx => hp x (by rw [e]; exact List.mem_append_left _ hx)),
      trodAll_stays hl ht.2 h2 (fun x hx => hs x (by rw [e]; exact List.mem_append_right _ hx)) (fun x hx => hp x (by rw [e]; exact List.mem_append_right _ hx)), e⟩

/-- A law without named variables, by its walk: 'it returns true; the arguments read as they did'. -/
theorem law_lifted {C : Checked} {f : FuncId} {fn : Func} {s : ChangeSpec} {conds : List PathCond} (own : ownKnob C.prog.godebug = none) {os : Os} (started : os.Started) {H : Type} {enc : TypeId × Value → H} (noInit : C.prog.inits.idxOf? f = none) (hfn : C.prog.funcs[f]? = some fn)
    (witness : ∃ (w : World) (tape : Tape) (i : Input), w.os = os ∧ (w.forCall tape i).Shaped C.prog ∧ i.vars = [] ∧ Input.okWide C.prog (w.forCall tape i) .any w.heap.size f i ∧ s.pre6 enc C.prog fn conds false (w.forCall tape i).memory i.args ∧ ({} : Assume).holds C.prog (lone (Frame.enter C.prog f i.args .normal) [] (w.forCall tape i)))
    (hl : laidOutB C.prog = true) (hts : (fn.params.toList.all fun t => C.prog.readableRec t && decide (t < C.prog.types.size)) = true) {rt : TypeId} (hrt : fn.resultTypes = #[rt]) (hb : C.prog.underlying rt = some .bool)
    (hvars : s.vars = []) (hspec : ∀ ds : List (DataW H), ds.length = fn.params.size → (s.fn H ds).results = [.lit (.bool true)] ∧ (s.fn H ds).args = ds ∧ (s.fn H ds).vars = [])
    (walk : ∀ (W : World) (args : Array Value) (ds : List (DataW H)) (ps : List MemPlace), DataW.TrodAll enc C.prog W 0 (fun _ => true) true fn.params.toList args.toList ds ps → (∀ (j : Nat) t v, fn.params[j]? = some t → args[j]? = some v → ∃ base, Value.okWide C.prog W .any base t v) →
      Calls C.prog f args W fun e w' => e = .returned (.bool true) ∧ Keeps (fun _ => False) W w') :
    ReturnsInHanded {} C os f .any (s.pre6 enc C.prog fn conds false) (s.post enc C.prog fn false true false false) := by
  refine returnsInHanded_of_change (C := C) own started noInit hfn witness ?_
  intro W base args ds gs before hval hW hcnd _
  have hW' := hW
  obtain ⟨p, q, hA, hV, rfl, hfz, hnd⟩ := hW
  rw [hvars] at hV
  obtain ⟨rfl, rfl⟩ := trodVars_none hV
  simp only [List.append_nil] at hW'
  have hlen : ds.length = fn.params.size := by
    have : ∀ {ts : List TypeId} {vs : List Value} {ds : List (DataW H)} {ps : List MemPlace}, DataW.TrodAll enc C.prog W 0 (fun _ => true) true ts vs ds ps → ds.length = ts.length := by
      intro ts
      induction ts with
      | nil => intro vs ds ps h; obtain ⟨_, rfl, _⟩ := trodAll_nil h; rfl
      | cons t ts ih =>
        intro vs ds ps h
        obtain ⟨_, _, _, ds', _, _, _, rfl, _, _, h2⟩ := trodAll_cons h
        simp [ih h2]
    rw [this hA]; simp
  obtain ⟨s1, s2, s3⟩ := hspec (ds ++ []) (by simpa using hlen)
  refine (walk W args ds p hA fun j t v h1 h2 => ⟨base, hval j t v h1 h2⟩).mono fun e W' ⟨he, hg⟩ => ?_
  subst he
  refine ⟨_, rfl, post_of_keeps (pa := p) (pv := []) hW' (fun b sp hd => ?_) (fun sp hsp => ?_) (fun sp _ => ?_) (by simp) hg ?_⟩
  · rw [s1, hrt]
    exact trodAll_cons_mk (shut_bool hb _) trodAll_mk0
  · rw [s2, List.append_nil]
    have hlt := hW'.lt
    exact trodAll_stays hl hts hA (fun x hx => hg.below.same (by simpa using hlt x hx)) fun x hx => hsp x hx
  · rw [s3, hvars]; rfl
  · exact ok_one hrt rfl (okWide_bool_mk hb _)

theorem agg_of_cells {v : Value} {l : List Value} (h : v.cells.toList = l) (hl : l.length ≠ 1) : v = .agg l.toArray := by
  cases v with
  | agg cs => simp only [Value.cells] at h; rw [← h]
  | _ => simp only [Value.cells] at h; rw [← h] at hl; exact absurd rfl hl
theorem cells_of_one2 {v : Value} {x : Value} (hx : ∀ cs, v ≠ .agg cs) (h : v.cells.toList = [x]) : v = x := by
  cases v with
  | agg cs => exact absurd rfl (hx cs)
  | _ => simpa [Value.cells] using h
/-- A flat value read as data: its cells. -/
theorem flat_cells {H : Type} {enc : TypeId × Value → H} {P : Program} {w : World} {base : Nat} {spare : Nat → Bool} {held : Bool} {t : TypeId} {v : Value} {d : DataW H} {ps : List MemPlace} {ks : List FK} (n : Nat) (hfl : flat P n t = some ks) (hce : P.cellsOf t = ks.length) (h : DataW.Trod enc P w base spare held t v d ps) : FKs ks v.cells.toList := by
  obtain ⟨fuel, h⟩ := h
  exact flat_ok n hfl hce h
theorem flat_agg {H : Type} {enc : TypeId × Value → H} {P : Program} {w : World} {base : Nat} {spare : Nat → Bool} {held : Bool} {t : TypeId} {v : Value} {d : DataW H} {ps : List MemPlace} {ks : List FK} (n : Nat) (hfl : flat P n t = some ks) (hce : P.cellsOf t = ks.length) (hne : ks.length ≠ 1) (h : DataW.Trod enc P w base spare held t v d ps) : ∃ l, FKs ks l ∧ v = .agg l.toArray := by
  have h1 := flat_cells n hfl hce h
  exact ⟨_, h1, agg_of_cells rfl (by rw [h1.length]; exact hne)⟩
theorem RepL.ofV {π : Plc} : ∀ (l : List Value), RepL π (l.map .v) l
  | [] => RepL.nil π
  | x :: l => RepL.cons (by simp [Rep]) (RepL.ofV l)
end AE

namespace AE.Pr
open Go AE Go.Proofs Go.ChangeShapes Go.WideShapes Go.RowKit

theorem laidOut : laidOutB Try.prog = true := by kernel_rfl
theorem flatW : flat Try.prog 30 27 = some [.bool, .int .i64, .bool] := by kernel_rfl
theorem flatC : flat Try.prog 30 67 = some [.int .i64, .int .i64, .bool, .int .i64, .bool, .bool, .int .i64, .bool] := by kernel_rfl
theorem decW (cs : List Value) (h : FKs [.bool, .int .i64, .bool] cs) : ∃ w : W3, cs = [.bool w.1, .int .i64 w.2.1, .bool w.2.2] := by
  obtain ⟨_, _, rfl, ⟨a, rfl⟩, _, _, rfl, ⟨b, rfl, _⟩, _, _, rfl, ⟨c, rfl⟩, h⟩ := h
  cases h
  exact ⟨(a, b, c), rfl⟩
theorem decC (cs : List Value) (h : FKs [.int .i64, .int .i64, .bool, .int .i64, .bool, .bool, .int .i64, .bool] cs) : ∃ x : Cl, CC.enc .claim x = cs.map .v := by
  obtain ⟨_, _, rfl, ⟨a, rfl, _⟩, _, _, rfl, ⟨b, rfl, _⟩, _, _, rfl, ⟨c, rfl⟩, _, _, rfl, ⟨d, rfl, _⟩, _, _, rfl, ⟨e, rfl⟩, _, _, rfl, ⟨f, rfl⟩, _, _, rfl, ⟨g, rfl, _⟩, _, _, rfl, ⟨i, rfl⟩, h⟩ := h
  cases h
  exact ⟨(a, b, (c, d, e), (f, g, i)), rfl⟩

section
variable {H : Type} {enc : TypeId × Value → H} {w : World} {d : DataW H} {ps : List MemPlace} {v : Value}
theorem open_word (h : DataW.Trod enc Try.prog w 0 (fun _ => true) true 27 v d ps) : ∃ x : W3, ∀ π, Rep π (vW x) v := by
  obtain ⟨l, hl, rfl⟩ := flat_agg 30 flatW (by kernel_rfl) (by decide) h
  obtain ⟨x, rfl⟩ := decW l hl
  refine ⟨x, fun π => ?_⟩
  simp only [vW, Rep]
  exact ⟨_, rfl, RepL.cons (by simp [Rep]) (RepL.cons (by simp [Rep]) (RepL.cons (by simp [Rep]) (RepL.nil π)))⟩
set_option maxRecDepth 100000 in
theorem open_hearing (h : DataW.Trod enc Try.prog w 0 (fun _ => true) true 25 v d ps) :
    ∃ (x : HT) (p q : Place), bigH x ∧ (∀ π, BlkOk π w p (.ro (U := UU) .claim x.2.1)) ∧ (∀ π, BlkOk π w q (.ro (U := UU) .word x.2.2)) ∧ ∀ π : Plc, π 0 0 = some p → π 1 0 = some q → Rep π (vH x) v := by
  obtain ⟨fuel, h⟩ := h
  obtain ⟨xs, m, _, _, hl, hlen, hf⟩ := DataW.trod_struct Try.underlying25 h
  have hc : Try.prog.cellsOf 25 = 5 := by kernel_rfl
  have c3 : Try.prog.cellsOf 3 = 1 := by kernel_rfl
  have c22 : Try.prog.cellsOf 22 = 1 := by kernel_rfl
  have c23 : Try.prog.cellsOf 23 = 1 := by kernel_rfl
  have fl3 : flat Try.prog 30 3 = some [.int .i64] := by kernel_rfl
  rw [hc] at hl
  have hv := agg_of_cells (v := v) rfl (by omega)
  obtain ⟨l, hl2⟩ : ∃ l, v.cells.toList = l := ⟨_, rfl⟩
  rw [hl2] at hl hv hf
  subst hv
  have hx : ∀ i, i < 5 → ∃ y, xs[i]? = some y := fun i hi => ⟨_, List.getElem?_eq_getElem (by have : xs.length = 5 := hlen; omega)⟩
  match l, hl with
  | [a, b, c, e, g], _ =>
  obtain ⟨y0, e0⟩ := hx 0 (by omega)
  obtain ⟨y1, e1⟩ := hx 1 (by omega)
  obtain ⟨y2, e2⟩ := hx 2 (by omega)
  obtain ⟨y3, e3⟩ := hx 3 (by omega)
  obtain ⟨y4, e4⟩ := hx 4 (by omega)
  have f0 : DataW.trod enc Try.prog w 0 (fun _ => true) true m 3 (([a, b, c, e, g].drop 0).take (Try.prog.cellsOf 3)) = xs[0]? := hf 0 _ rfl
  have f1 : DataW.trod enc Try.prog w 0 (fun _ => true) true m 3 (([a, b, c, e, g].drop 1).take (Try.prog.cellsOf 3)) = xs[1]? := hf 1 _ rfl
  have f2 : DataW.trod enc Try.prog w 0 (fun _ => true) true m 3 (([a, b, c, e, g].drop 2).take (Try.prog.cellsOf 3)) = xs[2]? := hf 2 _ rfl
  have f3 : DataW.trod enc Try.prog w 0 (fun _ => true) true m 22 (([a, b, c, e, g].drop 3).take (Try.prog.cellsOf 22)) = xs[3]? := hf 3 _ rfl
  have f4 : DataW.trod enc Try.prog w 0 (fun _ => true) true m 23 (([a, b, c, e, g].drop 4).take (Try.prog.cellsOf 23)) = xs[4]? := hf 4 _ rfl
  rw [e0, c3] at f0
  rw [e1, c3] at f1
  rw [e2, c3] at f2
  rw [e3, c22] at f3
  rw [e4, c23] at f4
  obtain ⟨_, _, h0, ⟨n0, rfl, _⟩, r0⟩ := flat_ok 30 fl3 c3 f0
  obtain ⟨_, _, h1, ⟨n1, rfl, _⟩, r1⟩ := flat_ok 30 fl3 c3 f1
  obtain ⟨_, _, h2, ⟨n2, rfl, _⟩, r2⟩ := flat_ok 30 fl3 c3 f2
  have h0' : a = .int .i64 n0 := (List.cons.inj h0).1
  have h1' : b = .int .i64 n1 := (List.cons.inj h1).1
  have h2' : c = .int .i64 n2 := (List.cons.inj h2).1
  obtain ⟨cs, p, hcs, hp, hpr⟩ := row_of_trod (U := UU) CC.claim Try.underlying22 flatC (by kernel_rfl) rfl (by decide) decC f3
  obtain ⟨ks, q, hks, hq, hqr⟩ := row_of_trod (U := UU) CC.word Try.underlying23 flatW (by kernel_rfl) rfl (by decide) (fun cs h => by
    obtain ⟨x, rfl⟩ := decW cs h
    exact ⟨x, rfl⟩) f4
  refine ⟨((n0, n1, n2), cs, ks), p, q, ⟨hcs, hks⟩, hp, hq, fun π h3 h4 => ?_⟩
  subst h0' h1' h2'
  simp only [vH, Rep]
  exact ⟨_, rfl, RepL.cons (by simp [Rep]) (RepL.cons (by simp [Rep]) (RepL.cons (by simp [Rep]) (RepL.cons (hpr π 0 0 h3) (RepL.cons (hqr π 1 0 h4) (RepL.nil π)))))⟩
end
theorem own_hH (x : HT) : hH x = roH (U := UU) [⟨CC.claim, x.2.1⟩, ⟨CC.word, x.2.2⟩] := rfl
/-- A law that takes a hearing and more: its walk. -/
theorem walk_of {f : FuncId} {W : World} {args : Array Value} {x : HT} {p q : Place} {al : List AV} (h : FunOk Try.prog f al (hH x) (.val ⟨.b true, [], [], []⟩)) (hp : ∀ π, BlkOk π W p (.ro (U := UU) .claim x.2.1)) (hq : ∀ π, BlkOk π W q (.ro (U := UU) .word x.2.2))
    (hr : RepL (rosPlc [p, q]) al args.toList) : Calls Try.prog f args W fun e w' => e = .returned (.bool true) ∧ Keeps (fun _ => False) W w' := by
  have hc : Conc (rosPlc [p, q]) (hH x) W := roH_conc (U := UU) (bs := [⟨CC.claim, x.2.1⟩, ⟨CC.word, x.2.2⟩]) rfl fun i b p' hb hp' π => by
    match i with
    | 0 => cases hb; cases hp'; exact hp π
    | 1 => cases hb; cases hp'; exact hq π
    | i + 2 => cases hb
  have hF := h (rosPlc [p, q]) W args.toList (rosPlc_fresh [p, q]) hc hr
  refine hF.mono fun e w' hh => ?_
  obtain ⟨v, πn, rfl, hpo⟩ := hh
  have hb := rep_v hpo.rep
  subst hb
  refine ⟨rfl, hpo.keeps.weaken fun n _ hn => ?_⟩
  obtain ⟨id, k, p, b0, hu, _⟩ := hn
  rcases hu with ⟨b, hb⟩ | hb <;> cases hb
end AE.Pr
