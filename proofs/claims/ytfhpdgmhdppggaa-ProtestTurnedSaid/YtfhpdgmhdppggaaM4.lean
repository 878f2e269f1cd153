/- An own symbolic executor for the model's code, and what the functions beneath the law compute, joined out of: PsD, PrI, PrJ, PrK, PrL, PsF, PsG, PtM, PtB0, PtF1, PrE, PrO, PrP. No condition. -/
import Derived.Test.YtfhpdgmhdppggaaM3

namespace AE.Pr
open Go AE Go.Proofs

/-! ### Every -/
def everyRS : FSpec UU where
  X := Int
  pick := fun args _ => match args with
    | [.agg [_, a, _, _, _]] => avInt a
    | _ => none
  args := fun (x : Int) => [.agg [.junk, .i x, .junk, .junk, .junk]]
  H := fun _ => []
  R := fun (x : Int) => .val ⟨.i (everyM x.toNat), [], [], []⟩
  pre := fun (x : Int) => 0 ≤ x ∧ x ≤ 6
theorem everyP (n : Nat) (h : n ≤ 6) : everyM n = ((2 ^ n : Nat) : Int) - 1 := by
  have : ∀ n : Fin 7, everyM n.val = ((2 ^ n.val : Nat) : Int) - 1 := by decide +kernel
  exact this ⟨n, by omega⟩
set_option maxRecDepth 100000 in
theorem everyR_ok : ∀ x, everyRS.pre x → FunOk Try.prog 40 (everyRS.args x) (everyRS.H x) (everyRS.R x) := by
  intro (x : Int) hx
  obtain ⟨n, rfl⟩ := Int.eq_ofNat_of_zero_le hx.1
  refine fun_of (T := Tpower) (L := fun _ => none) (hs := fun _ => []) hmix Tpower_ok Try.func40 (by kernel_rfl) (by kernel_rfl) ?_
  refine Eq.mp (α :=
      let Z0 := (↑n : Int); let Z2 := Value.int IntKind.i64 Z0; ((0 : Int) ≤ Z0 ∧ Z0 ≤ (40 : Int)) ∧ (Z2 = Z2 ∧ True) ∧ True ∧ True ∧ (Value.int IntKind.i64 (IntKind.wrap IntKind.i64 ((↑(nat_lit 2 ^ Int.toNat Z0) : Int) - (1 : Int))) = Value.int IntKind.i64 (everyM (Int.toNat Z0)) ∧ True) ∧ True ∧ True)
    (by kernel_rfl) ?_
  simp only [eq_self, true_and, and_true, Int.toNat_natCast, Nat.zero_add, Nat.sub_zero, Value.int.injEq, Value.bool.injEq, decide_eq_true_eq, decide_eq_false_iff_not]
  have h6 : n ≤ 6 := by have := hx.2; omega
  have h1 := pow64 n h6
  have h2 := Nat.pow_pos (n := n) (show 0 < 2 by decide)
  rw [everyP n h6]
  generalize 2 ^ n = m at *
  exact ⟨⟨by omega, by omega⟩, wrap_id (by omega) (by omega)⟩

theorem everyR_sound : Sound Try.prog 40 everyRS.con := FSpec.sound _ (enter_of Try.func40 (by kernel_rfl) (by kernel_rfl)) everyR_ok

/-! ### Count -/
def TcountR : Tab UU := [(39, isHearingS.con), (40, everyRS.con), (52, allRS.con)]
theorem TcountR_ok : TcountR.Sound Try.prog := .cons hearR_sound (.cons everyR_sound (.cons allR_sound .nil))
def countRS : FSpec UU where
  X := HT
  pick := fun args H => match args with
    | [a] => avH H a
    | _ => none
  args := fun x => [vH x]
  H := fun x => hH x
  R := fun x => .val ⟨.tup [.i (countM x).1, .i (countM x).2], [], [], []⟩
  pre := fun x => okH x
set_option maxHeartbeats 0 in
set_option maxRecDepth 100000 in
theorem countR_ok : ∀ x, countRS.pre x → FunOk Try.prog 15 (countRS.args x) (countRS.H x) (countRS.R x) := by
  rintro ⟨⟨f, w, li⟩, cs, ks⟩ hl
  refine fun_of (T := TcountR) (L := fun _ => none) (hs := fun _ => []) hmix TcountR_ok Try.func15 (by kernel_rfl) (by kernel_rfl) ?_
  refine Eq.mp (α :=
      let Z1 := List.length ks; let Z2 := List.length cs; let Z4 := Value.int IntKind.i64 li; let Z5 := everyM (Int.toNat w); let Z6 := Value.int IntKind.i64 w; let Z7 := Value.int IntKind.i64 f; let Z8 := (0 : Int); let Z12 := Value.int IntKind.i64 Z5; let Z17 := Value.int IntKind.i64 Z8; let Z18 := Z6 = Z6; let Z25 := cs = cs ∧ ks = ks ∧ True; let Z28 := ((f, w, li), cs, ks); let Z35 := Value.int IntKind.i64 (Prod.fst (countM Z28)); let Z36 := Value.int IntKind.i64 (Prod.snd (countM Z28)); (Z2 < nat_lit 1000 ∧ Z1 < nat_lit 1000) ∧ ((Z7 = Z7 ∧ Z18 ∧ Z4 = Z4 ∧ (nat_lit 0 = nat_lit 0 ∧ nat_lit 0 = nat_lit 0 ∧ Z2 = Z2) ∧ (nat_lit 0 = nat_lit 0 ∧ nat_lit 0 = nat_lit 0 ∧ Z1 = Z1) ∧ True) ∧ True) ∧ Z25 ∧ ((!hearM Z28) = true → True ∧ ((Z17 = Z35 ∧ Value.int IntKind.i64 (1 : Int) = Z36 ∧ True) ∧ True) ∧ True ∧ Z25) ∧ ((!hearM Z28) = false → (Z8 ≤ w ∧ w ≤ (6 : Int)) ∧ ((True ∧ Z18 ∧ True ∧ True ∧ True ∧ True) ∧ True) ∧ True ∧ (HearOk Z28 ∧ Z8 ≤ Z5 ∧ Z5 < (64 : Int)) ∧ ((Z7 = Z7 ∧ Z18 ∧ Z4 = Z4 ∧ (nat_lit 0 = nat_lit 0 ∧ nat_lit 0 = nat_lit 0 ∧ Z2 = Z2) ∧ (nat_lit 0 = nat_lit 0 ∧ nat_lit 0 = nat_lit 0 ∧ Z1 = Z1) ∧ True) ∧ Z12 = Z12 ∧ True) ∧ Z25 ∧ True ∧ ((Value.int IntKind.i64 (↑(List.length (allM (rtM Z28) Z5)) : Int) = Z35 ∧ Z17 = Z36 ∧ True) ∧ True) ∧ True ∧ Z25))
    (by kernel_rfl) ?_
  simp only [eq_self, true_and, and_true, Int.toNat_natCast, Nat.zero_add, Nat.sub_zero, Value.int.injEq, Value.bool.injEq, decide_eq_true_eq, decide_eq_false_iff_not]
  refine ⟨hl, fun h => ?_, fun h => ?_⟩
  · have hh : hearM ((f, w, li), cs, ks) = false := by simpa using h
    simp [countM, hh]
  · have hh : hearM ((f, w, li), cs, ks) = true := by simpa using h
    have hk := hear_ok hh
    refine ⟨hk.w, ⟨hk, everyB w.toNat (by have := hk.w; simp only at this; omega)⟩, ?_, ?_⟩
    · simp only [countM, hh, if_true]; rfl
    · simp [countM, hh]

theorem countR_sound : Sound Try.prog 15 countRS.con := FSpec.sound _ (enter_of Try.func15 (by kernel_rfl) (by kernel_rfl)) countR_ok

/-! ### open -/
def openRErrM (x : HT) (b : Bool) : Int := if hearM x then (if b then 10 else 2) else 1
def openRS : FSpec2 UU where
  X := HT × Bool
  pick := fun args H => match args with
    | [a, b] => match avH H a, avBool b with
      | some a, some b => some (a, b)
      | _, _ => none
    | _ => none
  args := fun x => [vH x.1, .v (.bool x.2)]
  H := fun x => hH x.1
  c := fun x => hearM x.1 && x.2 && decide (((allH x.1).length : Int) > 0)
  R := fun x => .val ⟨.tup [.gs 2 0, .i 0], [], [], [.row .rtruth (allH x.1) 48]⟩
  R' := fun x => .val ⟨.tup [.v (.slice none 0 0), .i (openRErrM x.1 x.2)], [], [], []⟩
  pre := fun x => okH x.1
set_option maxHeartbeats 0 in
set_option maxRecDepth 100000 in
theorem openR_ok1 : ∀ x, openRS.pre x → openRS.c x = true → FunOk Try.prog 58 (openRS.args x) (openRS.H x) (openRS.R x) := by
  rintro ⟨⟨⟨f, w, li⟩, cs, ks⟩, b⟩ hl hc
  refine fun_of (T := TcountR) (L := fun _ => none) (hs := fun _ => []) hmix TcountR_ok Try.func58 (by kernel_rfl) (by kernel_rfl) ?_
  refine Eq.mp (α :=
      let Z1 := True ∧ True; let Z3 := List.length cs; let Z4 := List.length ks; let Z6 := Value.int IntKind.i64 li; let Z7 := everyM (Int.toNat w); let Z8 := Value.int IntKind.i64 w; let Z9 := Value.int IntKind.i64 f; let Z10 := (0 : Int); let Z11 := nat_lit 0 = nat_lit 0 ∧ Z1; let Z14 := ks = ks; let Z16 := cs = cs; let Z17 := (48 : TypeId); let Z19 := Value.int IntKind.i64 Z7; let Z24 := Value.int IntKind.i64 Z10; let Z26 := Z8 = Z8; let Z31 := Value.slice none (nat_lit 0) (nat_lit 0) = Value.slice none (nat_lit 0) (nat_lit 0); let Z38 := ((f, w, li), cs, ks); let Z47 := truthsM Z38 Z7 = []; let Z53 := (↑(List.length (allM (rtM Z38) Z7)) : Int) == Z10; (Z3 < nat_lit 1000 ∧ Z4 < nat_lit 1000) ∧ ((Z9 = Z9 ∧ Z26 ∧ Z6 = Z6 ∧ (nat_lit 0 = nat_lit 0 ∧ nat_lit 0 = nat_lit 0 ∧ Z3 = Z3) ∧ (nat_lit 0 = nat_lit 0 ∧ nat_lit 0 = nat_lit 0 ∧ Z4 = Z4) ∧ True) ∧ True) ∧ (Z16 ∧ Z14 ∧ True) ∧ ((!hearM Z38) = true → True ∧ (Z11 ∧ True) ∧ (True ∧ True ∧ Z47 ∧ True) ∧ ((Z31 ∧ Value.int IntKind.i64 (1 : Int) = Z24 ∧ True) ∧ True) ∧ True ∧ Z16 ∧ Z14 ∧ Z1) ∧ ((!hearM Z38) = false → ((!b) = true → True ∧ (Z11 ∧ True) ∧ (True ∧ True ∧ Z47 ∧ True) ∧ ((Z31 ∧ Value.int IntKind.i64 (2 : Int) = Z24 ∧ True) ∧ True) ∧ True ∧ Z16 ∧ Z14 ∧ Z1) ∧ ((!b) = false → (Z10 ≤ w ∧ w ≤ (6 : Int)) ∧ ((True ∧ Z26 ∧ True ∧ True ∧ Z1) ∧ True) ∧ True ∧ (HearOk Z38 ∧ Z10 ≤ Z7 ∧ Z7 < (64 : Int)) ∧ ((Z9 = Z9 ∧ Z26 ∧ Z6 = Z6 ∧ (nat_lit 0 = nat_lit 0 ∧ nat_lit 0 = nat_lit 0 ∧ Z3 = Z3) ∧ (nat_lit 0 = nat_lit 0 ∧ nat_lit 0 = nat_lit 0 ∧ Z4 = Z4) ∧ True) ∧ Z19 = Z19 ∧ True) ∧ (Z16 ∧ Z14 ∧ True) ∧ (Z53 = true → True ∧ (Z11 ∧ True) ∧ (True ∧ True ∧ Z47 ∧ True) ∧ ((Z31 ∧ Value.int IntKind.i64 (10 : Int) = Z24 ∧ True) ∧ True) ∧ True ∧ Z16 ∧ Z14 ∧ Z1) ∧ (Z53 = false → True ∧ ((nat_lit 0 = nat_lit 0 ∧ Z24 = Z24 ∧ True) ∧ True) ∧ True ∧ Z16 ∧ Z14 ∧ (Z17 = Z17 ∧ allM (rtM Z38) Z7 = truthsM Z38 Z7) ∧ True))))
    (by kernel_rfl) ?_
  simp only [eq_self, true_and, and_true, Int.toNat_natCast, Nat.zero_add, Nat.sub_zero, Value.int.injEq, Value.bool.injEq, decide_eq_true_eq, decide_eq_false_iff_not]
  simp only [openRS, Bool.and_eq_true, decide_eq_true_eq] at hl hc
  obtain ⟨⟨hh, hb⟩, hp⟩ := hc
  have hk := hear_ok hh
  refine ⟨hl, fun h => (by rw [hh] at h; cases h), fun _ => ⟨fun h => (by rw [hb] at h; cases h), fun _ => ⟨hk.w, ⟨hk, everyB w.toNat (by have := hk.w; simp only at this; omega)⟩, fun h => ?_, fun _ => rfl⟩⟩⟩
  have h1 : (((allH ((f, w, li), cs, ks)).length : Int) == 0) = true := h
  have h2 := eq_of_beq h1
  have h3 : ((allH ((f, w, li), cs, ks)).length : Int) > 0 := hp
  omega

set_option maxHeartbeats 0 in
set_option maxRecDepth 100000 in
theorem openR_ok2 : ∀ x, openRS.pre x → openRS.c x = false → FunOk Try.prog 58 (openRS.args x) (openRS.H x) (openRS.R' x) := by
  rintro ⟨⟨⟨f, w, li⟩, cs, ks⟩, b⟩ hl hc
  refine fun_of (T := TcountR) (L := fun _ => none) (hs := fun _ => []) hmix TcountR_ok Try.func58 (by kernel_rfl) (by kernel_rfl) ?_
  refine Eq.mp (α :=
      let Z2 := List.length cs; let Z3 := List.length ks; let Z5 := Value.int IntKind.i64 li; let Z6 := everyM (Int.toNat w); let Z7 := Value.int IntKind.i64 f; let Z8 := Value.int IntKind.i64 w; let Z9 := (0 : Int); let Z11 := ks = ks; let Z13 := cs = cs; let Z14 := Value.int IntKind.i64 Z6; let Z21 := Z8 = Z8; let Z24 := Value.slice none (nat_lit 0) (nat_lit 0) = Value.slice none (nat_lit 0) (nat_lit 0); let Z29 := True ∧ Z13 ∧ Z11 ∧ True; let Z30 := ((f, w, li), cs, ks); let Z36 := Value.int IntKind.i64 (openRErrM Z30 b); let Z42 := (↑(List.length (allM (rtM Z30) Z6)) : Int) == Z9; (Z2 < nat_lit 1000 ∧ Z3 < nat_lit 1000) ∧ ((Z7 = Z7 ∧ Z21 ∧ Z5 = Z5 ∧ (nat_lit 0 = nat_lit 0 ∧ nat_lit 0 = nat_lit 0 ∧ Z2 = Z2) ∧ (nat_lit 0 = nat_lit 0 ∧ nat_lit 0 = nat_lit 0 ∧ Z3 = Z3) ∧ True) ∧ True) ∧ (Z13 ∧ Z11 ∧ True) ∧ ((!hearM Z30) = true → True ∧ ((Z24 ∧ Value.int IntKind.i64 (1 : Int) = Z36 ∧ True) ∧ True) ∧ Z29) ∧ ((!hearM Z30) = false → ((!b) = true → True ∧ ((Z24 ∧ Value.int IntKind.i64 (2 : Int) = Z36 ∧ True) ∧ True) ∧ Z29) ∧ ((!b) = false → (Z9 ≤ w ∧ w ≤ (6 : Int)) ∧ ((True ∧ Z21 ∧ True ∧ True ∧ True ∧ True) ∧ True) ∧ True ∧ (HearOk Z30 ∧ Z9 ≤ Z6 ∧ Z6 < (64 : Int)) ∧ ((Z7 = Z7 ∧ Z21 ∧ Z5 = Z5 ∧ (nat_lit 0 = nat_lit 0 ∧ nat_lit 0 = nat_lit 0 ∧ Z2 = Z2) ∧ (nat_lit 0 = nat_lit 0 ∧ nat_lit 0 = nat_lit 0 ∧ Z3 = Z3) ∧ True) ∧ Z14 = Z14 ∧ True) ∧ (Z13 ∧ Z11 ∧ True) ∧ (Z42 = true → True ∧ ((Z24 ∧ Value.int IntKind.i64 (10 : Int) = Z36 ∧ True) ∧ True) ∧ Z29) ∧ (Z42 = false → True ∧ ((False ∧ Value.int IntKind.i64 Z9 = Z36 ∧ True) ∧ True) ∧ Z29))))
    (by kernel_rfl) ?_
  simp only [eq_self, true_and, and_true, Int.toNat_natCast, Nat.zero_add, Nat.sub_zero, Value.int.injEq, Value.bool.injEq, decide_eq_true_eq, decide_eq_false_iff_not]
  simp only [openRS] at hl hc
  refine ⟨hl, fun h => ?_, fun h => ⟨fun hb => ?_, fun hb => ?_⟩⟩
  · have hh : hearM ((f, w, li), cs, ks) = false := by simpa using h
    simp [openRErrM, hh]
  · have hh : hearM ((f, w, li), cs, ks) = true := by simpa using h
    have hb' : b = false := by simpa using hb
    simp [openRErrM, hh, hb']
  · have hh : hearM ((f, w, li), cs, ks) = true := by simpa using h
    have hb' : b = true := by simpa using hb
    have hk := hear_ok hh
    rw [hh, hb'] at hc
    have hc' : ¬ ((allH ((f, w, li), cs, ks)).length : Int) > 0 := by simpa using hc
    refine ⟨hk.w, ⟨hk, everyB w.toNat (by have := hk.w; simp only at this; omega)⟩, fun h => ?_, fun h => ?_⟩
    · simp [openRErrM, hh, hb']
    · have h1 : (((allH ((f, w, li), cs, ks)).length : Int) == 0) = false := h
      have h2 := beq_eq_false_iff_ne.1 h1
      omega

theorem openR_sound : Sound Try.prog 58 openRS.con := FSpec2.sound _ (enter_of Try.func58 (by kernel_rfl) (by kernel_rfl)) fun x h => ⟨openR_ok1 x h, openR_ok2 x h⟩

/-! ### Rule -/
def numRM (l : List (Int × Int)) (w : W3) : Nat := (l.filter fun t => rightM t w).length
theorem num_take (l : List (Int × Int)) (w : W3) (i : Nat) (h : i < l.length) : numRM (l.take (i + 1)) w = numRM (l.take i) w + (if rightM (l.getD i (0, 0)) w then 1 else 0) := by
  unfold numRM
  rw [take_snoc l i h (0, 0), List.filter_append, List.length_append]
  generalize l.getD i (0, 0) = t
  cases h0 : rightM t w <;> simp [h0]
theorem num_le (l : List (Int × Int)) (w : W3) : numRM l w ≤ l.length := List.length_filter_le _ _
def ruleRL (x : HT) (w : W3) (l : List (Int × Int)) : LSpec UU where
  T := { i : Nat // i ≤ l.length }
  fr := fun i => [(3, .ptr 3 0 0 0), (6, .gs 4 0), (8, .i (numRM (l.take i.1) w)), (9, .i i.1)]
  H := fun _ => hH x ++ [.one (boxM x), wBox w, .one (.row .rtruth l 48)]
  mu := fun i => l.length - i.1
def TruleR : Tab UU := [(42, isWordS.con), (58, openRS.con), (38, rightRS.con)]
theorem TruleR_ok : TruleR.Sound Try.prog := .cons wordR_sound (.cons openR_sound (.cons rightR_sound .nil))
set_option maxHeartbeats 0 in
set_option maxRecDepth 100000 in
theorem ruleR_ok : ∀ x, ruleS.pre x → FunOk Try.prog 21 (ruleS.args x) (ruleS.H x) (ruleS.R x) := by
  rintro ⟨⟨⟨f, w, li⟩, cs, ks⟩, ⟨p, n, q⟩⟩ hl
  refine fun_of (T := TruleR) (L := fun _ => some (.inv (ruleRL ((f, w, li), cs, ks) (p, n, q) (allH ((f, w, li), cs, ks))))) (hs := fun _ => []) hmix TruleR_ok Try.func21 (by kernel_rfl) (by kernel_rfl) ?_
  refine Eq.mp (α :=
      let Z0 := Int.toNat w; let Z1 := Value.bool q; let Z2 := True ∧ True; let Z3 := Value.bool p; let Z4 := List.length cs; let Z5 := List.length ks; let Z6 := (w, li); let Z7 := (n, q); let Z8 := Value.int IntKind.i64 n; let Z9 := Value.int IntKind.i64 f; let Z10 := everyM Z0; let Z11 := Value.int IntKind.i64 w; let Z12 := True ∧ Z2; let Z13 := Value.int IntKind.i64 li; let Z14 := nat_lit 0 = nat_lit 0 ∧ nat_lit 0 = nat_lit 0; let Z15 := (0 : Int); let Z16 := (6 : Int); let Z17 := (2 : Int); let Z18 := (1 : Int); let Z19 := (64 : Int); let Z20 := Value.slice none (nat_lit 0) (nat_lit 0); let Z21 := True ∧ Z12; let Z22 := ks = ks; let Z23 := (48 : TypeId); let Z24 := cs = cs; let Z25 := (cs, ks); let Z26 := Z1 = Z1; let Z27 := Z3 = Z3; let Z28 := nat_lit 0 = nat_lit 0 ∧ Z14; let Z29 := Z22 ∧ True; let Z30 := Z26 ∧ True; let Z31 := Z5 = Z5; let Z32 := Z4 = Z4; let Z33 := (f, Z6); let Z34 := Value.int IntKind.i64 Z17; let Z35 := Value.int IntKind.i64 Z18; let Z36 := Value.int IntKind.i64 Z15; let Z37 := (p, Z7); let Z38 := n < Z16; let Z39 := Z15 ≤ n; let Z40 := Z9 = Z9; let Z41 := Z11 = Z11; let Z42 := Z13 = Z13; let Z43 := Z8 = Z8; let Z44 := nat_lit 0 = nat_lit 0 ∧ Z31; let Z45 := nat_lit 0 = nat_lit 0 ∧ Z32; let Z46 := wordM f w Z37; let Z47 := (Z15, Z15); let Z48 := Value.bool Z46; let Z49 := nat_lit 0 = nat_lit 0 ∧ Z44; let Z50 := nat_lit 0 = nat_lit 0 ∧ Z45; let Z51 := Z23 = Z23; let Z52 := Z24 ∧ Z29; let Z53 := Z49 ∧ True; let Z54 := True ∧ Z52; let Z55 := Z43 ∧ Z30; let Z56 := Z15 != Z15; let Z57 := Z39 ∧ Z38; let Z58 := (Z33, Z25); let Z59 := Z27 ∧ Z55; let Z60 := allH Z58; let Z61 := hearM Z58; let Z62 := Z59 ∧ True; let Z63 := Z48 = Z48; let Z64 := Z63 ∧ True; let Z65 := Z50 ∧ Z53; let Z66 := List.length Z60; let Z67 := truthsM Z58 Z10; let Z68 := fun (i : Nat) => i ≤ Z66; let Z69 := List.length Z67; let Z70 := ruleM Z58 Z37; let Z71 := List.length Z67; let Z72 : Type := { i : Nat // Z68 i }; let Z73 := Prod.snd Z70; let Z74 := Prod.fst Z70; let Z75 := openRErrM Z58 Z46; let Z76 := fun (x : Z72) => Subtype.val x; let Z77 := Z61 && Z46; let Z78 := (↑Z69 : Int); let Z79 := Z42 ∧ Z65; let Z80 := (↑Z71 : Int); let Z81 := Value.int IntKind.i64 Z74; let Z82 := Value.int IntKind.i64 Z73; let Z83 := fun (x : Z72) => (↑(Z76 x) : Int); let Z84 := fun (t : Z72) => Int.toNat (Z83 t); let Z85 := fun (x : Z72) => Value.int IntKind.i64 (Z83 x); let Z86 := Z78 > Z15; let Z87 := Z41 ∧ Z79; let Z88 := Z36 = Z81; let Z89 := Z34 = Z81; let Z90 := Z35 = Z81; let Z91 := Z36 = Z82; let Z92 := Z75 != Z15; let Z93 := fun (t : Z72) => Z15 ≤ Z83 t; let Z94 := fun (t : Z72) => nat_lit 0 + Z84 t; let Z95 := Z91 ∧ True; let Z96 := fun (t : Z72) => Z83 t + Z18; let Z97 := fun (x : Z72) => Z36 = Z85 x; let Z98 := fun (x : Z72) => Z97 x ∧ True; let Z99 := fun (t : Z72) => IntKind.wrap IntKind.i64 (Z96 t); let Z100 := Z40 ∧ Z87; let Z101 := fun (t : Z72) => Value.int IntKind.i64 (Z99 t); let Z102 := Z67 = Z67; let Z103 := fun (x : Z72) => List.take (Z76 x) Z67; let Z104 := fun (x : Z72) => Z69 - Z76 x; let Z105 := Z51 ∧ Z102; let Z106 := Z105 ∧ True; let Z107 := fun (x : Z72) => numRM (Z103 x) Z37; let Z108 := fun (t : Z72) => Z83 t < Z80; let Z109 := fun (x : Z72) => (↑(Z107 x) : Int); let Z110 := fun (x : Z72) => Value.int IntKind.i64 (Z109 x); let Z111 := Z100 ∧ Z64; let Z112 := fun (t : Z72) => Z94 t < Z71; let Z113 := fun (t : Z72) => Z109 t + Z18; let Z114 := fun (t : Z72) => List.getD Z67 (Z94 t) Z47; let Z115 := fun (x : Z72) => Z36 = Z110 x; let Z116 := fun (t : Z72) => Z109 t == Z15; let Z117 := fun (t : Z72) => Prod.snd (Z114 t); let Z118 := fun (t : Z72) => Prod.fst (Z114 t); let Z119 := fun (t : Z72) => IntKind.wrap IntKind.i64 (Z113 t); let Z120 := fun (t : Z72) => Z116 t = true; let Z121 := fun (t : Z72) => Z116 t = false; let Z122 := Z88 ∧ Z95; let Z123 := Z90 ∧ Z95; let Z124 := Z89 ∧ Z95; let Z125 := Z124 ∧ True; let Z126 := Z123 ∧ True; let Z127 := Z122 ∧ True; let Z128 := fun (t : Z72) => Value.int IntKind.i64 (Z117 t); let Z129 := fun (t : Z72) => Value.int IntKind.i64 (Z118 t); let Z130 := fun (t : Z72) => Value.int IntKind.i64 (Z119 t); let Z131 := Z59 ∧ Z106; let Z132 := fun (t x : Z72) => Z101 t = Z85 x; let Z133 := fun (t : Z72) => rightM (Z114 t) Z37; let Z134 := fun (t : Z72) => Z15 ≤ Z117 t; let Z135 := fun (t : Z72) => Z15 ≤ Z118 t; let Z136 := fun (t : Z72) => Z118 t < Z19; let Z137 := fun (t x : Z72) => Z132 t x ∧ True; let Z138 := fun (t : Z72) => Z117 t < Z19; let Z139 := fun (t : Z72) => Z133 t = true; let Z147 := fun (t : Z72) => Z109 t == Z80; let Z153 := fun (t : Z72) => decide (Z108 t); let Z186 := fun (t : Z72) => ∃ (x : Z72), ((Z28 ∧ nat_lit 0 = nat_lit 0 ∧ Z110 t = Z110 x ∧ Z137 t x) ∧ True ∧ Z24 ∧ Z22 ∧ Z100 ∧ Z131) ∧ Z104 x < Z104 t; let Z188 := fun (t : Z72) => ∃ (x : Z72), ((Z28 ∧ nat_lit 0 = nat_lit 0 ∧ Z130 t = Z110 x ∧ Z137 t x) ∧ True ∧ Z24 ∧ Z22 ∧ Z100 ∧ Z131) ∧ Z104 x < Z104 t; let Z194 := decide Z86; True ∧ ((Z40 ∧ Z41 ∧ Z21) ∧ Z62) ∧ True ∧ (Z4 < nat_lit 1000 ∧ Z5 < nat_lit 1000) ∧ ((Z77 && Z194) = true → Z111 ∧ Z52 ∧ (Z56 = true → True ∧ Z127 ∧ Z54) ∧ (Z56 = false → (∃ (x : Z72), (Z28 ∧ nat_lit 0 = nat_lit 0 ∧ Z115 x ∧ Z98 x) ∧ True ∧ Z24 ∧ Z22 ∧ Z100 ∧ Z131) ∧ ∀ (t : Z72), (Z153 t = true → (Z93 t ∧ Z108 t) ∧ Z112 t ∧ (((Z135 t ∧ Z136 t) ∧ Z134 t ∧ Z138 t) ∧ Z57) ∧ ((Z129 t = Z129 t ∧ Z128 t = Z128 t ∧ True) ∧ Z62) ∧ True ∧ (Z139 t → True ∧ Z188 t) ∧ (Z133 t = false → True ∧ Z186 t)) ∧ (Z153 t = false → (Z147 t = true → True ∧ Z125 ∧ Z54) ∧ (Z147 t = false → (Z120 t → True ∧ Z127 ∧ Z54) ∧ (Z121 t → True ∧ Z126 ∧ Z54))))) ∧ ((Z77 && Z194) = false → Z111 ∧ Z52 ∧ (Z92 = true → True ∧ ((Z88 ∧ Value.int IntKind.i64 Z75 = Z82 ∧ True) ∧ True) ∧ Z54) ∧ (Z92 = false → (∃ (x : Z72), (True ∧ nat_lit 0 = nat_lit 0 ∧ Z12) ∧ (True ∧ True ∧ (True ∧ True ∧ Z21) ∧ Z21 ∧ Z67 = [] ∧ True) ∧ (Z28 ∧ Z20 = Z20 ∧ Z115 x ∧ Z98 x) ∧ True ∧ Z24 ∧ Z22 ∧ Z100 ∧ Z59 ∧ Z2) ∧ ∀ (t : Z72), (Z153 t = true → (Z93 t ∧ Z108 t) ∧ Z112 t ∧ (((Z135 t ∧ Z136 t) ∧ Z134 t ∧ Z138 t) ∧ Z57) ∧ ((Z129 t = Z129 t ∧ Z128 t = Z128 t ∧ True) ∧ Z62) ∧ True ∧ (Z139 t → True ∧ Z188 t) ∧ (Z133 t = false → True ∧ Z186 t)) ∧ (Z153 t = false → (Z147 t = true → True ∧ Z125 ∧ Z54) ∧ (Z147 t = false → (Z120 t → True ∧ Z127 ∧ Z54) ∧ (Z121 t → True ∧ Z126 ∧ Z54))))))
    (by kernel_rfl) ?_
  simp only [eq_self, true_and, and_true, Int.toNat_natCast, Nat.zero_add, Nat.sub_zero, Value.int.injEq, Value.bool.injEq, decide_eq_true_eq, decide_eq_false_iff_not]
  have hA : truthsM ((f, w, li), cs, ks) (everyM w.toNat) = allH ((f, w, li), cs, ks) := rfl
  simp only [hA]
  refine ⟨hl, fun hc => ?_, fun hc => ?_⟩
  · simp only [Bool.and_eq_true, decide_eq_true_eq] at hc
    obtain ⟨⟨hh, hwd⟩, hp⟩ := hc
    have hk := hear_ok hh
    have hx := rt_ok hk
    have hok : ∀ t ∈ allH ((f, w, li), cs, ks), okT t := fun t ht => (mem_allM hx ht).1
    have hlen : (allH ((f, w, li), cs, ks)).length ≤ 5000 := preM_length _ hx _ _ _ (pow_le hx.f) (by decide)
    have hW6 : okW (p, n, q) := okW_of hk.f hk.w hwd
    have hr : ruleM ((f, w, li), cs, ks) (p, n, q) = (verdictM (allH ((f, w, li), cs, ks)) (p, n, q), 0) := by
      unfold ruleM; rw [if_pos (by rw [Bool.and_eq_true]; exact ⟨hh, hwd⟩), if_pos hp]
    rw [hr]
    generalize allH ((f, w, li), cs, ks) = A at *
    have hsu : ∀ i : Nat, i < 6000 → IntKind.i64.wrap ((i : Int) + 1) = ((i + 1 : Nat) : Int) := fun i hi => by rw [wrap_id (by omega) (by omega)]; rfl
    refine ⟨fun h => (by cases h), fun _ => ⟨⟨⟨0, Nat.zero_le _⟩, rfl, rfl⟩, fun t => ⟨fun ht => ?_, fun ht => ?_⟩⟩⟩
    · obtain ⟨t, htl⟩ := t
      have hlt : t < A.length := by have h0 : (t : Int) < A.length := ht; omega
      have hmem : A.getD t (0, 0) ∈ A := by rw [List.getD_eq_getElem?_getD, List.getElem?_eq_getElem hlt]; exact List.getElem_mem hlt
      have hn := num_take A (p, n, q) t hlt
      have hle := num_le (A.take t) (p, n, q)
      rw [List.length_take] at hle
      refine ⟨⟨by show (0 : Int) ≤ (t : Int); omega, ht⟩, hlt, ⟨hok _ hmem, hW6⟩, fun hr => ?_, fun hr => ?_⟩
      · rw [if_pos hr] at hn
        refine ⟨⟨t + 1, hlt⟩, ⟨?_, hsu t (by omega)⟩, dec1 hlt⟩
        show _ = ((numRM (A.take (t + 1)) (p, n, q) : Nat) : Int)
        rw [hn]; exact hsu (numRM (A.take t) (p, n, q)) (by omega)
      · have hr' : ¬ rightM (A.getD t (0, 0)) (p, n, q) = true := by
          have hr2 : rightM (A.getD t (0, 0)) (p, n, q) = false := hr
          rw [hr2]; decide
        rw [if_neg hr'] at hn
        refine ⟨⟨t + 1, hlt⟩, ⟨?_, hsu t (by omega)⟩, dec1 hlt⟩
        show _ = ((numRM (A.take (t + 1)) (p, n, q) : Nat) : Int)
        rw [hn]; rfl
    · have hta : t.1 = A.length := by
        have := t.2
        omega
      rw [hta, List.take_length]
      have h1 : (numRM A (p, n, q) = A.length) ↔ wrongsM A (p, n, q) = false := by
        unfold numRM wrongsM
        rw [List.length_filter_eq_length_iff, List.any_eq_false]
        simp
      have h2 : (numRM A (p, n, q) = 0) ↔ rightsM A (p, n, q) = false := by
        unfold numRM rightsM
        rw [List.length_eq_zero_iff, List.filter_eq_nil_iff, List.any_eq_false]
      have hmore : wrongsM A (p, n, q) = false → rightsM A (p, n, q) = true := fun h => by
        cases hrr : rightsM A (p, n, q) with
        | true => rfl
        | false =>
          have := h1.2 h
          have := h2.2 hrr
          omega
      refine ⟨fun h => ?_, fun h => ⟨fun h3 => ?_, fun h3 => ?_⟩⟩
      · have e : numRM A (p, n, q) = A.length := by have := eq_of_beq h; exact_mod_cast this
        simp [verdictM, h1.1 e, hmore (h1.1 e)]
      · have e : numRM A (p, n, q) = 0 := by have := eq_of_beq h3; exact_mod_cast this
        have e2 : wrongsM A (p, n, q) = true := by
          cases hw : wrongsM A (p, n, q) with
          | true => rfl
          | false => have := hmore hw; rw [h2.1 e] at this; cases this
        simp [verdictM, h2.1 e, e2]
      · have e : ¬ numRM A (p, n, q) = A.length := fun e => by rw [e] at h; simp at h
        have e0 : ¬ numRM A (p, n, q) = 0 := fun e => by rw [e] at h3; simp at h3
        have a1 : wrongsM A (p, n, q) = true := by
          cases hw : wrongsM A (p, n, q) with
          | true => rfl
          | false => exact absurd (h1.2 hw) e
        have a2 : rightsM A (p, n, q) = true := by
          cases hw : rightsM A (p, n, q) with
          | true => rfl
          | false => exact absurd (h2.2 hw) e0
        simp [verdictM, a1, a2]
  · have hne : openRErrM ((f, w, li), cs, ks) (wordM f w (p, n, q)) ≠ 0 := by
      unfold openRErrM; split <;> (try split) <;> decide
    refine ⟨fun _ => ?_, fun h => absurd (by simpa using h) hne⟩
    unfold ruleM openRErrM openErrM
    cases hh : hearM ((f, w, li), cs, ks) <;> cases hw : wordM f w (p, n, q) <;> simp only [hh, hw, Bool.and_true, Bool.true_and, Bool.and_false, Bool.false_and] at hc ⊢ <;> simp
    have hc' : ¬ ((allH ((f, w, li), cs, ks)).length : Int) > 0 := by simpa using hc
    have h0 : allH ((f, w, li), cs, ks) = [] := List.eq_nil_of_length_eq_zero (by omega)
    simp [h0]

theorem ruleR_sound : Sound Try.prog 21 ruleS.con := FSpec.sound _ (enter_of Try.func21 (by kernel_rfl) (by kernel_rfl)) ruleR_ok

/-! ### Fact, Told -/
def TfactR : Tab UU := [(21, ruleS.con)]
theorem TfactR_ok : TfactR.Sound Try.prog := .cons ruleR_sound .nil
set_option maxRecDepth 100000 in
theorem factR_ok : ∀ x, (factS false).pre x → FunOk Try.prog 17 ((factS false).args x) ((factS false).H x) ((factS false).R x) := by
  rintro ⟨⟨⟨f, w, li⟩, cs, ks⟩, n⟩ hl
  refine fun_of (T := TfactR) (L := fun _ => none) (hs := fun _ => []) hmix TfactR_ok Try.func17 (by kernel_rfl) (by kernel_rfl) ?_
  refine Eq.mp (α :=
      let Z0 := List.length ks; let Z1 := List.length cs; let Z2 := Value.bool false; let Z5 := ks = ks; let Z7 := cs = cs; let Z11 := (false, n, false); let Z13 := ((f, w, li), cs, ks); let Z17 := Value.int IntKind.i64 (Prod.fst (ruleM Z13 Z11)); let Z18 := Value.int IntKind.i64 (Prod.snd (ruleM Z13 Z11)); (Z1 < nat_lit 1000 ∧ Z0 < nat_lit 1000) ∧ ((Value.int IntKind.i64 f = Value.int IntKind.i64 f ∧ Value.int IntKind.i64 w = Value.int IntKind.i64 w ∧ Value.int IntKind.i64 li = Value.int IntKind.i64 li ∧ (nat_lit 0 = nat_lit 0 ∧ nat_lit 0 = nat_lit 0 ∧ Z1 = Z1) ∧ (nat_lit 0 = nat_lit 0 ∧ nat_lit 0 = nat_lit 0 ∧ Z0 = Z0) ∧ True) ∧ (Z2 = Z2 ∧ Value.int IntKind.i64 n = Value.int IntKind.i64 n ∧ Z2 = Z2 ∧ True) ∧ True) ∧ (Z7 ∧ Z5 ∧ True) ∧ True ∧ ((Z17 = Z17 ∧ Z18 = Z18 ∧ True) ∧ True) ∧ True ∧ Z7 ∧ Z5 ∧ True)
    (by kernel_rfl) ?_
  simp only [factS, okH] at hl
  simpa using hl

theorem factR_sound : Sound Try.prog 17 (factS false).con := FSpec.sound _ (enter_of Try.func17 (by kernel_rfl) (by kernel_rfl)) factR_ok
set_option maxRecDepth 100000 in
theorem toldWR_ok : ∀ x, (factS true).pre x → FunOk Try.prog 19 ((factS true).args x) ((factS true).H x) ((factS true).R x) := by
  rintro ⟨⟨⟨f, w, li⟩, cs, ks⟩, n⟩ hl
  refine fun_of (T := TfactR) (L := fun _ => none) (hs := fun _ => []) hmix TfactR_ok Try.func19 (by kernel_rfl) (by kernel_rfl) ?_
  refine Eq.mp (α :=
      let Z0 := List.length ks; let Z1 := List.length cs; let Z4 := ks = ks; let Z5 := cs = cs; let Z9 := (true, n, false); let Z11 := ((f, w, li), cs, ks); let Z15 := Value.int IntKind.i64 (Prod.fst (ruleM Z11 Z9)); let Z16 := Value.int IntKind.i64 (Prod.snd (ruleM Z11 Z9)); (Z1 < nat_lit 1000 ∧ Z0 < nat_lit 1000) ∧ ((Value.int IntKind.i64 f = Value.int IntKind.i64 f ∧ Value.int IntKind.i64 w = Value.int IntKind.i64 w ∧ Value.int IntKind.i64 li = Value.int IntKind.i64 li ∧ (nat_lit 0 = nat_lit 0 ∧ nat_lit 0 = nat_lit 0 ∧ Z1 = Z1) ∧ (nat_lit 0 = nat_lit 0 ∧ nat_lit 0 = nat_lit 0 ∧ Z0 = Z0) ∧ True) ∧ (Value.bool true = Value.bool true ∧ Value.int IntKind.i64 n = Value.int IntKind.i64 n ∧ Value.bool false = Value.bool false ∧ True) ∧ True) ∧ (Z5 ∧ Z4 ∧ True) ∧ True ∧ ((Z15 = Z15 ∧ Z16 = Z16 ∧ True) ∧ True) ∧ True ∧ Z5 ∧ Z4 ∧ True)
    (by kernel_rfl) ?_
  simp only [factS, okH] at hl
  simpa using hl

theorem toldWR_sound : Sound Try.prog 19 (factS true).con := FSpec.sound _ (enter_of Try.func19 (by kernel_rfl) (by kernel_rfl)) toldWR_ok
end AE.Pr

namespace AE.Pr
open Go AE Go.Proofs

/-! ### the iterator's loops, with what is so of all truths before -/
def goodM (x : RT) (heard : Int) (good : Int × Int → Bool) (a b : Nat) : Bool := (preM x heard a b).all good
theorem good_zero {x : RT} {heard : Int} {good : Int × Int → Bool} : goodM x heard good 0 0 = true := rfl
theorem good_no {x : RT} {heard : Int} {good : Int × Int → Bool} {a b : Nat} (h : isM x heard (tM a b) = false) (hq : goodM x heard good a b = true) : goodM x heard good a (b + 1) = true := by
  unfold goodM; rw [preM_no _ _ _ _ h]; exact hq
theorem good_yes {x : RT} {heard : Int} {good : Int × Int → Bool} {a b : Nat} (h : isM x heard (tM a b) = true) (hg : good (tM a b) = true) (hq : goodM x heard good a b = true) : goodM x heard good a (b + 1) = true := by
  unfold goodM at *; rw [preM_yes _ _ _ _ h, List.all_append, hq]; simp [hg]
theorem good_line {x : RT} {heard : Int} {good : Int × Int → Bool} {a : Nat} (hq : goodM x heard good a (2 ^ x.1.2.1.toNat) = true) : goodM x heard good (a + 1) 0 = true := by
  unfold goodM at *; rw [← preM_line]; exact hq
def itQ1 (x : RT) (heard : Int) (good : Int × Int → Bool) (l p1 p2 : Nat) (Hc : Nat → Nat → Heap UU) : LSpec UU where
  T := { a : Nat // a ≤ 2 ^ x.1.1.toNat ∧ goodM x heard good a 0 = true }
  fr := fun a => itFr l p1 p2 ++ [(17, AV.u (2 ^ x.1.1.toNat : Nat)), (18, AV.u a.1)]
  H := fun a => Hc a.1 0
  mu := fun a => 2 ^ x.1.1.toNat - a.1
def itQ2 (x : RT) (heard : Int) (good : Int × Int → Bool) (l p1 p2 : Nat) (Hc : Nat → Nat → Heap UU) : LSpec UU where
  T := { p : Nat × Nat // p.1 < 2 ^ x.1.1.toNat ∧ p.2 ≤ 2 ^ x.1.2.1.toNat ∧ goodM x heard good p.1 p.2 = true }
  fr := fun p => itFr l p1 p2 ++ [(17, AV.u (2 ^ x.1.1.toNat : Nat)), (18, AV.u p.1.1), (4, AV.u p.1.1), (23, AV.u (2 ^ x.1.2.1.toNat : Nat)), (24, AV.u p.1.2)]
  H := fun p => Hc p.1.1 p.1.2
  mu := fun p => 2 ^ x.1.2.1.toNat - p.1.2
def itQ3 (x : RT) (heard : Int) (good : Int × Int → Bool) (l p1 p2 tc : Nat) (Hc : Nat → Nat → Heap UU) : LSpec UU where
  T := { p : (Nat × Nat) × Nat // p.1.1 < 2 ^ x.1.1.toNat ∧ p.1.2 < 2 ^ x.1.2.1.toNat ∧ popM p.1.2 ≤ x.1.2.2 ∧ p.2 ≤ x.1.2.1.toNat ∧ (∀ k, k < p.2 → sayM x heard (tM p.1.1 p.1.2) k = true) ∧ goodM x heard good p.1.1 p.1.2 = true }
  fr := fun p => itFr l p1 p2 ++ [(17, AV.u (2 ^ x.1.1.toNat : Nat)), (18, AV.u p.1.1.1), (4, AV.u p.1.1.1), (23, AV.u (2 ^ x.1.2.1.toNat : Nat)), (24, AV.u p.1.1.2), (5, AV.u p.1.1.2), (6, .ptr tc 0 0 0), (42, .i x.1.2.1), (43, .i p.1.2)]
  H := fun p => Hc p.1.1.1 p.1.1.2 ++ [tCell p.1.1.1 p.1.1.2]
  mu := fun p => x.1.2.1.toNat - p.1.2
def itQ4 (x : RT) (heard : Int) (good : Int × Int → Bool) (l p1 p2 tc : Nat) (Hc : Nat → Nat → Heap UU) : LSpec UU where
  T := { p : (Nat × Nat) × Nat // p.1.1 < 2 ^ x.1.1.toNat ∧ p.1.2 < 2 ^ x.1.2.1.toNat ∧ popM p.1.2 ≤ x.1.2.2 ∧ (∀ k, k < x.1.2.1.toNat → sayM x heard (tM p.1.1 p.1.2) k = true) ∧ p.2 ≤ x.2.1.length ∧ (∀ j, j < p.2 → rightM (tM p.1.1 p.1.2) (x.2.1.getD j dfW) = true) ∧ goodM x heard good p.1.1 p.1.2 = true }
  fr := fun p => itFr l p1 p2 ++ [(17, AV.u (2 ^ x.1.1.toNat : Nat)), (18, AV.u p.1.1.1), (4, AV.u p.1.1.1), (23, AV.u (2 ^ x.1.2.1.toNat : Nat)), (24, AV.u p.1.1.2), (5, AV.u p.1.1.2), (6, .ptr tc 0 0 0), (9, .fn (.func 56) [.agg [AV.u p.1.1.1, AV.u p.1.1.2]] []), (71, .sl 1 0 0 x.2.1.length), (72, .i x.2.1.length), (73, .i p.1.2)]
  H := fun p => Hc p.1.1.1 p.1.1.2 ++ [tCell p.1.1.1 p.1.1.2]
  mu := fun p => x.2.1.length - p.1.2
def itQs (x : RT) (heard : Int) (good : Int × Int → Bool) (p1 p2 tc : Nat) (Hc : Nat → Nat → Heap UU) (l k : Nat) : Option (LRule UU) :=
  match k with
  | 1 => some (.inv (itQ1 x heard good l p1 p2 Hc))
  | 4 => some (.invR (itQ2 x heard good l p1 p2 Hc) fun a b => b.1.1 = a.1.1)
  | 9 => some (.invR (itQ3 x heard good l p1 p2 tc Hc) fun a b => b.1.1 = a.1.1)
  | 16 => some (.invR (itQ4 x heard good l p1 p2 tc Hc) fun a b => b.1.1 = a.1.1)
  | _ => none
/-- Every truth that is left to be looked at comes later. -/
theorem mem_pre {x : RT} {heard : Int} {a b : Nat} (ha : a < 2 ^ x.1.1.toNat) (hb : b < 2 ^ x.1.2.1.toNat) (h : isM x heard (tM a b) = true) : tM a b ∈ allM x heard := by
  unfold allM preM
  refine List.mem_append.2 (.inl (List.mem_flatMap.2 ⟨a, List.mem_range.2 ha, ?_⟩))
  unfold lineM
  exact List.mem_map.2 ⟨b, List.mem_filter.2 ⟨List.mem_range.2 hb, h⟩, rfl⟩

/-! ### clashes -/
def clashM (x : RT) (heard : Int) : Bool := (allM x heard).isEmpty
def clashHc (x : RT) (heard : Int) (_ _ : Nat) : Heap UU := rtH x ++ [.one (.cells [.b false] 4), .one (.cells [.ptr 0 0 0 0] 72), .one (.cells [AV.u heard] 78)]
def avRH (args : List AV) (H : Heap UU) : Option (RT × Int) := match args with
  | [a, b] => match avHr H a, avU b with
    | some a, some b => some (a, b)
    | _, _ => none
  | _ => none
def clashesS : FSpec UU where
  X := RT × Int
  pick := avRH
  args := fun x => [.ptr 0 0 0 0, AV.u x.2]
  H := fun x => rtH x.1
  R := fun x => .val ⟨.b (clashM x.1 x.2), [], [], []⟩
  pre := fun x => RtOk x.1 ∧ 0 ≤ x.2 ∧ x.2 < 64
def Tclash : Tab UU := [(50, truthsS.con)]
theorem Tclash_ok : Tclash.Sound Try.prog := .cons truths_sound .nil
set_option maxHeartbeats 0 in
set_option maxRecDepth 100000 in
theorem clashes_ok : ∀ x, clashesS.pre x → FunOk Try.prog 71 (clashesS.args x) (clashesS.H x) (clashesS.R x) := by
  rintro ⟨⟨⟨f, w, li⟩, ks, r0, r1, r2, r3, r4, r5⟩, hd⟩ ⟨hx, hhd⟩
  refine fun_ofG (T := Tclash) (L := fun _ => none) (hs := fun _ => []) (sp := fun _ => none) hmix Tclash_ok (tl := fun _ => none) (fun _ _ h => by cases h) (it := onlyAt 2 (itOf Try.prog Tit 81 Try.f81 (itQs ((f, w, li), ks, r0, r1, r2, r3, r4, r5) hd (fun _ => false) 10 11 12 (clashHc ((f, w, li), ks, r0, r1, r2, r3, r4, r5) hd)) (fun _ => []) spIt)) (onlyAt_ok itP_ok) Try.func71 (by kernel_rfl) (by kernel_rfl) ?_
  refine Eq.mp (α :=
      let Z0 := Int.toNat f; let Z1 := Int.toNat w; let Z2 := True ∧ True; let Z3 := none; let Z4 := fun (p : Nat × Nat) => Prod.snd p; let Z5 := fun (p : Nat × Nat) => Prod.fst p; let Z6 := List.length r0; let Z7 := List.length r2; let Z8 := List.length r4; let Z9 := List.length ks; let Z10 := List.length r5; let Z11 := List.length r3; let Z12 := List.length r1; let Z13 := Value.bool false; let Z14 := (w, li); let Z15 := nat_lit 0 = nat_lit 0 ∧ True; let Z16 := Value.int IntKind.i64 w; let Z17 := Value.int IntKind.u64 hd; let Z18 := Value.int IntKind.i64 li; let Z19 := Value.int IntKind.i64 f; let Z20 := nat_lit 0 = nat_lit 0 ∧ nat_lit 0 = nat_lit 0; let Z21 := (↑(nat_lit 2) : Int); let Z22 := (↑(nat_lit 3) : Int); let Z23 := (↑(nat_lit 0) : Int); let Z24 := (↑(nat_lit 1) : Int); let Z25 := (↑(nat_lit 4) : Int); let Z26 := (↑(nat_lit 5) : Int); let Z27 := fun (p : (Nat × Nat) × Nat) => Prod.fst p; let Z28 := fun (p : (Nat × Nat) × Nat) => Prod.snd p; let Z29 := (0 : Int); let Z30 := (6 : Int); let Z31 := (1 : Int); let Z32 := (64 : Int); let Z33 := fun (l : Nat) => Fn.yield l = Fn.yield l; let Z34 := (2 : Nat); let Z35 := Value.slice Z3 (nat_lit 0) (nat_lit 0); let Z36 := (0 : Nat); let Z37 := r4 = r4; let Z38 := r0 = r0; let Z39 := r1 = r1; let Z40 := r5 = r5; let Z41 := r3 = r3; let Z42 := r2 = r2; let Z43 := ks = ks; let Z44 := (r4, r5); let Z45 := (56 : FuncId); let Z46 := (82 : FuncId); let Z47 := AV.v Z35; let Z48 := hasM hd Z23; let Z49 := hasM hd Z25; let Z50 := hasM hd Z21; let Z51 := hasM hd Z22; let Z52 := hasM hd Z26; let Z53 := hasM hd Z24; let Z54 := fun (c : Ci) => Prod.snd c; let Z55 := fun (c : Ci) => Prod.fst c; let Z56 := Z40 ∧ True; let Z57 := nat_lit 0 = nat_lit 0 ∧ Z20; let Z58 := fun (p : (Nat × Nat) × Nat) => Prod.snd (Z27 p); let Z59 := Fn.func Z45; let Z60 := fun (p : (Nat × Nat) × Nat) => Prod.fst (Z27 p); let Z61 := Fn.func Z46; let Z62 := (↑Z9 : Int); let Z63 := Z7 = Z7; let Z64 := Z9 = Z9; let Z65 := Z10 = Z10; let Z66 := Z11 = Z11; let Z67 := Z6 = Z6; let Z68 := Z12 = Z12; let Z69 := Z8 = Z8; let Z70 := Value.int IntKind.i64 Z21; let Z71 := Value.int IntKind.i64 Z23; let Z72 := Value.int IntKind.i64 Z25; let Z73 := Value.int IntKind.i64 Z24; let Z74 := Value.int IntKind.i64 Z22; let Z75 := (f, Z14); let Z76 := Value.int IntKind.i64 Z26; let Z77 := Value.int IntKind.i64 Z29; let Z78 := Value.int IntKind.u64 Z29; let Z79 := fun (k : Nat) (p : (Nat × Nat) × Nat) => k < Z28 p; let Z80 := fun (l : Nat) => Z33 l ∧ Z2; let Z81 := Z13 = Z13; let Z82 := Z57 ∧ True; let Z83 := Z29 ≤ hd; let Z84 := (Z29, false); let Z85 := Z16 = Z16; let Z86 := hd < Z32; let Z87 := Z17 = Z17; let Z88 := Z18 = Z18; let Z89 := Z19 = Z19; let Z90 := Z81 ∧ True; let Z91 := fun (c : Ci) => Z55 c = true; let Z92 := Fn.func (nat_lit 82) = Z61; let Z93 := True ∧ Z82; let Z94 := nat_lit 0 = nat_lit 0 ∧ Z64; let Z95 := nat_lit 0 = nat_lit 0 ∧ Z66; let Z96 := nat_lit 0 = nat_lit 0 ∧ Z68; let Z97 := nat_lit 0 = nat_lit 0 ∧ Z63; let Z98 := nat_lit 0 = nat_lit 0 ∧ Z69; let Z99 := nat_lit 0 = nat_lit 0 ∧ Z65; let Z100 := nat_lit 0 = nat_lit 0 ∧ Z67; let Z101 := Z87 ∧ True; let Z102 := Value.int IntKind.i64 Z62; let Z103 := fun (p : (Nat × Nat) × Nat) => (↑(Z58 p) : Int); let Z104 := fun (c : Ci) => Prod.fst (Z54 c); let Z105 := fun (c : Ci) => Prod.snd (Z54 c); let Z106 := Z101 ∧ True; let Z107 := nat_lit 2 ^ Z0; let Z108 := nat_lit 2 ^ Z1; let Z109 := Z29 ≤ Z21; let Z110 := Z29 ≤ Z22; let Z111 := Z29 ≤ Z25; let Z112 := Z29 ≤ Z23; let Z113 := Z29 ≤ Z24; let Z114 := Z29 ≤ Z26; let Z115 := fun (p : (Nat × Nat) × Nat) => popM (Z103 p); let Z116 := nat_lit 0 = nat_lit 0 ∧ Z98; let Z117 := nat_lit 0 = nat_lit 0 ∧ Z97; let Z118 := nat_lit 0 = nat_lit 0 ∧ Z95; let Z119 := nat_lit 0 = nat_lit 0 ∧ Z100; let Z120 := nat_lit 0 = nat_lit 0 ∧ Z99; let Z121 := nat_lit 0 = nat_lit 0 ∧ Z94; let Z122 := nat_lit 0 = nat_lit 0 ∧ Z96; let Z123 := Z21 < Z32; let Z124 := Z24 < Z32; let Z125 := Z26 < Z32; let Z126 := Z25 < Z32; let Z127 := Z22 < Z32; let Z128 := Z23 < Z32; let Z129 := Z37 ∧ Z56; let Z130 := Z47 = Z47; let Z131 := (r3, Z44); let Z132 := Z120 ∧ True; let Z133 := fun (c : Ci) => Z104 c = true; let Z134 := (false, Z84); let Z135 := fun (c : Ci) => Prod.snd (Z105 c); let Z136 := fun (c : Ci) => Prod.fst (Z105 c); let Z137 := fun (p : (Nat × Nat) × Nat) => tM (Z60 p) (Z58 p); let Z138 := (↑Z107 : Int); let Z139 := (↑Z108 : Int); let Z140 := Z73 = Z73; let Z141 := Z71 = Z71; let Z142 := Z76 = Z76; let Z143 := Z72 = Z72; let Z144 := Z121 ∧ Z15; let Z145 := Z74 = Z74; let Z146 := Z70 = Z70; let Z147 := Z140 ∧ True; let Z148 := True ∧ Z144; let Z149 := Z142 ∧ True; let Z150 := Z146 ∧ True; let Z151 := Z145 ∧ True; let Z152 := Z143 ∧ True; let Z153 := Z141 ∧ True; let Z154 := fun (c : Ci) => Prod.snd (Z135 c); let Z155 := fun (c : Ci) => Prod.snd (Z136 c); let Z156 := Z41 ∧ Z129; let Z157 := Value.int IntKind.u64 Z139; let Z158 := Value.int IntKind.u64 Z138; let Z159 := Z92 ∧ Z93; let Z160 := Z82 ∧ Z106; let Z161 := fun (c : Ci) => Prod.fst (Z154 c); let Z162 := fun (c : Ci) => Prod.fst (Z155 c); let Z163 := Z159 ∧ True; let Z164 := Z102 = Z102; let Z165 := fun (c : Ci) => Z91 c ∨ Z133 c; let Z166 := (r2, Z131); let Z167 := Z42 ∧ Z156; let Z168 := Z110 ∧ Z127; let Z169 := Z111 ∧ Z126; let Z170 := Z113 ∧ Z124; let Z171 := Z109 ∧ Z123; let Z172 := Z114 ∧ Z125; let Z173 := Z112 ∧ Z128; let Z174 := Z116 ∧ Z132; let Z175 := Z88 ∧ Z148; let Z176 := fun (c : Ci) => Z29 ≤ Z161 c; let Z177 := fun (c : Ci) => Z29 ≤ Z162 c; let Z178 := fun (c : Ci) => Z161 c < Z30; let Z179 := fun (c : Ci) => Z162 c < Z30; let Z180 := Z39 ∧ Z167; let Z181 := Z90 ∧ Z160; let Z182 := Z38 ∧ Z180; let Z183 := Z85 ∧ Z175; let Z184 := Z40 ∧ Z181; let Z185 := (r1, Z166); let Z186 := Z157 = Z157; let Z187 := Z158 = Z158; let Z188 := Z118 ∧ Z174; let Z189 := Z37 ∧ Z184; let Z190 := Z89 ∧ Z183; let Z191 := Z41 ∧ Z189; let Z192 := (r0, Z185); let Z193 := Z117 ∧ Z188; let Z194 := Z42 ∧ Z191; let Z195 := fun (c : Ci) => Z176 c ∧ Z178 c; let Z196 := fun (c : Ci) => Z177 c ∧ Z179 c; let Z197 := Z39 ∧ Z194; let Z198 := Z122 ∧ Z193; let Z199 := Z38 ∧ Z197; let Z200 := (ks, Z192); let Z201 := Z119 ∧ Z198; let Z202 := fun (c : Ci) => Z165 c → Z195 c; let Z203 := (Z75, Z200); let Z204 := clashM Z203 hd; let Z205 := Value.bool Z204; let Z206 := fun (a : Nat) => goodM Z203 hd (fun (x : Int × Int) => false) a Z36; let Z207 := fun (p : Nat × Nat) => goodM Z203 hd (fun (x : Int × Int) => false) (Z5 p) (Z4 p); let Z208 := fun (a : Nat) => Z206 a = true; let Z209 := fun (p : Nat × Nat) => Z207 p = true; let Z210 := Z201 ∧ Z182; let Z211 := fun (p : (Nat × Nat) × Nat) (k : Nat) => sayM Z203 hd (Z137 p) k; let Z212 := fun (p : (Nat × Nat) × Nat) (k : Nat) => Z211 p k = true; let Z213 := fun (p : (Nat × Nat) × Nat) => goodM Z203 hd (fun (x : Int × Int) => false) (Z60 p) (Z58 p); let Z214 := Z43 ∧ Z210; let Z215 := Prod.snd Z203; let Z216 := Prod.fst Z203; let Z217 := fun (p : (Nat × Nat) × Nat) => Z213 p = true; let Z218 := Prod.snd Z216; let Z219 := Prod.fst Z216; let Z220 := fun (k : Nat) (p : (Nat × Nat) × Nat) => Z79 k p → Z212 p k; let Z221 := Int.toNat Z219; let Z222 := fun (p : (Nat × Nat) × Nat) => ∀ (k : Nat), Z220 k p; let Z223 := Prod.fst Z218; let Z224 := Prod.snd Z218; let Z225 := Int.toNat Z223; let Z226 := fun (k : Nat) => k < Z225; let Z227 := fun (p : (Nat × Nat) × Nat) => Z28 p ≤ Z225; let Z228 := Prod.fst Z215; let Z229 := fun (c : Ci) => Z196 c ∧ Z202 c; let Z230 := Z34 ^ Z221; let Z231 := List.length Z228; let Z232 := fun (j : Nat) => List.getD Z228 j dfW; let Z233 := fun (p : (Nat × Nat) × Nat) => Z115 p ≤ Z224; let Z234 := Z34 ^ Z225; let Z235 := Z201 ∧ Z199; let Z236 := fun (a : Nat) => a ≤ Z230; let Z237 := fun (p : Nat × Nat) => Z5 p < Z230; let Z238 := fun (p : (Nat × Nat) × Nat) => Z28 p ≤ Z231; let Z239 := fun (p : Nat × Nat) => Z4 p ≤ Z234; let Z240 := Z43 ∧ Z235; let Z241 := fun (p : (Nat × Nat) × Nat) => Z60 p < Z230; let Z242 := fun (p : (Nat × Nat) × Nat) => Z58 p < Z234; let Z243 := fun (p : (Nat × Nat) × Nat) (j : Nat) => rightM (Z137 p) (Z232 j); let Z244 := fun (p : (Nat × Nat) × Nat) (j : Nat) => Z243 p j = true; let Z245 := Z190 ∧ Z214; let Z246 := True ∧ Z245; let Z247 := fun (j : Nat) (p : (Nat × Nat) × Nat) => Z79 j p → Z244 p j; let Z248 := fun (p : (Nat × Nat) × Nat) => ∀ (j : Nat), Z247 j p; let Z249 := Z190 ∧ Z240; let Z250 := True ∧ Z249; let Z251 := fun (p : (Nat × Nat) × Nat) => Z222 p ∧ Z217 p; let Z252 := fun (k : Nat) (p : (Nat × Nat) × Nat) => Z226 k → Z212 p k; let Z253 := fun (p : (Nat × Nat) × Nat) => ∀ (k : Nat), Z252 k p; let Z254 := fun (a : Nat) => Z236 a ∧ Z208 a; let Z255 : Type := { a : Nat // Z254 a }; let Z256 := fun (x : Z255) => Subtype.val x; let Z257 := fun (p : Nat × Nat) => Z239 p ∧ Z209 p; let Z258 := fun (x : Z255) => (↑(Z256 x) : Int); let Z259 := fun (x : Z255) => Value.int IntKind.u64 (Z258 x); let Z260 := fun (x : Z255) => Z107 - Z256 x; let Z261 := fun (t : Z255) => Z258 t < Z138; let Z262 := fun (p : (Nat × Nat) × Nat) => Z248 p ∧ Z217 p; let Z263 := fun (p : (Nat × Nat) × Nat) => Z227 p ∧ Z251 p; let Z264 := fun (p : Nat × Nat) => Z237 p ∧ Z257 p; let Z265 : Type := { p : Nat × Nat // Z264 p }; let Z266 := fun (x : Z265) => Subtype.val x; let Z267 := fun (x : Z265) => Prod.snd (Z266 x); let Z268 := fun (x : Z265) => Prod.fst (Z266 x); let Z269 := fun (x : Z265) => (↑(Z267 x) : Int); let Z270 := fun (x : Z265) => (↑(Z268 x) : Int); let Z271 := fun (t : Z265) => popM (Z269 t); let Z272 := fun (x : Z265) => Value.int IntKind.u64 (Z269 x); let Z273 := fun (x : Z265) => Value.int IntKind.u64 (Z270 x); let Z274 := fun (t : Z265) => Z271 t > li; let Z275 := fun (x : Z265) => Z108 - Z267 x; let Z276 := fun (p : (Nat × Nat) × Nat) => Z238 p ∧ Z262 p; let Z277 := fun (t : Z265) => Z269 t < Z139; let Z278 := fun (p : (Nat × Nat) × Nat) => Z233 p ∧ Z263 p; let Z279 := fun (p : (Nat × Nat) × Nat) => Z242 p ∧ Z278 p; let Z280 := fun (p : (Nat × Nat) × Nat) => Z253 p ∧ Z276 p; let Z281 := fun (t : Z255) (x : Z265) => Z259 t = Z273 x; let Z282 := fun (t : Z255) => decide (Z261 t); let Z283 := fun (p : (Nat × Nat) × Nat) => Z241 p ∧ Z279 p; let Z284 := fun (p : (Nat × Nat) × Nat) => Z233 p ∧ Z280 p; let Z285 := fun (t x : Z265) => Z268 t = Z268 x; let Z286 : Type := { p : (Nat × Nat) × Nat // Z283 p }; let Z287 := fun (x : Z286) => Subtype.val x; let Z288 := fun (x : Z286) => Prod.fst (Z287 x); let Z289 := fun (x : Z286) => Prod.snd (Z287 x); let Z290 := fun (x : Z286) => Prod.fst (Z288 x); let Z291 := fun (x : Z286) => Prod.snd (Z288 x); let Z292 := fun (x : Z286) => (↑(Z289 x) : Int); let Z293 := fun (x : Z286) => (↑(Z291 x) : Int); let Z294 := fun (x : Z286) => (↑(Z290 x) : Int); let Z295 := fun (x : Z286) => Value.int IntKind.i64 (Z292 x); let Z296 := fun (t x : Z265) => Z273 t = Z273 x; let Z297 := fun (t : Z286) => Z292 t < w; let Z298 := fun (x : Z286) => Z1 - Z289 x; let Z299 := fun (x : Z286) => Value.int IntKind.u64 (Z293 x); let Z300 := fun (x : Z286) => Value.int IntKind.u64 (Z294 x); let Z301 := fun (t : Z286) => hasM (Z293 t) Z21; let Z302 := fun (t : Z286) => hasM (Z293 t) Z26; let Z303 := fun (t : Z286) => hasM (Z293 t) Z24; let Z304 := fun (t : Z286) => hasM (Z293 t) Z22; let Z305 := fun (t : Z286) => hasM (Z293 t) Z25; let Z306 := fun (t : Z286) => hasM (Z293 t) Z23; let Z307 := fun (t : Z286) => Z29 ≤ Z293 t; let Z308 := fun (t : Z286) => Z29 ≤ Z294 t; let Z309 := fun (t : Z286) => Z294 t < Z32; let Z310 := fun (t : Z286) => Z293 t < Z32; let Z311 := fun (t : Z286) => Z292 t + Z31; let Z312 := fun (t : Z286) => Z293 t + Z31; let Z313 := fun (t : Z286) => IntKind.wrap IntKind.i64 (Z311 t); let Z314 := fun (t : Z286) => IntKind.wrap IntKind.u64 (Z312 t); let Z315 := fun (t : Z286) => Value.int IntKind.i64 (Z313 t); let Z316 := fun (t : Z286) => Value.int IntKind.u64 (Z314 t); let Z317 := fun (x t : Z265) => Z275 x < Z275 t; let Z318 := fun (t : Z265) => decide (Z274 t); let Z319 := fun (p : (Nat × Nat) × Nat) => Z242 p ∧ Z284 p; let Z320 := fun (t : Z265) => decide (Z277 t); let Z321 := fun (p : (Nat × Nat) × Nat) => Z241 p ∧ Z319 p; let Z322 : Type := { p : (Nat × Nat) × Nat // Z321 p }; let Z323 := fun (x : Z322) => Subtype.val x; let Z324 := fun (x : Z322) => Prod.fst (Z323 x); let Z325 := fun (x : Z322) => Prod.snd (Z323 x); let Z326 := fun (x : Z322) => Prod.fst (Z324 x); let Z327 := fun (x : Z322) => Prod.snd (Z324 x); let Z328 := fun (x : Z322) => (↑(Z325 x) : Int); let Z329 := fun (t : Z322) => Int.toNat (Z328 t); let Z330 := fun (x : Z322) => (↑(Z327 x) : Int); let Z331 := fun (x : Z322) => (↑(Z326 x) : Int); let Z332 := fun (x : Z322) => Value.int IntKind.i64 (Z328 x); let Z333 := fun (x : Z322) => Value.int IntKind.u64 (Z330 x); let Z334 := fun (x : Z322) => Value.int IntKind.u64 (Z331 x); let Z335 := fun (x : Z322) => Z9 - Z325 x; let Z336 := fun (t : Z322) => nat_lit 0 + Z329 t; let Z337 := fun (t : Z322) => Z328 t < Z62; let Z338 := fun (t : Z322) => List.getD ks (Z336 t) Z134; let Z339 := fun (t : Z322) => Prod.fst (Z338 t); let Z340 := fun (t : Z322) => Prod.snd (Z338 t); let Z341 := fun (t : Z322) => Value.bool (Z339 t); let Z342 := fun (t : Z322) => Prod.fst (Z340 t); let Z343 := fun (t : Z322) => Prod.snd (Z340 t); let Z344 := fun (t : Z322) => Value.bool (Z343 t); let Z345 := fun (t : Z322) => Value.int IntKind.i64 (Z342 t); let Z346 := fun (t : Z265) (x : Z286) => Z273 t = Z300 x; let Z347 := fun (t : Z265) (x : Z286) => Z272 t = Z299 x; let Z348 := fun (t : Z286) (x : Z265) => Z300 t = Z273 x; let Z349 := fun (t : Z286) (x : Z265) => Z316 t = Z272 x; let Z350 := fun (t : Z286) (x : Z265) => Z349 t x ∧ True; let Z351 := fun (t : Z286) (x : Z265) => Z186 ∧ Z350 t x; let Z352 := fun (t : Z322) (x : Z265) => Z334 t = Z273 x; let Z353 := fun (t x : Z286) => Z288 t = Z288 x; let Z354 := fun (t : Z286) => (Z294 t, Z293 t); let Z355 := fun (t : Z286) => liesM (Z354 t) r5; let Z356 := fun (t : Z286) => liesM (Z354 t) r0; let Z357 := fun (t : Z286) => liesM (Z354 t) r2; let Z358 := fun (t : Z286) => liesM (Z354 t) r1; let Z359 := fun (t : Z286) => liesM (Z354 t) r3; let Z360 := fun (t : Z286) => liesM (Z354 t) r4; let Z361 := fun (x t : Z286) => Z298 x < Z298 t; let Z362 := fun (t x : Z286) => Z300 t = Z300 x; let Z363 := fun (t x : Z286) => Z299 t = Z299 x; let Z364 := fun (t : Z286) => Z300 t = Z300 t; let Z365 := fun (t : Z286) => Z299 t = Z299 t; let Z366 := fun (t x : Z286) => Z363 t x ∧ True; let Z367 := fun (t : Z286) => Z365 t ∧ True; let Z368 := fun (x t x_1 : Z265) => Z317 x t ∧ Z285 x x_1; let Z375 := fun (t : Z286) => decide (Z297 t); let Z376 := fun (t : Z286) (x : Z322) => Z300 t = Z334 x; let Z377 := fun (t : Z286) (x : Z322) => Z299 t = Z333 x; let Z381 := fun (t x : Z322) => Z333 t = Z333 x; let Z382 := fun (t x : Z322) => Z334 t = Z334 x; let Z384 := fun (t : Z322) => decide (Z337 t); let Z385 := fun (t : Z286) => Z360 t == Z305 t; let Z386 := fun (t : Z286) => Z357 t == Z301 t; let Z387 := fun (t : Z286) => Z358 t == Z303 t; let Z388 := fun (t : Z286) => Z359 t == Z304 t; let Z389 := fun (t : Z286) => Z356 t == Z306 t; let Z390 := fun (t : Z286) => Z355 t == Z302 t; let Z401 := fun (t : Z286) => (Z364 t ∧ Z367 t) ∧ True; let Z404 := fun (t : Z286) => (Z308 t ∧ Z309 t) ∧ Z307 t ∧ Z310 t; let Z434 := fun (l : Nat) (t : Z286) (t_1 x : Z265) => True ∧ ∃ (x_1 : Z265), ((Z80 l ∧ Z57 ∧ Z57 ∧ Z187 ∧ Z348 t x_1 ∧ Z348 t x_1 ∧ Z351 t x_1) ∧ Z250) ∧ Z368 x_1 t_1 x; let Z444 := fun (l : Nat) (t x : Z286) => True ∧ ∃ (x_1 : Z286), ((Z80 l ∧ Z57 ∧ Z57 ∧ Z187 ∧ Z362 t x_1 ∧ Z362 t x_1 ∧ Z186 ∧ Z363 t x_1 ∧ Z363 t x_1 ∧ Z57 ∧ Z85 ∧ Z315 t = Z295 x_1 ∧ True) ∧ True ∧ Z190 ∧ Z43 ∧ Z201 ∧ Z38 ∧ Z39 ∧ Z42 ∧ Z41 ∧ Z37 ∧ Z40 ∧ Z90 ∧ Z82 ∧ Z101 ∧ (Z362 t x_1 ∧ Z366 t x_1) ∧ True) ∧ Z361 x_1 t ∧ Z353 x_1 x; True ∧ (Z57 ∧ Z101) ∧ Z2 ∧ ∀ (l : Nat), Z29 ≤ f ∧ (∃ (x : Z255), (Z80 l ∧ Z57 ∧ Z57 ∧ Value.int IntKind.u64 (IntKind.wrap IntKind.u64 (Z31 * (2 : Int) ^ min Z0 (nat_lit 64))) = Z158 ∧ Z78 = Z259 x ∧ True) ∧ Z250) ∧ ∀ (t : Z255), (Z282 t = true → (Z29 ≤ w ∧ w ≤ Z30) ∧ Z82 ∧ ((True ∧ Z85 ∧ True ∧ True ∧ True ∧ Z2) ∧ True) ∧ ∃ (x : Z265), ((Z80 l ∧ Z57 ∧ Z57 ∧ Z187 ∧ Z281 t x ∧ Z281 t x ∧ Value.int IntKind.u64 (IntKind.wrap IntKind.u64 (everyM Z1 + Z31)) = Z157 ∧ Z78 = Z272 x ∧ True) ∧ Z250) ∧ Z268 x = Z268 x ∧ ∀ (t_1 : Z265), Z285 t_1 x → (Z320 t_1 = true → (Z29 ≤ Z269 t_1 ∧ Z269 t_1 < Z32) ∧ (Z272 t_1 = Z272 t_1 ∧ True) ∧ True ∧ (Z318 t_1 = true → True ∧ ∃ (x_1 : Z265), ((Z80 l ∧ Z57 ∧ Z57 ∧ Z187 ∧ Z296 t_1 x_1 ∧ Z296 t_1 x_1 ∧ Z186 ∧ Value.int IntKind.u64 (IntKind.wrap IntKind.u64 (Z269 t_1 + Z31)) = Z272 x_1 ∧ True) ∧ Z250) ∧ Z368 x_1 t_1 x) ∧ (Z318 t_1 = false → ∃ (x_1 : Z286), ((Z80 l ∧ Z57 ∧ Z57 ∧ Z187 ∧ Z346 t_1 x_1 ∧ Z346 t_1 x_1 ∧ Z186 ∧ Z347 t_1 x_1 ∧ Z347 t_1 x_1 ∧ Z57 ∧ Z85 ∧ Z77 = Z295 x_1 ∧ True) ∧ True ∧ Z190 ∧ Z43 ∧ Z201 ∧ Z38 ∧ Z39 ∧ Z42 ∧ Z41 ∧ Z37 ∧ Z40 ∧ Z90 ∧ Z82 ∧ Z101 ∧ (Z346 t_1 x_1 ∧ Z347 t_1 x_1 ∧ True) ∧ True) ∧ Z288 x_1 = Z288 x_1 ∧ ∀ (t : Z286), Z353 t x_1 → (Z375 t = true → (Z29 ≤ Z292 t ∧ Z292 t < (↑(nat_lit 6) : Int)) ∧ (Z292 t = Z23 → (Z83 ∧ Z86 ∧ Z173) ∧ (Z87 ∧ Z153) ∧ True ∧ (Z48 = true → Z130 ∧ (Z6 < nat_lit 1000000 ∧ Z404 t ∧ ∀ (c : Ci), c ∈ r0 → Z229 c) ∧ (Z119 ∧ Z163) ∧ (Z38 ∧ Z401 t) ∧ (Z307 t ∧ Z310 t ∧ Z173) ∧ (Z365 t ∧ Z153) ∧ True ∧ ((!Z389 t) = true → Z434 l t t_1 x) ∧ ((!Z389 t) = false → Z444 l t x_1)) ∧ (Z48 = false → Z444 l t x_1)) ∧ (Z292 t = Z24 → (Z83 ∧ Z86 ∧ Z170) ∧ (Z87 ∧ Z147) ∧ True ∧ (Z53 = true → Z130 ∧ (Z12 < nat_lit 1000000 ∧ Z404 t ∧ ∀ (c : Ci), c ∈ r1 → Z229 c) ∧ (Z122 ∧ Z163) ∧ (Z39 ∧ Z401 t) ∧ (Z307 t ∧ Z310 t ∧ Z170) ∧ (Z365 t ∧ Z147) ∧ True ∧ ((!Z387 t) = true → Z434 l t t_1 x) ∧ ((!Z387 t) = false → Z444 l t x_1)) ∧ (Z53 = false → Z444 l t x_1)) ∧ (Z292 t = Z21 → (Z83 ∧ Z86 ∧ Z171) ∧ (Z87 ∧ Z150) ∧ True ∧ (Z50 = true → Z130 ∧ (Z7 < nat_lit 1000000 ∧ Z404 t ∧ ∀ (c : Ci), c ∈ r2 → Z229 c) ∧ (Z117 ∧ Z163) ∧ (Z42 ∧ Z401 t) ∧ (Z307 t ∧ Z310 t ∧ Z171) ∧ (Z365 t ∧ Z150) ∧ True ∧ ((!Z386 t) = true → Z434 l t t_1 x) ∧ ((!Z386 t) = false → Z444 l t x_1)) ∧ (Z50 = false → Z444 l t x_1)) ∧ (Z292 t = Z22 → (Z83 ∧ Z86 ∧ Z168) ∧ (Z87 ∧ Z151) ∧ True ∧ (Z51 = true → Z130 ∧ (Z11 < nat_lit 1000000 ∧ Z404 t ∧ ∀ (c : Ci), c ∈ r3 → Z229 c) ∧ (Z118 ∧ Z163) ∧ (Z41 ∧ Z401 t) ∧ (Z307 t ∧ Z310 t ∧ Z168) ∧ (Z365 t ∧ Z151) ∧ True ∧ ((!Z388 t) = true → Z434 l t t_1 x) ∧ ((!Z388 t) = false → Z444 l t x_1)) ∧ (Z51 = false → Z444 l t x_1)) ∧ (Z292 t = Z25 → (Z83 ∧ Z86 ∧ Z169) ∧ (Z87 ∧ Z152) ∧ True ∧ (Z49 = true → Z130 ∧ (Z8 < nat_lit 1000000 ∧ Z404 t ∧ ∀ (c : Ci), c ∈ r4 → Z229 c) ∧ (Z116 ∧ Z163) ∧ (Z37 ∧ Z401 t) ∧ (Z307 t ∧ Z310 t ∧ Z169) ∧ (Z365 t ∧ Z152) ∧ True ∧ ((!Z385 t) = true → Z434 l t t_1 x) ∧ ((!Z385 t) = false → Z444 l t x_1)) ∧ (Z49 = false → Z444 l t x_1)) ∧ (Z292 t = Z26 → (Z83 ∧ Z86 ∧ Z172) ∧ (Z87 ∧ Z149) ∧ True ∧ (Z52 = true → Z130 ∧ (Z10 < nat_lit 1000000 ∧ Z404 t ∧ ∀ (c : Ci), c ∈ r5 → Z229 c) ∧ (Z120 ∧ Z163) ∧ (Z40 ∧ Z401 t) ∧ (Z307 t ∧ Z310 t ∧ Z172) ∧ (Z365 t ∧ Z149) ∧ True ∧ ((!Z390 t) = true → Z434 l t t_1 x) ∧ ((!Z390 t) = false → Z444 l t x_1)) ∧ (Z52 = false → Z444 l t x_1)) ∧ True) ∧ (Z375 t = false → ∃ (x_2 : Z322), ((Z80 l ∧ Z57 ∧ Z57 ∧ Z187 ∧ Z376 t x_2 ∧ Z376 t x_2 ∧ Z186 ∧ Z377 t x_2 ∧ Z377 t x_2 ∧ Z57 ∧ (Fn.func (nat_lit 56) = Z59 ∧ ((Z376 t x_2 ∧ Z377 t x_2 ∧ True) ∧ True) ∧ True) ∧ Z121 ∧ Z164 ∧ Z77 = Z332 x_2 ∧ True) ∧ True ∧ Z190 ∧ Z43 ∧ Z201 ∧ Z38 ∧ Z39 ∧ Z42 ∧ Z41 ∧ Z37 ∧ Z40 ∧ Z90 ∧ Z82 ∧ Z101 ∧ (Z376 t x_2 ∧ Z377 t x_2 ∧ True) ∧ True) ∧ Z324 x_2 = Z324 x_2 ∧ ∀ (t : Z322), Z324 t = Z324 x_2 → (Z384 t = true → (Z29 ≤ Z328 t ∧ Z337 t) ∧ Z336 t < List.length ks ∧ (((Z29 ≤ Z331 t ∧ Z331 t < Z32) ∧ Z29 ≤ Z330 t ∧ Z330 t < Z32) ∧ Z29 ≤ Z342 t ∧ Z342 t < Z30) ∧ ((Z334 t = Z334 t ∧ Z333 t = Z333 t ∧ True) ∧ (Z341 t = Z341 t ∧ Z345 t = Z345 t ∧ Z344 t = Z344 t ∧ True) ∧ True) ∧ True ∧ ((!rightM (Z331 t, Z330 t) (Z338 t)) = true → True ∧ ∃ (x_3 : Z265), ((Z80 l ∧ Z57 ∧ Z57 ∧ Z187 ∧ Z352 t x_3 ∧ Z352 t x_3 ∧ Z186 ∧ Value.int IntKind.u64 (IntKind.wrap IntKind.u64 (Z330 t + Z31)) = Z272 x_3 ∧ True) ∧ Z250) ∧ Z368 x_3 t_1 x) ∧ ((!rightM (Z331 t, Z330 t) (Z338 t)) = false → True ∧ ∃ (x : Z322), ((Z80 l ∧ Z57 ∧ Z57 ∧ Z187 ∧ Z382 t x ∧ Z382 t x ∧ Z186 ∧ Z381 t x ∧ Z381 t x ∧ Z57 ∧ (Z59 = Z59 ∧ ((Z382 t x ∧ Z381 t x ∧ True) ∧ True) ∧ True) ∧ Z121 ∧ Z164 ∧ Value.int IntKind.i64 (IntKind.wrap IntKind.i64 (Z328 t + Z31)) = Z332 x ∧ True) ∧ True ∧ Z190 ∧ Z43 ∧ Z201 ∧ Z38 ∧ Z39 ∧ Z42 ∧ Z41 ∧ Z37 ∧ Z40 ∧ Z90 ∧ Z82 ∧ Z101 ∧ (Z382 t x ∧ Z381 t x ∧ True) ∧ True) ∧ Z335 x < Z335 t ∧ Z324 x = Z324 x_2)) ∧ (Z384 t = false → l = l ∧ True ∧ True ∧ True ∧ (Z205 = Z13 ∧ True) ∧ Z246)))) ∧ (Z320 t_1 = false → True ∧ ∃ (x : Z255), ((Z80 l ∧ Z57 ∧ Z57 ∧ Z187 ∧ Value.int IntKind.u64 (IntKind.wrap IntKind.u64 (Z270 t_1 + Z31)) = Z259 x ∧ True) ∧ Z250) ∧ Z260 x < Z260 t)) ∧ (Z282 t = false → True ∧ (Z205 = Value.bool true ∧ True) ∧ Z246))
    (by kernel_rfl) ?_
  have hf : 0 ≤ f ∧ f ≤ 6 := hx.f
  have hw : 0 ≤ w ∧ w ≤ 6 := hx.w
  obtain ⟨nf, rfl⟩ := Int.eq_ofNat_of_zero_le hf.1
  obtain ⟨nw, rfl⟩ := Int.eq_ofNat_of_zero_le hw.1
  have hnf : nf ≤ 6 := by omega
  have hnw : nw ≤ 6 := by omega
  have hF := pow64 nf hnf
  have hW := pow64 nw hnw
  have hE := hhd
  have hks : ks.length < 1000 := hx.ks
  simp only [eq_self, true_and, and_true, Int.toNat_natCast, Nat.zero_add, Nat.sub_zero]
  refine fun l => ⟨hf.1, ⟨⟨0, Nat.zero_le _, rfl⟩, by rw [powW nf hnf], rfl⟩, fun t => ⟨fun ht => ⟨hw, ?_⟩, fun ht => ?_⟩⟩
  · obtain ⟨a, ha, hqa⟩ := t
    have hlt : a < 2 ^ nf := by
      have h1 : ((a : Int)) < ((2 ^ nf : Nat) : Int) := of_decide_eq_true ht
      exact_mod_cast h1
    refine ⟨⟨(a, 0), hlt, Nat.zero_le _, hqa⟩, ⟨rfl, rfl, congrArg _ (everyW nw hnw), rfl⟩, ?_⟩
    rintro ⟨⟨a1, b⟩, ha1, hb, hq1⟩ hr1
    have hr1' : a1 = a := hr1
    subst hr1'
    have ha64 : a1 < 64 := Nat.lt_of_lt_of_le ha1 hF
    refine ⟨fun h1 => ?_, fun h1 => ?_⟩
    · have hbl : b < 2 ^ nw := by
        have h2 : ((b : Int)) < ((2 ^ nw : Nat) : Int) := of_decide_eq_true h1
        exact_mod_cast h2
      have hb64 : b < 64 := Nat.lt_of_lt_of_le hbl hW
      have hsu := sucW b hb64
      have hokT : okT (tM a1 b) := ⟨⟨Int.natCast_nonneg _, by show (a1 : Int) < 64; omega⟩, ⟨Int.natCast_nonneg _, by show (b : Int) < 64; omega⟩⟩
      refine ⟨⟨Int.natCast_nonneg _, by show (b : Int) < 64; omega⟩, fun hgt => ?_, fun hle => ?_⟩
      · have hno : isM (((nf : Int), (nw : Int), li), ks, r0, r1, r2, r3, r4, r5) hd (tM a1 b) = false := isM_big (of_decide_eq_true hgt)
        exact ⟨⟨(a1, b + 1), ha1, hbl, good_no hno hq1⟩, ⟨rfl, rfl, congrArg _ hsu⟩, dec1 hbl, rfl⟩
      · have hle' : popM (b : Int) ≤ li := by
          have h9 : ¬ popM (b : Int) > li := of_decide_eq_false hle
          omega
        refine ⟨⟨((a1, b), 0), ha1, hbl, hle', Nat.zero_le _, (fun k hk => absurd hk (Nat.not_lt_zero _)), hq1⟩, ⟨⟨rfl, rfl, rfl, rfl, rfl⟩, rfl, rfl⟩, ?_⟩
        rintro ⟨⟨⟨a2, b2⟩, k⟩, ha2, hb2, hp2, hk2, hs2, hq2⟩ hr2
        have hr2' : (a2, b2) = (a1, b) := hr2
        cases hr2'
        refine ⟨fun h2 => ?_, fun h2 => ?_⟩
        · have hkl : k < nw := by
            have h3 : ((k : Int)) < (nw : Int) := of_decide_eq_true h2
            exact_mod_cast h3
          have hksu : IntKind.i64.wrap ((k : Int) + 1) = ((k + 1 : Nat) : Int) := by rw [wrap_id (by omega) (by omega)]; rfl
          refine ⟨⟨Int.natCast_nonneg _, by show (k : Int) < 6; omega⟩, fun hk => ?_, fun hk => ?_, fun hk => ?_, fun hk => ?_, fun hk => ?_, fun hk => ?_⟩
          all_goals
            have hk' := Int.ofNat.inj hk
            simp only at hk'
            subst hk'
          · have hr := hx.rows 0
            refine ⟨⟨hE.1, hE.2, by decide, by decide⟩, fun hh => ⟨⟨Nat.lt_of_lt_of_le hr.1 (by decide), hokT, hr.2⟩, ⟨Int.natCast_nonneg _, by show (b : Int) < 64; omega, by decide, by decide⟩, fun hbad => ?_, fun hgood => ?_⟩, fun hh => ?_⟩
            · have hno : isM (((nf : Int), (nw : Int), li), ks, r0, r1, r2, r3, r4, r5) hd (tM a1 b) = false := isM_says hkl (sayM_no hh hbad)
              exact ⟨⟨(a1, b + 1), ha1, hbl, good_no hno hq1⟩, ⟨rfl, rfl, congrArg _ hsu⟩, dec1 hbl, rfl⟩
            · exact ⟨⟨((a1, b), 0 + 1), ha1, hbl, hle', hkl, below_succ hs2 (sayM_yes hgood), hq1⟩, ⟨⟨rfl, rfl, rfl, rfl, congrArg _ hksu⟩, rfl, rfl⟩, dec1 hkl, rfl⟩
            · exact ⟨⟨((a1, b), 0 + 1), ha1, hbl, hle', hkl, below_succ hs2 (sayM_off hh), hq1⟩, ⟨⟨rfl, rfl, rfl, rfl, congrArg _ hksu⟩, rfl, rfl⟩, dec1 hkl, rfl⟩
          · have hr := hx.rows 1
            refine ⟨⟨hE.1, hE.2, by decide, by decide⟩, fun hh => ⟨⟨Nat.lt_of_lt_of_le hr.1 (by decide), hokT, hr.2⟩, ⟨Int.natCast_nonneg _, by show (b : Int) < 64; omega, by decide, by decide⟩, fun hbad => ?_, fun hgood => ?_⟩, fun hh => ?_⟩
            · have hno : isM (((nf : Int), (nw : Int), li), ks, r0, r1, r2, r3, r4, r5) hd (tM a1 b) = false := isM_says hkl (sayM_no hh hbad)
              exact ⟨⟨(a1, b + 1), ha1, hbl, good_no hno hq1⟩, ⟨rfl, rfl, congrArg _ hsu⟩, dec1 hbl, rfl⟩
            · exact ⟨⟨((a1, b), 1 + 1), ha1, hbl, hle', hkl, below_succ hs2 (sayM_yes hgood), hq1⟩, ⟨⟨rfl, rfl, rfl, rfl, congrArg _ hksu⟩, rfl, rfl⟩, dec1 hkl, rfl⟩
            · exact ⟨⟨((a1, b), 1 + 1), ha1, hbl, hle', hkl, below_succ hs2 (sayM_off hh), hq1⟩, ⟨⟨rfl, rfl, rfl, rfl, congrArg _ hksu⟩, rfl, rfl⟩, dec1 hkl, rfl⟩
          · have hr := hx.rows 2
            refine ⟨⟨hE.1, hE.2, by decide, by decide⟩, fun hh => ⟨⟨Nat.lt_of_lt_of_le hr.1 (by decide), hokT, hr.2⟩, ⟨Int.natCast_nonneg _, by show (b : Int) < 64; omega, by decide, by decide⟩, fun hbad => ?_, fun hgood => ?_⟩, fun hh => ?_⟩
            · have hno : isM (((nf : Int), (nw : Int), li), ks, r0, r1, r2, r3, r4, r5) hd (tM a1 b) = false := isM_says hkl (sayM_no hh hbad)
              exact ⟨⟨(a1, b + 1), ha1, hbl, good_no hno hq1⟩, ⟨rfl, rfl, congrArg _ hsu⟩, dec1 hbl, rfl⟩
            · exact ⟨⟨((a1, b), 2 + 1), ha1, hbl, hle', hkl, below_succ hs2 (sayM_yes hgood), hq1⟩, ⟨⟨rfl, rfl, rfl, rfl, congrArg _ hksu⟩, rfl, rfl⟩, dec1 hkl, rfl⟩
            · exact ⟨⟨((a1, b), 2 + 1), ha1, hbl, hle', hkl, below_succ hs2 (sayM_off hh), hq1⟩, ⟨⟨rfl, rfl, rfl, rfl, congrArg _ hksu⟩, rfl, rfl⟩, dec1 hkl, rfl⟩
          · have hr := hx.rows 3
            refine ⟨⟨hE.1, hE.2, by decide, by decide⟩, fun hh => ⟨⟨Nat.lt_of_lt_of_le hr.1 (by decide), hokT, hr.2⟩, ⟨Int.natCast_nonneg _, by show (b : Int) < 64; omega, by decide, by decide⟩, fun hbad => ?_, fun hgood => ?_⟩, fun hh => ?_⟩
            · have hno : isM (((nf : Int), (nw : Int), li), ks, r0, r1, r2, r3, r4, r5) hd (tM a1 b) = false := isM_says hkl (sayM_no hh hbad)
              exact ⟨⟨(a1, b + 1), ha1, hbl, good_no hno hq1⟩, ⟨rfl, rfl, congrArg _ hsu⟩, dec1 hbl, rfl⟩
            · exact ⟨⟨((a1, b), 3 + 1), ha1, hbl, hle', hkl, below_succ hs2 (sayM_yes hgood), hq1⟩, ⟨⟨rfl, rfl, rfl, rfl, congrArg _ hksu⟩, rfl, rfl⟩, dec1 hkl, rfl⟩
            · exact ⟨⟨((a1, b), 3 + 1), ha1, hbl, hle', hkl, below_succ hs2 (sayM_off hh), hq1⟩, ⟨⟨rfl, rfl, rfl, rfl, congrArg _ hksu⟩, rfl, rfl⟩, dec1 hkl, rfl⟩
          · have hr := hx.rows 4
            refine ⟨⟨hE.1, hE.2, by decide, by decide⟩, fun hh => ⟨⟨Nat.lt_of_lt_of_le hr.1 (by decide), hokT, hr.2⟩, ⟨Int.natCast_nonneg _, by show (b : Int) < 64; omega, by decide, by decide⟩, fun hbad => ?_, fun hgood => ?_⟩, fun hh => ?_⟩
            · have hno : isM (((nf : Int), (nw : Int), li), ks, r0, r1, r2, r3, r4, r5) hd (tM a1 b) = false := isM_says hkl (sayM_no hh hbad)
              exact ⟨⟨(a1, b + 1), ha1, hbl, good_no hno hq1⟩, ⟨rfl, rfl, congrArg _ hsu⟩, dec1 hbl, rfl⟩
            · exact ⟨⟨((a1, b), 4 + 1), ha1, hbl, hle', hkl, below_succ hs2 (sayM_yes hgood), hq1⟩, ⟨⟨rfl, rfl, rfl, rfl, congrArg _ hksu⟩, rfl, rfl⟩, dec1 hkl, rfl⟩
            · exact ⟨⟨((a1, b), 4 + 1), ha1, hbl, hle', hkl, below_succ hs2 (sayM_off hh), hq1⟩, ⟨⟨rfl, rfl, rfl, rfl, congrArg _ hksu⟩, rfl, rfl⟩, dec1 hkl, rfl⟩
          · have hr := hx.rows 5
            refine ⟨⟨hE.1, hE.2, by decide, by decide⟩, fun hh => ⟨⟨Nat.lt_of_lt_of_le hr.1 (by decide), hokT, hr.2⟩, ⟨Int.natCast_nonneg _, by show (b : Int) < 64; omega, by decide, by decide⟩, fun hbad => ?_, fun hgood => ?_⟩, fun hh => ?_⟩
            · have hno : isM (((nf : Int), (nw : Int), li), ks, r0, r1, r2, r3, r4, r5) hd (tM a1 b) = false := isM_says hkl (sayM_no hh hbad)
              exact ⟨⟨(a1, b + 1), ha1, hbl, good_no hno hq1⟩, ⟨rfl, rfl, congrArg _ hsu⟩, dec1 hbl, rfl⟩
            · exact ⟨⟨((a1, b), 5 + 1), ha1, hbl, hle', hkl, below_succ hs2 (sayM_yes hgood), hq1⟩, ⟨⟨rfl, rfl, rfl, rfl, congrArg _ hksu⟩, rfl, rfl⟩, dec1 hkl, rfl⟩
            · exact ⟨⟨((a1, b), 5 + 1), ha1, hbl, hle', hkl, below_succ hs2 (sayM_off hh), hq1⟩, ⟨⟨rfl, rfl, rfl, rfl, congrArg _ hksu⟩, rfl, rfl⟩, dec1 hkl, rfl⟩
        · have hall : ∀ j, j < nw → sayM (((nf : Int), (nw : Int), li), ks, r0, r1, r2, r3, r4, r5) hd (tM a1 b) j = true := by
            have h3 : ¬ ((k : Int)) < (nw : Int) := of_decide_eq_false h2
            intro j hj
            exact hs2 j (by show j < k; omega)
          refine ⟨⟨((a1, b), 0), ha1, hbl, hle', hall, Nat.zero_le _, (fun j hj => absurd hj (Nat.not_lt_zero _)), hq1⟩, ⟨⟨rfl, rfl, rfl, rfl, ⟨rfl, rfl⟩, rfl⟩, rfl, rfl⟩, ?_⟩
          rintro ⟨⟨⟨a3, b3⟩, j⟩, ha3, hb3, hp3, hs3, hj3, hq3, hq4⟩ hr3
          have hr3' : (a3, b3) = (a1, b) := hr3
          cases hr3'
          refine ⟨fun h3 => ?_, fun h3 => ?_⟩
          · have hjl : j < ks.length := by
              have h4 : ((j : Int)) < (ks.length : Int) := of_decide_eq_true h3
              exact_mod_cast h4
            have hksu : IntKind.i64.wrap ((j : Int) + 1) = ((j + 1 : Nat) : Int) := by rw [wrap_id (by omega) (by omega)]; rfl
            have hkn := hx.known (ks.getD j dfW) (by rw [List.getD_eq_getElem?_getD, List.getElem?_eq_getElem hjl]; exact List.getElem_mem hjl)
            refine ⟨⟨Int.natCast_nonneg _, by show (j : Int) < (ks.length : Int); omega⟩, hjl, ⟨hokT, hkn⟩, fun hbad => ?_, fun hgood => ?_⟩
            · have hbad' : rightM (tM a1 b) (ks.getD j dfW) = false := Bool.not_eq_true' _ ▸ hbad
              have hno : isM (((nf : Int), (nw : Int), li), ks, r0, r1, r2, r3, r4, r5) hd (tM a1 b) = false := isM_known hjl hbad'
              exact ⟨⟨(a1, b + 1), ha1, hbl, good_no hno hq1⟩, ⟨rfl, rfl, congrArg _ hsu⟩, dec1 hbl, rfl⟩
            · have hgood' : rightM (tM a1 b) (ks.getD j dfW) = true := Bool.not_eq_false' _ ▸ hgood
              exact ⟨⟨((a1, b), j + 1), ha1, hbl, hle', hs3, hjl, below_succ hq3 hgood', hq1⟩, ⟨⟨rfl, rfl, rfl, rfl, ⟨rfl, rfl⟩, congrArg _ hksu⟩, rfl, rfl⟩, dec1 hjl, rfl⟩
          · have hyes : isM (((nf : Int), (nw : Int), li), ks, r0, r1, r2, r3, r4, r5) hd (tM a1 b) = true := isM_true hle' hs3 (by
              have h4 : ¬ ((j : Int)) < (ks.length : Int) := of_decide_eq_false h3
              intro i hi
              have hi' : i < ks.length := hi
              exact hq3 i (by show i < j; omega))
            have hm := mem_pre (x := (((nf : Int), (nw : Int), li), ks, r0, r1, r2, r3, r4, r5)) (heard := hd) ha1 hbl hyes
            have hc : clashM (((nf : Int), (nw : Int), li), ks, r0, r1, r2, r3, r4, r5) hd = false := by
              unfold clashM
              cases hA : allM (((nf : Int), (nw : Int), li), ks, r0, r1, r2, r3, r4, r5) hd with
              | nil => rw [hA] at hm; cases hm
              | cons _ _ => rfl
            rw [hc]
    · have hbl : b = 2 ^ nw := by
        have h2 : ¬ ((b : Int)) < ((2 ^ nw : Nat) : Int) := of_decide_eq_false h1
        have h3 : ¬ b < 2 ^ nw := by intro h; exact h2 (by exact_mod_cast h)
        have : b ≤ 2 ^ nw := hb
        omega
      subst hbl
      exact ⟨⟨a1 + 1, hlt, good_line hq1⟩, congrArg _ (sucW a1 ha64), dec1 hlt⟩
  · have hta : t.1 = 2 ^ nf := by
      have h2 : ¬ ((t.1 : Int)) < ((2 ^ nf : Nat) : Int) := of_decide_eq_false ht
      have h3 : ¬ t.1 < 2 ^ nf := by intro h; exact h2 (by exact_mod_cast h)
      have : t.1 ≤ 2 ^ nf := t.2.1
      omega
    have hg : goodM (((nf : Int), (nw : Int), li), ks, r0, r1, r2, r3, r4, r5) hd (fun _ => false) (2 ^ nf) 0 = true := by rw [← hta]; exact t.2.2
    have hc : clashM (((nf : Int), (nw : Int), li), ks, r0, r1, r2, r3, r4, r5) hd = true := by
      have h5 : (allM (((nf : Int), (nw : Int), li), ks, r0, r1, r2, r3, r4, r5) hd).all (fun _ => false) = true := hg
      unfold clashM
      cases hA : allM (((nf : Int), (nw : Int), li), ks, r0, r1, r2, r3, r4, r5) hd with
      | nil => rfl
      | cons _ _ => rw [hA] at h5; simp at h5
    rw [hc]

theorem clashes_sound : Sound Try.prog 71 clashesS.con := FSpec.sound _ (enter_of Try.func71 (by kernel_rfl) (by kernel_rfl)) clashes_ok
end AE.Pr

namespace AE.Pr
open Go AE Go.Proofs

def proveM (x : RT) (heard : Int) (w : W3) : Bool := !(allM x heard).isEmpty && (allM x heard).all fun t => rightM t w
def someM (x : RT) (heard : Int) (a b : Nat) : Bool := !(preM x heard a b).isEmpty
theorem some_no {x : RT} {heard : Int} {a b : Nat} (h : isM x heard (tM a b) = false) : someM x heard a (b + 1) = someM x heard a b := by
  unfold someM; rw [preM_no _ _ _ _ h]
theorem some_yes {x : RT} {heard : Int} {a b : Nat} (h : isM x heard (tM a b) = true) : someM x heard a (b + 1) = true := by
  unfold someM; rw [preM_yes _ _ _ _ h]; simp
theorem some_line (x : RT) (heard : Int) (a : Nat) : someM x heard a (2 ^ x.1.2.1.toNat) = someM x heard (a + 1) 0 := by
  unfold someM; rw [← preM_line]
def proveHc (x : RT) (heard : Int) (c : W3) (a b : Nat) : Heap UU := rtH x ++ [.one (.cells [.b c.1, .i c.2.1, .b c.2.2] 27), .one (.cells [.b false] 4), .one (.cells [.b (someM x heard a b)] 4), .one (.cells [.ptr 0 0 0 0] 72), .one (.cells [AV.u heard] 78)]
def avRHW (args : List AV) (H : Heap UU) : Option (RT × Int × W3) := match args with
  | [a, b, c] => match avHr H a, avU b, avW c with
    | some a, some b, some c => some (a, b, c)
    | _, _, _ => none
  | _ => none
def provesS : FSpec UU where
  X := RT × Int × W3
  pick := avRHW
  args := fun x => [.ptr 0 0 0 0, AV.u x.2.1, vW x.2.2]
  H := fun x => rtH x.1
  R := fun x => .val ⟨.b (proveM x.1 x.2.1 x.2.2), [], [], []⟩
  pre := fun x => RtOk x.1 ∧ (0 ≤ x.2.1 ∧ x.2.1 < 64) ∧ okW x.2.2
def Tprove : Tab UU := [(50, truthsS.con), (56, rightS.con)]
theorem Tprove_ok : Tprove.Sound Try.prog := .cons truths_sound (.cons right_sound .nil)
set_option maxHeartbeats 0 in
set_option maxRecDepth 100000 in
theorem proves_ok : ∀ x, provesS.pre x → FunOk Try.prog 67 (provesS.args x) (provesS.H x) (provesS.R x) := by
  rintro ⟨⟨⟨f, w, li⟩, ks, r0, r1, r2, r3, r4, r5⟩, hd, p, n, q⟩ ⟨hx, hhd, hwd⟩
  refine fun_ofG (T := Tprove) (L := fun _ => none) (hs := fun _ => []) (sp := fun _ => none) hmix Tprove_ok (tl := fun _ => none) (fun _ _ h => by cases h) (it := onlyAt 4 (itOf Try.prog Tit 81 Try.f81 (itQs ((f, w, li), ks, r0, r1, r2, r3, r4, r5) hd (fun t => rightM t (p, n, q)) 12 13 14 (proveHc ((f, w, li), ks, r0, r1, r2, r3, r4, r5) hd (p, n, q))) (fun _ => []) spIt)) (onlyAt_ok itP_ok) Try.func67 (by kernel_rfl) (by kernel_rfl) ?_
  refine Eq.mp (α :=
      let Z0 := Int.toNat w; let Z1 := Int.toNat f; let Z2 := Value.bool q; let Z3 := Value.bool p; let Z4 := True ∧ True; let Z5 := none; let Z6 := fun (p : Nat × Nat) => Prod.fst p; let Z7 := fun (p : Nat × Nat) => Prod.snd p; let Z8 := List.length r4; let Z9 := List.length r1; let Z10 := List.length r2; let Z11 := List.length ks; let Z12 := List.length r0; let Z13 := List.length r5; let Z14 := List.length r3; let Z15 := Value.bool false; let Z16 := nat_lit 0 = nat_lit 0 ∧ True; let Z17 := (w, li); let Z18 := (n, q); let Z19 := Value.int IntKind.i64 w; let Z20 := Value.int IntKind.i64 f; let Z21 := Value.int IntKind.i64 li; let Z22 := Value.int IntKind.u64 hd; let Z23 := Value.int IntKind.i64 n; let Z24 := nat_lit 0 = nat_lit 0 ∧ nat_lit 0 = nat_lit 0; let Z25 := (↑(nat_lit 0) : Int); let Z26 := (↑(nat_lit 3) : Int); let Z27 := (↑(nat_lit 1) : Int); let Z28 := (↑(nat_lit 2) : Int); let Z29 := (↑(nat_lit 4) : Int); let Z30 := (↑(nat_lit 5) : Int); let Z31 := fun (p : (Nat × Nat) × Nat) => Prod.fst p; let Z32 := fun (p : (Nat × Nat) × Nat) => Prod.snd p; let Z33 := (1 : Int); let Z34 := (6 : Int); let Z35 := (0 : Int); let Z36 := (64 : Int); let Z37 := fun (l : Nat) => Fn.yield l = Fn.yield l; let Z38 := (0 : Nat); let Z39 := Value.slice Z5 (nat_lit 0) (nat_lit 0); let Z40 := (2 : Nat); let Z41 := r0 = r0; let Z42 := r4 = r4; let Z43 := r1 = r1; let Z44 := r2 = r2; let Z45 := r5 = r5; let Z46 := r3 = r3; let Z47 := ks = ks; let Z48 := (r4, r5); let Z49 := (56 : FuncId); let Z50 := (82 : FuncId); let Z51 := Z3 = Z3; let Z52 := Z2 = Z2; let Z53 := AV.v Z39; let Z54 := hasM hd Z27; let Z55 := hasM hd Z29; let Z56 := hasM hd Z28; let Z57 := hasM hd Z26; let Z58 := hasM hd Z30; let Z59 := hasM hd Z25; let Z60 := fun (c : Ci) => Prod.fst c; let Z61 := fun (c : Ci) => Prod.snd c; let Z62 := Z45 ∧ True; let Z63 := nat_lit 0 = nat_lit 0 ∧ Z24; let Z64 := Fn.func Z50; let Z65 := fun (p : (Nat × Nat) × Nat) => Prod.snd (Z31 p); let Z66 := fun (p : (Nat × Nat) × Nat) => Prod.fst (Z31 p); let Z67 := Fn.func Z49; let Z68 := (↑Z11 : Int); let Z69 := Z52 ∧ True; let Z70 := Z13 = Z13; let Z71 := Z11 = Z11; let Z72 := Z9 = Z9; let Z73 := Z10 = Z10; let Z74 := Z12 = Z12; let Z75 := Z14 = Z14; let Z76 := Z8 = Z8; let Z77 := Value.int IntKind.i64 Z27; let Z78 := (f, Z17); let Z79 := Value.int IntKind.i64 Z26; let Z80 := Value.int IntKind.i64 Z29; let Z81 := Value.int IntKind.i64 Z30; let Z82 := Value.int IntKind.i64 Z28; let Z83 := Value.int IntKind.i64 Z25; let Z84 := fun (k : Nat) (p : (Nat × Nat) × Nat) => k < Z32 p; let Z85 := Value.int IntKind.u64 Z35; let Z86 := Value.int IntKind.i64 Z35; let Z87 := fun (l : Nat) => Z37 l ∧ Z4; let Z88 := Z15 = Z15; let Z89 := (p, Z18); let Z90 := Z63 ∧ True; let Z91 := Z35 ≤ hd; let Z92 := (Z35, false); let Z93 := Z21 = Z21; let Z94 := Z22 = Z22; let Z95 := Z19 = Z19; let Z96 := Z23 = Z23; let Z97 := hd < Z36; let Z98 := Z20 = Z20; let Z99 := fun (c : Ci) => Z60 c = true; let Z100 := Z88 ∧ True; let Z101 := Fn.func (nat_lit 82) = Z64; let Z102 := True ∧ Z90; let Z103 := nat_lit 0 = nat_lit 0 ∧ Z71; let Z104 := fun (t : Int × Int) => rightM t Z89; let Z105 := nat_lit 0 = nat_lit 0 ∧ Z72; let Z106 := nat_lit 0 = nat_lit 0 ∧ Z70; let Z107 := nat_lit 0 = nat_lit 0 ∧ Z75; let Z108 := nat_lit 0 = nat_lit 0 ∧ Z74; let Z109 := nat_lit 0 = nat_lit 0 ∧ Z73; let Z110 := nat_lit 0 = nat_lit 0 ∧ Z76; let Z111 := Z94 ∧ True; let Z112 := Value.int IntKind.i64 Z68; let Z113 := fun (p : (Nat × Nat) × Nat) => (↑(Z65 p) : Int); let Z114 := fun (c : Ci) => Prod.fst (Z61 c); let Z115 := fun (c : Ci) => Prod.snd (Z61 c); let Z116 := Z111 ∧ True; let Z117 := nat_lit 2 ^ Z1; let Z118 := nat_lit 2 ^ Z0; let Z119 := Z35 ≤ Z30; let Z120 := Z35 ≤ Z25; let Z121 := Z35 ≤ Z27; let Z122 := Z35 ≤ Z26; let Z123 := fun (p : (Nat × Nat) × Nat) => popM (Z113 p); let Z124 := Z35 ≤ Z28; let Z125 := Z35 ≤ Z29; let Z126 := nat_lit 0 = nat_lit 0 ∧ Z105; let Z127 := nat_lit 0 = nat_lit 0 ∧ Z110; let Z128 := nat_lit 0 = nat_lit 0 ∧ Z109; let Z129 := nat_lit 0 = nat_lit 0 ∧ Z106; let Z130 := nat_lit 0 = nat_lit 0 ∧ Z103; let Z131 := nat_lit 0 = nat_lit 0 ∧ Z108; let Z132 := nat_lit 0 = nat_lit 0 ∧ Z107; let Z133 := Z25 < Z36; let Z134 := Z27 < Z36; let Z135 := Z28 < Z36; let Z136 := Z29 < Z36; let Z137 := Z30 < Z36; let Z138 := Z26 < Z36; let Z139 := Z42 ∧ Z62; let Z140 := Z53 = Z53; let Z141 := (r3, Z48); let Z142 := Z129 ∧ True; let Z143 := fun (c : Ci) => Z114 c = true; let Z144 := (false, Z92); let Z145 := fun (c : Ci) => Prod.fst (Z115 c); let Z146 := fun (c : Ci) => Prod.snd (Z115 c); let Z147 := fun (p : (Nat × Nat) × Nat) => tM (Z66 p) (Z65 p); let Z148 := (↑Z118 : Int); let Z149 := (↑Z117 : Int); let Z150 := Z83 = Z83; let Z151 := Z79 = Z79; let Z152 := Z130 ∧ Z16; let Z153 := Z80 = Z80; let Z154 := Z81 = Z81; let Z155 := Z77 = Z77; let Z156 := Z82 = Z82; let Z157 := Z96 ∧ Z69; let Z158 := Z156 ∧ True; let Z159 := Z154 ∧ True; let Z160 := Z153 ∧ True; let Z161 := Z151 ∧ True; let Z162 := Z155 ∧ True; let Z163 := True ∧ Z152; let Z164 := Z150 ∧ True; let Z165 := fun (c : Ci) => Prod.snd (Z145 c); let Z166 := fun (c : Ci) => Prod.snd (Z146 c); let Z167 := Z46 ∧ Z139; let Z168 := Value.int IntKind.u64 Z149; let Z169 := Value.int IntKind.u64 Z148; let Z170 := Z101 ∧ Z102; let Z171 := Z90 ∧ Z116; let Z172 := fun (c : Ci) => Prod.fst (Z165 c); let Z173 := fun (c : Ci) => Prod.fst (Z166 c); let Z174 := Z170 ∧ True; let Z175 := Z112 = Z112; let Z176 := Z51 ∧ Z157; let Z177 := fun (c : Ci) => Z99 c ∨ Z143 c; let Z178 := (r2, Z141); let Z179 := Z44 ∧ Z167; let Z180 := Z122 ∧ Z138; let Z181 := Z120 ∧ Z133; let Z182 := Z121 ∧ Z134; let Z183 := Z125 ∧ Z136; let Z184 := Z119 ∧ Z137; let Z185 := Z124 ∧ Z135; let Z186 := Z127 ∧ Z142; let Z187 := Z93 ∧ Z163; let Z188 := fun (c : Ci) => Z35 ≤ Z173 c; let Z189 := fun (c : Ci) => Z173 c < Z34; let Z190 := fun (c : Ci) => Z172 c < Z34; let Z191 := fun (c : Ci) => Z35 ≤ Z172 c; let Z192 := Z43 ∧ Z179; let Z193 := Z41 ∧ Z192; let Z194 := Z95 ∧ Z187; let Z195 := (r1, Z178); let Z196 := Z168 = Z168; let Z197 := Z169 = Z169; let Z198 := Z132 ∧ Z186; let Z199 := Z98 ∧ Z194; let Z200 := (r0, Z195); let Z201 := Z128 ∧ Z198; let Z202 := fun (c : Ci) => Z188 c ∧ Z189 c; let Z203 := fun (c : Ci) => Z191 c ∧ Z190 c; let Z204 := Z126 ∧ Z201; let Z205 := (ks, Z200); let Z206 := Z131 ∧ Z204; let Z207 := fun (c : Ci) => Z177 c → Z202 c; let Z208 := (Z78, Z205); let Z209 := proveM Z208 hd Z89; let Z210 := Value.bool Z209; let Z211 := Z206 ∧ Z193; let Z212 := fun (p : (Nat × Nat) × Nat) (k : Nat) => sayM Z208 hd (Z147 p) k; let Z213 := fun (p : (Nat × Nat) × Nat) (k : Nat) => Z212 p k = true; let Z214 := fun (a : Nat) => goodM Z208 hd (fun (t : Int × Int) => Z104 t) a Z38; let Z215 := fun (p : Nat × Nat) => goodM Z208 hd (fun (t : Int × Int) => Z104 t) (Z6 p) (Z7 p); let Z216 := Z47 ∧ Z211; let Z217 := fun (a : Nat) => Z214 a = true; let Z218 := Prod.snd Z208; let Z219 := Prod.fst Z208; let Z220 := fun (p : Nat × Nat) => Z215 p = true; let Z221 := Prod.fst Z219; let Z222 := Prod.snd Z219; let Z223 := fun (k : Nat) (p : (Nat × Nat) × Nat) => Z84 k p → Z213 p k; let Z224 := Int.toNat Z221; let Z225 := fun (p : (Nat × Nat) × Nat) => goodM Z208 hd (fun (t : Int × Int) => Z104 t) (Z66 p) (Z65 p); let Z226 := fun (p : (Nat × Nat) × Nat) => ∀ (k : Nat), Z223 k p; let Z227 := Prod.snd Z222; let Z228 := Prod.fst Z222; let Z229 := Int.toNat Z228; let Z230 := fun (p : (Nat × Nat) × Nat) => Z225 p = true; let Z231 := fun (k : Nat) => k < Z229; let Z232 := fun (p : (Nat × Nat) × Nat) => Z32 p ≤ Z229; let Z233 := Prod.fst Z218; let Z234 := fun (c : Ci) => Z203 c ∧ Z207 c; let Z235 := Z40 ^ Z224; let Z236 := List.length Z233; let Z237 := fun (j : Nat) => List.getD Z233 j dfW; let Z238 := fun (p : (Nat × Nat) × Nat) => Z123 p ≤ Z227; let Z239 := Z40 ^ Z229; let Z240 := fun (a : Nat) => a ≤ Z235; let Z241 := fun (p : Nat × Nat) => Z6 p < Z235; let Z242 := fun (p : (Nat × Nat) × Nat) => Z32 p ≤ Z236; let Z243 := fun (p : Nat × Nat) => Z7 p ≤ Z239; let Z244 := fun (p : (Nat × Nat) × Nat) => Z66 p < Z235; let Z245 := fun (p : (Nat × Nat) × Nat) => Z65 p < Z239; let Z246 := fun (p : (Nat × Nat) × Nat) (j : Nat) => rightM (Z147 p) (Z237 j); let Z247 := fun (p : (Nat × Nat) × Nat) (j : Nat) => Z246 p j = true; let Z248 := Z199 ∧ Z216; let Z249 := True ∧ Z248; let Z250 := fun (j : Nat) (p : (Nat × Nat) × Nat) => Z84 j p → Z247 p j; let Z251 := fun (p : (Nat × Nat) × Nat) => ∀ (j : Nat), Z250 j p; let Z252 := fun (k : Nat) (p : (Nat × Nat) × Nat) => Z231 k → Z213 p k; let Z253 := fun (p : (Nat × Nat) × Nat) => ∀ (k : Nat), Z252 k p; let Z254 := fun (p : (Nat × Nat) × Nat) => Z226 p ∧ Z230 p; let Z255 := fun (a : Nat) => Z240 a ∧ Z217 a; let Z256 : Type := { a : Nat // Z255 a }; let Z257 := fun (x : Z256) => Subtype.val x; let Z258 := fun (p : Nat × Nat) => Z243 p ∧ Z220 p; let Z259 := fun (x : Z256) => (↑(Z257 x) : Int); let Z260 := fun (x : Z256) => Value.int IntKind.u64 (Z259 x); let Z261 := fun (x : Z256) => Z117 - Z257 x; let Z262 := fun (t : Z256) => Z259 t < Z149; let Z263 := fun (p : (Nat × Nat) × Nat) => Z251 p ∧ Z230 p; let Z264 := fun (x : Z256) => someM Z208 hd (Z257 x) (nat_lit 0); let Z265 := fun (x : Z256) => Value.bool (Z264 x); let Z266 := fun (p : (Nat × Nat) × Nat) => Z232 p ∧ Z254 p; let Z267 := fun (p : Nat × Nat) => Z241 p ∧ Z258 p; let Z268 : Type := { p : Nat × Nat // Z267 p }; let Z269 := fun (x : Z268) => Subtype.val x; let Z270 := fun (x : Z268) => Prod.snd (Z269 x); let Z271 := fun (x : Z268) => Prod.fst (Z269 x); let Z272 := fun (x : Z268) => (↑(Z270 x) : Int); let Z273 := fun (x : Z268) => (↑(Z271 x) : Int); let Z274 := fun (t : Z268) => popM (Z272 t); let Z275 := fun (x : Z268) => Value.int IntKind.u64 (Z272 x); let Z276 := fun (x : Z268) => Value.int IntKind.u64 (Z273 x); let Z277 := fun (t : Z268) => Z274 t > li; let Z278 := fun (x : Z268) => Z118 - Z270 x; let Z279 := fun (p : (Nat × Nat) × Nat) => Z242 p ∧ Z263 p; let Z280 := fun (t : Z268) => Z272 t < Z148; let Z281 := fun (p : (Nat × Nat) × Nat) => Z238 p ∧ Z266 p; let Z282 := fun (p : (Nat × Nat) × Nat) => Z245 p ∧ Z281 p; let Z283 := fun (p : (Nat × Nat) × Nat) => Z253 p ∧ Z279 p; let Z284 := fun (t : Z256) (x : Z268) => Z260 t = Z276 x; let Z285 := fun (t : Z256) => decide (Z262 t); let Z286 := fun (p : (Nat × Nat) × Nat) => Z244 p ∧ Z282 p; let Z287 := fun (p : (Nat × Nat) × Nat) => Z238 p ∧ Z283 p; let Z288 : Type := { p : (Nat × Nat) × Nat // Z286 p }; let Z289 := fun (x : Z288) => Subtype.val x; let Z290 := fun (x : Z288) => Prod.snd (Z289 x); let Z291 := fun (x : Z288) => Prod.fst (Z289 x); let Z292 := fun (t x : Z268) => Z271 t = Z271 x; let Z293 := fun (x : Z288) => Prod.fst (Z291 x); let Z294 := fun (x : Z288) => Prod.snd (Z291 x); let Z295 := fun (x : Z288) => (↑(Z290 x) : Int); let Z296 := fun (x : Z288) => (↑(Z293 x) : Int); let Z297 := fun (x : Z288) => (↑(Z294 x) : Int); let Z298 := fun (x : Z288) => Value.int IntKind.i64 (Z295 x); let Z299 := fun (t : Z288) => Z295 t < w; let Z300 := fun (x : Z288) => Z0 - Z290 x; let Z301 := fun (x : Z288) => Value.int IntKind.u64 (Z296 x); let Z302 := fun (x : Z288) => Value.int IntKind.u64 (Z297 x); let Z303 := fun (t : Z288) => hasM (Z297 t) Z29; let Z304 := fun (t : Z288) => hasM (Z297 t) Z26; let Z305 := fun (t : Z288) => hasM (Z297 t) Z30; let Z306 := fun (t : Z288) => hasM (Z297 t) Z28; let Z307 := fun (t : Z288) => hasM (Z297 t) Z27; let Z308 := fun (t : Z288) => hasM (Z297 t) Z25; let Z309 := fun (t : Z288) => Z35 ≤ Z297 t; let Z310 := fun (t : Z288) => Z35 ≤ Z296 t; let Z311 := fun (t : Z288) => Z297 t < Z36; let Z312 := fun (t : Z288) => Z296 t < Z36; let Z313 := fun (t : Z288) => Z295 t + Z33; let Z314 := fun (t x : Z268) => Z276 t = Z276 x; let Z315 := fun (t : Z288) => Z297 t + Z33; let Z316 := fun (t : Z288) => IntKind.wrap IntKind.i64 (Z313 t); let Z317 := fun (t : Z288) => IntKind.wrap IntKind.u64 (Z315 t); let Z318 := fun (t : Z288) => Value.int IntKind.i64 (Z316 t); let Z319 := fun (t : Z288) => Value.int IntKind.u64 (Z317 t); let Z320 := fun (x t : Z268) => Z278 x < Z278 t; let Z321 := fun (x : Z268) => someM Z208 hd (Z271 x) (Z270 x); let Z322 := fun (x : Z268) => Value.bool (Z321 x); let Z323 := fun (p : (Nat × Nat) × Nat) => Z245 p ∧ Z287 p; let Z324 := fun (t : Z268) => decide (Z277 t); let Z325 := fun (t : Z268) => decide (Z280 t); let Z326 := fun (p : (Nat × Nat) × Nat) => Z244 p ∧ Z323 p; let Z327 : Type := { p : (Nat × Nat) × Nat // Z326 p }; let Z328 := fun (x : Z327) => Subtype.val x; let Z329 := fun (x : Z327) => Prod.snd (Z328 x); let Z330 := fun (x : Z327) => Prod.fst (Z328 x); let Z331 := fun (x : Z327) => Prod.snd (Z330 x); let Z332 := fun (x : Z327) => Prod.fst (Z330 x); let Z333 := fun (x : Z327) => (↑(Z329 x) : Int); let Z334 := fun (t : Z327) => Int.toNat (Z333 t); let Z335 := fun (x : Z327) => (↑(Z332 x) : Int); let Z336 := fun (x : Z327) => (↑(Z331 x) : Int); let Z337 := fun (x : Z327) => Value.int IntKind.i64 (Z333 x); let Z338 := fun (x : Z327) => Value.int IntKind.u64 (Z336 x); let Z339 := fun (x : Z327) => Z11 - Z329 x; let Z340 := fun (x : Z327) => Value.int IntKind.u64 (Z335 x); let Z341 := fun (t : Z327) => nat_lit 0 + Z334 t; let Z342 := fun (t : Z327) => Z333 t < Z68; let Z343 := fun (t : Z327) => Z35 ≤ Z335 t; let Z344 := fun (t : Z327) => Z35 ≤ Z336 t; let Z345 := fun (t : Z327) => Z336 t < Z36; let Z346 := fun (t : Z327) => Z335 t < Z36; let Z347 := fun (t : Z327) => Z336 t + Z33; let Z348 := fun (t : Z327) => IntKind.wrap IntKind.u64 (Z347 t); let Z349 := fun (t : Z327) => Value.int IntKind.u64 (Z348 t); let Z350 := fun (t : Z327) => List.getD ks (Z341 t) Z144; let Z351 := fun (t : Z327) => Prod.fst (Z350 t); let Z352 := fun (t : Z327) => Prod.snd (Z350 t); let Z353 := fun (t : Z327) => Value.bool (Z351 t); let Z354 := fun (t : Z327) => Prod.snd (Z352 t); let Z355 := fun (t : Z327) => Prod.fst (Z352 t); let Z356 := fun (t : Z327) => Value.bool (Z354 t); let Z357 := fun (t : Z327) => Value.int IntKind.i64 (Z355 t); let Z358 := fun (t : Z268) (x : Z288) => Z275 t = Z302 x; let Z359 := fun (t : Z288) (x : Z268) => Z301 t = Z276 x; let Z360 := fun (t : Z268) (x : Z288) => Z276 t = Z301 x; let Z361 := fun (t : Z288) (x : Z268) => Z319 t = Z275 x; let Z362 := fun (t : Z288) (x : Z268) => Z361 t x ∧ True; let Z363 := fun (t : Z288) (x : Z268) => Z197 ∧ Z362 t x; let Z364 := fun (t : Z327) (x : Z268) => Z340 t = Z276 x; let Z365 := fun (t : Z327) (x : Z268) => Z349 t = Z275 x; let Z366 := fun (t : Z327) (x : Z268) => Z365 t x ∧ True; let Z367 := fun (t : Z327) (x : Z268) => Z197 ∧ Z366 t x; let Z368 := fun (t x : Z288) => Z291 t = Z291 x; let Z369 := fun (t : Z288) => (Z296 t, Z297 t); let Z370 := fun (t : Z288) => liesM (Z369 t) r4; let Z371 := fun (t : Z288) => liesM (Z369 t) r2; let Z372 := fun (t : Z288) => liesM (Z369 t) r3; let Z373 := fun (t : Z288) => liesM (Z369 t) r1; let Z374 := fun (t : Z288) => liesM (Z369 t) r5; let Z375 := fun (t : Z288) => liesM (Z369 t) r0; let Z376 := fun (x t : Z288) => Z300 x < Z300 t; let Z377 := fun (t : Z288) => Z301 t = Z301 t; let Z378 := fun (t : Z288) => Z302 t = Z302 t; let Z379 := fun (t x : Z288) => Z301 t = Z301 x; let Z380 := fun (t x : Z288) => Z302 t = Z302 x; let Z381 := fun (t : Z288) => Z378 t ∧ True; let Z382 := fun (t x : Z288) => Z380 t x ∧ True; let Z383 := fun (t : Z288) => Z309 t ∧ Z311 t; let Z384 := fun (t : Z288) => Z310 t ∧ Z312 t; let Z385 := fun (t x : Z288) => Z318 t = Z298 x; let Z386 := fun (t x : Z288) => Z385 t x ∧ True; let Z387 := fun (t x : Z288) => Z95 ∧ Z386 t x; let Z388 := fun (x t x_1 : Z268) => Z320 x t ∧ Z292 x x_1; let Z389 := fun (t x : Z288) => Z63 ∧ Z387 t x; let Z390 := fun (x : Z288) => someM Z208 hd (Z293 x) (Z294 x); let Z391 := fun (x : Z288) => Value.bool (Z390 x); let Z392 := fun (t : Z288) => decide (Z299 t); let Z393 := fun (t : Z288) (x : Z327) => Z301 t = Z340 x; let Z394 := fun (t : Z288) (x : Z327) => Z302 t = Z338 x; let Z395 := fun (t : Z288) (x : Z327) => Z394 t x ∧ True; let Z396 := fun (t x : Z327) => Z330 t = Z330 x; let Z397 := fun (t : Z327) => (Z335 t, Z336 t); let Z398 := fun (t : Z327) => Z340 t = Z340 t; let Z399 := fun (t x : Z327) => Z338 t = Z338 x; let Z400 := fun (t x : Z327) => Z340 t = Z340 x; let Z401 := fun (t : Z327) => Z338 t = Z338 t; let Z402 := fun (t x : Z327) => Z399 t x ∧ True; let Z403 := fun (t : Z327) => Z401 t ∧ True; let Z404 := fun (t : Z327) => rightM (Z397 t) Z89; let Z405 := fun (t : Z327) => !Z404 t; let Z406 := fun (t : Z327) => Z344 t ∧ Z345 t; let Z407 := fun (t : Z327) => Z343 t ∧ Z346 t; let Z408 := fun (x : Z327) => someM Z208 hd (Z332 x) (Z331 x); let Z409 := fun (x : Z327) => Value.bool (Z408 x); let Z410 := fun (t : Z327) => decide (Z342 t); let Z411 := fun (t : Z288) => Z371 t == Z306 t; let Z412 := fun (t : Z288) => Z373 t == Z307 t; let Z413 := fun (t : Z288) => Z374 t == Z305 t; let Z414 := fun (t : Z288) => Z370 t == Z303 t; let Z415 := fun (t : Z288) => Z372 t == Z304 t; let Z416 := fun (t : Z288) => Z375 t == Z308 t; let Z417 := fun (t : Z288) => !Z414 t; let Z418 := fun (t : Z288) => !Z412 t; let Z419 := fun (t : Z288) => !Z413 t; let Z420 := fun (t : Z288) => !Z415 t; let Z421 := fun (t : Z288) => !Z416 t; let Z422 := fun (t : Z288) => !Z411 t; let Z423 := fun (t : Z288) (x : Z268) => Z359 t x ∧ Z363 t x; let Z424 := fun (t : Z288) (x : Z268) => Z391 t = Z322 x; let Z425 := fun (t : Z288) (x : Z268) => Z424 t x ∧ True; let Z426 := fun (t : Z288) (x : Z268) => Z425 t x ∧ Z171; let Z427 := fun (t : Z288) (x : Z268) => Z100 ∧ Z426 t x; let Z428 := fun (t : Z288) (x : Z268) => Z176 ∧ Z427 t x; let Z429 := fun (t : Z288) (x : Z268) => Z45 ∧ Z428 t x; let Z430 := fun (t : Z288) (x : Z268) => Z42 ∧ Z429 t x; let Z431 := fun (t : Z288) (x : Z268) => Z46 ∧ Z430 t x; let Z432 := fun (t : Z288) (x : Z268) => Z44 ∧ Z431 t x; let Z433 := fun (t : Z288) (x : Z268) => Z43 ∧ Z432 t x; let Z444 := fun (t : Z288) => (Z377 t ∧ Z381 t) ∧ True; let Z446 := fun (t : Z288) => Z384 t ∧ Z383 t; let Z493 := fun (l : Nat) (t : Z288) (t_1 x : Z268) => True ∧ ∃ (x_1 : Z268), ((Z87 l ∧ Z63 ∧ Z63 ∧ Z196 ∧ Z359 t x_1 ∧ Z423 t x_1) ∧ True ∧ Z199 ∧ Z47 ∧ Z206 ∧ Z41 ∧ Z433 t x_1) ∧ Z388 x_1 t_1 x; let Z497 := fun (l : Nat) (t x : Z288) => True ∧ ∃ (x_1 : Z288), ((Z87 l ∧ Z63 ∧ Z63 ∧ Z196 ∧ Z379 t x_1 ∧ Z379 t x_1 ∧ Z197 ∧ Z380 t x_1 ∧ Z380 t x_1 ∧ Z389 t x_1) ∧ True ∧ Z199 ∧ Z47 ∧ Z206 ∧ Z41 ∧ Z43 ∧ Z44 ∧ Z46 ∧ Z42 ∧ Z45 ∧ Z176 ∧ Z100 ∧ (Z391 t = Z391 x_1 ∧ True) ∧ Z90 ∧ Z111 ∧ (Z379 t x_1 ∧ Z382 t x_1) ∧ True) ∧ Z376 x_1 t ∧ Z368 x_1 x; True ∧ (Z63 ∧ Z111) ∧ Z4 ∧ ∀ (l : Nat), Z35 ≤ f ∧ (∃ (x : Z256), (Z87 l ∧ Z63 ∧ Z63 ∧ Value.int IntKind.u64 (IntKind.wrap IntKind.u64 (Z33 * (2 : Int) ^ min Z1 (nat_lit 64))) = Z168 ∧ Z85 = Z260 x ∧ True) ∧ True ∧ Z199 ∧ Z47 ∧ Z206 ∧ Z41 ∧ Z43 ∧ Z44 ∧ Z46 ∧ Z42 ∧ Z45 ∧ Z176 ∧ Z100 ∧ (Z265 x = Z15 ∧ True) ∧ Z171) ∧ ∀ (t : Z256), (Z285 t = true → (Z35 ≤ w ∧ w ≤ Z34) ∧ Z90 ∧ ((True ∧ Z95 ∧ True ∧ True ∧ True ∧ Z4) ∧ True) ∧ ∃ (x : Z268), ((Z87 l ∧ Z63 ∧ Z63 ∧ Z196 ∧ Z284 t x ∧ Z284 t x ∧ Value.int IntKind.u64 (IntKind.wrap IntKind.u64 (everyM Z0 + Z33)) = Z169 ∧ Z85 = Z275 x ∧ True) ∧ True ∧ Z199 ∧ Z47 ∧ Z206 ∧ Z41 ∧ Z43 ∧ Z44 ∧ Z46 ∧ Z42 ∧ Z45 ∧ Z176 ∧ Z100 ∧ (Z265 t = Z322 x ∧ True) ∧ Z171) ∧ Z271 x = Z271 x ∧ ∀ (t_1 : Z268), Z292 t_1 x → (Z325 t_1 = true → (Z35 ≤ Z272 t_1 ∧ Z272 t_1 < Z36) ∧ (Z275 t_1 = Z275 t_1 ∧ True) ∧ True ∧ (Z324 t_1 = true → True ∧ ∃ (x_1 : Z268), ((Z87 l ∧ Z63 ∧ Z63 ∧ Z196 ∧ Z314 t_1 x_1 ∧ Z314 t_1 x_1 ∧ Z197 ∧ Value.int IntKind.u64 (IntKind.wrap IntKind.u64 (Z272 t_1 + Z33)) = Z275 x_1 ∧ True) ∧ True ∧ Z199 ∧ Z47 ∧ Z206 ∧ Z41 ∧ Z43 ∧ Z44 ∧ Z46 ∧ Z42 ∧ Z45 ∧ Z176 ∧ Z100 ∧ (Z322 t_1 = Z322 x_1 ∧ True) ∧ Z171) ∧ Z388 x_1 t_1 x) ∧ (Z324 t_1 = false → ∃ (x_1 : Z288), ((Z87 l ∧ Z63 ∧ Z63 ∧ Z196 ∧ Z360 t_1 x_1 ∧ Z360 t_1 x_1 ∧ Z197 ∧ Z358 t_1 x_1 ∧ Z358 t_1 x_1 ∧ Z63 ∧ Z95 ∧ Z86 = Z298 x_1 ∧ True) ∧ True ∧ Z199 ∧ Z47 ∧ Z206 ∧ Z41 ∧ Z43 ∧ Z44 ∧ Z46 ∧ Z42 ∧ Z45 ∧ Z176 ∧ Z100 ∧ (Z322 t_1 = Z391 x_1 ∧ True) ∧ Z90 ∧ Z111 ∧ (Z360 t_1 x_1 ∧ Z358 t_1 x_1 ∧ True) ∧ True) ∧ Z291 x_1 = Z291 x_1 ∧ ∀ (t : Z288), Z368 t x_1 → (Z392 t = true → (Z35 ≤ Z295 t ∧ Z295 t < (↑(nat_lit 6) : Int)) ∧ (Z295 t = Z25 → (Z91 ∧ Z97 ∧ Z181) ∧ (Z94 ∧ Z164) ∧ True ∧ (Z59 = true → Z140 ∧ (Z12 < nat_lit 1000000 ∧ Z446 t ∧ ∀ (c : Ci), c ∈ r0 → Z234 c) ∧ (Z131 ∧ Z174) ∧ (Z41 ∧ Z444 t) ∧ (Z309 t ∧ Z311 t ∧ Z181) ∧ (Z378 t ∧ Z164) ∧ True ∧ (Z421 t = true → Z493 l t t_1 x) ∧ (Z421 t = false → Z497 l t x_1)) ∧ (Z59 = false → Z497 l t x_1)) ∧ (Z295 t = Z27 → (Z91 ∧ Z97 ∧ Z182) ∧ (Z94 ∧ Z162) ∧ True ∧ (Z54 = true → Z140 ∧ (Z9 < nat_lit 1000000 ∧ Z446 t ∧ ∀ (c : Ci), c ∈ r1 → Z234 c) ∧ (Z126 ∧ Z174) ∧ (Z43 ∧ Z444 t) ∧ (Z309 t ∧ Z311 t ∧ Z182) ∧ (Z378 t ∧ Z162) ∧ True ∧ (Z418 t = true → Z493 l t t_1 x) ∧ (Z418 t = false → Z497 l t x_1)) ∧ (Z54 = false → Z497 l t x_1)) ∧ (Z295 t = Z28 → (Z91 ∧ Z97 ∧ Z185) ∧ (Z94 ∧ Z158) ∧ True ∧ (Z56 = true → Z140 ∧ (Z10 < nat_lit 1000000 ∧ Z446 t ∧ ∀ (c : Ci), c ∈ r2 → Z234 c) ∧ (Z128 ∧ Z174) ∧ (Z44 ∧ Z444 t) ∧ (Z309 t ∧ Z311 t ∧ Z185) ∧ (Z378 t ∧ Z158) ∧ True ∧ (Z422 t = true → Z493 l t t_1 x) ∧ (Z422 t = false → Z497 l t x_1)) ∧ (Z56 = false → Z497 l t x_1)) ∧ (Z295 t = Z26 → (Z91 ∧ Z97 ∧ Z180) ∧ (Z94 ∧ Z161) ∧ True ∧ (Z57 = true → Z140 ∧ (Z14 < nat_lit 1000000 ∧ Z446 t ∧ ∀ (c : Ci), c ∈ r3 → Z234 c) ∧ (Z132 ∧ Z174) ∧ (Z46 ∧ Z444 t) ∧ (Z309 t ∧ Z311 t ∧ Z180) ∧ (Z378 t ∧ Z161) ∧ True ∧ (Z420 t = true → Z493 l t t_1 x) ∧ (Z420 t = false → Z497 l t x_1)) ∧ (Z57 = false → Z497 l t x_1)) ∧ (Z295 t = Z29 → (Z91 ∧ Z97 ∧ Z183) ∧ (Z94 ∧ Z160) ∧ True ∧ (Z55 = true → Z140 ∧ (Z8 < nat_lit 1000000 ∧ Z446 t ∧ ∀ (c : Ci), c ∈ r4 → Z234 c) ∧ (Z127 ∧ Z174) ∧ (Z42 ∧ Z444 t) ∧ (Z309 t ∧ Z311 t ∧ Z183) ∧ (Z378 t ∧ Z160) ∧ True ∧ (Z417 t = true → Z493 l t t_1 x) ∧ (Z417 t = false → Z497 l t x_1)) ∧ (Z55 = false → Z497 l t x_1)) ∧ (Z295 t = Z30 → (Z91 ∧ Z97 ∧ Z184) ∧ (Z94 ∧ Z159) ∧ True ∧ (Z58 = true → Z140 ∧ (Z13 < nat_lit 1000000 ∧ Z446 t ∧ ∀ (c : Ci), c ∈ r5 → Z234 c) ∧ (Z129 ∧ Z174) ∧ (Z45 ∧ Z444 t) ∧ (Z309 t ∧ Z311 t ∧ Z184) ∧ (Z378 t ∧ Z159) ∧ True ∧ (Z419 t = true → Z493 l t t_1 x) ∧ (Z419 t = false → Z497 l t x_1)) ∧ (Z58 = false → Z497 l t x_1)) ∧ True) ∧ (Z392 t = false → ∃ (x_2 : Z327), ((Z87 l ∧ Z63 ∧ Z63 ∧ Z196 ∧ Z393 t x_2 ∧ Z393 t x_2 ∧ Z197 ∧ Z394 t x_2 ∧ Z394 t x_2 ∧ Z63 ∧ (Fn.func (nat_lit 56) = Z67 ∧ ((Z393 t x_2 ∧ Z395 t x_2) ∧ True) ∧ True) ∧ Z130 ∧ Z175 ∧ Z86 = Z337 x_2 ∧ True) ∧ True ∧ Z199 ∧ Z47 ∧ Z206 ∧ Z41 ∧ Z43 ∧ Z44 ∧ Z46 ∧ Z42 ∧ Z45 ∧ Z176 ∧ Z100 ∧ (Z391 t = Z409 x_2 ∧ True) ∧ Z90 ∧ Z111 ∧ (Z393 t x_2 ∧ Z395 t x_2) ∧ True) ∧ Z330 x_2 = Z330 x_2 ∧ ∀ (t : Z327), Z396 t x_2 → (Z410 t = true → (Z35 ≤ Z333 t ∧ Z342 t) ∧ Z341 t < List.length ks ∧ ((Z407 t ∧ Z406 t) ∧ Z35 ≤ Z355 t ∧ Z355 t < Z34) ∧ ((Z398 t ∧ Z403 t) ∧ (Z353 t = Z353 t ∧ Z357 t = Z357 t ∧ Z356 t = Z356 t ∧ True) ∧ True) ∧ True ∧ ((!rightM (Z397 t) (Z350 t)) = true → True ∧ ∃ (x_3 : Z268), ((Z87 l ∧ Z63 ∧ Z63 ∧ Z196 ∧ Z364 t x_3 ∧ Z364 t x_3 ∧ Z367 t x_3) ∧ True ∧ Z199 ∧ Z47 ∧ Z206 ∧ Z41 ∧ Z43 ∧ Z44 ∧ Z46 ∧ Z42 ∧ Z45 ∧ Z176 ∧ Z100 ∧ (Z409 t = Z322 x_3 ∧ True) ∧ Z171) ∧ Z388 x_3 t_1 x) ∧ ((!rightM (Z397 t) (Z350 t)) = false → True ∧ ∃ (x : Z327), ((Z87 l ∧ Z63 ∧ Z63 ∧ Z196 ∧ Z400 t x ∧ Z400 t x ∧ Z197 ∧ Z399 t x ∧ Z399 t x ∧ Z63 ∧ (Z67 = Z67 ∧ ((Z400 t x ∧ Z402 t x) ∧ True) ∧ True) ∧ Z130 ∧ Z175 ∧ Value.int IntKind.i64 (IntKind.wrap IntKind.i64 (Z333 t + Z33)) = Z337 x ∧ True) ∧ True ∧ Z199 ∧ Z47 ∧ Z206 ∧ Z41 ∧ Z43 ∧ Z44 ∧ Z46 ∧ Z42 ∧ Z45 ∧ Z176 ∧ Z100 ∧ (Z409 t = Z409 x ∧ True) ∧ Z90 ∧ Z111 ∧ (Z400 t x ∧ Z402 t x) ∧ True) ∧ Z339 x < Z339 t ∧ Z396 x x_2)) ∧ (Z410 t = false → l = l ∧ True ∧ ((Z407 t ∧ Z406 t) ∧ Z35 ≤ n ∧ n < Z34) ∧ ((Z398 t ∧ Z403 t) ∧ Z176 ∧ True) ∧ True ∧ (Z405 t = true → True ∧ True ∧ (Z210 = Z15 ∧ True) ∧ Z249) ∧ (Z405 t = false → True ∧ True ∧ ∃ (x_3 : Z268), ((Z87 l ∧ Z63 ∧ Z63 ∧ Z196 ∧ Z364 t x_3 ∧ Z364 t x_3 ∧ Z367 t x_3) ∧ True ∧ Z199 ∧ Z47 ∧ Z206 ∧ Z41 ∧ Z43 ∧ Z44 ∧ Z46 ∧ Z42 ∧ Z45 ∧ Z176 ∧ Z100 ∧ (Z322 x_3 = Value.bool true ∧ True) ∧ Z171) ∧ Z388 x_3 t_1 x))))) ∧ (Z325 t_1 = false → True ∧ ∃ (x : Z256), ((Z87 l ∧ Z63 ∧ Z63 ∧ Z196 ∧ Value.int IntKind.u64 (IntKind.wrap IntKind.u64 (Z273 t_1 + Z33)) = Z260 x ∧ True) ∧ True ∧ Z199 ∧ Z47 ∧ Z206 ∧ Z41 ∧ Z43 ∧ Z44 ∧ Z46 ∧ Z42 ∧ Z45 ∧ Z176 ∧ Z100 ∧ (Z322 t_1 = Z265 x ∧ True) ∧ Z171) ∧ Z261 x < Z261 t)) ∧ (Z285 t = false → True ∧ (Z265 t = Z210 ∧ True) ∧ Z249))
    (by kernel_rfl) ?_
  have hf : 0 ≤ f ∧ f ≤ 6 := hx.f
  have hw : 0 ≤ w ∧ w ≤ 6 := hx.w
  obtain ⟨nf, rfl⟩ := Int.eq_ofNat_of_zero_le hf.1
  obtain ⟨nw, rfl⟩ := Int.eq_ofNat_of_zero_le hw.1
  have hnf : nf ≤ 6 := by omega
  have hnw : nw ≤ 6 := by omega
  have hF := pow64 nf hnf
  have hW := pow64 nw hnw
  have hE := hhd
  have hks : ks.length < 1000 := hx.ks
  simp only [eq_self, true_and, and_true, Int.toNat_natCast, Nat.zero_add, Nat.sub_zero]
  refine fun l => ⟨hf.1, ⟨⟨0, Nat.zero_le _, rfl⟩, ⟨by rw [powW nf hnf], rfl⟩, rfl⟩, fun t => ⟨fun ht => ⟨hw, ?_⟩, fun ht => ?_⟩⟩
  · obtain ⟨a, ha, hqa⟩ := t
    have hlt : a < 2 ^ nf := by
      have h1 : ((a : Int)) < ((2 ^ nf : Nat) : Int) := of_decide_eq_true ht
      exact_mod_cast h1
    refine ⟨⟨(a, 0), hlt, Nat.zero_le _, hqa⟩, ⟨⟨rfl, rfl, congrArg _ (everyW nw hnw), rfl⟩, rfl⟩, ?_⟩
    rintro ⟨⟨a1, b⟩, ha1, hb, hq1⟩ hr1
    have hr1' : a1 = a := hr1
    subst hr1'
    have ha64 : a1 < 64 := Nat.lt_of_lt_of_le ha1 hF
    refine ⟨fun h1 => ?_, fun h1 => ?_⟩
    · have hbl : b < 2 ^ nw := by
        have h2 : ((b : Int)) < ((2 ^ nw : Nat) : Int) := of_decide_eq_true h1
        exact_mod_cast h2
      have hb64 : b < 64 := Nat.lt_of_lt_of_le hbl hW
      have hsu := sucW b hb64
      have hokT : okT (tM a1 b) := ⟨⟨Int.natCast_nonneg _, by show (a1 : Int) < 64; omega⟩, ⟨Int.natCast_nonneg _, by show (b : Int) < 64; omega⟩⟩
      refine ⟨⟨Int.natCast_nonneg _, by show (b : Int) < 64; omega⟩, fun hgt => ?_, fun hle => ?_⟩
      · have hno : isM (((nf : Int), (nw : Int), li), ks, r0, r1, r2, r3, r4, r5) hd (tM a1 b) = false := isM_big (of_decide_eq_true hgt)
        exact ⟨⟨(a1, b + 1), ha1, hbl, good_no hno hq1⟩, ⟨⟨rfl, rfl, congrArg _ hsu⟩, congrArg _ (some_no hno).symm⟩, dec1 hbl, rfl⟩
      · have hle' : popM (b : Int) ≤ li := by
          have h9 : ¬ popM (b : Int) > li := of_decide_eq_false hle
          omega
        refine ⟨⟨((a1, b), 0), ha1, hbl, hle', Nat.zero_le _, (fun k hk => absurd hk (Nat.not_lt_zero _)), hq1⟩, ⟨⟨rfl, rfl, rfl, rfl, rfl⟩, rfl, rfl, rfl⟩, ?_⟩
        rintro ⟨⟨⟨a2, b2⟩, k⟩, ha2, hb2, hp2, hk2, hs2, hq2⟩ hr2
        have hr2' : (a2, b2) = (a1, b) := hr2
        cases hr2'
        refine ⟨fun h2 => ?_, fun h2 => ?_⟩
        · have hkl : k < nw := by
            have h3 : ((k : Int)) < (nw : Int) := of_decide_eq_true h2
            exact_mod_cast h3
          have hksu : IntKind.i64.wrap ((k : Int) + 1) = ((k + 1 : Nat) : Int) := by rw [wrap_id (by omega) (by omega)]; rfl
          refine ⟨⟨Int.natCast_nonneg _, by show (k : Int) < 6; omega⟩, fun hk => ?_, fun hk => ?_, fun hk => ?_, fun hk => ?_, fun hk => ?_, fun hk => ?_⟩
          all_goals
            have hk' := Int.ofNat.inj hk
            simp only at hk'
            subst hk'
          · have hr := hx.rows 0
            refine ⟨⟨hE.1, hE.2, by decide, by decide⟩, fun hh => ⟨⟨Nat.lt_of_lt_of_le hr.1 (by decide), hokT, hr.2⟩, ⟨Int.natCast_nonneg _, by show (b : Int) < 64; omega, by decide, by decide⟩, fun hbad => ?_, fun hgood => ?_⟩, fun hh => ?_⟩
            · have hno : isM (((nf : Int), (nw : Int), li), ks, r0, r1, r2, r3, r4, r5) hd (tM a1 b) = false := isM_says hkl (sayM_no hh hbad)
              exact ⟨⟨(a1, b + 1), ha1, hbl, good_no hno hq1⟩, ⟨⟨rfl, rfl, congrArg _ hsu⟩, congrArg _ (some_no hno).symm⟩, dec1 hbl, rfl⟩
            · exact ⟨⟨((a1, b), 0 + 1), ha1, hbl, hle', hkl, below_succ hs2 (sayM_yes hgood), hq1⟩, ⟨⟨rfl, rfl, rfl, rfl, congrArg _ hksu⟩, rfl, rfl, rfl⟩, dec1 hkl, rfl⟩
            · exact ⟨⟨((a1, b), 0 + 1), ha1, hbl, hle', hkl, below_succ hs2 (sayM_off hh), hq1⟩, ⟨⟨rfl, rfl, rfl, rfl, congrArg _ hksu⟩, rfl, rfl, rfl⟩, dec1 hkl, rfl⟩
          · have hr := hx.rows 1
            refine ⟨⟨hE.1, hE.2, by decide, by decide⟩, fun hh => ⟨⟨Nat.lt_of_lt_of_le hr.1 (by decide), hokT, hr.2⟩, ⟨Int.natCast_nonneg _, by show (b : Int) < 64; omega, by decide, by decide⟩, fun hbad => ?_, fun hgood => ?_⟩, fun hh => ?_⟩
            · have hno : isM (((nf : Int), (nw : Int), li), ks, r0, r1, r2, r3, r4, r5) hd (tM a1 b) = false := isM_says hkl (sayM_no hh hbad)
              exact ⟨⟨(a1, b + 1), ha1, hbl, good_no hno hq1⟩, ⟨⟨rfl, rfl, congrArg _ hsu⟩, congrArg _ (some_no hno).symm⟩, dec1 hbl, rfl⟩
            · exact ⟨⟨((a1, b), 1 + 1), ha1, hbl, hle', hkl, below_succ hs2 (sayM_yes hgood), hq1⟩, ⟨⟨rfl, rfl, rfl, rfl, congrArg _ hksu⟩, rfl, rfl, rfl⟩, dec1 hkl, rfl⟩
            · exact ⟨⟨((a1, b), 1 + 1), ha1, hbl, hle', hkl, below_succ hs2 (sayM_off hh), hq1⟩, ⟨⟨rfl, rfl, rfl, rfl, congrArg _ hksu⟩, rfl, rfl, rfl⟩, dec1 hkl, rfl⟩
          · have hr := hx.rows 2
            refine ⟨⟨hE.1, hE.2, by decide, by decide⟩, fun hh => ⟨⟨Nat.lt_of_lt_of_le hr.1 (by decide), hokT, hr.2⟩, ⟨Int.natCast_nonneg _, by show (b : Int) < 64; omega, by decide, by decide⟩, fun hbad => ?_, fun hgood => ?_⟩, fun hh => ?_⟩
            · have hno : isM (((nf : Int), (nw : Int), li), ks, r0, r1, r2, r3, r4, r5) hd (tM a1 b) = false := isM_says hkl (sayM_no hh hbad)
              exact ⟨⟨(a1, b + 1), ha1, hbl, good_no hno hq1⟩, ⟨⟨rfl, rfl, congrArg _ hsu⟩, congrArg _ (some_no hno).symm⟩, dec1 hbl, rfl⟩
            · exact ⟨⟨((a1, b), 2 + 1), ha1, hbl, hle', hkl, below_succ hs2 (sayM_yes hgood), hq1⟩, ⟨⟨rfl, rfl, rfl, rfl, congrArg _ hksu⟩, rfl, rfl, rfl⟩, dec1 hkl, rfl⟩
            · exact ⟨⟨((a1, b), 2 + 1), ha1, hbl, hle', hkl, below_succ hs2 (sayM_off hh), hq1⟩, ⟨⟨rfl, rfl, rfl, rfl, congrArg _ hksu⟩, rfl, rfl, rfl⟩, dec1 hkl, rfl⟩
          · have hr := hx.rows 3
            refine ⟨⟨hE.1, hE.2, by decide, by decide⟩, fun hh => ⟨⟨Nat.lt_of_lt_of_le hr.1 (by decide), hokT, hr.2⟩, ⟨Int.natCast_nonneg _, by show (b : Int) < 64; omega, by decide, by decide⟩, fun hbad => ?_, fun hgood => ?_⟩, fun hh => ?_⟩
            · have hno : isM (((nf : Int), (nw : Int), li), ks, r0, r1, r2, r3, r4, r5) hd (tM a1 b) = false := isM_says hkl (sayM_no hh hbad)
              exact ⟨⟨(a1, b + 1), ha1, hbl, good_no hno hq1⟩, ⟨⟨rfl, rfl, congrArg _ hsu⟩, congrArg _ (some_no hno).symm⟩, dec1 hbl, rfl⟩
            · exact ⟨⟨((a1, b), 3 + 1), ha1, hbl, hle', hkl, below_succ hs2 (sayM_yes hgood), hq1⟩, ⟨⟨rfl, rfl, rfl, rfl, congrArg _ hksu⟩, rfl, rfl, rfl⟩, dec1 hkl, rfl⟩
            · exact ⟨⟨((a1, b), 3 + 1), ha1, hbl, hle', hkl, below_succ hs2 (sayM_off hh), hq1⟩, ⟨⟨rfl, rfl, rfl, rfl, congrArg _ hksu⟩, rfl, rfl, rfl⟩, dec1 hkl, rfl⟩
          · have hr := hx.rows 4
            refine ⟨⟨hE.1, hE.2, by decide, by decide⟩, fun hh => ⟨⟨Nat.lt_of_lt_of_le hr.1 (by decide), hokT, hr.2⟩, ⟨Int.natCast_nonneg _, by show (b : Int) < 64; omega, by decide, by decide⟩, fun hbad => ?_, fun hgood => ?_⟩, fun hh => ?_⟩
            · have hno : isM (((nf : Int), (nw : Int), li), ks, r0, r1, r2, r3, r4, r5) hd (tM a1 b) = false := isM_says hkl (sayM_no hh hbad)
              exact ⟨⟨(a1, b + 1), ha1, hbl, good_no hno hq1⟩, ⟨⟨rfl, rfl, congrArg _ hsu⟩, congrArg _ (some_no hno).symm⟩, dec1 hbl, rfl⟩
            · exact ⟨⟨((a1, b), 4 + 1), ha1, hbl, hle', hkl, below_succ hs2 (sayM_yes hgood), hq1⟩, ⟨⟨rfl, rfl, rfl, rfl, congrArg _ hksu⟩, rfl, rfl, rfl⟩, dec1 hkl, rfl⟩
            · exact ⟨⟨((a1, b), 4 + 1), ha1, hbl, hle', hkl, below_succ hs2 (sayM_off hh), hq1⟩, ⟨⟨rfl, rfl, rfl, rfl, congrArg _ hksu⟩, rfl, rfl, rfl⟩, dec1 hkl, rfl⟩
          · have hr := hx.rows 5
            refine ⟨⟨hE.1, hE.2, by decide, by decide⟩, fun hh => ⟨⟨Nat.lt_of_lt_of_le hr.1 (by decide), hokT, hr.2⟩, ⟨Int.natCast_nonneg _, by show (b : Int) < 64; omega, by decide, by decide⟩, fun hbad => ?_, fun hgood => ?_⟩, fun hh => ?_⟩
            · have hno : isM (((nf : Int), (nw : Int), li), ks, r0, r1, r2, r3, r4, r5) hd (tM a1 b) = false := isM_says hkl (sayM_no hh hbad)
              exact ⟨⟨(a1, b + 1), ha1, hbl, good_no hno hq1⟩, ⟨⟨rfl, rfl, congrArg _ hsu⟩, congrArg _ (some_no hno).symm⟩, dec1 hbl, rfl⟩
            · exact ⟨⟨((a1, b), 5 + 1), ha1, hbl, hle', hkl, below_succ hs2 (sayM_yes hgood), hq1⟩, ⟨⟨rfl, rfl, rfl, rfl, congrArg _ hksu⟩, rfl, rfl, rfl⟩, dec1 hkl, rfl⟩
            · exact ⟨⟨((a1, b), 5 + 1), ha1, hbl, hle', hkl, below_succ hs2 (sayM_off hh), hq1⟩, ⟨⟨rfl, rfl, rfl, rfl, congrArg _ hksu⟩, rfl, rfl, rfl⟩, dec1 hkl, rfl⟩
        · have hall : ∀ j, j < nw → sayM (((nf : Int), (nw : Int), li), ks, r0, r1, r2, r3, r4, r5) hd (tM a1 b) j = true := by
            have h3 : ¬ ((k : Int)) < (nw : Int) := of_decide_eq_false h2
            intro j hj
            exact hs2 j (by show j < k; omega)
          refine ⟨⟨((a1, b), 0), ha1, hbl, hle', hall, Nat.zero_le _, (fun j hj => absurd hj (Nat.not_lt_zero _)), hq1⟩, ⟨⟨rfl, rfl, rfl, rfl, ⟨rfl, rfl⟩, rfl⟩, rfl, rfl, rfl⟩, ?_⟩
          rintro ⟨⟨⟨a3, b3⟩, j⟩, ha3, hb3, hp3, hs3, hj3, hq3, hq4⟩ hr3
          have hr3' : (a3, b3) = (a1, b) := hr3
          cases hr3'
          refine ⟨fun h3 => ?_, fun h3 => ?_⟩
          · have hjl : j < ks.length := by
              have h4 : ((j : Int)) < (ks.length : Int) := of_decide_eq_true h3
              exact_mod_cast h4
            have hksu : IntKind.i64.wrap ((j : Int) + 1) = ((j + 1 : Nat) : Int) := by rw [wrap_id (by omega) (by omega)]; rfl
            have hkn := hx.known (ks.getD j dfW) (by rw [List.getD_eq_getElem?_getD, List.getElem?_eq_getElem hjl]; exact List.getElem_mem hjl)
            refine ⟨⟨Int.natCast_nonneg _, by show (j : Int) < (ks.length : Int); omega⟩, hjl, ⟨hokT, hkn⟩, fun hbad => ?_, fun hgood => ?_⟩
            · have hbad' : rightM (tM a1 b) (ks.getD j dfW) = false := Bool.not_eq_true' _ ▸ hbad
              have hno : isM (((nf : Int), (nw : Int), li), ks, r0, r1, r2, r3, r4, r5) hd (tM a1 b) = false := isM_known hjl hbad'
              exact ⟨⟨(a1, b + 1), ha1, hbl, good_no hno hq1⟩, ⟨⟨rfl, rfl, congrArg _ hsu⟩, congrArg _ (some_no hno).symm⟩, dec1 hbl, rfl⟩
            · have hgood' : rightM (tM a1 b) (ks.getD j dfW) = true := Bool.not_eq_false' _ ▸ hgood
              exact ⟨⟨((a1, b), j + 1), ha1, hbl, hle', hs3, hjl, below_succ hq3 hgood', hq1⟩, ⟨⟨rfl, rfl, rfl, rfl, ⟨rfl, rfl⟩, congrArg _ hksu⟩, rfl, rfl, rfl⟩, dec1 hjl, rfl⟩
          · have hyes : isM (((nf : Int), (nw : Int), li), ks, r0, r1, r2, r3, r4, r5) hd (tM a1 b) = true := isM_true hle' hs3 (by
              have h4 : ¬ ((j : Int)) < (ks.length : Int) := of_decide_eq_false h3
              intro i hi
              have hi' : i < ks.length := hi
              exact hq3 i (by show i < j; omega))
            have hm := mem_pre (x := (((nf : Int), (nw : Int), li), ks, r0, r1, r2, r3, r4, r5)) (heard := hd) ha1 hbl hyes
            refine ⟨⟨hokT, hwd⟩, fun hbad => ?_, fun hgood => ?_⟩
            · have hbad' : rightM (tM a1 b) (p, n, q) = false := Bool.not_eq_true' _ ▸ hbad
              have hc : proveM (((nf : Int), (nw : Int), li), ks, r0, r1, r2, r3, r4, r5) hd (p, n, q) = false := by
                have h6 : ((allM (((nf : Int), (nw : Int), li), ks, r0, r1, r2, r3, r4, r5) hd).all fun t => rightM t (p, n, q)) = false := List.all_eq_false.2 ⟨_, hm, by rw [hbad']; simp⟩
                unfold proveM
                rw [h6, Bool.and_false]
              rw [hc]
            · have hgood' : rightM (tM a1 b) (p, n, q) = true := Bool.not_eq_false' _ ▸ hgood
              exact ⟨⟨(a1, b + 1), ha1, hbl, good_yes hyes hgood' hq1⟩, ⟨⟨rfl, rfl, congrArg _ hsu⟩, congrArg _ (some_yes hyes)⟩, dec1 hbl, rfl⟩
    · have hbl : b = 2 ^ nw := by
        have h2 : ¬ ((b : Int)) < ((2 ^ nw : Nat) : Int) := of_decide_eq_false h1
        have h3 : ¬ b < 2 ^ nw := by intro h; exact h2 (by exact_mod_cast h)
        have : b ≤ 2 ^ nw := hb
        omega
      subst hbl
      exact ⟨⟨a1 + 1, hlt, good_line hq1⟩, ⟨congrArg _ (sucW a1 ha64), congrArg _ (some_line _ _ _)⟩, dec1 hlt⟩
  · have hta : t.1 = 2 ^ nf := by
      have h2 : ¬ ((t.1 : Int)) < ((2 ^ nf : Nat) : Int) := of_decide_eq_false ht
      have h3 : ¬ t.1 < 2 ^ nf := by intro h; exact h2 (by exact_mod_cast h)
      have : t.1 ≤ 2 ^ nf := t.2.1
      omega
    have hg : goodM (((nf : Int), (nw : Int), li), ks, r0, r1, r2, r3, r4, r5) hd (fun t => rightM t (p, n, q)) (2 ^ nf) 0 = true := by rw [← hta]; exact t.2.2
    have hc : proveM (((nf : Int), (nw : Int), li), ks, r0, r1, r2, r3, r4, r5) hd (p, n, q) = someM (((nf : Int), (nw : Int), li), ks, r0, r1, r2, r3, r4, r5) hd (2 ^ nf) 0 := by
      have h5 : ((allM (((nf : Int), (nw : Int), li), ks, r0, r1, r2, r3, r4, r5) hd).all fun t => rightM t (p, n, q)) = true := hg
      unfold proveM
      rw [h5, Bool.and_true]
      rfl
    rw [hc, hta]

theorem proves_sound : Sound Try.prog 67 provesS.con := FSpec.sound _ (enter_of Try.func67 (by kernel_rfl) (by kernel_rfl)) proves_ok
end AE.Pr

namespace AE.Pr
open Go AE Go.Proofs

/-! ### Proof's closure -/
def avPtrTo (H : Heap UU) (id : Nat) : Option AV := match blkAt H id 0 with
  | some (.cells [a] _) => some a
  | some (.rc [a] _) => some a
  | _ => none
def boxHW (w : W3) : Heap UU := [.one (.rc [.ptr 0 0 0 0] 72), .one (.rc [.b w.1, .i w.2.1, .b w.2.2] 27)]
def avHW (i j : Nat) (H : Heap UU) : Option (RT × W3) := match avPtrTo H i with
  | some p => match avHr H p, avWBox H j with
    | some x, some w => some (x, w)
    | _, _ => none
  | none => none
def suitsS : FSpec UU where
  X := (RT × W3) × Int
  pick := fun args H => match args with
    | [s, .ptr i 0 0 0, .ptr j 0 0 0] => match avU s, avHW i j H with
      | some s, some x => some (x, s)
      | _, _ => none
    | _ => none
  args := fun x => [AV.u x.2, .ptr 9 0 0 0, .ptr 10 0 0 0]
  H := fun x => rtH x.1.1 ++ boxHW x.1.2
  R := fun x => .val ⟨.b (proveM x.1.1 x.2 x.1.2), [], [], []⟩
  pre := fun x => RtOk x.1.1 ∧ (0 ≤ x.2 ∧ x.2 < 64) ∧ okW x.1.2
def Tsuits : Tab UU := [(67, provesS.con)]
theorem Tsuits_ok : Tsuits.Sound Try.prog := .cons proves_sound .nil
set_option maxRecDepth 100000 in
theorem suits_ok : ∀ x, suitsS.pre x → FunOk Try.prog 66 (suitsS.args x) (suitsS.H x) (suitsS.R x) := by
  rintro ⟨⟨⟨⟨f, w, li⟩, ks, r0, r1, r2, r3, r4, r5⟩, p, n, q⟩, s⟩ hx
  refine fun_of (T := Tsuits) (L := fun _ => none) (hs := fun _ => []) hmix Tsuits_ok Try.func66 (by kernel_rfl) (by kernel_rfl) ?_
  refine Eq.mp (α :=
      let Z0 := Value.bool q; let Z1 := Value.bool p; let Z2 := List.length r1; let Z4 := List.length r2; let Z5 := List.length r0; let Z6 := List.length r3; let Z7 := List.length r5; let Z8 := List.length r4; let Z10 := Value.int IntKind.i64 li; let Z11 := Value.int IntKind.i64 f; let Z12 := Value.int IntKind.i64 w; let Z13 := Value.int IntKind.i64 n; let Z14 := nat_lit 0 = nat_lit 0 ∧ nat_lit 0 = nat_lit 0; let Z15 := (0 : Int); let Z16 := r0 = r0; let Z17 := r2 = r2; let Z18 := r3 = r3; let Z19 := r1 = r1; let Z20 := r4 = r4; let Z21 := r5 = r5; let Z22 := ks = ks; let Z36 := (p, n, q); let Z57 := (nat_lit 0 = nat_lit 0 ∧ nat_lit 0 = nat_lit 0 ∧ List.length ks = List.length ks) ∧ nat_lit 0 = nat_lit 0 ∧ True; let Z74 := ((f, w, li), ks, r0, r1, r2, r3, r4, r5); (RtOk Z74 ∧ (Z15 ≤ s ∧ s < (64 : Int)) ∧ Z15 ≤ n ∧ n < (6 : Int)) ∧ ((nat_lit 0 = nat_lit 0 ∧ Z14) ∧ Value.int IntKind.u64 s = Value.int IntKind.u64 s ∧ (Z1 = Z1 ∧ Z13 = Z13 ∧ Z0 = Z0 ∧ True) ∧ True) ∧ ((Z11 = Z11 ∧ Z12 = Z12 ∧ Z10 = Z10 ∧ True ∧ Z57) ∧ Z22 ∧ ((nat_lit 0 = nat_lit 0 ∧ nat_lit 0 = nat_lit 0 ∧ Z5 = Z5) ∧ (nat_lit 0 = nat_lit 0 ∧ nat_lit 0 = nat_lit 0 ∧ Z2 = Z2) ∧ (nat_lit 0 = nat_lit 0 ∧ nat_lit 0 = nat_lit 0 ∧ Z4 = Z4) ∧ (nat_lit 0 = nat_lit 0 ∧ nat_lit 0 = nat_lit 0 ∧ Z6 = Z6) ∧ (nat_lit 0 = nat_lit 0 ∧ nat_lit 0 = nat_lit 0 ∧ Z8 = Z8) ∧ (nat_lit 0 = nat_lit 0 ∧ nat_lit 0 = nat_lit 0 ∧ Z7 = Z7) ∧ True) ∧ Z16 ∧ Z19 ∧ Z17 ∧ Z18 ∧ Z20 ∧ Z21 ∧ True) ∧ True ∧ (Value.bool (proveM Z74 s Z36) = Value.bool (proveM Z74 s Z36) ∧ True) ∧ True ∧ (Z11 = Z11 ∧ Z12 = Z12 ∧ Z10 = Z10 ∧ True ∧ Z57) ∧ Z22 ∧ ((nat_lit 0 = nat_lit 0 ∧ nat_lit 0 = nat_lit 0 ∧ Z5 = Z5) ∧ (nat_lit 0 = nat_lit 0 ∧ nat_lit 0 = nat_lit 0 ∧ Z2 = Z2) ∧ (nat_lit 0 = nat_lit 0 ∧ nat_lit 0 = nat_lit 0 ∧ Z4 = Z4) ∧ (nat_lit 0 = nat_lit 0 ∧ nat_lit 0 = nat_lit 0 ∧ Z6 = Z6) ∧ (nat_lit 0 = nat_lit 0 ∧ nat_lit 0 = nat_lit 0 ∧ Z8 = Z8) ∧ (nat_lit 0 = nat_lit 0 ∧ nat_lit 0 = nat_lit 0 ∧ Z7 = Z7) ∧ True) ∧ Z16 ∧ Z19 ∧ Z17 ∧ Z18 ∧ Z20 ∧ Z21 ∧ ((nat_lit 0 = nat_lit 0 ∧ Z14) ∧ True) ∧ (Z1 = Z1 ∧ Z13 = Z13 ∧ Z0 = Z0 ∧ True) ∧ True)
    (by kernel_rfl) ?_
  have h := hx
  simp only [suitsS, okW] at h
  simpa using h

theorem suits_sound : Sound Try.prog 66 suitsS.con := FSpec.sound _ (enter_of Try.func66 (by kernel_rfl) (by kernel_rfl)) suits_ok

/-! ### smallest: in plain Lean -/
def fitsM (suits : Int → Bool) (z s : Nat) : Bool := popM s == (z : Int) && suits s
def searchM (m : Nat) (suits : Int → Bool) : Option Nat := (List.range (m + 1)).findSome? fun z => (List.range (2 ^ m)).find? (fitsM suits z)
def restM (m : Nat) (suits : Int → Bool) (z s : Nat) : Option Nat :=
  ((List.range' s (2 ^ m - s)).find? (fitsM suits z)).or ((List.range' (z + 1) (m - z)).findSome? fun z => (List.range (2 ^ m)).find? (fitsM suits z))
theorem rest_hit {m : Nat} {suits : Int → Bool} {z s : Nat} (hs : s < 2 ^ m) (h : fitsM suits z s = true) : restM m suits z s = some s := by
  unfold restM
  rw [show 2 ^ m - s = (2 ^ m - (s + 1)) + 1 by omega, List.range'_succ, List.find?_cons, h]; rfl
theorem rest_miss {m : Nat} {suits : Int → Bool} {z s : Nat} (hs : s < 2 ^ m) (h : fitsM suits z s = false) : restM m suits z (s + 1) = restM m suits z s := by
  unfold restM
  rw [show 2 ^ m - s = (2 ^ m - (s + 1)) + 1 by omega, List.range'_succ, List.find?_cons, h]
theorem rest_line {m : Nat} {suits : Int → Bool} {z : Nat} (hz : z < m) : restM m suits (z + 1) 0 = restM m suits z (2 ^ m) := by
  unfold restM
  rw [show m - z = (m - (z + 1)) + 1 by omega, List.range'_succ, List.findSome?_cons, Nat.sub_self, Nat.sub_zero, ← List.range_eq_range']
  simp only [List.range'_zero, List.find?_nil, Option.none_or]
  cases (List.range (2 ^ m)).find? (fitsM suits (z + 1)) <;> rfl
theorem rest_end {m : Nat} {suits : Int → Bool} : restM m suits m (2 ^ m) = none := by
  unfold restM; simp
theorem rest_all {m : Nat} {suits : Int → Bool} : restM m suits 0 0 = searchM m suits := by
  unfold restM searchM
  rw [Nat.sub_zero, Nat.sub_zero, ← List.range_eq_range', Nat.zero_add, List.range_eq_range' (n := m + 1), List.range'_succ, List.findSome?_cons]
  cases (List.range (2 ^ m)).find? (fitsM suits 0) <;> rfl
/-- What is returned: the set; was one found? -/
def bestM (m : Nat) (suits : Int → Bool) : Int × Bool := match searchM m suits with
  | some s => ((s : Int), true)
  | none => (0, false)

def smL1 (m : Nat) (suits : Int → Bool) (fn : AV) (H : Heap UU) : LSpec UU where
  T := { z : Nat // z ≤ m + 1 ∧ (z ≤ m → restM m suits z 0 = searchM m suits) ∧ (z = m + 1 → searchM m suits = none) }
  fr := fun z => [(0, .i m), (1, fn), (9, .i (m + 1 : Nat)), (10, .i z.1)]
  H := fun _ => H
  mu := fun z => m + 1 - z.1
def smL2 (m : Nat) (suits : Int → Bool) (fn : AV) (H : Heap UU) : LSpec UU where
  T := { p : Nat × Nat // p.1 ≤ m ∧ p.2 ≤ 2 ^ m ∧ restM m suits p.1 p.2 = searchM m suits }
  fr := fun p => [(0, .i m), (1, fn), (9, .i (m + 1 : Nat)), (10, .i p.1.1), (6, .i p.1.1), (14, AV.u (2 ^ m : Nat)), (15, AV.u p.1.2)]
  H := fun _ => H
  mu := fun p => 2 ^ m - p.1.2
def smLs (m : Nat) (suits : Int → Bool) (fn : AV) (H : Heap UU) (k : Nat) : Option (LRule UU) :=
  match k with
  | 2 => some (.inv (smL1 m suits fn H))
  | 5 => some (.invR (smL2 m suits fn H) fun a b => b.1.1 = a.1.1)
  | _ => none

/-! ### smallest, for clashes -/
def smallCS : FSpec UU where
  X := Int × RT
  pick := fun args H => match args with
    | [m, .fn (.func 71) [p] []] => match avInt m, avHr H p with
      | some m, some x => some (m, x)
      | _, _ => none
    | _ => none
  args := fun x => [.i x.1, .fn (.func 71) [.ptr 0 0 0 0] []]
  H := fun x => rtH x.2
  R := fun x => .val ⟨.tup [AV.u (bestM x.1.toNat fun s => clashM x.2 s).1, .b (bestM x.1.toNat fun s => clashM x.2 s).2], [], [], []⟩
  pre := fun x => (0 ≤ x.1 ∧ x.1 ≤ 6) ∧ RtOk x.2
def Tsmall : Tab UU := [(60, popS.con), (71, clashesS.con), (66, suitsS.con)]
theorem Tsmall_ok : Tsmall.Sound Try.prog := .cons size_sound (.cons clashes_sound (.cons suits_sound .nil))
set_option maxHeartbeats 0 in
set_option maxRecDepth 100000 in
theorem smallC_ok : ∀ x, smallCS.pre x → FunOk Try.prog 65 (smallCS.args x) (smallCS.H x) (smallCS.R x) := by
  rintro ⟨m, ⟨⟨f, w, li⟩, ks, r0, r1, r2, r3, r4, r5⟩⟩ ⟨hm, hx⟩
  simp only at hm
  obtain ⟨m, rfl⟩ := Int.eq_ofNat_of_zero_le hm.1
  refine fun_of (T := Tsmall) (L := smLs m (fun s => clashM ((f, w, li), ks, r0, r1, r2, r3, r4, r5) s) (.fn (.func 71) [.ptr 0 0 0 0] []) (smallCS.H (m, (f, w, li), ks, r0, r1, r2, r3, r4, r5))) (hs := fun _ => []) hmix Tsmall_ok Try.func65 (by kernel_rfl) (by kernel_rfl) ?_
  refine Eq.mp (α :=
      let Z0 := none; let Z1 := fun (p : Nat × Nat) => Prod.fst p; let Z2 := fun (p : Nat × Nat) => Prod.snd p; let Z3 := List.length r3; let Z4 := List.length r0; let Z5 := List.length r2; let Z6 := List.length r5; let Z7 := List.length r4; let Z8 := List.length r1; let Z9 := List.length ks; let Z10 := nat_lit 0 = nat_lit 0 ∧ True; let Z11 := (w, li); let Z12 := Value.int IntKind.i64 w; let Z13 := Value.int IntKind.i64 li; let Z14 := Value.int IntKind.i64 f; let Z15 := fun (z : Nat) => z ≤ m; let Z16 := nat_lit 0 = nat_lit 0 ∧ nat_lit 0 = nat_lit 0; let Z17 := (↑m : Int); let Z18 := (1 : Int); let Z19 := (0 : Int); let Z20 := (64 : Int); let Z21 := (0 : Nat); let Z22 := (1 : Nat); let Z23 := (2 : Nat); let Z24 := r4 = r4; let Z25 := r2 = r2; let Z26 := r0 = r0; let Z27 := r3 = r3; let Z28 := r5 = r5; let Z29 := r1 = r1; let Z30 := ks = ks; let Z31 := (71 : FuncId); let Z32 := (r4, r5); let Z33 := Int.toNat Z17; let Z34 := fun (p : Nat × Nat) => Z1 p ≤ m; let Z35 := Z28 ∧ True; let Z36 := nat_lit 0 = nat_lit 0 ∧ Z16; let Z37 := Fn.func Z31; let Z38 := Z8 = Z8; let Z39 := Z5 = Z5; let Z40 := Z6 = Z6; let Z41 := Z9 = Z9; let Z42 := Z4 = Z4; let Z43 := Z3 = Z3; let Z44 := Z7 = Z7; let Z45 := m + nat_lit 1; let Z46 := (f, Z11); let Z47 := Value.int IntKind.i64 Z17; let Z48 := Value.int IntKind.u64 Z19; let Z49 := Z36 ∧ True; let Z50 := Z13 = Z13; let Z51 := Z12 = Z12; let Z52 := Z14 = Z14; let Z53 := Z49 ∧ True; let Z54 := nat_lit 0 = nat_lit 0 ∧ Z42; let Z55 := nat_lit 0 = nat_lit 0 ∧ Z41; let Z56 := nat_lit 0 = nat_lit 0 ∧ Z43; let Z57 := nat_lit 0 = nat_lit 0 ∧ Z44; let Z58 := nat_lit 0 = nat_lit 0 ∧ Z40; let Z59 := nat_lit 0 = nat_lit 0 ∧ Z39; let Z60 := nat_lit 0 = nat_lit 0 ∧ Z38; let Z61 := nat_lit 2 ^ m; let Z62 := (↑Z45 : Int); let Z63 := m + Z22; let Z64 := nat_lit 0 = nat_lit 0 ∧ Z56; let Z65 := nat_lit 0 = nat_lit 0 ∧ Z60; let Z66 := nat_lit 0 = nat_lit 0 ∧ Z55; let Z67 := nat_lit 0 = nat_lit 0 ∧ Z57; let Z68 := nat_lit 0 = nat_lit 0 ∧ Z54; let Z69 := nat_lit 0 = nat_lit 0 ∧ Z58; let Z70 := nat_lit 0 = nat_lit 0 ∧ Z59; let Z71 := Z24 ∧ Z35; let Z72 := (r3, Z32); let Z73 := fun (z : Nat) => z = Z63; let Z74 := Z69 ∧ True; let Z75 := Value.int IntKind.i64 Z62; let Z76 := (↑Z61 : Int); let Z77 := Z37 = Z37; let Z78 := Z23 ^ m; let Z79 := fun (z : Nat) => z ≤ Z63; let Z80 := Z66 ∧ Z10; let Z81 := Z47 = Z47; let Z82 := Value.int IntKind.u64 Z76; let Z83 := True ∧ Z80; let Z84 := Z27 ∧ Z71; let Z85 := fun (p : Nat × Nat) => Z2 p ≤ Z78; let Z86 := (r2, Z72); let Z87 := Z25 ∧ Z84; let Z88 := Z77 ∧ Z53; let Z91 := Z75 = Z75; let Z104 := (Z46, ks, r0, r1, Z86); let Z105 := fun (s : Int) => clashM Z104 s; let Z106 := searchM m fun (s : Int) => Z105 s; let Z109 := bestM Z33 fun (s : Int) => Z105 s; let Z115 := Value.int IntKind.u64 (Prod.fst Z109); let Z119 := True ∧ (Z52 ∧ Z51 ∧ Z50 ∧ Z83) ∧ Z30 ∧ (Z68 ∧ Z65 ∧ Z70 ∧ Z64 ∧ Z67 ∧ Z74) ∧ Z26 ∧ Z29 ∧ Z87; let Z125 : Type := { p : Nat × Nat // Z34 p ∧ Z85 p ∧ restM m (fun (s : Int) => Z105 s) (Z1 p) (Z2 p) = Z106 }; let Z126 := fun (x : Z125) => Subtype.val x; let Z127 := fun (x : Z125) => Prod.fst (Z126 x); let Z129 := fun (x : Z125) => (↑(Prod.snd (Z126 x)) : Int); let Z130 := fun (x : Z125) => (↑(Z127 x) : Int); let Z132 := fun (x : Z125) => Value.int IntKind.i64 (Z130 x); let Z133 := fun (x : Z125) => Value.int IntKind.u64 (Z129 x); let Z137 := fun (x : Z125) => Z61 - Prod.snd (Z126 x); let Z144 : Type := { z : Nat // Z79 z ∧ (Z15 z → restM m (fun (s : Int) => Z105 s) z Z21 = Z106) ∧ (Z73 z → Z106 = Z0) }; let Z145 := fun (x : Z144) => Subtype.val x; let Z146 := fun (x : Z144) => (↑(Z145 x) : Int); let Z147 := fun (x : Z144) => Value.int IntKind.i64 (Z146 x); let Z148 := fun (x : Z144) => Z45 - Z145 x; let Z154 := fun (t : Z125) => popM (Z129 t) == Z130 t; let Z159 := fun (t : Z125) => decide (Z129 t < Z76); let Z162 := fun (t : Z144) => decide (Z146 t < Z62); let Z171 := fun (t x : Z125) => ∃ (x_1 : Z125), ((Z81 ∧ Z88 ∧ Z91 ∧ Z132 t = Z132 x_1 ∧ Z132 t = Z132 x_1 ∧ Z82 = Z82 ∧ Value.int IntKind.u64 (IntKind.wrap IntKind.u64 (Z129 t + Z18)) = Z133 x_1 ∧ True) ∧ Z119) ∧ Z137 x_1 < Z137 t ∧ Z127 x_1 = Z127 x; (∃ (x : Z144), (Z81 ∧ Z88 ∧ Value.int IntKind.i64 (IntKind.wrap IntKind.i64 (Z17 + Z18)) = Z75 ∧ Value.int IntKind.i64 Z19 = Z147 x ∧ True) ∧ Z119) ∧ ∀ (t : Z144), (Z162 t = true → Z19 ≤ Z17 ∧ ∃ (x : Z125), ((Z81 ∧ Z88 ∧ Z91 ∧ Z147 t = Z132 x ∧ Z147 t = Z132 x ∧ Value.int IntKind.u64 (IntKind.wrap IntKind.u64 (Z18 * (2 : Int) ^ min Z33 (nat_lit 64))) = Z82 ∧ Z48 = Z133 x ∧ True) ∧ Z119) ∧ Z127 x = Z127 x ∧ ∀ (t_1 : Z125), Z127 t_1 = Z127 x → (Z159 t_1 = true → (Z19 ≤ Z129 t_1 ∧ Z129 t_1 < Z20) ∧ (Z133 t_1 = Z133 t_1 ∧ True) ∧ True ∧ (Z154 t_1 = true → (RtOk Z104 ∧ Z19 ≤ Z129 t_1 ∧ Z129 t_1 < Z20) ∧ (Z36 ∧ Z133 t_1 = Z133 t_1 ∧ True) ∧ ((Z52 ∧ Z51 ∧ Z50 ∧ Z83) ∧ Z30 ∧ (Z68 ∧ Z65 ∧ Z70 ∧ Z64 ∧ Z67 ∧ Z74) ∧ Z26 ∧ Z29 ∧ Z87) ∧ (clashM Z104 (Z129 t_1) = true → True ∧ ((Z133 t_1 = Z115 ∧ Value.bool (Prod.snd Z109) = Value.bool true ∧ True) ∧ True) ∧ Z119) ∧ (clashM Z104 (Z129 t_1) = false → True ∧ Z171 t_1 x)) ∧ (Z154 t_1 = false → True ∧ Z171 t_1 x)) ∧ (Z159 t_1 = false → True ∧ ∃ (x : Z144), ((Z81 ∧ Z88 ∧ Z91 ∧ Value.int IntKind.i64 (IntKind.wrap IntKind.i64 (Z130 t_1 + Z18)) = Z147 x ∧ True) ∧ Z119) ∧ Z148 x < Z148 t)) ∧ (Z162 t = false → True ∧ ((Z48 = Z115 ∧ Value.bool (Prod.snd Z109) = Value.bool false ∧ True) ∧ True) ∧ Z119))
    (by kernel_rfl) ?_
  have hm6 : m ≤ 6 := by omega
  have h64 := pow64 m hm6
  simp only [eq_self, true_and, and_true, Int.toNat_natCast, Nat.zero_add, Nat.sub_zero]
  refine ⟨⟨⟨0, Nat.zero_le _, fun _ => rest_all, fun h => absurd h (by omega)⟩, by rw [wrap_id (by omega) (by omega)]; rfl, rfl⟩, fun t => ⟨fun ht => ⟨Int.natCast_nonneg _, ?_⟩, fun ht => ?_⟩⟩
  · obtain ⟨z, hz, hr, _⟩ := t
    have hzm : z ≤ m := by
      have h1 : ((z : Int)) < ((m + 1 : Nat) : Int) := of_decide_eq_true ht
      omega
    refine ⟨⟨(z, 0), hzm, Nat.zero_le _, hr hzm⟩, ⟨rfl, rfl, congrArg _ (powW m hm6), rfl⟩, ?_⟩
    rintro ⟨⟨z1, s⟩, hz1, hs, hr1⟩ hrel
    have hrel' : z1 = z := hrel
    subst hrel'
    refine ⟨fun h1 => ?_, fun h1 => ?_⟩
    · have hsl : s < 2 ^ m := by
        have h2 : ((s : Int)) < ((2 ^ m : Nat) : Int) := of_decide_eq_true h1
        exact_mod_cast h2
      have hs64 : s < 64 := Nat.lt_of_lt_of_le hsl h64
      have hsu := sucW s hs64
      refine ⟨⟨Int.natCast_nonneg _, by show (s : Int) < 64; omega⟩, fun hp => ⟨⟨hx, Int.natCast_nonneg _, by show (s : Int) < 64; omega⟩, fun hc => ?_, fun hc => ?_⟩, fun hp => ?_⟩
      · have hf : fitsM (fun s => clashM ((f, w, li), ks, r0, r1, r2, r3, r4, r5) s) z1 s = true := by unfold fitsM; rw [Bool.and_eq_true]; exact ⟨hp, hc⟩
        have hb : bestM m (fun s => clashM ((f, w, li), ks, r0, r1, r2, r3, r4, r5) s) = ((s : Int), true) := by unfold bestM; rw [← hr1, rest_hit hsl hf]
        rw [hb]
        exact ⟨rfl, rfl⟩
      · have hf : fitsM (fun s => clashM ((f, w, li), ks, r0, r1, r2, r3, r4, r5) s) z1 s = false := by unfold fitsM; rw [Bool.and_eq_false_iff]; exact .inr hc
        exact ⟨⟨(z1, s + 1), hz1, hsl, (rest_miss hsl hf).trans hr1⟩, ⟨rfl, rfl, congrArg _ hsu⟩, dec1 hsl, rfl⟩
      · have hf : fitsM (fun s => clashM ((f, w, li), ks, r0, r1, r2, r3, r4, r5) s) z1 s = false := by unfold fitsM; rw [Bool.and_eq_false_iff]; exact .inl hp
        exact ⟨⟨(z1, s + 1), hz1, hsl, (rest_miss hsl hf).trans hr1⟩, ⟨rfl, rfl, congrArg _ hsu⟩, dec1 hsl, rfl⟩
    · have hsl : s = 2 ^ m := by
        have h2 : ¬ ((s : Int)) < ((2 ^ m : Nat) : Int) := of_decide_eq_false h1
        have h3 : ¬ s < 2 ^ m := by intro h; exact h2 (by exact_mod_cast h)
        have : s ≤ 2 ^ m := hs
        omega
      subst hsl
      have hw : IntKind.i64.wrap ((z1 : Int) + 1) = ((z1 + 1 : Nat) : Int) := by rw [wrap_id (by omega) (by omega)]; rfl
      have hr2 : restM m (fun s => clashM ((f, w, li), ks, r0, r1, r2, r3, r4, r5) s) z1 (2 ^ m) = searchM m (fun s => clashM ((f, w, li), ks, r0, r1, r2, r3, r4, r5) s) := hr1
      refine ⟨⟨z1 + 1, by omega, fun h => (rest_line (by omega)).trans hr2, fun h => ?_⟩, congrArg _ hw, by show m + 1 - (z1 + 1) < m + 1 - z1; omega⟩
      have hzz : z1 = m := by omega
      rw [hzz, rest_end] at hr2
      exact hr2.symm
  · have hb : bestM m (fun s => clashM ((f, w, li), ks, r0, r1, r2, r3, r4, r5) s) = (0, false) := by
      have h2 : ¬ ((t.1 : Int)) < ((m + 1 : Nat) : Int) := of_decide_eq_false ht
      have h3 : t.1 = m + 1 := by have : t.1 ≤ m + 1 := t.2.1; omega
      unfold bestM; rw [t.2.2.2 h3]
    rw [hb]
    exact ⟨rfl, rfl⟩

theorem smallC_sound : Sound Try.prog 65 smallCS.con := FSpec.sound _ (enter_of Try.func65 (by kernel_rfl) (by kernel_rfl)) smallC_ok

/-! ### smallest, for proofs -/
def smallPS : FSpec UU where
  X := Int × RT × W3
  pick := fun args H => match args with
    | [m, .fn (.func 66) [] [.ptr i 0 0 0, .ptr j 0 0 0]] => match avInt m, avHW i j H with
      | some m, some x => some (m, x)
      | _, _ => none
    | _ => none
  args := fun x => [.i x.1, .fn (.func 66) [] [.ptr 9 0 0 0, .ptr 10 0 0 0]]
  H := fun x => rtH x.2.1 ++ boxHW x.2.2
  R := fun x => .val ⟨.tup [AV.u (bestM x.1.toNat fun s => proveM x.2.1 s x.2.2).1, .b (bestM x.1.toNat fun s => proveM x.2.1 s x.2.2).2], [], [], []⟩
  pre := fun x => (0 ≤ x.1 ∧ x.1 ≤ 6) ∧ RtOk x.2.1 ∧ okW x.2.2
set_option maxHeartbeats 0 in
set_option maxRecDepth 100000 in
theorem smallP_ok : ∀ x, smallPS.pre x → FunOk Try.prog 65 (smallPS.args x) (smallPS.H x) (smallPS.R x) := by
  rintro ⟨m, ⟨⟨f, w, li⟩, ks, r0, r1, r2, r3, r4, r5⟩, p, n, q⟩ ⟨hm, hx, hwd⟩
  simp only at hm
  obtain ⟨m, rfl⟩ := Int.eq_ofNat_of_zero_le hm.1
  refine fun_of (T := Tsmall) (L := smLs m (fun s => proveM ((f, w, li), ks, r0, r1, r2, r3, r4, r5) s (p, n, q)) (.fn (.func 66) [] [.ptr 9 0 0 0, .ptr 10 0 0 0]) (smallPS.H (m, ((f, w, li), ks, r0, r1, r2, r3, r4, r5), p, n, q))) (hs := fun _ => []) hmix Tsmall_ok Try.func65 (by kernel_rfl) (by kernel_rfl) ?_
  refine Eq.mp (α :=
      let Z0 := Value.bool p; let Z1 := Value.bool q; let Z2 := none; let Z3 := fun (p : Nat × Nat) => Prod.snd p; let Z4 := fun (p : Nat × Nat) => Prod.fst p; let Z5 := List.length ks; let Z6 := List.length r4; let Z7 := List.length r5; let Z8 := List.length r3; let Z9 := List.length r1; let Z10 := List.length r0; let Z11 := List.length r2; let Z12 := nat_lit 0 = nat_lit 0 ∧ True; let Z13 := (w, li); let Z14 := (n, q); let Z15 := Value.int IntKind.i64 f; let Z16 := Value.int IntKind.i64 w; let Z17 := Value.int IntKind.i64 n; let Z18 := Value.int IntKind.i64 li; let Z19 := fun (z : Nat) => z ≤ m; let Z20 := nat_lit 0 = nat_lit 0 ∧ nat_lit 0 = nat_lit 0; let Z21 := (↑m : Int); let Z22 := (0 : Int); let Z23 := (1 : Int); let Z24 := (64 : Int); let Z25 := (1 : Nat); let Z26 := (0 : Nat); let Z27 := (2 : Nat); let Z28 := r4 = r4; let Z29 := r2 = r2; let Z30 := r0 = r0; let Z31 := r3 = r3; let Z32 := r5 = r5; let Z33 := r1 = r1; let Z34 := ks = ks; let Z35 := (66 : FuncId); let Z36 := (r4, r5); let Z37 := Z1 = Z1; let Z38 := Z0 = Z0; let Z39 := Int.toNat Z21; let Z40 := fun (p : Nat × Nat) => Z4 p ≤ m; let Z41 := nat_lit 0 = nat_lit 0 ∧ Z20; let Z42 := Fn.func Z35; let Z43 := Z37 ∧ True; let Z44 := Z11 = Z11; let Z45 := Z7 = Z7; let Z46 := Z8 = Z8; let Z47 := Z5 = Z5; let Z48 := Z6 = Z6; let Z49 := Z10 = Z10; let Z50 := m + nat_lit 1; let Z51 := Z9 = Z9; let Z52 := (f, Z13); let Z53 := Value.int IntKind.i64 Z21; let Z54 := Value.int IntKind.u64 Z22; let Z55 := (p, Z14); let Z56 := Z41 ∧ True; let Z57 := Z15 = Z15; let Z58 := Z16 = Z16; let Z59 := Z18 = Z18; let Z60 := Z17 = Z17; let Z61 := nat_lit 0 = nat_lit 0 ∧ Z46; let Z62 := nat_lit 0 = nat_lit 0 ∧ Z47; let Z63 := nat_lit 0 = nat_lit 0 ∧ Z49; let Z64 := nat_lit 0 = nat_lit 0 ∧ Z51; let Z65 := nat_lit 0 = nat_lit 0 ∧ Z44; let Z66 := nat_lit 0 = nat_lit 0 ∧ Z45; let Z67 := nat_lit 0 = nat_lit 0 ∧ Z48; let Z68 := nat_lit 2 ^ m; let Z69 := (↑Z50 : Int); let Z70 := m + Z25; let Z71 := nat_lit 0 = nat_lit 0 ∧ Z65; let Z72 := nat_lit 0 = nat_lit 0 ∧ Z61; let Z73 := nat_lit 0 = nat_lit 0 ∧ Z63; let Z74 := nat_lit 0 = nat_lit 0 ∧ Z64; let Z75 := nat_lit 0 = nat_lit 0 ∧ Z62; let Z76 := nat_lit 0 = nat_lit 0 ∧ Z66; let Z77 := nat_lit 0 = nat_lit 0 ∧ Z67; let Z78 := (r3, Z36); let Z79 := fun (z : Nat) => z = Z70; let Z80 := Z76 ∧ True; let Z81 := Value.int IntKind.i64 Z69; let Z82 := (↑Z68 : Int); let Z83 := Z42 = Z42; let Z84 := Z27 ^ m; let Z85 := fun (z : Nat) => z ≤ Z70; let Z86 := Z41 ∧ Z56; let Z87 := Z75 ∧ Z12; let Z88 := Z53 = Z53; let Z89 := Z60 ∧ Z43; let Z90 := True ∧ Z86; let Z91 := Value.int IntKind.u64 Z82; let Z92 := True ∧ Z87; let Z93 := fun (p : Nat × Nat) => Z3 p ≤ Z84; let Z94 := Z38 ∧ Z89; let Z95 := (r2, Z78); let Z96 := Z94 ∧ True; let Z97 := Z77 ∧ Z80; let Z98 := Z59 ∧ Z92; let Z99 := Z81 = Z81; let Z100 := Z83 ∧ Z90; let Z101 := Z56 ∧ Z96; let Z102 := Z58 ∧ Z98; let Z118 := (Z52, ks, r0, r1, Z95); let Z119 := fun (s : Int) => proveM Z118 s Z55; let Z120 := searchM m fun (s : Int) => Z119 s; let Z123 := bestM Z39 fun (s : Int) => Z119 s; let Z128 := Value.int IntKind.u64 (Prod.fst Z123); let Z133 := True ∧ (Z57 ∧ Z102) ∧ Z34 ∧ (Z73 ∧ Z74 ∧ Z71 ∧ Z72 ∧ Z97) ∧ Z30 ∧ Z33 ∧ Z29 ∧ Z31 ∧ Z28 ∧ Z32 ∧ Z101; let Z139 : Type := { p : Nat × Nat // Z40 p ∧ Z93 p ∧ restM m (fun (s : Int) => Z119 s) (Z4 p) (Z3 p) = Z120 }; let Z140 := fun (x : Z139) => Subtype.val x; let Z141 := fun (x : Z139) => Prod.fst (Z140 x); let Z143 := fun (x : Z139) => (↑(Prod.snd (Z140 x)) : Int); let Z144 := fun (x : Z139) => (↑(Z141 x) : Int); let Z146 := fun (x : Z139) => Value.int IntKind.i64 (Z144 x); let Z147 := fun (x : Z139) => Value.int IntKind.u64 (Z143 x); let Z151 := fun (x : Z139) => Z68 - Prod.snd (Z140 x); let Z158 : Type := { z : Nat // Z85 z ∧ (Z19 z → restM m (fun (s : Int) => Z119 s) z Z26 = Z120) ∧ (Z79 z → Z120 = Z2) }; let Z159 := fun (x : Z158) => Subtype.val x; let Z160 := fun (x : Z158) => (↑(Z159 x) : Int); let Z161 := fun (x : Z158) => Value.int IntKind.i64 (Z160 x); let Z162 := fun (x : Z158) => Z50 - Z159 x; let Z167 := fun (t : Z139) => popM (Z143 t) == Z144 t; let Z172 := fun (t : Z139) => decide (Z143 t < Z82); let Z175 := fun (t : Z158) => decide (Z160 t < Z69); let Z184 := fun (t x : Z139) => ∃ (x_1 : Z139), ((Z88 ∧ Z100 ∧ Z99 ∧ Z146 t = Z146 x_1 ∧ Z146 t = Z146 x_1 ∧ Z91 = Z91 ∧ Value.int IntKind.u64 (IntKind.wrap IntKind.u64 (Z143 t + Z23)) = Z147 x_1 ∧ True) ∧ Z133) ∧ Z151 x_1 < Z151 t ∧ Z141 x_1 = Z141 x; (∃ (x : Z158), (Z88 ∧ Z100 ∧ Value.int IntKind.i64 (IntKind.wrap IntKind.i64 (Z21 + Z23)) = Z81 ∧ Value.int IntKind.i64 Z22 = Z161 x ∧ True) ∧ Z133) ∧ ∀ (t : Z158), (Z175 t = true → Z22 ≤ Z21 ∧ ∃ (x : Z139), ((Z88 ∧ Z100 ∧ Z99 ∧ Z161 t = Z146 x ∧ Z161 t = Z146 x ∧ Value.int IntKind.u64 (IntKind.wrap IntKind.u64 (Z23 * (2 : Int) ^ min Z39 (nat_lit 64))) = Z91 ∧ Z54 = Z147 x ∧ True) ∧ Z133) ∧ Z141 x = Z141 x ∧ ∀ (t_1 : Z139), Z141 t_1 = Z141 x → (Z172 t_1 = true → (Z22 ≤ Z143 t_1 ∧ Z143 t_1 < Z24) ∧ (Z147 t_1 = Z147 t_1 ∧ True) ∧ True ∧ (Z167 t_1 = true → (RtOk Z118 ∧ (Z22 ≤ Z143 t_1 ∧ Z143 t_1 < Z24) ∧ Z22 ≤ n ∧ n < (6 : Int)) ∧ (Z147 t_1 = Z147 t_1 ∧ Z86) ∧ ((Z57 ∧ Z102) ∧ Z34 ∧ (Z73 ∧ Z74 ∧ Z71 ∧ Z72 ∧ Z97) ∧ Z30 ∧ Z33 ∧ Z29 ∧ Z31 ∧ Z28 ∧ Z32 ∧ Z101) ∧ (proveM Z118 (Z143 t_1) Z55 = true → True ∧ ((Z147 t_1 = Z128 ∧ Value.bool (Prod.snd Z123) = Value.bool true ∧ True) ∧ True) ∧ Z133) ∧ (proveM Z118 (Z143 t_1) Z55 = false → True ∧ Z184 t_1 x)) ∧ (Z167 t_1 = false → True ∧ Z184 t_1 x)) ∧ (Z172 t_1 = false → True ∧ ∃ (x : Z158), ((Z88 ∧ Z100 ∧ Z99 ∧ Value.int IntKind.i64 (IntKind.wrap IntKind.i64 (Z144 t_1 + Z23)) = Z161 x ∧ True) ∧ Z133) ∧ Z162 x < Z162 t)) ∧ (Z175 t = false → True ∧ ((Z54 = Z128 ∧ Value.bool (Prod.snd Z123) = Value.bool false ∧ True) ∧ True) ∧ Z133))
    (by kernel_rfl) ?_
  have hm6 : m ≤ 6 := by omega
  have h64 := pow64 m hm6
  simp only [eq_self, true_and, and_true, Int.toNat_natCast, Nat.zero_add, Nat.sub_zero]
  refine ⟨⟨⟨0, Nat.zero_le _, fun _ => rest_all, fun h => absurd h (by omega)⟩, by rw [wrap_id (by omega) (by omega)]; rfl, rfl⟩, fun t => ⟨fun ht => ⟨Int.natCast_nonneg _, ?_⟩, fun ht => ?_⟩⟩
  · obtain ⟨z, hz, hr, _⟩ := t
    have hzm : z ≤ m := by
      have h1 : ((z : Int)) < ((m + 1 : Nat) : Int) := of_decide_eq_true ht
      omega
    refine ⟨⟨(z, 0), hzm, Nat.zero_le _, hr hzm⟩, ⟨rfl, rfl, congrArg _ (powW m hm6), rfl⟩, ?_⟩
    rintro ⟨⟨z1, s⟩, hz1, hs, hr1⟩ hrel
    have hrel' : z1 = z := hrel
    subst hrel'
    refine ⟨fun h1 => ?_, fun h1 => ?_⟩
    · have hsl : s < 2 ^ m := by
        have h2 : ((s : Int)) < ((2 ^ m : Nat) : Int) := of_decide_eq_true h1
        exact_mod_cast h2
      have hs64 : s < 64 := Nat.lt_of_lt_of_le hsl h64
      have hsu := sucW s hs64
      refine ⟨⟨Int.natCast_nonneg _, by show (s : Int) < 64; omega⟩, fun hp => ⟨⟨hx, ⟨Int.natCast_nonneg _, by show (s : Int) < 64; omega⟩, hwd⟩, fun hc => ?_, fun hc => ?_⟩, fun hp => ?_⟩
      · have hf : fitsM (fun s => proveM ((f, w, li), ks, r0, r1, r2, r3, r4, r5) s (p, n, q)) z1 s = true := by unfold fitsM; rw [Bool.and_eq_true]; exact ⟨hp, hc⟩
        have hb : bestM m (fun s => proveM ((f, w, li), ks, r0, r1, r2, r3, r4, r5) s (p, n, q)) = ((s : Int), true) := by unfold bestM; rw [← hr1, rest_hit hsl hf]
        rw [hb]
        exact ⟨rfl, rfl⟩
      · have hf : fitsM (fun s => proveM ((f, w, li), ks, r0, r1, r2, r3, r4, r5) s (p, n, q)) z1 s = false := by unfold fitsM; rw [Bool.and_eq_false_iff]; exact .inr hc
        exact ⟨⟨(z1, s + 1), hz1, hsl, (rest_miss hsl hf).trans hr1⟩, ⟨rfl, rfl, congrArg _ hsu⟩, dec1 hsl, rfl⟩
      · have hf : fitsM (fun s => proveM ((f, w, li), ks, r0, r1, r2, r3, r4, r5) s (p, n, q)) z1 s = false := by unfold fitsM; rw [Bool.and_eq_false_iff]; exact .inl hp
        exact ⟨⟨(z1, s + 1), hz1, hsl, (rest_miss hsl hf).trans hr1⟩, ⟨rfl, rfl, congrArg _ hsu⟩, dec1 hsl, rfl⟩
    · have hsl : s = 2 ^ m := by
        have h2 : ¬ ((s : Int)) < ((2 ^ m : Nat) : Int) := of_decide_eq_false h1
        have h3 : ¬ s < 2 ^ m := by intro h; exact h2 (by exact_mod_cast h)
        have : s ≤ 2 ^ m := hs
        omega
      subst hsl
      have hw : IntKind.i64.wrap ((z1 : Int) + 1) = ((z1 + 1 : Nat) : Int) := by rw [wrap_id (by omega) (by omega)]; rfl
      have hr2 : restM m (fun s => proveM ((f, w, li), ks, r0, r1, r2, r3, r4, r5) s (p, n, q)) z1 (2 ^ m) = searchM m (fun s => proveM ((f, w, li), ks, r0, r1, r2, r3, r4, r5) s (p, n, q)) := hr1
      refine ⟨⟨z1 + 1, by omega, fun h => (rest_line (by omega)).trans hr2, fun h => ?_⟩, congrArg _ hw, by show m + 1 - (z1 + 1) < m + 1 - z1; omega⟩
      have hzz : z1 = m := by omega
      rw [hzz, rest_end] at hr2
      exact hr2.symm
  · have hb : bestM m (fun s => proveM ((f, w, li), ks, r0, r1, r2, r3, r4, r5) s (p, n, q)) = (0, false) := by
      have h2 : ¬ ((t.1 : Int)) < ((m + 1 : Nat) : Int) := of_decide_eq_false ht
      have h3 : t.1 = m + 1 := by have : t.1 ≤ m + 1 := t.2.1; omega
      unfold bestM; rw [t.2.2.2 h3]
    rw [hb]
    exact ⟨rfl, rfl⟩

theorem smallP_sound : Sound Try.prog 65 smallPS.con := FSpec.sound _ (enter_of Try.func65 (by kernel_rfl) (by kernel_rfl)) smallP_ok
end AE.Pr

namespace AE.Pr
open Go AE Go.Proofs

theorem best_range (m : Nat) (hm : m ≤ 6) (suits : Int → Bool) : 0 ≤ (bestM m suits).1 ∧ (bestM m suits).1 < 64 := by
  unfold bestM
  cases h : searchM m suits with
  | none => exact ⟨by decide, by decide⟩
  | some s =>
    unfold searchM at h
    obtain ⟨z, _, hz⟩ := List.exists_of_findSome?_eq_some h
    have h1 := List.mem_range.1 (List.mem_of_find?_eq_some hz)
    have h2 := pow64 m hm
    exact ⟨Int.natCast_nonneg _, by show (s : Int) < 64; omega⟩

/-! ### Clash -/
def clashHM (x : HT) : Int × Int := if hearM x then (if clashM (rtM x) (everyH x) then ((bestM x.1.2.1.toNat fun s => clashM (rtM x) s).1, 0) else (0, 4)) else (0, 1)
def clashFS : FSpec UU where
  X := HT
  pick := fun args H => match args with
    | [a] => avH H a
    | _ => none
  args := fun x => [vH x]
  H := fun x => hH x
  R := fun x => .val ⟨.tup [.i (clashHM x).1, .i (clashHM x).2], [], [], []⟩
  pre := fun x => okH x
def TclashF : Tab UU := [(49, openS.con), (51, everyS.con), (71, clashesS.con), (68, needS.con), (65, smallCS.con), (48, caughtS.con)]
theorem TclashF_ok : TclashF.Sound Try.prog := .cons open_sound (.cons every_sound (.cons clashes_sound (.cons need_sound (.cons smallC_sound (.cons caught_sound .nil)))))
set_option maxHeartbeats 0 in
set_option maxRecDepth 100000 in
theorem clashF_ok : ∀ x, clashFS.pre x → FunOk Try.prog 28 (clashFS.args x) (clashFS.H x) (clashFS.R x) := by
  rintro ⟨⟨f, w, li⟩, cs, ks⟩ hl
  refine fun_ofG (T := TclashF) (L := fun _ => none) (hs := fun _ => []) (sp := fun _ => none) hmix TclashF_ok (tl := toldL 70) (toldL_ok told70) (it := fun _ => none) (fun _ _ h => by cases h) Try.func28 (by kernel_rfl) (by kernel_rfl) ?_
  refine Eq.mp (α :=
      let Z0 := Int.toNat w; let Z1 := Value.bool true; let Z2 := List.length ks; let Z3 := List.length cs; let Z4 := (w, li); let Z5 := everyM Z0; let Z6 := Value.int IntKind.i64 li; let Z7 := Value.int IntKind.i64 f; let Z8 := Value.int IntKind.i64 w; let Z9 := nat_lit 0 = nat_lit 0 ∧ nat_lit 0 = nat_lit 0; let Z10 := (6 : Int); let Z11 := (1 : Int); let Z12 := (0 : Int); let Z13 := (2 : Int); let Z14 := (3 : Int); let Z15 := (5 : Int); let Z16 := (4 : Int); let Z17 := ks = ks; let Z18 := (cs, ks); let Z19 := cs = cs; let Z20 := (112 : TypeId); let Z21 := saysM cs Z11; let Z22 := saysM cs Z14; let Z23 := saysM cs Z16; let Z24 := saysM cs Z12; let Z25 := saysM cs Z15; let Z26 := saysM cs Z13; let Z27 := nat_lit 0 = nat_lit 0 ∧ Z9; let Z28 := Value.int IntKind.u64 Z5; let Z29 := Z17 ∧ True; let Z30 := Z2 = Z2; let Z31 := Z3 = Z3; let Z32 := (f, Z4); let Z33 := Z1 = Z1; let Z34 := Value.int IntKind.i64 Z12; let Z35 := Value.int IntKind.i64 Z16; let Z36 := Z27 ∧ True; let Z37 := w ≤ Z10; let Z38 := Z12 ≤ w; let Z39 := Z8 = Z8; let Z40 := Z7 = Z7; let Z41 := Z6 = Z6; let Z42 := List.length Z24; let Z43 := List.length Z25; let Z44 := List.length Z21; let Z45 := List.length Z26; let Z46 := List.length Z22; let Z47 := Z33 ∧ True; let Z48 := List.length Z23; let Z49 := nat_lit 0 = nat_lit 0 ∧ Z30; let Z50 := nat_lit 0 = nat_lit 0 ∧ Z31; let Z51 := List.length Z21; let Z52 := List.length Z24; let Z53 := List.length Z25; let Z54 := List.length Z26; let Z55 := List.length Z22; let Z56 := List.length Z23; let Z57 := nat_lit 0 = nat_lit 0 ∧ Z50; let Z58 := nat_lit 0 = nat_lit 0 ∧ Z49; let Z59 := Z20 = Z20; let Z60 := Z19 ∧ Z29; let Z61 := Z58 ∧ True; let Z62 := True ∧ Z60; let Z63 := Z58 ∧ nat_lit 0 = nat_lit 0 ∧ True; let Z64 := Z35 = Z35; let Z65 := Z34 = Z34; let Z66 := Z25 = Z25; let Z67 := Z26 = Z26; let Z68 := Z21 = Z21; let Z69 := Z24 = Z24; let Z70 := Z22 = Z22; let Z71 := Z23 = Z23; let Z72 := (Z23, Z25); let Z73 := Z38 ∧ Z37; let Z74 := True ∧ Z63; let Z75 := Z65 ∧ True; let Z76 := Z64 ∧ True; let Z85 := (Z32, Z18); let Z102 := hearM Z85 && true; let Z106 := Value.int IntKind.i64 (openErrM Z85); let Z111 := nat_lit 11 = nat_lit 11 ∧ nat_lit 0 = nat_lit 0 ∧ nat_lit 0 = nat_lit 0 ∧ Z53 = Z43; let Z112 := nat_lit 10 = nat_lit 10 ∧ nat_lit 0 = nat_lit 0 ∧ nat_lit 0 = nat_lit 0 ∧ Z56 = Z48; let Z113 := Value.int IntKind.i64 (Prod.fst (clashHM Z85)); let Z114 := Value.int IntKind.i64 (Prod.snd (clashHM Z85)); let Z136 := (Z32, ks, Z24, Z21, Z26, Z22, Z72); let Z138 := clashM Z136 Z5; let Z139 := Value.bool Z138; (Z3 < nat_lit 1000 ∧ Z2 < nat_lit 1000) ∧ (Z102 = true → ((Z40 ∧ Z39 ∧ Z41 ∧ Z57 ∧ Z61) ∧ Z47) ∧ Z60 ∧ Z73 ∧ Z36 ∧ ((True ∧ Z39 ∧ True ∧ True ∧ True ∧ True ∧ True) ∧ True) ∧ (RtOk Z136 ∧ Z12 ≤ Z5 ∧ Z5 < (64 : Int)) ∧ (Z27 ∧ Z28 = Z28 ∧ True) ∧ ((Z40 ∧ Z39 ∧ Z41 ∧ Z74) ∧ Z17 ∧ ((nat_lit 6 = nat_lit 6 ∧ nat_lit 0 = nat_lit 0 ∧ nat_lit 0 = nat_lit 0 ∧ Z52 = Z42) ∧ (nat_lit 7 = nat_lit 7 ∧ nat_lit 0 = nat_lit 0 ∧ nat_lit 0 = nat_lit 0 ∧ Z51 = Z44) ∧ (nat_lit 8 = nat_lit 8 ∧ nat_lit 0 = nat_lit 0 ∧ nat_lit 0 = nat_lit 0 ∧ Z54 = Z45) ∧ (nat_lit 9 = nat_lit 9 ∧ nat_lit 0 = nat_lit 0 ∧ nat_lit 0 = nat_lit 0 ∧ Z55 = Z46) ∧ Z112 ∧ Z111 ∧ True) ∧ Z69 ∧ Z68 ∧ Z67 ∧ Z70 ∧ Z71 ∧ Z66 ∧ True) ∧ True ∧ (Z138 = true → (Z139 = Z139 ∧ Z76) ∧ True ∧ (Z73 ∧ RtOk Z136) ∧ (Z39 ∧ (Fn.func (nat_lit 71) = Fn.func (71 : FuncId) ∧ Z36 ∧ True) ∧ True) ∧ ((Z40 ∧ Z39 ∧ Z41 ∧ Z74) ∧ Z17 ∧ ((nat_lit 6 = nat_lit 6 ∧ nat_lit 0 = nat_lit 0 ∧ nat_lit 0 = nat_lit 0 ∧ Z52 = Z42) ∧ (nat_lit 7 = nat_lit 7 ∧ nat_lit 0 = nat_lit 0 ∧ nat_lit 0 = nat_lit 0 ∧ Z51 = Z44) ∧ (nat_lit 8 = nat_lit 8 ∧ nat_lit 0 = nat_lit 0 ∧ nat_lit 0 = nat_lit 0 ∧ Z54 = Z45) ∧ (nat_lit 9 = nat_lit 9 ∧ nat_lit 0 = nat_lit 0 ∧ nat_lit 0 = nat_lit 0 ∧ Z55 = Z46) ∧ Z112 ∧ Z111 ∧ True) ∧ Z69 ∧ Z68 ∧ Z67 ∧ Z70 ∧ Z71 ∧ Z66 ∧ True) ∧ True ∧ (Value.nilIface = Value.nilIface ∧ Z36) ∧ (Z75 ∧ True) ∧ True ∧ ((Value.int IntKind.i64 (IntKind.wrap IntKind.i64 (Prod.fst (bestM Z0 fun (s : Int) => clashM Z136 s))) = Z113 ∧ Z34 = Z114 ∧ True) ∧ True) ∧ Z62) ∧ (Z138 = false → (Z139 = Z139 ∧ Z76) ∧ True ∧ True ∧ ((Z59 ∧ Z76) ∧ Z36) ∧ (Z75 ∧ True) ∧ True ∧ ((Z34 = Z113 ∧ Z35 = Z114 ∧ True) ∧ True) ∧ Z62)) ∧ (Z102 = false → ((Z40 ∧ Z39 ∧ Z41 ∧ Z57 ∧ Z61) ∧ Z47) ∧ Z60 ∧ True ∧ ((Z59 ∧ Z106 = Z106 ∧ True) ∧ Z36) ∧ (Z75 ∧ True) ∧ True ∧ ((Z34 = Z113 ∧ Z106 = Z114 ∧ True) ∧ True) ∧ Z62))
    (by kernel_rfl) ?_
  simp only [clashFS, okH] at hl
  simp only [eq_self, true_and, and_true, Int.toNat_natCast, Nat.zero_add, Nat.sub_zero]
  refine ⟨hl, fun hh => ?_, fun hh => ?_⟩
  · rw [Bool.and_true] at hh
    have hk := hear_ok hh
    have hx := rt_ok hk
    have hw : 0 ≤ w ∧ w ≤ 6 := hk.w
    have hE := everyB w.toNat (by omega)
    have hr : clashHM ((f, w, li), cs, ks) = if clashM (rtM ((f, w, li), cs, ks)) (everyM w.toNat) then ((bestM w.toNat fun s => clashM (rtM ((f, w, li), cs, ks)) s).1, 0) else (0, 4) := by
      unfold clashHM; rw [if_pos hh]; rfl
    rw [hr]
    refine ⟨hw, ⟨hx, hE⟩, fun hc => ?_, fun hc => ?_⟩
    · have hb := best_range w.toNat (by omega) fun s => clashM ((f, w, li), ks, saysM cs 0, saysM cs 1, saysM cs 2, saysM cs 3, saysM cs 4, saysM cs 5) s
      rw [if_pos hc, wrap_id (by omega) (by omega)]
      exact ⟨⟨hw, hx⟩, rfl, rfl⟩
    · rw [if_neg (by rw [hc]; simp)]
      exact ⟨rfl, rfl⟩
  · rw [Bool.and_true] at hh
    have hr : clashHM ((f, w, li), cs, ks) = (0, openErrM ((f, w, li), cs, ks)) := by
      unfold clashHM; rw [if_neg (by rw [hh]; simp), openErrM, if_neg (by rw [hh]; simp)]
    rw [hr]
    exact ⟨rfl, rfl⟩

theorem clashF_sound : Sound Try.prog 28 clashFS.con := FSpec.sound _ (enter_of Try.func28 (by kernel_rfl) (by kernel_rfl)) clashF_ok

/-! ### Proof -/
def proofM (x : HT) (w : W3) : Int × Int := if hearM x && wordM x.1.1 x.1.2.1 w then (if (bestM x.1.2.1.toNat fun s => proveM (rtM x) s w).2 then ((bestM x.1.2.1.toNat fun s => proveM (rtM x) s w).1, 0) else (0, 4)) else (0, openErrM x)
def proofS : FSpec UU where
  X := HT × W3
  pick := fun args H => match args with
    | [a, b] => match avH H a, avW b with
      | some a, some b => some (a, b)
      | _, _ => none
    | _ => none
  args := fun x => [vH x.1, vW x.2]
  H := fun x => hH x.1
  R := fun x => .val ⟨.tup [.i (proofM x.1 x.2).1, .i (proofM x.1 x.2).2], [], [], []⟩
  pre := fun x => okH x.1
def Tproof : Tab UU := [(54, isWordS.con), (49, openS.con), (68, needS.con), (65, smallPS.con), (48, caughtS.con)]
theorem Tproof_ok : Tproof.Sound Try.prog := .cons isWord_sound (.cons open_sound (.cons need_sound (.cons smallP_sound (.cons caught_sound .nil))))
set_option maxHeartbeats 0 in
set_option maxRecDepth 100000 in
theorem proof_ok : ∀ x, proofS.pre x → FunOk Try.prog 26 (proofS.args x) (proofS.H x) (proofS.R x) := by
  rintro ⟨⟨⟨f, w, li⟩, cs, ks⟩, ⟨p, n, q⟩⟩ hl
  refine fun_ofG (T := Tproof) (L := fun _ => none) (hs := fun _ => []) (sp := fun _ => none) hmix Tproof_ok (tl := toldL 64) (toldL_ok told64) (it := fun _ => none) (fun _ _ h => by cases h) Try.func26 (by kernel_rfl) (by kernel_rfl) ?_
  refine Eq.mp (α :=
      let Z1 := Value.bool q; let Z2 := Value.bool p; let Z3 := List.length cs; let Z4 := List.length ks; let Z7 := Value.int IntKind.i64 f; let Z8 := Value.int IntKind.i64 w; let Z9 := Value.int IntKind.i64 n; let Z10 := Value.int IntKind.i64 li; let Z11 := nat_lit 0 = nat_lit 0 ∧ nat_lit 0 = nat_lit 0; let Z12 := (6 : Int); let Z15 := (4 : Int); let Z17 := (0 : Int); let Z19 := ks = ks; let Z24 := (112 : TypeId); let Z25 := saysM cs (3 : Int); let Z26 := saysM cs (1 : Int); let Z27 := saysM cs (5 : Int); let Z28 := saysM cs (2 : Int); let Z29 := saysM cs Z17; let Z30 := saysM cs Z15; let Z36 := (f, w, li); let Z37 := Value.int IntKind.i64 Z15; let Z38 := Value.int IntKind.i64 Z17; let Z39 := (p, n, q); let Z40 := (nat_lit 0 = nat_lit 0 ∧ Z11) ∧ True; let Z41 := Z7 = Z7; let Z43 := Z10 = Z10; let Z44 := Z8 = Z8; let Z47 := wordM f w Z39; let Z48 := Value.bool Z47; let Z50 := nat_lit 0 = nat_lit 0 ∧ nat_lit 0 = nat_lit 0 ∧ Z4 = Z4; let Z51 := cs = cs ∧ Z19 ∧ True; let Z56 := Z37 = Z37; let Z57 := Z38 = Z38; let Z62 := (Z36, cs, ks); let Z70 := Value.int IntKind.i64 (openErrM Z62); let Z77 := Value.int IntKind.i64 (Prod.fst (proofM Z62 Z39)); let Z78 := Value.int IntKind.i64 (Prod.snd (proofM Z62 Z39)); let Z87 := (Z36, ks, Z29, Z26, Z28, Z25, Z30, Z27); let Z89 := bestM (Int.toNat w) fun (s : Int) => proveM Z87 s Z39; let Z90 := Prod.snd Z89; let Z91 := Value.bool Z90; True ∧ ((Z41 ∧ Z44 ∧ True ∧ True ∧ True ∧ True) ∧ (Z2 = Z2 ∧ Z9 = Z9 ∧ Z1 = Z1 ∧ True) ∧ True) ∧ True ∧ (Z3 < nat_lit 1000 ∧ Z4 < nat_lit 1000) ∧ ((hearM Z62 && Z47) = true → ((Z41 ∧ Z44 ∧ Z43 ∧ (nat_lit 0 = nat_lit 0 ∧ nat_lit 0 = nat_lit 0 ∧ Z3 = Z3) ∧ Z50 ∧ True) ∧ Z48 = Z48 ∧ True) ∧ Z51 ∧ ((Z17 ≤ w ∧ w ≤ Z12) ∧ RtOk Z87 ∧ Z17 ≤ n ∧ n < Z12) ∧ (Z44 ∧ (Fn.func (nat_lit 66) = Fn.func (66 : FuncId) ∧ True ∧ (nat_lit 0 = nat_lit 0 ∧ Z11) ∧ Z40) ∧ True) ∧ ((Z41 ∧ Z44 ∧ Z43 ∧ True ∧ Z50 ∧ nat_lit 0 = nat_lit 0 ∧ True) ∧ Z19 ∧ ((nat_lit 7 = nat_lit 7 ∧ nat_lit 0 = nat_lit 0 ∧ nat_lit 0 = nat_lit 0 ∧ List.length Z29 = List.length Z29) ∧ (nat_lit 8 = nat_lit 8 ∧ nat_lit 0 = nat_lit 0 ∧ nat_lit 0 = nat_lit 0 ∧ List.length Z26 = List.length Z26) ∧ (nat_lit 9 = nat_lit 9 ∧ nat_lit 0 = nat_lit 0 ∧ nat_lit 0 = nat_lit 0 ∧ List.length Z28 = List.length Z28) ∧ (nat_lit 10 = nat_lit 10 ∧ nat_lit 0 = nat_lit 0 ∧ nat_lit 0 = nat_lit 0 ∧ List.length Z25 = List.length Z25) ∧ (nat_lit 11 = nat_lit 11 ∧ nat_lit 0 = nat_lit 0 ∧ nat_lit 0 = nat_lit 0 ∧ List.length Z30 = List.length Z30) ∧ (nat_lit 12 = nat_lit 12 ∧ nat_lit 0 = nat_lit 0 ∧ nat_lit 0 = nat_lit 0 ∧ List.length Z27 = List.length Z27) ∧ True) ∧ Z29 = Z29 ∧ Z26 = Z26 ∧ Z28 = Z28 ∧ Z25 = Z25 ∧ Z30 = Z30 ∧ Z27 = Z27 ∧ Z40 ∧ (Z2 = Z2 ∧ Z9 = Z9 ∧ Z1 = Z1 ∧ True) ∧ True) ∧ True ∧ (Z90 = true → (Z91 = Z91 ∧ Z56 ∧ True) ∧ True ∧ True ∧ (Value.nilIface = Value.nilIface ∧ Z40) ∧ ((Z57 ∧ True) ∧ True) ∧ True ∧ ((Value.int IntKind.i64 (IntKind.wrap IntKind.i64 (Prod.fst Z89)) = Z77 ∧ Z38 = Z78 ∧ True) ∧ True) ∧ True ∧ Z51) ∧ (Z90 = false → (Z91 = Z91 ∧ Z56 ∧ True) ∧ True ∧ True ∧ ((Z24 = Z24 ∧ Z56 ∧ True) ∧ Z40) ∧ ((Z57 ∧ True) ∧ True) ∧ True ∧ ((Z38 = Z77 ∧ Z37 = Z78 ∧ True) ∧ True) ∧ True ∧ Z51)) ∧ ((hearM Z62 && Z47) = false → ((Z41 ∧ Z44 ∧ Z43 ∧ (nat_lit 0 = nat_lit 0 ∧ nat_lit 0 = nat_lit 0 ∧ Z3 = Z3) ∧ Z50 ∧ True) ∧ Z48 = Z48 ∧ True) ∧ Z51 ∧ True ∧ ((Z24 = Z24 ∧ Z70 = Z70 ∧ True) ∧ Z40) ∧ ((Z57 ∧ True) ∧ True) ∧ True ∧ ((Z38 = Z77 ∧ Z70 = Z78 ∧ True) ∧ True) ∧ True ∧ Z51))
    (by kernel_rfl) ?_
  simp only [proofS, okH] at hl
  simp only [eq_self, true_and, and_true, Int.toNat_natCast, Nat.zero_add, Nat.sub_zero]
  refine ⟨hl, fun hh => ?_, fun hh => ?_⟩
  · have hh2 : hearM ((f, w, li), cs, ks) = true ∧ wordM f w (p, n, q) = true := by rw [← Bool.and_eq_true]; exact hh
    have hk := hear_ok hh2.1
    have hx := rt_ok hk
    have hw : 0 ≤ w ∧ w ≤ 6 := hk.w
    have hW6 : okW (p, n, q) := okW_of hk.f hk.w hh2.2
    have hr : proofM ((f, w, li), cs, ks) (p, n, q) = if (bestM w.toNat fun s => proveM (rtM ((f, w, li), cs, ks)) s (p, n, q)).2 then ((bestM w.toNat fun s => proveM (rtM ((f, w, li), cs, ks)) s (p, n, q)).1, 0) else (0, 4) := by
      unfold proofM; rw [if_pos hh]
    rw [hr]
    refine ⟨⟨hw, hx, hW6⟩, fun hc => ?_, fun hc => ?_⟩
    · have hb := best_range w.toNat (by omega) fun s => proveM ((f, w, li), ks, saysM cs 0, saysM cs 1, saysM cs 2, saysM cs 3, saysM cs 4, saysM cs 5) s (p, n, q)
      rw [if_pos hc, wrap_id (by omega) (by omega)]
      exact ⟨rfl, rfl⟩
    · rw [if_neg (by rw [hc]; simp)]
      exact ⟨rfl, rfl⟩
  · have hr : proofM ((f, w, li), cs, ks) (p, n, q) = (0, openErrM ((f, w, li), cs, ks)) := by
      unfold proofM; rw [if_neg (by rw [hh]; simp)]
    rw [hr]
    exact ⟨rfl, rfl⟩

theorem proof_sound : Sound Try.prog 26 proofS.con := FSpec.sound _ (enter_of Try.func26 (by kernel_rfl) (by kernel_rfl)) proof_ok
end AE.Pr

namespace AE.Pr
open Go AE Go.Proofs

theorem getD_mem {α : Type} {l : List α} {i : Nat} (d : α) (h : i < l.length) : l.getD i d ∈ l := by
  rw [List.getD_eq_getElem?_getD, List.getElem?_eq_getElem h]; exact List.getElem_mem h
theorem sucI (i : Nat) (h : i < 1000000000) : IntKind.i64.wrap ((i : Int) + 1) = ((i + 1 : Nat) : Int) := by rw [wrap_id (by omega) (by omega)]; rfl
/-! ### Liars -/
def spanSM (s : Int × Int) (t : Int × Int) : Int × Int := (min s.1 (popM t.2), max s.2 (popM t.2))
def spanRM (l : List (Int × Int)) (i : Nat) : Int × Int := (l.take i).foldl spanSM (popM (l.getD 0 (0, 0)).2, popM (l.getD 0 (0, 0)).2)
theorem spanR_suc (l : List (Int × Int)) (i : Nat) (h : i < l.length) : spanRM l (i + 1) = spanSM (spanRM l i) (l.getD i (0, 0)) := by
  unfold spanRM; rw [take_snoc l i h (0, 0), List.foldl_append]; rfl
theorem spanR_all (l : List (Int × Int)) (h : 0 < l.length) : spanRM l l.length = spanM l := by
  unfold spanRM spanM
  rw [List.take_length]
  match l, h with
  | t :: l, _ =>
    have h1 := popM_le t.2
    rw [List.foldl_cons, List.foldl_cons]
    have e1 : (t :: l).getD 0 (0, 0) = t := rfl
    have e : spanSM (popM t.2, popM t.2) t = (min 6 (popM t.2), max 0 (popM t.2)) := by
      unfold spanSM
      rw [Prod.mk.injEq]; omega
    rw [e1, e]; rfl
def liarsRL (x : HT) (l : List (Int × Int)) : LSpec UU where
  T := { i : Nat // i ≤ l.length }
  fr := fun i => [(2, .ptr 3 0 0 0), (4, .gs 4 0), (6, .ptr 5 0 0 0), (7, .i i.1)]
  H := fun i => hH x ++ [.one (boxM x), .one (.cells [.i 0, .i 0] 37), .one (.row .rtruth l 48), .one (.cells [.i (spanRM l i.1).1, .i (spanRM l i.1).2] 37)]
  mu := fun i => l.length - i.1
def TliarsR : Tab UU := [(58, openRS.con), (36, sizeRS.con)]
theorem TliarsR_ok : TliarsR.Sound Try.prog := .cons openR_sound (.cons sizeR_sound .nil)
set_option maxHeartbeats 0 in
set_option maxRecDepth 100000 in
theorem liarsR_ok : ∀ x, liarsS.pre x → FunOk Try.prog 23 (liarsS.args x) (liarsS.H x) (liarsS.R x) := by
  rintro ⟨⟨f, w, li⟩, cs, ks⟩ hl
  refine fun_of (T := TliarsR) (L := fun _ => some (.inv (liarsRL ((f, w, li), cs, ks) (allH ((f, w, li), cs, ks))))) (hs := fun _ => []) hmix TliarsR_ok Try.func23 (by kernel_rfl) (by kernel_rfl) ?_
  refine Eq.mp (α :=
      let Z0 := Int.toNat w; let Z1 := List.length cs; let Z2 := List.length ks; let Z3 := Value.bool true; let Z4 := (w, li); let Z5 := Value.int IntKind.i64 li; let Z6 := Value.int IntKind.i64 w; let Z8 := Value.int IntKind.i64 f; let Z10 := (0 : Int); let Z11 := (64 : Int); let Z13 := ks = ks; let Z15 := cs = cs; let Z16 := (48 : TypeId); let Z17 := nat_lit 0 = nat_lit 0 ∧ nat_lit 0 = nat_lit 0 ∧ nat_lit 0 = nat_lit 0; let Z23 := Value.int IntKind.i64 Z10; let Z30 := (Z10, Z10); let Z33 := Z10 ≤ Z10; let Z35 := Z15 ∧ Z13 ∧ True; let Z38 := Z10 != Z10; let Z39 := Z23 = Z23; let Z41 := ((f, Z4), cs, ks); let Z45 := openRErrM Z41 true; let Z46 := hearM Z41 && true; let Z49 := truthsM Z41 (everyM Z0); let Z51 := Prod.fst (liarsM Z41); let Z55 := Value.int IntKind.i64 (Prod.snd (liarsM Z41)); let Z56 := List.length Z49; let Z57 := List.length Z49; let Z58 := Value.int IntKind.i64 (Prod.fst Z51); let Z59 := Value.int IntKind.i64 (Prod.snd Z51); let Z60 : Type := { i : Nat // i ≤ List.length (allH Z41) }; let Z61 := fun (x : Z60) => Subtype.val x; let Z63 := nat_lit 0 < Z57; let Z66 := (↑Z57 : Int); let Z67 := Z45 != Z10; let Z68 := fun (x : Z60) => (↑(Z61 x) : Int); let Z78 := Z10 < Z66; let Z80 := Prod.snd (List.getD Z49 (nat_lit 0) Z30); let Z81 := fun (t : Z60) => nat_lit 0 + Int.toNat (Z68 t); let Z83 := Value.int IntKind.i64 Z80; let Z84 := Value.int IntKind.i64 (popM Z80); let Z86 := Z10 ≤ Z80; let Z87 := Z80 < Z11; let Z88 := Z8 = Z8 ∧ Z6 = Z6 ∧ Z5 = Z5 ∧ (nat_lit 0 = nat_lit 0 ∧ nat_lit 0 = nat_lit 0 ∧ Z1 = Z1) ∧ (nat_lit 0 = nat_lit 0 ∧ nat_lit 0 = nat_lit 0 ∧ Z2 = Z2) ∧ True; let Z90 := Z49 = Z49; let Z91 := fun (x : Z60) => spanRM Z49 (Z61 x); let Z95 := fun (x : Z60) => Value.int IntKind.i64 (Prod.fst (Z91 x)); let Z96 := fun (x : Z60) => Value.int IntKind.i64 (Prod.snd (Z91 x)); let Z97 := fun (x : Z60) => Z56 - Z61 x; let Z102 := fun (t : Z60) => Prod.snd (List.getD Z49 (Z81 t) Z30); let Z103 := fun (t : Z60) => List.getD Z49 ((0 : Nat) + Int.toNat (Z68 t)) Z30; let Z110 := fun (t : Z60) => decide (Z68 t < Z66); let Z111 := decide ((↑Z56 : Int) > Z10); (Z1 < nat_lit 1000 ∧ Z2 < nat_lit 1000) ∧ ((Z46 && Z111) = true → (Z88 ∧ Z3 = Z3 ∧ True) ∧ Z35 ∧ (Z38 = true → True ∧ (((Z23 = Z58 ∧ Z23 = Z59 ∧ True) ∧ Z23 = Z55 ∧ True) ∧ True) ∧ True ∧ Z35) ∧ (Z38 = false → (Z33 ∧ Z78) ∧ Z63 ∧ (Z86 ∧ Z87) ∧ (Z83 = Z83 ∧ True) ∧ True ∧ (Z33 ∧ Z78) ∧ Z63 ∧ (Z86 ∧ Z87) ∧ (Z83 = Z83 ∧ True) ∧ True ∧ (∃ (x : Z60), (Z17 ∧ nat_lit 0 = nat_lit 0 ∧ Z17 ∧ Z23 = Value.int IntKind.i64 (Z68 x) ∧ True) ∧ True ∧ Z15 ∧ Z13 ∧ Z88 ∧ (Z39 ∧ Z39 ∧ True) ∧ (Z16 = Z16 ∧ Z90) ∧ (Z84 = Z95 x ∧ Z84 = Z96 x ∧ True) ∧ True) ∧ ∀ (t : Z60), (Z110 t = true → (Z10 ≤ Z68 t ∧ Z68 t < Z66) ∧ Z81 t < Z57 ∧ (Z10 ≤ Z102 t ∧ Z102 t < Z11) ∧ (Value.int IntKind.i64 (Z102 t) = Value.int IntKind.i64 (Z102 t) ∧ True) ∧ True ∧ True ∧ ∃ (x : Z60), ((Z17 ∧ nat_lit 0 = nat_lit 0 ∧ Z17 ∧ Value.int IntKind.i64 (IntKind.wrap IntKind.i64 (Z68 t + (1 : Int))) = Value.int IntKind.i64 (Z68 x) ∧ True) ∧ True ∧ Z15 ∧ Z13 ∧ Z88 ∧ (Z39 ∧ Z39 ∧ True) ∧ (Z16 = Z16 ∧ Z90) ∧ (Value.int IntKind.i64 (min (Prod.fst (Z91 t)) (popM (Prod.snd (Z103 t)))) = Z95 x ∧ Value.int IntKind.i64 (max (Prod.snd (Z91 t)) (popM (Prod.snd (Z103 t)))) = Z96 x ∧ True) ∧ True) ∧ Z97 x < Z97 t) ∧ (Z110 t = false → True ∧ (((Z95 t = Z58 ∧ Z96 t = Z59 ∧ True) ∧ Z23 = Z55 ∧ True) ∧ True) ∧ True ∧ Z35))) ∧ ((Z46 && Z111) = false → (Z88 ∧ Z3 = Z3 ∧ True) ∧ Z35 ∧ (Z67 = true → True ∧ (((Z23 = Z58 ∧ Z23 = Z59 ∧ True) ∧ Value.int IntKind.i64 Z45 = Z55 ∧ True) ∧ True) ∧ True ∧ Z35) ∧ (Z67 = false → False)))
    (by kernel_rfl) ?_
  simp only [eq_self, true_and, and_true, Int.toNat_natCast, Nat.zero_add, Nat.sub_zero, Value.int.injEq, Value.bool.injEq, decide_eq_true_eq, decide_eq_false_iff_not]
  have hA : truthsM ((f, w, li), cs, ks) (everyM w.toNat) = allH ((f, w, li), cs, ks) := rfl
  simp only [hA]
  refine ⟨hl, fun hc => ?_, fun hc => ?_⟩
  · simp only [Bool.and_eq_true, decide_eq_true_eq] at hc
    obtain ⟨⟨hh, _⟩, hp⟩ := hc
    have hk := hear_ok hh
    have hx := rt_ok hk
    have hok : ∀ t ∈ allH ((f, w, li), cs, ks), okT t := fun t ht => (mem_allM hx ht).1
    have hlen : (allH ((f, w, li), cs, ks)).length ≤ 5000 := preM_length _ hx _ _ _ (pow_le hx.f) (by decide)
    have hr : liarsM ((f, w, li), cs, ks) = (spanM (allH ((f, w, li), cs, ks)), 0) := by
      unfold liarsM; rw [if_pos hh, if_pos hp]
    rw [hr]
    generalize allH ((f, w, li), cs, ks) = A at *
    have hp0 : 0 < A.length := by omega
    have h0 := (hok _ (getD_mem (0, 0) hp0)).2
    refine ⟨fun h => (by cases h), fun _ => ⟨⟨by decide, hp⟩, hp0, h0, ⟨by decide, hp⟩, hp0, h0, ⟨⟨0, Nat.zero_le _⟩, rfl, rfl, rfl⟩, fun t => ⟨fun ht => ?_, fun ht => ?_⟩⟩⟩
    · obtain ⟨t, htl⟩ := t
      have hlt : t < A.length := by have h0 : (t : Int) < A.length := ht; omega
      refine ⟨⟨by show (0 : Int) ≤ (t : Int); omega, ht⟩, hlt, (hok _ (getD_mem (0, 0) hlt)).2, ⟨t + 1, hlt⟩, ⟨sucI t (by omega), ?_⟩, dec1 hlt⟩
      show _ = (spanRM A (t + 1)).1 ∧ _ = (spanRM A (t + 1)).2
      rw [spanR_suc A t hlt]
      exact ⟨rfl, rfl⟩
    · have hta : t.1 = A.length := by
        have := t.2
        omega
      rw [hta, spanR_all A hp0]
      exact ⟨⟨rfl, rfl⟩, rfl⟩
  · have hne : openRErrM ((f, w, li), cs, ks) true ≠ 0 := by
      unfold openRErrM; split <;> (try split) <;> decide
    refine ⟨fun _ => ?_, fun h => absurd (by simpa using h) hne⟩
    unfold liarsM openRErrM
    cases hh : hearM ((f, w, li), cs, ks) <;> simp only [hh, Bool.and_true, Bool.true_and, Bool.and_false, Bool.false_and] at hc ⊢ <;> simp
    have hc' : ¬ ((allH ((f, w, li), cs, ks)).length : Int) > 0 := by simpa using hc
    have h0 : allH ((f, w, li), cs, ks) = [] := List.eq_nil_of_length_eq_zero (by omega)
    simp [h0]

theorem liarsR_sound : Sound Try.prog 23 liarsS.con := FSpec.sound _ (enter_of Try.func23 (by kernel_rfl) (by kernel_rfl)) liarsR_ok

/-! ### First -/
def bestRM (l : List (Int × Int)) (i : Nat) : Int × Int := (l.take i).foldl minStep (l.getD 0 (0, 0))
theorem bestR_suc (l : List (Int × Int)) (i : Nat) (h : i < l.length) : bestRM l (i + 1) = minStep (bestRM l i) (l.getD i (0, 0)) := by
  unfold bestRM; rw [take_snoc l i h (0, 0), List.foldl_append]; rfl
theorem bestR_all (l : List (Int × Int)) (h : 0 < l.length) : bestRM l l.length = firstM l := by
  unfold bestRM firstM
  rw [List.take_length]
  match l, h with
  | t :: l, _ =>
    have e1 : (t :: l).getD 0 (0, 0) = t := rfl
    have e : minStep t t = t := by unfold minStep; split <;> rfl
    rw [List.foldl_cons, e1, e]; rfl
theorem bestR_mem (l : List (Int × Int)) (h : 0 < l.length) (i : Nat) : bestRM l i ∈ l := by
  unfold bestRM
  have key : ∀ (q : List (Int × Int)) (m : Int × Int), m ∈ l → (∀ t ∈ q, t ∈ l) → q.foldl minStep m ∈ l := by
    intro q
    induction q with
    | nil => intro m hm _; exact hm
    | cons a q ih =>
      intro m hm hq
      refine ih _ ?_ fun t ht => hq t (List.mem_cons_of_mem _ ht)
      unfold minStep
      split
      · exact hq a (List.mem_cons_self ..)
      · exact hm
  exact key _ _ (getD_mem _ h) fun t ht => List.mem_of_mem_take ht
def firstRL (x : HT) (l : List (Int × Int)) : LSpec UU where
  T := { i : Nat // i ≤ l.length }
  fr := fun i => [(5, .gs 3 0), (7, .ptr 4 0 0 0), (8, .i i.1)]
  H := fun i => hH x ++ [.one (boxM x), .one (.row .rtruth l 48), .one (.cells [.i (bestRM l i.1).1, .i (bestRM l i.1).2] 48)]
  mu := fun i => l.length - i.1
set_option maxHeartbeats 0 in
set_option maxRecDepth 100000 in
theorem firstR_ok : ∀ x, firstS.pre x → FunOk Try.prog 25 (firstS.args x) (firstS.H x) (firstS.R x) := by
  rintro ⟨⟨f, w, li⟩, cs, ks⟩ hl
  refine fun_of (T := TliarsR) (L := fun _ => some (.inv (firstRL ((f, w, li), cs, ks) (allH ((f, w, li), cs, ks))))) (hs := fun _ => []) hmix TliarsR_ok Try.func25 (by kernel_rfl) (by kernel_rfl) ?_
  refine Eq.mp (α :=
      let Z1 := List.length cs; let Z2 := List.length ks; let Z3 := Value.bool true; let Z5 := Value.int IntKind.i64 li; let Z6 := Value.int IntKind.i64 w; let Z8 := Value.int IntKind.i64 f; let Z10 := (0 : Int); let Z12 := (64 : Int); let Z13 := ks = ks; let Z15 := (48 : TypeId); let Z16 := cs = cs; let Z17 := nat_lit 0 = nat_lit 0 ∧ nat_lit 0 = nat_lit 0 ∧ nat_lit 0 = nat_lit 0; let Z23 := Value.int IntKind.i64 Z10; let Z30 := (Z10, Z10); let Z33 := Z15 = Z15; let Z34 := Z16 ∧ Z13 ∧ True; let Z37 := Z10 != Z10; let Z38 := ((f, w, li), cs, ks); let Z42 := openRErrM Z38 true; let Z43 := hearM Z38 && true; let Z46 := truthsM Z38 (everyM (Int.toNat w)); let Z48 := Prod.fst (firstHM Z38); let Z52 := Value.int IntKind.i64 (Prod.snd (firstHM Z38)); let Z53 := List.length Z46; let Z54 := List.length Z46; let Z55 := Value.int IntKind.i64 (Prod.snd Z48); let Z56 := Value.int IntKind.i64 (Prod.fst Z48); let Z57 : Type := { i : Nat // i ≤ List.length (allH Z38) }; let Z58 := fun (x : Z57) => Subtype.val x; let Z61 := (↑Z54 : Int); let Z62 := Z42 != Z10; let Z63 := fun (x : Z57) => (↑(Z58 x) : Int); let Z67 := fun (x : Z57) => Value.int IntKind.i64 (Z63 x); let Z71 := List.getD Z46 (nat_lit 0) Z30; let Z74 := fun (t : Z57) => nat_lit 0 + Int.toNat (Z63 t); let Z75 := fun (t : Z57) => Z63 t + (1 : Int); let Z77 := Z8 = Z8 ∧ Z6 = Z6 ∧ Z5 = Z5 ∧ (nat_lit 0 = nat_lit 0 ∧ nat_lit 0 = nat_lit 0 ∧ Z1 = Z1) ∧ (nat_lit 0 = nat_lit 0 ∧ nat_lit 0 = nat_lit 0 ∧ Z2 = Z2) ∧ True; let Z79 := Z46 = Z46; let Z82 := fun (x : Z57) => Prod.snd (bestRM Z46 (Z58 x)); let Z85 := fun (x : Z57) => Value.int IntKind.i64 (Z82 x); let Z86 := fun (x : Z57) => Value.int IntKind.i64 (Prod.fst (bestRM Z46 (Z58 x))); let Z87 := fun (x : Z57) => Z53 - Z58 x; let Z89 := fun (t : Z57) => Z63 t < Z61; let Z91 := fun (t : Z57) => List.getD Z46 (Z74 t) Z30; let Z92 := fun (t : Z57) => Prod.snd (Z91 t); let Z94 := fun (t : Z57) => Value.int IntKind.i64 (Z92 t); let Z101 := fun (t : Z57) => decide (Z89 t); let Z103 := fun (t : Z57) => decide (popM (Z92 t) < popM (Z82 t)); let Z104 := decide ((↑Z53 : Int) > Z10); (Z1 < nat_lit 1000 ∧ Z2 < nat_lit 1000) ∧ ((Z43 && Z104) = true → (Z77 ∧ Z3 = Z3 ∧ True) ∧ Z34 ∧ (Z37 = true → True ∧ ((Z23 = Z56 ∧ Z23 = Z55 ∧ Z23 = Z52 ∧ True) ∧ True) ∧ True ∧ Z34) ∧ (Z37 = false → (Z10 ≤ Z10 ∧ Z10 < Z61) ∧ nat_lit 0 < Z54 ∧ (∃ (x : Z57), (nat_lit 0 = nat_lit 0 ∧ Z17 ∧ Z23 = Z67 x ∧ True) ∧ True ∧ Z16 ∧ Z13 ∧ Z77 ∧ (Z33 ∧ Z79) ∧ (Value.int IntKind.i64 (Prod.fst Z71) = Z86 x ∧ Value.int IntKind.i64 (Prod.snd Z71) = Z85 x ∧ True) ∧ True) ∧ ∀ (t : Z57), (Z101 t = true → (Z10 ≤ Z63 t ∧ Z89 t) ∧ Z74 t < Z54 ∧ (Z10 ≤ Z92 t ∧ Z92 t < Z12) ∧ (Z94 t = Z94 t ∧ True) ∧ True ∧ (Z10 ≤ Z82 t ∧ Z82 t < Z12) ∧ (Z85 t = Z85 t ∧ True) ∧ True ∧ (Z103 t = true → (Z10 ≤ Z63 t ∧ Z89 t) ∧ Z74 t < Z54 ∧ True ∧ ∃ (x : Z57), ((nat_lit 0 = nat_lit 0 ∧ Z17 ∧ Value.int IntKind.i64 (IntKind.wrap IntKind.i64 (Z75 t)) = Z67 x ∧ True) ∧ True ∧ Z16 ∧ Z13 ∧ Z77 ∧ (Z33 ∧ Z79) ∧ (Value.int IntKind.i64 (Prod.fst (Z91 t)) = Z86 x ∧ Z94 t = Z85 x ∧ True) ∧ True) ∧ Z87 x < Z87 t) ∧ (Z103 t = false → True ∧ ∃ (x : Z57), ((nat_lit 0 = nat_lit 0 ∧ Z17 ∧ Value.int IntKind.i64 (IntKind.wrap IntKind.i64 (Z75 t)) = Z67 x ∧ True) ∧ True ∧ Z16 ∧ Z13 ∧ Z77 ∧ (Z33 ∧ Z79) ∧ (Z86 t = Z86 x ∧ Z85 t = Z85 x ∧ True) ∧ True) ∧ Z87 x < Z87 t)) ∧ (Z101 t = false → True ∧ ((Z86 t = Z56 ∧ Z85 t = Z55 ∧ Z23 = Z52 ∧ True) ∧ True) ∧ True ∧ Z34))) ∧ ((Z43 && Z104) = false → (Z77 ∧ Z3 = Z3 ∧ True) ∧ Z34 ∧ (Z62 = true → True ∧ ((Z23 = Z56 ∧ Z23 = Z55 ∧ Value.int IntKind.i64 Z42 = Z52 ∧ True) ∧ True) ∧ True ∧ Z34) ∧ (Z62 = false → False)))
    (by kernel_rfl) ?_
  simp only [eq_self, true_and, and_true, Int.toNat_natCast, Nat.zero_add, Nat.sub_zero, Value.int.injEq, Value.bool.injEq, decide_eq_true_eq, decide_eq_false_iff_not]
  have hA : truthsM ((f, w, li), cs, ks) (everyM w.toNat) = allH ((f, w, li), cs, ks) := rfl
  simp only [hA]
  refine ⟨hl, fun hc => ?_, fun hc => ?_⟩
  · simp only [Bool.and_eq_true, decide_eq_true_eq] at hc
    obtain ⟨⟨hh, _⟩, hp⟩ := hc
    have hk := hear_ok hh
    have hx := rt_ok hk
    have hok : ∀ t ∈ allH ((f, w, li), cs, ks), okT t := fun t ht => (mem_allM hx ht).1
    have hlen : (allH ((f, w, li), cs, ks)).length ≤ 5000 := preM_length _ hx _ _ _ (pow_le hx.f) (by decide)
    have hr : firstHM ((f, w, li), cs, ks) = (firstM (allH ((f, w, li), cs, ks)), 0) := by
      unfold firstHM; rw [if_pos hh, if_pos hp]
    rw [hr]
    generalize allH ((f, w, li), cs, ks) = A at *
    have hp0 : 0 < A.length := by omega
    refine ⟨fun h => (by cases h), fun _ => ⟨⟨by decide, hp⟩, hp0, ⟨⟨0, Nat.zero_le _⟩, rfl, rfl, rfl⟩, fun t => ⟨fun ht => ?_, fun ht => ?_⟩⟩⟩
    · obtain ⟨t, htl⟩ := t
      have hlt : t < A.length := by have h0 : (t : Int) < A.length := ht; omega
      have h0t : (0 : Int) ≤ (t : Int) := by omega
      have hs := bestR_suc A t hlt
      refine ⟨⟨h0t, ht⟩, hlt, (hok _ (getD_mem (0, 0) hlt)).2, (hok _ (bestR_mem A hp0 t)).2, fun hd => ⟨⟨h0t, ht⟩, hlt, ⟨t + 1, hlt⟩, ⟨sucI t (by omega), ?_⟩, dec1 hlt⟩, fun hd => ⟨⟨t + 1, hlt⟩, ⟨sucI t (by omega), ?_⟩, dec1 hlt⟩⟩
      · show _ = (bestRM A (t + 1)).1 ∧ _ = (bestRM A (t + 1)).2
        rw [hs, minStep, if_pos hd]
        exact ⟨rfl, rfl⟩
      · show _ = (bestRM A (t + 1)).1 ∧ _ = (bestRM A (t + 1)).2
        rw [hs, minStep, if_neg hd]
        exact ⟨rfl, rfl⟩
    · have hta : t.1 = A.length := by
        have := t.2
        omega
      rw [hta, bestR_all A hp0]
      exact ⟨rfl, rfl, rfl⟩
  · have hne : openRErrM ((f, w, li), cs, ks) true ≠ 0 := by
      unfold openRErrM; split <;> (try split) <;> decide
    refine ⟨fun _ => ?_, fun h => absurd (by simpa using h) hne⟩
    unfold firstHM openRErrM
    cases hh : hearM ((f, w, li), cs, ks) <;> simp only [hh, Bool.and_true, Bool.true_and, Bool.and_false, Bool.false_and] at hc ⊢ <;> simp
    have hc' : ¬ ((allH ((f, w, li), cs, ks)).length : Int) > 0 := by simpa using hc
    have h0 : allH ((f, w, li), cs, ks) = [] := List.eq_nil_of_length_eq_zero (by omega)
    simp [h0]

theorem firstR_sound : Sound Try.prog 25 firstS.con := FSpec.sound _ (enter_of Try.func25 (by kernel_rfl) (by kernel_rfl)) firstR_ok

/-! ### proves -/
def provesRS : FSpec UU where
  X := HT × Int × W3
  pick := fun args H => match args with
    | [a, b, c] => match avH H a, avInt b, avW c with
      | some a, some b, some c => some (a, b, c)
      | _, _, _ => none
    | _ => none
  args := fun x => [vH x.1, .i x.2.1, vW x.2.2]
  H := fun x => hH x.1
  R := fun x => .val ⟨.b (proveM (rtM x.1) x.2.1 x.2.2), [], [], []⟩
  pre := fun x => HearOk x.1 ∧ (0 ≤ x.2.1 ∧ x.2.1 < 64) ∧ okW x.2.2
def provesRL (x : HT) (w : W3) (l : List (Int × Int)) : LSpec UU where
  T := { i : Nat // i ≤ l.length ∧ ∀ j, j < i → rightM (l.getD j (0, 0)) w = true }
  fr := fun i => [(5, .ptr 3 0 0 0), (7, .gs 4 0), (8, .i i.1)]
  H := fun _ => hH x ++ [.one (boxM x), wBox w, .one (.row .rtruth l 48)]
  mu := fun i => l.length - i.1
def TprovesR : Tab UU := [(52, allRS.con), (38, rightRS.con)]
theorem TprovesR_ok : TprovesR.Sound Try.prog := .cons allR_sound (.cons rightR_sound .nil)
set_option maxHeartbeats 0 in
set_option maxRecDepth 100000 in
theorem provesR_ok : ∀ x, provesRS.pre x → FunOk Try.prog 69 (provesRS.args x) (provesRS.H x) (provesRS.R x) := by
  rintro ⟨⟨⟨f, w, li⟩, cs, ks⟩, hd, p, n, q⟩ hl
  refine fun_of (T := TprovesR) (L := fun _ => some (.inv (provesRL ((f, w, li), cs, ks) (p, n, q) (allM (rtM ((f, w, li), cs, ks)) hd)))) (hs := fun _ => []) hmix TprovesR_ok Try.func69 (by kernel_rfl) (by kernel_rfl) ?_
  refine Eq.mp (α :=
      let Z6 := Value.int IntKind.i64 li; let Z7 := Value.int IntKind.i64 n; let Z8 := Value.int IntKind.i64 f; let Z9 := Value.int IntKind.i64 w; let Z10 := nat_lit 0 = nat_lit 0 ∧ nat_lit 0 = nat_lit 0; let Z11 := (0 : Int); let Z12 := (64 : Int); let Z13 := ks = ks; let Z14 := cs = cs; let Z15 := (48 : TypeId); let Z17 := Value.bool p = Value.bool p; let Z18 := Value.bool q = Value.bool q; let Z25 := (p, n, q); let Z26 := Z7 = Z7; let Z27 := Z9 = Z9; let Z28 := Z6 = Z6; let Z29 := Z8 = Z8; let Z32 := (Z11, Z11); let Z33 := nat_lit 0 = nat_lit 0 ∧ nat_lit 0 = nat_lit 0 ∧ List.length cs = List.length cs; let Z34 := nat_lit 0 = nat_lit 0 ∧ nat_lit 0 = nat_lit 0 ∧ List.length ks = List.length ks; let Z40 := ((f, w, li), cs, ks); let Z43 := allM (rtM Z40) hd; let Z45 := List.length Z43; let Z46 := List.length Z43; let Z49 := (↑Z46 : Int); let Z56 := Z43 = Z43; let Z63 : Type := { i : Nat // i ≤ Z45 ∧ ∀ (j : Nat), j < i → rightM (List.getD Z43 j Z32) Z25 = true }; let Z65 := fun (x : Z63) => Subtype.val x; let Z66 := fun (x : Z63) => (↑(Z65 x) : Int); let Z69 := fun (t : Z63) => nat_lit 0 + Int.toNat (Z66 t); let Z70 := fun (x : Z63) => Z45 - Z65 x; let Z72 := fun (t : Z63) => List.getD Z43 (Z69 t) Z32; let Z74 := fun (t : Z63) => Prod.fst (Z72 t); let Z75 := fun (t : Z63) => Prod.snd (Z72 t); let Z83 := fun (t : Z63) => decide (Z66 t < Z49); (HearOk Z40 ∧ Z11 ≤ hd ∧ hd < Z12) ∧ ((Z29 ∧ Z27 ∧ Z28 ∧ Z33 ∧ Z34 ∧ True) ∧ Value.int IntKind.i64 hd = Value.int IntKind.i64 hd ∧ True) ∧ (Z14 ∧ Z13 ∧ True) ∧ (∃ (x : Z63), ((nat_lit 0 = nat_lit 0 ∧ Z10) ∧ nat_lit 0 = nat_lit 0 ∧ Value.int IntKind.i64 Z11 = Value.int IntKind.i64 (Z66 x) ∧ True) ∧ True ∧ Z14 ∧ Z13 ∧ (Z29 ∧ Z27 ∧ Z28 ∧ Z33 ∧ Z34 ∧ True) ∧ (Z17 ∧ Z26 ∧ Z18 ∧ True) ∧ (Z15 = Z15 ∧ Z56) ∧ True) ∧ ∀ (t : Z63), (Z83 t = true → (Z11 ≤ Z66 t ∧ Z66 t < Z49) ∧ Z69 t < Z46 ∧ (((Z11 ≤ Z74 t ∧ Z74 t < Z12) ∧ Z11 ≤ Z75 t ∧ Z75 t < Z12) ∧ Z11 ≤ n ∧ n < (6 : Int)) ∧ ((Value.int IntKind.i64 (Z74 t) = Value.int IntKind.i64 (Z74 t) ∧ Value.int IntKind.i64 (Z75 t) = Value.int IntKind.i64 (Z75 t) ∧ True) ∧ (Z17 ∧ Z26 ∧ Z18 ∧ True) ∧ True) ∧ True ∧ ((!rightM (Z72 t) Z25) = true → True ∧ (Value.bool (proveM (rtM Z40) hd Z25) = Value.bool false ∧ True) ∧ True ∧ Z14 ∧ Z13 ∧ True) ∧ ((!rightM (Z72 t) Z25) = false → True ∧ ∃ (x : Z63), (((nat_lit 0 = nat_lit 0 ∧ Z10) ∧ nat_lit 0 = nat_lit 0 ∧ Value.int IntKind.i64 (IntKind.wrap IntKind.i64 (Z66 t + (1 : Int))) = Value.int IntKind.i64 (Z66 x) ∧ True) ∧ True ∧ Z14 ∧ Z13 ∧ (Z29 ∧ Z27 ∧ Z28 ∧ Z33 ∧ Z34 ∧ True) ∧ (Z17 ∧ Z26 ∧ Z18 ∧ True) ∧ (Z15 = Z15 ∧ Z56) ∧ True) ∧ Z70 x < Z70 t)) ∧ (Z83 t = false → True ∧ (Value.bool (decide (Z49 > Z11)) = Value.bool (proveM (rtM Z40) hd Z25) ∧ True) ∧ True ∧ Z14 ∧ Z13 ∧ True))
    (by kernel_rfl) ?_
  simp only [eq_self, true_and, and_true, Int.toNat_natCast, Nat.zero_add, Nat.sub_zero, Value.int.injEq, Value.bool.injEq, decide_eq_true_eq, decide_eq_false_iff_not]
  obtain ⟨hh, hhd, hwd⟩ := hl
  have hx := rt_ok hh
  have hok : ∀ t ∈ allM (rtM ((f, w, li), cs, ks)) hd, okT t := fun t ht => (mem_allM hx ht).1
  have hlen : (allM (rtM ((f, w, li), cs, ks)) hd).length ≤ 5000 := preM_length _ hx _ _ _ (pow_le hx.f) (by decide)
  unfold proveM
  generalize allM (rtM ((f, w, li), cs, ks)) hd = A at *
  refine ⟨⟨hh, hhd⟩, ⟨⟨0, Nat.zero_le _, fun j hj => absurd hj (Nat.not_lt_zero _)⟩, rfl⟩, fun t => ⟨fun ht => ?_, fun ht => ?_⟩⟩
  · obtain ⟨t, htl, hb⟩ := t
    have hlt : t < A.length := by have h0 : (t : Int) < A.length := ht; omega
    refine ⟨⟨by show (0 : Int) ≤ (t : Int); omega, ht⟩, hlt, ⟨hok _ (getD_mem (0, 0) hlt), hwd⟩, fun h => ?_, fun h => ?_⟩
    · have h' : (!rightM (A.getD t (0, 0)) (p, n, q)) = true := h
      have : A.all (fun t => rightM t (p, n, q)) = false := by
        rw [List.all_eq_false]
        exact ⟨_, getD_mem (0, 0) hlt, by simpa using h'⟩
      rw [this, Bool.and_false]
    · have h' : (!rightM (A.getD t (0, 0)) (p, n, q)) = false := h
      exact ⟨⟨t + 1, hlt, below_succ hb (by simpa using h')⟩, sucI t (by omega), dec1 hlt⟩
  · have hta : t.1 = A.length := by
      have := t.2.1
      omega
    have : A.all (fun t => rightM t (p, n, q)) = true := by
      rw [List.all_eq_true]
      intro c hc
      obtain ⟨i, hi, rfl⟩ := List.getElem_of_mem hc
      have := t.2.2 i (by omega)
      rw [List.getD_eq_getElem?_getD, List.getElem?_eq_getElem hi] at this
      exact this
    rw [this, Bool.and_true]
    cases A with
    | nil => rfl
    | cons a A => simp

theorem provesR_sound : Sound Try.prog 69 provesRS.con := FSpec.sound _ (enter_of Try.func69 (by kernel_rfl) (by kernel_rfl)) provesR_ok
end AE.Pr

namespace AE.Pr
open Go AE Go.Proofs

/-! ### the best set, in plain Lean -/
/-- The best of the sets below s that suit: the fewest, and of these the least. -/
def IsBest (suits : Int → Bool) (s : Nat) (o : Option Nat) : Prop := match o with
  | none => ∀ k, k < s → suits (k : Int) = false
  | some b => b < s ∧ suits (b : Int) = true ∧ ∀ k : Nat, k < s → suits (k : Int) = true → popM b < popM k ∨ (popM b = popM k ∧ b ≤ k)
theorem IsBest.uniq {suits : Int → Bool} {s : Nat} {o o' : Option Nat} (h : IsBest suits s o) (h' : IsBest suits s o') : o = o' := by
  cases o with
  | none => cases o' with
    | none => rfl
    | some b => have := h b h'.1; rw [h'.2.1] at this; cases this
  | some a => cases o' with
    | none => have := h' a h.1; rw [h.2.1] at this; cases this
    | some b =>
      have h1 := h.2.2 b h'.1 h'.2.1
      have h2 := h'.2.2 a h.1 h.2.1
      congr 1; omega
theorem pop_lt (m k : Nat) (hm : m ≤ 6) (hk : k < 2 ^ m) : popM (k : Int) ≤ m := by
  have : ∀ (m : Fin 7) (k : Fin 64), k.val < 2 ^ m.val → popM ((k.val : Nat) : Int) ≤ (m.val : Int) := by decide +kernel
  exact this ⟨m, by omega⟩ ⟨k, Nat.lt_of_lt_of_le hk (pow64 m hm)⟩ hk
theorem pop_full (m k : Nat) (hm : m ≤ 6) (hk : k < 2 ^ m) (h : popM (k : Int) = popM ((2 ^ m - 1 : Nat) : Int)) : k = 2 ^ m - 1 := by
  have : ∀ (m : Fin 7) (k : Fin 64), k.val < 2 ^ m.val → popM ((k.val : Nat) : Int) = popM ((2 ^ m.val - 1 : Nat) : Int) → k.val = 2 ^ m.val - 1 := by decide +kernel
  exact this ⟨m, by omega⟩ ⟨k, Nat.lt_of_lt_of_le hk (pow64 m hm)⟩ hk h
theorem pop_le_full (m k : Nat) (hm : m ≤ 6) (hk : k < 2 ^ m) : popM (k : Int) ≤ popM ((2 ^ m - 1 : Nat) : Int) := by
  have : ∀ (m : Fin 7) (k : Fin 64), k.val < 2 ^ m.val → popM ((k.val : Nat) : Int) ≤ popM ((2 ^ m.val - 1 : Nat) : Int) := by decide +kernel
  exact this ⟨m, by omega⟩ ⟨k, Nat.lt_of_lt_of_le hk (pow64 m hm)⟩ hk
theorem fits_iff {suits : Int → Bool} {z s : Nat} : fitsM suits z s = true ↔ popM s = z ∧ suits s = true := by
  unfold fitsM; rw [Bool.and_eq_true, beq_iff_eq]
theorem search_best (m : Nat) (hm : m ≤ 6) (suits : Int → Bool) : IsBest suits (2 ^ m) (searchM m suits) := by
  cases h : searchM m suits with
  | none =>
    intro k hk
    unfold searchM at h
    rw [List.findSome?_eq_none_iff] at h
    have h1 := h (popM (k : Int)).toNat (List.mem_range.2 (by have := pop_lt m k hm hk; have := popM_le (k : Int); omega))
    rw [List.find?_eq_none] at h1
    have h2 := h1 k (List.mem_range.2 hk)
    rw [fits_iff] at h2
    have h3 := popM_le (k : Int)
    cases hs : suits (k : Int) with
    | false => rfl
    | true => exact absurd ⟨by omega, hs⟩ h2
  | some b =>
    unfold searchM at h
    rw [List.findSome?_eq_some_iff] at h
    obtain ⟨l1, z, l2, hl, hz, hbefore⟩ := h
    rw [List.find?_range_eq_some] at hz
    obtain ⟨hb, hbm, hno⟩ := hz
    obtain ⟨hp, hs⟩ := fits_iff.1 hb
    refine ⟨List.mem_range.1 hbm, hs, fun k hk hks => ?_⟩
    have hl1 : ∀ y, y < z → y ∈ l1 := by
      intro y hy
      have h1 : l1 = List.range l1.length := by
        have := congrArg (List.take l1.length) hl
        rw [List.take_left', List.take_range] at this
        · rw [← this]; congr 1
          have := congrArg List.length hl
          simp at this
          simp <;> omega
        · rfl
      have h2 : z = l1.length := by
        have := congrArg (fun l => l[l1.length]?) hl
        simp at this
        have h3 : l1.length < m + 1 := by
          have := congrArg List.length hl
          simp at this; omega
        rw [List.getElem?_range h3] at this
        exact (Option.some.inj this).symm
      rw [h1, List.mem_range]; omega
    by_cases h1 : popM (k : Int) < (z : Int)
    · have h2 := popM_le (k : Int)
      have h3 := hbefore (popM (k : Int)).toNat (hl1 _ (by omega))
      rw [List.find?_eq_none] at h3
      exact absurd (fits_iff.2 ⟨by omega, hks⟩) (h3 k (List.mem_range.2 hk))
    · by_cases h2 : popM (k : Int) = (z : Int)
      · right
        refine ⟨by omega, ?_⟩
        rcases Nat.lt_or_ge k b with h3 | h3
        · have := hno k h3
          rw [Bool.not_eq_true', ← Bool.not_eq_true, fits_iff] at this
          exact absurd ⟨h2, hks⟩ this
        · exact h3
      · left; omega
/-- One set more. -/
theorem IsBest.step {suits : Int → Bool} {s : Nat} {o : Option Nat} (h : IsBest suits s o) : IsBest suits (s + 1) (match o with
    | none => if suits (s : Int) then some s else none
    | some b => if popM (s : Int) < popM (b : Int) ∧ suits (s : Int) = true then some s else some b) := by
  cases o with
  | none =>
    cases hs : suits (s : Int) with
    | false =>
      simp only [Bool.false_eq_true, if_false]
      exact below_succ h hs
    | true =>
      simp only [if_true]
      refine ⟨Nat.lt_succ_self s, hs, fun k hk hks => ?_⟩
      rcases Nat.lt_or_eq_of_le (Nat.le_of_lt_succ hk) with h1 | rfl
      · have := h k h1; rw [hks] at this; cases this
      · exact .inr ⟨rfl, Nat.le_refl _⟩
  | some b =>
    obtain ⟨hb, hbs, hbest⟩ := h
    by_cases hc : popM (s : Int) < popM (b : Int) ∧ suits (s : Int) = true
    · simp only [hc, and_self, if_true]
      refine ⟨Nat.lt_succ_self s, hc.2, fun k hk hks => ?_⟩
      rcases Nat.lt_or_eq_of_le (Nat.le_of_lt_succ hk) with h1 | rfl
      · have := hbest k h1 hks; left; omega
      · exact .inr ⟨rfl, Nat.le_refl _⟩
    · simp only [hc, if_false]
      refine ⟨by omega, hbs, fun k hk hks => ?_⟩
      rcases Nat.lt_or_eq_of_le (Nat.le_of_lt_succ hk) with h1 | rfl
      · exact hbest k h1 hks
      · have : ¬ popM (k : Int) < popM (b : Int) := fun h => hc ⟨h, hks⟩
        by_cases he : popM (b : Int) = popM (k : Int)
        · exact .inr ⟨he, by omega⟩
        · left; omega

/-! ### Proof -/
def gotM (o : Option Nat) : Nat := o.getD 0
def isGotM (o : Option Nat) : Bool := o.isSome
def proofRL (x : HT) (w : W3) : LSpec UU where
  T := { p : Nat × Option Nat // p.1 ≤ 2 ^ x.1.2.1.toNat ∧ IsBest (fun s => proveM (rtM x) s w) p.1 p.2 }
  fr := fun p => [(2, .ptr 2 0 0 0), (3, .ptr 3 0 0 0), (6, .i (gotM p.1.2 : Nat)), (7, .b (isGotM p.1.2)), (8, .i p.1.1)]
  H := fun _ => hH x ++ [.one (boxM x), wBox w]
  mu := fun p => 2 ^ x.1.2.1.toNat - p.1.1
def TproofR : Tab UU := [(39, isHearingS.con), (42, isWordS.con), (40, everyRS.con), (36, sizeRS.con), (69, provesRS.con)]
theorem TproofR_ok : TproofR.Sound Try.prog := .cons hearR_sound (.cons wordR_sound (.cons everyR_sound (.cons sizeR_sound (.cons provesR_sound .nil))))
set_option maxHeartbeats 0 in
set_option maxRecDepth 100000 in
theorem proofR_ok : ∀ x, proofS.pre x → FunOk Try.prog 27 (proofS.args x) (proofS.H x) (proofS.R x) := by
  rintro ⟨⟨⟨f, w, li⟩, cs, ks⟩, p, n, q⟩ hl
  refine fun_of (T := TproofR) (L := fun _ => some (.inv (proofRL ((f, w, li), cs, ks) (p, n, q)))) (hs := fun _ => []) hmix TproofR_ok Try.func27 (by kernel_rfl) (by kernel_rfl) ?_
  refine Eq.mp (α :=
      let Z0 := Int.toNat w; let Z1 := Value.bool q; let Z2 := Value.bool p; let Z3 := List.length cs; let Z4 := List.length ks; let Z5 := (w, li); let Z6 := (n, q); let Z7 := Value.int IntKind.i64 w; let Z8 := Value.int IntKind.i64 li; let Z9 := Value.int IntKind.i64 n; let Z10 := Value.int IntKind.i64 f; let Z11 := fun (p : Nat × Option Nat) => Prod.snd p; let Z12 := fun (p : Nat × Option Nat) => Prod.fst p; let Z13 := nat_lit 0 = nat_lit 0 ∧ nat_lit 0 = nat_lit 0; let Z14 := (1 : Int); let Z15 := (6 : Int); let Z16 := (0 : Int); let Z17 := (64 : Int); let Z18 := (2 : Nat); let Z19 := True ∧ True ∧ True ∧ True; let Z20 := ks = ks; let Z21 := (cs, ks); let Z22 := cs = cs; let Z23 := Z2 = Z2; let Z24 := Z1 = Z1; let Z25 := nat_lit 0 = nat_lit 0 ∧ Z13; let Z26 := Z20 ∧ True; let Z27 := Z24 ∧ True; let Z28 := Z3 = Z3; let Z29 := Z4 = Z4; let Z30 := (f, Z5); let Z31 := Value.int IntKind.i64 Z16; let Z32 := (p, Z6); let Z33 := Z16 ≤ n; let Z34 := n < Z15; let Z35 := Z10 = Z10; let Z36 := Z8 = Z8; let Z37 := Z9 = Z9; let Z38 := Z7 = Z7; let Z39 := nat_lit 0 = nat_lit 0 ∧ Z29; let Z40 := nat_lit 0 = nat_lit 0 ∧ Z28; let Z41 := wordM f w Z32; let Z42 := !Z41; let Z43 := nat_lit 2 ^ Z0; let Z44 := nat_lit 0 = nat_lit 0 ∧ Z39; let Z45 := nat_lit 0 = nat_lit 0 ∧ Z40; let Z46 := Z22 ∧ Z26; let Z47 := Z44 ∧ True; let Z48 := Z38 ∧ Z19; let Z49 := True ∧ Z46; let Z50 := Z37 ∧ Z27; let Z51 := Z33 ∧ Z34; let Z52 := (Z30, Z21); let Z53 := Z23 ∧ Z50; let Z54 := rtM Z52; let Z55 := hearM Z52; let Z56 := HearOk Z52; let Z57 := Z53 ∧ True; let Z58 := !Z55; let Z59 := Z45 ∧ Z47; let Z60 := Prod.fst Z52; let Z61 := proofM Z52 Z32; let Z62 := fun (s : Int) => proveM Z54 s Z32; let Z67 := Value.int IntKind.i64 (Prod.fst Z61); let Z68 := Value.int IntKind.i64 (Prod.snd Z61); let Z73 := Z31 = Z67; let Z75 := Z35 ∧ Z38 ∧ Z36 ∧ Z59; let Z82 : Type := { p : Nat × Option Nat // Z12 p ≤ Z18 ^ Int.toNat (Prod.fst (Prod.snd Z60)) ∧ IsBest (fun (s : Int) => Z62 s) (Z12 p) (Z11 p) }; let Z83 := fun (x : Z82) => Subtype.val x; let Z85 := fun (x : Z82) => Prod.snd (Z83 x); let Z88 := fun (t : Z82) => !isGotM (Z85 t); let Z89 := fun (x : Z82) => Value.bool (isGotM (Z85 x)); let Z90 := fun (x : Z82) => (↑(Prod.fst (Z83 x)) : Int); let Z91 := fun (x : Z82) => (↑(gotM (Z85 x)) : Int); let Z96 := fun (x : Z82) => Value.int IntKind.i64 (Z90 x); let Z98 := fun (x : Z82) => Value.int IntKind.i64 (Z91 x); let Z100 := fun (t : Z82) => Z16 ≤ Z90 t; let Z101 := fun (t : Z82) => Z90 t < Z17; let Z102 := fun (t : Z82) => Z90 t + Z14; let Z103 := fun (x : Z82) => Z43 - Prod.fst (Z83 x); let Z106 := fun (t : Z82) => proveM Z54 (Z90 t) Z32; let Z111 := fun (t : Z82) => Z96 t = Z96 t; let Z120 := fun (t : Z82) => decide (Z90 t ≤ everyM Z0); let Z124 := fun (t : Z82) => decide (popM (Z90 t) < popM (Z91 t)); let Z136 := fun (t : Z82) => ∃ (x : Z82), ((Z25 ∧ Z25 ∧ Z96 t = Z98 x ∧ Z89 x = Value.bool true ∧ Value.int IntKind.i64 (IntKind.wrap IntKind.i64 (Z102 t)) = Z96 x ∧ True) ∧ True ∧ Z22 ∧ Z20 ∧ Z75 ∧ Z57) ∧ Z103 x < Z103 t; let Z138 := fun (t : Z82) => ∃ (x : Z82), ((Z25 ∧ Z25 ∧ Z98 t = Z98 x ∧ Z89 t = Z89 x ∧ Value.int IntKind.i64 (IntKind.wrap IntKind.i64 (Z102 t)) = Z96 x ∧ True) ∧ True ∧ Z22 ∧ Z20 ∧ Z75 ∧ Z57) ∧ Z103 x < Z103 t; (Z3 < nat_lit 1000 ∧ Z4 < nat_lit 1000) ∧ (Z75 ∧ True) ∧ Z46 ∧ (Z58 = true → True ∧ ((Z73 ∧ Value.int IntKind.i64 Z14 = Z68 ∧ True) ∧ True) ∧ Z49) ∧ (Z58 = false → True ∧ ((Z35 ∧ Z48) ∧ Z57) ∧ True ∧ (Z42 = true → True ∧ ((Z73 ∧ Value.int IntKind.i64 (2 : Int) = Z68 ∧ True) ∧ True) ∧ Z49) ∧ (Z42 = false → (∃ (x : Z82), (Z25 ∧ Z25 ∧ Z31 = Z98 x ∧ Z89 x = Value.bool false ∧ Z31 = Z96 x ∧ True) ∧ True ∧ Z22 ∧ Z20 ∧ Z75 ∧ Z57) ∧ ∀ (t : Z82), (Z16 ≤ w ∧ w ≤ Z15) ∧ ((True ∧ Z48) ∧ True) ∧ True ∧ (Z120 t = true → (Z88 t = true → (Z56 ∧ (Z100 t ∧ Z101 t) ∧ Z51) ∧ (Z75 ∧ Z111 t ∧ Z57) ∧ Z46 ∧ (Z106 t = true → True ∧ Z136 t) ∧ (Z106 t = false → True ∧ Z138 t)) ∧ (Z88 t = false → (Z100 t ∧ Z101 t) ∧ (Z111 t ∧ True) ∧ True ∧ (Z16 ≤ Z91 t ∧ Z91 t < Z17) ∧ (Z98 t = Z98 t ∧ True) ∧ True ∧ (Z124 t = true → (Z56 ∧ (Z100 t ∧ Z101 t) ∧ Z51) ∧ (Z75 ∧ Z111 t ∧ Z57) ∧ Z46 ∧ (Z106 t = true → True ∧ Z136 t) ∧ (Z106 t = false → True ∧ Z138 t)) ∧ (Z124 t = false → True ∧ Z138 t))) ∧ (Z120 t = false → (Z88 t = true → True ∧ ((Z73 ∧ Value.int IntKind.i64 (4 : Int) = Z68 ∧ True) ∧ True) ∧ Z49) ∧ (Z88 t = false → True ∧ ((Z98 t = Z67 ∧ Z31 = Z68 ∧ True) ∧ True) ∧ Z49)))))
    (by kernel_rfl) ?_
  simp only [eq_self, true_and, and_true, Int.toNat_natCast, Nat.zero_add, Nat.sub_zero, Value.int.injEq, Value.bool.injEq, decide_eq_true_eq, decide_eq_false_iff_not]
  refine ⟨hl, fun h => ?_, fun h => ⟨fun hb => ?_, fun hb => ?_⟩⟩
  · have hh : hearM ((f, w, li), cs, ks) = false := by simpa using h
    simp [proofM, openErrM, hh]
  · have hh : hearM ((f, w, li), cs, ks) = true := by simpa using h
    have hw : wordM f w (p, n, q) = false := by simpa using hb
    simp [proofM, openErrM, hh, hw]
  · have hh : hearM ((f, w, li), cs, ks) = true := by simpa using h
    have hwd : wordM f w (p, n, q) = true := by simpa using hb
    have hk := hear_ok hh
    have hw6 : 0 ≤ w ∧ w ≤ 6 := hk.w
    have hW6 : okW (p, n, q) := okW_of hk.f hk.w hwd
    have hm6 : w.toNat ≤ 6 := by omega
    have h64 := pow64 w.toNat hm6
    have hE := everyP w.toNat hm6
    refine ⟨⟨⟨(0, none), Nat.zero_le _, fun k hk => absurd hk (Nat.not_lt_zero _)⟩, rfl, rfl, rfl⟩, ?_⟩
    rintro ⟨⟨s, o⟩, hs, hbest⟩
    have hs' : s ≤ 2 ^ w.toNat := hs
    have hb' : IsBest (fun s => proveM (rtM ((f, w, li), cs, ks)) s (p, n, q)) s o := hbest
    have hstep := hb'.step
    refine ⟨hw6, fun hle => ?_, fun hgt => ?_⟩
    · have hle' : (s : Int) ≤ everyM w.toNat := hle
      rw [hE] at hle'
      have hlt : s < 2 ^ w.toNat := by omega
      have hr : 0 ≤ (s : Int) ∧ (s : Int) < 64 := by omega
      have hsu := sucI s (by omega)
      cases o with
      | none =>
        refine ⟨fun _ => ⟨⟨hk, hr, hW6⟩, fun hc => ⟨⟨(s + 1, some s), hlt, ?_⟩, ⟨rfl, rfl, hsu⟩, dec1 hlt⟩, fun hc => ⟨⟨(s + 1, none), hlt, ?_⟩, ⟨rfl, rfl, hsu⟩, dec1 hlt⟩⟩, fun h => absurd (show (!isGotM none) = false from h) (by decide)⟩
        · have hc' : proveM (rtM ((f, w, li), cs, ks)) (s : Int) (p, n, q) = true := hc
          simpa only [hc', if_true] using hstep
        · have hc' : proveM (rtM ((f, w, li), cs, ks)) (s : Int) (p, n, q) = false := hc
          simpa only [hc', Bool.false_eq_true, if_false] using hstep
      | some b =>
        have hb64 : 0 ≤ (b : Int) ∧ (b : Int) < 64 := by have := hb'.1; omega
        refine ⟨fun h => absurd (show (!isGotM (some b)) = true from h) (by simp [isGotM]), fun _ => ⟨hr, hb64, fun hp => ⟨⟨hk, hr, hW6⟩, fun hc => ⟨⟨(s + 1, some s), hlt, ?_⟩, ⟨rfl, rfl, hsu⟩, dec1 hlt⟩, fun hc => ⟨⟨(s + 1, some b), hlt, ?_⟩, ⟨rfl, rfl, hsu⟩, dec1 hlt⟩⟩, fun hp => ⟨⟨(s + 1, some b), hlt, ?_⟩, ⟨rfl, rfl, hsu⟩, dec1 hlt⟩⟩⟩
        · have hc' : proveM (rtM ((f, w, li), cs, ks)) (s : Int) (p, n, q) = true := hc
          have hp' : popM (s : Int) < popM (b : Int) := hp
          simpa only [hc', hp', and_self, if_true] using hstep
        · have hc' : proveM (rtM ((f, w, li), cs, ks)) (s : Int) (p, n, q) = false := hc
          simpa only [hc', Bool.false_eq_true, and_false, if_false] using hstep
        · have hp' : ¬ popM (s : Int) < popM (b : Int) := hp
          simpa only [hp', false_and, if_false] using hstep
    · have hgt' : ¬ (s : Int) ≤ everyM w.toNat := hgt
      rw [hE] at hgt'
      have hse : s = 2 ^ w.toNat := by omega
      subst hse
      have hu := (search_best w.toNat hm6 _).uniq hb'
      have hpm : proofM ((f, w, li), cs, ks) (p, n, q) = match o with
          | some b => ((b : Int), 0)
          | none => (0, 4) := by
        unfold proofM
        rw [if_pos (by rw [Bool.and_eq_true]; exact ⟨hh, hwd⟩)]
        unfold bestM
        simp only [hu]
        cases o <;> rfl
      rw [hpm]
      cases o with
      | none => exact ⟨fun _ => ⟨rfl, rfl⟩, fun h => absurd (show (!isGotM none) = false from h) (by decide)⟩
      | some b => exact ⟨fun h => absurd (show (!isGotM (some b)) = true from h) (by simp [isGotM]), fun _ => ⟨rfl, rfl⟩⟩

theorem proofR_sound : Sound Try.prog 27 proofS.con := FSpec.sound _ (enter_of Try.func27 (by kernel_rfl) (by kernel_rfl)) proofR_ok

/-! ### Clash -/
/-- The best set so far, if all witnesses clash: all of them, or the best of those below s. -/
def ClashTo (suits : Int → Bool) (m s b : Nat) : Prop := b < 2 ^ m ∧ suits (b : Int) = true ∧ (b < s ∨ b = 2 ^ m - 1) ∧ ∀ k : Nat, k < s → suits (k : Int) = true → popM b < popM k ∨ (popM b = popM k ∧ b ≤ k)
def clashRL (x : HT) : LSpec UU where
  T := { p : Nat × Nat // p.1 ≤ 2 ^ x.1.2.1.toNat ∧ ClashTo (fun s => clashM (rtM x) s) x.1.2.1.toNat p.1 p.2 }
  fr := fun p => [(1, .ptr 2 0 0 0), (4, .i p.1.2), (5, .i p.1.1)]
  H := fun _ => hH x ++ [.one (boxM x)]
  mu := fun p => 2 ^ x.1.2.1.toNat - p.1.1
def TclashR : Tab UU := [(39, isHearingS.con), (40, everyRS.con), (36, sizeRS.con), (52, allRS.con)]
theorem TclashR_ok : TclashR.Sound Try.prog := .cons hearR_sound (.cons everyR_sound (.cons sizeR_sound (.cons allR_sound .nil)))
set_option maxHeartbeats 0 in
set_option maxRecDepth 100000 in
theorem clashR_ok : ∀ x, clashFS.pre x → FunOk Try.prog 29 (clashFS.args x) (clashFS.H x) (clashFS.R x) := by
  rintro ⟨⟨f, w, li⟩, cs, ks⟩ hl
  refine fun_of (T := TclashR) (L := fun _ => some (.inv (clashRL ((f, w, li), cs, ks)))) (hs := fun _ => []) hmix TclashR_ok Try.func29 (by kernel_rfl) (by kernel_rfl) ?_
  refine Eq.mp (α :=
      let Z0 := Int.toNat w; let Z1 := fun (p : Nat × Nat) => Prod.fst p; let Z2 := fun (p : Nat × Nat) => Prod.snd p; let Z3 := List.length cs; let Z4 := List.length ks; let Z5 := (w, li); let Z6 := Value.int IntKind.i64 w; let Z7 := everyM Z0; let Z8 := Value.int IntKind.i64 f; let Z9 := Value.int IntKind.i64 li; let Z10 := nat_lit 0 = nat_lit 0 ∧ nat_lit 0 = nat_lit 0; let Z11 := (0 : Int); let Z12 := (1 : Int); let Z13 := (6 : Int); let Z14 := (64 : Int); let Z15 := (2 : Nat); let Z16 := True ∧ True ∧ True ∧ True; let Z17 := ks = ks; let Z18 := (cs, ks); let Z19 := cs = cs; let Z20 := Value.int IntKind.i64 Z7; let Z21 := nat_lit 0 = nat_lit 0 ∧ Z10; let Z22 := Z17 ∧ True; let Z23 := Z3 = Z3; let Z24 := Z4 = Z4; let Z25 := (f, Z5); let Z26 := Value.int IntKind.i64 Z11; let Z27 := w ≤ Z13; let Z28 := Z11 ≤ w; let Z29 := Z6 = Z6; let Z30 := Z8 = Z8; let Z31 := Z9 = Z9; let Z32 := nat_lit 0 = nat_lit 0 ∧ Z24; let Z35 := nat_lit 0 = nat_lit 0 ∧ nat_lit 0 = nat_lit 0 ∧ Z23; let Z36 := nat_lit 0 = nat_lit 0 ∧ Z32; let Z37 := Z19 ∧ Z22; let Z44 := (Z25, Z18); let Z55 := Value.int IntKind.i64 (Prod.snd (clashHM Z44)); let Z56 := Value.int IntKind.i64 (Prod.fst (clashHM Z44)); let Z59 := Prod.snd (Prod.fst Z44); let Z69 := (Z30 ∧ Z29 ∧ Z31 ∧ Z35 ∧ Z36 ∧ True) ∧ True; let Z76 : Type := { p : Nat × Nat // Z1 p ≤ Z15 ^ Int.toNat (Prod.fst Z59) ∧ ClashTo (fun (s : Int) => clashM (rtM Z44) s) (Int.toNat (Prod.fst Z59)) (Z1 p) (Z2 p) }; let Z77 := fun (x : Z76) => Subtype.val x; let Z80 := fun (x : Z76) => (↑(Prod.fst (Z77 x)) : Int); let Z81 := fun (x : Z76) => (↑(Prod.snd (Z77 x)) : Int); let Z84 := fun (x : Z76) => Value.int IntKind.i64 (Z80 x); let Z85 := fun (x : Z76) => Value.int IntKind.i64 (Z81 x); let Z89 := fun (t : Z76) => Z80 t + Z12; let Z90 := fun (x : Z76) => nat_lit 2 ^ Z0 - Prod.fst (Z77 x); let Z96 := fun (t : Z76) => (↑(List.length (allM (rtM Z44) (Z80 t))) : Int) == Z11; let Z105 := fun (t : Z76) => decide (Z80 t ≤ Z7); let Z106 := fun (t : Z76) => decide (popM (Z80 t) < popM (Z81 t)); let Z110 := decide ((↑(List.length (allM (rtM Z44) Z7)) : Int) > Z11); let Z112 := fun (t : Z76) => ∃ (x : Z76), ((Z21 ∧ Z85 t = Z85 x ∧ Value.int IntKind.i64 (IntKind.wrap IntKind.i64 (Z89 t)) = Z84 x ∧ True) ∧ True ∧ Z19 ∧ Z17 ∧ Z69) ∧ Z90 x < Z90 t; (Z3 < nat_lit 1000 ∧ Z4 < nat_lit 1000) ∧ Z69 ∧ Z37 ∧ ((!hearM Z44) = true → True ∧ ((Z26 = Z56 ∧ Value.int IntKind.i64 Z12 = Z55 ∧ True) ∧ True) ∧ True ∧ Z37) ∧ ((!hearM Z44) = false → (Z28 ∧ Z27) ∧ ((True ∧ Z29 ∧ Z16) ∧ True) ∧ True ∧ (HearOk Z44 ∧ Z11 ≤ Z7 ∧ Z7 < Z14) ∧ ((Z30 ∧ Z29 ∧ Z31 ∧ Z35 ∧ Z36 ∧ True) ∧ Z20 = Z20 ∧ True) ∧ Z37 ∧ (Z110 = true → True ∧ ((Z26 = Z56 ∧ Value.int IntKind.i64 (4 : Int) = Z55 ∧ True) ∧ True) ∧ True ∧ Z37) ∧ (Z110 = false → (∃ (x : Z76), (Z21 ∧ Z20 = Z85 x ∧ Z26 = Z84 x ∧ True) ∧ True ∧ Z19 ∧ Z17 ∧ Z69) ∧ ∀ (t : Z76), (Z28 ∧ Z27) ∧ ((True ∧ Z29 ∧ Z16) ∧ True) ∧ True ∧ (Z105 t = true → (Z11 ≤ Z80 t ∧ Z80 t < Z14) ∧ (Z84 t = Z84 t ∧ True) ∧ True ∧ (Z11 ≤ Z81 t ∧ Z81 t < Z14) ∧ (Z85 t = Z85 t ∧ True) ∧ True ∧ (Z106 t = true → (HearOk Z44 ∧ Z11 ≤ Z80 t ∧ Z80 t < Z14) ∧ ((Z30 ∧ Z29 ∧ Z31 ∧ Z35 ∧ Z36 ∧ True) ∧ Z84 t = Z84 t ∧ True) ∧ Z37 ∧ (Z96 t = true → True ∧ ∃ (x : Z76), ((Z21 ∧ Z84 t = Z85 x ∧ Value.int IntKind.i64 (IntKind.wrap IntKind.i64 (Z89 t)) = Z84 x ∧ True) ∧ True ∧ Z19 ∧ Z17 ∧ Z69) ∧ Z90 x < Z90 t) ∧ (Z96 t = false → True ∧ Z112 t)) ∧ (Z106 t = false → True ∧ Z112 t)) ∧ (Z105 t = false → True ∧ ((Z85 t = Z56 ∧ Z26 = Z55 ∧ True) ∧ True) ∧ True ∧ Z37))))
    (by kernel_rfl) ?_
  simp only [eq_self, true_and, and_true, Int.toNat_natCast, Nat.zero_add, Nat.sub_zero, Value.int.injEq, Value.bool.injEq, decide_eq_true_eq, decide_eq_false_iff_not]
  refine ⟨hl, fun h => ?_, fun h => ?_⟩
  · have hh : hearM ((f, w, li), cs, ks) = false := by simpa using h
    simp [clashHM, hh]
  · have hh : hearM ((f, w, li), cs, ks) = true := by simpa using h
    have hk := hear_ok hh
    have hw6 : 0 ≤ w ∧ w ≤ 6 := hk.w
    have hm6 : w.toNat ≤ 6 := by omega
    have h64 := pow64 w.toNat hm6
    have hE := everyP w.toNat hm6
    have h2 := Nat.pow_pos (n := w.toNat) (show 0 < 2 by decide)
    have hcl : ∀ s : Nat, clashM (rtM ((f, w, li), cs, ks)) (s : Int) = true ↔ (((allM (rtM ((f, w, li), cs, ks)) (s : Int)).length : Int) == 0) = true := fun s => by
      unfold clashM
      rw [List.isEmpty_iff, beq_iff_eq]
      exact ⟨fun h => by rw [h]; rfl, fun h => List.eq_nil_of_length_eq_zero (by omega)⟩
    have hclE : clashM (rtM ((f, w, li), cs, ks)) (everyM w.toNat) = true ↔ ¬ ((allM (rtM ((f, w, li), cs, ks)) (everyM w.toNat)).length : Int) > 0 := by
      unfold clashM
      rw [List.isEmpty_iff]
      exact ⟨fun h => by rw [h]; decide, fun h => List.eq_nil_of_length_eq_zero (by omega)⟩
    refine ⟨hw6, ⟨hk, everyB w.toNat hm6⟩, fun hp => ?_, fun hp => ⟨⟨⟨(0, 2 ^ w.toNat - 1), Nat.zero_le _, by show 2 ^ w.toNat - 1 < 2 ^ w.toNat; omega, ?_, .inr rfl, fun k hk => absurd hk (Nat.not_lt_zero _)⟩, by rw [hE]; show _ = ((2 ^ w.toNat - 1 : Nat) : Int); omega, rfl⟩, ?_⟩⟩
    · have hne : clashM (rtM ((f, w, li), cs, ks)) (everyH ((f, w, li), cs, ks)) = false := by
        cases hc : clashM (rtM ((f, w, li), cs, ks)) (everyH ((f, w, li), cs, ks)) with
        | false => rfl
        | true => exact absurd hp (hclE.1 hc)
      simp [clashHM, hh, hne]
    · have h9 := hclE.2 hp
      rw [hE] at h9
      show clashM (rtM ((f, w, li), cs, ks)) ((2 ^ w.toNat - 1 : Nat) : Int) = true
      rw [show ((2 ^ w.toNat - 1 : Nat) : Int) = ((2 ^ w.toNat : Nat) : Int) - 1 by omega]
      exact h9
    · rintro ⟨⟨s, b⟩, hs, hct⟩
      have hs' : s ≤ 2 ^ w.toNat := hs
      have hct' : ClashTo (fun s => clashM (rtM ((f, w, li), cs, ks)) s) w.toNat s b := hct
      obtain ⟨hbm, hbc, hbs, hbest⟩ := hct'
      have hb64 : 0 ≤ (b : Int) ∧ (b : Int) < 64 := by omega
      have stay : ∀ hlt : s < 2 ^ w.toNat, (clashM (rtM ((f, w, li), cs, ks)) (s : Int) = true → ¬ popM (s : Int) < popM (b : Int)) → ClashTo (fun s => clashM (rtM ((f, w, li), cs, ks)) s) w.toNat (s + 1) b := fun hlt hno => by
        refine ⟨hbm, hbc, by omega, fun k hk hks => ?_⟩
        rcases Nat.lt_or_eq_of_le (Nat.le_of_lt_succ hk) with h1 | rfl
        · exact hbest k h1 hks
        · have h3 := hno hks
          by_cases he : popM (b : Int) = popM (k : Int)
          · refine .inr ⟨he, ?_⟩
            rcases hbs with h4 | h4
            · omega
            · rw [h4] at he
              have := pop_full _ k hm6 hlt he.symm
              omega
          · left; omega
      refine ⟨hw6, fun hle => ?_, fun hgt => ?_⟩
      · have hle' : (s : Int) ≤ everyM w.toNat := hle
        rw [hE] at hle'
        have hlt : s < 2 ^ w.toNat := by omega
        have hr : 0 ≤ (s : Int) ∧ (s : Int) < 64 := by omega
        have hsu := sucI s (by omega)
        refine ⟨hr, hb64, fun hpp => ⟨⟨hk, hr⟩, fun hc => ⟨⟨(s + 1, s), hlt, hlt, (hcl s).2 hc, .inl (Nat.lt_succ_self s), fun k hk hks => ?_⟩, ⟨rfl, hsu⟩, dec1 hlt⟩, fun hc => ⟨⟨(s + 1, b), hlt, stay hlt fun h => ?_⟩, ⟨rfl, hsu⟩, dec1 hlt⟩⟩, fun hpp => ⟨⟨(s + 1, b), hlt, stay hlt fun _ => hpp⟩, ⟨rfl, hsu⟩, dec1 hlt⟩⟩
        · have hpp' : popM (s : Int) < popM (b : Int) := hpp
          rcases Nat.lt_or_eq_of_le (Nat.le_of_lt_succ hk) with h1 | rfl
          · have := hbest k h1 hks
            left
            show popM (s : Int) < popM (k : Int)
            omega
          · exact .inr ⟨rfl, Nat.le_refl _⟩
        · have h5 := (hcl s).1 h
          have hc' : (((allM (rtM ((f, w, li), cs, ks)) (s : Int)).length : Int) == 0) = false := hc
          rw [h5] at hc'; cases hc'
      · have hgt' : ¬ (s : Int) ≤ everyM w.toNat := hgt
        rw [hE] at hgt'
        have hse : s = 2 ^ w.toNat := by omega
        subst hse
        have hu := (search_best w.toNat hm6 (fun s => clashM (rtM ((f, w, li), cs, ks)) s)).uniq (o' := some b) ⟨hbm, hbc, hbest⟩
        have hcm : clashHM ((f, w, li), cs, ks) = ((b : Int), 0) := by
          unfold clashHM
          rw [if_pos hh, if_pos (show clashM (rtM ((f, w, li), cs, ks)) (everyH ((f, w, li), cs, ks)) = true from hclE.2 hp)]
          unfold bestM
          simp only [hu]
        rw [hcm]
        exact ⟨rfl, rfl⟩

theorem clashR_sound : Sound Try.prog 29 clashFS.con := FSpec.sound _ (enter_of Try.func29 (by kernel_rfl) (by kernel_rfl)) clashR_ok
end AE.Pr

namespace AE.Pr
open Go AE Go.Proofs

def ltT (a b : Int × Int) : Prop := a.1 < b.1 ∨ (a.1 = b.1 ∧ a.2 < b.2)
theorem lineM_mem {x : RT} {hd : Int} {a n : Nat} {t : Int × Int} : t ∈ lineM x hd a n ↔ ∃ b, b < n ∧ isM x hd (tM a b) = true ∧ t = tM a b := by
  unfold lineM
  rw [List.mem_map]
  constructor
  · rintro ⟨b, hb, rfl⟩
    obtain ⟨h1, h2⟩ := List.mem_filter.1 hb
    exact ⟨b, List.mem_range.1 h1, h2, rfl⟩
  · rintro ⟨b, h1, h2, rfl⟩
    exact ⟨b, List.mem_filter.2 ⟨List.mem_range.2 h1, h2⟩, rfl⟩
theorem mem_allM_iff {x : RT} {hd : Int} {t : Int × Int} : t ∈ allM x hd ↔ ∃ a b, a < 2 ^ x.1.1.toNat ∧ b < 2 ^ x.1.2.1.toNat ∧ isM x hd (tM a b) = true ∧ t = tM a b := by
  unfold allM preM
  rw [List.mem_append, List.mem_flatMap]
  constructor
  · rintro (⟨a, ha, ht⟩ | ht)
    · obtain ⟨b, h1, h2, h3⟩ := lineM_mem.1 ht
      exact ⟨a, b, List.mem_range.1 ha, h1, h2, h3⟩
    · obtain ⟨b, h1, _⟩ := lineM_mem.1 ht
      exact absurd h1 (Nat.not_lt_zero _)
  · rintro ⟨a, b, ha, hb, h1, h2⟩
    exact .inl ⟨a, List.mem_range.2 ha, lineM_mem.2 ⟨b, hb, h1, h2⟩⟩
theorem lineM_sorted (x : RT) (hd : Int) (a n : Nat) : (lineM x hd a n).Pairwise ltT := by
  unfold lineM
  rw [List.pairwise_map]
  refine List.Pairwise.filter _ (List.pairwise_lt_range.imp ?_)
  intro b c h
  exact .inr ⟨rfl, by show (b : Int) < (c : Int); omega⟩
theorem allM_sorted (x : RT) (hd : Int) : (allM x hd).Pairwise ltT := by
  unfold allM preM
  have h0 : lineM x hd (2 ^ x.1.1.toNat) 0 = [] := rfl
  rw [h0, List.append_nil, List.pairwise_flatMap]
  refine ⟨fun a _ => lineM_sorted x hd a _, List.pairwise_lt_range.imp ?_⟩
  intro a b h t ht u hu
  obtain ⟨_, _, _, rfl⟩ := lineM_mem.1 ht
  obtain ⟨_, _, _, rfl⟩ := lineM_mem.1 hu
  exact .inl (by show (a : Int) < (b : Int); omega)

/-- The first of those with the fewest who lied. -/
def IsFirst (l : List (Int × Int)) (m : Int × Int) : Prop := m ∈ l ∧ ∀ t ∈ l, popM m.2 < popM t.2 ∨ (popM m.2 = popM t.2 ∧ (ltT m t ∨ m = t))
theorem first_go : ∀ (rest seen : List (Int × Int)) (m : Int × Int), IsFirst seen m → (seen ++ rest).Pairwise ltT → IsFirst (seen ++ rest) (rest.foldl minStep m)
  | [], seen, m, h, _ => by rw [List.append_nil]; exact h
  | c :: rest, seen, m, h, hs => by
    have e : seen ++ c :: rest = (seen ++ [c]) ++ rest := by simp
    rw [e] at hs ⊢
    rw [List.foldl_cons]
    refine first_go rest (seen ++ [c]) _ ?_ hs
    have hlt : ∀ t ∈ seen, ltT t c := fun t ht => (List.pairwise_append.1 (List.pairwise_append.1 hs).1).2.2 t ht c (List.mem_singleton.2 rfl)
    unfold minStep
    by_cases hc : popM c.2 < popM m.2
    · rw [if_pos hc]
      refine ⟨by simp, fun t ht => ?_⟩
      rcases List.mem_append.1 ht with h1 | h1
      · have := h.2 t h1; left; omega
      · rw [List.mem_singleton.1 h1]; exact .inr ⟨rfl, .inr rfl⟩
    · rw [if_neg hc]
      refine ⟨List.mem_append.2 (.inl h.1), fun t ht => ?_⟩
      rcases List.mem_append.1 ht with h1 | h1
      · exact h.2 t h1
      · rw [List.mem_singleton.1 h1]
        by_cases he : popM m.2 = popM c.2
        · exact .inr ⟨he, .inl (hlt m h.1)⟩
        · left; omega
theorem first_is {l : List (Int × Int)} (h : 0 < l.length) (hs : l.Pairwise ltT) : IsFirst l (firstM l) := by
  match l, h with
  | t :: l, _ =>
    have := first_go l [t] t ⟨by simp, fun u hu => .inr (by rw [List.mem_singleton.1 hu]; exact ⟨rfl, .inr rfl⟩)⟩ hs
    exact this
theorem span_go : ∀ (l : List (Int × Int)) (lo hi : Int), let s := l.foldl (fun s t => (min s.1 (popM t.2), max s.2 (popM t.2))) (lo, hi)
    s.1 ≤ lo ∧ hi ≤ s.2 ∧ (∀ t ∈ l, s.1 ≤ popM t.2 ∧ popM t.2 ≤ s.2) ∧ (s.1 = lo ∨ ∃ t ∈ l, s.1 = popM t.2) ∧ (s.2 = hi ∨ ∃ t ∈ l, s.2 = popM t.2)
  | [], lo, hi => ⟨Int.le_refl _, Int.le_refl _, fun t ht => by simp at ht, .inl rfl, .inl rfl⟩
  | c :: l, lo, hi => by
    obtain ⟨h1, h2, h3, h4, h5⟩ := span_go l (min lo (popM c.2)) (max hi (popM c.2))
    rw [List.foldl_cons]
    refine ⟨Int.le_trans h1 (Int.min_le_left _ _), Int.le_trans (Int.le_max_left _ _) h2, fun t ht => ?_, ?_, ?_⟩
    · rcases List.mem_cons.1 ht with rfl | h
      · exact ⟨Int.le_trans h1 (Int.min_le_right _ _), Int.le_trans (Int.le_max_right _ _) h2⟩
      · exact h3 t h
    · rcases h4 with h4 | ⟨t, ht, h4⟩
      · rcases Int.le_total lo (popM c.2) with h | h
        · exact .inl (h4.trans (Int.min_eq_left h))
        · exact .inr ⟨c, List.mem_cons_self .., h4.trans (Int.min_eq_right h)⟩
      · exact .inr ⟨t, List.mem_cons_of_mem _ ht, h4⟩
    · rcases h5 with h5 | ⟨t, ht, h5⟩
      · rcases Int.le_total hi (popM c.2) with h | h
        · exact .inr ⟨c, List.mem_cons_self .., h5.trans (Int.max_eq_right h)⟩
        · exact .inl (h5.trans (Int.max_eq_left h))
      · exact .inr ⟨t, List.mem_cons_of_mem _ ht, h5⟩
theorem span_is {l : List (Int × Int)} (h : 0 < l.length) : (∀ t ∈ l, (spanM l).1 ≤ popM t.2 ∧ popM t.2 ≤ (spanM l).2) ∧ (∃ t ∈ l, (spanM l).1 = popM t.2) ∧ ∃ t ∈ l, (spanM l).2 = popM t.2 := by
  obtain ⟨_, _, h3, h4, h5⟩ := span_go l 6 0
  have h0 := getD_mem (0, 0) h
  have hb := popM_le (l.getD 0 (0, 0)).2
  have h6 := h3 _ h0
  refine ⟨h3, ?_, ?_⟩
  · rcases h4 with h4 | h4
    · exact ⟨_, h0, by unfold spanM; omega⟩
    · exact h4
  · rcases h5 with h5 | h5
    · exact ⟨_, h0, by unfold spanM; omega⟩
    · exact h5
theorem isM_li {x : RT} {hd : Int} {t : Int × Int} (h : isM x hd t = true) : popM t.2 ≤ x.1.2.2 := by
  unfold isM at h
  simp only [Bool.and_eq_true, decide_eq_true_eq] at h
  exact h.1.1

/-! ### small numbers and their bits -/
theorem andW (a m : Nat) (ha : a < 256) (hm : m ≤ 6) : IntKind.i64.wrap ((BitVec.ofInt 64 (a : Int) &&& BitVec.ofInt 64 (((2 ^ m : Nat) : Int) - 1)).toNat : Int) = ((a % 2 ^ m : Nat) : Int) := by
  have : ∀ (a : Fin 256) (m : Fin 7), IntKind.i64.wrap ((BitVec.ofInt 64 ((a.val : Nat) : Int) &&& BitVec.ofInt 64 (((2 ^ m.val : Nat) : Int) - 1)).toNat : Int) = ((a.val % 2 ^ m.val : Nat) : Int) := by decide +kernel
  exact this ⟨a, ha⟩ ⟨m, by omega⟩
end AE.Pr

namespace AE.Pr
open Go AE Go.Proofs

theorem lineM_filter {x x' : RT} {hd : Int} {p : Int × Int → Bool} (h : ∀ t, isM x' hd t = (isM x hd t && p t)) (a n : Nat) : lineM x' hd a n = (lineM x hd a n).filter p := by
  unfold lineM
  rw [List.filter_map, List.filter_filter]
  congr 1
  refine List.filter_congr fun b _ => ?_
  rw [h, Bool.and_comm]; rfl
theorem allM_filter {x x' : RT} {hd : Int} {p : Int × Int → Bool} (h1 : x'.1.1 = x.1.1) (h2 : x'.1.2.1 = x.1.2.1) (h : ∀ t, isM x' hd t = (isM x hd t && p t)) : allM x' hd = (allM x hd).filter p := by
  unfold allM preM
  rw [List.filter_append, List.filter_flatMap, h1, h2]
  have e : (fun a => lineM x' hd a (2 ^ x.1.2.1.toNat)) = fun a => (lineM x hd a (2 ^ x.1.2.1.toNat)).filter p := funext fun a => lineM_filter h _ _
  rw [e, lineM_filter h]
def extH (x : HT) (m : W3) : HT := (x.1, x.2.1, x.2.2 ++ [m])
def lessH (x : HT) (l : Int) : HT := ((x.1.1, x.1.2.1, l), x.2.1, x.2.2)
theorem allH_ext (x : HT) (m : W3) : allH (extH x m) = (allH x).filter fun t => rightM t m := by
  refine allM_filter rfl rfl fun t => ?_
  unfold isM
  show (_ && _ && (x.2.2 ++ [m]).all (rightM t)) = _
  rw [List.all_append, List.all_cons, List.all_nil, Bool.and_true, Bool.and_assoc, Bool.and_assoc, Bool.and_assoc]
  rfl
theorem allH_less (x : HT) (l : Int) (hl : l ≤ x.1.2.2) : allH (lessH x l) = (allH x).filter fun t => decide (popM t.2 ≤ l) := by
  refine allM_filter rfl rfl fun t => ?_
  unfold isM
  show (decide (popM t.2 ≤ l) && _ && _) = (decide (popM t.2 ≤ x.1.2.2) && _ && _ && decide (popM t.2 ≤ l))
  by_cases h : popM t.2 ≤ l
  · have : popM t.2 ≤ x.1.2.2 := by omega
    simp only [h, this, decide_true, Bool.true_and, Bool.and_true]; rfl
  · simp [h]
/-- What is told of fewer truths. -/
theorem count_some {x : HT} (h : hearM x = true) : countM x = (((allH x).length : Int), 0) := by simp [countM, h]
theorem liars_some {x : HT} (h : hearM x = true) : liarsM x = if ((allH x).length : Int) > 0 then (spanM (allH x), 0) else ((0, 0), 10) := by simp [liarsM, h]
theorem rule_some {x : HT} {w : W3} (h : hearM x = true) : ruleM x w = if wordM x.1.1 x.1.2.1 w then (if ((allH x).length : Int) > 0 then (verdictM (allH x) w, 0) else (0, 10)) else (0, 2) := by
  unfold ruleM openErrM
  cases wordM x.1.1 x.1.2.1 w <;> simp [h]
theorem span_sub {A B : List (Int × Int)} (h : ∀ t ∈ B, t ∈ A) (hB : 0 < B.length) : (spanM A).1 ≤ (spanM B).1 ∧ (spanM B).2 ≤ (spanM A).2 := by
  have hA : 0 < A.length := by
    have := h _ (getD_mem (0, 0) hB)
    exact List.length_pos_of_mem this
  obtain ⟨h1, _, _⟩ := span_is hA
  obtain ⟨_, ⟨t, ht, e1⟩, ⟨u, hu, e2⟩⟩ := span_is hB
  exact ⟨by rw [e1]; exact (h1 t (h t ht)).1, by rw [e2]; exact (h1 u (h u hu)).2⟩
theorem verdict_cases (A : List (Int × Int)) (w : W3) (hA : 0 < A.length) : (verdictM A w = 2 ↔ ∀ t ∈ A, rightM t w = true) ∧ (verdictM A w = 0 ↔ ∀ t ∈ A, rightM t w = false) ∧ (verdictM A w = 0 ∨ verdictM A w = 1 ∨ verdictM A w = 2) := by
  have h0 := getD_mem (0, 0) hA
  have hw : wrongsM A w = false ↔ ∀ t ∈ A, rightM t w = true := by unfold wrongsM; rw [List.any_eq_false]; simp
  have hr : rightsM A w = false ↔ ∀ t ∈ A, rightM t w = false := by unfold rightsM; rw [List.any_eq_false]; simp
  have hne : ¬ (wrongsM A w = false ∧ rightsM A w = false) := fun ⟨a, b⟩ => by
    have := hw.1 a _ h0
    rw [hr.1 b _ h0] at this; cases this
  rw [← hw, ← hr]
  unfold verdictM
  cases h1 : wrongsM A w <;> cases h2 : rightsM A w <;> simp_all
theorem verdict_sub {A B : List (Int × Int)} (h : ∀ t ∈ B, t ∈ A) (hB : 0 < B.length) (w : W3) (ho : verdictM A w ≠ 1) : verdictM A w = verdictM B w := by
  have hA : 0 < A.length := by
    have := h _ (getD_mem (0, 0) hB)
    exact List.length_pos_of_mem this
  obtain ⟨a1, a2, a3⟩ := verdict_cases A w hA
  obtain ⟨b1, b2, _⟩ := verdict_cases B w hB
  rcases a3 with a3 | a3 | a3
  · rw [a3]; exact (b2.2 fun t ht => a2.1 a3 t (h t ht)).symm
  · exact absurd a3 ho
  · rw [a3]; exact (b1.2 fun t ht => a1.1 a3 t (h t ht)).symm
/-- All that is asked of a hearing with fewer truths. -/
theorem more_of {x q : HT} {p : Int × Int → Bool} (hx : hearM x = true) (hq : hearM q = true) (h1 : q.1.1 = x.1.1) (h2 : q.1.2.1 = x.1.2.1) (hf : allH q = (allH x).filter p) (w : W3) :
    (countM x).2 = 0 ∧ (countM q).2 = 0 ∧ ¬ (countM q).1 > (countM x).1 ∧ (decide ((countM q).1 > 0) = ((liarsM q).2 == 0)) ∧
    ((countM q).1 ≠ 0 → (ruleM q w).2 = (ruleM x w).2 ∧ ((ruleM x w).2 = 0 → (ruleM x w).1 ≠ 1 → (ruleM x w).1 = (ruleM q w).1) ∧ (liarsM x).2 = 0 ∧ ¬ (liarsM q).1.1 < (liarsM x).1.1 ∧ ¬ (liarsM q).1.2 > (liarsM x).1.2) := by
  rw [count_some hx, count_some hq, liars_some hx, liars_some hq, rule_some hx, rule_some hq, hf, h1, h2]
  have hsub : ∀ t ∈ (allH x).filter p, t ∈ allH x := fun t ht => (List.mem_filter.1 ht).1
  have hle := List.length_filter_le p (allH x)
  generalize hB : (allH x).filter p = B at *
  generalize allH x = A at *
  refine ⟨rfl, rfl, by show ¬ ((B.length : Int) > (A.length : Int)); omega, ?_, fun hne => ?_⟩
  · show decide ((B.length : Int) > 0) = _
    by_cases h : (B.length : Int) > 0
    · rw [if_pos h, decide_eq_true h]; rfl
    · rw [if_neg h, decide_eq_false h]; rfl
  · have hne' : (B.length : Int) ≠ 0 := hne
    have hBp : 0 < B.length := by omega
    have hB' : (B.length : Int) > 0 := by omega
    have hA' : (A.length : Int) > 0 := by omega
    have hs := span_sub hsub hBp
    simp only [hB', hA', if_true]
    refine ⟨by split <;> rfl, fun h3 h4 => ?_, trivial, by omega, by omega⟩
    split at h3
    · rename_i hw
      simp only [hw, if_true] at h4 ⊢
      exact verdict_sub hsub hBp w h4
    · cases h3
theorem more_cases {x q : HT} {p : Int × Int → Bool} (hx : hearM x = true) (hq : hearM q = true) (h1 : q.1.1 = x.1.1) (h2 : q.1.2.1 = x.1.2.1) (hf : allH q = (allH x).filter p) (w : W3) :
    (countM x).2 = 0 ∧ (countM q).2 = 0 ∧ (countM q).1 ≤ (countM x).1 ∧ (((countM q).1 = 0 ∧ (liarsM q).2 = 10) ∨
      (0 < (countM q).1 ∧ (liarsM q).2 = 0 ∧ (ruleM q w).2 = (ruleM x w).2 ∧ ((ruleM x w).2 = 0 → (ruleM x w).1 ≠ 1 → (ruleM x w).1 = (ruleM q w).1) ∧ (liarsM x).2 = 0 ∧ (liarsM x).1.1 ≤ (liarsM q).1.1 ∧ (liarsM q).1.2 ≤ (liarsM x).1.2)) := by
  obtain ⟨a1, a2, a3, a4, a5⟩ := more_of hx hq h1 h2 hf w
  refine ⟨a1, a2, by omega, ?_⟩
  have hc : (countM q).1 = ((allH q).length : Int) := by rw [count_some hq]
  by_cases h0 : (countM q).1 = 0
  · left
    refine ⟨h0, ?_⟩
    rw [liars_some hq, if_neg (by omega)]
  · right
    obtain ⟨b1, b2, b3, b4, b5⟩ := a5 h0
    refine ⟨by omega, ?_, b1, b2, b3, by omega, by omega⟩
    rw [liars_some hq, if_pos (by omega)]
theorem suff_of {G : Prop} (R : Prop) (h : R → G) (hR : R) : G := h hR
theorem hear_less {x : HT} (h : hearM x = true) {l : Int} (h0 : 0 ≤ l) (h1 : l ≤ x.1.2.1) : hearM (lessH x l) = true := by
  unfold hearM at h ⊢
  simp only [Bool.and_eq_true, inM, decide_eq_true_eq] at h ⊢
  exact ⟨⟨⟨⟨h.1.1.1.1, h0, h1⟩, h.1.1.2⟩, h.1.2⟩, h.2⟩
/-- With nobody who lied each claim is right in each truth. -/
theorem none_lied {x : HT} (hx : hearM x = true) (hl : x.1.2.2 = 0) {t : Int × Int} (ht : t ∈ allH x) {c : Cl} (hc : c ∈ x.2.1) : claimRM t c = true := by
  have hk := hear_ok hx
  obtain ⟨a, b, ha, hb, hi, rfl⟩ := mem_allM_iff.1 ht
  have hw6 : 0 ≤ x.1.2.1 ∧ x.1.2.1 ≤ 6 := hk.w
  have hpop := isM_li hi
  have hpop' : popM (b : Int) ≤ 0 := by have : (rtM x).1.2.2 = 0 := hl; rw [this] at hpop; exact hpop
  obtain ⟨_, hcw, _⟩ := hk.claims c hc
  obtain ⟨k, hk2⟩ := Int.eq_ofNat_of_zero_le hcw.1
  have hk6 : k < 6 := by omega
  have hb64 : b < 64 := Nat.lt_of_lt_of_le hb (pow_le hk.w)
  have hb0 : hasM (b : Int) (k : Int) = false := by
    have : ∀ (b : Fin 64) (k : Fin 6), popM ((b.val : Nat) : Int) ≤ 0 → hasM ((b.val : Nat) : Int) ((k.val : Nat) : Int) = false := by decide +kernel
    exact this ⟨b, hb64⟩ ⟨k, hk6⟩ hpop'
  unfold isM at hi
  simp only [Bool.and_eq_true] at hi
  have hsay := (List.all_eq_true.1 hi.1.2) k (List.mem_range.2 (by show k < x.1.2.1.toNat; omega))
  rw [sayM_told hk6] at hsay
  have hev : hasM (everyH x) (k : Int) = true := by
    have : ∀ (n : Fin 7) (k : Fin 6), k.val < n.val → hasM (everyM n.val) ((k.val : Nat) : Int) = true := by decide +kernel
    exact this ⟨x.1.2.1.toNat, by omega⟩ ⟨k, hk6⟩ (by show k < x.1.2.1.toNat; omega)
  have hb0' : hasM (tM a b).2 (k : Int) = false := hb0
  rw [hev, hb0'] at hsay
  have htold : toldM x.2.1 (tM a b) (k : Int) = true := by
    cases h : toldM x.2.1 (tM a b) (k : Int) with
    | true => rfl
    | false => rw [h] at hsay; cases hsay
  have := List.all_eq_true.1 htold c hc
  have e : (c.1 == (k : Int)) = true := by rw [hk2]; simp
  rw [e] at this
  simpa using this
/-- With nobody who lied: what is told of a claim's words. -/
theorem none_told {x : HT} (hx : hearM x = true) (hl : x.1.2.2 = 0) (hn : (countM x).1 ≠ 0) {c : Cl} (hc : c ∈ x.2.1) :
    (ruleM x c.2.2.1).2 = 0 ∧ (c.2.1 = 0 → (ruleM x c.2.2.1).1 = 2) ∧ (c.2.1 ≠ 0 → (ruleM x c.2.2.2).2 = 0) ∧
    (c.2.1 = 1 → ¬ ((ruleM x c.2.2.1).1 = 0 ∧ (ruleM x c.2.2.2).1 = 0)) ∧ (c.2.1 = 2 → ¬ ((ruleM x c.2.2.1).1 = 2 ∧ (ruleM x c.2.2.2).1 = 0)) := by
  have hk := hear_ok hx
  obtain ⟨hkind, _, hA, hB⟩ := hk.claims c hc
  rw [count_some hx] at hn
  have hn' : ((allH x).length : Int) ≠ 0 := hn
  have hpos : 0 < (allH x).length := by omega
  have hpos' : ((allH x).length : Int) > 0 := by omega
  have h0 := getD_mem (0, 0) hpos
  have hall : ∀ t ∈ allH x, claimRM t c = true := fun t ht => none_lied hx hl ht hc
  have rA : ruleM x c.2.2.1 = (verdictM (allH x) c.2.2.1, 0) := by rw [rule_some hx, hA, if_pos rfl, if_pos hpos']
  have rB : c.2.1 ≠ 0 → ruleM x c.2.2.2 = (verdictM (allH x) c.2.2.2, 0) := fun h => by rw [rule_some hx, hB h, if_pos rfl, if_pos hpos']
  have vA := verdict_cases (allH x) c.2.2.1 hpos
  have vB := verdict_cases (allH x) c.2.2.2 hpos
  have hc0 := hall _ h0
  refine ⟨by rw [rA], fun h => ?_, fun h => by rw [rB h], fun h => ?_, fun h => ?_⟩
  · rw [rA]
    refine vA.1.2 fun t ht => ?_
    have := hall t ht
    simpa [claimRM, claimM, ciM, h] using this
  · rw [rA, rB (by omega)]
    rintro ⟨e1, e2⟩
    have g1 := vA.2.1.1 e1 _ h0
    have g2 := vB.2.1.1 e2 _ h0
    have : claimRM ((allH x).getD 0 (0, 0)) c = (rightM ((allH x).getD 0 (0, 0)) c.2.2.1 || rightM ((allH x).getD 0 (0, 0)) c.2.2.2) := by
      simp only [claimRM, claimM, ciM, h, decide_true, if_true]
    rw [this, g1, g2] at hc0; cases hc0
  · rw [rA, rB (by omega)]
    rintro ⟨e1, e2⟩
    have g1 := vA.1.1 e1 _ h0
    have g2 := vB.2.1.1 e2 _ h0
    have : claimRM ((allH x).getD 0 (0, 0)) c = (!rightM ((allH x).getD 0 (0, 0)) c.2.2.1 || rightM ((allH x).getD 0 (0, 0)) c.2.2.2) := by
      simp only [claimRM, claimM, ciM, h]; rfl
    rw [this, g1, g2] at hc0; cases hc0
end AE.Pr

namespace AE.Pr
open Go AE Go.Proofs

theorem every_has {n k : Nat} (hn : n ≤ 6) (hk : k < n) : hasM (everyM n) (k : Int) = true := by
  have : ∀ (n : Fin 7) (k : Fin 6), k.val < n.val → hasM (everyM n.val) ((k.val : Nat) : Int) = true := by decide +kernel
  exact this ⟨n, by omega⟩ ⟨k, by omega⟩ hk
/-- A truth, if all are heard, is one if some are. -/
theorem isM_sub {x : HT} (hx : HearOk x) {s : Int} {t : Int × Int} (h : isM (rtM x) (everyH x) t = true) : isM (rtM x) s t = true := by
  unfold isM at h ⊢
  simp only [Bool.and_eq_true] at h ⊢
  refine ⟨⟨h.1.1, ?_⟩, h.2⟩
  rw [List.all_eq_true] at *
  intro k hk
  have h1 := h.1.2 k hk
  have hk2 : k < x.1.2.1.toNat := List.mem_range.1 hk
  have hw := hx.w
  unfold sayM at h1 ⊢
  have he : hasM (everyH x) (k : Int) = true := every_has (by omega) hk2
  rw [he] at h1
  cases hasM s (k : Int) with
  | false => rfl
  | true => exact h1
theorem all_sub {x : HT} (hx : HearOk x) (s : Int) {t : Int × Int} (h : t ∈ allH x) : t ∈ allM (rtM x) s := by
  obtain ⟨a, b, ha, hb, hi, rfl⟩ := mem_allM_iff.1 h
  exact mem_allM_iff.2 ⟨a, b, ha, hb, isM_sub hx hi, rfl⟩
theorem proof_right {x : HT} {w : W3} (h : (proofM x w).2 = 0) {t : Int × Int} (ht : t ∈ allH x) : rightM t w = true := by
  unfold proofM at h
  split at h
  · rename_i hc
    rw [Bool.and_eq_true] at hc
    split at h
    · rename_i hb
      unfold bestM at hb
      split at hb
      · rename_i s hs
        have hk := hear_ok hc.1
        have hw := hk.w
        have hbest := search_best x.1.2.1.toNat (by omega) (fun s => proveM (rtM x) s w)
        rw [hs] at hbest
        have hp : proveM (rtM x) (s : Int) w = true := hbest.2.1
        unfold proveM at hp
        rw [Bool.and_eq_true] at hp
        exact List.all_eq_true.1 hp.2 t (all_sub hk _ ht)
      · cases hb
    · cases h
  · unfold openErrM at h
    split at h <;> cases h
theorem clash_none {x : HT} (hx : hearM x = true) {t : Int × Int} (ht : t ∈ allH x) : clashHM x = (0, 4) := by
  have : clashM (rtM x) (everyH x) = false := by
    unfold clashM
    cases h : allM (rtM x) (everyH x) with
    | nil => have h' : allH x = [] := h; rw [h'] at ht; cases ht
    | cons a l => rfl
  simp [clashHM, hx, this]
theorem rule_true {x : HT} (hx : hearM x = true) {t : Int × Int} (ht : t ∈ allH x) {w : W3} (hw : wordM x.1.1 x.1.2.1 w = true) :
    (ruleM x w).2 = 0 ∧ ((ruleM x w).1 = 1 ∨ ((ruleM x w).1 = 2 ∧ rightM t w = true) ∨ ((ruleM x w).1 = 0 ∧ rightM t w = false)) := by
  have hp := List.length_pos_of_mem ht
  rw [rule_some hx, hw, if_pos rfl, if_pos (by omega)]
  obtain ⟨v1, v2, v3⟩ := verdict_cases (allH x) w hp
  refine ⟨rfl, ?_⟩
  rcases v3 with h | h | h
  · exact .inr (.inr ⟨h, v2.1 h t ht⟩)
  · exact .inl h
  · exact .inr (.inl ⟨h, v1.1 h t ht⟩)
/-- A word and the same one with Not the other way round. -/
theorem rule_not {x : HT} (hx : hearM x = true) (hp : 0 < (allH x).length) {w : W3} (hw : wordM x.1.1 x.1.2.1 w = true) (hr : ∀ t, rightM t (w.1, w.2.1, !w.2.2) = !rightM t w) :
    (ruleM x w).1 + (ruleM x (w.1, w.2.1, !w.2.2)).1 = 2 := by
  have hw2 : wordM x.1.1 x.1.2.1 (w.1, w.2.1, !w.2.2) = true := hw
  rw [rule_some hx, rule_some hx, hw, hw2, if_pos rfl, if_pos rfl, if_pos (by omega), if_pos (by omega)]
  show verdictM _ _ + verdictM _ _ = 2
  have e1 : wrongsM (allH x) (w.1, w.2.1, !w.2.2) = rightsM (allH x) w := by
    unfold wrongsM rightsM; congr 1; funext t; rw [hr]; simp
  have e2 : rightsM (allH x) (w.1, w.2.1, !w.2.2) = wrongsM (allH x) w := by
    unfold wrongsM rightsM; congr 1; funext t; rw [hr]
  have hne : ¬ (wrongsM (allH x) w = false ∧ rightsM (allH x) w = false) := fun ⟨a, b⟩ => by
    have h0 := getD_mem (0, 0) hp
    have a' := (List.any_eq_false.1 a) _ h0
    have b' := (List.any_eq_false.1 b) _ h0
    cases h : rightM ((allH x).getD 0 (0, 0)) w with
    | true => exact b' h
    | false => rw [h] at a'; exact a' rfl
  unfold verdictM
  rw [e1, e2]
  cases h1 : wrongsM (allH x) w <;> cases h2 : rightsM (allH x) w <;> simp_all
end AE.Pr

namespace AE.Pr
open Go AE Go.Proofs

/-! ### Count -/
def countHc (x : HT) (heard : Int) (a b : Nat) : Heap UU := hH x ++ [.one (boxM x), .one (.cells [.i ((preM (rtM x) heard a b).length : Int)] 3), .one (.cells [.i 0] 30), .one (structM x 6), .one (mrowM 7)] ++ rowsM x.2.1 ++ [.one (.cells [.ptr 5 0 0 0] 72), .one (.cells [AV.u heard] 78)]
def countS : FSpec UU where
  X := HT
  pick := fun args H => match args with
    | [a] => avH H a
    | _ => none
  args := fun x => [vH x]
  H := fun x => hH x
  R := fun x => .val ⟨.tup [.i (countM x).1, .i (countM x).2], [], [], []⟩
  pre := fun x => okH x
def Tcount : Tab UU := [(49, openS.con), (51, everyS.con), (50, truthsS.con), (48, caughtS.con)]
theorem Tcount_ok : Tcount.Sound Try.prog := .cons open_sound (.cons every_sound (.cons truths_sound (.cons caught_sound .nil)))
set_option maxHeartbeats 0 in
set_option maxRecDepth 100000 in
theorem count_ok : ∀ x, countS.pre x → FunOk Try.prog 14 (countS.args x) (countS.H x) (countS.R x) := by
  rintro ⟨⟨f, w, li⟩, cs, ks⟩ hl
  refine fun_ofG (T := Tcount) (L := fun _ => none) (hs := fun _ => []) (sp := fun _ => none) hmix Tcount_ok (tl := toldL 47) (toldL_ok told47) (it := onlyAt 4 (itOf Try.prog Tit 81 Try.f81 (itLs (rtM ((f, w, li), cs, ks)) (everyM w.toNat) 13 14 15 (countHc ((f, w, li), cs, ks) (everyM w.toNat))) (fun _ => []) spIt)) (onlyAt_ok itP_ok) Try.func14 (by kernel_rfl) (by kernel_rfl) ?_
  refine Eq.mp (α :=
      let Z0 := Int.toNat w; let Z1 := True ∧ True; let Z2 := none; let Z3 := fun (p : Nat × Nat) => Prod.fst p; let Z4 := fun (p : Nat × Nat) => Prod.snd p; let Z5 := List.length cs; let Z6 := List.length ks; let Z7 := Value.bool true; let Z8 := nat_lit 0 = nat_lit 0 ∧ True; let Z9 := (w, li); let Z10 := Value.int IntKind.i64 li; let Z11 := Value.int IntKind.i64 f; let Z12 := everyM Z0; let Z13 := Value.int IntKind.i64 w; let Z14 := (↑(nat_lit 1) : Int); let Z15 := (↑(nat_lit 0) : Int); let Z16 := nat_lit 0 = nat_lit 0 ∧ nat_lit 0 = nat_lit 0; let Z17 := (↑(nat_lit 3) : Int); let Z18 := (↑(nat_lit 2) : Int); let Z19 := (↑(nat_lit 4) : Int); let Z20 := (↑(nat_lit 5) : Int); let Z21 := fun (p : (Nat × Nat) × Nat) => Prod.fst p; let Z22 := fun (p : (Nat × Nat) × Nat) => Prod.snd p; let Z23 := (1 : Int); let Z24 := (3 : Int); let Z25 := (0 : Int); let Z26 := (6 : Int); let Z27 := (5 : Int); let Z28 := (2 : Int); let Z29 := (4 : Int); let Z30 := fun (l : Nat) => Fn.yield l = Fn.yield l; let Z31 := (64 : Int); let Z32 := (2 : Nat); let Z33 := Value.slice Z2 (nat_lit 0) (nat_lit 0); let Z34 := True ∧ True ∧ Z1; let Z35 := ks = ks; let Z36 := cs = cs; let Z37 := (cs, ks); let Z38 := (56 : FuncId); let Z39 := (82 : FuncId); let Z40 := nat_lit 0 = nat_lit 0 ∧ Z8; let Z41 := (116 : TypeId); let Z42 := AV.v Z33; let Z43 := (112 : TypeId); let Z44 := saysM cs Z23; let Z45 := saysM cs Z24; let Z46 := saysM cs Z27; let Z47 := saysM cs Z25; let Z48 := saysM cs Z28; let Z49 := saysM cs Z29; let Z50 := True ∧ Z34; let Z51 := fun (c : Ci) => Prod.snd c; let Z52 := fun (c : Ci) => Prod.fst c; let Z53 := nat_lit 0 = nat_lit 0 ∧ Z16; let Z54 := Value.int IntKind.u64 Z12; let Z55 := fun (p : (Nat × Nat) × Nat) => Prod.fst (Z21 p); let Z56 := Z35 ∧ True; let Z57 := Fn.func Z39; let Z58 := fun (p : (Nat × Nat) × Nat) => Prod.snd (Z21 p); let Z59 := Fn.func Z38; let Z60 := Z5 = Z5; let Z61 := Z6 = Z6; let Z62 := Value.int IntKind.i64 Z18; let Z63 := Value.int IntKind.i64 Z15; let Z64 := Value.int IntKind.i64 Z19; let Z65 := Value.int IntKind.i64 Z17; let Z66 := (f, Z9); let Z67 := Value.int IntKind.i64 Z14; let Z68 := Value.int IntKind.i64 Z20; let Z69 := Z7 = Z7; let Z70 := Value.int IntKind.u64 Z25; let Z71 := fun (l : Nat) => Z30 l ∧ Z1; let Z72 := fun (k : Nat) (p : (Nat × Nat) × Nat) => k < Z22 p; let Z73 := Value.int IntKind.i64 Z25; let Z74 := nat_lit 0 = nat_lit 0 ∧ Z40; let Z75 := Z53 ∧ True; let Z76 := Z25 ≤ w; let Z77 := w ≤ Z26; let Z78 := (Z25, false); let Z79 := Z13 = Z13; let Z80 := Z11 = Z11; let Z81 := Z10 = Z10; let Z82 := List.length Z49; let Z83 := Z69 ∧ True; let Z84 := List.length Z45; let Z85 := List.length Z48; let Z86 := List.length Z44; let Z87 := List.length Z46; let Z88 := List.length Z47; let Z89 := hasM Z12 Z14; let Z90 := hasM Z12 Z20; let Z91 := hasM Z12 Z15; let Z92 := hasM Z12 Z19; let Z93 := hasM Z12 Z17; let Z94 := hasM Z12 Z18; let Z95 := fun (c : Ci) => Z52 c = true; let Z96 := Fn.func (nat_lit 82) = Z57; let Z97 := True ∧ Z75; let Z98 := nat_lit 0 = nat_lit 0 ∧ Z61; let Z99 := nat_lit 0 = nat_lit 0 ∧ Z60; let Z100 := nat_lit 0 = nat_lit 0 ∧ Z74; let Z101 := fun (p : (Nat × Nat) × Nat) => (↑(Z58 p) : Int); let Z102 := fun (c : Ci) => Prod.snd (Z51 c); let Z103 := fun (c : Ci) => Prod.fst (Z51 c); let Z104 := Z25 ≤ Z12; let Z105 := Z12 < Z31; let Z106 := Z25 ≤ Z14; let Z107 := fun (p : (Nat × Nat) × Nat) => popM (Z101 p); let Z108 := Z25 ≤ Z20; let Z109 := Z25 ≤ Z17; let Z110 := Z25 ≤ Z15; let Z111 := Z25 ≤ Z18; let Z112 := Z25 ≤ Z19; let Z113 := nat_lit 0 = nat_lit 0 ∧ Z98; let Z114 := nat_lit 0 = nat_lit 0 ∧ Z99; let Z115 := Z15 < Z31; let Z116 := Z17 < Z31; let Z117 := Z19 < Z31; let Z118 := Z14 < Z31; let Z119 := Z20 < Z31; let Z120 := Z18 < Z31; let Z121 := Z42 = Z42; let Z122 := nat_lit 0 = nat_lit 0 ∧ Z100; let Z123 := Z41 = Z41; let Z124 := Z36 ∧ Z56; let Z125 := Z113 ∧ True; let Z126 := fun (c : Ci) => Z103 c = true; let Z127 := (false, Z78); let Z128 := fun (c : Ci) => Prod.fst (Z102 c); let Z129 := fun (c : Ci) => Prod.snd (Z102 c); let Z130 := True ∧ Z124; let Z131 := fun (p : (Nat × Nat) × Nat) => tM (Z55 p) (Z58 p); let Z132 := Z54 = Z54; let Z133 := nat_lit 0 = nat_lit 0 ∧ Z122; let Z134 := Z79 ∧ Z50; let Z135 := Z65 = Z65; let Z136 := Z64 = Z64; let Z137 := Z62 = Z62; let Z138 := Z113 ∧ Z8; let Z139 := Z68 = Z68; let Z140 := Z67 = Z67; let Z141 := Z63 = Z63; let Z142 := Z132 ∧ True; let Z143 := Z73 = Z73; let Z144 := Z44 = Z44; let Z145 := Z47 = Z47; let Z146 := Z49 = Z49; let Z147 := Z45 = Z45; let Z148 := Z46 = Z46; let Z149 := Z48 = Z48; let Z150 := True ∧ Z134; let Z151 := Z76 ∧ Z77; let Z152 := Z136 ∧ True; let Z153 := Z140 ∧ True; let Z154 := Z141 ∧ True; let Z155 := Z139 ∧ True; let Z156 := Z137 ∧ True; let Z157 := Z135 ∧ True; let Z158 := Z142 ∧ True; let Z159 := Z143 ∧ True; let Z160 := fun (c : Ci) => Prod.snd (Z129 c); let Z161 := fun (c : Ci) => Prod.snd (Z128 c); let Z162 := Z150 ∧ True; let Z163 := Z159 ∧ True; let Z164 := Z96 ∧ Z97; let Z165 := fun (c : Ci) => Prod.fst (Z160 c); let Z166 := fun (c : Ci) => Prod.fst (Z161 c); let Z167 := Z164 ∧ True; let Z168 := (Z66, Z37); let Z169 := rtM Z168; let Z170 := hearM Z168; let Z171 := countM Z168; let Z172 := fun (c : Ci) => Z95 c ∨ Z126 c; let Z173 := openErrM Z168; let Z174 := Z106 ∧ Z118; let Z175 := Z108 ∧ Z119; let Z176 := Z110 ∧ Z115; let Z177 := Z111 ∧ Z120; let Z178 := Z109 ∧ Z116; let Z179 := Z112 ∧ Z117; let Z180 := Prod.fst Z171; let Z181 := Prod.snd Z171; let Z182 := Z170 && true; let Z183 := Z75 ∧ Z158; let Z184 := Z114 ∧ Z125; let Z185 := Value.int IntKind.i64 Z173; let Z186 := fun (c : Ci) => Z25 ≤ Z165 c; let Z187 := fun (c : Ci) => Z165 c < Z26; let Z188 := fun (c : Ci) => Z25 ≤ Z166 c; let Z189 := fun (c : Ci) => Z166 c < Z26; let Z190 := Value.int IntKind.i64 Z180; let Z191 := Value.int IntKind.i64 Z181; let Z192 := Z114 ∧ Z138; let Z193 := Z123 ∧ Z146; let Z194 := Z123 ∧ Z149; let Z195 := Z123 ∧ Z148; let Z196 := Z123 ∧ Z144; let Z197 := Z123 ∧ Z145; let Z198 := Z123 ∧ Z147; let Z199 := Z81 ∧ Z184; let Z200 := Z81 ∧ Z192; let Z201 := fun (p : (Nat × Nat) × Nat) (k : Nat) => sayM Z169 Z12 (Z131 p) k; let Z202 := Z79 ∧ Z199; let Z203 := Prod.snd Z169; let Z204 := Prod.fst Z169; let Z205 := fun (p : (Nat × Nat) × Nat) (k : Nat) => Z201 p k = true; let Z206 := Z79 ∧ Z200; let Z207 := Prod.snd Z204; let Z208 := Prod.fst Z204; let Z209 := Int.toNat Z208; let Z210 := Prod.fst Z207; let Z211 := Prod.snd Z207; let Z212 := Int.toNat Z210; let Z213 := fun (k : Nat) (p : (Nat × Nat) × Nat) => Z72 k p → Z205 p k; let Z214 := Z80 ∧ Z202; let Z215 := fun (p : (Nat × Nat) × Nat) => ∀ (k : Nat), Z213 k p; let Z216 := Value.int IntKind.i64 Z210; let Z217 := fun (k : Nat) => k < Z212; let Z218 := Z80 ∧ Z206; let Z219 := Z195 ∧ Z183; let Z220 := fun (c : Ci) => Z186 c ∧ Z187 c; let Z221 := fun (c : Ci) => Z188 c ∧ Z189 c; let Z222 := fun (p : (Nat × Nat) × Nat) => Z22 p ≤ Z212; let Z223 := nat_lit 2 ^ Z209; let Z224 := nat_lit 2 ^ Z212; let Z225 := Prod.fst Z203; let Z226 := Z214 ∧ Z83; let Z227 := (↑Z223 : Int); let Z228 := Z32 ^ Z209; let Z229 := List.length Z225; let Z230 := fun (j : Nat) => List.getD Z225 j dfW; let Z231 := (↑Z224 : Int); let Z232 := fun (p : (Nat × Nat) × Nat) => Z107 p ≤ Z211; let Z233 := Z32 ^ Z212; let Z234 := Value.int IntKind.u64 Z227; let Z235 := fun (a : Nat) => a ≤ Z228; let Z236 := (↑Z229 : Int); let Z237 := Value.int IntKind.u64 Z231; let Z238 := fun (p : Nat × Nat) => Z3 p < Z228; let Z239 : Type := { a : Nat // Z235 a }; let Z240 := fun (x : Z239) => Subtype.val x; let Z241 := Value.int IntKind.i64 Z236; let Z242 := fun (p : (Nat × Nat) × Nat) => Z22 p ≤ Z229; let Z243 := fun (p : Nat × Nat) => Z4 p ≤ Z233; let Z244 := fun (p : (Nat × Nat) × Nat) => Z55 p < Z228; let Z245 := fun (x : Z239) => (↑(Z240 x) : Int); let Z246 := fun (p : (Nat × Nat) × Nat) => Z58 p < Z233; let Z247 := fun (x : Z239) => Value.int IntKind.u64 (Z245 x); let Z248 := fun (c : Ci) => Z172 c → Z220 c; let Z249 := fun (p : (Nat × Nat) × Nat) (j : Nat) => rightM (Z131 p) (Z230 j); let Z250 := fun (p : (Nat × Nat) × Nat) (j : Nat) => Z249 p j = true; let Z251 := Z193 ∧ Z219; let Z252 := fun (j : Nat) (p : (Nat × Nat) × Nat) => Z72 j p → Z250 p j; let Z253 := fun (p : (Nat × Nat) × Nat) => ∀ (j : Nat), Z252 j p; let Z254 := fun (x : Z239) => preM Z169 Z12 (Z240 x) (nat_lit 0); let Z255 := fun (k : Nat) (p : (Nat × Nat) × Nat) => Z217 k → Z205 p k; let Z256 := fun (p : (Nat × Nat) × Nat) => ∀ (k : Nat), Z255 k p; let Z257 := fun (x : Z239) => List.length (Z254 x); let Z258 := fun (x : Z239) => (↑(Z257 x) : Int); let Z259 := Z216 = Z216; let Z260 := fun (x : Z239) => Value.int IntKind.i64 (Z258 x); let Z261 := fun (p : (Nat × Nat) × Nat) => Z222 p ∧ Z215 p; let Z262 := Z198 ∧ Z251; let Z263 := Z234 = Z234; let Z264 := fun (x : Z239) => Z223 - Z240 x; let Z265 := fun (c : Ci) => Z221 c ∧ Z248 c; let Z266 := Z237 = Z237; let Z267 := fun (t : Z239) => Z245 t < Z227; let Z268 := fun (p : Nat × Nat) => Z238 p ∧ Z243 p; let Z269 : Type := { p : Nat × Nat // Z268 p }; let Z270 := fun (x : Z269) => Subtype.val x; let Z271 := Z194 ∧ Z262; let Z272 := fun (x : Z269) => Prod.snd (Z270 x); let Z273 := fun (x : Z269) => Prod.fst (Z270 x); let Z274 := fun (x : Z269) => (↑(Z273 x) : Int); let Z275 := fun (x : Z269) => (↑(Z272 x) : Int); let Z276 := fun (t : Z269) => popM (Z275 t); let Z277 := fun (x : Z269) => Value.int IntKind.u64 (Z274 x); let Z278 := fun (x : Z269) => Value.int IntKind.u64 (Z275 x); let Z279 := fun (t : Z269) => Z276 t > li; let Z280 := fun (p : (Nat × Nat) × Nat) => Z242 p ∧ Z253 p; let Z281 := fun (p : (Nat × Nat) × Nat) => Z232 p ∧ Z261 p; let Z282 := Z196 ∧ Z271; let Z283 := Z197 ∧ Z282; let Z284 := fun (x : Z269) => Z224 - Z272 x; let Z285 := fun (t : Z269) => Z275 t < Z231; let Z286 := Z133 ∧ Z283; let Z287 := fun (t : Z239) (x : Z269) => Z247 t = Z277 x; let Z288 := fun (p : (Nat × Nat) × Nat) => Z246 p ∧ Z281 p; let Z289 := fun (p : (Nat × Nat) × Nat) => Z256 p ∧ Z280 p; let Z290 := Z218 ∧ Z286; let Z291 := fun (t : Z239) => decide (Z267 t); let Z292 := Z159 ∧ Z290; let Z293 := fun (t x : Z269) => Z273 t = Z273 x; let Z294 := fun (t x : Z269) => Z277 t = Z277 x; let Z295 := fun (x : Z269) => preM Z169 Z12 (Z273 x) (Z272 x); let Z296 := fun (p : (Nat × Nat) × Nat) => Z244 p ∧ Z288 p; let Z297 := fun (p : (Nat × Nat) × Nat) => Z232 p ∧ Z289 p; let Z298 := fun (x : Z269) => List.length (Z295 x); let Z299 := fun (x : Z269) => (↑(Z298 x) : Int); let Z300 : Type := { p : (Nat × Nat) × Nat // Z296 p }; let Z301 := fun (x : Z300) => Subtype.val x; let Z302 := fun (x : Z269) => Value.int IntKind.i64 (Z299 x); let Z303 := fun (x : Z300) => Prod.fst (Z301 x); let Z304 := fun (x : Z300) => Prod.snd (Z301 x); let Z305 := fun (x : Z300) => Prod.snd (Z303 x); let Z306 := fun (x : Z300) => Prod.fst (Z303 x); let Z307 := fun (x : Z300) => (↑(Z304 x) : Int); let Z308 := fun (x : Z300) => (↑(Z306 x) : Int); let Z309 := fun (x : Z300) => (↑(Z305 x) : Int); let Z310 := fun (x : Z300) => Value.int IntKind.i64 (Z307 x); let Z311 := fun (x : Z300) => Value.int IntKind.u64 (Z308 x); let Z312 := fun (x : Z300) => Value.int IntKind.u64 (Z309 x); let Z313 := fun (t : Z300) => hasM (Z309 t) Z17; let Z314 := fun (t : Z300) => hasM (Z309 t) Z19; let Z315 := fun (t : Z300) => hasM (Z309 t) Z20; let Z316 := fun (t : Z300) => hasM (Z309 t) Z18; let Z317 := fun (t : Z300) => hasM (Z309 t) Z14; let Z318 := fun (t : Z300) => hasM (Z309 t) Z15; let Z319 := fun (t : Z269) => decide (Z279 t); let Z320 := fun (t : Z300) => Z25 ≤ Z309 t; let Z321 := fun (t : Z300) => Z25 ≤ Z308 t; let Z322 := fun (t : Z300) => Z309 t < Z31; let Z323 := fun (t : Z300) => Z308 t < Z31; let Z324 := fun (t : Z300) => Z307 t + Z23; let Z325 := fun (t : Z300) => Z309 t + Z23; let Z326 := fun (t : Z300) => IntKind.wrap IntKind.i64 (Z324 t); let Z327 := fun (t : Z300) => IntKind.wrap IntKind.u64 (Z325 t); let Z328 := fun (t : Z300) => Value.int IntKind.i64 (Z326 t); let Z329 := fun (t : Z300) => Value.int IntKind.u64 (Z327 t); let Z330 := fun (t : Z300) => Z307 t < Z210; let Z331 := fun (x : Z300) => Z212 - Z304 x; let Z332 := fun (p : (Nat × Nat) × Nat) => Z246 p ∧ Z297 p; let Z333 := fun (x t : Z269) => Z284 x < Z284 t; let Z334 := fun (t : Z269) => decide (Z285 t); let Z335 := fun (p : (Nat × Nat) × Nat) => Z244 p ∧ Z332 p; let Z336 : Type := { p : (Nat × Nat) × Nat // Z335 p }; let Z337 := fun (x : Z336) => Subtype.val x; let Z338 := fun (x : Z336) => Prod.fst (Z337 x); let Z339 := fun (x : Z336) => Prod.snd (Z337 x); let Z340 := fun (x : Z336) => Prod.fst (Z338 x); let Z341 := fun (x : Z336) => Prod.snd (Z338 x); let Z342 := fun (x : Z336) => (↑(Z339 x) : Int); let Z343 := fun (t : Z336) => Int.toNat (Z342 t); let Z344 := fun (x : Z336) => (↑(Z341 x) : Int); let Z345 := fun (x : Z336) => (↑(Z340 x) : Int); let Z346 := fun (x : Z336) => Value.int IntKind.i64 (Z342 x); let Z347 := fun (x : Z336) => Value.int IntKind.u64 (Z345 x); let Z348 := fun (x : Z336) => Value.int IntKind.u64 (Z344 x); let Z349 := fun (t : Z336) => nat_lit 0 + Z343 t; let Z350 := fun (t : Z269) (x : Z300) => Z278 t = Z312 x; let Z351 := fun (t : Z300) (x : Z269) => Z311 t = Z277 x; let Z352 := fun (t : Z269) (x : Z300) => Z277 t = Z311 x; let Z353 := fun (t : Z336) => Z344 t + Z23; let Z354 := fun (t : Z336) => IntKind.wrap IntKind.u64 (Z353 t); let Z355 := fun (t : Z336) => Value.int IntKind.u64 (Z354 t); let Z356 := fun (t : Z300) (x : Z269) => Z329 t = Z278 x; let Z357 := fun (t : Z336) => List.getD ks (Z349 t) Z127; let Z358 := fun (t : Z300) (x : Z269) => Z356 t x ∧ True; let Z359 := fun (t : Z336) => Prod.snd (Z357 t); let Z360 := fun (t : Z336) => Prod.fst (Z357 t); let Z361 := fun (t : Z336) => Value.bool (Z360 t); let Z362 := fun (t : Z336) => Prod.fst (Z359 t); let Z363 := fun (t : Z336) => Prod.snd (Z359 t); let Z364 := fun (t : Z336) => Value.bool (Z363 t); let Z365 := fun (t : Z336) => Value.int IntKind.i64 (Z362 t); let Z366 := fun (x : Z336) => Z229 - Z339 x; let Z367 := fun (t : Z336) => Z342 t < Z236; let Z368 := fun (t : Z336) (x : Z269) => Z347 t = Z277 x; let Z369 := fun (t : Z300) (x : Z269) => Z266 ∧ Z358 t x; let Z370 := fun (t : Z336) (x : Z269) => Z355 t = Z278 x; let Z371 := fun (t : Z336) (x : Z269) => Z370 t x ∧ True; let Z372 := fun (t x : Z300) => Z303 t = Z303 x; let Z373 := fun (t : Z300) => (Z308 t, Z309 t); let Z374 := fun (t x : Z300) => Z311 t = Z311 x; let Z375 := fun (t : Z300) => Z311 t = Z311 t; let Z376 := fun (t x : Z300) => Z312 t = Z312 x; let Z377 := fun (t : Z300) => Z312 t = Z312 t; let Z378 := fun (t x : Z300) => Z376 t x ∧ True; let Z379 := fun (t : Z300) => Z377 t ∧ True; let Z380 := fun (t : Z300) => liesM (Z373 t) Z48; let Z381 := fun (t : Z300) => liesM (Z373 t) Z47; let Z382 := fun (t : Z300) => liesM (Z373 t) Z45; let Z383 := fun (t : Z300) => liesM (Z373 t) Z44; let Z384 := fun (t : Z300) => liesM (Z373 t) Z46; let Z385 := fun (t : Z300) => liesM (Z373 t) Z49; let Z386 := fun (t : Z300) => Z321 t ∧ Z323 t; let Z387 := fun (t : Z300) => Z320 t ∧ Z322 t; let Z388 := fun (t x : Z300) => Z328 t = Z310 x; let Z389 := fun (t x : Z300) => Z388 t x ∧ True; let Z390 := fun (x : Z300) => preM Z169 Z12 (Z306 x) (Z305 x); let Z391 := fun (x : Z300) => List.length (Z390 x); let Z392 := fun (x : Z300) => (↑(Z391 x) : Int); let Z393 := fun (x : Z300) => Value.int IntKind.i64 (Z392 x); let Z394 := fun (x t x_1 : Z269) => Z333 x t ∧ Z293 x x_1; let Z395 := fun (t : Z300) => decide (Z330 t); let Z396 := fun (x t : Z300) => Z331 x < Z331 t; let Z397 := fun (t : Z336) (x : Z269) => Z266 ∧ Z371 t x; let Z398 := fun (t x : Z300) => Z259 ∧ Z389 t x; let Z399 := fun (t x : Z300) => Z53 ∧ Z398 t x; let Z400 := fun (t : Z300) (x : Z336) => Z311 t = Z347 x; let Z401 := fun (t : Z300) (x : Z336) => Z312 t = Z348 x; let Z402 := fun (t : Z300) (x : Z336) => Z401 t x ∧ True; let Z403 := fun (t x : Z336) => Z338 t = Z338 x; let Z404 := fun (t : Z336) => (Z345 t, Z344 t); let Z405 := fun (t x : Z336) => Z348 t = Z348 x; let Z406 := fun (t x : Z336) => Z347 t = Z347 x; let Z407 := fun (t x : Z336) => Z405 t x ∧ True; let Z408 := fun (x : Z336) => preM Z169 Z12 (Z340 x) (Z341 x); let Z409 := fun (x : Z336) => List.length (Z408 x); let Z410 := fun (x : Z336) => (↑(Z409 x) : Int); let Z411 := fun (x : Z336) => Value.int IntKind.i64 (Z410 x); let Z412 := fun (t : Z300) (x : Z269) => Z393 t = Z302 x; let Z413 := fun (t : Z300) => Z385 t == Z314 t; let Z414 := fun (t : Z300) => Z381 t == Z318 t; let Z415 := fun (t : Z300) => Z384 t == Z315 t; let Z416 := fun (t : Z300) => Z380 t == Z316 t; let Z417 := fun (t : Z300) => Z383 t == Z317 t; let Z418 := fun (t : Z300) => Z382 t == Z313 t; let Z419 := fun (t : Z300) (x : Z269) => Z412 t x ∧ True; let Z420 := fun (t : Z300) => !Z414 t; let Z421 := fun (t : Z300) => !Z417 t; let Z422 := fun (t : Z300) => !Z415 t; let Z423 := fun (t : Z300) => !Z416 t; let Z424 := fun (t : Z300) => !Z418 t; let Z425 := fun (t : Z300) => !Z413 t; let Z426 := fun (t : Z336) => decide (Z367 t); let Z432 := fun (t : Z300) => (Z375 t ∧ Z379 t) ∧ True; let Z434 := fun (t : Z300) => Z386 t ∧ Z387 t; let Z486 := fun (l : Nat) (t : Z300) (t_1 x : Z269) => True ∧ ∃ (x_1 : Z269), ((Z71 l ∧ Z53 ∧ Z53 ∧ Z263 ∧ Z351 t x_1 ∧ Z351 t x_1 ∧ Z369 t x_1) ∧ True ∧ Z36 ∧ Z35 ∧ Z214 ∧ Z419 t x_1 ∧ Z292) ∧ Z394 x_1 t_1 x; let Z490 := fun (l : Nat) (t x : Z300) => True ∧ ∃ (x_1 : Z300), ((Z71 l ∧ Z53 ∧ Z53 ∧ Z263 ∧ Z374 t x_1 ∧ Z374 t x_1 ∧ Z266 ∧ Z376 t x_1 ∧ Z376 t x_1 ∧ Z399 t x_1) ∧ True ∧ Z36 ∧ Z35 ∧ Z214 ∧ (Z393 t = Z393 x_1 ∧ True) ∧ Z159 ∧ Z218 ∧ Z133 ∧ Z197 ∧ Z196 ∧ Z194 ∧ Z198 ∧ Z193 ∧ Z195 ∧ Z75 ∧ Z142 ∧ (Z374 t x_1 ∧ Z378 t x_1) ∧ True) ∧ Z396 x_1 t ∧ Z372 x_1 x; (Z5 < nat_lit 1000 ∧ Z6 < nat_lit 1000) ∧ (Z182 = true → Z226 ∧ Z124 ∧ Z151 ∧ Z75 ∧ Z162 ∧ True ∧ (Z53 ∧ Z142) ∧ Z1 ∧ ∀ (l : Nat), Z25 ≤ f ∧ (∃ (x : Z239), (Z71 l ∧ Z53 ∧ Z53 ∧ Value.int IntKind.u64 (IntKind.wrap IntKind.u64 (Z23 * Z28 ^ min (Int.toNat f) (nat_lit 64))) = Z234 ∧ Z70 = Z247 x ∧ True) ∧ True ∧ Z36 ∧ Z35 ∧ Z214 ∧ (Z73 = Z260 x ∧ True) ∧ Z292) ∧ ∀ (t : Z239), (Z291 t = true → Z151 ∧ Z75 ∧ Z162 ∧ ∃ (x : Z269), ((Z71 l ∧ Z53 ∧ Z53 ∧ Z263 ∧ Z287 t x ∧ Z287 t x ∧ Value.int IntKind.u64 (IntKind.wrap IntKind.u64 (Z12 + Z23)) = Z237 ∧ Z70 = Z278 x ∧ True) ∧ True ∧ Z36 ∧ Z35 ∧ Z214 ∧ (Z260 t = Z302 x ∧ True) ∧ Z292) ∧ Z273 x = Z273 x ∧ ∀ (t_1 : Z269), Z293 t_1 x → (Z334 t_1 = true → (Z25 ≤ Z275 t_1 ∧ Z275 t_1 < Z31) ∧ (Z278 t_1 = Z278 t_1 ∧ True) ∧ True ∧ (Z319 t_1 = true → True ∧ ∃ (x_1 : Z269), ((Z71 l ∧ Z53 ∧ Z53 ∧ Z263 ∧ Z294 t_1 x_1 ∧ Z294 t_1 x_1 ∧ Z266 ∧ Value.int IntKind.u64 (IntKind.wrap IntKind.u64 (Z275 t_1 + Z23)) = Z278 x_1 ∧ True) ∧ True ∧ Z36 ∧ Z35 ∧ Z214 ∧ (Z302 t_1 = Z302 x_1 ∧ True) ∧ Z292) ∧ Z394 x_1 t_1 x) ∧ (Z319 t_1 = false → ∃ (x_1 : Z300), ((Z71 l ∧ Z53 ∧ Z53 ∧ Z263 ∧ Z352 t_1 x_1 ∧ Z352 t_1 x_1 ∧ Z266 ∧ Z350 t_1 x_1 ∧ Z350 t_1 x_1 ∧ Z53 ∧ Z13 = Z216 ∧ Z73 = Z310 x_1 ∧ True) ∧ True ∧ Z36 ∧ Z35 ∧ Z214 ∧ (Z302 t_1 = Z393 x_1 ∧ True) ∧ Z159 ∧ Z218 ∧ Z133 ∧ Z197 ∧ Z196 ∧ Z194 ∧ Z198 ∧ Z193 ∧ Z195 ∧ Z75 ∧ Z142 ∧ (Z352 t_1 x_1 ∧ Z350 t_1 x_1 ∧ True) ∧ True) ∧ Z303 x_1 = Z303 x_1 ∧ ∀ (t : Z300), Z372 t x_1 → (Z395 t = true → (Z25 ≤ Z307 t ∧ Z307 t < (↑(nat_lit 6) : Int)) ∧ (Z307 t = Z15 → (Z104 ∧ Z105 ∧ Z176) ∧ (Z132 ∧ Z154) ∧ True ∧ (Z91 = true → Z121 ∧ (Z88 < nat_lit 1000000 ∧ Z434 t ∧ ∀ (c : Ci), c ∈ Z47 → Z265 c) ∧ ((nat_lit 7 = nat_lit 7 ∧ nat_lit 0 = nat_lit 0 ∧ nat_lit 0 = nat_lit 0 ∧ List.length Z47 = Z88) ∧ Z167) ∧ (Z145 ∧ Z432 t) ∧ (Z320 t ∧ Z322 t ∧ Z176) ∧ (Z377 t ∧ Z154) ∧ True ∧ (Z420 t = true → Z486 l t t_1 x) ∧ (Z420 t = false → Z490 l t x_1)) ∧ (Z91 = false → Z490 l t x_1)) ∧ (Z307 t = Z14 → (Z104 ∧ Z105 ∧ Z174) ∧ (Z132 ∧ Z153) ∧ True ∧ (Z89 = true → Z121 ∧ (Z86 < nat_lit 1000000 ∧ Z434 t ∧ ∀ (c : Ci), c ∈ Z44 → Z265 c) ∧ ((nat_lit 8 = nat_lit 8 ∧ nat_lit 0 = nat_lit 0 ∧ nat_lit 0 = nat_lit 0 ∧ List.length Z44 = Z86) ∧ Z167) ∧ (Z144 ∧ Z432 t) ∧ (Z320 t ∧ Z322 t ∧ Z174) ∧ (Z377 t ∧ Z153) ∧ True ∧ (Z421 t = true → Z486 l t t_1 x) ∧ (Z421 t = false → Z490 l t x_1)) ∧ (Z89 = false → Z490 l t x_1)) ∧ (Z307 t = Z18 → (Z104 ∧ Z105 ∧ Z177) ∧ (Z132 ∧ Z156) ∧ True ∧ (Z94 = true → Z121 ∧ (Z85 < nat_lit 1000000 ∧ Z434 t ∧ ∀ (c : Ci), c ∈ Z48 → Z265 c) ∧ ((nat_lit 9 = nat_lit 9 ∧ nat_lit 0 = nat_lit 0 ∧ nat_lit 0 = nat_lit 0 ∧ List.length Z48 = Z85) ∧ Z167) ∧ (Z149 ∧ Z432 t) ∧ (Z320 t ∧ Z322 t ∧ Z177) ∧ (Z377 t ∧ Z156) ∧ True ∧ (Z423 t = true → Z486 l t t_1 x) ∧ (Z423 t = false → Z490 l t x_1)) ∧ (Z94 = false → Z490 l t x_1)) ∧ (Z307 t = Z17 → (Z104 ∧ Z105 ∧ Z178) ∧ (Z132 ∧ Z157) ∧ True ∧ (Z93 = true → Z121 ∧ (Z84 < nat_lit 1000000 ∧ Z434 t ∧ ∀ (c : Ci), c ∈ Z45 → Z265 c) ∧ ((nat_lit 10 = nat_lit 10 ∧ nat_lit 0 = nat_lit 0 ∧ nat_lit 0 = nat_lit 0 ∧ List.length Z45 = Z84) ∧ Z167) ∧ (Z147 ∧ Z432 t) ∧ (Z320 t ∧ Z322 t ∧ Z178) ∧ (Z377 t ∧ Z157) ∧ True ∧ (Z424 t = true → Z486 l t t_1 x) ∧ (Z424 t = false → Z490 l t x_1)) ∧ (Z93 = false → Z490 l t x_1)) ∧ (Z307 t = Z19 → (Z104 ∧ Z105 ∧ Z179) ∧ (Z132 ∧ Z152) ∧ True ∧ (Z92 = true → Z121 ∧ (Z82 < nat_lit 1000000 ∧ Z434 t ∧ ∀ (c : Ci), c ∈ Z49 → Z265 c) ∧ ((nat_lit 11 = nat_lit 11 ∧ nat_lit 0 = nat_lit 0 ∧ nat_lit 0 = nat_lit 0 ∧ List.length Z49 = Z82) ∧ Z167) ∧ (Z146 ∧ Z432 t) ∧ (Z320 t ∧ Z322 t ∧ Z179) ∧ (Z377 t ∧ Z152) ∧ True ∧ (Z425 t = true → Z486 l t t_1 x) ∧ (Z425 t = false → Z490 l t x_1)) ∧ (Z92 = false → Z490 l t x_1)) ∧ (Z307 t = Z20 → (Z104 ∧ Z105 ∧ Z175) ∧ (Z132 ∧ Z155) ∧ True ∧ (Z90 = true → Z121 ∧ (Z87 < nat_lit 1000000 ∧ Z434 t ∧ ∀ (c : Ci), c ∈ Z46 → Z265 c) ∧ ((nat_lit 12 = nat_lit 12 ∧ nat_lit 0 = nat_lit 0 ∧ nat_lit 0 = nat_lit 0 ∧ List.length Z46 = Z87) ∧ Z167) ∧ (Z148 ∧ Z432 t) ∧ (Z320 t ∧ Z322 t ∧ Z175) ∧ (Z377 t ∧ Z155) ∧ True ∧ (Z422 t = true → Z486 l t t_1 x) ∧ (Z422 t = false → Z490 l t x_1)) ∧ (Z90 = false → Z490 l t x_1)) ∧ True) ∧ (Z395 t = false → ∃ (x_2 : Z336), ((Z71 l ∧ Z53 ∧ Z53 ∧ Z263 ∧ Z400 t x_2 ∧ Z400 t x_2 ∧ Z266 ∧ Z401 t x_2 ∧ Z401 t x_2 ∧ Z53 ∧ (Fn.func (nat_lit 56) = Z59 ∧ ((Z400 t x_2 ∧ Z402 t x_2) ∧ True) ∧ True) ∧ (nat_lit 0 = nat_lit 0 ∧ nat_lit 0 = nat_lit 0 ∧ Z6 = Z229) ∧ Value.int IntKind.i64 (↑Z6 : Int) = Z241 ∧ Z73 = Z346 x_2 ∧ True) ∧ True ∧ Z36 ∧ Z35 ∧ Z214 ∧ (Z393 t = Z411 x_2 ∧ True) ∧ Z159 ∧ Z218 ∧ Z133 ∧ Z197 ∧ Z196 ∧ Z194 ∧ Z198 ∧ Z193 ∧ Z195 ∧ Z75 ∧ Z142 ∧ (Z400 t x_2 ∧ Z402 t x_2) ∧ True) ∧ Z338 x_2 = Z338 x_2 ∧ ∀ (t : Z336), Z403 t x_2 → (Z426 t = true → (Z25 ≤ Z342 t ∧ Z367 t) ∧ Z349 t < List.length ks ∧ (((Z25 ≤ Z345 t ∧ Z345 t < Z31) ∧ Z25 ≤ Z344 t ∧ Z344 t < Z31) ∧ Z25 ≤ Z362 t ∧ Z362 t < Z26) ∧ ((Z347 t = Z347 t ∧ Z348 t = Z348 t ∧ True) ∧ (Z361 t = Z361 t ∧ Z365 t = Z365 t ∧ Z364 t = Z364 t ∧ True) ∧ True) ∧ True ∧ ((!rightM (Z404 t) (Z357 t)) = true → True ∧ ∃ (x_3 : Z269), ((Z71 l ∧ Z53 ∧ Z53 ∧ Z263 ∧ Z368 t x_3 ∧ Z368 t x_3 ∧ Z397 t x_3) ∧ True ∧ Z36 ∧ Z35 ∧ Z214 ∧ (Z411 t = Z302 x_3 ∧ True) ∧ Z292) ∧ Z394 x_3 t_1 x) ∧ ((!rightM (Z404 t) (Z357 t)) = false → True ∧ ∃ (x : Z336), ((Z71 l ∧ Z53 ∧ Z53 ∧ Z263 ∧ Z406 t x ∧ Z406 t x ∧ Z266 ∧ Z405 t x ∧ Z405 t x ∧ Z53 ∧ (Z59 = Z59 ∧ ((Z406 t x ∧ Z407 t x) ∧ True) ∧ True) ∧ (nat_lit 0 = nat_lit 0 ∧ nat_lit 0 = nat_lit 0 ∧ Z229 = Z229) ∧ Z241 = Z241 ∧ Value.int IntKind.i64 (IntKind.wrap IntKind.i64 (Z342 t + Z23)) = Z346 x ∧ True) ∧ True ∧ Z36 ∧ Z35 ∧ Z214 ∧ (Z411 t = Z411 x ∧ True) ∧ Z159 ∧ Z218 ∧ Z133 ∧ Z197 ∧ Z196 ∧ Z194 ∧ Z198 ∧ Z193 ∧ Z195 ∧ Z75 ∧ Z142 ∧ (Z406 t x ∧ Z407 t x) ∧ True) ∧ Z366 x < Z366 t ∧ Z403 x x_2)) ∧ (Z426 t = false → l = l ∧ True ∧ True ∧ True ∧ ∃ (x_3 : Z269), ((Z71 l ∧ Z53 ∧ Z53 ∧ Z263 ∧ Z368 t x_3 ∧ Z368 t x_3 ∧ Z397 t x_3) ∧ True ∧ Z36 ∧ Z35 ∧ Z214 ∧ (Value.int IntKind.i64 (IntKind.wrap IntKind.i64 (Z410 t + Z23)) = Z302 x_3 ∧ True) ∧ Z292) ∧ Z394 x_3 t_1 x)))) ∧ (Z334 t_1 = false → True ∧ ∃ (x : Z239), ((Z71 l ∧ Z53 ∧ Z53 ∧ Z263 ∧ Value.int IntKind.u64 (IntKind.wrap IntKind.u64 (Z274 t_1 + Z23)) = Z247 x ∧ True) ∧ True ∧ Z36 ∧ Z35 ∧ Z214 ∧ (Z302 t_1 = Z260 x ∧ True) ∧ Z292) ∧ Z264 x < Z264 t)) ∧ (Z291 t = false → True ∧ (Value.nilIface = Value.nilIface ∧ Z75) ∧ Z163 ∧ True ∧ ((Z260 t = Z190 ∧ Z73 = Z191 ∧ True) ∧ True) ∧ Z130)) ∧ (Z182 = false → Z226 ∧ Z124 ∧ True ∧ ((Z43 = Z43 ∧ Z185 = Z185 ∧ True) ∧ Z75) ∧ Z163 ∧ True ∧ ((Z73 = Z190 ∧ Z185 = Z191 ∧ True) ∧ True) ∧ Z130))
    (by kernel_rfl) ?_
  simp only [countS, okH] at hl
  simp only [eq_self, true_and, and_true, Int.toNat_natCast, Nat.zero_add, Nat.sub_zero]
  refine ⟨hl, fun hh => ?_, fun hh => ?_⟩
  · have hh' : hearM ((f, w, li), cs, ks) = true := by simpa using hh
    have hk := hear_ok hh'
    have hx := rt_ok hk
    have hf : 0 ≤ f ∧ f ≤ 6 := hx.f
    have hw : 0 ≤ w ∧ w ≤ 6 := hx.w
    obtain ⟨nf, rfl⟩ := Int.eq_ofNat_of_zero_le hf.1
    obtain ⟨nw, rfl⟩ := Int.eq_ofNat_of_zero_le hw.1
    have hnf : nf ≤ 6 := by omega
    have hnw : nw ≤ 6 := by omega
    have hF := pow64 nf hnf
    have hW := pow64 nw hnw
    have hE := everyB nw hnw
    have hks : ks.length < 1000 := (hx.ks : ks.length < 1000)
    simp only [eq_self, true_and, and_true, Int.toNat_natCast, Nat.zero_add, Nat.sub_zero]
    refine ⟨hw, fun l => ⟨hf.1, ⟨⟨0, Nat.zero_le _⟩, ⟨by rw [powW nf hnf], rfl⟩, rfl⟩, fun t => ⟨fun ht => ⟨hw, ?_⟩, fun ht => ?_⟩⟩⟩
    · obtain ⟨a, ha⟩ := t
      have hlt : a < 2 ^ nf := by
        have h1 : ((a : Int)) < ((2 ^ nf : Nat) : Int) := of_decide_eq_true ht
        exact_mod_cast h1
      refine ⟨⟨(a, 0), hlt, Nat.zero_le _⟩, ⟨⟨rfl, rfl, congrArg _ (everyW nw hnw), rfl⟩, rfl⟩, ?_⟩
      rintro ⟨⟨a1, b⟩, ha1, hb⟩ hr1
      have hr1' : a1 = a := hr1
      subst hr1'
      have ha64 : a1 < 64 := Nat.lt_of_lt_of_le ha1 hF
      refine ⟨fun h1 => ?_, fun h1 => ?_⟩
      · have hbl : b < 2 ^ nw := by
          have h2 : ((b : Int)) < ((2 ^ nw : Nat) : Int) := of_decide_eq_true h1
          exact_mod_cast h2
        have hb64 : b < 64 := Nat.lt_of_lt_of_le hbl hW
        have hsu := sucW b hb64
        have hokT : okT (tM a1 b) := ⟨⟨Int.natCast_nonneg _, by show (a1 : Int) < 64; omega⟩, ⟨Int.natCast_nonneg _, by show (b : Int) < 64; omega⟩⟩
        refine ⟨⟨Int.natCast_nonneg _, by show (b : Int) < 64; omega⟩, fun hgt => ?_, fun hle => ?_⟩
        · have hno : isM (rtM (((nf : Int), (nw : Int), li), cs, ks)) (everyM nw) (tM a1 b) = false := isM_big (of_decide_eq_true hgt)
          exact ⟨⟨(a1, b + 1), ha1, hbl⟩, ⟨⟨rfl, rfl, congrArg _ hsu⟩, congrArg (fun l : List (Int × Int) => Value.int .i64 (l.length : Int)) (preM_no _ _ _ _ hno).symm⟩, dec1 hbl, rfl⟩
        · have hle' : popM (b : Int) ≤ li := by
            have h9 : ¬ popM (b : Int) > li := of_decide_eq_false hle
            omega
          refine ⟨⟨((a1, b), 0), ha1, hbl, hle', Nat.zero_le _, fun k hk => absurd hk (Nat.not_lt_zero _)⟩, ⟨⟨rfl, rfl, rfl, rfl, rfl⟩, rfl, rfl, rfl⟩, ?_⟩
          rintro ⟨⟨⟨a2, b2⟩, k⟩, ha2, hb2, hp2, hk2, hs2⟩ hr2
          have hr2' : (a2, b2) = (a1, b) := hr2
          cases hr2'
          refine ⟨fun h2 => ?_, fun h2 => ?_⟩
          · have hkl : k < nw := by
              have h3 : ((k : Int)) < (nw : Int) := of_decide_eq_true h2
              exact_mod_cast h3
            have hksu : IntKind.i64.wrap ((k : Int) + 1) = ((k + 1 : Nat) : Int) := by rw [wrap_id (by omega) (by omega)]; rfl
            refine ⟨⟨Int.natCast_nonneg _, by show (k : Int) < 6; omega⟩, fun hk => ?_, fun hk => ?_, fun hk => ?_, fun hk => ?_, fun hk => ?_, fun hk => ?_⟩
            all_goals
              have hk' := Int.ofNat.inj hk
              simp only at hk'
              subst hk'
            · have hr := hx.rows 0
              refine ⟨⟨hE.1, hE.2, by decide, by decide⟩, fun hh => ⟨⟨Nat.lt_of_lt_of_le hr.1 (by decide), hokT, hr.2⟩, ⟨Int.natCast_nonneg _, by show (b : Int) < 64; omega, by decide, by decide⟩, fun hbad => ?_, fun hgood => ?_⟩, fun hh => ?_⟩
              · have hno : isM (rtM (((nf : Int), (nw : Int), li), cs, ks)) (everyM nw) (tM a1 b) = false := isM_says hkl (sayM_no hh hbad)
                exact ⟨⟨(a1, b + 1), ha1, hbl⟩, ⟨⟨rfl, rfl, congrArg _ hsu⟩, congrArg (fun l : List (Int × Int) => Value.int .i64 (l.length : Int)) (preM_no _ _ _ _ hno).symm⟩, dec1 hbl, rfl⟩
              · exact ⟨⟨((a1, b), 0 + 1), ha1, hbl, hle', hkl, below_succ hs2 (sayM_yes hgood)⟩, ⟨⟨rfl, rfl, rfl, rfl, congrArg _ hksu⟩, rfl, rfl, rfl⟩, dec1 hkl, rfl⟩
              · exact ⟨⟨((a1, b), 0 + 1), ha1, hbl, hle', hkl, below_succ hs2 (sayM_off hh)⟩, ⟨⟨rfl, rfl, rfl, rfl, congrArg _ hksu⟩, rfl, rfl, rfl⟩, dec1 hkl, rfl⟩
            · have hr := hx.rows 1
              refine ⟨⟨hE.1, hE.2, by decide, by decide⟩, fun hh => ⟨⟨Nat.lt_of_lt_of_le hr.1 (by decide), hokT, hr.2⟩, ⟨Int.natCast_nonneg _, by show (b : Int) < 64; omega, by decide, by decide⟩, fun hbad => ?_, fun hgood => ?_⟩, fun hh => ?_⟩
              · have hno : isM (rtM (((nf : Int), (nw : Int), li), cs, ks)) (everyM nw) (tM a1 b) = false := isM_says hkl (sayM_no hh hbad)
                exact ⟨⟨(a1, b + 1), ha1, hbl⟩, ⟨⟨rfl, rfl, congrArg _ hsu⟩, congrArg (fun l : List (Int × Int) => Value.int .i64 (l.length : Int)) (preM_no _ _ _ _ hno).symm⟩, dec1 hbl, rfl⟩
              · exact ⟨⟨((a1, b), 1 + 1), ha1, hbl, hle', hkl, below_succ hs2 (sayM_yes hgood)⟩, ⟨⟨rfl, rfl, rfl, rfl, congrArg _ hksu⟩, rfl, rfl, rfl⟩, dec1 hkl, rfl⟩
              · exact ⟨⟨((a1, b), 1 + 1), ha1, hbl, hle', hkl, below_succ hs2 (sayM_off hh)⟩, ⟨⟨rfl, rfl, rfl, rfl, congrArg _ hksu⟩, rfl, rfl, rfl⟩, dec1 hkl, rfl⟩
            · have hr := hx.rows 2
              refine ⟨⟨hE.1, hE.2, by decide, by decide⟩, fun hh => ⟨⟨Nat.lt_of_lt_of_le hr.1 (by decide), hokT, hr.2⟩, ⟨Int.natCast_nonneg _, by show (b : Int) < 64; omega, by decide, by decide⟩, fun hbad => ?_, fun hgood => ?_⟩, fun hh => ?_⟩
              · have hno : isM (rtM (((nf : Int), (nw : Int), li), cs, ks)) (everyM nw) (tM a1 b) = false := isM_says hkl (sayM_no hh hbad)
                exact ⟨⟨(a1, b + 1), ha1, hbl⟩, ⟨⟨rfl, rfl, congrArg _ hsu⟩, congrArg (fun l : List (Int × Int) => Value.int .i64 (l.length : Int)) (preM_no _ _ _ _ hno).symm⟩, dec1 hbl, rfl⟩
              · exact ⟨⟨((a1, b), 2 + 1), ha1, hbl, hle', hkl, below_succ hs2 (sayM_yes hgood)⟩, ⟨⟨rfl, rfl, rfl, rfl, congrArg _ hksu⟩, rfl, rfl, rfl⟩, dec1 hkl, rfl⟩
              · exact ⟨⟨((a1, b), 2 + 1), ha1, hbl, hle', hkl, below_succ hs2 (sayM_off hh)⟩, ⟨⟨rfl, rfl, rfl, rfl, congrArg _ hksu⟩, rfl, rfl, rfl⟩, dec1 hkl, rfl⟩
            · have hr := hx.rows 3
              refine ⟨⟨hE.1, hE.2, by decide, by decide⟩, fun hh => ⟨⟨Nat.lt_of_lt_of_le hr.1 (by decide), hokT, hr.2⟩, ⟨Int.natCast_nonneg _, by show (b : Int) < 64; omega, by decide, by decide⟩, fun hbad => ?_, fun hgood => ?_⟩, fun hh => ?_⟩
              · have hno : isM (rtM (((nf : Int), (nw : Int), li), cs, ks)) (everyM nw) (tM a1 b) = false := isM_says hkl (sayM_no hh hbad)
                exact ⟨⟨(a1, b + 1), ha1, hbl⟩, ⟨⟨rfl, rfl, congrArg _ hsu⟩, congrArg (fun l : List (Int × Int) => Value.int .i64 (l.length : Int)) (preM_no _ _ _ _ hno).symm⟩, dec1 hbl, rfl⟩
              · exact ⟨⟨((a1, b), 3 + 1), ha1, hbl, hle', hkl, below_succ hs2 (sayM_yes hgood)⟩, ⟨⟨rfl, rfl, rfl, rfl, congrArg _ hksu⟩, rfl, rfl, rfl⟩, dec1 hkl, rfl⟩
              · exact ⟨⟨((a1, b), 3 + 1), ha1, hbl, hle', hkl, below_succ hs2 (sayM_off hh)⟩, ⟨⟨rfl, rfl, rfl, rfl, congrArg _ hksu⟩, rfl, rfl, rfl⟩, dec1 hkl, rfl⟩
            · have hr := hx.rows 4
              refine ⟨⟨hE.1, hE.2, by decide, by decide⟩, fun hh => ⟨⟨Nat.lt_of_lt_of_le hr.1 (by decide), hokT, hr.2⟩, ⟨Int.natCast_nonneg _, by show (b : Int) < 64; omega, by decide, by decide⟩, fun hbad => ?_, fun hgood => ?_⟩, fun hh => ?_⟩
              · have hno : isM (rtM (((nf : Int), (nw : Int), li), cs, ks)) (everyM nw) (tM a1 b) = false := isM_says hkl (sayM_no hh hbad)
                exact ⟨⟨(a1, b + 1), ha1, hbl⟩, ⟨⟨rfl, rfl, congrArg _ hsu⟩, congrArg (fun l : List (Int × Int) => Value.int .i64 (l.length : Int)) (preM_no _ _ _ _ hno).symm⟩, dec1 hbl, rfl⟩
              · exact ⟨⟨((a1, b), 4 + 1), ha1, hbl, hle', hkl, below_succ hs2 (sayM_yes hgood)⟩, ⟨⟨rfl, rfl, rfl, rfl, congrArg _ hksu⟩, rfl, rfl, rfl⟩, dec1 hkl, rfl⟩
              · exact ⟨⟨((a1, b), 4 + 1), ha1, hbl, hle', hkl, below_succ hs2 (sayM_off hh)⟩, ⟨⟨rfl, rfl, rfl, rfl, congrArg _ hksu⟩, rfl, rfl, rfl⟩, dec1 hkl, rfl⟩
            · have hr := hx.rows 5
              refine ⟨⟨hE.1, hE.2, by decide, by decide⟩, fun hh => ⟨⟨Nat.lt_of_lt_of_le hr.1 (by decide), hokT, hr.2⟩, ⟨Int.natCast_nonneg _, by show (b : Int) < 64; omega, by decide, by decide⟩, fun hbad => ?_, fun hgood => ?_⟩, fun hh => ?_⟩
              · have hno : isM (rtM (((nf : Int), (nw : Int), li), cs, ks)) (everyM nw) (tM a1 b) = false := isM_says hkl (sayM_no hh hbad)
                exact ⟨⟨(a1, b + 1), ha1, hbl⟩, ⟨⟨rfl, rfl, congrArg _ hsu⟩, congrArg (fun l : List (Int × Int) => Value.int .i64 (l.length : Int)) (preM_no _ _ _ _ hno).symm⟩, dec1 hbl, rfl⟩
              · exact ⟨⟨((a1, b), 5 + 1), ha1, hbl, hle', hkl, below_succ hs2 (sayM_yes hgood)⟩, ⟨⟨rfl, rfl, rfl, rfl, congrArg _ hksu⟩, rfl, rfl, rfl⟩, dec1 hkl, rfl⟩
              · exact ⟨⟨((a1, b), 5 + 1), ha1, hbl, hle', hkl, below_succ hs2 (sayM_off hh)⟩, ⟨⟨rfl, rfl, rfl, rfl, congrArg _ hksu⟩, rfl, rfl, rfl⟩, dec1 hkl, rfl⟩
          · have hall : ∀ j, j < nw → sayM (rtM (((nf : Int), (nw : Int), li), cs, ks)) (everyM nw) (tM a1 b) j = true := by
              have h3 : ¬ ((k : Int)) < (nw : Int) := of_decide_eq_false h2
              intro j hj
              exact hs2 j (by show j < k; omega)
            refine ⟨⟨((a1, b), 0), ha1, hbl, hle', hall, Nat.zero_le _, fun j hj => absurd hj (Nat.not_lt_zero _)⟩, ⟨⟨rfl, rfl, rfl, rfl, ⟨rfl, rfl⟩, rfl⟩, rfl, rfl, rfl⟩, ?_⟩
            rintro ⟨⟨⟨a3, b3⟩, j⟩, ha3, hb3, hp3, hs3, hj3, hq3⟩ hr3
            have hr3' : (a3, b3) = (a1, b) := hr3
            cases hr3'
            refine ⟨fun h3 => ?_, fun h3 => ?_⟩
            · have hjl : j < ks.length := by
                have h4 : ((j : Int)) < (ks.length : Int) := of_decide_eq_true h3
                exact_mod_cast h4
              have hksu : IntKind.i64.wrap ((j : Int) + 1) = ((j + 1 : Nat) : Int) := by rw [wrap_id (by omega) (by omega)]; rfl
              have hkn := hx.known (ks.getD j dfW) (by rw [List.getD_eq_getElem?_getD, List.getElem?_eq_getElem hjl]; exact List.getElem_mem hjl)
              refine ⟨⟨Int.natCast_nonneg _, by show (j : Int) < (ks.length : Int); omega⟩, hjl, ⟨hokT, hkn⟩, fun hbad => ?_, fun hgood => ?_⟩
              · have hbad' : rightM (tM a1 b) (ks.getD j dfW) = false := Bool.not_eq_true' _ ▸ hbad
                have hno : isM (rtM (((nf : Int), (nw : Int), li), cs, ks)) (everyM nw) (tM a1 b) = false := isM_known hjl hbad'
                exact ⟨⟨(a1, b + 1), ha1, hbl⟩, ⟨⟨rfl, rfl, congrArg _ hsu⟩, congrArg (fun l : List (Int × Int) => Value.int .i64 (l.length : Int)) (preM_no _ _ _ _ hno).symm⟩, dec1 hbl, rfl⟩
              · have hgood' : rightM (tM a1 b) (ks.getD j dfW) = true := Bool.not_eq_false' _ ▸ hgood
                exact ⟨⟨((a1, b), j + 1), ha1, hbl, hle', hs3, hjl, below_succ hq3 hgood'⟩, ⟨⟨rfl, rfl, rfl, rfl, ⟨rfl, rfl⟩, congrArg _ hksu⟩, rfl, rfl, rfl⟩, dec1 hjl, rfl⟩
            · have hyes : isM (rtM (((nf : Int), (nw : Int), li), cs, ks)) (everyM nw) (tM a1 b) = true := isM_true hle' hs3 (by
                have h4 : ¬ ((j : Int)) < (ks.length : Int) := of_decide_eq_false h3
                intro i hi
                have hi' : i < ks.length := hi
                exact hq3 i (by show i < j; omega))
              have hpl := preM_length _ hx (everyM nw) a1 b (by omega) (by omega)
              have hyl : IntKind.i64.wrap (((preM (rtM (((nf : Int), (nw : Int), li), cs, ks)) (everyM nw) a1 b).length : Int) + 1) = ((preM (rtM (((nf : Int), (nw : Int), li), cs, ks)) (everyM nw) a1 (b + 1)).length : Int) := by
                rw [preM_yes _ _ _ _ hyes, List.length_append, wrap_id (by omega) (by omega)]; rfl
              exact ⟨⟨(a1, b + 1), ha1, hbl⟩, ⟨⟨rfl, rfl, congrArg _ hsu⟩, congrArg _ hyl⟩, dec1 hbl, rfl⟩
      · have hbl : b = 2 ^ nw := by
          have h2 : ¬ ((b : Int)) < ((2 ^ nw : Nat) : Int) := of_decide_eq_false h1
          have h3 : ¬ b < 2 ^ nw := by intro h; exact h2 (by exact_mod_cast h)
          have : b ≤ 2 ^ nw := hb
          omega
        subst hbl
        exact ⟨⟨a1 + 1, hlt⟩, ⟨congrArg _ (sucW a1 ha64), congrArg (fun l : List (Int × Int) => Value.int .i64 (l.length : Int)) (preM_line _ _ _)⟩, dec1 hlt⟩
    · have hta : t.1 = 2 ^ nf := by
        have h2 : ¬ ((t.1 : Int)) < ((2 ^ nf : Nat) : Int) := of_decide_eq_false ht
        have h3 : ¬ t.1 < 2 ^ nf := by intro h; exact h2 (by exact_mod_cast h)
        have : t.1 ≤ 2 ^ nf := t.2
        omega
      have hcm : countM (((nf : Int), (nw : Int), li), cs, ks) = (((preM (rtM (((nf : Int), (nw : Int), li), cs, ks)) (everyM nw) (2 ^ nf) 0).length : Int), 0) := by
        unfold countM; rw [hh', if_pos rfl]; rfl
      rw [hcm, hta]
      exact ⟨rfl, rfl⟩
  · have hh' : hearM ((f, w, li), cs, ks) = false := by simpa using hh
    simp [countM, hh', openErrM]

theorem count_sound : Sound Try.prog 14 countS.con := FSpec.sound _ (enter_of Try.func14 (by kernel_rfl) (by kernel_rfl)) count_ok
end AE.Pr

namespace AE.Pr
open Go AE Go.Proofs

def wordS (p : Bool) : FSpec UU where
  X := Int
  pick := fun args _ => match args with
    | [a] => avInt a
    | _ => none
  args := fun (x : Int) => [.i x]
  H := fun _ => []
  R := fun (x : Int) => .val ⟨.agg [.b p, .i x, .b false], [], [], []⟩
set_option maxRecDepth 100000 in
theorem factW_ok : ∀ x, (wordS false).pre x → FunOk Try.prog 31 ((wordS false).args x) ((wordS false).H x) ((wordS false).R x) := by
  intro (x : Int) _
  refine fun_of (T := []) (L := fun _ => none) (hs := fun _ => []) hmix .nil Try.func31 (by kernel_rfl) (by kernel_rfl) ?_
  refine Eq.mp (α :=
      let Z0 := Value.bool false; True ∧ ((Z0 = Z0 ∧ Value.int IntKind.i64 x = Value.int IntKind.i64 x ∧ Z0 = Z0 ∧ True) ∧ True) ∧ True ∧ True)
    (by kernel_rfl) ?_
  simp

theorem factW_sound : Sound Try.prog 31 (wordS false).con := FSpec.sound _ (enter_of Try.func31 (by kernel_rfl) (by kernel_rfl)) factW_ok
set_option maxRecDepth 100000 in
theorem person_ok : ∀ x, (wordS true).pre x → FunOk Try.prog 33 ((wordS true).args x) ((wordS true).H x) ((wordS true).R x) := by
  intro (x : Int) _
  refine fun_of (T := []) (L := fun _ => none) (hs := fun _ => []) hmix .nil Try.func33 (by kernel_rfl) (by kernel_rfl) ?_
  refine Eq.mp (α :=
      True ∧ ((Value.bool true = Value.bool true ∧ Value.int IntKind.i64 x = Value.int IntKind.i64 x ∧ Value.bool false = Value.bool false ∧ True) ∧ True) ∧ True ∧ True)
    (by kernel_rfl) ?_
  simp

theorem person_sound : Sound Try.prog 33 (wordS true).con := FSpec.sound _ (enter_of Try.func33 (by kernel_rfl) (by kernel_rfl)) person_ok
def notS : FSpec UU where
  X := W3
  pick := fun args _ => match args with
    | [a] => avW a
    | _ => none
  args := fun (w : W3) => [vW w]
  H := fun _ => []
  R := fun (w : W3) => .val ⟨.agg [.b w.1, .i w.2.1, .b (!w.2.2)], [], [], []⟩
set_option maxRecDepth 100000 in
theorem not_ok : ∀ x, notS.pre x → FunOk Try.prog 30 (notS.args x) (notS.H x) (notS.R x) := by
  rintro ⟨p, n, q⟩ _
  refine fun_of (T := []) (L := fun _ => none) (hs := fun _ => []) hmix .nil Try.func30 (by kernel_rfl) (by kernel_rfl) ?_
  refine Eq.mp (α :=
      True ∧ ((Value.bool p = Value.bool p ∧ Value.int IntKind.i64 n = Value.int IntKind.i64 n ∧ (Value.bool !q) = Value.bool !q ∧ True) ∧ True) ∧ True ∧ True)
    (by kernel_rfl) ?_
  simp

theorem not_sound : Sound Try.prog 30 notS.con := FSpec.sound _ (enter_of Try.func30 (by kernel_rfl) (by kernel_rfl)) not_ok

/-! ### sample -/
def sampleC : List Cl := [(0, 0, (false, 0, false), (false, 0, false)), (1, 0, (false, 0, true), (false, 0, false)), (2, 1, (true, 1, true), (false, 1, false))]
def sampleS : FSpec UU where
  X := Int × List W3
  pick := fun args H => match args with
    | [a, b] => match avInt a, sliceAt .word H b with
      | some a, some b => some (a, b)
      | _, _ => none
    | _ => none
  args := fun x => [.i x.1, .sl 0 0 0 x.2.length]
  H := fun x => [.one (.ro .word x.2)]
  R := fun x => .val ⟨.agg [.i 2, .i 3, .i x.1, .gs 1 0, .sl 0 0 0 x.2.length], [], [], [.row .claim sampleC 67]⟩
def Tsample : Tab UU := [(30, notS.con), (31, (wordS false).con), (33, (wordS true).con)]
theorem Tsample_ok : Tsample.Sound Try.prog := .cons not_sound (.cons factW_sound (.cons person_sound .nil))
set_option maxRecDepth 100000 in
theorem sample_ok : ∀ x, sampleS.pre x → FunOk Try.prog 32 (sampleS.args x) (sampleS.H x) (sampleS.R x) := by
  rintro ⟨li, ks⟩ _
  refine fun_of (T := Tsample) (L := fun _ => none) (hs := fun _ => []) hmix Tsample_ok Try.func32 (by kernel_rfl) (by kernel_rfl) ?_
  refine Eq.mp (α :=
      let Z0 := Value.bool true; let Z1 := Value.bool false; let Z3 := AV.v Z1; let Z4 := (1 : Int); let Z5 := (0 : Int); let Z6 := (2 : Int); let Z8 := Value.bool !false; let Z10 := Value.int IntKind.i64 (3 : Int); let Z11 := Value.int IntKind.i64 Z5; let Z12 := Value.int IntKind.i64 Z6; let Z13 := Value.int IntKind.i64 Z4; let Z14 := Z1 = Z1; let Z15 := [Z3]; let Z20 := AV.v Z11; let Z22 := AV.v Z13; let Z26 := (false, Z5, false); let Z28 := Z13 = Z13; let Z29 := Z11 = Z11; let Z40 := (Z6, Z4, (true, Z4, true), false, Z4, false); let Z41 := (Z4, Z5, (false, Z5, true), Z26); let Z42 := (Z5, Z5, Z26, Z26); True ∧ (Z29 ∧ True) ∧ True ∧ True ∧ (Z29 ∧ True) ∧ True ∧ True ∧ ((Z14 ∧ Z29 ∧ Z14 ∧ True) ∧ True) ∧ True ∧ True ∧ (Z28 ∧ True) ∧ True ∧ True ∧ ((Z0 = Z0 ∧ Z28 ∧ Z14 ∧ True) ∧ True) ∧ True ∧ True ∧ (Z28 ∧ True) ∧ True ∧ (nat_lit 3 = nat_lit 3 ∧ some (Z20 :: Z20 :: Z3 :: Z20 :: Z3 :: Z3 :: Z20 :: Z3 :: Z22 :: Z20 :: Z3 :: Z20 :: AV.v Z8 :: Z3 :: Z20 :: Z3 :: AV.v Z12 :: Z22 :: AV.v Z0 :: Z22 :: AV.v Z8 :: Z3 :: Z22 :: Z15) = some (Z20 :: Z20 :: Z3 :: Z20 :: Z3 :: Z3 :: Z20 :: Z3 :: Z22 :: Z20 :: Z3 :: Z20 :: AV.v Z0 :: Z3 :: Z20 :: Z3 :: AV.v Z12 :: Z22 :: AV.v Z0 :: Z22 :: AV.v Z0 :: Z3 :: Z22 :: Z15)) ∧ True ∧ ((Z12 = Z12 ∧ Z10 = Z10 ∧ Value.int IntKind.i64 li = Value.int IntKind.i64 li ∧ nat_lit 0 = nat_lit 0 ∧ (nat_lit 0 = nat_lit 0 ∧ nat_lit 0 = nat_lit 0 ∧ List.length ks = List.length ks) ∧ True) ∧ True) ∧ True ∧ ks = ks ∧ (nat_lit 67 = (67 : TypeId) ∧ [Z42, Z41, Z40] = [Z42, Z41, Z40]) ∧ True)
    (by kernel_rfl) ?_
  simp

theorem sample_sound : Sound Try.prog 32 sampleS.con := FSpec.sound _ (enter_of Try.func32 (by kernel_rfl) (by kernel_rfl)) sample_ok
end AE.Pr

namespace AE.Pr
open Go AE Go.Proofs

def aliveS : FSpec UU where
  X := Unit
  pick := fun args _ => match args with
    | [] => some ()
    | _ => none
  args := fun _ => []
  H := fun _ => []
  R := fun _ => .val ⟨.b true, [], [], []⟩
def Talive : Tab UU := [(32, sampleS.con), (30, notS.con), (31, (wordS false).con), (33, (wordS true).con), (14, countS.con), (16, (factS false).con), (18, (factS true).con), (20, ruleS.con), (22, liarsS.con), (24, firstS.con), (26, proofS.con), (28, clashFS.con)]
theorem Talive_ok : Talive.Sound Try.prog := .cons sample_sound (.cons not_sound (.cons factW_sound (.cons person_sound (.cons count_sound (.cons fact_sound (.cons toldW_sound (.cons rule_sound (.cons liars_sound (.cons firstF_sound (.cons proof_sound (.cons clashF_sound .nil)))))))))))
theorem c1 : countM ((2, 3, 1), [dfC, (1, 0, (false, 0, true), false, 0, false), (2, 1, (true, 1, true), false, 1, false)], []) = (3, 0) := by decide +kernel
theorem c2 : ruleM ((2, 3, 1), [dfC, (1, 0, (false, 0, true), false, 0, false), (2, 1, (true, 1, true), false, 1, false)], [(false, 1, true)]) dfW = (2, 0) := by decide +kernel
theorem c3 : ruleM ((2, 3, 1), [dfC, (1, 0, (false, 0, true), false, 0, false), (2, 1, (true, 1, true), false, 1, false)], []) (true, 2, false) = (2, 0) := by decide +kernel
theorem c4 : liarsM ((2, 3, 1), [dfC, (1, 0, (false, 0, true), false, 0, false), (2, 1, (true, 1, true), false, 1, false)], []) = ((1, 1), 0) := by decide +kernel
theorem c5 : firstHM ((2, 3, 1), [dfC, (1, 0, (false, 0, true), false, 0, false), (2, 1, (true, 1, true), false, 1, false)], []) = ((1, 2), 0) := by decide +kernel
theorem c6 : proofM ((2, 3, 1), [dfC, (1, 0, (false, 0, true), false, 0, false), (2, 1, (true, 1, true), false, 1, false)], [(false, 1, true)]) (true, 1, true) = (7, 0) := by decide +kernel
theorem c7 : clashHM ((2, 3, 0), [dfC, (1, 0, (false, 0, true), false, 0, false), (2, 1, (true, 1, true), false, 1, false)], []) = (3, 0) := by decide +kernel
set_option maxHeartbeats 0 in
set_option maxRecDepth 100000 in
theorem alive_ok : ∀ x, aliveS.pre x → FunOk Try.prog 13 (aliveS.args x) (aliveS.H x) (aliveS.R x) := by
  intro x _
  refine fun_of (T := Talive) (L := fun _ => none) (hs := fun _ => []) hmix Talive_ok Try.func13 (by kernel_rfl) (by kernel_rfl) ?_
  refine Eq.mp (α :=
      let Z0 := True ∧ True; let Z1 := []; let Z2 := !false; let Z3 := Value.bool true; let Z4 := nat_lit 0 = nat_lit 0 ∧ True; let Z5 := Value.bool false; let Z6 := []; let Z7 := nat_lit 0 < nat_lit 1000; let Z8 := nat_lit 1 < nat_lit 1000; let Z9 := nat_lit 3 < nat_lit 1000; let Z10 := AV.v Z3; let Z11 := AV.v Z5; let Z12 := nat_lit 0 = nat_lit 0 ∧ nat_lit 3 = nat_lit 3; let Z13 := nat_lit 0 = nat_lit 0 ∧ nat_lit 0 = nat_lit 0; let Z14 := nat_lit 0 = nat_lit 0 ∧ nat_lit 1 = nat_lit 1; let Z15 := (0 : Int); let Z16 := (2 : Int); let Z17 := (3 : Int); let Z18 := []; let Z19 := (1 : Int); let Z20 := (7 : Int); let Z21 := True ∧ Z4; let Z22 := Value.bool Z2; let Z23 := (1 : Nat); let Z24 := (7 : Nat); let Z25 := AV.v Z22; let Z26 := Z13 ∧ True; let Z27 := True ∧ Z21; let Z28 := nat_lit 0 = nat_lit 0 ∧ Z12; let Z29 := nat_lit 0 = nat_lit 0 ∧ Z14; let Z30 := True ∧ Z27; let Z31 := Z3 = Z3; let Z32 := Z3 = Z5; let Z33 := Value.int IntKind.i64 Z19; let Z34 := Value.int IntKind.i64 Z15; let Z35 := Value.int IntKind.i64 Z17; let Z36 := Value.int IntKind.i64 Z16; let Z37 := [Z10]; let Z38 := Z5 = Z5; let Z39 := Z29 ∧ True; let Z40 := (Z19, true); let Z41 := (Z15, true); let Z42 := (Z19, false); let Z43 := Z9 ∧ Z7; let Z44 := (Z15, false); let Z45 := Z9 ∧ Z8; let Z46 := (Z16, false); let Z47 := AV.v Z33; let Z48 := True ∧ Z30; let Z49 := Z32 ∧ True; let Z50 := Z38 ∧ True; let Z53 := Z48 ∧ True; let Z58 := True ∧ Z49 ∧ Z0; let Z60 := (true, Z46); let Z63 := (false, Z44); let Z65 := Z6 = Z18 ∧ True; let Z66 := (true, Z19, Z2); let Z67 := True ∧ Z65; let Z68 := Z35 = Z35; let Z69 := Z36 = Z36; let Z70 := Z33 = Z33; let Z71 := Z34 = Z34; let Z75 := (Z16, Z17, Z19); let Z77 := Z70 ∧ Z4; let Z78 := (false, Z40) :: Z18; let Z96 := Z78 = Z78 ∧ True; let Z98 := some [Z11, Z47, Z25] = some (Z11 :: Z47 :: Z37); let Z101 := (Z15, Z15, Z63, Z63) :: (Z19, Z15, (false, Z41), Z63) :: (Z16, Z19, (true, Z40), false, Z42) :: Z1; let Z102 := (Z101, Z6); let Z104 := (Z75, Z102); let Z105 := ((Z16, Z17, Z15), Z102); let Z113 := Prod.fst (liarsM Z104); let Z115 := Prod.fst (firstHM Z104); let Z122 := Prod.fst (countM Z104) == Z17; let Z123 := Prod.snd (countM Z104) == Z15; let Z124 := Prod.fst (clashHM Z105) == Z17; let Z127 := Prod.snd (liarsM Z104) == Z15; let Z128 := Prod.snd (firstHM Z104) == Z15; let Z129 := (Z75, Z101, Z78); let Z131 := Prod.fst Z113 == Z19; let Z132 := Prod.snd Z115 == Z16; let Z133 := Prod.fst Z115 == Z19; let Z134 := Prod.snd Z113 == Z19 && true; let Z135 := Prod.fst (ruleM Z104 Z60) == Z16; let Z136 := Prod.snd (ruleM Z104 Z60) == Z15; let Z143 := Prod.snd (ruleM Z129 Z63) == Z15; let Z144 := Prod.fst (ruleM Z129 Z63) == Z16; let Z145 := Prod.snd (proofM Z129 Z66) == Z15; let Z146 := Prod.fst (proofM Z129 Z66) == Z20; let Z147 := Z101 = Z101; let Z148 := Z147 ∧ Z0; True ∧ Z21 ∧ Z65 ∧ Z77 ∧ Z0 ∧ Z43 ∧ Z53 ∧ Z67 ∧ ((Z69 ∧ Z68 ∧ Z70 ∧ (nat_lit 0 = nat_lit 0 ∧ Z28) ∧ Z26) ∧ True) ∧ Z148 ∧ True ∧ (Z70 ∧ True) ∧ True ∧ True ∧ ((Z38 ∧ Z70 ∧ Z50) ∧ True) ∧ True ∧ (nat_lit 1 = nat_lit 1 ∧ Z98) ∧ True ∧ (Z70 ∧ (Z23 = Z23 ∧ Z29) ∧ True) ∧ Z96 ∧ Z45 ∧ ((Z69 ∧ Z68 ∧ Z70 ∧ (nat_lit 2 = nat_lit 2 ∧ Z28) ∧ Z39) ∧ Z71 ∧ True) ∧ (Z147 ∧ Z96) ∧ True ∧ Z21 ∧ Z65 ∧ Z77 ∧ Z0 ∧ Z43 ∧ (Z48 ∧ Z0) ∧ Z67 ∧ ((Z69 ∧ Z68 ∧ Z70 ∧ (nat_lit 3 = nat_lit 3 ∧ Z28) ∧ Z26) ∧ Z69 ∧ True) ∧ Z148 ∧ True ∧ Z21 ∧ Z65 ∧ Z77 ∧ Z0 ∧ Z43 ∧ Z53 ∧ Z67 ∧ ((Z69 ∧ Z68 ∧ Z70 ∧ (nat_lit 4 = nat_lit 4 ∧ Z28) ∧ Z26) ∧ True) ∧ Z148 ∧ True ∧ Z21 ∧ Z65 ∧ Z77 ∧ Z0 ∧ Z43 ∧ Z53 ∧ Z67 ∧ ((Z69 ∧ Z68 ∧ Z70 ∧ (nat_lit 6 = nat_lit 6 ∧ Z28) ∧ Z26) ∧ True) ∧ Z148 ∧ True ∧ (Z70 ∧ True) ∧ True ∧ True ∧ ((Z38 ∧ Z70 ∧ Z50) ∧ True) ∧ True ∧ (nat_lit 1 = nat_lit 1 ∧ Z98) ∧ True ∧ (Z70 ∧ (Z24 = Z24 ∧ Z29) ∧ True) ∧ Z96 ∧ True ∧ (Z70 ∧ True) ∧ True ∧ True ∧ ((Z31 ∧ Z70 ∧ Z50) ∧ True) ∧ True ∧ Z45 ∧ ((Z69 ∧ Z68 ∧ Z70 ∧ (nat_lit 8 = nat_lit 8 ∧ Z28) ∧ Z39) ∧ (Z31 ∧ Z70 ∧ Z22 = Z22 ∧ True) ∧ True) ∧ (Z147 ∧ Z96) ∧ True ∧ Z21 ∧ Z65 ∧ (Z71 ∧ Z4) ∧ Z0 ∧ Z43 ∧ Z53 ∧ Z67 ∧ ((Z69 ∧ Z68 ∧ Z71 ∧ (nat_lit 9 = nat_lit 9 ∧ Z28) ∧ Z26) ∧ True) ∧ Z148 ∧ (Z122 = true → (Z123 = true → (Z144 = true → (Z143 = true → (Z135 = true → (Z136 = true → ((Z131 && Z134) = true → (Z127 = true → (Z133 = true → (Z132 = true → (Z128 = true → (Z146 = true → (Z145 = true → (Z124 = true → True ∧ (Value.bool (Prod.snd (clashHM Z105) == Z15) = Z3 ∧ True) ∧ Z0) ∧ (Z124 = false → Z58)) ∧ (Z145 = false → Z58)) ∧ (Z146 = false → Z58)) ∧ (Z128 = false → Z58)) ∧ (Z132 = false → Z58)) ∧ (Z133 = false → Z58)) ∧ (Z127 = false → Z58)) ∧ ((Z131 && Z134) = false → Z58)) ∧ (Z136 = false → Z58)) ∧ (Z135 = false → Z58)) ∧ (Z143 = false → Z58)) ∧ (Z144 = false → Z58)) ∧ (Z123 = false → Z58)) ∧ (Z122 = false → Z58))
    (by kernel_rfl) ?_
  simp only [eq_self, true_and, and_true, Bool.not_false, c1, c2, c3, c4, c5, c6, c7]
  simp

theorem alive_sound : Sound Try.prog 13 aliveS.con := FSpec.sound _ (enter_of Try.func13 (by kernel_rfl) (by kernel_rfl)) alive_ok
end AE.Pr
