/- An own symbolic executor for the model's code, and what the functions beneath the law compute, joined out of: PsE, PtI0, PtD, PtE, PtF0, PtI1, PtI, PrR, AeR, PsR. No condition. -/
import Derived.Test.YtfhpdgmhdppggaaM4
import Derived.Test.YtfhpdgmhdppggaaRows
import Derived.ProofKit
import Derived.OpenShut
import Derived.Below
import Derived.Carry
import Derived.ChangeArms

namespace AE.Pr
open Go AE Go.Proofs

/-! ### heavy -/
def heavyM (x : HT) (f w : Int) : Bool := decide (x.2.1.length > 60) || decide (x.2.2.length > 60) || (hearM x && (decide (x.1.1 > f) || decide (x.1.2.1 > w)))
def bigH (x : HT) : Prop := x.2.1.length < 9223372036854775808 ∧ x.2.2.length < 9223372036854775808
def heavyS : FSpec UU where
  X := HT × Int × Int
  pick := fun args H => match args with
    | [a, b, c] => match avH H a, avInt b, avInt c with
      | some a, some b, some c => some (a, b, c)
      | _, _, _ => none
    | _ => none
  args := fun x => [vH x.1, .i x.2.1, .i x.2.2]
  H := fun x => hH x.1
  R := fun x => .val ⟨.b (heavyM x.1 x.2.1 x.2.2), [], [], []⟩
  pre := fun x => bigH x.1
def Theavy : Tab UU := [(39, isHearingS.con)]
theorem Theavy_ok : Theavy.Sound Try.prog := .cons hearR_sound .nil
set_option maxHeartbeats 0 in
set_option maxRecDepth 100000 in
theorem heavy_ok : ∀ x, heavyS.pre x → FunOk Try.prog 12 (heavyS.args x) (heavyS.H x) (heavyS.R x) := by
  rintro ⟨⟨⟨f, w, li⟩, cs, ks⟩, mf, mw⟩ hl
  refine fun_of (T := Theavy) (L := fun _ => none) (hs := fun _ => []) hmix Theavy_ok Try.func12 (by kernel_rfl) (by kernel_rfl) ?_
  refine Eq.mp (α :=
      let Z0 := List.length cs; let Z1 := List.length ks; let Z5 := ks = ks; let Z7 := cs = cs; let Z13 := True ∧ Z7 ∧ Z5 ∧ True; let Z15 := ((f, w, li), cs, ks); let Z19 := Value.bool (heavyM Z15 mf mw); let Z20 := Z19 = Value.bool true; let Z24 := decide (f > mf); let Z25 := decide (max (↑Z0 : Int) (↑Z1 : Int) > (60 : Int)); (Z25 = true → True ∧ (Z20 ∧ True) ∧ Z13) ∧ (Z25 = false → (Z0 < nat_lit 1000 ∧ Z1 < nat_lit 1000) ∧ ((Value.int IntKind.i64 f = Value.int IntKind.i64 f ∧ Value.int IntKind.i64 w = Value.int IntKind.i64 w ∧ Value.int IntKind.i64 li = Value.int IntKind.i64 li ∧ (nat_lit 0 = nat_lit 0 ∧ nat_lit 0 = nat_lit 0 ∧ Z0 = Z0) ∧ (nat_lit 0 = nat_lit 0 ∧ nat_lit 0 = nat_lit 0 ∧ Z1 = Z1) ∧ True) ∧ True) ∧ (Z7 ∧ Z5 ∧ True) ∧ (hearM Z15 = true → (Z24 = true → True ∧ (Z20 ∧ True) ∧ Z13) ∧ (Z24 = false → True ∧ (Value.bool (decide (w > mw)) = Z19 ∧ True) ∧ Z13)) ∧ (hearM Z15 = false → True ∧ (Z19 = Value.bool false ∧ True) ∧ Z13)))
    (by kernel_rfl) ?_
  simp only [eq_self, true_and, and_true, Int.toNat_natCast, Nat.zero_add, Nat.sub_zero, Value.int.injEq, Value.bool.injEq, decide_eq_true_eq, decide_eq_false_iff_not]
  refine ⟨fun h => ?_, fun h => ⟨⟨by omega, by omega⟩, fun hh => ⟨fun h1 => ?_, fun h1 => ?_⟩, fun hh => ?_⟩⟩
  · unfold heavyM
    by_cases h1 : cs.length > 60
    · simp [h1]
    · have h2 : ks.length > 60 := by omega
      simp [h2]
  · simp [heavyM, hh, h1]
  · have a1 : ¬ cs.length > 60 := by omega
    have a2 : ¬ ks.length > 60 := by omega
    simp [heavyM, hh, h1, a1, a2]
  · have a1 : ¬ cs.length > 60 := by omega
    have a2 : ¬ ks.length > 60 := by omega
    simp only [heavyM, hh, a1, a2]; rfl

theorem heavy_sound : Sound Try.prog 12 heavyS.con := FSpec.sound _ (enter_of Try.func12 (by kernel_rfl) (by kernel_rfl)) heavy_ok
theorem heavy_no {x : HT} {f w : Int} (h : heavyM x f w = false) : okH x ∧ (hearM x = true → x.1.1 ≤ f ∧ x.1.2.1 ≤ w) := by
  simp only [heavyM, Bool.or_eq_false_iff, decide_eq_false_iff_not] at h
  refine ⟨⟨by omega, by omega⟩, fun hh => ?_⟩
  have h2 := h.2
  rw [hh] at h2
  simp only [Bool.true_and, Bool.or_eq_false_iff, decide_eq_false_iff_not] at h2
  omega

/-! ### ProtestTells -/
def tellsS : FSpec UU where
  X := HT × Int × Int × W3
  pick := fun args H => match args with
    | [a, b, c, d] => match avH H a, avInt b, avInt c, avW d with
      | some a, some b, some c, some d => some (a, b, c, d)
      | _, _, _, _ => none
    | _ => none
  args := fun x => [vH x.1, .i x.2.1, .i x.2.2.1, vW x.2.2.2]
  H := fun x => hH x.1
  R := fun _ => .val ⟨.b true, [], [], []⟩
  pre := fun x => bigH x.1
def Ttells : Tab UU := [(12, heavyS.con), (13, aliveS.con), (14, countS.con), (15, countRS.con), (16, (factS false).con), (17, (factS false).con), (18, (factS true).con), (19, (factS true).con), (20, ruleS.con), (21, ruleS.con)]
theorem Ttells_ok : Ttells.Sound Try.prog := .cons heavy_sound (.cons alive_sound (.cons count_sound (.cons countR_sound (.cons fact_sound (.cons factR_sound (.cons toldW_sound (.cons toldWR_sound (.cons rule_sound (.cons ruleR_sound .nil)))))))))
set_option maxHeartbeats 0 in
set_option maxRecDepth 100000 in
theorem tells_ok : ∀ x, tellsS.pre x → FunOk Try.prog 3 (tellsS.args x) (tellsS.H x) (tellsS.R x) := by
  rintro ⟨⟨⟨f, w, li⟩, cs, ks⟩, a, b, p, n, q⟩ hl
  refine fun_of (T := Ttells) (L := fun _ => none) (hs := fun _ => []) hmix Ttells_ok Try.func3 (by kernel_rfl) (by kernel_rfl) ?_
  refine Eq.mp (α :=
      let Z0 := Value.bool q; let Z1 := Value.bool p; let Z2 := Value.bool true; let Z3 := List.length ks; let Z4 := List.length cs; let Z5 := Value.bool false; let Z6 := (w, li); let Z7 := (n, q); let Z8 := Value.int IntKind.i64 a; let Z9 := Value.int IntKind.i64 li; let Z10 := Value.int IntKind.i64 n; let Z11 := Value.int IntKind.i64 f; let Z12 := Value.int IntKind.i64 w; let Z13 := Value.int IntKind.i64 b; let Z14 := (a, false); let Z16 := (6 : Int); let Z31 := Value.int IntKind.i64 Z16; let Z49 := cs = cs ∧ ks = ks ∧ True; let Z51 := Z4 < nat_lit 1000 ∧ Z3 < nat_lit 1000; let Z55 := ((f, Z6), cs, ks); let Z57 := countM Z55; let Z62 := True ∧ (Z2 = Z5 ∧ True) ∧ True ∧ Z49; let Z69 := ruleM Z55 (p, Z7); let Z71 := ruleM Z55 (true, b, false); let Z72 := ruleM Z55 (false, Z14); let Z81 := Z11 = Z11 ∧ Z12 = Z12 ∧ Z9 = Z9 ∧ (nat_lit 0 = nat_lit 0 ∧ nat_lit 0 = nat_lit 0 ∧ Z4 = Z4) ∧ (nat_lit 0 = nat_lit 0 ∧ nat_lit 0 = nat_lit 0 ∧ Z3 = Z3) ∧ True; let Z83 := Prod.fst Z57 == Prod.fst Z57; let Z84 := Prod.snd Z57 == Prod.snd Z57; let Z87 := Prod.snd Z69 == Prod.snd Z69; let Z88 := Prod.fst Z69 == Prod.fst Z69; let Z89 := Prod.snd Z71 == Prod.snd Z71; let Z90 := Prod.fst Z71 == Prod.fst Z71; let Z91 := Prod.fst Z72 == Prod.fst Z72; let Z92 := Prod.snd Z72 == Prod.snd Z72; (Z4 < nat_lit 9223372036854775808 ∧ Z3 < nat_lit 9223372036854775808) ∧ (Z81 ∧ Z31 = Z31 ∧ Z31 = Z31 ∧ True) ∧ Z49 ∧ (heavyM Z55 Z16 Z16 = true → True ∧ True ∧ True ∧ True ∧ (Z2 = Z2 ∧ True) ∧ True ∧ Z49) ∧ (heavyM Z55 Z16 Z16 = false → Z51 ∧ (Z81 ∧ True) ∧ Z49 ∧ Z51 ∧ (Z81 ∧ True) ∧ Z49 ∧ Z51 ∧ (Z81 ∧ Z8 = Z8 ∧ True) ∧ Z49 ∧ Z51 ∧ (Z81 ∧ Z8 = Z8 ∧ True) ∧ Z49 ∧ Z51 ∧ (Z81 ∧ Z13 = Z13 ∧ True) ∧ Z49 ∧ Z51 ∧ (Z81 ∧ Z13 = Z13 ∧ True) ∧ Z49 ∧ Z51 ∧ (Z81 ∧ (Z1 = Z1 ∧ Z10 = Z10 ∧ Z0 = Z0 ∧ True) ∧ True) ∧ Z49 ∧ Z51 ∧ (Z81 ∧ (Z1 = Z1 ∧ Z10 = Z10 ∧ Z0 = Z0 ∧ True) ∧ True) ∧ Z49 ∧ (Z83 = true → (Z84 = true → (Z91 = true → (Z92 = true → (Z90 = true → (Z89 = true → (Z88 = true → (Z87 = true → True ∧ True ∧ True ∧ True ∧ (Z2 = Z2 ∧ True) ∧ True ∧ Z49) ∧ (Z87 = false → Z62)) ∧ (Z88 = false → Z62)) ∧ (Z89 = false → Z62)) ∧ (Z90 = false → Z62)) ∧ (Z92 = false → Z62)) ∧ (Z91 = false → Z62)) ∧ (Z84 = false → Z62)) ∧ (Z83 = false → Z62)))
    (by kernel_rfl) ?_
  simp only [eq_self, true_and, and_true, Int.toNat_natCast, Nat.zero_add, Nat.sub_zero, Value.int.injEq, Value.bool.injEq, decide_eq_true_eq, decide_eq_false_iff_not]
  refine ⟨hl, fun _ => trivial, fun h => ?_⟩
  have h1 : cs.length < 1000 := (heavy_no h).1.1
  have h2 : ks.length < 1000 := (heavy_no h).1.2
  simp [h1, h2]

theorem tells_sound : Sound Try.prog 3 tellsS.con := FSpec.sound _ (enter_of Try.func3 (by kernel_rfl) (by kernel_rfl)) tells_ok
end AE.Pr

namespace AE.Pr
open Go AE Go.Proofs

/-- A word whose number is another one. -/
def turnWM (f w a b : Int) (c : W3) : W3 := (c.1, (if c.1 then Int.tmod (c.2.1 + b) w else Int.tmod (c.2.1 + a) f), c.2.2)
def avByB (H : Heap UU) : AV → Option Int
  | .ptr i 0 0 0 => match blkAt H i 0 with
    | some (.cells [.v (.int .u8 n)] _) => some n
    | some (.rc [.v (.int .u8 n)] _) => some n
    | _ => none
  | _ => none
def avFwB (H : Heap UU) : AV → Option (Int × Int)
  | .ptr i 0 0 0 => match blkAt H i 0 with
    | some (.cells [a, b, _, _, _] _) => match avInt a, avInt b with
      | some a, some b => some (a, b)
      | _, _ => none
    | some (.rc [a, b, _, _, _] _) => match avInt a, avInt b with
      | some a, some b => some (a, b)
      | _, _ => none
    | _ => none
  | _ => none
def turnS : FSpec UU where
  X := W3 × (Int × Int) × Int × Int
  pick := fun args H => match args with
    | [c, b, h, a] => match avW c, avByB H b, avFwB H h, avByB H a with
      | some c, some b, some h, some a => some (c, h, a, b)
      | _, _, _, _ => none
    | _ => none
  args := fun x => [vW x.1, .ptr 0 0 0 0, .ptr 1 0 0 0, .ptr 2 0 0 0]
  H := fun x => [.one (.rc [.v (.int .u8 x.2.2.2)] 5), hBox x.2.1.1 x.2.1.2, .one (.rc [.v (.int .u8 x.2.2.1)] 5)]
  R := fun x => .val ⟨vW (turnWM x.2.1.1 x.2.1.2 x.2.2.1 x.2.2.2 x.1), [], [], []⟩
  pre := fun x => (0 < x.2.1.1 ∧ x.2.1.1 ≤ 6) ∧ (0 < x.2.1.2 ∧ x.2.1.2 ≤ 6) ∧ (0 ≤ x.2.2.1 ∧ x.2.2.1 ≤ 255) ∧ (0 ≤ x.2.2.2 ∧ x.2.2.2 ≤ 255) ∧ -1000000 ≤ x.1.2.1 ∧ x.1.2.1 ≤ 1000000
set_option maxHeartbeats 0 in
set_option maxRecDepth 100000 in
theorem turn_ok : ∀ x, turnS.pre x → FunOk Try.prog 46 (turnS.args x) (turnS.H x) (turnS.R x) := by
  rintro ⟨⟨p, n, q⟩, ⟨f, w⟩, a, b⟩ hx
  refine fun_of (T := []) (L := fun _ => none) (hs := fun _ => []) hmix .nil Try.func46 (by kernel_rfl) (by kernel_rfl) ?_
  refine Eq.mp (α :=
      let Z1 := Value.int IntKind.u8 b; let Z2 := Value.int IntKind.u8 a; let Z3 := Value.int IntKind.i64 f; let Z4 := Value.int IntKind.i64 w; let Z5 := (0 : Int); let Z6 := True ∧ True ∧ True ∧ True; let Z14 := turnWM f w a b (p, n, q); let Z17 := Prod.snd Z14; let Z23 := Value.bool p = Value.bool (Prod.fst Z14); let Z24 := Value.int IntKind.i64 (Prod.fst Z17); let Z25 := Value.bool q = Value.bool (Prod.snd Z17); (p = true → w ≠ Z5 ∧ True ∧ ((Z23 ∧ Value.int IntKind.i64 (Int.tmod (IntKind.wrap IntKind.i64 (n + IntKind.wrap IntKind.i64 b)) w) = Z24 ∧ Z25 ∧ True) ∧ True) ∧ True ∧ (Z1 = Z1 ∧ True) ∧ (Z3 = Z3 ∧ Z4 = Z4 ∧ Z6) ∧ (Z2 = Z2 ∧ True) ∧ True) ∧ (p = false → f ≠ Z5 ∧ True ∧ ((Z23 ∧ Value.int IntKind.i64 (Int.tmod (IntKind.wrap IntKind.i64 (n + IntKind.wrap IntKind.i64 a)) f) = Z24 ∧ Z25 ∧ True) ∧ True) ∧ True ∧ (Z1 = Z1 ∧ True) ∧ (Z3 = Z3 ∧ Z4 = Z4 ∧ Z6) ∧ (Z2 = Z2 ∧ True) ∧ True))
    (by kernel_rfl) ?_
  simp only [eq_self, true_and, and_true, Int.toNat_natCast, Nat.zero_add, Nat.sub_zero, Value.int.injEq, Value.bool.injEq, decide_eq_true_eq, decide_eq_false_iff_not]
  obtain ⟨⟨hf0, hf1⟩, ⟨hw0, hw1⟩, ⟨ha0, ha1⟩, ⟨hb0, hb1⟩, hn0, hn1⟩ := hx
  have ha0' : 0 ≤ a := ha0
  have ha1' : a ≤ 255 := ha1
  have hb0' : 0 ≤ b := hb0
  have hb1' : b ≤ 255 := hb1
  have hn0' : -1000000 ≤ n := hn0
  have hn1' : n ≤ 1000000 := hn1
  have hf0' : 0 < f := hf0
  have hw0' : 0 < w := hw0
  have ea : IntKind.i64.wrap a = a := wrap_id (by omega) (by omega)
  have eb : IntKind.i64.wrap b = b := wrap_id (by omega) (by omega)
  have ena : IntKind.i64.wrap (n + a) = n + a := wrap_id (by omega) (by omega)
  have enb : IntKind.i64.wrap (n + b) = n + b := wrap_id (by omega) (by omega)
  rw [ea, eb, ena, enb]
  refine ⟨fun h => ?_, fun h => ?_⟩
  · subst h; exact ⟨by omega, rfl, rfl, rfl⟩
  · subst h; exact ⟨by omega, rfl, rfl, rfl⟩

theorem turn_sound : Sound Try.prog 46 turnS.con := FSpec.sound _ (enter_of Try.func46 (by kernel_rfl) (by kernel_rfl)) turn_ok
end AE.Pr

namespace AE.Pr
open Go AE Go.Proofs

def drawM (by' : List Int) (at' n : Int) : Int := (by'.getD ((at' + 1) % (by'.length : Int)).toNat 0 + 47 * (at' + 1)) % n
def okBy (l : List Int) : Prop := (0 < l.length ∧ l.length < 9223372036854775808) ∧ ∀ x ∈ l, 0 ≤ x ∧ x ≤ 65535
def avBy (H : Heap UU) (id : Nat) : Option (List Int) := match blkAt H id 0 with
  | some (.cells [a] _) => sliceAt .u16 H a
  | some (.rc [a] _) => sliceAt .u16 H a
  | _ => none
def avAt (H : Heap UU) (id : Nat) : Option Int := match blkAt H id 0 with
  | some (.cells [a] _) => avInt a
  | _ => none
def drawS : FSpec UU where
  X := Int × Int × List Int
  pick := fun args H => match args with
    | [n, .ptr i 0 0 0, .ptr j 0 0 0] => match avInt n, avAt H i, avBy H j with
      | some n, some a, some l => some (n, a, l)
      | _, _, _ => none
    | _ => none
  args := fun x => [.i x.1, .ptr 0 0 0 0, .ptr 1 0 0 0]
  H := fun x => [.one (.cells [.i x.2.1] 3), .one (.rc [.sl 2 0 0 x.2.2.length] 46), .one (.ro .u16 x.2.2)]
  R := fun x => .val ⟨.i (drawM x.2.2 x.2.1 x.1), [(0, 0, .cells [.i (x.2.1 + 1)] 3)], [], []⟩
  pre := fun x => (0 < x.1 ∧ x.1 < 1000) ∧ (0 ≤ x.2.1 ∧ x.2.1 < 1000000) ∧ okBy x.2.2
set_option maxHeartbeats 0 in
set_option maxRecDepth 100000 in
theorem draw_ok : ∀ x, drawS.pre x → FunOk Try.prog 74 (drawS.args x) (drawS.H x) (drawS.R x) := by
  rintro ⟨n, a, l⟩ hx
  refine fun_of (T := []) (L := fun _ => none) (hs := fun _ => []) hmix .nil Try.func74 (by kernel_rfl) (by kernel_rfl) ?_
  refine Eq.mp (α :=
      let Z0 := List.length l; let Z1 := (0 : Int); let Z3 := (↑Z0 : Int); let Z4 := a + (1 : Int); let Z5 := IntKind.wrap IntKind.i64 Z4; let Z6 := Int.tmod Z5 Z3; let Z8 := nat_lit 0 + Int.toNat Z6; Z3 ≠ Z1 ∧ (Z1 ≤ Z6 ∧ Z6 < Z3) ∧ Z8 < List.length l ∧ n ≠ Z1 ∧ True ∧ (Value.int IntKind.i64 (Int.tmod (IntKind.wrap IntKind.i64 (IntKind.wrap IntKind.i64 (List.getD l Z8 Z1) + IntKind.wrap IntKind.i64 ((47 : Int) * Z5))) n) = Value.int IntKind.i64 (drawM l a n) ∧ True) ∧ True ∧ (Value.int IntKind.i64 Z5 = Value.int IntKind.i64 Z4 ∧ True) ∧ ((nat_lit 0 = nat_lit 0 ∧ nat_lit 0 = nat_lit 0 ∧ Z0 = Z0) ∧ True) ∧ l = l ∧ True)
    (by kernel_rfl) ?_
  simp only [eq_self, true_and, and_true, Int.toNat_natCast, Nat.zero_add, Nat.sub_zero, Value.int.injEq, Value.bool.injEq, decide_eq_true_eq, decide_eq_false_iff_not]
  obtain ⟨⟨hn0, hn1⟩, ⟨ha0, ha1⟩, ⟨hl0, hl1⟩, hv⟩ := hx
  have hn0' : 0 < n := hn0
  have hn1' : n < 1000 := hn1
  have ha0' : 0 ≤ a := ha0
  have ha1' : a < 1000000 := ha1
  have hl0' : 0 < l.length := hl0
  have e1 : IntKind.i64.wrap (a + 1) = a + 1 := wrap_id (by omega) (by omega)
  have e2 : (a + 1).tmod (l.length : Int) = (a + 1) % (l.length : Int) := Int.tmod_eq_emod_of_nonneg (by omega)
  have hm0 := Int.emod_nonneg (a + 1) (show ((l.length : Nat) : Int) ≠ 0 by omega)
  have hm1 := Int.emod_lt_of_pos (a + 1) (show (0 : Int) < ((l.length : Nat) : Int) by omega)
  have hlt : ((a + 1) % (l.length : Int)).toNat < l.length := by omega
  have hx := hv _ (getD_mem 0 hlt)
  have hx0 : 0 ≤ l.getD ((a + 1) % (l.length : Int)).toNat 0 ∧ l.getD ((a + 1) % (l.length : Int)).toNat 0 ≤ 65535 := hx
  rw [e1, e2]
  refine ⟨by omega, ⟨hm0, hm1⟩, hlt, by omega, ?_, rfl⟩
  unfold drawM
  generalize l.getD ((a + 1) % (l.length : Int)).toNat 0 = v at *
  rw [wrap_id (x := 47 * (a + 1)) (by omega) (by omega), wrap_id (x := v) (by omega) (by omega), wrap_id (by omega) (by omega)]
  exact Int.tmod_eq_emod_of_nonneg (by omega)

theorem draw_sound : Sound Try.prog 74 drawS.con := FSpec.sound _ (enter_of Try.func74 (by kernel_rfl) (by kernel_rfl)) draw_ok
theorem drawM_lt (l : List Int) (a : Int) {n : Int} (h : 0 < n) : 0 ≤ drawM l a n ∧ drawM l a n < n := ⟨Int.emod_nonneg _ (by omega), Int.emod_lt_of_pos _ h⟩

/-! ### a drawn word -/
/-- Has a drawn word a person; where drawing stands behind that. -/
def wpM (l : List Int) (a : Int) : Bool := drawM l (a + 1) 3 == 0
def wnM (l : List Int) (f w a : Int) : Int := if wpM l a then drawM l (a + 2) w else drawM l a f
def waM (l : List Int) (a : Int) : Int := if wpM l a then a + 4 else a + 3
def wqM (l : List Int) (a : Int) : Bool := drawM l (waM l a - 1) 2 == 0
def wordDM (l : List Int) (f w a : Int) : W3 := (wpM l a, wnM l f w a, wqM l a)
def avDr (H : Heap UU) (id : Nat) : Option (Int × List Int) := match blkAt H id 0 with
  | some (.cells [.fn (.func 74) [] [.ptr i 0 0 0, .ptr j 0 0 0]] _) => match avAt H i, avBy H j with
    | some a, some l => some (a, l)
    | _, _ => none
  | some (.rc [.fn (.func 74) [] [.ptr i 0 0 0, .ptr j 0 0 0]] _) => match avAt H i, avBy H j with
    | some a, some l => some (a, l)
    | _, _ => none
  | _ => none
def avFW (H : Heap UU) (id : Nat) : Option (Int × Int) := match blkAt H id 0 with
  | some (.cells [a, b, _, _, _] _) => match avInt a, avInt b with
    | some a, some b => some (a, b)
    | _, _ => none
  | some (.rc [a, b, _, _, _] _) => match avInt a, avInt b with
    | some a, some b => some (a, b)
    | _, _ => none
  | _ => none
def wordDS : FSpec UU where
  X := (Int × Int) × Int × List Int
  pick := fun args H => match args with
    | [.ptr i 0 0 0, .ptr j 0 0 0] => match avDr H i, avFW H j with
      | some (a, l), some x => some (x, a, l)
      | _, _ => none
    | _ => none
  args := fun _ => [.ptr 0 0 0 0, .ptr 4 0 0 0]
  H := fun x => [.one (.rc [.fn (.func 74) [] [.ptr 1 0 0 0, .ptr 2 0 0 0]] 51), .one (.cells [.i x.2.1] 3), .one (.rc [.sl 3 0 0 x.2.2.length] 46), .one (.ro .u16 x.2.2), .one (.rc [.i x.1.1, .i x.1.2, .junk, .junk, .junk] 25)]
  R := fun x => .val ⟨.agg [.b (wpM x.2.2 x.2.1), .i (wnM x.2.2 x.1.1 x.1.2 x.2.1), .b (wqM x.2.2 x.2.1)], [(1, 0, .cells [.i (waM x.2.2 x.2.1)] 3)], [], []⟩
  pre := fun x => ((0 < x.1.1 ∧ x.1.1 ≤ 6) ∧ (0 < x.1.2 ∧ x.1.2 ≤ 6)) ∧ (0 ≤ x.2.1 ∧ x.2.1 < 900000) ∧ okBy x.2.2
def TwordD : Tab UU := [(74, drawS.con), (33, (wordS true).con)]
theorem TwordD_ok : TwordD.Sound Try.prog := .cons draw_sound (.cons person_sound .nil)
set_option maxHeartbeats 0 in
set_option maxRecDepth 100000 in
theorem wordD_ok : ∀ x, wordDS.pre x → FunOk Try.prog 72 (wordDS.args x) (wordDS.H x) (wordDS.R x) := by
  rintro ⟨⟨f, w⟩, a, l⟩ hx
  refine fun_of (T := TwordD) (L := fun _ => none) (hs := fun _ => []) hmix TwordD_ok Try.func72 (by kernel_rfl) (by kernel_rfl) ?_
  refine Eq.mp (α :=
      let Z0 := List.length l; let Z1 := Value.int IntKind.i64 w; let Z2 := Value.int IntKind.i64 f; let Z3 := Value.bool (wpM l a); let Z4 := Value.bool (wqM l a); let Z5 := nat_lit 0 = nat_lit 0 ∧ nat_lit 0 = nat_lit 0; let Z6 := (1 : Int); let Z7 := (0 : Int); let Z8 := (2 : Int); let Z9 := (3 : Int); let Z10 := True ∧ True ∧ True ∧ True; let Z11 := Value.int IntKind.i64 (waM l a); let Z12 := l = l; let Z13 := (1000 : Int); let Z17 := Value.int IntKind.i64 (wnM l f w a); let Z18 := (1000000 : Int); let Z22 := Fn.func (74 : FuncId); let Z23 := Value.int IntKind.i64 Z9; let Z24 := Value.int IntKind.i64 Z8; let Z29 := Z2 = Z2; let Z30 := Z1 = Z1; let Z33 := a + Z6; let Z34 := nat_lit 0 = nat_lit 0 ∧ nat_lit 0 = nat_lit 0 ∧ Z0 = Z0; let Z35 := Z7 < Z8; let Z37 := Z8 < Z13; let Z40 := Value.int IntKind.i64 Z33; let Z42 := (nat_lit 0 = nat_lit 0 ∧ Z5) ∧ (nat_lit 0 = nat_lit 0 ∧ Z5) ∧ True; let Z47 := (Z34 ∧ True) ∧ Z12 ∧ True; let Z48 := Z33 + Z6; let Z52 := Value.int IntKind.i64 Z48; let Z55 := Value.int IntKind.i64 (drawM l Z48 w); let Z57 := drawM l Z33 Z9 == Z7; let Z58 := Z7 ≤ Z48; let Z60 := Z48 < Z18; let Z63 := Z48 + Z6; let Z65 := Value.int IntKind.i64 Z63; let Z66 := (nat_lit 0 < Z0 ∧ Z0 < nat_lit 9223372036854775808) ∧ ∀ (x : Int), x ∈ l → Z7 ≤ x ∧ x ≤ (65535 : Int); ((Z7 < f ∧ f < Z13) ∧ (Z7 ≤ a ∧ a < Z18) ∧ Z66) ∧ (Z29 ∧ Z42) ∧ ((Value.int IntKind.i64 a = Value.int IntKind.i64 a ∧ True) ∧ Z47) ∧ ((Z7 < Z9 ∧ Z9 < Z13) ∧ (Z7 ≤ Z33 ∧ Z33 < Z18) ∧ Z66) ∧ (Z23 = Z23 ∧ Z42) ∧ ((Z40 = Z40 ∧ True) ∧ Z47) ∧ (Z57 = true → ((Z7 < w ∧ w < Z13) ∧ (Z58 ∧ Z60) ∧ Z66) ∧ (Z30 ∧ Z42) ∧ ((Z52 = Z52 ∧ True) ∧ Z47) ∧ True ∧ (Z55 = Z55 ∧ True) ∧ True ∧ ((Z35 ∧ Z37) ∧ (Z7 ≤ Z63 ∧ Z63 < Z18) ∧ Z66) ∧ (Z24 = Z24 ∧ Z42) ∧ ((Z65 = Z65 ∧ True) ∧ Z47) ∧ True ∧ ((Value.bool true = Z3 ∧ Z55 = Z17 ∧ Value.bool (drawM l Z63 Z8 == Z7) = Z4 ∧ True) ∧ True) ∧ True ∧ ((Z22 = Z22 ∧ True ∧ Z42) ∧ True) ∧ (Value.int IntKind.i64 (Z63 + Z6) = Z11 ∧ True) ∧ (Z34 ∧ True) ∧ Z12 ∧ (Z29 ∧ Z30 ∧ Z10) ∧ True) ∧ (Z57 = false → ((Z35 ∧ Z37) ∧ (Z58 ∧ Z60) ∧ Z66) ∧ (Z24 = Z24 ∧ Z42) ∧ ((Z52 = Z52 ∧ True) ∧ Z47) ∧ True ∧ ((Value.bool false = Z3 ∧ Value.int IntKind.i64 (drawM l a f) = Z17 ∧ Value.bool (drawM l Z48 Z8 == Z7) = Z4 ∧ True) ∧ True) ∧ True ∧ ((Z22 = Z22 ∧ True ∧ Z42) ∧ True) ∧ (Z65 = Z11 ∧ True) ∧ (Z34 ∧ True) ∧ Z12 ∧ (Z29 ∧ Z30 ∧ Z10) ∧ True))
    (by kernel_rfl) ?_
  simp only [eq_self, true_and, and_true, Int.toNat_natCast, Nat.zero_add, Nat.sub_zero, Value.int.injEq, Value.bool.injEq, decide_eq_true_eq, decide_eq_false_iff_not]
  obtain ⟨⟨⟨hf0, hf1⟩, hw0, hw1⟩, ⟨ha0, ha1⟩, hl, hv⟩ := hx
  have hf0' : 0 < f := hf0
  have hf1' : f ≤ 6 := hf1
  have hw0' : 0 < w := hw0
  have hw1' : w ≤ 6 := hw1
  have ha0' : 0 ≤ a := ha0
  have ha1' : a < 900000 := ha1
  refine ⟨⟨by omega, by omega, hl, hv⟩, ⟨by omega, by omega, hl, hv⟩, fun h => ⟨⟨by omega, by omega, hl, hv⟩, ⟨by omega, by omega, hl, hv⟩, ?_⟩, fun h => ⟨⟨by omega, by omega, hl, hv⟩, ?_⟩⟩
  · have hp : wpM l a = true := h
    have e : waM l a = a + 4 := by unfold waM; rw [if_pos hp]
    refine ⟨⟨hp.symm, ?_, ?_⟩, by rw [e]; omega⟩
    · unfold wnM; rw [if_pos hp, show a + 1 + 1 = a + 2 by omega]
    · unfold wqM; rw [e, show a + 1 + 1 + 1 = a + 4 - 1 by omega]
  · have hp : wpM l a = false := h
    have e : waM l a = a + 3 := by unfold waM; rw [hp]; rfl
    refine ⟨⟨hp.symm, ?_, ?_⟩, by rw [e]; omega⟩
    · unfold wnM; rw [hp]; rfl
    · unfold wqM; rw [e, show a + 1 + 1 = a + 3 - 1 by omega]

theorem wordD_sound : Sound Try.prog 72 wordDS.con := FSpec.sound _ (enter_of Try.func72 (by kernel_rfl) (by kernel_rfl)) wordD_ok
end AE.Pr

namespace AE.Pr
open Go AE Go.Proofs

def drawsS : FSpec UU where
  X := List Int
  pick := fun args H => match args with
    | [a] => sliceAt .u16 H a
    | _ => none
  args := fun (x : List Int) => [.sl 0 0 0 x.length]
  H := fun x => [.one (.ro .u16 x)]
  R := fun (x : List Int) => .val ⟨.fn (.func 74) [] [.ptr 2 0 0 0, .ptr 1 0 0 0], [], [], [.cells [.sl 0 0 0 x.length] 46, .cells [.i 0] 3]⟩
set_option maxRecDepth 100000 in
theorem draws_ok : ∀ x, drawsS.pre x → FunOk Try.prog 35 (drawsS.args x) (drawsS.H x) (drawsS.R x) := by
  intro (x : List Int) _
  refine fun_of (T := []) (L := fun _ => none) (hs := fun _ => []) hmix .nil Try.func35 (by kernel_rfl) (by kernel_rfl) ?_
  refine Eq.mp (α :=
      let Z0 := nat_lit 0 = nat_lit 0 ∧ nat_lit 0 = nat_lit 0; let Z3 := Value.int IntKind.i64 (0 : Int); True ∧ ((Fn.func (nat_lit 74) = Fn.func (74 : FuncId) ∧ True ∧ (nat_lit 0 = nat_lit 0 ∧ Z0) ∧ (nat_lit 0 = nat_lit 0 ∧ Z0) ∧ True) ∧ True) ∧ True ∧ x = x ∧ ((nat_lit 0 = nat_lit 0 ∧ nat_lit 0 = nat_lit 0 ∧ List.length x = List.length x) ∧ True) ∧ (Z3 = Z3 ∧ True) ∧ True)
    (by kernel_rfl) ?_
  simp

theorem draws_sound : Sound Try.prog 35 drawsS.con := FSpec.sound _ (enter_of Try.func35 (by kernel_rfl) (by kernel_rfl)) draws_ok
def Tmade : Tab UU := [(74, drawS.con), (72, wordDS.con), (36, sizeRS.con), (73, claimRS.con), (38, rightRS.con), (30, notS.con)]
theorem Tmade_ok : Tmade.Sound Try.prog := .cons draw_sound (.cons wordD_sound (.cons sizeR_sound (.cons claimR_sound (.cons rightR_sound (.cons not_sound .nil)))))
/-! ### made, in plain Lean -/
def mfM (l : List Int) : Int := 1 + drawM l 0 6
def mwM (l : List Int) : Int := 1 + drawM l 1 6
def tfM (l : List Int) : Int := drawM l 2 (2 ^ (mfM l).toNat)
def tlM (l : List Int) : Int := drawM l 3 (2 ^ (mwM l).toNat)
def mlM (l : List Int) : Int := min (mwM l) (popM (tlM l) + drawM l 4 2)
def lieM (l : List Int) (i : Nat) : Bool := hasM (tlM l) i
def nkM (l : List Int) (a : Int) : Int := 1 + drawM l a 2
def awM (l : List Int) (a : Int) : W3 := wordDM l (mfM l) (mwM l) a
def clDM (l : List Int) (i : Nat) (wrong : Bool) (a : Int) : Cl :=
  if claimRM (tfM l, tlM l) ((i : Int), drawM l a 3, awM l (a + 1), awM l (waM l (a + 1))) == wrong then
    ((i : Int), 0, (if rightM (tfM l, tlM l) (awM l (a + 1)) == wrong then ((awM l (a + 1)).1, (awM l (a + 1)).2.1, !(awM l (a + 1)).2.2) else awM l (a + 1)), dfW)
  else ((i : Int), drawM l a 3, awM l (a + 1), awM l (waM l (a + 1)))
def aftM (l : List Int) (a : Int) : Int := waM l (waM l (a + 1))
def stepM (l : List Int) (i j : Nat) (s : List Cl × Int) : List Cl × Int := (s.1 ++ [clDM l i (lieM l i && j == 0) s.2], aftM l s.2)
def insM (l : List Int) (i : Nat) (s : List Cl × Int) : Nat → List Cl × Int
  | 0 => s
  | j + 1 => stepM l i j (insM l i s j)
def outM (l : List Int) : Nat → List Cl × Int
  | 0 => ([], 5)
  | i + 1 => insM l i ((outM l i).1, (outM l i).2 + 1) (nkM l (outM l i).2).toNat
def kwM (l : List Int) (a : Int) : W3 := if rightM (tfM l, tlM l) (awM l a) then awM l a else ((awM l a).1, (awM l a).2.1, !(awM l a).2.2)
def oM (l : List Int) : List Cl × Int := outM l (mwM l).toNat
def knM (l : List Int) : Nat → List W3 × Int
  | 0 => ([], (oM l).2 + 1)
  | j + 1 => ((knM l j).1 ++ [kwM l (knM l j).2], waM l (knM l j).2)
def nnM (l : List Int) : Nat := (drawM l (oM l).2 5).toNat
/-- What is made: the hearing, and its truth. -/
def madeM (l : List Int) : HT := ((mfM l, mwM l, mlM l), (oM l).1, (knM l (nnM l)).1)
theorem mf_b (l : List Int) : 0 < mfM l ∧ mfM l ≤ 6 := by have := drawM_lt l 0 (show (0 : Int) < 6 by decide); unfold mfM; omega
theorem mw_b (l : List Int) : 0 < mwM l ∧ mwM l ≤ 6 := by have := drawM_lt l 1 (show (0 : Int) < 6 by decide); unfold mwM; omega
theorem two_pow (n : Nat) : (2 : Int) ^ n = ((2 ^ n : Nat) : Int) := by simp
theorem tf_b (l : List Int) : 0 ≤ tfM l ∧ tfM l < ((2 ^ (mfM l).toNat : Nat) : Int) := by
  have h := Nat.pow_pos (n := (mfM l).toNat) (show 0 < 2 by decide)
  have := drawM_lt l 2 (n := ((2 ^ (mfM l).toNat : Nat) : Int)) (by omega)
  unfold tfM; rw [two_pow]; exact this
theorem tl_b (l : List Int) : 0 ≤ tlM l ∧ tlM l < ((2 ^ (mwM l).toNat : Nat) : Int) := by
  have h := Nat.pow_pos (n := (mwM l).toNat) (show 0 < 2 by decide)
  have := drawM_lt l 3 (n := ((2 ^ (mwM l).toNat : Nat) : Int)) (by omega)
  unfold tlM; rw [two_pow]; exact this
theorem tf_64 (l : List Int) : 0 ≤ tfM l ∧ tfM l < 64 := by
  have h := tf_b l; have := pow64 (mfM l).toNat (by have := mf_b l; omega); omega
theorem tl_64 (l : List Int) : 0 ≤ tlM l ∧ tlM l < 64 := by
  have h := tl_b l; have := pow64 (mwM l).toNat (by have := mw_b l; omega); omega
theorem wa_b (l : List Int) (a : Int) : a + 3 ≤ waM l a ∧ waM l a ≤ a + 4 := by unfold waM; split <;> omega
theorem aft_b (l : List Int) (a : Int) : a + 7 ≤ aftM l a ∧ aftM l a ≤ a + 9 := by
  have h1 := wa_b l (a + 1); have h2 := wa_b l (waM l (a + 1)); unfold aftM; omega
theorem nk_b (l : List Int) (a : Int) : 1 ≤ nkM l a ∧ nkM l a ≤ 2 := by have := drawM_lt l a (show (0 : Int) < 2 by decide); unfold nkM; omega
theorem wn_b (l : List Int) (a : Int) : 0 ≤ wnM l (mfM l) (mwM l) a ∧ wnM l (mfM l) (mwM l) a < 6 := by
  have h1 := mf_b l; have h2 := mw_b l
  have h3 := drawM_lt l (a + 2) h2.1; have h4 := drawM_lt l a h1.1
  unfold wnM; split <;> omega
theorem ins_b (l : List Int) (i : Nat) (s : List Cl × Int) : ∀ j : Nat, s.2 ≤ (insM l i s j).2 ∧ (insM l i s j).2 ≤ s.2 + 9 * j ∧ (insM l i s j).1.length = s.1.length + j
  | 0 => ⟨Int.le_refl _, by show s.2 ≤ _; omega, rfl⟩
  | j + 1 => by
    obtain ⟨h1, h2, h3⟩ := ins_b l i s j
    have h4 := aft_b l (insM l i s j).2
    unfold insM stepM
    refine ⟨by show s.2 ≤ aftM l _; omega, by show aftM l _ ≤ _; omega, ?_⟩
    rw [List.length_append, h3]; simp; omega
theorem out_b (l : List Int) : ∀ i : Nat, 5 ≤ (outM l i).2 ∧ (outM l i).2 ≤ 5 + 19 * i ∧ (outM l i).1.length ≤ 2 * i
  | 0 => ⟨Int.le_refl _, by show (5 : Int) ≤ _; omega, by simp [outM]⟩
  | i + 1 => by
    obtain ⟨h1, h2, h3⟩ := out_b l i
    have h4 := nk_b l (outM l i).2
    obtain ⟨h5, h6, h7⟩ := ins_b l i ((outM l i).1, (outM l i).2 + 1) (nkM l (outM l i).2).toNat
    have h5' : (outM l i).2 + 1 ≤ _ := h5
    have h6' : _ ≤ (outM l i).2 + 1 + 9 * ((nkM l (outM l i).2).toNat : Int) := h6
    have h7' : _ = (outM l i).1.length + (nkM l (outM l i).2).toNat := h7
    unfold outM
    refine ⟨by omega, by omega, by omega⟩
theorem kn_b (l : List Int) : ∀ j : Nat, (oM l).2 + 1 ≤ (knM l j).2 ∧ (knM l j).2 ≤ (oM l).2 + 1 + 4 * j ∧ (knM l j).1.length = j
  | 0 => ⟨Int.le_refl _, by show (oM l).2 + 1 ≤ _; omega, rfl⟩
  | j + 1 => by
    obtain ⟨h1, h2, h3⟩ := kn_b l j
    have h4 := wa_b l (knM l j).2
    unfold knM
    refine ⟨by show _ ≤ waM l _; omega, by show waM l _ ≤ _; omega, ?_⟩
    rw [List.length_append, h3]; rfl
theorem nn_b (l : List Int) : nnM l ≤ 4 ∧ (nnM l : Int) = drawM l (oM l).2 5 := by
  have := drawM_lt l (oM l).2 (show (0 : Int) < 5 by decide); unfold nnM; omega
def atM (a : Int) : AB UU := .one (.cells [.i a] 3)
def madeH (l : List Int) (a : Int) (cs : List Cl) (x : AV) : Heap UU := [.one (.cells [.i a] 3), .one (.rc [.sl 2 0 0 l.length] 46), .one (.ro .u16 l), .one (.cells [.fn (.func 74) [] [.ptr 0 0 0 0, .ptr 1 0 0 0]] 51), .one (.cells [.i (mfM l), .i (mwM l), .i (mlM l), .gs 6 0, x] 25), .one (.cells [.i (tfM l), .i (tlM l)] 48), .one (.row .claim cs 67)]
def madeF : Fr := [(1, .ptr 3 0 0 0), (2, .ptr 4 0 0 0), (3, .ptr 5 0 0 0), (4, .fn (.func 72) [] [.ptr 3 0 0 0, .ptr 4 0 0 0])]
def madeL1 (l : List Int) : LSpec UU where
  T := { i : Nat // i ≤ (mwM l).toNat }
  fr := fun i => madeF ++ [(43, .i (mwM l)), (44, .i i.1)]
  H := fun i => madeH l (outM l i.1).2 (outM l i.1).1 (.v (.slice none 0 0))
  mu := fun i => (mwM l).toNat - i.1
def madeL2 (l : List Int) : LSpec UU where
  T := { p : Nat × Nat // p.1 < (mwM l).toNat ∧ p.2 ≤ (nkM l (outM l p.1).2).toNat }
  fr := fun p => madeF ++ [(43, .i (mwM l)), (44, .i p.1.1), (5, .i p.1.1), (6, .b (lieM l p.1.1)), (55, .i (nkM l (outM l p.1.1).2)), (56, .i p.1.2)]
  H := fun p => madeH l (insM l p.1.1 ((outM l p.1.1).1, (outM l p.1.1).2 + 1) p.1.2).2 (insM l p.1.1 ((outM l p.1.1).1, (outM l p.1.1).2 + 1) p.1.2).1 (.v (.slice none 0 0))
  mu := fun p => (nkM l (outM l p.1.1).2).toNat - p.1.2
def madeL3 (l : List Int) : LSpec UU where
  T := { j : Nat // j ≤ nnM l }
  fr := fun j => madeF ++ [(100, .i (nnM l : Nat)), (101, .i j.1)]
  H := fun j => madeH l (knM l j.1).2 (oM l).1 (.gs 7 0) ++ [.one (.row .word (knM l j.1).1 27)]
  mu := fun j => nnM l - j.1
def madeLs (l : List Int) (k : Nat) : Option (LRule UU) :=
  match k with
  | 6 => some (.inv (madeL1 l))
  | 10 => some (.invR (madeL2 l) fun a b => b.1.1 = a.1.1)
  | 22 => some (.inv (madeL3 l))
  | _ => none
def avClo (H : Heap UU) : AV → Option (Int × List Int)
  | .fn (.func 74) [] [.ptr i 0 0 0, .ptr j 0 0 0] => match avAt H i, avBy H j with
    | some a, some l => some (a, l)
    | _, _ => none
  | _ => none
def madeS : FSpec UU where
  X := List Int
  pick := fun args H => match args with
    | [a] => match avClo H a with
      | some (_, l) => some l
      | none => none
    | _ => none
  args := fun _ => [.fn (.func 74) [] [.ptr 0 0 0 0, .ptr 1 0 0 0]]
  H := fun (l : List Int) => [.one (.cells [.i 0] 3), .one (.rc [.sl 2 0 0 l.length] 46), .one (.ro .u16 l)]
  R := fun (l : List Int) => .val ⟨.tup [.agg [.i (mfM l), .i (mwM l), .i (mlM l), .gs 3 0, .gs 4 0], .agg [.i (tfM l), .i (tlM l)]], [(0, 0, .cells [.i (knM l (nnM l)).2] 3)], [], [.row .claim (oM l).1 67, .row .word (knM l (nnM l)).1 27]⟩
  pre := fun (l : List Int) => okBy l
set_option maxHeartbeats 0 in
set_option maxRecDepth 100000 in
theorem made_ok : ∀ x, madeS.pre x → FunOk Try.prog 34 (madeS.args x) (madeS.H x) (madeS.R x) := by
  intro (l : List Int) hx
  refine fun_of (T := Tmade) (L := madeLs l) (hs := fun _ => [0]) hmix Tmade_ok Try.func34 (by kernel_rfl) (by kernel_rfl) ?_
  refine Eq.mp (α :=
      let Z0 := True ∧ True; let Z1 : Option Addr := none; let Z2 := List.length l; let Z3 := fun (p : Nat × Nat) => Prod.snd p; let Z4 := fun (p : Nat × Nat) => Prod.fst p; let Z5 := Value.bool false; let Z6 := nat_lit 0 = nat_lit 0 ∧ True; let Z7 := Int.toNat (mwM l); let Z8 := nat_lit 1 ≤ nat_lit 1; let Z9 := True ∧ Z0; let Z10 := AV.v Z5; let Z11 := nat_lit 0 = nat_lit 0 ∧ nat_lit 0 = nat_lit 0; let Z12 := (0 : Int); let Z13 := (3 : Int); let Z14 := (2 : Int); let Z15 := (5 : Int); let Z16 := (6 : Int); let Z17 := (1 : Int); let Z18 : List (Bool × Int × Bool) := []; let Z19 : List (Int × Int × W3 × W3) := []; let Z20 := fun (p : Nat × Nat) => outM l (Z4 p); let Z21 := Value.int IntKind.i64 (tlM l); let Z22 := Value.int IntKind.i64 (mwM l); let Z23 := Value.int IntKind.i64 (mlM l); let Z24 := (64 : Int); let Z25 := Value.int IntKind.i64 (mfM l); let Z26 := Value.int IntKind.i64 (tfM l); let Z27 := Value.slice Z1 (nat_lit 0) (nat_lit 0); let Z28 := (1 : Nat); let Z29 := (0 : Nat); let Z30 := fun (j : Nat) => j ≤ nnM l; let Z31 := True ∧ Z9; let Z32 : List Cl := Prod.fst (oM l); let Z33 := (1000 : Int); let Z34 := l = l; let Z35 := (67 : TypeId); let Z36 := (tfM l, tlM l); let Z37 := (72 : FuncId); let Z38 := (74 : FuncId); let Z39 := (↑(nnM l) : Int); let Z40 := (65535 : Int); let Z41 := (27 : TypeId); let Z42 := nat_lit 0 = nat_lit 0 ∧ Z6; let Z43 := (900000 : Int); let Z44 := nat_lit 0 < Z2; let Z45 := (1000000 : Int); let Z46 := fun (i : Nat) => i ≤ Z7; let Z47 := Z31 ∧ True; let Z48 := nat_lit 0 = nat_lit 0 ∧ Z11; let Z49 := Z34 ∧ True; let Z50 := Z2 = Z2; let Z51 := Fn.func Z37; let Z52 := Fn.func Z38; let Z53 := nat_lit 67 = Z35; let Z54 := nat_lit 27 = Z41; let Z55 := Value.int IntKind.i64 Z12; let Z56 := Value.int IntKind.i64 Z15; let Z57 := Value.int IntKind.i64 Z13; let Z58 := Value.int IntKind.i64 Z14; let Z59 := Value.int IntKind.i64 Z16; let Z60 : List AV := [Z10]; let Z61 := Z48 ∧ True; let Z62 : Type := { j : Nat // Z30 j }; let Z63 := fun (p : Nat × Nat) => Prod.snd (Z20 p); let Z64 := Z2 < nat_lit 9223372036854775808; let Z65 := fun (x : Int) => Z12 ≤ x; let Z66 := (Z12, false); let Z67 := fun (x : Int) => x ∈ l; let Z68 := AV.v Z55; let Z69 := Value.int IntKind.i64 Z39; let Z70 := fun (p : Nat × Nat) => Z4 p < Z7; let Z71 := fun (x : Z62) => Subtype.val x; let Z72 := nat_lit 0 = nat_lit 0 ∧ Z50; let Z73 := fun (x : Int) => x ≤ Z40; let Z74 := Z31 ∧ Z9; let Z75 := Z12 ≤ tlM l; let Z76 := mwM l ≤ Z16; let Z77 := mfM l ≤ Z16; let Z78 := Z12 ≤ tfM l; let Z79 := Z12 < mfM l; let Z80 := Z12 < mwM l; let Z81 := tlM l < Z24; let Z82 := tfM l < Z24; let Z83 : Type := { i : Nat // Z46 i }; let Z84 := fun (p : Nat × Nat) => nkM l (Z63 p); let Z85 := fun (x : Z62) => knM l (Z71 x); let Z86 := fun (x : Z83) => Subtype.val x; let Z87 := True ∧ Z74; let Z88 := drawM l Z12 Z16; let Z89 := Z21 = Z21; let Z90 := Z23 = Z23; let Z91 := Z25 = Z25; let Z92 := Z22 = Z22; let Z93 := Z26 = Z26; let Z94 := Z27 = Z27; let Z95 := fun (p : Nat × Nat) => Int.toNat (Z84 p); let Z96 := nat_lit 0 = nat_lit 0 ∧ Z72; let Z97 := True ∧ Z87; let Z98 := Z89 ∧ True; let Z99 := fun (x : Z83) => outM l (Z86 x); let Z100 := Z12 < Z14; let Z101 := Z12 < Z16; let Z102 := Z94 ∧ True; let Z103 := Z35 = Z35; let Z104 := fun (x : Z62) => (↑(Z71 x) : Int); let Z105 := Z16 < Z33; let Z106 := Z96 ∧ True; let Z107 := Z14 < Z33; let Z108 := True ∧ Z97; let Z109 := (false, Z66); let Z110 := fun (x : Z62) => Prod.snd (Z85 x); let Z111 := fun (x : Z62) => Prod.fst (Z85 x); let Z112 := fun (x : Z83) => (↑(Z86 x) : Int); let Z113 := Z52 = Z52; let Z114 := Z51 = Z51; let Z115 := Z32 = Z32; let Z116 := Z44 ∧ Z64; let Z117 := nat_lit 0 = nat_lit 0 ∧ Z102; let Z118 := Z12 + Z17; let Z119 := Z48 ∧ Z61; let Z120 := fun (t : Z62) => wqM l (Z110 t); let Z121 := fun (t : Z62) => waM l (Z110 t); let Z122 := fun (t : Z62) => wpM l (Z110 t); let Z123 := fun (x : Z83) => Prod.snd (Z99 x); let Z124 := fun (x : Z83) => Prod.fst (Z99 x); let Z125 := fun (x : Z62) => Value.int IntKind.i64 (Z104 x); let Z126 := Z59 = Z59; let Z127 := Z58 = Z58; let Z128 := Z92 ∧ Z31; let Z129 := True ∧ Z119; let Z130 := fun (p : Nat × Nat) => Z3 p ≤ Z95 p; let Z131 := fun (x : Z62) => nnM l - Z71 x; let Z132 := fun (t : Z62) => !Z120 t; let Z133 := Z90 ∧ Z42; let Z134 := fun (x : Z62) => Value.int IntKind.i64 (Z110 x); let Z135 := fun (t : Z62) => Value.bool (Z122 t); let Z136 := fun (t : Z62) => Value.bool (Z120 t); let Z137 := fun (x : Z83) => Value.int IntKind.i64 (Z112 x); let Z138 := fun (x : Int) => Z65 x ∧ Z73 x; let Z139 : List AV := Z68 :: Z60; let Z140 := fun (t : Z62) => AV.v (Z136 t); let Z141 := fun (t : Z62) => AV.v (Z135 t); let Z142 := Z69 = Z69; let Z143 := Value.int IntKind.i64 Z118; let Z144 := fun (t : Z62) => Value.bool (Z132 t); let Z145 := fun (t : Z62) => wnM l (mfM l) (mwM l) (Z110 t); let Z146 := fun (t : Z62) => Value.int IntKind.i64 (Z121 t); let Z147 := fun (t : Z62) => List.length (Z111 t); let Z148 := fun (x : Z83) => Value.int IntKind.i64 (Z123 x); let Z149 := fun (t : Z83) => Z112 t < mwM l; let Z150 := Z79 ∧ Z77; let Z151 := Z80 ∧ Z76; let Z152 := fun (t : Z62) => AV.v (Z144 t); let Z153 := Z78 ∧ Z82; let Z154 := Z75 ∧ Z81; let Z155 := fun (x : Z83) => Z7 - Z86 x; let Z156 := Z106 ∧ Z49; let Z157 := drawM l Z118 Z16; let Z158 := fun (t : Z62) => Z104 t < Z39; let Z159 := Z17 + Z88; let Z160 := fun (t : Z62) => Value.int IntKind.i64 (Z145 t); let Z161 := fun (t : Z62) => [Z140 t]; let Z162 := fun (t : Z62) => AV.v (Z160 t); let Z163 := fun (t : Z62) => [Z152 t]; let Z164 := fun (t : Z83) => Z12 ≤ Z123 t; let Z165 := Z93 ∧ Z98; let Z166 := fun (t : Z62) => Z104 t + Z17; let Z167 : List AV := Z10 :: Z139; let Z168 := fun (t : Z83) => Z123 t < Z45; let Z169 := IntKind.wrap IntKind.i64 Z159; let Z170 := fun (t : Z62) => Z147 t + nat_lit 1; let Z171 := Z101 ∧ Z105; let Z172 := Z100 ∧ Z107; let Z173 := Z90 ∧ Z117; let Z174 := Z118 + Z17; let Z175 := fun (p : Nat × Nat) => Z70 p ∧ Z130 p; let Z176 := Int.toNat Z169; let Z177 := fun (t : Z83) => Z123 t + Z17; let Z178 := fun (x : Int) => Z67 x → Z138 x; let Z179 := fun (t : Z62) => IntKind.wrap IntKind.i64 (Z166 t); let Z180 := Z91 ∧ Z128; let Z181 := Z103 ∧ Z115; let Z182 := ∀ (x : Int), Z178 x; let Z183 := Z92 ∧ Z133; let Z184 := Z180 ∧ True; let Z185 := Value.int IntKind.i64 Z174; let Z186 := fun (t : Z83) => Value.int IntKind.i64 (Z177 t); let Z187 := min Z176 (nat_lit 64); let Z188 := fun (t : Z62) => Z170 t ≤ nat_lit 1099511627776; let Z189 := fun (t : Z62) => Value.int IntKind.i64 (Z179 t); let Z190 := Z114 ∧ Z129; let Z191 := Z113 ∧ Z129; let Z192 : Type := { p : Nat × Nat // Z175 p }; let Z193 := Z17 + Z157; let Z194 := Z127 ∧ Z119; let Z195 := Z126 ∧ Z119; let Z196 := fun (x : Z192) => Subtype.val x; let Z197 := Z191 ∧ True; let Z198 := Z34 ∧ Z184; let Z199 := fun (x : Z192) => Prod.fst (Z196 x); let Z200 := fun (x : Z192) => Prod.snd (Z196 x); let Z201 := IntKind.wrap IntKind.i64 Z193; let Z202 := fun (t : Z62) => Z135 t = Z135 t; let Z203 := fun (t : Z62) => Z136 t = Z136 t; let Z204 := fun (x t : Z62) => Z131 x < Z131 t; let Z205 := fun (t : Z62) => (Z145 t, Z120 t); let Z206 := fun (x : Z192) => outM l (Z199 x); let Z207 := fun (x : Z192) => lieM l (Z199 x); let Z208 := Z174 + Z17; let Z209 := fun (t x : Z62) => Z146 t = Z134 x; let Z210 := fun (t : Z62) => Z203 t ∧ True; let Z211 := Int.toNat Z201; let Z212 := Z92 ∧ Z173; let Z213 := fun (t x : Z62) => Z209 t x ∧ True; let Z214 := fun (x : Z192) => Value.bool (Z207 x); let Z215 := fun (t : Z83) => decide (Z149 t); let Z216 := Value.int IntKind.i64 Z201; let Z217 := fun (t : Z83) => Z148 t = Z148 t; let Z218 := Z150 ∧ Z151; let Z219 := fun (x : Z192) => (↑(Z199 x) : Int); let Z220 := fun (x : Z192) => (↑(Z200 x) : Int); let Z221 := Z91 ∧ Z183; let Z222 := Z153 ∧ Z154; let Z223 := Value.int IntKind.i64 Z208; let Z224 := fun (t : Z83) => Z217 t ∧ True; let Z225 := fun (x : Z192) => Prod.fst (Z206 x); let Z226 := fun (x : Z192) => Prod.snd (Z206 x); let Z227 := min Z211 (nat_lit 64); let Z228 := fun (x : Z192) => nkM l (Z226 x); let Z229 := fun (x : Z192) => Value.int IntKind.i64 (Z220 x); let Z230 := fun (x : Z192) => Value.int IntKind.i64 (Z219 x); let Z231 := Z116 ∧ Z182; let Z232 := fun (t : Z192) => AV.v (Z230 t); let Z233 := fun (t : Z62) => decide (Z158 t); let Z234 := fun (x : Z192) => Int.toNat (Z228 x); let Z235 := Z14 ^ Z187; let Z236 := fun (t : Z62) => Z160 t = Z160 t; let Z237 := Z216 = Z22; let Z238 := fun (x : Z192) => Value.int IntKind.i64 (Z228 x); let Z239 := fun (t : Z62) => Z162 t :: Z161 t; let Z240 := fun (t x : Z62) => Z189 t = Z125 x; let Z241 := fun (t : Z62) => Z162 t :: Z163 t; let Z242 := Z208 + Z17; let Z243 := Z106 ∧ Z198; let Z244 := fun (t x : Z62) => Z240 t x ∧ True; let Z245 := Z91 ∧ Z212; let Z246 := fun (t : Z83) => Z164 t ∧ Z168 t; let Z247 := fun (t : Z192) => Z220 t + Z17; let Z248 := Value.int IntKind.i64 Z242; let Z249 := fun (t : Z192) => Z220 t == Z12; let Z250 := fun (x : Z192) => Z226 x + Z17; let Z251 := fun (t : Z192) => IntKind.wrap IntKind.i64 (Z247 t); let Z252 := Z17 * Z235; let Z253 := Z14 ^ Z227; let Z254 := fun (t : Z62) => (Z122 t, Z205 t); let Z255 := fun (t : Z192) => Value.int IntKind.i64 (Z251 t); let Z256 := IntKind.wrap IntKind.i64 Z252; let Z257 := fun (t : Z83) (x : Z192) => Z137 t = Z230 x; let Z258 := fun (t : Z83) => Z224 t ∧ Z156; let Z259 := Value.int IntKind.i64 Z256; let Z260 := fun (t : Z62) => rightM Z36 (Z254 t); let Z261 := fun (t : Z62) => !Z260 t; let Z262 := Z17 * Z253; let Z263 := fun (t : Z62) => Z141 t :: Z239 t; let Z264 := fun (t : Z62) => Z141 t :: Z241 t; let Z265 := fun (t x : Z62) => Z142 ∧ Z244 t x; let Z266 := IntKind.wrap IntKind.i64 Z262; let Z267 := fun (t : Z62) => some (Z263 t); let Z268 := fun (t : Z62) => some (Z264 t); let Z269 := fun (t x : Z192) => Z199 t = Z199 x; let Z270 := Value.int IntKind.i64 Z266; let Z271 := fun (t x : Z192) => Z214 t = Z214 x; let Z272 := fun (t : Z62) => Z236 t ∧ Z210 t; let Z273 := fun (t : Z192) => Z220 t < Z228 t; let Z274 := fun (x : Z192) => Z234 x - Z200 x; let Z275 := fun (t x : Z192) => Z230 t = Z230 x; let Z276 := fun (t : Z192) => Z230 t = Z230 t; let Z277 := fun (t x : Z192) => Z238 t = Z238 x; let Z278 := fun (t : Z83) => Z246 t ∧ Z231; let Z279 := fun (x : Z192) => (Z225 x, Z250 x); let Z280 := fun (t x : Z62) => Z190 ∧ Z265 t x; let Z281 := fun (t x : Z192) => Z255 t = Z229 x; let Z282 := fun (t x : Z192) => Z281 t x ∧ True; let Z283 := fun (t x : Z62) => Z48 ∧ Z280 t x; let Z284 := drawM l Z208 Z266; let Z285 := Value.int IntKind.i64 Z284; let Z286 := fun (t x : Z62) => Z48 ∧ Z283 t x; let Z287 := fun (t : Z62) => Z202 t ∧ Z272 t; let Z288 := fun (t : Z62) => Z287 t ∧ True; let Z289 := fun (t x : Z62) => Z48 ∧ Z286 t x; let Z290 := fun (x : Z192) => insM l (Z199 x) (Z279 x) (Z200 x); let Z291 := fun (t : Z192) => decide (Z273 t); let Z292 := fun (x : Z192) => Prod.snd (Z290 x); let Z293 := fun (x : Z192) => Prod.fst (Z290 x); let Z294 := fun (x t : Z192) => Z274 x < Z274 t; let Z295 := fun (x : Z192) => Value.int IntKind.i64 (Z292 x); let Z296 := fun (t : Z192) => List.length (Z293 t); let Z297 := fun (t : Z192) => drawM l (Z292 t) Z13; let Z298 := fun (t : Z192) => Value.int IntKind.i64 (Z297 t); let Z299 := fun (t : Z192) => AV.v (Z298 t); let Z300 := fun (t : Z192) => Z292 t + Z17; let Z301 := fun (t : Z192) => Z296 t + nat_lit 1; let Z302 := fun (t : Z192) => Z297 t ≠ Z12; let Z303 := fun (t : Z192) => wqM l (Z300 t); let Z304 := fun (t : Z192) => wpM l (Z300 t); let Z305 := fun (t : Z192) => waM l (Z300 t); let Z306 := fun (t : Z192) => !Z303 t; let Z307 := fun (t : Z192) => Z297 t ≤ Z14; let Z308 := fun (t : Z192) => Z12 ≤ Z297 t; let Z309 := fun (t : Z192) => Value.int IntKind.i64 (Z300 t); let Z310 := fun (t : Z192) => wqM l (Z305 t); let Z311 := fun (t : Z192) => wpM l (Z305 t); let Z312 := fun (t : Z192) => waM l (Z305 t); let Z313 := fun (t : Z192) => Value.bool (Z303 t); let Z314 := fun (t : Z192) => Value.bool (Z304 t); let Z315 := fun (t : Z192) => AV.v (Z314 t); let Z316 := fun (t : Z192) => AV.v (Z313 t); let Z317 := fun (t : Z192) => Value.bool (Z306 t); let Z318 := fun (t : Z192) => Value.int IntKind.i64 (Z305 t); let Z319 := fun (t : Z192) => wnM l (mfM l) (mwM l) (Z300 t); let Z320 := fun (t : Z192) => Value.bool (Z310 t); let Z321 := fun (t : Z192) => Value.bool (Z311 t); let Z322 := fun (t : Z192) => Z301 t ≤ nat_lit 1099511627776; let Z323 := fun (t : Z192) => AV.v (Z317 t); let Z324 := fun (t : Z192) => AV.v (Z320 t); let Z325 := fun (t : Z192) => AV.v (Z321 t); let Z326 := fun (t : Z192) => wnM l (mfM l) (mwM l) (Z305 t); let Z327 := fun (t : Z192) => Value.int IntKind.i64 (Z312 t); let Z328 := fun (t : Z192) => Value.int IntKind.i64 (Z319 t); let Z329 := fun (t : Z192) => AV.v (Z328 t); let Z330 := fun (t : Z192) => Value.int IntKind.i64 (Z326 t); let Z331 := fun (t : Z192) => [Z324 t]; let Z332 := fun (t : Z192) => AV.v (Z330 t); let Z333 := fun (t x : Z192) => Z277 t x ∧ Z282 t x; let Z334 := fun (t : Z192) => Z319 t < Z16; let Z335 := fun (t : Z192) => Z12 ≤ Z319 t; let Z336 := fun (t : Z192) => Z12 ≤ Z326 t; let Z337 := fun (t : Z192) => Z326 t < Z16; let Z338 := fun (t : Z192) => Z316 t :: Z167; let Z339 := fun (t : Z192) => Z323 t :: Z167; let Z340 := fun (x t x_1 : Z192) => Z294 x t ∧ Z269 x x_1; let Z341 := fun (t x : Z192) => Z271 t x ∧ Z333 t x; let Z342 := fun (t x : Z192) => Z275 t x ∧ Z341 t x; let Z343 := fun (t : Z192) => Z298 t = Z298 t; let Z344 := fun (t x : Z192) => Z327 t = Z295 x; let Z345 := fun (t x : Z192) => Z344 t x ∧ True; let Z346 := fun (t : Z192) => Z308 t ∧ Z307 t; let Z347 := fun (t : Z192) => Z313 t = Z313 t; let Z348 := fun (t : Z192) => Z314 t = Z314 t; let Z349 := fun (t : Z192) => (Z319 t, Z303 t); let Z350 := fun (t : Z192) => Z347 t ∧ True; let Z351 := fun (t : Z192) => (Z319 t, Z306 t); let Z352 := fun (t : Z192) => Z321 t = Z321 t; let Z353 := fun (t : Z192) => Z320 t = Z320 t; let Z354 := fun (t : Z192) => (Z326 t, Z310 t); let Z355 := fun (t : Z192) => Z353 t ∧ True; let Z356 := fun (t : Z192) => Z328 t = Z328 t; let Z357 := fun (t : Z192) => Z330 t = Z330 t; let Z358 := fun (t : Z192) => Z332 t :: Z331 t; let Z359 := fun (t : Z192) => Z335 t ∧ Z334 t; let Z360 := fun (t : Z192) => Z336 t ∧ Z337 t; let Z361 := fun (t : Z192) => Z329 t :: Z338 t; let Z362 := fun (t : Z192) => Z329 t :: Z339 t; let Z363 := fun (t : Z192) => Z222 ∧ Z359 t; let Z364 := fun (t x : Z192) => Z275 t x ∧ Z342 t x; let Z365 := fun (t x : Z192) => Z92 ∧ Z364 t x; let Z366 := fun (t x : Z192) => Z190 ∧ Z365 t x; let Z367 := fun (t x : Z192) => Z48 ∧ Z366 t x; let Z368 := fun (t x : Z192) => Z48 ∧ Z367 t x; let Z369 := fun (t x : Z192) => Z48 ∧ Z368 t x; let Z370 := fun (t : Z192) => (Z304 t, Z349 t); let Z371 := fun (t : Z192) => (Z304 t, Z351 t); let Z372 := fun (t : Z192) => (Z311 t, Z354 t); let Z373 := fun (t : Z192) => rightM Z36 (Z370 t); let Z374 := fun (t : Z192) => Z325 t :: Z358 t; let Z375 := fun (t : Z192) => Z302 t → Z360 t; let Z376 := fun (t : Z192) => (Z370 t, Z109); let Z377 := fun (t : Z192) => Z373 t == false; let Z378 := fun (t : Z192) => (Z371 t, Z109); let Z379 := fun (t : Z192) => (Z12, Z376 t); let Z380 := fun (t : Z192) => (Z12, Z378 t); let Z381 := fun (t : Z192) => Z315 t :: Z361 t; let Z382 := fun (t : Z192) => Z315 t :: Z362 t; let Z383 := fun (t : Z192) => Z68 :: Z381 t; let Z384 := fun (t : Z192) => Z68 :: Z382 t; let Z385 := fun (t : Z192) => Z373 t == Z249 t; let Z386 := fun (t : Z192) => (Z219 t, Z379 t); let Z387 := fun (t : Z192) => (Z219 t, Z380 t); let Z388 := fun (t : Z192) => Z386 t :: Z19; let Z389 := fun (t : Z192) => Z387 t :: Z19; let Z390 := fun (t : Z192) => Z232 t :: Z383 t; let Z391 := fun (t : Z192) => List.drop Z29 (Z388 t); let Z392 := fun (t : Z192) => Z232 t :: Z384 t; let Z393 := fun (t : Z192) => List.drop Z29 (Z389 t); let Z394 := fun (t : Z192) => some (Z390 t); let Z395 := fun (t : Z192) => some (Z392 t); let Z396 := fun (t : Z192) => List.take Z28 (Z391 t); let Z397 := fun (t : Z192) => List.take Z28 (Z393 t); let Z398 := fun (t : Z192) => Z356 t ∧ Z350 t; let Z399 := fun (t : Z192) => Z357 t ∧ Z355 t; let Z400 := fun (t : Z192) => Z316 t :: Z374 t; let Z401 := fun (t : Z192) => Z293 t ++ Z396 t; let Z402 := fun (t : Z192) => Z293 t ++ Z397 t; let Z403 := fun (t : Z192) => Z329 t :: Z400 t; let Z404 := fun (t : Z192) => Z359 t ∧ Z375 t; let Z405 := fun (t x : Z192) => Z401 t = Z293 x; let Z406 := fun (t x : Z192) => Z402 t = Z293 x; let Z407 := fun (t x : Z192) => Z53 ∧ Z405 t x; let Z408 := fun (t x : Z192) => Z53 ∧ Z406 t x; let Z409 := fun (t x : Z192) => Z407 t x ∧ True; let Z410 := fun (t x : Z192) => Z408 t x ∧ True; let Z411 := fun (t x : Z192) => Z165 ∧ Z409 t x; let Z412 := fun (t x : Z192) => Z165 ∧ Z410 t x; let Z413 := fun (t x : Z192) => Z245 ∧ Z411 t x; let Z414 := fun (t x : Z192) => Z245 ∧ Z412 t x; let Z415 := fun (t : Z192) => Z348 t ∧ Z398 t; let Z416 := fun (t : Z192) => (Z370 t, Z372 t); let Z417 := fun (t : Z192) => Z415 t ∧ True; let Z418 := fun (t : Z192) => Z352 t ∧ Z399 t; let Z419 := fun (t : Z192) => Z315 t :: Z403 t; let Z420 := fun (t x : Z192) => Z197 ∧ Z413 t x; let Z421 := fun (t x : Z192) => Z197 ∧ Z414 t x; let Z422 := fun (t : Z192) => Z165 ∧ Z417 t; let Z427 := fun (t : Z192) => Z394 t = Z394 t; let Z429 := fun (t : Z192) => Z395 t = Z395 t; let Z434 := fun (t : Z192) => (Z219 t, Z297 t, Z416 t); let Z437 := fun (t : Z192) => claimRM Z36 (Z434 t) == false; let Z443 := fun (t : Z192) => claimRM Z36 (Z434 t) == Z249 t; let Z466 := fun (t x : Z192) => ∃ (x_1 : Z192), (Z369 t x_1 ∧ True ∧ Z345 t x_1 ∧ Z106 ∧ Z34 ∧ Z420 t x_1) ∧ Z340 x_1 t x; let Z468 := fun (t x : Z192) => ∃ (x_1 : Z192), (Z369 t x_1 ∧ True ∧ Z345 t x_1 ∧ Z106 ∧ Z34 ∧ Z421 t x_1) ∧ Z340 x_1 t x; let Z478 := fun (t : Z192) => some (Z232 t :: Z299 t :: Z419 t) = some (Z232 t :: Z299 t :: Z419 t); let Z482 := fun (t x : Z192) => ∃ (x_1 : Z192), (Z369 t x_1 ∧ True ∧ Z345 t x_1 ∧ Z106 ∧ Z34 ∧ Z197 ∧ Z245 ∧ Z165 ∧ (Z53 ∧ Z293 t ++ List.take Z28 (List.drop Z29 (Z434 t :: Z19)) = Z293 x_1) ∧ True) ∧ Z340 x_1 t x; (Z171 ∧ (Z12 ≤ Z12 ∧ Z12 < Z45) ∧ Z231) ∧ Z195 ∧ ((Z55 = Z55 ∧ True) ∧ Z156) ∧ (Z171 ∧ (Z12 ≤ Z118 ∧ Z118 < Z45) ∧ Z231) ∧ Z195 ∧ ((Z143 = Z143 ∧ True) ∧ Z156) ∧ Z12 ≤ Z169 ∧ ((Z12 < Z256 ∧ Z256 < Z33) ∧ (Z12 ≤ Z174 ∧ Z174 < Z45) ∧ Z231) ∧ (Z259 = Z259 ∧ Z119) ∧ ((Z185 = Z185 ∧ True) ∧ Z156) ∧ Z12 ≤ Z201 ∧ ((Z12 < Z266 ∧ Z266 < Z33) ∧ (Z12 ≤ Z208 ∧ Z208 < Z45) ∧ Z231) ∧ (Z270 = Z270 ∧ Z119) ∧ ((Z223 = Z223 ∧ True) ∧ Z156) ∧ (Z12 ≤ Z284 ∧ Z284 < Z24) ∧ (Z285 = Z285 ∧ True) ∧ True ∧ (Z172 ∧ (Z12 ≤ Z242 ∧ Z242 < Z45) ∧ Z231) ∧ Z194 ∧ ((Z248 = Z248 ∧ True) ∧ Z156) ∧ (∃ (x : Z83), Z108 ∧ (Z0 ∧ Z0 ∧ True ∧ Z47 ∧ (True ∧ True ∧ True ∧ nat_lit 0 = nat_lit 0 ∧ Z0) ∧ Z9 ∧ Z124 x = Z19 ∧ True) ∧ (Z48 ∧ Z48 ∧ Z48 ∧ (Fn.func (nat_lit 72) = Z51 ∧ Z129) ∧ Z237 ∧ Z55 = Z137 x ∧ True) ∧ True ∧ (Value.int IntKind.i64 (Z242 + Z17) = Z148 x ∧ True) ∧ Z106 ∧ Z34 ∧ Z197 ∧ (Value.int IntKind.i64 Z169 = Z25 ∧ Z237 ∧ Value.int IntKind.i64 (min Z201 (IntKind.wrap IntKind.i64 (popM (drawM l Z208 (IntKind.wrap IntKind.i64 (Z17 * Z14 ^ min Z211 (64 : Nat)))) + drawM l Z242 Z14))) = Z23 ∧ Z94 ∧ Z102) ∧ (Value.int IntKind.i64 (drawM l Z174 Z256) = Z26 ∧ Z285 = Z21 ∧ True) ∧ Z0) ∧ ∀ (t : Z83), (Z215 t = true → Z12 ≤ Z112 t ∧ (Z172 ∧ Z278 t) ∧ Z194 ∧ Z258 t ∧ ∃ (x : Z192), ((Z48 ∧ Z48 ∧ Z48 ∧ Z190 ∧ Z92 ∧ Z257 t x ∧ Z257 t x ∧ Value.bool (IntKind.wrap IntKind.i64 (↑(BitVec.toNat (BitVec.ofInt (nat_lit 64) (Int.fdiv (tlM l) (Z14 ^ min (Int.toNat (Z112 t)) (nat_lit 64))) &&& BitVec.ofInt (nat_lit 64) Z17)) : Int) == Z17) = Z214 x ∧ Value.int IntKind.i64 (IntKind.wrap IntKind.i64 (Z17 + drawM l (Z123 t) Z14)) = Z238 x ∧ Z55 = Z229 x ∧ True) ∧ True ∧ (Z186 t = Z295 x ∧ True) ∧ Z106 ∧ Z34 ∧ Z197 ∧ Z245 ∧ Z165 ∧ (Z103 ∧ Z124 t = Z293 x) ∧ True) ∧ Z199 x = Z199 x ∧ ∀ (t_1 : Z192), Z269 t_1 x → (Z291 t_1 = true → ((Z12 < Z13 ∧ Z13 < Z33) ∧ (Z12 ≤ Z292 t_1 ∧ Z292 t_1 < Z45) ∧ Z231) ∧ (Z57 = Z57 ∧ Z119) ∧ ((Z295 t_1 = Z295 t_1 ∧ True) ∧ Z156) ∧ (Z218 ∧ (Z12 ≤ Z300 t_1 ∧ Z300 t_1 < Z43) ∧ Z231) ∧ Z119 ∧ (Z197 ∧ (Z309 t_1 = Z309 t_1 ∧ True) ∧ Z243) ∧ (Z218 ∧ (Z12 ≤ Z305 t_1 ∧ Z305 t_1 < Z43) ∧ Z231) ∧ Z119 ∧ (Z197 ∧ (Z318 t_1 = Z318 t_1 ∧ True) ∧ Z243) ∧ (Z207 t_1 = true → (Z222 ∧ Z346 t_1 ∧ Z404 t_1) ∧ (Z165 ∧ (Z276 t_1 ∧ Z343 t_1 ∧ Z348 t_1 ∧ Z356 t_1 ∧ Z347 t_1 ∧ Z418 t_1) ∧ True) ∧ True ∧ (Z443 t_1 = true → Z363 t_1 ∧ Z422 t_1 ∧ True ∧ (Z385 t_1 = true → True ∧ Z417 t_1 ∧ True ∧ (nat_lit 1 = nat_lit 1 ∧ Z429 t_1) ∧ Z8 ∧ Z322 t_1 ∧ True ∧ Z468 t_1 x) ∧ (Z385 t_1 = false → (nat_lit 1 = nat_lit 1 ∧ Z427 t_1) ∧ Z8 ∧ Z322 t_1 ∧ True ∧ Z466 t_1 x)) ∧ (Z443 t_1 = false → (nat_lit 1 = nat_lit 1 ∧ Z478 t_1) ∧ Z8 ∧ Z322 t_1 ∧ True ∧ Z482 t_1 x)) ∧ (Z207 t_1 = false → (Z222 ∧ Z346 t_1 ∧ Z404 t_1) ∧ (Z165 ∧ (Z276 t_1 ∧ Z343 t_1 ∧ Z348 t_1 ∧ Z356 t_1 ∧ Z347 t_1 ∧ Z418 t_1) ∧ True) ∧ True ∧ (Z437 t_1 = true → Z363 t_1 ∧ Z422 t_1 ∧ True ∧ (Z377 t_1 = true → True ∧ Z417 t_1 ∧ True ∧ (nat_lit 1 = nat_lit 1 ∧ Z429 t_1) ∧ Z8 ∧ Z322 t_1 ∧ True ∧ Z468 t_1 x) ∧ (Z377 t_1 = false → (nat_lit 1 = nat_lit 1 ∧ Z427 t_1) ∧ Z8 ∧ Z322 t_1 ∧ True ∧ Z466 t_1 x)) ∧ (Z437 t_1 = false → (nat_lit 1 = nat_lit 1 ∧ Z478 t_1) ∧ Z8 ∧ Z322 t_1 ∧ True ∧ Z482 t_1 x))) ∧ (Z291 t_1 = false → True ∧ ∃ (x : Z83), ((Z48 ∧ Z48 ∧ Z48 ∧ Z190 ∧ Z92 ∧ Value.int IntKind.i64 (IntKind.wrap IntKind.i64 (Z219 t_1 + Z17)) = Z137 x ∧ True) ∧ True ∧ (Z295 t_1 = Z148 x ∧ True) ∧ Z106 ∧ Z34 ∧ Z197 ∧ Z245 ∧ Z165 ∧ (Z103 ∧ Z293 t_1 = Z124 x) ∧ True) ∧ Z155 x < Z155 t)) ∧ (Z215 t = false → ((Z12 < Z15 ∧ Z15 < Z33) ∧ Z278 t) ∧ (Z56 = Z56 ∧ Z119) ∧ Z258 t ∧ (∃ (x : Z62), Z108 ∧ (Z0 ∧ Z0 ∧ True ∧ Z47 ∧ (True ∧ True ∧ True ∧ True ∧ Z6) ∧ Z9 ∧ True ∧ Z111 x = Z18 ∧ True) ∧ (Z48 ∧ Z48 ∧ Z48 ∧ Z190 ∧ Value.int IntKind.i64 (drawM l (Z123 t) Z15) = Z69 ∧ Z55 = Z125 x ∧ True) ∧ True ∧ (Z186 t = Z134 x ∧ True) ∧ Z106 ∧ Z34 ∧ Z197 ∧ Z245 ∧ Z165 ∧ (Z103 ∧ Z124 t = Z32) ∧ Z0) ∧ ∀ (t : Z62), (Z233 t = true → (Z218 ∧ (Z12 ≤ Z110 t ∧ Z110 t < Z43) ∧ Z231) ∧ Z119 ∧ (Z197 ∧ (Z134 t = Z134 t ∧ True) ∧ Z243) ∧ (Z222 ∧ Z12 ≤ Z145 t ∧ Z145 t < Z16) ∧ (Z165 ∧ Z288 t) ∧ True ∧ (Z261 t = true → True ∧ Z288 t ∧ True ∧ (nat_lit 1 = nat_lit 1 ∧ Z268 t = Z268 t) ∧ Z8 ∧ Z188 t ∧ True ∧ ∃ (x : Z62), (Z289 t x ∧ True ∧ Z213 t x ∧ Z106 ∧ Z34 ∧ Z197 ∧ Z221 ∧ Z165 ∧ Z181 ∧ (Z54 ∧ Z111 t ++ List.take Z28 (List.drop Z29 ((Z122 t, Z145 t, Z132 t) :: Z18)) = Z111 x) ∧ True) ∧ Z204 x t) ∧ (Z261 t = false → (nat_lit 1 = nat_lit 1 ∧ Z267 t = Z267 t) ∧ Z8 ∧ Z188 t ∧ True ∧ ∃ (x : Z62), (Z289 t x ∧ True ∧ Z213 t x ∧ Z106 ∧ Z34 ∧ Z197 ∧ Z221 ∧ Z165 ∧ Z181 ∧ (Z54 ∧ Z111 t ++ List.take Z28 (List.drop Z29 (Z254 t :: Z18)) = Z111 x) ∧ True) ∧ Z204 x t)) ∧ (Z233 t = false → True ∧ ((Z221 ∧ Z165 ∧ True) ∧ True) ∧ True ∧ (Z134 t = Value.int IntKind.i64 (Prod.snd (knM l (nnM l))) ∧ True) ∧ Z106 ∧ Z34 ∧ Z181 ∧ (Z41 = Z41 ∧ Z111 t = Prod.fst (knM l (nnM l))) ∧ True)))
    (by kernel_rfl) ?_
  simp only [eq_self, true_and, and_true, Int.toNat_natCast, Nat.zero_add, Nat.sub_zero, Value.int.injEq, Value.bool.injEq, decide_eq_true_eq, decide_eq_false_iff_not]
  have hby : (0 < l.length ∧ l.length < 9223372036854775808) ∧ ∀ (x : Int), x ∈ l → 0 ≤ x ∧ x ≤ 65535 := hx
  have hmf := mf_b l
  have hmw := mw_b l
  have e0 : IntKind.i64.wrap (1 + drawM l 0 6) = mfM l := wrap_id (x := mfM l) (by omega) (by omega)
  have e1 : IntKind.i64.wrap (1 + drawM l 1 6) = mwM l := wrap_id (x := mwM l) (by omega) (by omega)
  have hp : ∀ n : Int, 0 < n → n ≤ 6 → IntKind.i64.wrap (1 * 2 ^ min n.toNat 64) = 2 ^ n.toNat ∧ (0 : Int) < 2 ^ n.toNat ∧ (2 : Int) ^ n.toNat ≤ 64 := fun n h1 h2 => by
    have h3 := pow64 n.toNat (by omega)
    have h4 := Nat.pow_pos (n := n.toNat) (show 0 < 2 by decide)
    rw [show min n.toNat 64 = n.toNat by omega, Int.one_mul, two_pow]
    exact ⟨wrap_id (by omega) (by omega), by omega, by omega⟩
  obtain ⟨pf1, pf2, pf3⟩ := hp _ hmf.1 hmf.2
  obtain ⟨pw1, pw2, pw3⟩ := hp _ hmw.1 hmw.2
  have htl := tl_64 l
  have htf := tf_64 l
  have hpl := popM_le (tlM l)
  have hd4 := drawM_lt l 4 (show (0 : Int) < 2 by decide)
  have eL : IntKind.i64.wrap (popM (tlM l) + drawM l 4 2) = popM (tlM l) + drawM l 4 2 := wrap_id (by omega) (by omega)
  simp only [show (0 : Int) + 1 = 1 from rfl, show (1 : Int) + 1 = 2 from rfl, show (2 : Int) + 1 = 3 from rfl, show (3 : Int) + 1 = 4 from rfl, show (4 : Int) + 1 = 5 from rfl, e0, e1, pf1, pw1]
  have eTf : drawM l 2 (2 ^ (mfM l).toNat) = tfM l := rfl
  have eTl : drawM l 3 (2 ^ (mwM l).toNat) = tlM l := rfl
  have eMl : min (mwM l) (popM (tlM l) + drawM l 4 2) = mlM l := rfl
  simp only [eTf, eTl, eL, eMl, eq_self, true_and, and_true]
  refine ⟨⟨by decide, by decide, hby⟩, ⟨by decide, by decide, hby⟩, by omega, ⟨⟨pf2, by omega⟩, by decide, hby⟩, by omega, ⟨⟨pw2, by omega⟩, by decide, hby⟩, htl, ⟨by decide, by decide, hby⟩, ⟨⟨0, Nat.zero_le _⟩, rfl, rfl, rfl⟩, fun t => ⟨fun ht => ?_, fun ht => ?_⟩⟩
  · obtain ⟨i, hi⟩ := t
    have hlt : i < (mwM l).toNat := by have h0 : (i : Int) < mwM l := ht; omega
    have ho := out_b l i
    have hnk := nk_b l (outM l i).2
    have ob : 0 ≤ (outM l i).2 ∧ (outM l i).2 < 1000000 := by omega
    have hlie : (IntKind.i64.wrap ((BitVec.ofInt 64 ((tlM l).fdiv (2 ^ min i 64)) &&& BitVec.ofInt 64 1).toNat : Int) == 1) = lieM l i := by
      have h1 := htl
      unfold lieM
      generalize tlM l = t at h1
      obtain ⟨t, rfl⟩ := Int.eq_ofNat_of_zero_le h1.1
      have : ∀ (t : Fin 64) (i : Fin 6), (IntKind.i64.wrap ((BitVec.ofInt 64 (((t.val : Nat) : Int).fdiv (2 ^ min i.val 64)) &&& BitVec.ofInt 64 1).toNat : Int) == 1) = hasM ((t.val : Nat) : Int) ((i.val : Nat) : Int) := by decide +kernel
      exact this ⟨t, by omega⟩ ⟨i, by omega⟩
    refine ⟨Int.natCast_nonneg _, ⟨by decide, ob, hby⟩, ⟨(i, 0), hlt, Nat.zero_le _⟩, ⟨⟨rfl, rfl, hlie, wrap_id (x := nkM l (outM l i).2) (by omega) (by omega), rfl⟩, rfl, rfl⟩, ?_⟩
    rintro ⟨⟨i1, j⟩, hi1, hj⟩ hr1
    have hr1' : i1 = i := hr1
    subst hr1'
    have hj' : j ≤ (nkM l (outM l i1).2).toNat := hj
    have hb := ins_b l i1 ((outM l i1).1, (outM l i1).2 + 1) j
    refine ⟨fun h => ?_, fun h => ?_⟩
    · have hjl : j < (nkM l (outM l i1).2).toNat := by have h0 : (j : Int) < nkM l (outM l i1).2 := h; omega
      have hsu := sucI j (by omega)
      have hstep : insM l i1 ((outM l i1).1, (outM l i1).2 + 1) (j + 1) = stepM l i1 j (insM l i1 ((outM l i1).1, (outM l i1).2 + 1) j) := rfl
      have hb1 : (outM l i1).2 + 1 ≤ (insM l i1 ((outM l i1).1, (outM l i1).2 + 1) j).2 := hb.1
      have hb2 : (insM l i1 ((outM l i1).1, (outM l i1).2 + 1) j).2 ≤ (outM l i1).2 + 1 + 9 * (j : Int) := hb.2.1
      have hb3 : (insM l i1 ((outM l i1).1, (outM l i1).2 + 1) j).1.length = (outM l i1).1.length + j := hb.2.2
      have hlen : (insM l i1 ((outM l i1).1, (outM l i1).2 + 1) j).1.length + 1 ≤ 1099511627776 := by omega
      have hzero : (((j : Nat) : Int) == 0) = (j == 0) := by
        cases j with
        | zero => rfl
        | succ j => simp; omega
      simp only [hzero]
      generalize insM l i1 ((outM l i1).1, (outM l i1).2 + 1) j = s at *
      have hwa := wa_b l (s.2 + 1)
      have hd3 := drawM_lt l s.2 (show (0 : Int) < 3 by decide)
      have hok : ((0 ≤ drawM l s.2 3 ∧ drawM l s.2 3 ≤ 2) ∧ (0 ≤ wnM l (mfM l) (mwM l) (s.2 + 1) ∧ wnM l (mfM l) (mwM l) (s.2 + 1) < 6) ∧ (drawM l s.2 3 ≠ 0 → 0 ≤ wnM l (mfM l) (mwM l) (waM l (s.2 + 1)) ∧ wnM l (mfM l) (mwM l) (waM l (s.2 + 1)) < 6)) := ⟨by omega, wn_b l _, fun _ => wn_b l _⟩
      have fin : ∀ (c : Cl), clDM l i1 (lieM l i1 && j == 0) s.2 = c → ∃ x : { p : Nat × Nat // p.1 < (mwM l).toNat ∧ p.2 ≤ (nkM l (outM l p.1).2).toNat },
          ((((i1 : Nat) : Int) = ((x.1.1 : Nat) : Int) ∧ ((i1 : Nat) : Int) = ((x.1.1 : Nat) : Int) ∧ lieM l i1 = lieM l x.1.1 ∧ nkM l (outM l i1).2 = nkM l (outM l x.1.1).2 ∧ IntKind.i64.wrap ((j : Int) + 1) = ((x.1.2 : Nat) : Int)) ∧
            waM l (waM l (s.2 + 1)) = (insM l x.1.1 ((outM l x.1.1).1, (outM l x.1.1).2 + 1) x.1.2).2 ∧ s.1 ++ List.take 1 (List.drop 0 [c]) = (insM l x.1.1 ((outM l x.1.1).1, (outM l x.1.1).2 + 1) x.1.2).1) ∧
          (nkM l (outM l x.1.1).2).toNat - x.1.2 < (nkM l (outM l i1).2).toNat - j ∧ x.1.1 = i1 := fun c hc => by
        refine ⟨⟨(i1, j + 1), hlt, hjl⟩, ⟨⟨rfl, rfl, rfl, rfl, hsu⟩, ?_, ?_⟩, dec1 hjl, rfl⟩
        · show _ = (insM l i1 ((outM l i1).1, (outM l i1).2 + 1) (j + 1)).2
          rw [hstep]; rfl
        · show _ = (insM l i1 ((outM l i1).1, (outM l i1).2 + 1) (j + 1)).1
          rw [hstep, ← hc]; rfl
      refine ⟨⟨by decide, by omega, hby⟩, ⟨⟨hmf, hmw⟩, by omega, hby⟩, ⟨⟨hmf, hmw⟩, by omega, hby⟩, fun hli => ?_, fun hli => ?_⟩
      · refine ⟨⟨⟨htf, htl⟩, hok⟩, fun h1 => ⟨⟨⟨htf, htl⟩, wn_b l _⟩, fun h2 => ⟨Nat.le_refl _, hlen, fin _ ?_⟩, fun h2 => ⟨Nat.le_refl _, hlen, fin _ ?_⟩⟩, fun h1 => ⟨Nat.le_refl _, hlen, fin _ ?_⟩⟩
        · rw [hli, Bool.true_and]; unfold clDM
          rw [if_pos (show (claimRM (tfM l, tlM l) ((i1 : Int), drawM l s.2 3, awM l (s.2 + 1), awM l (waM l (s.2 + 1))) == (j == 0)) = true from h1), if_pos (show (rightM (tfM l, tlM l) (awM l (s.2 + 1)) == (j == 0)) = true from h2)]; rfl
        · rw [hli, Bool.true_and]; unfold clDM
          rw [if_pos (show (claimRM (tfM l, tlM l) ((i1 : Int), drawM l s.2 3, awM l (s.2 + 1), awM l (waM l (s.2 + 1))) == (j == 0)) = true from h1), if_neg (by rw [show (rightM (tfM l, tlM l) (awM l (s.2 + 1)) == (j == 0)) = false from h2]; decide)]; rfl
        · rw [hli, Bool.true_and]; unfold clDM
          rw [if_neg (by rw [show (claimRM (tfM l, tlM l) ((i1 : Int), drawM l s.2 3, awM l (s.2 + 1), awM l (waM l (s.2 + 1))) == (j == 0)) = false from h1]; decide)]; rfl
      · refine ⟨⟨⟨htf, htl⟩, hok⟩, fun h1 => ⟨⟨⟨htf, htl⟩, wn_b l _⟩, fun h2 => ⟨Nat.le_refl _, hlen, fin _ ?_⟩, fun h2 => ⟨Nat.le_refl _, hlen, fin _ ?_⟩⟩, fun h1 => ⟨Nat.le_refl _, hlen, fin _ ?_⟩⟩
        · rw [hli, Bool.false_and]; unfold clDM
          rw [if_pos (show (claimRM (tfM l, tlM l) ((i1 : Int), drawM l s.2 3, awM l (s.2 + 1), awM l (waM l (s.2 + 1))) == false) = true from h1), if_pos (show (rightM (tfM l, tlM l) (awM l (s.2 + 1)) == false) = true from h2)]; rfl
        · rw [hli, Bool.false_and]; unfold clDM
          rw [if_pos (show (claimRM (tfM l, tlM l) ((i1 : Int), drawM l s.2 3, awM l (s.2 + 1), awM l (waM l (s.2 + 1))) == false) = true from h1), if_neg (by rw [show (rightM (tfM l, tlM l) (awM l (s.2 + 1)) == false) = false from h2]; decide)]; rfl
        · rw [hli, Bool.false_and]; unfold clDM
          rw [if_neg (by rw [show (claimRM (tfM l, tlM l) ((i1 : Int), drawM l s.2 3, awM l (s.2 + 1), awM l (waM l (s.2 + 1))) == false) = false from h1]; decide)]; rfl
    · have hje : j = (nkM l (outM l i1).2).toNat := by have h0 : ¬ (j : Int) < nkM l (outM l i1).2 := h; omega
      subst hje
      exact ⟨⟨i1 + 1, hlt⟩, ⟨sucI i1 (by omega), rfl, rfl⟩, dec1 hlt⟩
  · have hti : t.1 = (mwM l).toNat := by have := t.2; omega
    have ho := out_b l (mwM l).toNat
    have hnn := nn_b l
    rw [hti]
    have hoM : outM l (mwM l).toNat = oM l := rfl
    rw [hoM] at ho ⊢
    refine ⟨⟨by decide, by omega, hby⟩, ⟨⟨0, Nat.zero_le _⟩, rfl, ⟨hnn.2.symm, rfl⟩, rfl, rfl⟩, fun t => ⟨fun ht => ?_, fun ht => ?_⟩⟩
    · obtain ⟨j, hj⟩ := t
      have hlt : j < nnM l := by have h0 : (j : Int) < (nnM l : Int) := ht; omega
      have hk := kn_b l j
      have hsu := sucI j (by omega)
      refine ⟨⟨⟨hmf, hmw⟩, by show 0 ≤ (knM l j).2 ∧ (knM l j).2 < 900000; omega, hby⟩, ⟨⟨htf, htl⟩, wn_b l _⟩, fun hr => ⟨Nat.le_refl _, by show (knM l j).1.length + 1 ≤ _; omega, ⟨j + 1, hlt⟩, ⟨hsu, rfl, ?_⟩, dec1 hlt⟩, fun hr => ⟨Nat.le_refl _, by show (knM l j).1.length + 1 ≤ _; omega, ⟨j + 1, hlt⟩, ⟨hsu, rfl, ?_⟩, dec1 hlt⟩⟩
      · have hr' : (!rightM (tfM l, tlM l) (awM l (knM l j).2)) = true := hr
        have hr2 : rightM (tfM l, tlM l) (awM l (knM l j).2) = false := by simpa using hr'
        show _ = (knM l j).1 ++ [kwM l (knM l j).2]
        unfold kwM; rw [hr2]; rfl
      · have hr' : (!rightM (tfM l, tlM l) (awM l (knM l j).2)) = false := hr
        have hr2 : rightM (tfM l, tlM l) (awM l (knM l j).2) = true := by simpa using hr'
        show _ = (knM l j).1 ++ [kwM l (knM l j).2]
        unfold kwM; rw [hr2]; rfl
    · have htn : t.1 = nnM l := by have := t.2; omega
      rw [htn]; exact ⟨rfl, rfl⟩

theorem made_sound : Sound Try.prog 34 madeS.con := FSpec.sound _ (enter_of Try.func34 (by kernel_rfl) (by kernel_rfl)) made_ok
end AE.Pr

namespace AE.Pr
open Go AE Go.Proofs

def trM (l : List Int) : Int × Int := (tfM l, tlM l)
theorem right_not (t : Int × Int) (w : W3) : rightM t (w.1, w.2.1, !w.2.2) = !rightM t w := by
  unfold rightM
  simp only
  generalize (if w.1 = true then !hasM t.2 w.2.1 else hasM t.1 w.2.1) = b
  cases b <;> cases w.2.2 <;> rfl
theorem claim_is (t : Int × Int) (i : Int) (w v : W3) : claimRM t (i, 0, w, v) = rightM t w := by
  simp [claimRM, claimM, ciM]
theorem cl_right (l : List Int) (i : Nat) (wrong : Bool) (a : Int) : claimRM (trM l) (clDM l i wrong a) = !wrong := by
  have hb : ∀ x y : Bool, ¬ (x == y) = true → x = !y := by decide
  unfold clDM
  show claimRM (trM l) (if claimRM (trM l) _ == wrong then _ else _) = _
  split
  · rw [claim_is]
    split
    · rename_i h
      rw [right_not]
      have : rightM (tfM l, tlM l) (awM l (a + 1)) = wrong := eq_of_beq h
      rw [show rightM (trM l) (awM l (a + 1)) = wrong from this]
    · rename_i h; exact hb _ _ h
  · rename_i h; exact hb _ _ h
theorem aw_ok (l : List Int) (a : Int) : wordM (mfM l) (mwM l) (awM l a) = true := by
  have h1 := mf_b l
  have h2 := mw_b l
  have e1 : W (mfM l - 1) = mfM l - 1 := wrap_id (by omega) (by omega)
  have e2 : W (mwM l - 1) = mwM l - 1 := wrap_id (by omega) (by omega)
  have h3 := drawM_lt l (a + 2) h2.1
  have h4 := drawM_lt l a h1.1
  unfold wordM inM awM wordDM wnM
  simp only
  cases wpM l a <;> simp [e1, e2] <;> omega
theorem word_not {f w : Int} (x : W3) : wordM f w (x.1, x.2.1, !x.2.2) = wordM f w x := rfl
theorem cl_ok (l : List Int) (i : Nat) (wrong : Bool) (a : Int) : (clDM l i wrong a).1 = (i : Int) ∧ (0 ≤ (clDM l i wrong a).2.1 ∧ (clDM l i wrong a).2.1 ≤ 2) ∧ wordM (mfM l) (mwM l) (clDM l i wrong a).2.2.1 = true ∧ ((clDM l i wrong a).2.1 ≠ 0 → wordM (mfM l) (mwM l) (clDM l i wrong a).2.2.2 = true) := by
  have h3 := drawM_lt l a (show (0 : Int) < 3 by decide)
  unfold clDM
  split
  · refine ⟨rfl, ⟨Int.le_refl _, by show (0 : Int) ≤ 2; decide⟩, ?_, fun h => absurd rfl h⟩
    show wordM _ _ (if _ then _ else _) = true
    split
    · exact aw_ok l _
    · exact aw_ok l _
  · exact ⟨rfl, ⟨h3.1, by show drawM l a 3 ≤ 2; omega⟩, aw_ok l _, fun _ => aw_ok l _⟩
theorem ins_mem (l : List Int) (i : Nat) (s : List Cl × Int) (c : Cl) : ∀ j : Nat, c ∈ (insM l i s j).1 → c ∈ s.1 ∨ ∃ k a, c = clDM l i (lieM l i && k == 0) a
  | 0, h => .inl h
  | j + 1, h => by
    have h' : c ∈ (insM l i s j).1 ++ [clDM l i (lieM l i && j == 0) (insM l i s j).2] := h
    rcases List.mem_append.1 h' with h1 | h1
    · exact ins_mem l i s c j h1
    · exact .inr ⟨j, _, List.mem_singleton.1 h1⟩
theorem ins_keep (l : List Int) (i : Nat) (s : List Cl × Int) (c : Cl) (h : c ∈ s.1) : ∀ j : Nat, c ∈ (insM l i s j).1
  | 0 => h
  | j + 1 => List.mem_append.2 (.inl (ins_keep l i s c h j))
theorem ins_first (l : List Int) (i : Nat) (s : List Cl × Int) : ∀ j : Nat, ∃ a, clDM l i (lieM l i && (0 : Nat) == 0) a ∈ (insM l i s (j + 1)).1
  | 0 => ⟨_, List.mem_append.2 (.inr (List.mem_singleton.2 rfl))⟩
  | j + 1 => by
    obtain ⟨a, h⟩ := ins_first l i s j
    exact ⟨a, List.mem_append.2 (.inl h)⟩
theorem out_mem (l : List Int) (c : Cl) : ∀ i : Nat, c ∈ (outM l i).1 → ∃ w k a, w < i ∧ c = clDM l w (lieM l w && k == 0) a
  | 0, h => by simp [outM] at h
  | i + 1, h => by
    have h' : c ∈ (insM l i ((outM l i).1, (outM l i).2 + 1) (nkM l (outM l i).2).toNat).1 := h
    rcases ins_mem l i _ c _ h' with h1 | ⟨k, a, h1⟩
    · obtain ⟨w, k, a, hw, e⟩ := out_mem l c i h1
      exact ⟨w, k, a, by omega, e⟩
    · exact ⟨i, k, a, by omega, h1⟩
theorem out_first (l : List Int) (w : Nat) : ∀ i : Nat, w < i → ∃ a, clDM l w (lieM l w && (0 : Nat) == 0) a ∈ (outM l i).1
  | 0, h => absurd h (Nat.not_lt_zero _)
  | i + 1, h => by
    have hn := nk_b l (outM l i).2
    rcases Nat.lt_or_eq_of_le (Nat.le_of_lt_succ h) with h1 | rfl
    · obtain ⟨a, ha⟩ := out_first l w i h1
      exact ⟨a, ins_keep l i ((outM l i).1, (outM l i).2 + 1) _ ha _⟩
    · obtain ⟨k, hk⟩ : ∃ k, (nkM l (outM l w).2).toNat = k + 1 := ⟨(nkM l (outM l w).2).toNat - 1, by omega⟩
      obtain ⟨a, ha⟩ := ins_first l w ((outM l w).1, (outM l w).2 + 1) k
      exact ⟨a, by unfold outM; rw [hk]; exact ha⟩
theorem kn_mem (l : List Int) (c : W3) : ∀ j : Nat, c ∈ (knM l j).1 → rightM (trM l) c = true ∧ wordM (mfM l) (mwM l) c = true
  | 0, h => by simp [knM] at h
  | j + 1, h => by
    have h' : c ∈ (knM l j).1 ++ [kwM l (knM l j).2] := h
    rcases List.mem_append.1 h' with h1 | h1
    · exact kn_mem l c j h1
    · rw [List.mem_singleton.1 h1]
      unfold kwM
      split
      · rename_i h2; exact ⟨h2, aw_ok l _⟩
      · rename_i h2
        rw [right_not, word_not]
        refine ⟨?_, aw_ok l _⟩
        have : rightM (trM l) (awM l (knM l j).2) = false := by
          cases h3 : rightM (trM l) (awM l (knM l j).2) with
          | false => rfl
          | true => exact absurd h3 h2
        rw [this]; rfl
theorem hear_of {x : HT} (h : HearOk x) : hearM x = true := by
  obtain ⟨⟨f, w, li⟩, cs, ks⟩ := x
  obtain ⟨h1, h2, h3, h4, h5, h6, h7⟩ := h
  have h1' : 0 ≤ f ∧ f ≤ 6 := h1
  have h2' : 0 ≤ w ∧ w ≤ 6 := h2
  have h3' : 0 ≤ li ∧ li ≤ w := h3
  have hW : W (w - 1) = w - 1 := wrap_id (by omega) (by omega)
  have e1 : cs.any (badCM f w) = false := by
    rw [List.any_eq_false]
    intro c hc
    obtain ⟨⟨a1, a2⟩, ⟨a3, a4⟩, a5, a6⟩ := h6 c hc
    have a4' : c.1 < w := a4
    have a5' : wordM f w c.2.2.1 = true := a5
    have i1 : inM c.2.1 0 2 = true := by simp [inM, a1, a2]
    have i2 : inM c.1 0 (w - 1) = true := by simp [inM, a3]; omega
    unfold badCM
    rw [hW, i1, i2, a5']
    cases hk : (c.2.1 != 0) with
    | false => simp
    | true =>
      have a6' : wordM f w c.2.2.2 = true := a6 (by simpa using hk)
      rw [a6']; simp
  have e2 : (ks.any fun y => !wordM f w y) = false := by
    rw [List.any_eq_false]
    intro c hc
    have : wordM f w c = true := h7 c hc
    rw [this]; simp
  have h4' : cs.length ≤ 14 := h4
  have h5' : ks.length ≤ 4 := h5
  unfold hearM inM
  simp only [e1, e2, h4', h5', h1', h2', h3', decide_true]
  rfl
theorem made_hear (l : List Int) : HearOk (madeM l) := by
  have h1 := mf_b l
  have h2 := mw_b l
  have h3 := tl_b l
  have h4 := drawM_lt l 4 (show (0 : Int) < 2 by decide)
  have h5 := popM_le (tlM l)
  have ho := out_b l (mwM l).toNat
  have hn := nn_b l
  have hk := kn_b l (nnM l)
  refine ⟨⟨by show 0 ≤ mfM l; omega, by show mfM l ≤ 6; omega⟩, ⟨by show 0 ≤ mwM l; omega, by show mwM l ≤ 6; omega⟩, ⟨by show 0 ≤ mlM l; unfold mlM; omega, by show mlM l ≤ mwM l; unfold mlM; omega⟩, ?_, ?_, fun c hc => ?_, fun c hc => ?_⟩
  · show (outM l (mwM l).toNat).1.length ≤ 14
    omega
  · show (knM l (nnM l)).1.length ≤ 4
    omega
  · obtain ⟨w, k, a, hw, rfl⟩ := out_mem l c _ hc
    obtain ⟨a1, a2, a3, a4⟩ := cl_ok l w (lieM l w && k == 0) a
    exact ⟨a2, by rw [a1]; exact ⟨Int.natCast_nonneg _, by show (w : Int) < mwM l; omega⟩, a3, a4⟩
  · exact (kn_mem l c _ hc).2
theorem made_told (l : List Int) (w : Nat) (hw : w < (mwM l).toNat) : toldM (madeM l).2.1 (trM l) (w : Int) = !lieM l w := by
  cases hl : lieM l w with
  | true =>
    obtain ⟨a, ha⟩ := out_first l w _ hw
    rw [hl] at ha
    show toldM _ _ _ = false
    unfold toldM
    rw [List.all_eq_false]
    refine ⟨_, ha, ?_⟩
    rw [cl_right, (cl_ok l w _ a).1]; simp
  | false =>
    show toldM _ _ _ = true
    unfold toldM
    rw [List.all_eq_true]
    intro c hc
    obtain ⟨w2, k, a, hw2, rfl⟩ := out_mem l c _ hc
    rw [cl_right, (cl_ok l w2 _ a).1]
    by_cases e : w2 = w
    · subst e; rw [hl]; simp
    · have : ((w2 : Int) == (w : Int)) = false := by simp; omega
      rw [this]; rfl
theorem made_true (l : List Int) : trM l ∈ allH (madeM l) := by
  have h2 := mw_b l
  have htf := tf_b l
  have htl := tl_b l
  have h4 := drawM_lt l 4 (show (0 : Int) < 2 by decide)
  obtain ⟨a, ha⟩ := Int.eq_ofNat_of_zero_le htf.1
  obtain ⟨b, hb⟩ := Int.eq_ofNat_of_zero_le htl.1
  have hbl : b < 2 ^ (mwM l).toNat := by have := htl.2; rw [hb] at this; omega
  have ht : trM l = tM a b := by unfold trM tM; rw [ha, hb]
  refine mem_allM_iff.2 ⟨a, b, by show a < 2 ^ (mfM l).toNat; have := htf.2; rw [ha] at this; omega, hbl, ?_, ht⟩
  rw [← ht]
  have hp := pop_lt (mwM l).toNat b (by omega) hbl
  rw [← hb] at hp
  refine isM_true (x := rtM (madeM l)) ?_ (fun k hk => ?_) fun j hj => ?_
  · show popM (tlM l) ≤ mlM l
    unfold mlM; omega
  · have hk' : k < (mwM l).toNat := hk
    rw [sayM_told (by omega), made_told l k hk']
    show (!(_ && ((!lieM l k) == lieM l k))) = true
    cases lieM l k <;> simp
  · exact (kn_mem l _ _ (getD_mem dfW hj)).1
end AE.Pr

namespace AE.Pr
open Go AE Go.Proofs

def turnCM (f w a b : Int) (c : Cl) : Cl := (Int.tmod (c.1 + b) w, c.2.1, turnWM f w a b c.2.2.1, if c.2.1 = 0 then c.2.2.2 else turnWM f w a b c.2.2.2)
/-- The claims told otherwise, from the last one on. -/
def turnsM (x : HT) (a b : Int) : Nat → List Cl
  | 0 => []
  | i + 1 => turnsM x a b i ++ [turnCM x.1.1 x.1.2.1 a b (x.2.1.getD (x.2.1.length - 1 - i) dfC)]
def dupM (x : HT) (a b : Int) : List Cl := if (x.2.1.length : Int) > 0 then turnsM x a b x.2.1.length ++ [(turnsM x a b x.2.1.length).getD (Int.tmod a x.2.1.length).toNat dfC] else turnsM x a b x.2.1.length
def turnHM (x : HT) (a b : Int) : HT := (x.1, dupM x a b, x.2.2.map (turnWM x.1.1 x.1.2.1 a b))
theorem turns_len (x : HT) (a b : Int) : ∀ i, (turnsM x a b i).length = i
  | 0 => rfl
  | i + 1 => by unfold turnsM; rw [List.length_append, turns_len x a b i]; rfl

/-! ### sets told otherwise -/
def rotN (n a s : Nat) : Nat := (s * 2 ^ a) % 2 ^ n + s / 2 ^ (n - a)
theorem rot_all : ∀ (m : Fin 6) (a : Fin 6) (s : Fin 64), a.val < m.val + 1 → s.val < 2 ^ (m.val + 1) →
    rotN (m.val + 1) a.val s.val < 2 ^ (m.val + 1) ∧ popM ((rotN (m.val + 1) a.val s.val : Nat) : Int) = popM ((s.val : Nat) : Int) ∧
    rotN (m.val + 1) ((m.val + 1 - a.val) % (m.val + 1)) (rotN (m.val + 1) a.val s.val) = s.val ∧
    rotN (m.val + 1) a.val (rotN (m.val + 1) ((m.val + 1 - a.val) % (m.val + 1)) s.val) = s.val := by decide +kernel
theorem rot_bits : ∀ (m : Fin 6) (a : Fin 6) (s : Fin 64) (j : Fin 6), a.val < m.val + 1 → s.val < 2 ^ (m.val + 1) → j.val < m.val + 1 →
    (rotN (m.val + 1) a.val s.val).testBit ((j.val + a.val) % (m.val + 1)) = s.val.testBit j.val := by decide +kernel
theorem rot_full : ∀ (m : Fin 6) (a : Fin 6), a.val < m.val + 1 → rotN (m.val + 1) a.val (2 ^ (m.val + 1) - 1) = 2 ^ (m.val + 1) - 1 := by decide +kernel
section
variable {n a s : Nat}
theorem rot_is (hn : 0 < n ∧ n ≤ 6) (hs : s < 2 ^ n) : rotN n (a % n) s < 2 ^ n ∧ popM ((rotN n (a % n) s : Nat) : Int) = popM (s : Int) ∧ rotN n ((n - a % n) % n) (rotN n (a % n) s) = s ∧ rotN n (a % n) (rotN n ((n - a % n) % n) s) = s := by
  obtain ⟨m, rfl⟩ : ∃ m, n = m + 1 := ⟨n - 1, by omega⟩
  have h1 := Nat.mod_lt a (show 0 < m + 1 by omega)
  have h2 := pow64 (m + 1) hn.2
  exact rot_all ⟨m, by omega⟩ ⟨a % (m + 1), by omega⟩ ⟨s, by omega⟩ h1 hs
theorem rot_bit (hn : 0 < n ∧ n ≤ 6) (hs : s < 2 ^ n) {j : Nat} (hj : j < n) : (rotN n (a % n) s).testBit ((j + a) % n) = s.testBit j := by
  obtain ⟨m, rfl⟩ : ∃ m, n = m + 1 := ⟨n - 1, by omega⟩
  have h1 := Nat.mod_lt a (show 0 < m + 1 by omega)
  have h2 := pow64 (m + 1) hn.2
  have h3 := rot_bits ⟨m, by omega⟩ ⟨a % (m + 1), by omega⟩ ⟨s, by omega⟩ ⟨j, by omega⟩ h1 hs hj
  have h4 : (j + a) % (m + 1) = (j + a % (m + 1)) % (m + 1) := by rw [Nat.add_mod_mod]
  rw [h4]; exact h3
theorem rot_inv (hn : 0 < n ∧ n ≤ 6) (hs : s < 2 ^ n) : rotN n ((n - a % n) % n) s < 2 ^ n := by
  have := (rot_is (a := n - a % n) hn hs).1
  exact this
theorem rot_every (hn : 0 < n ∧ n ≤ 6) : rotN n (a % n) (2 ^ n - 1) = 2 ^ n - 1 := by
  obtain ⟨m, rfl⟩ : ∃ m, n = m + 1 := ⟨n - 1, by omega⟩
  have h1 := Nat.mod_lt a (show 0 < m + 1 by omega)
  exact rot_full ⟨m, by omega⟩ ⟨a % (m + 1), by omega⟩ h1
end
theorem mod_sur {n a k : Nat} (hk : k < n) : ∃ j, j < n ∧ (j + a) % n = k := by
  have hn : 0 < n := by omega
  have h1 := Nat.mod_lt a hn
  refine ⟨(k + (n - a % n)) % n, Nat.mod_lt _ hn, ?_⟩
  rw [Nat.mod_add_mod, ← Nat.add_mod_mod, show k + (n - a % n) + a % n = k + n by omega, Nat.add_mod_right, Nat.mod_eq_of_lt hk]
theorem mod_inj {n a j k : Nat} (hj : j < n) (hk : k < n) (h : (j + a) % n = (k + a) % n) : j = k := by
  have h1 : ((j + a) + (n - a % n)) % n = ((k + a) + (n - a % n)) % n := by rw [← Nat.mod_add_mod, h, Nat.mod_add_mod]
  have h2 : ∀ x, x < n → ((x + a) + (n - a % n)) % n = x := fun x hx => by
    have h3 := Nat.mod_lt a (show 0 < n by omega)
    have h4 : (x + a) + (n - a % n) = x + n + n * (a / n) := by have := Nat.div_add_mod a n; omega
    rw [h4, Nat.add_mul_mod_self_left, Nat.add_mod_right, Nat.mod_eq_of_lt hx]
  rw [h2 j hj, h2 k hk] at h1; exact h1
theorem tmod_nat (j a n : Nat) : Int.tmod ((j : Int) + (a : Int)) (n : Int) = (((j + a) % n : Nat) : Int) := by
  rw [← Int.natCast_add]; rfl

/-! ### a truth told otherwise -/
structure TurnOk (f w : Nat) : Prop where
  f : 0 < f ∧ f ≤ 6
  w : 0 < w ∧ w ≤ 6
section
variable {f w : Nat} {li : Int} {cs : List Cl} {ks : List W3} {a b : Nat}
def rotT (f w a b : Nat) (t : Int × Int) : Int × Int := tM (rotN f (a % f) t.1.toNat) (rotN w (b % w) t.2.toNat)
theorem rotT_tM (s l : Nat) : rotT f w a b (tM s l) = tM (rotN f (a % f) s) (rotN w (b % w) l) := rfl
theorem turn_right (ho : TurnOk f w) {s l : Nat} (hs : s < 2 ^ f) (hl : l < 2 ^ w) {c : W3} (hc : wordM f w c = true) : rightM (tM (rotN f (a % f) s) (rotN w (b % w) l)) (turnWM f w a b c) = rightM (tM s l) c := by
  obtain ⟨p, m, q⟩ := c
  have hf := ho.f
  have hw := ho.w
  unfold wordM inM at hc
  rw [Bool.and_eq_true, decide_eq_true_eq, decide_eq_true_eq] at hc
  obtain ⟨hc1, hc2⟩ := hc
  have hc1' : 0 ≤ m := hc1
  obtain ⟨m, rfl⟩ := Int.eq_ofNat_of_zero_le hc1'
  have e1 : W ((f : Int) - 1) = (f : Int) - 1 := wrap_id (by omega) (by omega)
  have e2 : W ((w : Int) - 1) = (w : Int) - 1 := wrap_id (by omega) (by omega)
  unfold rightM turnWM
  cases p with
  | true =>
    simp only [if_true] at hc2 ⊢
    rw [e2] at hc2
    rw [tmod_nat]
    have : hasM (tM (rotN f (a % f) s) (rotN w (b % w) l)).2 (((m + b) % w : Nat) : Int) = hasM (tM s l).2 (m : Int) := rot_bit hw hl (by omega)
    rw [this]
  | false =>
    simp only [Bool.false_eq_true, if_false] at hc2 ⊢
    rw [e1] at hc2
    rw [tmod_nat]
    have : hasM (tM (rotN f (a % f) s) (rotN w (b % w) l)).1 (((m + a) % f : Nat) : Int) = hasM (tM s l).1 (m : Int) := rot_bit hf hs (by omega)
    rw [this]
theorem turn_word (ho : TurnOk f w) {c : W3} (hc : wordM f w c = true) : wordM f w (turnWM f w a b c) = true := by
  obtain ⟨p, m, q⟩ := c
  have hf := ho.f
  have hw := ho.w
  unfold wordM inM at hc ⊢
  rw [Bool.and_eq_true, decide_eq_true_eq, decide_eq_true_eq] at hc ⊢
  obtain ⟨hc1, hc2⟩ := hc
  have hc1' : 0 ≤ m := hc1
  obtain ⟨m, rfl⟩ := Int.eq_ofNat_of_zero_le hc1'
  have e1 : W ((f : Int) - 1) = (f : Int) - 1 := wrap_id (by omega) (by omega)
  have e2 : W ((w : Int) - 1) = (w : Int) - 1 := wrap_id (by omega) (by omega)
  unfold turnWM
  cases p with
  | true =>
    simp only [if_true]
    rw [tmod_nat, e2]
    have := Nat.mod_lt (m + b) hw.1
    omega
  | false =>
    simp only [Bool.false_eq_true, if_false]
    rw [tmod_nat, e1]
    have := Nat.mod_lt (m + a) hf.1
    omega
theorem turn_claim (ho : TurnOk f w) {s l : Nat} (hs : s < 2 ^ f) (hl : l < 2 ^ w) {c : Cl} (hA : wordM f w c.2.2.1 = true) (hB : c.2.1 ≠ 0 → wordM f w c.2.2.2 = true) :
    claimRM (tM (rotN f (a % f) s) (rotN w (b % w) l)) (turnCM f w a b c) = claimRM (tM s l) c := by
  have h1 := turn_right (a := a) (b := b) ho hs hl hA
  by_cases h0 : c.2.1 = 0
  · simp only [claimRM, claimM, ciM, turnCM, h0, if_true]
    exact h1
  · have h2 := turn_right (a := a) (b := b) ho hs hl (hB h0)
    simp only [claimRM, claimM, ciM, turnCM, h0, if_false, decide_eq_true_eq]
    rw [h1, h2]
theorem mem_turns (x : HT) (a b : Int) (c : Cl) : ∀ i, i ≤ x.2.1.length → (c ∈ turnsM x a b i ↔ ∃ j, x.2.1.length - i ≤ j ∧ j < x.2.1.length ∧ c = turnCM x.1.1 x.1.2.1 a b (x.2.1.getD j dfC))
  | 0, _ => by
    simp only [turnsM, List.not_mem_nil, false_iff]
    rintro ⟨j, h1, h2, _⟩; omega
  | i + 1, hi => by
    unfold turnsM
    rw [List.mem_append, mem_turns x a b c i (by omega), List.mem_singleton]
    constructor
    · rintro (⟨j, h1, h2, h3⟩ | h)
      · exact ⟨j, by omega, h2, h3⟩
      · exact ⟨_, by omega, by omega, h⟩
    · rintro ⟨j, h1, h2, h3⟩
      by_cases he : j = x.2.1.length - 1 - i
      · right; rw [he] at h3; exact h3
      · left; exact ⟨j, by omega, h2, h3⟩
theorem mem_dup (x : HT) {a : Int} (ha : 0 ≤ a) (b : Int) (c : Cl) : c ∈ dupM x a b ↔ ∃ d ∈ x.2.1, c = turnCM x.1.1 x.1.2.1 a b d := by
  have h0 : ∀ c, c ∈ turnsM x a b x.2.1.length ↔ ∃ d ∈ x.2.1, c = turnCM x.1.1 x.1.2.1 a b d := fun c => by
    rw [mem_turns x a b c _ (Nat.le_refl _)]
    constructor
    · rintro ⟨j, _, h2, h3⟩; exact ⟨_, getD_mem dfC h2, h3⟩
    · rintro ⟨d, hd, h3⟩
      obtain ⟨j, h1, h2⟩ := (mem_take_getD x.2.1 x.2.1.length dfC d (Nat.le_refl _)).1 (by rw [List.take_length]; exact hd)
      exact ⟨j, by omega, h1, by rw [h2]; exact h3⟩
  unfold dupM
  split
  · rename_i hp
    rw [List.mem_append, h0, List.mem_singleton]
    constructor
    · rintro (h | h)
      · exact h
      · rw [← h0, h]
        refine getD_mem dfC ?_
        rw [turns_len]
        obtain ⟨a, rfl⟩ := Int.eq_ofNat_of_zero_le ha
        have : Int.tmod (a : Int) (x.2.1.length : Int) = ((a % x.2.1.length : Nat) : Int) := rfl
        rw [this]
        have := Nat.mod_lt a (show 0 < x.2.1.length by omega)
        omega
    · exact .inl
  · exact h0 c
theorem turn_told (hk : HearOk (((f : Int), (w : Int), li), cs, ks)) (ho : TurnOk f w) {s l k : Nat} (hs : s < 2 ^ f) (hl : l < 2 ^ w) (hkw : k < w) :
    toldM (dupM (((f : Int), (w : Int), li), cs, ks) a b) (tM (rotN f (a % f) s) (rotN w (b % w) l)) (((k + b) % w : Nat) : Int) = toldM cs (tM s l) (k : Int) := by
  unfold toldM
  rw [Bool.eq_iff_iff, List.all_eq_true, List.all_eq_true]
  have key : ∀ d ∈ cs, (!((turnCM f w a b d).1 == (((k + b) % w : Nat) : Int) && !claimRM (tM (rotN f (a % f) s) (rotN w (b % w) l)) (turnCM f w a b d))) = !(d.1 == (k : Int) && !claimRM (tM s l) d) := fun d hd => by
    obtain ⟨_, hc1, hA, hB⟩ := hk.claims d hd
    rw [turn_claim ho hs hl hA hB]
    have hc1' : 0 ≤ d.1 ∧ d.1 < (w : Int) := hc1
    obtain ⟨m, hm⟩ := Int.eq_ofNat_of_zero_le hc1'.1
    have e : (turnCM f w a b d).1 = (((m + b) % w : Nat) : Int) := by
      show Int.tmod (d.1 + b) w = _
      rw [hm]; exact tmod_nat m b w
    have e2 : ((turnCM f w a b d).1 == (((k + b) % w : Nat) : Int)) = (d.1 == (k : Int)) := by
      rw [e, hm, Bool.eq_iff_iff, beq_iff_eq, beq_iff_eq]
      constructor
      · intro h
        have := mod_inj (n := w) (a := b) (j := m) (k := k) (by omega) hkw (by omega)
        rw [this]
      · intro h
        have : m = k := by have h' : (m : Int) = (k : Int) := h; omega
        rw [this]
    rw [e2]
  constructor
  · intro h d hd
    rw [← key d hd]
    exact h _ ((mem_dup (((f : Int), (w : Int), li), cs, ks) (Int.natCast_nonneg a) b _).2 ⟨d, hd, rfl⟩)
  · intro h c hc
    obtain ⟨d, hd, rfl⟩ := (mem_dup (((f : Int), (w : Int), li), cs, ks) (Int.natCast_nonneg a) b _).1 hc
    have := h d hd
    rw [← key d hd] at this
    exact this
theorem turn_isM (hk : HearOk (((f : Int), (w : Int), li), cs, ks)) (ho : TurnOk f w) {s l h : Nat} (hs : s < 2 ^ f) (hl : l < 2 ^ w) (hh : h < 2 ^ w) :
    isM (rtM (turnHM (((f : Int), (w : Int), li), cs, ks) a b)) ((rotN w (b % w) h : Nat) : Int) (tM (rotN f (a % f) s) (rotN w (b % w) l)) = isM (rtM (((f : Int), (w : Int), li), cs, ks)) (h : Int) (tM s l) := by
  have hw := ho.w
  unfold isM
  have e0 : popM (tM (rotN f (a % f) s) (rotN w (b % w) l)).2 = popM (tM s l).2 := (rot_is hw hl).2.1
  have e1 : ((rtM (turnHM (((f : Int), (w : Int), li), cs, ks) a b)).2.1.all (rightM (tM (rotN f (a % f) s) (rotN w (b % w) l)))) = ((rtM (((f : Int), (w : Int), li), cs, ks)).2.1.all (rightM (tM s l))) := by
    show (ks.map (turnWM (f : Int) (w : Int) a b)).all _ = ks.all _
    rw [List.all_map, Bool.eq_iff_iff, List.all_eq_true, List.all_eq_true]
    constructor
    · intro h c hc; rw [← turn_right (a := a) (b := b) ho hs hl (hk.known c hc)]; exact h c hc
    · intro h c hc
      show rightM _ (turnWM (f : Int) (w : Int) a b c) = true
      rw [turn_right (a := a) (b := b) ho hs hl (hk.known c hc)]; exact h c hc
  have key : ∀ k, k < w → sayM (rtM (turnHM (((f : Int), (w : Int), li), cs, ks) a b)) ((rotN w (b % w) h : Nat) : Int) (tM (rotN f (a % f) s) (rotN w (b % w) l)) ((k + b) % w) = sayM (rtM (((f : Int), (w : Int), li), cs, ks)) (h : Int) (tM s l) k := fun k hkw => by
    have hk2 := Nat.mod_lt (k + b) hw.1
    rw [sayM_told (by omega), sayM_told (by omega)]
    have t1 : toldM (turnHM (((f : Int), (w : Int), li), cs, ks) a b).2.1 (tM (rotN f (a % f) s) (rotN w (b % w) l)) (((k + b) % w : Nat) : Int) = toldM cs (tM s l) (k : Int) := turn_told hk ho hs hl hkw
    have t2 : hasM ((rotN w (b % w) h : Nat) : Int) (((k + b) % w : Nat) : Int) = hasM (h : Int) (k : Int) := rot_bit hw hh hkw
    have t3 : hasM (tM (rotN f (a % f) s) (rotN w (b % w) l)).2 (((k + b) % w : Nat) : Int) = hasM (tM s l).2 (k : Int) := rot_bit hw hl hkw
    rw [t1, t2, t3]
  have e2 : ((List.range (rtM (turnHM (((f : Int), (w : Int), li), cs, ks) a b)).1.2.1.toNat).all (sayM (rtM (turnHM (((f : Int), (w : Int), li), cs, ks) a b)) ((rotN w (b % w) h : Nat) : Int) (tM (rotN f (a % f) s) (rotN w (b % w) l)))) = ((List.range (rtM (((f : Int), (w : Int), li), cs, ks)).1.2.1.toNat).all (sayM (rtM (((f : Int), (w : Int), li), cs, ks)) (h : Int) (tM s l))) := by
    show (List.range w).all _ = (List.range w).all _
    rw [Bool.eq_iff_iff, List.all_eq_true, List.all_eq_true]
    constructor
    · intro hA k hk2
      rw [← key k (List.mem_range.1 hk2)]
      exact hA _ (List.mem_range.2 (Nat.mod_lt _ hw.1))
    · intro hA k hk2
      obtain ⟨j, hj, rfl⟩ := mod_sur (a := b) (List.mem_range.1 hk2)
      rw [key j hj]
      exact hA _ (List.mem_range.2 hj)
  rw [e0, e1, e2]; rfl
theorem nodup_all (x : RT) (hd : Int) : (allM x hd).Nodup := (allM_sorted x hd).imp fun {t u} h e => by
  subst e
  rcases h with h | ⟨_, h⟩
  · exact absurd h (by omega)
  · exact absurd h (by omega)
theorem turn_perm (hk : HearOk (((f : Int), (w : Int), li), cs, ks)) (ho : TurnOk f w) {h : Nat} (hh : h < 2 ^ w) :
    (allM (rtM (turnHM (((f : Int), (w : Int), li), cs, ks) a b)) ((rotN w (b % w) h : Nat) : Int)).Perm ((allM (rtM (((f : Int), (w : Int), li), cs, ks)) (h : Int)).map (rotT f w a b)) := by
  have hf := ho.f
  have hw := ho.w
  have hnd : ((allM (rtM (((f : Int), (w : Int), li), cs, ks)) (h : Int)).map (rotT f w a b)).Nodup := by
    unfold List.Nodup
    rw [List.pairwise_map]
    refine List.Pairwise.imp_of_mem ?_ (nodup_all (rtM (((f : Int), (w : Int), li), cs, ks)) (h : Int))
    intro t u ht hu hne he
    obtain ⟨s1, l1, hs1, hl1, _, rfl⟩ := mem_allM_iff.1 ht
    obtain ⟨s2, l2, hs2, hl2, _, rfl⟩ := mem_allM_iff.1 hu
    have hs1' : s1 < 2 ^ f := hs1
    have hs2' : s2 < 2 ^ f := hs2
    have hl1' : l1 < 2 ^ w := hl1
    have hl2' : l2 < 2 ^ w := hl2
    rw [rotT_tM, rotT_tM] at he
    unfold tM at he
    rw [Prod.mk.injEq] at he
    have g1 : rotN f (a % f) s1 = rotN f (a % f) s2 := by omega
    have g2 : rotN w (b % w) l1 = rotN w (b % w) l2 := by omega
    have k1 := (rot_is (a := a) hf hs1').2.2.1
    have k2 := (rot_is (a := a) hf hs2').2.2.1
    have k3 := (rot_is (a := b) hw hl1').2.2.1
    have k4 := (rot_is (a := b) hw hl2').2.2.1
    rw [g1] at k1
    rw [g2] at k3
    exact hne (by rw [k1.symm.trans k2, k3.symm.trans k4])
  rw [List.perm_ext_iff_of_nodup (nodup_all _ _) hnd]
  intro t
  rw [List.mem_map]
  constructor
  · intro ht
    obtain ⟨s', l', hs', hl', hi, rfl⟩ := mem_allM_iff.1 ht
    have hs2 : s' < 2 ^ f := hs'
    have hl2 : l' < 2 ^ w := hl'
    have p1 := rot_inv (a := a) hf hs2
    have p2 := rot_inv (a := b) hw hl2
    have q1 := (rot_is (a := a) hf hs2).2.2.2
    have q2 := (rot_is (a := b) hw hl2).2.2.2
    refine ⟨tM (rotN f ((f - a % f) % f) s') (rotN w ((w - b % w) % w) l'), mem_allM_iff.2 ⟨_, _, p1, p2, ?_, rfl⟩, by rw [rotT_tM, q1, q2]⟩
    rw [← turn_isM (a := a) (b := b) hk ho p1 p2 hh, q1, q2]
    exact hi
  · rintro ⟨u, hu, rfl⟩
    obtain ⟨s, l, hs, hl, hi, rfl⟩ := mem_allM_iff.1 hu
    rw [rotT_tM]
    refine mem_allM_iff.2 ⟨_, _, (rot_is (a := a) hf hs).1, (rot_is (a := b) hw hl).1, ?_, rfl⟩
    rw [turn_isM hk ho hs hl hh]; exact hi
end

/-! ### what is told of it -/
theorem turn_hear {x : HT} {a b : Nat} (hk : HearOk x) (hf : 0 < x.1.1) (hw : 0 < x.1.2.1) (hn : x.2.1.length ≤ 13) : HearOk (turnHM x a b) := by
  obtain ⟨⟨f, w, li⟩, cs, ks⟩ := x
  have hf6 : 0 ≤ f ∧ f ≤ 6 := hk.f
  have hw6 : 0 ≤ w ∧ w ≤ 6 := hk.w
  obtain ⟨f, rfl⟩ := Int.eq_ofNat_of_zero_le hf6.1
  obtain ⟨w, rfl⟩ := Int.eq_ofNat_of_zero_le hw6.1
  have hf' : 0 < (f : Int) := hf
  have hw' : 0 < (w : Int) := hw
  have ho : TurnOk f w := ⟨⟨by omega, by omega⟩, by omega, by omega⟩
  refine ⟨hk.f, hk.w, hk.l, ?_, by show (ks.map _).length ≤ 4; rw [List.length_map]; exact hk.ks, fun c hc => ?_, fun c hc => ?_⟩
  · show (dupM (((f : Int), (w : Int), li), cs, ks) a b).length ≤ 14
    have hn' : cs.length ≤ 13 := hn
    unfold dupM
    split
    · rw [List.length_append, turns_len]; show cs.length + 1 ≤ 14; omega
    · rw [turns_len]; show cs.length ≤ 14; omega
  · obtain ⟨d, hd, rfl⟩ := (mem_dup (((f : Int), (w : Int), li), cs, ks) (Int.natCast_nonneg a) b c).1 hc
    obtain ⟨a1, a2, a3, a4⟩ := hk.claims d hd
    have a2' : 0 ≤ d.1 ∧ d.1 < (w : Int) := a2
    obtain ⟨m, hm⟩ := Int.eq_ofNat_of_zero_le a2'.1
    refine ⟨a1, ?_, turn_word ho a3, fun h0 => ?_⟩
    · show 0 ≤ Int.tmod (d.1 + b) w ∧ Int.tmod (d.1 + b) w < (w : Int)
      rw [hm, tmod_nat]
      have := Nat.mod_lt (m + b) ho.w.1
      omega
    · have h0' : d.2.1 ≠ 0 := h0
      show wordM (f : Int) (w : Int) (if d.2.1 = 0 then d.2.2.2 else turnWM f w a b d.2.2.2) = true
      rw [if_neg h0']
      exact turn_word ho (a4 h0')
  · have hc' : c ∈ ks.map (turnWM (f : Int) (w : Int) a b) := hc
    obtain ⟨d, hd, rfl⟩ := List.mem_map.1 hc'
    exact turn_word ho (hk.known d hd)
theorem perm_verdict {A B : List (Int × Int)} {w w' : W3} {g : Int × Int → Int × Int} (hp : B.Perm (A.map g)) (h : ∀ t ∈ A, rightM (g t) w' = rightM t w) : verdictM B w' = verdictM A w := by
  have e1 : wrongsM B w' = wrongsM A w := by
    unfold wrongsM
    rw [Bool.eq_iff_iff, List.any_eq_true, List.any_eq_true]
    constructor
    · rintro ⟨t, ht, h1⟩
      obtain ⟨u, hu, rfl⟩ := List.mem_map.1 (hp.mem_iff.1 ht)
      rw [h u hu] at h1; exact ⟨u, hu, h1⟩
    · rintro ⟨u, hu, h1⟩
      exact ⟨g u, hp.mem_iff.2 (List.mem_map.2 ⟨u, hu, rfl⟩), by rw [h u hu]; exact h1⟩
  have e2 : rightsM B w' = rightsM A w := by
    unfold rightsM
    rw [Bool.eq_iff_iff, List.any_eq_true, List.any_eq_true]
    constructor
    · rintro ⟨t, ht, h1⟩
      obtain ⟨u, hu, rfl⟩ := List.mem_map.1 (hp.mem_iff.1 ht)
      rw [h u hu] at h1; exact ⟨u, hu, h1⟩
    · rintro ⟨u, hu, h1⟩
      exact ⟨g u, hp.mem_iff.2 (List.mem_map.2 ⟨u, hu, rfl⟩), by rw [h u hu]; exact h1⟩
  unfold verdictM
  rw [e1, e2]
theorem perm_all {A B : List (Int × Int)} {w w' : W3} {g : Int × Int → Int × Int} (hp : B.Perm (A.map g)) (h : ∀ t ∈ A, rightM (g t) w' = rightM t w) : (B.all fun t => rightM t w') = A.all fun t => rightM t w := by
  rw [Bool.eq_iff_iff, List.all_eq_true, List.all_eq_true]
  constructor
  · intro hA u hu
    rw [← h u hu]; exact hA _ (hp.mem_iff.2 (List.mem_map.2 ⟨u, hu, rfl⟩))
  · intro hA t ht
    obtain ⟨u, hu, rfl⟩ := List.mem_map.1 (hp.mem_iff.1 ht)
    rw [h u hu]; exact hA u hu
theorem perm_span {A B : List (Int × Int)} {g : Int × Int → Int × Int} (hp : B.Perm (A.map g)) (h : ∀ t ∈ A, popM (g t).2 = popM t.2) (hA : 0 < A.length) : spanM B = spanM A := by
  have hB : 0 < B.length := by rw [hp.length_eq, List.length_map]; exact hA
  obtain ⟨a1, ⟨ta, hta, ea⟩, ua, hua, fa⟩ := span_is hA
  obtain ⟨b1, ⟨tb, htb, eb⟩, ub, hub, fb⟩ := span_is hB
  obtain ⟨vb, hvb, rfl⟩ := List.mem_map.1 (hp.mem_iff.1 htb)
  obtain ⟨wb, hwb, rfl⟩ := List.mem_map.1 (hp.mem_iff.1 hub)
  have h1 := a1 vb hvb
  have h2 := a1 wb hwb
  have h3 := b1 (g ta) (hp.mem_iff.2 (List.mem_map.2 ⟨ta, hta, rfl⟩))
  have h4 := b1 (g ua) (hp.mem_iff.2 (List.mem_map.2 ⟨ua, hua, rfl⟩))
  rw [h _ hvb] at eb
  rw [h _ hwb] at fb
  rw [h _ hta] at h3
  rw [h _ hua] at h4
  exact Prod.ext (by omega) (by omega)
theorem best_turn {n a : Nat} (hn : 0 < n ∧ n ≤ 6) {S S' : Int → Bool} (h : ∀ s : Nat, s < 2 ^ n → S' ((rotN n (a % n) s : Nat) : Int) = S (s : Int)) :
    (bestM n S').2 = (bestM n S).2 ∧ popM (bestM n S').1 = popM (bestM n S).1 := by
  have h1 := search_best n hn.2 S
  have h2 := search_best n hn.2 S'
  have h' : ∀ s : Nat, s < 2 ^ n → S (((rotN n ((n - a % n) % n) s : Nat)) : Int) = S' (s : Int) := fun s hs => by
    rw [← h _ (rot_inv hn hs), (rot_is (a := a) hn hs).2.2.2]
  unfold bestM
  cases e1 : searchM n S with
  | none =>
    rw [e1] at h1
    cases e2 : searchM n S' with
    | none => exact ⟨rfl, rfl⟩
    | some s =>
      rw [e2] at h2
      have := h1 _ (rot_inv (a := a) hn h2.1)
      rw [h' s h2.1, h2.2.1] at this; cases this
  | some r =>
    rw [e1] at h1
    cases e2 : searchM n S' with
    | none =>
      rw [e2] at h2
      have := h2 _ (rot_is (a := a) hn h1.1).1
      rw [h r h1.1, h1.2.1] at this; cases this
    | some s =>
      rw [e2] at h2
      refine ⟨rfl, ?_⟩
      show popM (s : Int) = popM (r : Int)
      have g1 := h1.2.2 _ (rot_inv (a := a) hn h2.1) (by rw [h' s h2.1]; exact h2.2.1)
      have g2 := h2.2.2 _ (rot_is (a := a) hn h1.1).1 (by rw [h r h1.1]; exact h1.2.1)
      have p1 := (rot_is (a := a) hn h1.1).2.1
      have p2 := (rot_is (a := n - a % n) hn h2.1).2.1
      rw [p1] at g2
      rw [p2] at g1
      omega
/-- All that the law asks of a hearing told otherwise. -/
structure Turned (x y : HT) : Prop where
  hear : hearM y = true
  count : countM y = countM x
  liars : liarsM y = liarsM x
  clash : (clashHM y).2 = (clashHM x).2 ∧ popM (clashHM y).1 = popM (clashHM x).1
structure TurnedW (x y : HT) (w w' : W3) : Prop where
  rule : ruleM y w' = ruleM x w
  proof : (proofM y w').2 = (proofM x w).2 ∧ popM (proofM y w').1 = popM (proofM x w).1
theorem every_nat (n : Nat) (hn : n ≤ 6) : everyM n = ((2 ^ n - 1 : Nat) : Int) := by
  have := Nat.pow_pos (n := n) (show 0 < 2 by decide)
  rw [everyP n hn]; omega
section
variable {f w : Nat} {li : Int} {cs : List Cl} {ks : List W3} {a b : Nat}
theorem turn_allH (hk : HearOk (((f : Int), (w : Int), li), cs, ks)) (ho : TurnOk f w) : (allH (turnHM (((f : Int), (w : Int), li), cs, ks) a b)).Perm ((allH (((f : Int), (w : Int), li), cs, ks)).map (rotT f w a b)) := by
  have hw := ho.w
  have hpw := Nat.pow_pos (n := w) (show 0 < 2 by decide)
  have := turn_perm (a := a) (b := b) hk ho (h := 2 ^ w - 1) (by omega)
  rw [rot_every hw, ← every_nat w hw.2] at this
  exact this
theorem turn_pop (ho : TurnOk f w) {x : RT} {h : Int} (hx1 : x.1.1.toNat = f) (hx2 : x.1.2.1.toNat = w) : ∀ t ∈ allM x h, popM (rotT f w a b t).2 = popM t.2 := fun t ht => by
  obtain ⟨s, l, _, hl, _, rfl⟩ := mem_allM_iff.1 ht
  rw [hx2] at hl
  exact (rot_is ho.w hl).2.1
theorem turn_rights (ho : TurnOk f w) {x : RT} {h : Int} (hx1 : x.1.1.toNat = f) (hx2 : x.1.2.1.toNat = w) {c : W3} (hc : wordM f w c = true) : ∀ t ∈ allM x h, rightM (rotT f w a b t) (turnWM f w a b c) = rightM t c := fun t ht => by
  obtain ⟨s, l, hs, hl, _, rfl⟩ := mem_allM_iff.1 ht
  rw [hx1] at hs
  rw [hx2] at hl
  exact turn_right ho hs hl hc
theorem turned (hk : HearOk (((f : Int), (w : Int), li), cs, ks)) (ho : TurnOk f w) (hn : cs.length ≤ 13) : Turned (((f : Int), (w : Int), li), cs, ks) (turnHM (((f : Int), (w : Int), li), cs, ks) a b) := by
  have hf0 : 0 < (f : Int) := by have := ho.f; omega
  have hw0 : 0 < (w : Int) := by have := ho.w; omega
  have hx := hear_of hk
  have hy := hear_of (turn_hear (a := a) (b := b) hk hf0 hw0 hn)
  have hp := turn_allH (a := a) (b := b) hk ho
  have hlen : (allH (turnHM (((f : Int), (w : Int), li), cs, ks) a b)).length = (allH (((f : Int), (w : Int), li), cs, ks)).length := by rw [hp.length_eq, List.length_map]
  have hpop := turn_pop (a := a) (b := b) (x := rtM (((f : Int), (w : Int), li), cs, ks)) (h := everyH (((f : Int), (w : Int), li), cs, ks)) ho rfl rfl
  refine ⟨hy, by rw [count_some hx, count_some hy, hlen], ?_, ?_⟩
  · rw [liars_some hx, liars_some hy, hlen]
    by_cases hA : ((allH (((f : Int), (w : Int), li), cs, ks)).length : Int) > 0
    · rw [if_pos hA, if_pos hA, perm_span hp hpop (by omega)]
    · rw [if_neg hA, if_neg hA]
  · have hcl : ∀ h : Nat, h < 2 ^ w → clashM (rtM (turnHM (((f : Int), (w : Int), li), cs, ks) a b)) ((rotN w (b % w) h : Nat) : Int) = clashM (rtM (((f : Int), (w : Int), li), cs, ks)) (h : Int) := fun h hh => by
      have hq := turn_perm (a := a) (b := b) hk ho hh
      unfold clashM
      have := hq.length_eq
      rw [List.length_map] at this
      generalize allM (rtM (turnHM (((f : Int), (w : Int), li), cs, ks) a b)) ((rotN w (b % w) h : Nat) : Int) = B at *
      generalize allM (rtM (((f : Int), (w : Int), li), cs, ks)) (h : Int) = A at *
      cases A <;> cases B <;> simp_all
    have hpw := Nat.pow_pos (n := w) (show 0 < 2 by decide)
    have hev := hcl (2 ^ w - 1) (by omega)
    rw [rot_every ho.w, ← every_nat w ho.w.2] at hev
    have hev' : clashM (rtM (turnHM (((f : Int), (w : Int), li), cs, ks) a b)) (everyH (turnHM (((f : Int), (w : Int), li), cs, ks) a b)) = clashM (rtM (((f : Int), (w : Int), li), cs, ks)) (everyH (((f : Int), (w : Int), li), cs, ks)) := hev
    obtain ⟨b1, b2⟩ := best_turn (a := b) ho.w (S := fun s => clashM (rtM (((f : Int), (w : Int), li), cs, ks)) s) (S' := fun s => clashM (rtM (turnHM (((f : Int), (w : Int), li), cs, ks) a b)) s) hcl
    unfold clashHM
    rw [hx, hy, hev']
    cases clashM (rtM (((f : Int), (w : Int), li), cs, ks)) (everyH (((f : Int), (w : Int), li), cs, ks)) with
    | true => exact ⟨rfl, b2⟩
    | false => exact ⟨rfl, rfl⟩
theorem turnedW (hk : HearOk (((f : Int), (w : Int), li), cs, ks)) (ho : TurnOk f w) (hn : cs.length ≤ 13) {c : W3} (hc : wordM f w c = true) :
    TurnedW (((f : Int), (w : Int), li), cs, ks) (turnHM (((f : Int), (w : Int), li), cs, ks) a b) c (turnWM f w a b c) := by
  have hf0 : 0 < (f : Int) := by have := ho.f; omega
  have hw0 : 0 < (w : Int) := by have := ho.w; omega
  have hx := hear_of hk
  have hy := hear_of (turn_hear (a := a) (b := b) hk hf0 hw0 hn)
  have hp := turn_allH (a := a) (b := b) hk ho
  have hlen : (allH (turnHM (((f : Int), (w : Int), li), cs, ks) a b)).length = (allH (((f : Int), (w : Int), li), cs, ks)).length := by rw [hp.length_eq, List.length_map]
  have hr := turn_rights (a := a) (b := b) (x := rtM (((f : Int), (w : Int), li), cs, ks)) (h := everyH (((f : Int), (w : Int), li), cs, ks)) ho rfl rfl hc
  have hc2 : wordM (turnHM (((f : Int), (w : Int), li), cs, ks) a b).1.1 (turnHM (((f : Int), (w : Int), li), cs, ks) a b).1.2.1 (turnWM f w a b c) = true := turn_word ho hc
  have hc3 : wordM (((((f : Int), (w : Int), li), cs, ks) : HT)).1.1 (((((f : Int), (w : Int), li), cs, ks) : HT)).1.2.1 c = true := hc
  refine ⟨?_, ?_⟩
  · rw [rule_some hx, rule_some hy, hc2, hc3, hlen, if_pos rfl, if_pos rfl, perm_verdict hp hr]
  · have hpr : ∀ h : Nat, h < 2 ^ w → proveM (rtM (turnHM (((f : Int), (w : Int), li), cs, ks) a b)) ((rotN w (b % w) h : Nat) : Int) (turnWM f w a b c) = proveM (rtM (((f : Int), (w : Int), li), cs, ks)) (h : Int) c := fun h hh => by
      have hq := turn_perm (a := a) (b := b) hk ho hh
      have hr' := turn_rights (a := a) (b := b) (x := rtM (((f : Int), (w : Int), li), cs, ks)) (h := (h : Int)) ho rfl rfl hc
      unfold proveM
      rw [perm_all hq hr']
      have := hq.length_eq
      rw [List.length_map] at this
      generalize allM (rtM (turnHM (((f : Int), (w : Int), li), cs, ks) a b)) ((rotN w (b % w) h : Nat) : Int) = B at *
      generalize allM (rtM (((f : Int), (w : Int), li), cs, ks)) (h : Int) = A at *
      have : B.isEmpty = A.isEmpty := by cases A <;> cases B <;> simp_all
      rw [this]
    obtain ⟨b1, b2⟩ := best_turn (a := b) ho.w (S := fun s => proveM (rtM (((f : Int), (w : Int), li), cs, ks)) s c) (S' := fun s => proveM (rtM (turnHM (((f : Int), (w : Int), li), cs, ks) a b)) s (turnWM f w a b c)) hpr
    unfold proofM
    rw [hx, hy, hc2, hc3]
    have b1' : (bestM (turnHM (((f : Int), (w : Int), li), cs, ks) a b).1.2.1.toNat fun s => proveM (rtM (turnHM (((f : Int), (w : Int), li), cs, ks) a b)) s (turnWM f w a b c)).2 = (bestM ((((((f : Int), (w : Int), li), cs, ks) : HT)).1.2.1.toNat) fun s => proveM (rtM (((f : Int), (w : Int), li), cs, ks)) s c).2 := b1
    rw [b1']
    simp only [Bool.and_true, if_true]
    split
    · exact ⟨rfl, b2⟩
    · exact ⟨rfl, rfl⟩
end
theorem clash_range (x : HT) (hk : HearOk x) : 0 ≤ (clashHM x).1 ∧ (clashHM x).1 < 64 := by
  unfold clashHM
  rw [hear_of hk]
  simp only [if_true]
  split
  · exact best_range _ (by have := hk.w; omega) _
  · exact ⟨Int.le_refl _, by decide⟩
theorem proof_range (x : HT) (w : W3) (hk : HearOk x) : 0 ≤ (proofM x w).1 ∧ (proofM x w).1 < 64 := by
  unfold proofM
  split
  · split
    · exact best_range _ (by have := hk.w; omega) _
    · exact ⟨Int.le_refl _, by show (0 : Int) < 64; decide⟩
  · exact ⟨Int.le_refl _, by show (0 : Int) < 64; decide⟩
end AE.Pr

namespace AE.Pr
open Go AE Go.Proofs

def TlawU : Tab UU := [(12, heavyS.con), (13, aliveS.con), (14, countS.con), (20, ruleS.con), (22, liarsS.con), (26, proofS.con), (28, clashFS.con), (30, notS.con), (36, sizeRS.con), (39, isHearingS.con), (42, isWordS.con), (46, turnS.con)]
theorem TlawU_ok : TlawU.Sound Try.prog := .cons heavy_sound (.cons alive_sound (.cons count_sound (.cons rule_sound (.cons liars_sound (.cons proof_sound (.cons clashF_sound (.cons not_sound (.cons sizeR_sound (.cons hearR_sound (.cons wordR_sound (.cons turn_sound .nil)))))))))))
def turnF : Fr := [(4, .ptr 2 0 0 0), (5, .ptr 3 0 0 0), (6, .ptr 4 0 0 0), (7, .ptr 5 0 0 0), (9, .fn (.func 46) [] [.ptr 5 0 0 0, .ptr 2 0 0 0, .ptr 4 0 0 0]), (10, .ptr 6 0 0 0)]
def turnHp (x : HT) (w : W3) (a b : Int) (d : AV) (l : List Cl) : Heap UU := hH x ++ [.one (.cells [.i x.1.1, .i x.1.2.1, .i x.1.2.2, .sl 0 0 0 x.2.1.length, .sl 1 0 0 x.2.2.length] 25), .one (.cells [.b w.1, .i w.2.1, .b w.2.2] 27), .one (.cells [.v (.int .u8 a)] 5), .one (.cells [.v (.int .u8 b)] 5),
  .one (.cells [.i x.1.1, .i x.1.2.1, .i x.1.2.2, .gs 7 0, d] 25), .one (.row .claim l 67)]
def turnL1 (x : HT) (w : W3) (a b : Int) : LSpec UU where
  T := { i : Nat // i ≤ x.2.1.length }
  fr := fun i => turnF ++ [(73, .i x.2.1.length), (74, .i i.1)]
  H := fun i => turnHp x w a b (.v (.slice none 0 0)) (turnsM x a b i.1)
  mu := fun i => x.2.1.length - i.1
def turnL2 (x : HT) (w : W3) (a b : Int) : LSpec UU where
  T := { i : Nat // i ≤ x.2.2.length }
  fr := fun i => turnF ++ [(135, .sl 1 0 0 x.2.2.length), (136, .i x.2.2.length), (137, .i i.1)]
  H := fun i => turnHp x w a b (.gs 8 0) (dupM x a b) ++ [.one (.row .word ((x.2.2.take i.1).map (turnWM x.1.1 x.1.2.1 a b)) 27)]
  mu := fun i => x.2.2.length - i.1
def turnHq (x : HT) (w : W3) (a b : Int) : Heap UU := turnHp x w a b (.gs 8 0) (dupM x a b) ++ [.one (.row .word (x.2.2.map (turnWM x.1.1 x.1.2.1 a b)) 27), .none, .one (.row .claim x.2.1 67), .none, .one (.row .word x.2.2 27)]
def turnL3 (x : HT) (w : W3) (a b : Int) : LSpec UU where
  T := { i : Nat // i ≤ x.2.1.length }
  fr := fun i => turnF ++ [(16, .gs 10 0), (17, .gs 12 0), (30, .fn (.func 36) [] []), (229, .i x.2.1.length), (230, .i i.1)]
  H := fun _ => turnHq x w a b
  mu := fun i => x.2.1.length - i.1
def turnL4 (x : HT) (w : W3) (a b : Int) : LSpec UU where
  T := { i : Nat // i ≤ x.2.2.length }
  fr := fun i => turnF ++ [(17, .gs 12 0), (30, .fn (.func 36) [] []), (245, .i x.2.2.length), (246, .i i.1)]
  H := fun _ => turnHq x w a b
  mu := fun i => x.2.2.length - i.1
def turnLs (x : HT) (w : W3) (a b : Int) (k : Nat) : Option (LRule UU) :=
  match k with
  | 7 => some (.inv (turnL1 x w a b))
  | 20 => some (.inv (turnL2 x w a b))
  | 35 => some (.inv (turnL3 x w a b))
  | 41 => some (.inv (turnL4 x w a b))
  | _ => none
def lawUS : FSpec UU where
  X := HT × W3 × Int × Int
  pick := fun args H => match args with
    | [a, b, .v (.int .u8 c), .v (.int .u8 d)] => match avH H a, avW b with
      | some a, some b => some (a, b, c, d)
      | _, _ => none
    | _ => none
  args := fun x => [vH x.1, vW x.2.1, .v (.int .u8 x.2.2.1), .v (.int .u8 x.2.2.2)]
  H := fun x => hH x.1
  R := fun _ => .val ⟨.b true, [], [], []⟩
  pre := fun x => bigH x.1 ∧ (0 ≤ x.2.2.1 ∧ x.2.2.1 ≤ 255) ∧ (0 ≤ x.2.2.2 ∧ x.2.2.2 ≤ 255)
set_option maxHeartbeats 0 in
set_option maxRecDepth 100000 in
theorem lawU_ok : ∀ x, lawUS.pre x → FunOk Try.prog 11 (lawUS.args x) (lawUS.H x) (lawUS.R x) := by
  rintro ⟨⟨⟨f, w, li⟩, cs, ks⟩, ⟨p, n, q⟩, a, b⟩ hl
  refine fun_of (T := TlawU) (L := turnLs ((f, w, li), cs, ks) (p, n, q) a b) (hs := fun _ => []) hmix TlawU_ok Try.func11 (by kernel_rfl) (by kernel_rfl) ?_
  refine Eq.mp (α :=
      let Z0 := True ∧ True; let Z1 := Value.bool p; let Z2 := Value.bool q; let Z3 : Option Addr := none; let Z4 := List.length cs; let Z5 := List.length ks; let Z6 := Value.bool true; let Z7 := nat_lit 0 = nat_lit 0 ∧ True; let Z8 := (w, li); let Z9 := Value.bool false; let Z10 := (n, q); let Z11 := Value.int IntKind.u8 b; let Z12 := Value.int IntKind.u8 a; let Z13 := nat_lit 1 ≤ nat_lit 1; let Z14 := Value.int IntKind.i64 li; let Z15 := Value.int IntKind.i64 f; let Z16 := Value.int IntKind.i64 w; let Z17 := True ∧ Z0; let Z18 := Value.int IntKind.i64 n; let Z19 := Value.bool !q; let Z20 := IntKind.wrap IntKind.i64 b; let Z21 := IntKind.wrap IntKind.i64 a; let Z22 := nat_lit 0 = nat_lit 0 ∧ nat_lit 0 = nat_lit 0; let Z23 := (5 : Int); let Z24 := (6 : Int); let Z25 := (0 : Int); let Z26 := (1 : Int); let Z27 : List (Bool × Int × Bool) := []; let Z28 := (2 : Int); let Z29 := True ∧ Z7; let Z30 : List (Int × Int × W3 × W3) := []; let Z31 := (n, !q); let Z32 := (14 : Int); let Z33 := (64 : Int); let Z34 := (1 : Nat); let Z35 := Value.slice Z3 (nat_lit 0) (nat_lit 0); let Z36 := (0 : Nat); let Z37 := True ∧ Z17; let Z38 := (255 : Int); let Z39 : Option (List AV) := some []; let Z40 : List (Bool × Int × Bool) := List.drop (nat_lit 0) ks; let Z41 := List.length ks; let Z42 : List (Int × Int × W3 × W3) := List.drop (nat_lit 0) cs; let Z43 := List.length cs; let Z44 := ks = ks; let Z45 := cs = cs; let Z46 := (36 : FuncId); let Z47 := (cs, ks); let Z48 := (67 : TypeId); let Z49 := (27 : TypeId); let Z50 := (46 : FuncId); let Z51 := Z1 = Z1; let Z52 := Z2 = Z2; let Z53 := nat_lit 0 = nat_lit 0 ∧ Z7; let Z54 := True ∧ Z29; let Z55 := (1000000 : Int); let Z56 := True ∧ Z37; let Z57 := Z4 < nat_lit 1000; let Z58 := Z5 < nat_lit 1000; let Z59 := nat_lit 0 = nat_lit 0 ∧ Z22; let Z60 := Z44 ∧ True; let Z61 := Fn.func Z50; let Z62 := Fn.func Z46; let Z63 := (↑Z5 : Int); let Z64 := (↑Z4 : Int); let Z65 := Z52 ∧ True; let Z66 := Z4 = Z4; let Z67 := Z5 = Z5; let Z68 := (f, Z8); let Z69 := nat_lit 67 = Z48; let Z70 := Z6 = Z6; let Z71 := nat_lit 27 = Z49; let Z72 := True ∧ Z54; let Z73 := Value.int IntKind.i64 Z25; let Z74 := Z6 = Z9; let Z75 := Value.int IntKind.i64 Z23; let Z76 := (p, Z10); let Z77 := True ∧ Z56; let Z78 := Z59 ∧ True; let Z79 := f ≤ Z24; let Z80 := Z25 < f; let Z81 := Z25 ≤ b; let Z82 := Z25 < w; let Z83 := w ≤ Z24; let Z84 := Z25 ≤ a; let Z85 := Z12 = Z12; let Z86 := Z11 = Z11; let Z87 := (Z25, false); let Z88 := Z14 = Z14; let Z89 := Z16 = Z16; let Z90 := Z18 = Z18; let Z91 := Z19 = Z19; let Z92 := Z15 = Z15; let Z93 := a ≤ Z38; let Z94 := b ≤ Z38; let Z95 := Z70 ∧ True; let Z96 := True ∧ Z72; let Z97 := Z74 ∧ True; let Z98 := (p, Z31); let Z99 := (↑Z41 : Int); let Z100 := (↑Z43 : Int); let Z101 := Fn.func (nat_lit 36) = Z62; let Z102 := Z85 ∧ True; let Z103 := nat_lit 0 = nat_lit 0 ∧ Z66; let Z104 := nat_lit 0 = nat_lit 0 ∧ Z67; let Z105 := Z86 ∧ True; let Z106 := nat_lit 0 + Z5; let Z107 : List (Bool × Int × Bool) := List.drop Z36 ks; let Z108 := n ≤ Z55; let Z109 := -Z55; let Z110 := nat_lit 0 + Z4; let Z111 : List (Int × Int × W3 × W3) := List.drop Z36 cs; let Z112 := Z91 ∧ True; let Z113 := wordM f w Z76; let Z114 := Value.int IntKind.i64 Z64; let Z115 := Value.int IntKind.i64 Z63; let Z116 := turnWM f w a b Z76; let Z117 := Z35 = Z35; let Z118 := Z102 ∧ True; let Z119 := !Z113; let Z120 := nat_lit 0 = nat_lit 0 ∧ Z103; let Z121 := nat_lit 0 = nat_lit 0 ∧ Z104; let Z122 := Int.tmod Z21 Z64; let Z123 := Value.int IntKind.i64 Z99; let Z124 := Z101 ∧ Z0; let Z125 := Z48 = Z48; let Z126 := Z117 ∧ True; let Z127 := Z49 = Z49; let Z128 : List (Bool × Int × Bool) := List.take Z5 Z40; let Z129 := w == Z25; let Z130 := f == Z25; let Z131 := Z39 = Z39; let Z132 : List (Int × Int × W3 × W3) := List.take Z4 Z42; let Z133 := Z45 ∧ Z60; let Z134 := Z56 ∧ Z56; let Z135 := Z109 ≤ n; let Z136 := Z121 ∧ True; let Z137 := Int.toNat Z122; let Z138 := Z57 ∧ Z58; let Z139 := (false, Z87); let Z140 := Z119 = true; let Z141 := Z119 = false; let Z142 := Z89 ∧ Z37; let Z143 := True ∧ Z133; let Z144 := Z62 = Z62; let Z145 := Z61 = Z61; let Z146 := Z64 > Z25; let Z147 := Z88 ∧ Z53; let Z148 := True ∧ Z134; let Z149 := Prod.fst Z116; let Z150 := nat_lit 0 = nat_lit 0 ∧ Z126; let Z151 := Prod.snd Z116; let Z152 := nat_lit 0 = nat_lit 0 ∧ Z131; let Z153 := Z59 ∧ Z78; let Z154 := Z90 ∧ Z65; let Z155 := True ∧ Z148; let Z156 := Z75 = Z75; let Z157 := Value.bool Z149; let Z158 := Z82 ∧ Z83; let Z159 := Z80 ∧ Z79; let Z160 : List (Bool × Int × Bool) := List.take Z5 Z107; let Z161 := Z144 ∧ Z0; let Z162 := Prod.fst Z151; let Z163 : List (Int × Int × W3 × W3) := List.take Z4 Z111; let Z164 := List.length Z128; let Z165 := Prod.snd Z151; let Z166 := Z81 ∧ Z94; let Z167 := Z84 ∧ Z93; let Z168 := True ∧ Z155; let Z169 := Z106 ≤ Z41; let Z170 := Z64 - Z26; let Z171 := List.length Z132; let Z172 := Z110 ≤ Z43; let Z173 := Z127 ∧ Z44; let Z174 := Z125 ∧ Z45; let Z175 := Z90 ∧ Z112; let Z176 := True ∧ Z168; let Z177 := Value.bool Z165; let Z178 := Z64 == Z32; let Z179 := Z173 ∧ True; let Z180 := nat_lit 0 + Z137; let Z181 := Value.int IntKind.i64 Z162; let Z182 := Z114 = Z114; let Z183 := IntKind.wrap IntKind.i64 Z170; let Z184 := True ∧ Z179; let Z185 := Z115 = Z115; let Z186 := (Z68, Z47); let Z187 := Z51 ∧ Z154; let Z188 := Z59 ∧ Z153; let Z189 := hearM Z186; let Z190 := liarsM Z186; let Z191 := countM Z186; let Z192 := Z92 ∧ Z142; let Z193 := clashHM Z186; let Z194 := Z123 = Z115; let Z195 : List Cl := dupM Z186 a b; let Z196 := Z95 ∧ Z143; let Z197 := Z135 ∧ Z108; let Z198 := Z187 ∧ True; let Z199 := Z89 ∧ Z147; let Z200 := Z97 ∧ Z143; let Z201 := Z88 ∧ Z150; let Z202 := nat_lit 0 + Z164; let Z203 := True ∧ Z188; let Z204 := !Z189; let Z205 := nat_lit 0 + Z171; let Z206 := Z36 + Z137; let Z207 := Z51 ∧ Z175; let Z208 := True ∧ Z196; let Z209 := True ∧ Z200; let Z210 := Prod.snd Z191; let Z211 := Prod.fst Z191; let Z212 := Prod.snd Z193; let Z213 := Prod.fst Z193; let Z214 := Z120 ∧ Z136; let Z215 := List.length Z195; let Z216 := Z207 ∧ True; let Z217 := True ∧ Z208; let Z218 := popM Z213; let Z219 := Prod.snd Z190; let Z220 := Prod.fst Z190; let Z221 := True ∧ Z217; let Z222 := List.length Z195; let Z223 := Value.int IntKind.i64 Z213; let Z224 := Z202 ≤ nat_lit 1099511627776; let Z225 := Z205 ≤ nat_lit 1099511627776; let Z226 := Prod.snd Z220; let Z227 := Prod.fst Z220; let Z228 := True ∧ Z221; let Z229 := Z215 < nat_lit 1000; let Z230 := (Z139, Z139); let Z231 := Prod.snd Z186; let Z232 := Prod.fst Z186; let Z233 := ruleM Z186 Z76; let Z234 := proofM Z186 Z76; let Z235 := heavyM Z186 Z23 Z23; let Z236 := ruleM Z186 Z98; let Z237 := Prod.fst Z233; let Z238 := Z92 ∧ Z199; let Z239 := Prod.snd Z233; let Z240 := Prod.snd Z234; let Z241 := Prod.fst Z234; let Z242 := Z89 ∧ Z201; let Z243 := Z25 ≤ Z213; let Z244 := Z213 < Z25; let Z245 := Z213 < Z33; let Z246 := Prod.snd Z236; let Z247 := Z157 = Z157; let Z248 := Prod.fst Z232; let Z249 := Prod.snd Z232; let Z250 := popM Z241; let Z251 := Prod.fst Z236; let Z252 := Z192 ∧ Z118; let Z253 : List Cl := Prod.fst Z231; let Z254 := Z88 ∧ Z214; let Z255 : List W3 := Prod.snd Z231; let Z256 := Value.int IntKind.i64 Z241; let Z257 := Prod.fst Z249; let Z258 := List.length Z253; let Z259 := List.length Z255; let Z260 := (Z25, Z230); let Z261 := Z145 ∧ Z203; let Z262 := Z177 = Z177; let Z263 := Z174 ∧ Z184; let Z264 := Z241 ≥ Z25; let Z265 := Z25 ≤ Z241; let Z266 := Z262 ∧ True; let Z267 := fun (i : Nat) => i ≤ Z259; let Z268 := Z241 < Z33; let Z269 := fun (i : Nat) => i ≤ Z258; let Z270 := True ∧ Z263; let Z271 := Z166 ∧ Z197; let Z272 := Z92 ∧ Z242; let Z273 := Z181 = Z181; let Z274 := Z140 → Z228; let Z275 : List (Int × Int × W3 × W3) := Z30 ++ Z132; let Z276 : Type := { i : Nat // Z267 i }; let Z277 : Type := { i : Nat // Z269 i }; let Z278 := Z89 ∧ Z254; let Z279 := Z239 != Z25; let Z280 := fun (x : Z277) => Subtype.val x; let Z281 := fun (x : Z276) => Subtype.val x; let Z282 := Z105 ∧ Z252; let Z283 := Z187 ∧ Z188; let Z284 := Z279 = true; let Z285 : List (Bool × Int × Bool) := Z27 ++ Z160; let Z286 := Z279 = false; let Z287 := Z192 ∧ Z198; let Z288 := fun (x : Z276) => List.take (Z281 x) ks; let Z289 : List (Int × Int × W3 × W3) := Z30 ++ Z163; let Z290 := (Z25, Z260); let Z291 := List.length Z275; let Z292 := fun (x : Z277) => (↑(Z280 x) : Int); let Z293 := fun (x : Z276) => (↑(Z281 x) : Int); let Z294 := fun (t : Z277) => Int.toNat (Z292 t); let Z295 := fun (t : Z276) => Int.toNat (Z293 t); let Z296 := Z195 = Z195; let Z297 := fun (x : Z276) => Value.int IntKind.i64 (Z293 x); let Z298 := fun (x : Z277) => Value.int IntKind.i64 (Z292 x); let Z299 := Z285 = ks; let Z300 := (↑Z291 : Int); let Z301 := Z289 = cs; let Z302 := Z92 ∧ Z278; let Z303 := fun (x : Z276) => Z5 - Z281 x; let Z304 := fun (x : Z277) => Z4 - Z280 x; let Z305 := Z302 ∧ True; let Z306 := Value.int IntKind.i64 Z300; let Z307 := Z222 = Z215; let Z308 := fun (t : Z276) => Z25 ≤ Z293 t; let Z309 := fun (t : Z277) => Z25 ≤ Z292 t; let Z310 := fun (t : Z277) => nat_lit 0 + Z294 t; let Z311 := fun (t : Z276) => nat_lit 0 + Z295 t; let Z312 := nat_lit 0 = nat_lit 0 ∧ Z307; let Z313 := Z223 = Z223; let Z314 := fun (t : Z276) => Z293 t < Z63; let Z315 := fun (t : Z277) => Z292 t < Z64; let Z316 := fun (t : Z277) => Z292 t + Z26; let Z317 := fun (t : Z276) => Z293 t + Z26; let Z318 := Z313 ∧ True; let Z319 := Z71 ∧ Z299; let Z320 := Z167 ∧ Z271; let Z321 := nat_lit 0 = nat_lit 0 ∧ Z312; let Z322 := fun (x : Z277) => Z73 = Z298 x; let Z323 := fun (x : Z276) => Z73 = Z297 x; let Z324 := fun (t : Z276) => Z293 t < Z99; let Z325 := Z69 ∧ Z301; let Z326 := fun (t : Z277) => Z292 t < Z100; let Z327 := Z319 ∧ True; let Z328 := fun (t : Z276) => Z36 + Z295 t; let Z329 := fun (x : Z276) => Z323 x ∧ True; let Z330 := fun (x : Z277) => Z322 x ∧ True; let Z331 := nat_lit 7 = nat_lit 7 ∧ Z321; let Z332 := True ∧ Z327; let Z333 := fun (t : Z277) => IntKind.wrap IntKind.i64 (Z316 t); let Z334 := fun (t : Z276) => IntKind.wrap IntKind.i64 (Z317 t); let Z335 := decide Z146; let Z336 := Z125 ∧ Z296; let Z337 := fun (t : Z276) => Z311 t < Z41; let Z338 := fun (t : Z277) => Z310 t < Z43; let Z339 := fun (t : Z276) => Value.int IntKind.i64 (Z334 t); let Z340 := fun (t : Z277) => Value.int IntKind.i64 (Z333 t); let Z341 := Z306 = Z114; let Z342 := Z243 ∧ Z245; let Z343 := fun (x : Z277) => turnsM Z186 a b (Z280 x); let Z344 := Z256 = Z256; let Z345 := fun (t : Z277) => List.length (Z343 t); let Z346 := Z237 + Z251; let Z347 := Z239 == Z246; let Z348 := Z344 ∧ True; let Z349 := fun (t : Z276) => List.getD ks (Z311 t) Z139; let Z350 := fun (t : Z277) => Z183 - Z292 t; let Z351 := IntKind.wrap IntKind.i64 Z346; let Z352 := Z347 = true; let Z353 := Z347 = false; let Z354 := Z158 ∧ Z320; let Z355 := Z302 ∧ Z198; let Z356 := fun (t : Z276) => turnWM f w a b (Z349 t); let Z357 : List (Bool × Int × Bool) := List.map (turnWM Z248 Z257 a b) ks; let Z358 := fun (t : Z276) => Prod.snd (Z349 t); let Z359 := fun (t : Z276) => Prod.fst (Z349 t); let Z360 := fun (t : Z277) => IntKind.wrap IntKind.i64 (Z350 t); let Z361 := fun (t : Z276) => List.getD ks (Z328 t) Z139; let Z362 := fun (t : Z277) => Z345 t + nat_lit 1; let Z363 := Z302 ∧ Z216; let Z364 := List.length Z357; let Z365 := fun (t : Z276) => Value.bool (Z359 t); let Z366 := fun (t : Z277) => Int.toNat (Z360 t); let Z367 := fun (t : Z276) => Prod.fst (Z358 t); let Z368 := fun (t : Z276) => Prod.snd (Z358 t); let Z369 := Z265 ∧ Z268; let Z370 := fun (t : Z276) => Prod.snd (Z356 t); let Z371 := fun (t : Z276) => Prod.fst (Z356 t); let Z372 := fun (t : Z276) => turnWM f w a b (Z361 t); let Z373 := List.length Z357; let Z374 := Z273 ∧ Z266; let Z375 := fun (t : Z276) => Value.bool (Z368 t); let Z376 := fun (x : Z276) => Z185 ∧ Z329 x; let Z377 := fun (t : Z276) => Value.bool (Z371 t); let Z378 := Z364 < nat_lit 1000; let Z379 := fun (t : Z277) => Z362 t ≤ nat_lit 1099511627776; let Z380 := fun (t : Z276) => Prod.snd (Z370 t); let Z381 := fun (t : Z276) => Prod.fst (Z370 t); let Z382 := fun (t : Z276) => Value.int IntKind.i64 (Z367 t); let Z383 := fun (t : Z276) => AV.v (Z377 t); let Z384 := fun (x : Z276) => Z194 ∧ Z329 x; let Z385 := fun (t : Z276) => Value.bool (Z380 t); let Z386 := fun (t : Z276) => Prod.snd (Z372 t); let Z387 := fun (t : Z276) => Prod.fst (Z372 t); let Z388 := fun (t : Z276) => AV.v (Z385 t); let Z389 := fun (t : Z277) => nat_lit 0 + Z366 t; let Z390 := fun (t : Z276) => Value.int IntKind.i64 (Z381 t); let Z391 := fun (t : Z276) => Value.bool (Z387 t); let Z392 := Z351 == Z28; let Z393 := fun (t : Z276) => AV.v (Z390 t); let Z394 := fun (t : Z276) => AV.v (Z391 t); let Z395 := fun (t : Z276) => Prod.fst (Z386 t); let Z396 := fun (t : Z276) => Prod.snd (Z386 t); let Z397 := fun (t : Z276) => Z367 t ≤ Z55; let Z398 := fun (t : Z276) => Value.bool (Z396 t); let Z399 := fun (t : Z276) => [Z388 t]; let Z400 := Z392 = true; let Z401 := Z392 = false; let Z402 := fun (t : Z276) => AV.v (Z398 t); let Z403 := fun (t : Z277) => Z36 + Z366 t; let Z404 := fun (t : Z276) => Z109 ≤ Z367 t; let Z405 := Z159 ∧ Z354; let Z406 := fun (t : Z276) => [Z402 t]; let Z407 := fun (x : Z276) => Z121 ∧ Z376 x; let Z408 := Z353 → Z209; let Z409 := fun (x : Z276) => Z59 ∧ Z407 x; let Z410 := fun (x : Z276) => Z161 ∧ Z384 x; let Z411 := fun (x : Z276) => nat_lit 0 = nat_lit 0 ∧ Z410 x; let Z412 := (Z195, Z357); let Z413 := fun (t : Z277) => List.getD cs (Z310 t) Z290; let Z414 := fun (x t : Z277) => Z304 x < Z304 t; let Z415 := fun (x t : Z276) => Z303 x < Z303 t; let Z416 := fun (x : Z276) => Z59 ∧ Z411 x; let Z417 := Z229 ∧ Z378; let Z418 := fun (t : Z276) => Z308 t ∧ Z314 t; let Z419 := fun (t : Z277) => Z309 t ∧ Z315 t; let Z420 := fun (t : Z277) => Prod.snd (Z413 t); let Z421 := fun (t : Z277) => Prod.fst (Z413 t); let Z422 := Z401 → Z209; let Z423 := fun (t : Z276) => Z308 t ∧ Z324 t; let Z424 := fun (t : Z277) => Z309 t ∧ Z326 t; let Z425 := Z247 ∧ Z374; let Z426 := fun (t x : Z276) => Z339 t = Z297 x; let Z427 := fun (t x : Z277) => Z340 t = Z298 x; let Z428 := Z425 ∧ True; let Z429 := fun (t : Z277) => Prod.fst (Z420 t); let Z430 := fun (t : Z277) => Prod.snd (Z420 t); let Z431 := fun (t x : Z277) => Z427 t x ∧ True; let Z432 := fun (t x : Z276) => Z426 t x ∧ True; let Z433 := (Z68, Z412); let Z434 := fun (t : Z277) => Prod.snd (Z430 t); let Z435 := fun (t : Z277) => Prod.fst (Z430 t); let Z436 := Z325 ∧ Z332; let Z437 := fun (x : Z276) => List.map (turnWM Z248 Z257 a b) (Z288 x); let Z438 := True ∧ Z436; let Z439 := fun (t : Z277) => Prod.fst (Z435 t); let Z440 := fun (t : Z277) => Prod.fst (Z434 t); let Z441 := fun (t : Z277) => Prod.snd (Z434 t); let Z442 := fun (t : Z277) => Prod.snd (Z435 t); let Z443 := fun (t : Z276) => List.length (Z437 t); let Z444 := fun (x : Z277) => Z341 ∧ Z330 x; let Z445 := fun (t : Z277) => Prod.snd (Z442 t); let Z446 := fun (t : Z277) => Prod.fst (Z441 t); let Z447 := fun (t : Z277) => Prod.fst (Z442 t); let Z448 := fun (t : Z277) => Prod.snd (Z441 t); let Z449 := fun (t : Z276) => List.length (Z437 t); let Z450 := fun (t : Z276) => Z443 t < nat_lit 1000; let Z451 := ruleM Z433 Z116; let Z452 := fun (x : Z276) => Z437 x = Z27; let Z453 := proofM Z433 Z116; let Z454 := fun (x : Z276) => Z452 x ∧ True; let Z455 := Prod.fst Z451; let Z456 := Prod.snd Z451; let Z457 := fun (t : Z276) => Z449 t + nat_lit 1; let Z458 := Prod.snd Z453; let Z459 := Prod.fst Z453; let Z460 := fun (x : Z276) => True ∧ Z454 x; let Z461 := popM Z459; let Z462 := Value.int IntKind.i64 Z459; let Z463 := fun (t : Z277) => List.getD cs (Z389 t) Z290; let Z464 := fun (t : Z276) => Z457 t ≤ nat_lit 1099511627776; let Z465 := fun (t : Z277) => List.getD (Z343 t) Z180 Z290; let Z466 := fun (x : Z277) => Z124 ∧ Z444 x; let Z467 := fun (t x : Z276) => Z185 ∧ Z432 t x; let Z468 := fun (t x : Z277) => Z182 ∧ Z431 t x; let Z469 := fun (x : Z276) => Z261 ∧ Z409 x; let Z470 := fun (x : Z277) => nat_lit 0 = nat_lit 0 ∧ Z466 x; let Z471 := Z459 ≥ Z25; let Z472 := Z25 ≤ Z459; let Z473 := Z459 < Z33; let Z474 := fun (t : Z277) => List.getD cs (Z403 t) Z290; let Z475 := fun (t : Z277) => List.getD (Z343 t) Z206 Z290; let Z476 := fun (x : Z276) => Z96 ∧ Z460 x; let Z477 := fun (t : Z277) => Prod.fst (Z463 t); let Z478 := fun (x : Z277) => nat_lit 0 = nat_lit 0 ∧ Z470 x; let Z479 := fun (t : Z277) => Prod.snd (Z463 t); let Z480 := fun (t : Z277) => Prod.fst (Z465 t); let Z481 := fun (t : Z277) => Prod.snd (Z465 t); let Z482 := fun (x : Z276) => Z0 ∧ Z476 x; let Z483 := fun (t x : Z277) => Z59 ∧ Z468 t x; let Z484 := fun (x : Z276) => Z59 ∧ Z469 x; let Z485 := fun (t : Z277) => Prod.fst (Z479 t); let Z486 := fun (t : Z277) => Prod.snd (Z479 t); let Z487 := fun (t : Z277) => Prod.snd (Z474 t); let Z488 := fun (t : Z277) => Prod.fst (Z474 t); let Z489 := fun (t : Z277) => Prod.fst (Z481 t); let Z490 := fun (t : Z277) => Prod.snd (Z481 t); let Z491 := fun (t : Z277) => Prod.snd (Z475 t); let Z492 := fun (x : Z276) => Z0 ∧ Z482 x; let Z493 := fun (t : Z276) => decide (Z314 t); let Z494 := fun (t : Z277) => decide (Z315 t); let Z495 := fun (x : Z276) => Z261 ∧ Z416 x; let Z496 := fun (t : Z276) => (Z195, Z437 t); let Z497 := fun (t : Z277) => Prod.fst (Z486 t); let Z498 := fun (t : Z277) => Prod.snd (Z486 t); let Z499 := fun (x : Z277) => Z59 ∧ Z478 x; let Z500 := fun (t : Z277) => Value.int IntKind.i64 (Z485 t); let Z501 := fun (t : Z277) => Prod.fst (Z490 t); let Z502 := fun (t : Z277) => Prod.snd (Z490 t); let Z503 := fun (t : Z277) => Value.int IntKind.i64 (Z489 t); let Z504 := fun (t x : Z276) => Z121 ∧ Z467 t x; let Z505 := fun (t : Z277) => AV.v (Z500 t); let Z506 := fun (t : Z277) => Z494 t = true; let Z507 := fun (t : Z276) => Z493 t = true; let Z508 := fun (t : Z276) => Z493 t = false; let Z509 := fun (t : Z277) => Z494 t = false; let Z510 := fun (t : Z277) => AV.v (Z503 t); let Z511 := fun (t : Z277) => Prod.fst (Z487 t); let Z512 := fun (t : Z277) => Prod.snd (Z487 t); let Z513 := fun (t : Z277) => Prod.snd (Z491 t); let Z514 := fun (t : Z277) => turnWM f w a b (Z497 t); let Z515 := fun (t : Z277) => Z477 t + Z20; let Z516 := fun (t : Z277) => turnWM f w a b (Z498 t); let Z517 := fun (x : Z276) => Z37 ∧ Z492 x; let Z518 := fun (x : Z276) => Z59 ∧ Z484 x; let Z519 := fun (t : Z277) => Prod.snd (Z497 t); let Z520 := fun (t : Z277) => Prod.fst (Z498 t); let Z521 := fun (t : Z277) => Prod.fst (Z497 t); let Z522 := fun (t : Z277) => Prod.snd (Z498 t); let Z523 := fun (t : Z277) => Prod.fst (Z512 t); let Z524 := fun (t : Z277) => Prod.snd (Z502 t); let Z525 := fun (t : Z277) => Prod.snd (Z501 t); let Z526 := fun (t : Z277) => Prod.fst (Z501 t); let Z527 := fun (t : Z277) => Prod.snd (Z512 t); let Z528 := fun (t : Z277) => Prod.fst (Z502 t); let Z529 := fun (t : Z277) => Prod.fst (Z513 t); let Z530 := fun (t : Z277) => Prod.snd (Z513 t); let Z531 := fun (t : Z277) => Value.bool (Z520 t); let Z532 := fun (t : Z277) => Value.bool (Z521 t); let Z533 := fun (t x : Z276) => Z161 ∧ Z467 t x; let Z534 := fun (t x : Z277) => Z161 ∧ Z468 t x; let Z535 := fun (t : Z277) => Value.bool (Z528 t); let Z536 := fun (x : Z276) => Z59 ∧ Z495 x; let Z537 := fun (t : Z277) => IntKind.wrap IntKind.i64 (Z515 t); let Z538 := fun (t : Z277) => Prod.fst (Z519 t); let Z539 := fun (t : Z277) => Prod.fst (Z522 t); let Z540 := fun (t : Z277) => AV.v (Z531 t); let Z541 := fun (t : Z277) => Prod.snd (Z519 t); let Z542 := fun (t : Z277) => Prod.snd (Z522 t); let Z543 := fun (t : Z277) => AV.v (Z535 t); let Z544 := fun (t : Z277) => Prod.snd (Z525 t); let Z545 := fun (t : Z277) => Prod.snd (Z524 t); let Z546 := fun (t : Z277) => Prod.fst (Z524 t); let Z547 := fun (t : Z277) => Prod.fst (Z525 t); let Z548 := Z357 = Z357; let Z549 := fun (t : Z277) => Prod.snd (Z514 t); let Z550 := fun (t : Z277) => Prod.fst (Z516 t); let Z551 := fun (t : Z277) => Prod.fst (Z514 t); let Z552 := fun (t : Z277) => Prod.snd (Z516 t); let Z553 := fun (t : Z276) => Z229 ∧ Z450 t; let Z554 := fun (t : Z277) => Z488 t + Z20; let Z555 := fun (t : Z277) => turnWM f w a b (Z527 t); let Z556 := fun (t : Z277) => turnWM f w a b (Z523 t); let Z557 := fun (t x : Z276) => Z59 ∧ Z504 t x; let Z558 := fun (t : Z277) => Value.bool (Z542 t); let Z559 := fun (t : Z277) => Value.bool (Z541 t); let Z560 := fun (t : Z277) => Int.tmod (Z537 t) w; let Z561 := fun (t x : Z277) => nat_lit 0 = nat_lit 0 ∧ Z534 t x; let Z562 := Z548 ∧ True; let Z563 := fun (t x : Z276) => nat_lit 0 = nat_lit 0 ∧ Z533 t x; let Z564 := fun (t : Z277) => Prod.snd (Z527 t); let Z565 := fun (t : Z277) => Value.bool (Z545 t); let Z566 := fun (t : Z277) => Z485 t != Z25; let Z567 := fun (t : Z277) => Value.bool (Z551 t); let Z568 := fun (t : Z277) => Value.bool (Z550 t); let Z569 := fun (t : Z277) => Prod.snd (Z529 t); let Z570 := fun (t : Z277) => Prod.snd (Z530 t); let Z571 := fun (t : Z276) => Z365 t = Z365 t; let Z572 := fun (t : Z277) => AV.v (Z558 t); let Z573 := fun (t : Z277) => AV.v (Z565 t); let Z574 := fun (t : Z277) => AV.v (Z567 t); let Z575 := fun (t : Z277) => Value.int IntKind.i64 (Z538 t); let Z576 := fun (t : Z277) => Prod.snd (Z549 t); let Z577 := fun (t : Z277) => AV.v (Z568 t); let Z578 := fun (t : Z277) => Value.int IntKind.i64 (Z539 t); let Z579 := fun (t : Z277) => Prod.fst (Z549 t); let Z580 := fun (t : Z277) => Prod.fst (Z552 t); let Z581 := fun (t : Z277) => Prod.snd (Z552 t); let Z582 := fun (t : Z277) => Value.int IntKind.i64 (Z547 t); let Z583 := fun (t x : Z277) => nat_lit 0 = nat_lit 0 ∧ Z561 t x; let Z584 := fun (t : Z277) => IntKind.wrap IntKind.i64 (Z554 t); let Z585 := Z373 = Z364; let Z586 := fun (t : Z277) => AV.v (Z582 t); let Z587 := fun (x : Z276) => Z59 ∧ Z518 x; let Z588 := fun (t : Z277) => Value.bool (Z581 t); let Z589 := fun (t : Z277) => Value.bool (Z576 t); let Z590 := fun (t : Z277) => Value.int IntKind.i64 (Z560 t); let Z591 := fun (t : Z277) => Prod.fst (Z556 t); let Z592 := fun (t : Z277) => Prod.snd (Z555 t); let Z593 := fun (t : Z277) => Prod.snd (Z556 t); let Z594 := fun (x : Z276) => Z77 ∧ Z517 x; let Z595 := fun (t : Z277) => AV.v (Z590 t); let Z596 := fun (t : Z277) => AV.v (Z589 t); let Z597 := fun (t : Z277) => AV.v (Z588 t); let Z598 := fun (t : Z276) => Z359 t == Z359 t; let Z599 := fun (t : Z277) => Value.int IntKind.i64 (Z579 t); let Z600 := fun (t : Z277) => Int.tmod (Z584 t) w; let Z601 := fun (t : Z277) => [Z572 t]; let Z602 := fun (t : Z277) => Value.bool (Z591 t); let Z603 := fun (t : Z277) => [Z573 t]; let Z604 := nat_lit 0 = nat_lit 0 ∧ Z585; let Z605 := fun (x : Z276) => True ∧ Z594 x; let Z606 := fun (x : Z276) => Z59 ∧ Z536 x; let Z607 := fun (t : Z277) => AV.v (Z599 t); let Z608 := fun (t : Z276) => Z375 t = Z375 t; let Z609 := fun (t : Z277) => Prod.snd (Z593 t); let Z610 := fun (t : Z277) => Prod.fst (Z593 t); let Z611 := fun (t : Z277) => AV.v (Z602 t); let Z612 := fun (x : Z276) => True ∧ Z605 x; let Z613 := fun (t : Z276) => (Z68, Z496 t); let Z614 := fun (t : Z276) => Z608 t ∧ True; let Z615 := fun (t x : Z276) => Z59 ∧ Z563 t x; let Z616 := nat_lit 0 = nat_lit 0 ∧ Z604; let Z617 := fun (t : Z277) => Value.bool (Z609 t); let Z618 := fun (t : Z277) => Value.int IntKind.i64 (Z600 t); let Z619 := fun (t : Z277) => [Z597 t]; let Z620 := fun (t : Z277) => AV.v (Z618 t); let Z621 := fun (t : Z277) => AV.v (Z617 t); let Z622 := fun (t : Z276) => liarsM (Z613 t); let Z623 := fun (t : Z276) => countM (Z613 t); let Z624 := fun (t : Z276) => clashHM (Z613 t); let Z625 := fun (t : Z276) => Z382 t = Z382 t; let Z626 := fun (t : Z276) => Z367 t == Z367 t; let Z627 := fun (t : Z276) => Z368 t == Z368 t; let Z628 := fun (t x : Z277) => Z59 ∧ Z583 t x; let Z629 := nat_lit 8 = nat_lit 8 ∧ Z616; let Z630 := fun (x : Z276) => Z59 ∧ Z587 x; let Z631 := fun (t : Z276) => Prod.fst (Z623 t); let Z632 := fun (t : Z276) => Prod.snd (Z623 t); let Z633 := fun (t : Z276) => Prod.snd (Z624 t); let Z634 := fun (t : Z276) => Prod.fst (Z624 t); let Z635 := Z629 ∧ True; let Z636 := Z127 ∧ Z548; let Z637 := fun (t : Z276) => Z627 t && true; let Z638 := fun (t : Z276) => Prod.fst (Z622 t); let Z639 := fun (t : Z276) => Prod.snd (Z622 t); let Z640 := fun (t : Z276) => popM (Z634 t); let Z641 := fun (x : Z276) => Z59 ∧ Z606 x; let Z642 := fun (t : Z276) => Value.int IntKind.i64 (Z634 t); let Z643 := fun (t : Z276) => (Z395 t, Z380 t); let Z644 := Z239 == Z456; let Z645 := fun (t : Z276) => Prod.snd (Z638 t); let Z646 := fun (t : Z276) => Prod.fst (Z638 t); let Z647 := Z237 == Z455; let Z648 := Z240 == Z458; let Z649 := Z644 = true; let Z650 := Z647 = true; let Z651 := Z647 = false; let Z652 := Z644 = false; let Z653 := Z648 = true; let Z654 := Z250 == Z461; let Z655 := Z648 = false; let Z656 := fun (t : Z276) => Z25 ≤ Z634 t; let Z657 := fun (t : Z276) => Z634 t < Z25; let Z658 := fun (t : Z276) => Z634 t < Z33; let Z659 := fun (t : Z276) => Z393 t :: Z399 t; let Z660 := fun (x : Z276) => Z59 ∧ Z641 x; let Z661 := Z654 = true; let Z662 := Z654 = false; let Z663 := fun (t : Z276) => Z393 t :: Z406 t; let Z664 := fun (t : Z276) => Z404 t ∧ Z397 t; let Z665 := fun (t x : Z277) => Z261 ∧ Z483 t x; let Z666 := fun (x : Z277) => Z261 ∧ Z499 x; let Z667 := fun (t x : Z277) => Z59 ∧ Z665 t x; let Z668 := fun (x : Z277) => Z59 ∧ Z666 x; let Z669 := fun (t x : Z276) => Z261 ∧ Z557 t x; let Z670 := fun (t x : Z277) => Z59 ∧ Z667 t x; let Z671 := fun (t : Z276) => Z166 ∧ Z664 t; let Z672 := Z651 → Z209; let Z673 := Z652 → Z209; let Z674 := Z655 → Z209; let Z675 := fun (t : Z276) => Z210 != Z632 t; let Z676 := fun (t : Z276) => Z211 != Z631 t; let Z677 := fun (t : Z276) => Z212 != Z633 t; let Z678 := Z662 → Z209; let Z679 := fun (t : Z276) => Z437 t = Z357; let Z680 := fun (t : Z276) => Z675 t = true; let Z681 := fun (t : Z276) => Z676 t = true; let Z682 := fun (x : Z277) => Z59 ∧ Z668 x; let Z683 := fun (t : Z276) => Z675 t = false; let Z684 := fun (t : Z276) => Z676 t = false; let Z685 := fun (t : Z276) => Z219 != Z639 t; let Z686 := fun (t : Z276) => Z218 != Z640 t; let Z687 := fun (t : Z276) => Z677 t = true; let Z688 := fun (t : Z276) => Z677 t = false; let Z689 := fun (t x : Z276) => Z59 ∧ Z669 t x; let Z690 := fun (t x : Z276) => Z261 ∧ Z615 t x; let Z691 := fun (t x : Z277) => Z59 ∧ Z670 t x; let Z692 := fun (t : Z276) => Z686 t = true; let Z693 := fun (t : Z276) => Z685 t = true; let Z694 := fun (t : Z276) => Z685 t = false; let Z695 := fun (t : Z276) => Z686 t = false; let Z696 := fun (t x : Z277) => Z261 ∧ Z628 t x; let Z697 := Z661 → Z228; let Z698 := fun (t : Z276) => Z226 == Z645 t; let Z699 := fun (t : Z276) => Z227 == Z646 t; let Z700 := Z296 ∧ Z562; let Z701 := fun (x : Z277) => Z59 ∧ Z682 x; let Z702 := fun (t x : Z276) => Z59 ∧ Z689 t x; let Z703 := Z636 ∧ Z270; let Z704 := fun (t : Z276) => Z698 t && true; let Z705 := fun (t x : Z276) => Z59 ∧ Z690 t x; let Z706 := fun (t x : Z277) => Z59 ∧ Z691 t x; let Z707 := fun (t x : Z277) => Z59 ∧ Z696 t x; let Z708 := fun (t : Z276) => Z127 ∧ Z679 t; let Z709 := fun (t : Z276) => Z167 ∧ Z671 t; let Z710 := fun (x : Z277) => Z59 ∧ Z701 x; let Z711 := fun (t x : Z276) => Z59 ∧ Z702 t x; let Z712 := fun (t x : Z276) => Z59 ∧ Z705 t x; let Z713 := fun (t x : Z277) => Z59 ∧ Z707 t x; let Z714 := fun (t x : Z276) => Z59 ∧ Z711 t x; let Z715 := fun (t x : Z276) => Z59 ∧ Z712 t x; let Z716 := fun (t x : Z277) => Z59 ∧ Z713 t x; let Z717 := fun (t : Z276) => Z680 t → Z209; let Z718 := fun (t : Z276) => Z681 t → Z209; let Z719 := fun (t : Z276) => Z687 t → Z209; let Z720 := fun (t : Z276) => Z692 t → Z209; let Z721 := fun (t : Z276) => Z693 t → Z209; let Z722 := Z331 ∧ Z635; let Z723 := fun (t x : Z276) => Z59 ∧ Z715 t x; let Z724 := fun (t : Z277) => Z421 t == Z421 t; let Z725 := fun (t : Z276) => Z158 ∧ Z709 t; let Z726 := fun (t x : Z277) => Z59 ∧ Z716 t x; let Z727 := Z88 ∧ Z722; let Z728 := fun (t : Z277) => Z429 t == Z429 t; let Z729 := Z89 ∧ Z727; let Z730 := fun (t : Z276) => Z437 t = Z437 t; let Z731 := fun (t : Z276) => Z730 t ∧ True; let Z732 := fun (t : Z276) => Z159 ∧ Z725 t; let Z733 := fun (t : Z276) => Z449 t = Z443 t; let Z734 := fun (t : Z276) => nat_lit 0 = nat_lit 0 ∧ Z733 t; let Z735 := fun (t : Z277) => Z440 t == Z440 t; let Z736 := fun (t : Z277) => Z439 t == Z439 t; let Z737 := fun (t : Z276) => (Z371 t, Z643 t); let Z738 := fun (t : Z276) => nat_lit 0 = nat_lit 0 ∧ Z734 t; let Z739 := Z92 ∧ Z729; let Z740 := fun (t : Z276) => nat_lit 8 = nat_lit 8 ∧ Z738 t; let Z741 := fun (t : Z277) => Z447 t == Z447 t; let Z742 := fun (t : Z277) => Z446 t == Z446 t; let Z743 := fun (t : Z277) => Z448 t == Z448 t; let Z744 := fun (t : Z277) => Z445 t == Z445 t; let Z745 := fun (t : Z276) => Z740 t ∧ True; let Z746 := fun (t : Z276) => Z383 t :: Z659 t; let Z747 := fun (t : Z277) => Z743 t && true; let Z748 := fun (t : Z277) => Z744 t && true; let Z749 := fun (t : Z276) => some (Z746 t); let Z750 := fun (t : Z276) => Z737 t :: Z27; let Z751 := fun (t : Z276) => Z394 t :: Z663 t; let Z752 := fun (t : Z276) => some (Z751 t); let Z753 := fun (t : Z276) => List.drop Z36 (Z750 t); let Z754 := Z462 = Z462; let Z755 := Z336 ∧ Z703; let Z756 := Z754 ∧ True; let Z757 := Z472 ∧ Z473; let Z758 := fun (t : Z276) => List.take Z34 (Z753 t); let Z759 := fun (t : Z276) => Z296 ∧ Z731 t; let Z760 := Z238 ∧ Z755; let Z761 := decide Z244; let Z762 := Z761 = true; let Z763 := Z761 = false; let Z764 := Z105 ∧ Z760; let Z765 := fun (t : Z276) => Z331 ∧ Z745 t; let Z766 := fun (t : Z277) => (Z610 t, Z576 t); let Z767 := Z102 ∧ Z764; let Z768 := fun (t : Z276) => Z88 ∧ Z765 t; let Z769 := fun (t : Z276) => Z625 t ∧ Z614 t; let Z770 := Z762 → Z209; let Z771 := fun (t : Z276) => Z626 t && Z637 t; let Z772 := fun (t : Z276) => Z708 t ∧ Z438; let Z773 := fun (t : Z276) => Z89 ∧ Z768 t; let Z774 := fun (t : Z276) => Z642 t = Z642 t; let Z775 := fun (t : Z276) => Z774 t ∧ True; let Z776 := Z187 ∧ Z767; let Z777 := fun (t : Z276) => Z92 ∧ Z773 t; let Z778 := fun (t : Z276) => Z777 t ∧ True; let Z779 := fun (t : Z276) => Z656 t ∧ Z658 t; let Z780 := Z739 ∧ Z428; let Z781 := Z302 ∧ Z776; let Z782 := fun (t : Z276) => Z336 ∧ Z772 t; let Z783 := Z44 ∧ Z781; let Z784 := Z697 ∧ Z678; let Z785 := True ∧ Z784; let Z786 := Z45 ∧ Z783; let Z787 := True ∧ Z786; let Z788 := fun (t : Z276) => Z699 t && Z704 t; let Z789 := fun (t : Z276) => !Z788 t; let Z790 := fun (t : Z276) => Z789 t = true; let Z791 := fun (t : Z276) => Z789 t = false; let Z792 := fun (t : Z276) => Z437 t ++ Z758 t; let Z793 := fun (t : Z276) => Z238 ∧ Z782 t; let Z794 := fun (t : Z276) => Z105 ∧ Z793 t; let Z795 := fun (t : Z276) => Z790 t → Z209; let Z796 := fun (t : Z276) => Z102 ∧ Z794 t; let Z797 := fun (t : Z276) => Z187 ∧ Z796 t; let Z798 := fun (t : Z277) => (Z551 t, Z766 t); let Z799 := fun (t : Z276) => Z571 t ∧ Z769 t; let Z800 := fun (t : Z276) => Z598 t && Z771 t; let Z801 := fun (t : Z276) => !Z800 t; let Z802 := fun (t : Z276) => Z801 t = true; let Z803 := fun (t : Z276) => Z801 t = false; let Z804 := fun (t : Z276) => Z799 t ∧ Z188; let Z805 := fun (t : Z277) => Z742 t && Z747 t; let Z806 := fun (t : Z277) => Z741 t && Z748 t; let Z807 := fun (t : Z276) => Z302 ∧ Z797 t; let Z808 := fun (t : Z276) => Z802 t → Z209; let Z809 := fun (t : Z276) => Z44 ∧ Z807 t; let Z810 := fun (t : Z276) => Z749 t = Z752 t; let Z811 := fun (t : Z276) => Z45 ∧ Z809 t; let Z812 := fun (t : Z276) => True ∧ Z811 t; let Z813 := fun (t : Z276) => nat_lit 1 = nat_lit 1 ∧ Z810 t; let Z814 := fun (t x : Z276) => Z792 t = Z437 x; let Z815 := fun (t x : Z276) => Z71 ∧ Z814 t x; let Z816 := fun (t : Z276) => decide (Z657 t); let Z817 := fun (t x : Z276) => Z815 t x ∧ True; let Z818 := fun (t : Z276) => Z816 t = true; let Z819 := fun (t : Z276) => Z816 t = false; let Z820 := fun (t : Z276) => Z818 t → Z209; let Z821 := fun (x : Z276) => Z660 x ∧ Z787; let Z822 := fun (t x : Z276) => Z336 ∧ Z817 t x; let Z823 := fun (t x : Z276) => Z723 t x ∧ Z787; let Z824 := fun (t x : Z277) => Z726 t x ∧ Z787; let Z825 := fun (t x : Z276) => Z238 ∧ Z822 t x; let Z826 := fun (t x : Z276) => Z105 ∧ Z825 t x; let Z827 := ∃ (x : Z276), Z821 x; let Z828 := fun (t x : Z276) => Z102 ∧ Z826 t x; let Z829 := decide Z264; let Z830 := Z756 ∧ Z785; let Z831 := Z829 = true; let Z832 := Z829 = false; let Z833 := fun (t x : Z276) => Z187 ∧ Z828 t x; let Z834 := Z832 → Z209; let Z835 := fun (t x : Z276) => Z302 ∧ Z833 t x; let Z836 := fun (t x : Z276) => Z823 t x ∧ Z415 x t; let Z837 := fun (t x : Z277) => Z824 t x ∧ Z414 x t; let Z838 := fun (x : Z277) (t : Z276) => Z710 x ∧ Z812 t; let Z839 := fun (t x : Z276) => Z44 ∧ Z835 t x; let Z840 := fun (t x : Z276) => Z45 ∧ Z839 t x; let Z841 := fun (t x : Z276) => True ∧ Z840 t x; let Z842 := fun (t : Z277) => Z736 t && Z806 t; let Z843 := fun (t : Z277) => Z735 t && Z805 t; let Z844 := fun (t : Z277) => Z843 t && true; let Z845 := fun (t : Z276) => ∃ (x : Z276), Z836 t x; let Z846 := fun (t : Z276) => True ∧ Z845 t; let Z847 := fun (t : Z277) => ∃ (x : Z277), Z837 t x; let Z848 := fun (t : Z276) => ∃ (x : Z277), Z838 x t; let Z849 := fun (t : Z277) => True ∧ Z847 t; let Z850 := Z757 ∧ Z830; let Z851 := True ∧ Z850; let Z852 := fun (t x : Z276) => Z714 t x ∧ Z841 t x; let Z853 := Z348 ∧ Z851; let Z854 := fun (t x : Z276) => Z852 t x ∧ Z415 x t; let Z855 := Z369 ∧ Z853; let Z856 := fun (t : Z276) => ∃ (x : Z276), Z854 t x; let Z857 := fun (t : Z276) => True ∧ Z856 t; let Z858 := fun (t : Z276) => Z464 t ∧ Z857 t; let Z859 := fun (t : Z276) => Z13 ∧ Z858 t; let Z860 := fun (t : Z276) => Z803 t → Z846 t; let Z861 := fun (t : Z277) => Z842 t && Z844 t; let Z862 := fun (t : Z277) => Z728 t && Z861 t; let Z863 := fun (t : Z276) => Z813 t ∧ Z859 t; let Z864 := fun (t : Z276) => Z808 t ∧ Z860 t; let Z865 := fun (t : Z276) => Z282 ∧ Z863 t; let Z866 := fun (t : Z276) => Z337 t ∧ Z864 t; let Z867 := fun (t : Z277) => Z724 t && Z862 t; let Z868 := fun (t : Z277) => !Z867 t; let Z869 := fun (t : Z277) => Z868 t = true; let Z870 := fun (t : Z277) => Z868 t = false; let Z871 := fun (t : Z276) => Z418 t ∧ Z866 t; let Z872 := fun (t : Z277) => Z869 t → Z209; let Z873 := fun (t : Z276) => Z337 t ∧ Z871 t; let Z874 := fun (t : Z276) => Z423 t ∧ Z873 t; let Z875 := fun (t : Z276) => Z507 t → Z874 t; let Z876 := fun (t : Z276) => Z804 t ∧ Z865 t; let Z877 := fun (t : Z276) => Z732 t ∧ Z876 t; let Z878 := fun (t : Z276) => Z337 t ∧ Z877 t; let Z879 := fun (t : Z276) => Z418 t ∧ Z878 t; let Z880 := fun (t : Z277) => Z870 t → Z849 t; let Z881 := fun (t : Z276) => Z507 t → Z879 t; let Z882 := fun (t : Z277) => Z872 t ∧ Z880 t; let Z883 := fun (t : Z277) => Z338 t ∧ Z882 t; let Z884 := fun (t : Z277) => Z419 t ∧ Z883 t; let Z885 := decide Z471; let Z886 := Z885 = true; let Z887 := Z885 = false; let Z888 := Z887 → Z209; let Z889 := fun (t : Z277) => Z338 t ∧ Z884 t; let Z890 := fun (t : Z277) => Z424 t ∧ Z889 t; let Z891 := fun (t : Z277) => Z506 t → Z890 t; let Z892 := Z886 → Z855; let Z893 := Z892 ∧ Z888; let Z894 := Z831 → Z893; let Z895 := Z894 ∧ Z834; let Z896 := Z653 → Z895; let Z897 := Z896 ∧ Z674; let Z898 := Z284 → Z897; let Z899 := Z400 → Z897; let Z900 := Z899 ∧ Z422; let Z901 := Z286 → Z900; let Z902 := Z898 ∧ Z901; let Z903 := Z352 → Z902; let Z904 := Z903 ∧ Z408; let Z905 := Z649 → Z904; let Z906 := Z905 ∧ Z673; let Z907 := Z650 → Z906; let Z908 := Z907 ∧ Z672; let Z909 := Z700 ∧ Z908; let Z910 := Z780 ∧ Z909; let Z911 := Z417 ∧ Z910; let Z912 := Z282 ∧ Z911; let Z913 := Z283 ∧ Z912; let Z914 := Z405 ∧ Z913; let Z915 := Z133 ∧ Z914; let Z916 := Z355 ∧ Z915; let Z917 := Z138 ∧ Z916; let Z918 := Z133 ∧ Z917; let Z919 := Z363 ∧ Z918; let Z920 := Z138 ∧ Z919; let Z921 := True ∧ Z920; let Z922 := Z198 ∧ Z921; let Z923 := True ∧ Z922; let Z924 := Z700 ∧ Z923; let Z925 := Z780 ∧ Z924; let Z926 := Z417 ∧ Z925; let Z927 := Z282 ∧ Z926; let Z928 := Z283 ∧ Z927; let Z929 := Z405 ∧ Z928; let Z930 := Z133 ∧ Z929; let Z931 := Z355 ∧ Z930; let Z932 := Z138 ∧ Z931; let Z933 := Z141 → Z932; let Z934 := Z274 ∧ Z933; (Z4 < nat_lit 9223372036854775808 ∧ Z5 < nat_lit 9223372036854775808) ∧ (Z302 ∧ Z156 ∧ Z156 ∧ True) ∧ Z133 ∧ (Z235 = true → Z228) ∧ (Z235 = false → Z138 ∧ Z305 ∧ Z133 ∧ (Z204 = true → Z228) ∧ (Z204 = false → (Z130 = true → Z228) ∧ (Z130 = false → (Z129 = true → Z228) ∧ (Z129 = false → (Z178 = true → Z228) ∧ (Z178 = false → (∃ (x : Z277), (True ∧ True ∧ True ∧ True ∧ Z56 ∧ Z37) ∧ (True ∧ True ∧ Z77 ∧ Z37 ∧ Z0 ∧ Z0 ∧ (True ∧ True ∧ True ∧ nat_lit 0 = nat_lit 0 ∧ Z0) ∧ Z343 x = Z30 ∧ True) ∧ (Z59 ∧ Z59 ∧ Z59 ∧ Z59 ∧ (Fn.func (nat_lit 46) = Z61 ∧ Z203) ∧ Z59 ∧ Z182 ∧ Z330 x) ∧ True ∧ Z45 ∧ Z44 ∧ Z302 ∧ Z187 ∧ Z102 ∧ Z105 ∧ (Z92 ∧ Z89 ∧ Z88 ∧ Z117 ∧ Z126) ∧ Z0) ∧ ∀ (t : Z277), (Z506 t → (Z25 ≤ Z360 t ∧ Z360 t < Z64) ∧ Z389 t < Z43 ∧ w ≠ Z25 ∧ (Z159 ∧ Z158 ∧ Z167 ∧ Z166 ∧ Z109 ≤ Z538 t ∧ Z538 t ≤ Z55) ∧ ((Z532 t = Z532 t ∧ Z575 t = Z575 t ∧ Z559 t = Z559 t ∧ True) ∧ Z188) ∧ Z282 ∧ (Z566 t = true → (Z159 ∧ Z158 ∧ Z167 ∧ Z166 ∧ Z109 ≤ Z539 t ∧ Z539 t ≤ Z55) ∧ ((Z531 t = Z531 t ∧ Z578 t = Z578 t ∧ Z558 t = Z558 t ∧ True) ∧ Z188) ∧ Z282 ∧ (nat_lit 1 = nat_lit 1 ∧ some (Z595 t :: Z505 t :: Z574 t :: Z607 t :: Z596 t :: Z577 t :: AV.v (Value.int IntKind.i64 (Z580 t)) :: Z619 t) = some (Z620 t :: Z505 t :: Z611 t :: Z607 t :: Z621 t :: Z577 t :: AV.v (Value.int IntKind.i64 (Prod.fst (Z592 t))) :: Z619 t)) ∧ Z13 ∧ Z379 t ∧ True ∧ ∃ (x : Z277), (Z706 t x ∧ True ∧ Z45 ∧ Z44 ∧ Z302 ∧ Z187 ∧ Z102 ∧ Z105 ∧ Z272 ∧ (Z69 ∧ Z343 t ++ List.take Z34 (List.drop Z36 ((Z560 t, Z511 t, Z798 t, Prod.fst (Z555 t), Z580 t, Prod.snd (Z592 t)) :: Z30)) = Z343 x) ∧ True) ∧ Z414 x t) ∧ (Z566 t = false → (nat_lit 1 = nat_lit 1 ∧ some (Z595 t :: Z505 t :: Z574 t :: Z607 t :: Z596 t :: Z540 t :: AV.v (Z578 t) :: Z601 t) = some (Z620 t :: Z505 t :: Z611 t :: Z607 t :: Z621 t :: Z540 t :: AV.v (Value.int IntKind.i64 (Prod.fst (Z564 t))) :: Z601 t)) ∧ Z13 ∧ Z379 t ∧ True ∧ ∃ (x : Z277), (Z706 t x ∧ True ∧ Z45 ∧ Z44 ∧ Z302 ∧ Z187 ∧ Z102 ∧ Z105 ∧ Z272 ∧ (Z69 ∧ Z343 t ++ List.take Z34 (List.drop Z36 ((Z560 t, Z511 t, Z798 t, Prod.fst (Z527 t), Z539 t, Prod.snd (Z564 t)) :: Z30)) = Z343 x) ∧ True) ∧ Z414 x t)) ∧ (Z509 t → (Z335 = true → Z64 ≠ Z25 ∧ (Z25 ≤ Z122 ∧ Z122 < (↑(Z345 t) : Int)) ∧ Z180 < Z345 t ∧ (nat_lit 1 = nat_lit 1 ∧ some (AV.v (Value.int IntKind.i64 (Z480 t)) :: Z510 t :: AV.v (Value.bool (Z526 t)) :: Z586 t :: AV.v (Value.bool (Z544 t)) :: Z543 t :: AV.v (Value.int IntKind.i64 (Z546 t)) :: Z603 t) = some (AV.v (Value.int IntKind.i64 (Prod.fst (Z475 t))) :: Z510 t :: AV.v (Value.bool (Prod.fst (Z529 t))) :: Z586 t :: AV.v (Value.bool (Prod.snd (Z569 t))) :: Z543 t :: AV.v (Value.int IntKind.i64 (Prod.fst (Z570 t))) :: Z603 t)) ∧ Z13 ∧ Z379 t ∧ (∃ (x : Z276), Z176 ∧ Z612 x ∧ Z630 x ∧ True ∧ Z45 ∧ Z44 ∧ Z302 ∧ Z187 ∧ Z102 ∧ Z105 ∧ Z272 ∧ (Z69 ∧ Z343 t ++ List.take Z34 (List.drop Z36 ((Z480 t, Prod.fst (Z491 t), (Z526 t, Prod.fst (Z569 t), Z544 t), Prod.fst (Z530 t), Z546 t, Prod.snd (Z570 t)) :: Z30)) = Z195) ∧ Z0) ∧ ∀ (t : Z276), Z881 t ∧ (Z508 t → Z152 ∧ Z172 ∧ Z225 ∧ Z152 ∧ Z169 ∧ Z224 ∧ Z138 ∧ Z305 ∧ Z133 ∧ Z553 t ∧ Z778 t ∧ Z759 t ∧ Z138 ∧ Z305 ∧ Z133 ∧ Z553 t ∧ Z778 t ∧ Z759 t ∧ Z138 ∧ Z305 ∧ Z133 ∧ Z553 t ∧ Z778 t ∧ Z759 t ∧ Z718 t ∧ (Z684 t → Z717 t ∧ (Z683 t → Z795 t ∧ (Z791 t → Z721 t ∧ (Z694 t → Z719 t ∧ (Z688 t → Z770 ∧ (Z763 → Z820 t ∧ (Z819 t → Z342 ∧ Z318 ∧ True ∧ Z779 t ∧ Z775 t ∧ True ∧ Z720 t ∧ (Z695 t → Z848 t ∧ ∀ (t : Z277), Z891 t ∧ (Z509 t → Z827 ∧ ∀ (t : Z276), Z875 t ∧ (Z508 t → True ∧ Z287 ∧ True ∧ Z934)))))))))))) ∧ (Z335 = false → (∃ (x : Z276), Z176 ∧ Z612 x ∧ Z630 x ∧ True ∧ Z45 ∧ Z44 ∧ Z302 ∧ Z187 ∧ Z102 ∧ Z105 ∧ Z272 ∧ (Z125 ∧ Z343 t = Z195) ∧ Z0) ∧ ∀ (t : Z276), Z881 t ∧ (Z508 t → Z152 ∧ Z172 ∧ Z225 ∧ Z152 ∧ Z169 ∧ Z224 ∧ Z138 ∧ Z305 ∧ Z133 ∧ Z553 t ∧ Z778 t ∧ Z759 t ∧ Z138 ∧ Z305 ∧ Z133 ∧ Z553 t ∧ Z778 t ∧ Z759 t ∧ Z138 ∧ Z305 ∧ Z133 ∧ Z553 t ∧ Z778 t ∧ Z759 t ∧ Z718 t ∧ (Z684 t → Z717 t ∧ (Z683 t → Z795 t ∧ (Z791 t → Z721 t ∧ (Z694 t → Z719 t ∧ (Z688 t → Z770 ∧ (Z763 → Z820 t ∧ (Z819 t → Z342 ∧ Z318 ∧ True ∧ Z779 t ∧ Z775 t ∧ True ∧ Z720 t ∧ (Z695 t → Z848 t ∧ ∀ (t : Z277), Z891 t ∧ (Z509 t → Z827 ∧ ∀ (t : Z276), Z875 t ∧ (Z508 t → True ∧ Z287 ∧ True ∧ Z934)))))))))))))))))))
    (by kernel_rfl) ?_
  simp only [eq_self, true_and, and_true, Int.toNat_natCast, Nat.zero_add, Nat.sub_zero, Value.int.injEq, Value.bool.injEq, decide_eq_true_eq, decide_eq_false_iff_not]
  obtain ⟨hbig, ⟨ha0, ha1⟩, hb0, hb1⟩ := hl
  obtain ⟨a, rfl⟩ := Int.eq_ofNat_of_zero_le ha0
  obtain ⟨b, rfl⟩ := Int.eq_ofNat_of_zero_le hb0
  have ha2 : (a : Int) ≤ 255 := ha1
  have hb2 : (b : Int) ≤ 255 := hb1
  have hab : (0 ≤ (a : Int) ∧ (a : Int) ≤ 255) ∧ 0 ≤ (b : Int) ∧ (b : Int) ≤ 255 := ⟨⟨Int.natCast_nonneg _, ha2⟩, Int.natCast_nonneg _, hb2⟩
  refine ⟨hbig, fun _ => trivial, fun hhv => ?_⟩
  have hl1 : cs.length < 1000 := (heavy_no hhv).1.1
  have hl2 : ks.length < 1000 := (heavy_no hhv).1.2
  refine ⟨⟨hl1, hl2⟩, fun _ => trivial, fun hh0 => ⟨fun _ => trivial, fun hf00 => ⟨fun _ => trivial, fun hw00 => ⟨fun _ => trivial, fun hn00 => ?_⟩⟩⟩⟩
  have hh : hearM ((f, w, li), cs, ks) = true := by simpa using hh0
  have hk := hear_ok hh
  have hf6 : 0 ≤ f ∧ f ≤ 6 := hk.f
  have hw6 : 0 ≤ w ∧ w ≤ 6 := hk.w
  have hc14 : cs.length ≤ 14 := hk.cs
  have hk4 : ks.length ≤ 4 := hk.ks
  have hfn : f ≠ 0 := by simpa using hf00
  have hwn : w ≠ 0 := by simpa using hw00
  have hn13 : cs.length ≤ 13 := by
    have : ¬ (cs.length : Int) = 14 := by simpa using hn00
    omega
  obtain ⟨f, rfl⟩ := Int.eq_ofNat_of_zero_le hf6.1
  obtain ⟨w, rfl⟩ := Int.eq_ofNat_of_zero_le hw6.1
  have ho : TurnOk f w := ⟨⟨by omega, by omega⟩, by omega, by omega⟩
  have hfw : (0 < (f : Int) ∧ (f : Int) ≤ 6) ∧ 0 < (w : Int) ∧ (w : Int) ≤ 6 := by omega
  have hwa : IntKind.i64.wrap (a : Int) = (a : Int) := wrap_id (by omega) (by omega)
  have hwb : IntKind.i64.wrap (b : Int) = (b : Int) := wrap_id (by omega) (by omega)
  have hok : ∀ c : W3, wordM (f : Int) (w : Int) c = true → -1000000 ≤ c.2.1 ∧ c.2.1 ≤ 1000000 := fun c hc => by
    have := okW_of hf6 hw6 hc
    unfold okW at this; omega
  have hT := turned (a := a) (b := b) hk ho hn13
  have hTW := fun (c : W3) (hc : wordM (f : Int) (w : Int) c = true) => turnedW (a := a) (b := b) hk ho hn13 hc
  have hyk := turn_hear (a := a) (b := b) hk hfw.1.1 hfw.2.1 hn13
  rw [hwa, hwb]
  refine ⟨⟨⟨0, Nat.zero_le _⟩, rfl, rfl⟩, fun t => ⟨fun ht => ?_, fun ht => ?_⟩⟩
  · obtain ⟨i, hi⟩ := t
    have hlt : i < cs.length := by have h0 : (i : Int) < (cs.length : Int) := ht; omega
    have e1 : IntKind.i64.wrap (IntKind.i64.wrap ((cs.length : Int) - 1) - (i : Int)) = ((cs.length - 1 - i : Nat) : Int) := by
      rw [wrap_id (x := (cs.length : Int) - 1) (by omega) (by omega), wrap_id (by omega) (by omega)]; omega
    simp only [e1, Int.toNat_natCast]
    have hlt2 : cs.length - 1 - i < cs.length := by omega
    have hcl := hk.claims _ (getD_mem dfC hlt2)
    have htl : (turnsM (((f : Int), (w : Int), li), cs, ks) a b i).length + 1 ≤ 1099511627776 := by rw [turns_len]; omega
    have hstep : turnsM (((f : Int), (w : Int), li), cs, ks) a b (i + 1) = turnsM (((f : Int), (w : Int), li), cs, ks) a b i ++ [turnCM f w a b (cs.getD (cs.length - 1 - i) dfC)] := rfl
    have hsu := sucI i (by omega)
    generalize cs.getD (cs.length - 1 - i) dfC = c at *
    obtain ⟨c0, ck, cA, cB⟩ := c
    obtain ⟨hc0, hc1, hc2, hc3⟩ := hcl
    have hc1' : 0 ≤ c0 ∧ c0 < (w : Int) := hc1
    have e2 : IntKind.i64.wrap (c0 + (b : Int)) = c0 + (b : Int) := wrap_id (by omega) (by omega)
    refine ⟨⟨by omega, by omega⟩, hlt2, hwn, ⟨hfw.1, hfw.2, hab.1, hab.2, hok _ hc2⟩, fun h => ?_, fun h => ?_⟩
    · have hne : ck ≠ 0 := by simpa using h
      refine ⟨⟨hfw.1, hfw.2, hab.1, hab.2, hok _ (hc3 hne)⟩, Nat.le_refl _, htl, ⟨i + 1, hlt⟩, ⟨hsu, ?_⟩, dec1 hlt⟩
      rw [hstep]
      show _ ++ [(Int.tmod (IntKind.i64.wrap (c0 + (b : Int))) w, _)] = _
      rw [e2]
      simp only [turnCM, hne, if_false]
    · have hne : ck = 0 := by simpa using h
      refine ⟨Nat.le_refl _, htl, ⟨i + 1, hlt⟩, ⟨hsu, ?_⟩, dec1 hlt⟩
      rw [hstep]
      show _ ++ [(Int.tmod (IntKind.i64.wrap (c0 + (b : Int))) w, _)] = _
      rw [e2]
      simp only [turnCM, hne, if_true]
  · obtain ⟨i, hi⟩ := t
    have hie : i = cs.length := by have h0 : ¬ (i : Int) < (cs.length : Int) := ht; omega
    subst hie
    have hdl : (dupM (((f : Int), (w : Int), li), cs, ks) a b).length < 1000 := by have : (dupM (((f : Int), (w : Int), li), cs, ks) a b).length ≤ 14 := hyk.cs; omega
    by_cases hp : (cs.length : Int) > 0
    case' pos =>
      have hm : Int.tmod (a : Int) (cs.length : Int) = ((a % cs.length : Nat) : Int) := rfl
      have hml := Nat.mod_lt a (show 0 < cs.length by omega)
      have htl := turns_len (((f : Int), (w : Int), li), cs, ks) a b cs.length
      have hd : dupM (((f : Int), (w : Int), li), cs, ks) a b = turnsM (((f : Int), (w : Int), li), cs, ks) a b cs.length ++ [(turnsM (((f : Int), (w : Int), li), cs, ks) a b cs.length).getD (Int.tmod (a : Int) (cs.length : Int)).toNat dfC] := by
        unfold dupM; rw [if_pos hp]
      refine ⟨fun _ => ⟨by omega, ⟨by rw [hm]; exact Int.natCast_nonneg _, by rw [hm, htl]; omega⟩, by rw [hm, htl, Int.toNat_natCast]; exact hml, Nat.le_refl _, by rw [htl]; omega, ⟨⟨0, Nat.zero_le _⟩, rfl, rfl, hd.symm⟩, ?_⟩, fun h => absurd hp h⟩
    case' neg =>
      have hd : dupM (((f : Int), (w : Int), li), cs, ks) a b = turnsM (((f : Int), (w : Int), li), cs, ks) a b cs.length := by
        unfold dupM; rw [if_neg hp]
      refine ⟨fun h => absurd h hp, fun _ => ⟨⟨⟨0, Nat.zero_le _⟩, rfl, rfl, hd.symm⟩, ?_⟩⟩
    all_goals
      intro t
      refine ⟨fun ht2 => ?_, fun ht2 => ?_⟩
      · obtain ⟨i, hi⟩ := t
        have hlt : i < ks.length := by have h0 : (i : Int) < (ks.length : Int) := ht2; omega
        refine ⟨⟨Int.natCast_nonneg _, ht2⟩, hlt, ⟨hfw.1, hfw.2, hab.1, hab.2, hok _ (hk.known _ (getD_mem dfW hlt))⟩, Nat.le_refl _, by rw [List.length_map, List.length_take]; omega, ⟨i + 1, hlt⟩, ⟨sucI i (by omega), ?_⟩, dec1 hlt⟩
        show _ = List.map (turnWM f w a b) (ks.take (i + 1))
        rw [take_snoc ks i hlt dfW, List.map_append]
        rfl
      · obtain ⟨i, hi⟩ := t
        have hie : i = ks.length := by have h0 : ¬ (i : Int) < (ks.length : Int) := ht2; omega
        subst hie
        have hml : (ks.map (turnWM f w a b)).length < 1000 := by rw [List.length_map]; exact hl2
        have hy : ((((f : Int), (w : Int), li), dupM (((f : Int), (w : Int), li), cs, ks) a b, ks.map (turnWM f w a b)) : HT) = turnHM (((f : Int), (w : Int), li), cs, ks) a b := rfl
        have hcr := clash_range _ hk
        have hcr2 := clash_range _ hyk
        have hsp : List.take cs.length (List.drop 0 cs) = cs := by simp
        have hsq : List.take ks.length (List.drop 0 ks) = ks := by simp
        simp only [List.take_length, hy, hT.count, hT.liars, hT.clash.1, hT.clash.2, hsp, hsq, List.nil_append]
        refine ⟨Nat.le_refl _, by omega, Nat.le_refl _, by omega, ⟨hl1, hl2⟩, ⟨hdl, hml⟩, ⟨hl1, hl2⟩, ⟨hdl, hml⟩, ⟨hl1, hl2⟩, ⟨hdl, hml⟩, ?_⟩
        simp only [bne_self_eq_false, BEq.rfl, Bool.and_true, Bool.not_true, Bool.false_eq_true, false_implies, true_and, forall_const]
        refine ⟨fun h => absurd h (by omega), fun _ => ⟨fun h => absurd h (by omega), fun _ => ⟨hcr, hcr2, ⟨⟨0, Nat.zero_le _⟩, rfl, trivial⟩, fun t => ⟨fun ht => ?_, fun _ => ⟨⟨⟨0, Nat.zero_le _⟩, rfl⟩, fun t => ⟨fun ht => ?_, fun _ => ⟨fun _ => trivial, fun hwo0 => ?_⟩⟩⟩⟩⟩⟩⟩
        · obtain ⟨i, hi⟩ := t
          have hlt : i < cs.length := by have h0 : (i : Int) < (cs.length : Int) := ht; omega
          exact ⟨⟨Int.natCast_nonneg _, ht⟩, hlt, ⟨Int.natCast_nonneg _, ht⟩, hlt, ⟨i + 1, hlt⟩, sucI i (by omega), dec1 hlt⟩
        · obtain ⟨i, hi⟩ := t
          have hlt : i < ks.length := by have h0 : (i : Int) < (ks.length : Int) := ht; omega
          exact ⟨⟨Int.natCast_nonneg _, ht⟩, hlt, ⟨Int.natCast_nonneg _, ht⟩, hlt, ⟨i + 1, hlt⟩, sucI i (by omega), dec1 hlt⟩
        · have hwo : wordM (f : Int) (w : Int) (p, n, q) = true := by simpa using hwo0
          have hwn' : wordM (f : Int) (w : Int) (p, n, !q) = true := hwo
          obtain ⟨hR, hP1, hP2⟩ := hTW (p, n, q) hwo
          have hn := hok _ hwo
          have r1 : (ruleM (((f : Int), (w : Int), li), cs, ks) (p, n, !q)).2 = (ruleM (((f : Int), (w : Int), li), cs, ks) (p, n, q)).2 := by
            rw [rule_some hh, rule_some hh]
            show (if wordM (f : Int) (w : Int) (p, n, !q) = true then _ else _ : Int × Int).2 = (if wordM (f : Int) (w : Int) (p, n, q) = true then _ else _ : Int × Int).2
            rw [hwo, hwn', if_pos rfl, if_pos rfl]
            split <;> rfl
          have r2 : (ruleM (((f : Int), (w : Int), li), cs, ks) (p, n, q)).2 = 0 → IntKind.i64.wrap ((ruleM (((f : Int), (w : Int), li), cs, ks) (p, n, q)).1 + (ruleM (((f : Int), (w : Int), li), cs, ks) (p, n, !q)).1) = 2 := fun h => by
            have hpos : 0 < (allH (((f : Int), (w : Int), li), cs, ks)).length := by
              rw [rule_some hh] at h
              have h' : (if wordM (f : Int) (w : Int) (p, n, q) = true then (if ((allH (((f : Int), (w : Int), li), cs, ks)).length : Int) > 0 then (verdictM (allH (((f : Int), (w : Int), li), cs, ks)) (p, n, q), 0) else (0, 10)) else (0, 2) : Int × Int).2 = 0 := h
              rw [hwo, if_pos rfl] at h'
              split at h'
              · omega
              · exact absurd h' (by decide)
            have := rule_not hh hpos hwo fun t => right_not t (p, n, q)
            rw [this]; rfl
          have hpr := proof_range (((f : Int), (w : Int), li), cs, ks) (p, n, q) hk
          have hpr2 := proof_range (turnHM (((f : Int), (w : Int), li), cs, ks) a b) (turnWM f w a b (p, n, q)) hyk
          simp only [hR, r1, hP1, hP2, BEq.rfl, Bool.true_eq_false, Bool.false_eq_true, false_implies, true_and, and_true, forall_const]
          refine ⟨⟨hl1, hl2⟩, ⟨hfw.1, hfw.2, hab.1, hab.2, hn⟩, ⟨hdl, hml⟩, ⟨hl1, hl2⟩, ⟨hl1, hl2⟩, ⟨hfw.1, hfw.2, hab.1, hab.2, hn⟩, ⟨hdl, hml⟩, fun _ => ?_, fun he => ?_⟩
          · refine ⟨fun _ => ⟨fun _ => ⟨hpr, hpr2⟩, fun h => absurd hpr2.1 h⟩, fun h => absurd hpr.1 h⟩
          · have he' : (ruleM (((f : Int), (w : Int), li), cs, ks) (p, n, q)).2 = 0 := by simpa using he
            rw [r2 he']
            refine ⟨fun _ => ⟨fun _ => ⟨fun _ => ⟨hpr, hpr2⟩, fun h => absurd hpr2.1 h⟩, fun h => absurd hpr.1 h⟩, fun h => absurd h (by decide)⟩

theorem lawU_sound : Sound Try.prog 11 lawUS.con := FSpec.sound _ (enter_of Try.func11 (by kernel_rfl) (by kernel_rfl)) lawU_ok
end AE.Pr

namespace AE
open Go Go.ChangeShapes Go.WideShapes

theorem Keeps.but {w w' : World} (h : Keeps (fun _ => False) w w') (may : MemPlace → Prop) : w.keptBut w' may := by
  refine ⟨h.os, h.output, fun i hi => ?_⟩
  have hb := h.block i hi fun h => h
  rw [hb]
  exact (World.keptBut_refl w may).2.2 i hi
theorem Keeps.frozen {w w' : World} (h : Keeps (fun _ => False) w w') (a : Addr) (ha : a.block < w.heap.size) : w'.frozen? a = w.frozen? a := by
  unfold World.frozen?
  rw [h.block a.block ha fun h => h]
theorem post_of_keeps {P : Program} {H : Type} {enc : TypeId × Value → H} {f : Func} {s : ChangeSpec} {apart fresh handsOn again : Bool} {W W' : World} {args : Array Value} {v : Value} {ds gs : List (DataW H)} {before pa pv : List MemPlace}
    (hW : DataW.Whole enc P f.params.toList s.vars apart W args.toList ds gs before)
    (hres : ∀ (b : Nat) (sp : Nat → Bool) (hd : Bool), DataW.TrodAll enc P W' b sp hd f.resultTypes.toList (v.resultList f.resultTypes.size) (s.fn H (ds ++ gs)).results [])
    (hargs : ∀ sp : Nat → Bool, (∀ p ∈ before, sp p.block = true) → DataW.TrodAll enc P W' 0 sp true f.params.toList args.toList (s.fn H (ds ++ gs)).args pa)
    (hvars : ∀ sp : Nat → Bool, (∀ p ∈ before, sp p.block = true) → DataW.TrodVars enc P W' sp s.vars (s.fn H (ds ++ gs)).vars pv)
    (hps : before = pa ++ pv) (hk : Keeps (fun _ => False) W W')
    (hok : ∀ (j : Nat) (t : TypeId) (r : Value), f.resultTypes[j]? = some t → (v.resultList f.resultTypes.size)[j]? = some r → Value.okWide P W' .any 0 t r) :
    s.post enc P f apart fresh handsOn again W args v W' := by
  have hlt := hW.lt
  have hold : ∀ p ∈ before, (fun b => decide (b < W.heap.size)) p.block = true := fun p hp => by simpa using hlt p hp
  have hb : ∀ p, p ∈ [] ++ pa ++ pv ↔ p ∈ before := fun p => by rw [hps, List.nil_append]
  refine ⟨ds, gs, before, [], pa, pv, hW, hres _ _ _, hargs _ hold, hvars _ hold, World.keptBut_mono (fun p hp => ⟨hp, ?_⟩) (hk.but _), fun _ => ?_⟩
  · exact Or.inr (List.mem_append.1 (hps ▸ hp))
  · obtain ⟨_, _, _, _, _, hz, hn⟩ := hW
    refine ⟨hok, _, _, [] ++ pa ++ pv, ⟨[] ++ pa, pv, trodAll_append (hargs _ (fun _ _ => rfl)) (hres _ _ _), hvars _ (fun _ _ => rfl), rfl, fun b off hp => ?_, fun ha => ?_⟩, fun p hp _ => (hb p).1 hp⟩
    · have hp' := (hb _).1 hp
      rw [hk.frozen _ (hlt _ hp')]
      exact hz b off hp'
    · have := hn ha
      rwa [hps, ← List.nil_append pa] at this
end AE

namespace AE
open Go Go.ChangeShapes Go.WideShapes Go.RowKit

theorem Keeps.below {w w' : World} (h : Keeps (fun _ => False) w w') : Below w.heap.size w w' :=
  ⟨h.os, h.tape, h.output, h.size, fun k hk => h.block k hk fun e => e⟩

/-- What a cell of a flat type holds. -/
inductive FK where
  | int (k : IntKind)
  | bool
def FK.ok : FK → Value → Prop
  | .int k, v => ∃ n, v = .int k n ∧ (Lit.int k n).wf = true
  | .bool, v => ∃ b, v = .bool b
def FKs : List FK → List Value → Prop
  | [], vs => vs = []
  | k :: ks, vs => ∃ v r, vs = v :: r ∧ k.ok v ∧ FKs ks r
theorem FKs.append : ∀ {a b : List FK} {x y : List Value}, FKs a x → FKs b y → FKs (a ++ b) (x ++ y)
  | [], _, _, _, h, k => by cases h; exact k
  | _ :: _, _, _, _, ⟨v, r, e, h1, h2⟩, k => ⟨v, _, by rw [e]; rfl, h1, h2.append k⟩
theorem FKs.length : ∀ {a : List FK} {x : List Value}, FKs a x → x.length = a.length
  | [], _, h => by cases h; rfl
  | _ :: _, _, ⟨v, r, e, _, h⟩ => by rw [e, List.length_cons, List.length_cons, h.length]

mutual
def flat (P : Program) : Nat → TypeId → Option (List FK)
  | 0, _ => none
  | n + 1, t => match P.underlying t with
    | some .bool => some [.bool]
    | some (.int k) => some [.int k]
    | some (.struct fs) => flatFs P n 0 fs.toList
    | _ => none
def flatFs (P : Program) : Nat → Nat → List Field → Option (List FK)
  | _, _, [] => some []
  | 0, _, _ :: _ => none
  | n + 1, o, f :: fs => match Nat.beq f.offset o, flat P n f.type with
    | true, some l => match Nat.beq (P.cellsOf f.type) l.length, flatFs P n (o + l.length) fs with
      | true, some r => some (l ++ r)
      | _, _ => none
    | _, _ => none
end

section
variable {H : Type} {enc : TypeId × Value → H} {P : Program} {w : World} {base : Nat} {spare : Nat → Bool} {held : Bool}
mutual
theorem flat_ok : ∀ (n : Nat) {t : TypeId} {ks : List FK} {fuel : Nat} {cs : List Value} {x : DataW H × List MemPlace}, flat P n t = some ks → P.cellsOf t = ks.length → DataW.trod enc P w base spare held fuel t cs = some x → FKs ks cs
  | 0, t, ks, fuel, cs, x, h, _, _ => by simp [flat] at h
  | n + 1, t, ks, fuel, cs, x, h, hc, hx => by
    unfold flat at h
    split at h
    · rename_i hu
      cases h
      cases fuel with
      | zero => simp [DataW.trod] at hx
      | succ m =>
        unfold DataW.trod at hx
        rw [hu] at hx
        split at hx <;> first | (simp_all; done) | skip
        rename_i b _ _
        exact ⟨_, _, rfl, ⟨_, rfl⟩, rfl⟩
    · rename_i k hu
      cases h
      cases fuel with
      | zero => simp [DataW.trod] at hx
      | succ m =>
        unfold DataW.trod at hx
        rw [hu] at hx
        split at hx <;> first | (simp_all; done) | skip
        split at hx
        · rename_i k1 _ _ he hh
          have he' : k = k1 := by simpa using he
          subst he'
          obtain ⟨rfl, hh⟩ := hh
          exact ⟨_, _, rfl, ⟨_, rfl, hh⟩, rfl⟩
        · cases hx
    · rename_i fs hu
      obtain ⟨xs, m, _, _, hl, hlen, hf⟩ := DataW.trod_struct hu hx
      have := flatFs_ok n (cs := cs) h (fun f hm => by
        obtain ⟨i, hi, rfl⟩ := List.getElem_of_mem hm
        have h1 : i < fs.size := by simpa using hi
        have h2 := hf i fs[i] (Array.getElem?_eq_getElem h1)
        rw [List.getElem?_eq_getElem (by omega)] at h2
        exact ⟨_, m, by rw [Array.getElem_toList]; exact h2⟩) (by rw [hl, hc]; omega)
      simpa using this
    · cases h
theorem flatFs_ok : ∀ (n : Nat) {o : Nat} {fs : List Field} {ks : List FK} {cs : List Value}, flatFs P n o fs = some ks →
    (∀ f ∈ fs, ∃ y m, DataW.trod enc P w base spare held m f.type ((cs.drop f.offset).take (P.cellsOf f.type)) = some y) → cs.length = o + ks.length → FKs ks (cs.drop o)
  | n, o, [], ks, cs, h, _, hl => by
    have : ks = [] := by cases n <;> simpa [flatFs] using h.symm
    subst this
    show cs.drop o = []
    exact List.drop_eq_nil_of_le (by simpa using Nat.le_of_eq hl)
  | 0, o, f :: fs, ks, cs, h, _, _ => by simp [flatFs] at h
  | n + 1, o, f :: fs, ks, cs, h, hf, hl => by
    unfold flatFs at h
    split at h
    case h_2 => cases h
    rename_i l ho hfl
    split at h
    case h_2 => cases h
    rename_i r hc hr
    cases h
    replace ho := Nat.eq_of_beq_eq_true ho
    replace hc := Nat.eq_of_beq_eq_true hc
    obtain ⟨y, m, hy⟩ := hf f (List.mem_cons_self ..)
    have h1 := flat_ok n hfl hc hy
    have h2 := flatFs_ok n (cs := cs) hr (fun g hg => hf g (List.mem_cons_of_mem _ hg)) (by rw [hl, List.length_append]; omega)
    rw [ho, hc] at h1
    have h3 := h1.append h2
    rw [← List.drop_drop, List.take_append_drop] at h3
    exact h3
end

theorem cells_get {a : Addr} {n : Nat} {cs : List Value} (h : w.cells? base a n = some cs) : cs.length = n ∧ ∀ j, j < n → w.cell? (a.add j) = cs[j]? := by
  unfold World.cells? at h
  split at h
  · exact ⟨by simpa using mapM_some_length h, fun j hj => mapM_some_get h j j (by simp [hj])⟩
  · cases h

theorem cell_spot {a : Addr} {v : Value} (h : w.cell? a = some v) : a.spot = none := by
  unfold World.cell? at h
  split at h
  · split at h
    · cases h
    · rename_i hs; simpa using hs
  · cases h

/-- A slice of flat elements, read as data, is a row of the executor's memory. -/
theorem row_of_trodQ {U : Uni} (c : U.C) (Q : U.ty c → Prop) {t e : TypeId} {ks : List FK} {n fuel : Nat} {v : Value} {x : DataW H × List MemPlace} (ht : P.underlying t = some (.slice e)) (hfl : flat P n e = some ks) (hce : P.cellsOf e = ks.length) (hsz : ks.length = U.sz c) (hpos : 0 < ks.length)
    (hdec : ∀ cs, FKs ks cs → ∃ x, U.enc c x = cs.map .v ∧ Q x) (h : DataW.trod enc P w base spare held fuel t [v] = some x) :
    ∃ (l : List (U.ty c)) (p : Place), l.length < 9223372036854775808 ∧ (∀ x ∈ l, Q x) ∧ (∀ π, BlkOk π w p (.ro c l)) ∧ ∀ (π : Plc) (id k : Nat), π id k = some p → Rep π (.sl id k 0 l.length) v := by
  rcases DataW.trod_slice ht h with ⟨h0, _⟩ | ⟨a, len, cap, elems, rest, m, _, hv, _, hb, hl, hm, hlen, hel, _, _⟩
  · cases h0
    refine ⟨[], ⟨0, 0, U.sz c, none, 0, 0⟩, by simp, fun x hx => by simp at hx, fun π => ⟨rfl, fun i x hi => by simp at hi⟩, fun π id k _ => ?_⟩
    simp only [Rep]
    exact ⟨none, 0, rfl, Nat.le_refl _, fun h => absurd h (Nat.lt_irrefl 0)⟩
  · cases hv
    have each : ∀ i, i < len → ∃ x : U.ty c, Q x ∧ ∀ j a1, (U.enc c x)[j]? = some a1 → ∃ y, w.cell? ((a.add (i * P.cellsOf e)).add j) = some y ∧ a1 = .v y := by
      intro i hi
      have h1 := hel i hi
      rw [List.getElem?_eq_getElem (by omega), Option.bind_eq_some_iff] at h1
      obtain ⟨cs, hcs, htr⟩ := h1
      obtain ⟨hcl, hcg⟩ := cells_get hcs
      obtain ⟨x, hx, hQ⟩ := hdec cs (flat_ok n hfl hce htr)
      refine ⟨x, hQ, fun j a1 hj => ?_⟩
      rw [hx, List.getElem?_map] at hj
      cases hc : cs[j]? with
      | none => rw [hc] at hj; cases hj
      | some y =>
        rw [hc] at hj
        have hjl := (List.getElem?_eq_some_iff.1 hc).1
        exact ⟨y, by rw [hcg j (by omega), hc], by simpa using hj.symm⟩
    have spot : 0 < len → a.spot = none := by
      intro h0
      obtain ⟨x, _, hx⟩ := each 0 h0
      have hl2 := U.len c x
      obtain ⟨y, hy, _⟩ := hx 0 ((U.enc c x)[0]'(by omega)) (List.getElem?_eq_getElem _)
      have h9 : (a.add (0 * P.cellsOf e)).add 0 = a := by simp [Addr.add]
      rw [h9] at hy
      exact cell_spot hy
    have : ∃ l : List (U.ty c), l.length = len ∧ ∀ i x, l[i]? = some x → Q x ∧ ∀ j a1, (U.enc c x)[j]? = some a1 → ∃ y, w.cell? ((a.add (i * P.cellsOf e)).add j) = some y ∧ a1 = .v y := by
      refine ⟨(List.range len).pmap (fun i hi => (each i hi).choose) (fun i hi => List.mem_range.1 hi), by simp, fun i x hi => ?_⟩
      rw [List.getElem?_pmap] at hi
      by_cases h0 : i < len
      · rw [Option.pmap_eq_some_iff] at hi
        obtain ⟨i', h1, h2, rfl⟩ := hi
        have : i' = i := by rw [List.getElem?_range h0] at h2; exact (Option.some.inj h2).symm
        subst this
        exact (each i' h1).choose_spec
      · simp [List.getElem?_eq_none (show (List.range len).length ≤ i by simp; omega)] at hi
    obtain ⟨l, hll, hl2⟩ := this
    have hQl : ∀ x ∈ l, Q x := fun x hx => by
      obtain ⟨i, hi⟩ := List.getElem?_of_mem hx
      exact (hl2 i x hi).1
    have hml : maxLen = 9223372036854775807 := by decide
    refine ⟨l, ⟨a.block, a.off, U.sz c, none, 0, 0⟩, by omega, hQl, fun π => ⟨rfl, fun i x hi j a1 hj => ?_⟩, fun π id k hp => ?_⟩
    · obtain ⟨y, hy, rfl⟩ := (hl2 i x hi).2 j a1 hj
      have hi' := (List.getElem?_eq_some_iff.1 hi).1
      have hs := spot (by omega)
      refine ⟨y, ?_, by simp [Rep]⟩
      rw [← hy]
      congr 1
      cases a
      simp only at hs
      subst hs
      simp only [Addr.add, hce, hsz]
      split <;> split <;> simp_all
    · simp only [Rep]
      refine ⟨some a, cap, by rw [hll], by omega, fun h0 => ⟨_, hp, ?_⟩⟩
      have hs := spot (by omega)
      cases a
      simp only at hs
      subst hs
      simp
/-- A slice of flat elements, read as data, is a row of the executor's memory. -/
theorem row_of_trod {U : Uni} (c : U.C) {t e : TypeId} {ks : List FK} {n fuel : Nat} {v : Value} {x : DataW H × List MemPlace} (ht : P.underlying t = some (.slice e)) (hfl : flat P n e = some ks) (hce : P.cellsOf e = ks.length) (hsz : ks.length = U.sz c) (hpos : 0 < ks.length)
    (hdec : ∀ cs, FKs ks cs → ∃ x, U.enc c x = cs.map .v) (h : DataW.trod enc P w base spare held fuel t [v] = some x) :
    ∃ (l : List (U.ty c)) (p : Place), l.length < 9223372036854775808 ∧ (∀ π, BlkOk π w p (.ro c l)) ∧ ∀ (π : Plc) (id k : Nat), π id k = some p → Rep π (.sl id k 0 l.length) v := by
  obtain ⟨l, p, a, _, b, d⟩ := row_of_trodQ c (fun _ => True) ht hfl hce hsz hpos (fun cs hc => by
    obtain ⟨x, hx⟩ := hdec cs hc
    exact ⟨x, hx, trivial⟩) h
  exact ⟨l, p, a, b, d⟩
end

/-- Rows that are only read, as memory. -/
def rosPlc (ps : List Place) : Plc := fun id k => if k = 0 then ps[id]? else none
theorem rosPlc_fresh (ps : List Place) : Fresh (rosPlc ps) ps.length := by
  intro id k h
  unfold rosPlc
  split
  · rw [List.getElem?_eq_none h]
  · rfl
def roH {U : Uni} (bs : List ((c : U.C) × List (U.ty c))) : Heap U := bs.map fun b => .one (.ro b.1 b.2)
theorem roH_at {U : Uni} {bs : List ((c : U.C) × List (U.ty c))} {id k : Nat} {b : AB1 U} (h : (roH bs).at id k = some b) : k = 0 ∧ ∃ c, bs[id]? = some c ∧ b = .ro c.1 c.2 := by
  unfold Heap.at roH at h
  rw [List.getElem?_map] at h
  cases hb : bs[id]? with
  | none => rw [hb] at h; cases h
  | some c =>
    rw [hb] at h
    simp only [Option.map_some] at h
    split at h
    · rename_i e; exact ⟨e, c, rfl, by simpa using h.symm⟩
    · cases h
theorem roH_conc {U : Uni} {w : World} {bs : List ((c : U.C) × List (U.ty c))} {ps : List Place} (hl : ps.length = bs.length) (h : ∀ (i : Nat) (b : (c : U.C) × List (U.ty c)) (p : Place), bs[i]? = some b → ps[i]? = some p → ∀ π, BlkOk (U := U) π w p (.ro b.1 b.2)) : Conc (rosPlc ps) (roH bs) w where
  ok := fun id k b hb => by
    obtain ⟨rfl, c, hc, rfl⟩ := roH_at hb
    have h1 := (List.getElem?_eq_some_iff.1 hc).1
    refine ⟨ps[id], ?_, h id c _ hc (List.getElem?_eq_getElem (by omega)) _⟩
    unfold rosPlc
    rw [if_pos rfl, List.getElem?_eq_getElem (by omega)]
  sep := fun id k b id' k' b' p p' hb _ _ ho => by
    obtain ⟨rfl, c, hc, rfl⟩ := roH_at hb
    cases ho
theorem roH_length {U : Uni} (bs : List ((c : U.C) × List (U.ty c))) : (roH bs).length = bs.length := by simp [roH]
/-- A call that owns nothing of its memory keeps all that was there. -/
theorem keeps_of_ro {U : Uni} {bs : List ((c : U.C) × List (U.ty c))} {w w' : World} {O : Nat → Prop} (h : Keeps O w w') (hO : ∀ n, ¬ O n) : Keeps (fun _ => False) w w' := h.weaken fun n _ hn => hO n hn

/-- Arguments read in a world that keeps all that was there as they read before. -/
theorem trodAll_stays {H : Type} {enc : TypeId × Value → H} {P : Program} (hl : laidOutB P = true) {W W' : World} {sp' : Nat → Bool} : ∀ {ts : List TypeId} {vs : List Value} {ds : List (DataW H)} {ps : List MemPlace},
    (ts.all fun t => P.readableRec t && decide (t < P.types.size)) = true → DataW.TrodAll enc P W 0 (fun _ => true) true ts vs ds ps → (∀ p ∈ ps, W.sameAt W' p) → (∀ p ∈ ps, sp' p.block = true) → DataW.TrodAll enc P W' 0 sp' true ts vs ds ps
  | [], [], [], _, _, h, _, _ => h
  | _ :: _, _ :: _, _ :: _, _, ht, ⟨p, q, h1, h2, e⟩, hs, hp => by
    simp only [List.all_cons, Bool.and_eq_true, decide_eq_true_eq] at ht
    exact ⟨p, q, WideElems.Trod_stays hl ht.1.1 ht.1.2 h1 (fun x hx => hs x (by rw [e]; exact List.mem_append_left _ hx)) (fun x hx => hp x (by rw [e]; exact List.mem_append_left _ hx)),
      trodAll_stays hl ht.2 h2 (fun x hx => hs x (by rw [e]; exact List.mem_append_right _ hx)) (fun x hx => hp x (by rw [e]; exact List.mem_append_right _ hx)), e⟩

/-- A law without named variables, by its walk: 'it returns true; the arguments read as they did'. -/
theorem law_lifted {C : Checked} {f : FuncId} {fn : Func} {s : ChangeSpec} {conds : List PathCond} (own : ownKnob C.prog.godebug = none) {os : Os} (started : os.Started) {H : Type} {enc : TypeId × Value → H} (noInit : C.prog.inits.idxOf? f = none) (hfn : C.prog.funcs[f]? = some fn)
    (witness : ∃ (w : World) (tape : Tape) (i : Input), w.os = os ∧ (w.forCall tape i).Shaped C.prog ∧ i.vars = [] ∧ Input.okWide C.prog (w.forCall tape i) .any w.heap.size f i ∧ s.pre6 enc C.prog fn conds false (w.forCall tape i).memory i.args ∧ ({} : Assume).holds C.prog (lone (Frame.enter C.prog f i.args .normal) [] (w.forCall tape i)))
    (hl : laidOutB C.prog = true) (hts : (fn.params.toList.all fun t => C.prog.readableRec t && decide (t < C.prog.types.size)) = true) {rt : TypeId} (hrt : fn.resultTypes = #[rt]) (hb : C.prog.underlying rt = some .bool)
    (hvars : s.vars = []) (hspec : ∀ ds : List (DataW H), ds.length = fn.params.size → (s.fn H ds).results = [.lit (.bool true)] ∧ (s.fn H ds).args = ds ∧ (s.fn H ds).vars = [])
    (walk : ∀ (W : World) (args : Array Value) (ds : List (DataW H)) (ps : List MemPlace), DataW.TrodAll enc C.prog W 0 (fun _ => true) true fn.params.toList args.toList ds ps → (∀ (j : Nat) t v, fn.params[j]? = some t → args[j]? = some v → ∃ base, Value.okWide C.prog W .any base t v) →
      Calls C.prog f args W fun e w' => e = .returned (.bool true) ∧ Keeps (fun _ => False) W w') :
    ReturnsInHanded {} C os f .any (s.pre6 enc C.prog fn conds false) (s.post enc C.prog fn false true false false) := by
  refine returnsInHanded_of_change (C := C) own started noInit hfn witness ?_
  intro W base args ds gs before hval hW hcnd _
  have hW' := hW
  obtain ⟨p, q, hA, hV, rfl, hfz, hnd⟩ := hW
  rw [hvars] at hV
  obtain ⟨rfl, rfl⟩ := trodVars_none hV
  simp only [List.append_nil] at hW'
  have hlen : ds.length = fn.params.size := by
    have : ∀ {ts : List TypeId} {vs : List Value} {ds : List (DataW H)} {ps : List MemPlace}, DataW.TrodAll enc C.prog W 0 (fun _ => true) true ts vs ds ps → ds.length = ts.length := by
      intro ts
      induction ts with
      | nil => intro vs ds ps h; obtain ⟨_, rfl, _⟩ := trodAll_nil h; rfl
      | cons t ts ih =>
        intro vs ds ps h
        obtain ⟨_, _, _, ds', _, _, _, rfl, _, _, h2⟩ := trodAll_cons h
        simp [ih h2]
    rw [this hA]; simp
  obtain ⟨s1, s2, s3⟩ := hspec (ds ++ []) (by simpa using hlen)
  refine (walk W args ds p hA fun j t v h1 h2 => ⟨base, hval j t v h1 h2⟩).mono fun e W' ⟨he, hg⟩ => ?_
  subst he
  refine ⟨_, rfl, post_of_keeps (pa := p) (pv := []) hW' (fun b sp hd => ?_) (fun sp hsp => ?_) (fun sp _ => ?_) (by simp) hg ?_⟩
  · rw [s1, hrt]
    exact trodAll_cons_mk (shut_bool hb _) trodAll_mk0
  · rw [s2, List.append_nil]
    have hlt := hW'.lt
    exact trodAll_stays hl hts hA (fun x hx => hg.below.same (by simpa using hlt x hx)) fun x hx => hsp x hx
  · rw [s3, hvars]; rfl
  · exact ok_one hrt rfl (okWide_bool_mk hb _)

theorem agg_of_cells {v : Value} {l : List Value} (h : v.cells.toList = l) (hl : l.length ≠ 1) : v = .agg l.toArray := by
  cases v with
  | agg cs => simp only [Value.cells] at h; rw [← h]
  | _ => simp only [Value.cells] at h; rw [← h] at hl; exact absurd rfl hl
theorem cells_of_one2 {v : Value} {x : Value} (hx : ∀ cs, v ≠ .agg cs) (h : v.cells.toList = [x]) : v = x := by
  cases v with
  | agg cs => exact absurd rfl (hx cs)
  | _ => simpa [Value.cells] using h
/-- A flat value read as data: its cells. -/
theorem flat_cells {H : Type} {enc : TypeId × Value → H} {P : Program} {w : World} {base : Nat} {spare : Nat → Bool} {held : Bool} {t : TypeId} {v : Value} {d : DataW H} {ps : List MemPlace} {ks : List FK} (n : Nat) (hfl : flat P n t = some ks) (hce : P.cellsOf t = ks.length) (h : DataW.Trod enc P w base spare held t v d ps) : FKs ks v.cells.toList := by
  obtain ⟨fuel, h⟩ := h
  exact flat_ok n hfl hce h
theorem flat_agg {H : Type} {enc : TypeId × Value → H} {P : Program} {w : World} {base : Nat} {spare : Nat → Bool} {held : Bool} {t : TypeId} {v : Value} {d : DataW H} {ps : List MemPlace} {ks : List FK} (n : Nat) (hfl : flat P n t = some ks) (hce : P.cellsOf t = ks.length) (hne : ks.length ≠ 1) (h : DataW.Trod enc P w base spare held t v d ps) : ∃ l, FKs ks l ∧ v = .agg l.toArray := by
  have h1 := flat_cells n hfl hce h
  exact ⟨_, h1, agg_of_cells rfl (by rw [h1.length]; exact hne)⟩
theorem RepL.ofV {π : Plc} : ∀ (l : List Value), RepL π (l.map .v) l
  | [] => RepL.nil π
  | x :: l => RepL.cons (by simp [Rep]) (RepL.ofV l)
end AE

namespace AE.Pr
open Go AE Go.Proofs Go.ChangeShapes Go.WideShapes Go.RowKit

theorem laidOut : laidOutB Try.prog = true := by kernel_rfl
theorem flatW : flat Try.prog 30 27 = some [.bool, .int .i64, .bool] := by kernel_rfl
theorem flatC : flat Try.prog 30 67 = some [.int .i64, .int .i64, .bool, .int .i64, .bool, .bool, .int .i64, .bool] := by kernel_rfl
theorem decW (cs : List Value) (h : FKs [.bool, .int .i64, .bool] cs) : ∃ w : W3, cs = [.bool w.1, .int .i64 w.2.1, .bool w.2.2] := by
  obtain ⟨_, _, rfl, ⟨a, rfl⟩, _, _, rfl, ⟨b, rfl, _⟩, _, _, rfl, ⟨c, rfl⟩, h⟩ := h
  cases h
  exact ⟨(a, b, c), rfl⟩
theorem decC (cs : List Value) (h : FKs [.int .i64, .int .i64, .bool, .int .i64, .bool, .bool, .int .i64, .bool] cs) : ∃ x : Cl, CC.enc .claim x = cs.map .v := by
  obtain ⟨_, _, rfl, ⟨a, rfl, _⟩, _, _, rfl, ⟨b, rfl, _⟩, _, _, rfl, ⟨c, rfl⟩, _, _, rfl, ⟨d, rfl, _⟩, _, _, rfl, ⟨e, rfl⟩, _, _, rfl, ⟨f, rfl⟩, _, _, rfl, ⟨g, rfl, _⟩, _, _, rfl, ⟨i, rfl⟩, h⟩ := h
  cases h
  exact ⟨(a, b, (c, d, e), (f, g, i)), rfl⟩

section
variable {H : Type} {enc : TypeId × Value → H} {w : World} {d : DataW H} {ps : List MemPlace} {v : Value}
theorem open_word (h : DataW.Trod enc Try.prog w 0 (fun _ => true) true 27 v d ps) : ∃ x : W3, ∀ π, Rep π (vW x) v := by
  obtain ⟨l, hl, rfl⟩ := flat_agg 30 flatW (by kernel_rfl) (by decide) h
  obtain ⟨x, rfl⟩ := decW l hl
  refine ⟨x, fun π => ?_⟩
  simp only [vW, Rep]
  exact ⟨_, rfl, RepL.cons (by simp [Rep]) (RepL.cons (by simp [Rep]) (RepL.cons (by simp [Rep]) (RepL.nil π)))⟩
set_option maxRecDepth 100000 in
theorem open_hearing (h : DataW.Trod enc Try.prog w 0 (fun _ => true) true 25 v d ps) :
    ∃ (x : HT) (p q : Place), bigH x ∧ (∀ π, BlkOk π w p (.ro (U := UU) .claim x.2.1)) ∧ (∀ π, BlkOk π w q (.ro (U := UU) .word x.2.2)) ∧ ∀ π : Plc, π 0 0 = some p → π 1 0 = some q → Rep π (vH x) v := by
  obtain ⟨fuel, h⟩ := h
  obtain ⟨xs, m, _, _, hl, hlen, hf⟩ := DataW.trod_struct Try.underlying25 h
  have hc : Try.prog.cellsOf 25 = 5 := by kernel_rfl
  have c3 : Try.prog.cellsOf 3 = 1 := by kernel_rfl
  have c22 : Try.prog.cellsOf 22 = 1 := by kernel_rfl
  have c23 : Try.prog.cellsOf 23 = 1 := by kernel_rfl
  have fl3 : flat Try.prog 30 3 = some [.int .i64] := by kernel_rfl
  rw [hc] at hl
  have hv := agg_of_cells (v := v) rfl (by omega)
  obtain ⟨l, hl2⟩ : ∃ l, v.cells.toList = l := ⟨_, rfl⟩
  rw [hl2] at hl hv hf
  subst hv
  have hx : ∀ i, i < 5 → ∃ y, xs[i]? = some y := fun i hi => ⟨_, List.getElem?_eq_getElem (by have : xs.length = 5 := hlen; omega)⟩
  match l, hl with
  | [a, b, c, e, g], _ =>
  obtain ⟨y0, e0⟩ := hx 0 (by omega)
  obtain ⟨y1, e1⟩ := hx 1 (by omega)
  obtain ⟨y2, e2⟩ := hx 2 (by omega)
  obtain ⟨y3, e3⟩ := hx 3 (by omega)
  obtain ⟨y4, e4⟩ := hx 4 (by omega)
  have f0 : DataW.trod enc Try.prog w 0 (fun _ => true) true m 3 (([a, b, c, e, g].drop 0).take (Try.prog.cellsOf 3)) = xs[0]? := hf 0 _ rfl
  have f1 : DataW.trod enc Try.prog w 0 (fun _ => true) true m 3 (([a, b, c, e, g].drop 1).take (Try.prog.cellsOf 3)) = xs[1]? := hf 1 _ rfl
  have f2 : DataW.trod enc Try.prog w 0 (fun _ => true) true m 3 (([a, b, c, e, g].drop 2).take (Try.prog.cellsOf 3)) = xs[2]? := hf 2 _ rfl
  have f3 : DataW.trod enc Try.prog w 0 (fun _ => true) true m 22 (([a, b, c, e, g].drop 3).take (Try.prog.cellsOf 22)) = xs[3]? := hf 3 _ rfl
  have f4 : DataW.trod enc Try.prog w 0 (fun _ => true) true m 23 (([a, b, c, e, g].drop 4).take (Try.prog.cellsOf 23)) = xs[4]? := hf 4 _ rfl
  rw [e0, c3] at f0
  rw [e1, c3] at f1
  rw [e2, c3] at f2
  rw [e3, c22] at f3
  rw [e4, c23] at f4
  obtain ⟨_, _, h0, ⟨n0, rfl, _⟩, r0⟩ := flat_ok 30 fl3 c3 f0
  obtain ⟨_, _, h1, ⟨n1, rfl, _⟩, r1⟩ := flat_ok 30 fl3 c3 f1
  obtain ⟨_, _, h2, ⟨n2, rfl, _⟩, r2⟩ := flat_ok 30 fl3 c3 f2
  have h0' : a = .int .i64 n0 := (List.cons.inj h0).1
  have h1' : b = .int .i64 n1 := (List.cons.inj h1).1
  have h2' : c = .int .i64 n2 := (List.cons.inj h2).1
  obtain ⟨cs, p, hcs, hp, hpr⟩ := row_of_trod (U := UU) CC.claim Try.underlying22 flatC (by kernel_rfl) rfl (by decide) decC f3
  obtain ⟨ks, q, hks, hq, hqr⟩ := row_of_trod (U := UU) CC.word Try.underlying23 flatW (by kernel_rfl) rfl (by decide) (fun cs h => by
    obtain ⟨x, rfl⟩ := decW cs h
    exact ⟨x, rfl⟩) f4
  refine ⟨((n0, n1, n2), cs, ks), p, q, ⟨hcs, hks⟩, hp, hq, fun π h3 h4 => ?_⟩
  subst h0' h1' h2'
  simp only [vH, Rep]
  exact ⟨_, rfl, RepL.cons (by simp [Rep]) (RepL.cons (by simp [Rep]) (RepL.cons (by simp [Rep]) (RepL.cons (hpr π 0 0 h3) (RepL.cons (hqr π 1 0 h4) (RepL.nil π)))))⟩
end
theorem own_hH (x : HT) : hH x = roH (U := UU) [⟨CC.claim, x.2.1⟩, ⟨CC.word, x.2.2⟩] := rfl
/-- A law that takes a hearing and more: its walk. -/
theorem walk_of {f : FuncId} {W : World} {args : Array Value} {x : HT} {p q : Place} {al : List AV} (h : FunOk Try.prog f al (hH x) (.val ⟨.b true, [], [], []⟩)) (hp : ∀ π, BlkOk π W p (.ro (U := UU) .claim x.2.1)) (hq : ∀ π, BlkOk π W q (.ro (U := UU) .word x.2.2))
    (hr : RepL (rosPlc [p, q]) al args.toList) : Calls Try.prog f args W fun e w' => e = .returned (.bool true) ∧ Keeps (fun _ => False) W w' := by
  have hc : Conc (rosPlc [p, q]) (hH x) W := roH_conc (U := UU) (bs := [⟨CC.claim, x.2.1⟩, ⟨CC.word, x.2.2⟩]) rfl fun i b p' hb hp' π => by
    match i with
    | 0 => cases hb; cases hp'; exact hp π
    | 1 => cases hb; cases hp'; exact hq π
    | i + 2 => cases hb
  have hF := h (rosPlc [p, q]) W args.toList (rosPlc_fresh [p, q]) hc hr
  refine hF.mono fun e w' hh => ?_
  obtain ⟨v, πn, rfl, hpo⟩ := hh
  have hb := rep_v hpo.rep
  subst hb
  refine ⟨rfl, hpo.keeps.weaken fun n _ hn => ?_⟩
  obtain ⟨id, k, p, b0, hu, _⟩ := hn
  rcases hu with ⟨b, hb⟩ | hb <;> cases hb
end AE.Pr
