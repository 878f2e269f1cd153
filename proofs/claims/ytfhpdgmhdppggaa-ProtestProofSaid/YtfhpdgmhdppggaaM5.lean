/- An own symbolic executor for the model's code, and what the functions beneath the law compute, joined out of: PsE, PtG, PtD, PtE, PtF0, PtF1, PtH0, PtH, PrR, AeR, PsR. No condition. -/
import Derived.Test.YtfhpdgmhdppggaaM4
import Derived.Test.YtfhpdgmhdppggaaRows
import Derived.ProofKit
import Derived.OpenShut
import Derived.Below
import Derived.Carry
import Derived.ChangeArms

namespace AE.Pr
open Go AE Go.Proofs

/-! ### heavy -/
def heavyM (x : HT) (f w : Int) : Bool := decide (x.2.1.length > 60) || decide (x.2.2.length > 60) || (hearM x && (decide (x.1.1 > f) || decide (x.1.2.1 > w)))
def bigH (x : HT) : Prop := x.2.1.length < 9223372036854775808 ∧ x.2.2.length < 9223372036854775808
def heavyS : FSpec UU where
  X := HT × Int × Int
  pick := fun args H => match args with
    | [a, b, c] => match avH H a, avInt b, avInt c with
      | some a, some b, some c => some (a, b, c)
      | _, _, _ => none
    | _ => none
  args := fun x => [vH x.1, .i x.2.1, .i x.2.2]
  H := fun x => hH x.1
  R := fun x => .val ⟨.b (heavyM x.1 x.2.1 x.2.2), [], [], []⟩
  pre := fun x => bigH x.1
def Theavy : Tab UU := [(39, isHearingS.con)]
theorem Theavy_ok : Theavy.Sound Try.prog := .cons hearR_sound .nil
set_option maxHeartbeats 0 in
set_option maxRecDepth 100000 in
theorem heavy_ok : ∀ x, heavyS.pre x → FunOk Try.prog 12 (heavyS.args x) (heavyS.H x) (heavyS.R x) := by
  rintro ⟨⟨⟨f, w, li⟩, cs, ks⟩, mf, mw⟩ hl
  refine fun_of (T := Theavy) (L := fun _ => none) (hs := fun _ => []) hmix Theavy_ok Try.func12 (by kernel_rfl) (by kernel_rfl) ?_
  refine Eq.mp (α :=
      let Z0 := List.length cs; let Z1 := List.length ks; let Z5 := ks = ks; let Z7 := cs = cs; let Z13 := True ∧ Z7 ∧ Z5 ∧ True; let Z15 := ((f, w, li), cs, ks); let Z19 := Value.bool (heavyM Z15 mf mw); let Z20 := Z19 = Value.bool true; let Z24 := decide (f > mf); let Z25 := decide (max (↑Z0 : Int) (↑Z1 : Int) > (60 : Int)); (Z25 = true → True ∧ (Z20 ∧ True) ∧ Z13) ∧ (Z25 = false → (Z0 < nat_lit 1000 ∧ Z1 < nat_lit 1000) ∧ ((Value.int IntKind.i64 f = Value.int IntKind.i64 f ∧ Value.int IntKind.i64 w = Value.int IntKind.i64 w ∧ Value.int IntKind.i64 li = Value.int IntKind.i64 li ∧ (nat_lit 0 = nat_lit 0 ∧ nat_lit 0 = nat_lit 0 ∧ Z0 = Z0) ∧ (nat_lit 0 = nat_lit 0 ∧ nat_lit 0 = nat_lit 0 ∧ Z1 = Z1) ∧ True) ∧ True) ∧ (Z7 ∧ Z5 ∧ True) ∧ (hearM Z15 = true → (Z24 = true → True ∧ (Z20 ∧ True) ∧ Z13) ∧ (Z24 = false → True ∧ (Value.bool (decide (w > mw)) = Z19 ∧ True) ∧ Z13)) ∧ (hearM Z15 = false → True ∧ (Z19 = Value.bool false ∧ True) ∧ Z13)))
    (by kernel_rfl) ?_
  simp only [eq_self, true_and, and_true, Int.toNat_natCast, Nat.zero_add, Nat.sub_zero, Value.int.injEq, Value.bool.injEq, decide_eq_true_eq, decide_eq_false_iff_not]
  refine ⟨fun h => ?_, fun h => ⟨⟨by omega, by omega⟩, fun hh => ⟨fun h1 => ?_, fun h1 => ?_⟩, fun hh => ?_⟩⟩
  · unfold heavyM
    by_cases h1 : cs.length > 60
    · simp [h1]
    · have h2 : ks.length > 60 := by omega
      simp [h2]
  · simp [heavyM, hh, h1]
  · have a1 : ¬ cs.length > 60 := by omega
    have a2 : ¬ ks.length > 60 := by omega
    simp [heavyM, hh, h1, a1, a2]
  · have a1 : ¬ cs.length > 60 := by omega
    have a2 : ¬ ks.length > 60 := by omega
    simp only [heavyM, hh, a1, a2]; rfl

theorem heavy_sound : Sound Try.prog 12 heavyS.con := FSpec.sound _ (enter_of Try.func12 (by kernel_rfl) (by kernel_rfl)) heavy_ok
theorem heavy_no {x : HT} {f w : Int} (h : heavyM x f w = false) : okH x ∧ (hearM x = true → x.1.1 ≤ f ∧ x.1.2.1 ≤ w) := by
  simp only [heavyM, Bool.or_eq_false_iff, decide_eq_false_iff_not] at h
  refine ⟨⟨by omega, by omega⟩, fun hh => ?_⟩
  have h2 := h.2
  rw [hh] at h2
  simp only [Bool.true_and, Bool.or_eq_false_iff, decide_eq_false_iff_not] at h2
  omega

/-! ### ProtestTells -/
def tellsS : FSpec UU where
  X := HT × Int × Int × W3
  pick := fun args H => match args with
    | [a, b, c, d] => match avH H a, avInt b, avInt c, avW d with
      | some a, some b, some c, some d => some (a, b, c, d)
      | _, _, _, _ => none
    | _ => none
  args := fun x => [vH x.1, .i x.2.1, .i x.2.2.1, vW x.2.2.2]
  H := fun x => hH x.1
  R := fun _ => .val ⟨.b true, [], [], []⟩
  pre := fun x => bigH x.1
def Ttells : Tab UU := [(12, heavyS.con), (13, aliveS.con), (14, countS.con), (15, countRS.con), (16, (factS false).con), (17, (factS false).con), (18, (factS true).con), (19, (factS true).con), (20, ruleS.con), (21, ruleS.con)]
theorem Ttells_ok : Ttells.Sound Try.prog := .cons heavy_sound (.cons alive_sound (.cons count_sound (.cons countR_sound (.cons fact_sound (.cons factR_sound (.cons toldW_sound (.cons toldWR_sound (.cons rule_sound (.cons ruleR_sound .nil)))))))))
set_option maxHeartbeats 0 in
set_option maxRecDepth 100000 in
theorem tells_ok : ∀ x, tellsS.pre x → FunOk Try.prog 3 (tellsS.args x) (tellsS.H x) (tellsS.R x) := by
  rintro ⟨⟨⟨f, w, li⟩, cs, ks⟩, a, b, p, n, q⟩ hl
  refine fun_of (T := Ttells) (L := fun _ => none) (hs := fun _ => []) hmix Ttells_ok Try.func3 (by kernel_rfl) (by kernel_rfl) ?_
  refine Eq.mp (α :=
      let Z0 := Value.bool q; let Z1 := Value.bool p; let Z2 := Value.bool true; let Z3 := List.length ks; let Z4 := List.length cs; let Z5 := Value.bool false; let Z6 := (w, li); let Z7 := (n, q); let Z8 := Value.int IntKind.i64 a; let Z9 := Value.int IntKind.i64 li; let Z10 := Value.int IntKind.i64 n; let Z11 := Value.int IntKind.i64 f; let Z12 := Value.int IntKind.i64 w; let Z13 := Value.int IntKind.i64 b; let Z14 := (a, false); let Z16 := (6 : Int); let Z31 := Value.int IntKind.i64 Z16; let Z49 := cs = cs ∧ ks = ks ∧ True; let Z51 := Z4 < nat_lit 1000 ∧ Z3 < nat_lit 1000; let Z55 := ((f, Z6), cs, ks); let Z57 := countM Z55; let Z62 := True ∧ (Z2 = Z5 ∧ True) ∧ True ∧ Z49; let Z69 := ruleM Z55 (p, Z7); let Z71 := ruleM Z55 (true, b, false); let Z72 := ruleM Z55 (false, Z14); let Z81 := Z11 = Z11 ∧ Z12 = Z12 ∧ Z9 = Z9 ∧ (nat_lit 0 = nat_lit 0 ∧ nat_lit 0 = nat_lit 0 ∧ Z4 = Z4) ∧ (nat_lit 0 = nat_lit 0 ∧ nat_lit 0 = nat_lit 0 ∧ Z3 = Z3) ∧ True; let Z83 := Prod.fst Z57 == Prod.fst Z57; let Z84 := Prod.snd Z57 == Prod.snd Z57; let Z87 := Prod.snd Z69 == Prod.snd Z69; let Z88 := Prod.fst Z69 == Prod.fst Z69; let Z89 := Prod.snd Z71 == Prod.snd Z71; let Z90 := Prod.fst Z71 == Prod.fst Z71; let Z91 := Prod.fst Z72 == Prod.fst Z72; let Z92 := Prod.snd Z72 == Prod.snd Z72; (Z4 < nat_lit 9223372036854775808 ∧ Z3 < nat_lit 9223372036854775808) ∧ (Z81 ∧ Z31 = Z31 ∧ Z31 = Z31 ∧ True) ∧ Z49 ∧ (heavyM Z55 Z16 Z16 = true → True ∧ True ∧ True ∧ True ∧ (Z2 = Z2 ∧ True) ∧ True ∧ Z49) ∧ (heavyM Z55 Z16 Z16 = false → Z51 ∧ (Z81 ∧ True) ∧ Z49 ∧ Z51 ∧ (Z81 ∧ True) ∧ Z49 ∧ Z51 ∧ (Z81 ∧ Z8 = Z8 ∧ True) ∧ Z49 ∧ Z51 ∧ (Z81 ∧ Z8 = Z8 ∧ True) ∧ Z49 ∧ Z51 ∧ (Z81 ∧ Z13 = Z13 ∧ True) ∧ Z49 ∧ Z51 ∧ (Z81 ∧ Z13 = Z13 ∧ True) ∧ Z49 ∧ Z51 ∧ (Z81 ∧ (Z1 = Z1 ∧ Z10 = Z10 ∧ Z0 = Z0 ∧ True) ∧ True) ∧ Z49 ∧ Z51 ∧ (Z81 ∧ (Z1 = Z1 ∧ Z10 = Z10 ∧ Z0 = Z0 ∧ True) ∧ True) ∧ Z49 ∧ (Z83 = true → (Z84 = true → (Z91 = true → (Z92 = true → (Z90 = true → (Z89 = true → (Z88 = true → (Z87 = true → True ∧ True ∧ True ∧ True ∧ (Z2 = Z2 ∧ True) ∧ True ∧ Z49) ∧ (Z87 = false → Z62)) ∧ (Z88 = false → Z62)) ∧ (Z89 = false → Z62)) ∧ (Z90 = false → Z62)) ∧ (Z92 = false → Z62)) ∧ (Z91 = false → Z62)) ∧ (Z84 = false → Z62)) ∧ (Z83 = false → Z62)))
    (by kernel_rfl) ?_
  simp only [eq_self, true_and, and_true, Int.toNat_natCast, Nat.zero_add, Nat.sub_zero, Value.int.injEq, Value.bool.injEq, decide_eq_true_eq, decide_eq_false_iff_not]
  refine ⟨hl, fun _ => trivial, fun h => ?_⟩
  have h1 : cs.length < 1000 := (heavy_no h).1.1
  have h2 : ks.length < 1000 := (heavy_no h).1.2
  simp [h1, h2]

theorem tells_sound : Sound Try.prog 3 tellsS.con := FSpec.sound _ (enter_of Try.func3 (by kernel_rfl) (by kernel_rfl)) tells_ok
end AE.Pr

namespace AE.Pr
open Go AE Go.Proofs

/-- The claims of those who are heard. -/
def keepM (set : Int) (cs : List Cl) : List Cl := cs.filter fun c => hasM set c.1
/-- What the others say, of the first k witnesses; how many facts there are then. -/
def freeM (f set : Int) : Nat → List Cl × Int
  | 0 => ([], f)
  | k + 1 => if hasM set (k : Int) then freeM f set k else ((freeM f set k).1 ++ [((k : Int), 0, (false, (freeM f set k).2, false), dfW)], (freeM f set k).2 + 1)
def heardM (x : HT) (set : Int) : HT := (((freeM x.1.1 set x.1.2.1.toNat).2, x.1.2.1, x.1.2.2), keepM set x.2.1 ++ (freeM x.1.1 set x.1.2.1.toNat).1, x.2.2)
def canM (x : HT) (set : Int) : Bool := decide ((heardM x set).1.1 ≤ 6) && decide (((heardM x set).2.1.length : Int) ≤ 14)
theorem free_b (f set : Int) : ∀ k : Nat, f ≤ (freeM f set k).2 ∧ (freeM f set k).2 ≤ f + k ∧ (freeM f set k).1.length ≤ k
  | 0 => ⟨Int.le_refl _, by show f ≤ _; omega, by simp [freeM]⟩
  | k + 1 => by
    obtain ⟨h1, h2, h3⟩ := free_b f set k
    unfold freeM
    split
    · exact ⟨h1, by omega, by omega⟩
    · refine ⟨by show f ≤ _ + 1; omega, by show _ + 1 ≤ _; omega, ?_⟩
      simp; omega
theorem keep_len (set : Int) (cs : List Cl) : (keepM set cs).length ≤ cs.length := List.length_filter_le _ _
theorem keep_yes {set : Int} {cs : List Cl} {i : Nat} (hi : i < cs.length) (h : hasM set (cs.getD i dfC).1 = true) : keepM set (cs.take (i + 1)) = keepM set (cs.take i) ++ [cs.getD i dfC] := by
  unfold keepM
  rw [take_snoc cs i hi dfC, List.filter_append, List.filter_cons, if_pos h, List.filter_nil]
theorem keep_no {set : Int} {cs : List Cl} {i : Nat} (hi : i < cs.length) (h : hasM set (cs.getD i dfC).1 = false) : keepM set (cs.take (i + 1)) = keepM set (cs.take i) := by
  unfold keepM
  rw [take_snoc cs i hi dfC, List.filter_append, List.filter_cons, if_neg (by rw [h]; decide), List.filter_nil, List.append_nil]
theorem bit_i {n k : Int} (hn : 0 ≤ n ∧ n < 64) (hk : 0 ≤ k ∧ k < 6) : IntKind.i64.wrap ((BitVec.ofInt 64 (n.fdiv (2 ^ min k.toNat 64)) &&& BitVec.ofInt 64 1).toNat : Int) = if hasM n k then 1 else 0 := by
  obtain ⟨m, rfl⟩ := Int.eq_ofNat_of_zero_le hn.1
  obtain ⟨k, rfl⟩ := Int.eq_ofNat_of_zero_le hk.1
  have : ∀ (m : Fin 64) (k : Fin 6), IntKind.i64.wrap ((BitVec.ofInt 64 (((m.val : Nat) : Int).fdiv (2 ^ min k.val 64)) &&& BitVec.ofInt 64 1).toNat : Int) = if hasM ((m.val : Nat) : Int) ((k.val : Nat) : Int) then 1 else 0 := by decide +kernel
  exact this ⟨m, by omega⟩ ⟨k, by omega⟩

/-! ### heard -/
def heardHp (x : HT) (f : Int) (l : List Cl) : Heap UU := hH x ++ [.one (.cells [.i x.1.1, .i x.1.2.1, .i x.1.2.2, .sl 0 0 0 x.2.1.length, .sl 1 0 0 x.2.2.length] 25), .one (.cells [.i 0, .i 0, .i 0, .v (.slice none 0 0), .v (.slice none 0 0)] 25),
  .one (.cells [.i f, .i x.1.2.1, .i x.1.2.2, .gs 5 0, .sl 1 0 0 x.2.2.length] 25), .one (.row .claim l 67)]
def heardL1 (x : HT) (set : Int) : LSpec UU where
  T := { i : Nat // i ≤ x.2.1.length }
  fr := fun i => [(1, .i set), (2, .ptr 2 0 0 0), (4, .ptr 3 0 0 0), (6, .ptr 4 0 0 0), (13, .sl 0 0 0 x.2.1.length), (14, .i x.2.1.length), (15, .i i.1)]
  H := fun i => heardHp x x.1.1 (keepM set (x.2.1.take i.1))
  mu := fun i => x.2.1.length - i.1
def heardL2 (x : HT) (set : Int) : LSpec UU where
  T := { k : Nat // k ≤ x.1.2.1.toNat }
  fr := fun k => [(1, .i set), (2, .ptr 2 0 0 0), (4, .ptr 3 0 0 0), (6, .ptr 4 0 0 0), (33, .i x.1.2.1), (34, .i k.1)]
  H := fun k => heardHp x (freeM x.1.1 set k.1).2 (keepM set x.2.1 ++ (freeM x.1.1 set k.1).1)
  mu := fun k => x.1.2.1.toNat - k.1
def heardLs (x : HT) (set : Int) (k : Nat) : Option (LRule UU) :=
  match k with
  | 4 => some (.inv (heardL1 x set))
  | 10 => some (.inv (heardL2 x set))
  | _ => none
def heardS : FSpec UU where
  X := HT × Int
  pick := fun args H => match args with
    | [a, b] => match avH H a, avInt b with
      | some a, some b => some (a, b)
      | _, _ => none
    | _ => none
  args := fun x => [vH x.1, .i x.2]
  H := fun x => hH x.1
  R := fun x => .val ⟨.tup [.agg [.i (heardM x.1 x.2).1.1, .i x.1.1.2.1, .i x.1.1.2.2, .gs 2 0, .sl 1 0 0 x.1.2.2.length], .b (canM x.1 x.2)], [], [], [.row .claim (heardM x.1 x.2).2.1 67]⟩
  pre := fun x => HearOk x.1 ∧ (0 ≤ x.2 ∧ x.2 < 64)
def Theard : Tab UU := [(31, (wordS false).con)]
theorem Theard_ok : Theard.Sound Try.prog := .cons factW_sound .nil
set_option maxHeartbeats 0 in
set_option maxRecDepth 100000 in
theorem heard_ok : ∀ x, heardS.pre x → FunOk Try.prog 44 (heardS.args x) (heardS.H x) (heardS.R x) := by
  rintro ⟨⟨⟨f, w, li⟩, cs, ks⟩, set⟩ ⟨hk, hs⟩
  refine fun_of (T := Theard) (L := heardLs ((f, w, li), cs, ks) set) (hs := fun _ => []) hmix Theard_ok Try.func44 (by kernel_rfl) (by kernel_rfl) ?_
  refine Eq.mp (α :=
      let Z0 := Int.toNat w; let Z1 := True ∧ True; let Z2 : List Cl := keepM set cs; let Z3 : Option Addr := none; let Z4 := List.length ks; let Z5 := List.length cs; let Z6 := Value.bool false; let Z7 := (w, li); let Z8 := Value.int IntKind.i64 f; let Z9 := Value.int IntKind.i64 w; let Z10 := Value.int IntKind.i64 li; let Z11 := True ∧ Z1; let Z12 := Value.int IntKind.i64 set; let Z13 := AV.v Z6; let Z14 := nat_lit 0 = nat_lit 0 ∧ nat_lit 0 = nat_lit 0; let Z15 := (2 : Int); let Z16 := (1 : Int); let Z17 := (0 : Int); let Z18 := (6 : Int); let Z19 : List (Int × Int × W3 × W3) := []; let Z20 := Value.slice Z3 (nat_lit 0) (nat_lit 0); let Z21 := (0 : Nat); let Z22 := (1 : Nat); let Z23 := True ∧ Z11; let Z24 := ks = ks; let Z25 := (67 : TypeId); let Z26 := cs = cs; let Z27 := (cs, ks); let Z28 := True ∧ Z23; let Z29 := nat_lit 0 = nat_lit 0 ∧ Z14; let Z30 := BitVec.ofInt (nat_lit 64) Z16; let Z31 := (↑Z5 : Int); let Z32 := Z4 = Z4; let Z33 := Z5 = Z5; let Z34 := (f, Z7); let Z35 := nat_lit 67 = Z25; let Z36 := Value.int IntKind.i64 Z17; let Z37 : List AV := [Z13]; let Z38 := True ∧ Z28; let Z39 := (Z17, false); let Z40 := Z8 = Z8; let Z41 := Z12 = Z12; let Z42 := Z10 = Z10; let Z43 := AV.v Z36; let Z44 := Z9 = Z9; let Z45 := nat_lit 0 = nat_lit 0 ∧ Z33; let Z46 := nat_lit 0 = nat_lit 0 ∧ Z32; let Z47 := Value.int IntKind.i64 Z31; let Z48 := Z20 = Z20; let Z49 := nat_lit 0 = nat_lit 0 ∧ Z46; let Z50 := nat_lit 0 = nat_lit 0 ∧ Z45; let Z51 := Z48 ∧ True; let Z52 := Z25 = Z25; let Z53 := Z49 ∧ True; let Z54 := (false, Z39); let Z55 := nat_lit 0 = nat_lit 0 ∧ Z53; let Z56 := Z36 = Z36; let Z57 : List AV := Z43 :: Z37; let Z58 := Z47 = Z47; let Z59 := (Z34, Z27); let Z60 := canM Z59 set; let Z61 := heardM Z59 set; let Z62 : List AV := Z13 :: Z57; let Z63 := Z48 ∧ Z51; let Z64 := Value.bool Z60; let Z65 := Z42 ∧ Z55; let Z66 := Z50 ∧ Z53; let Z67 : List AV := Z13 :: Z62; let Z68 := (Z54, Z54); let Z69 := Prod.fst Z59; let Z70 := Prod.snd Z59; let Z71 := Prod.snd Z61; let Z72 := Prod.fst Z61; let Z73 := Z44 ∧ Z65; let Z74 := Prod.snd Z69; let Z75 := Z42 ∧ Z66; let Z76 : List Cl := Prod.fst Z70; let Z77 := Prod.fst Z72; let Z78 := Prod.fst Z74; let Z79 : List Cl := Prod.fst Z71; let Z80 := List.length Z76; let Z81 := Int.toNat Z78; let Z82 := (Z17, Z68); let Z83 := Value.int IntKind.i64 Z77; let Z84 := fun (i : Nat) => i ≤ Z80; let Z85 := Z56 ∧ Z63; let Z86 := fun (k : Nat) => k ≤ Z81; let Z87 := Z40 ∧ Z73; let Z88 : Type := { i : Nat // Z84 i }; let Z89 := Z44 ∧ Z75; let Z90 : Type := { k : Nat // Z86 k }; let Z91 := fun (x : Z88) => Subtype.val x; let Z92 := fun (x : Z90) => Subtype.val x; let Z93 := fun (x : Z90) => freeM f set (Z92 x); let Z94 := fun (x : Z88) => List.take (Z91 x) cs; let Z95 := (Z17, Z82); let Z96 := fun (x : Z88) => (↑(Z91 x) : Int); let Z97 := fun (x : Z90) => (↑(Z92 x) : Int); let Z98 := fun (x : Z88) => keepM set (Z94 x); let Z99 := fun (t : Z88) => Int.toNat (Z96 t); let Z100 := fun (t : Z90) => Int.toNat (Z97 t); let Z101 := fun (x : Z90) => Prod.fst (Z93 x); let Z102 := fun (x : Z90) => Prod.snd (Z93 x); let Z103 := fun (x : Z88) => Value.int IntKind.i64 (Z96 x); let Z104 := fun (x : Z90) => Value.int IntKind.i64 (Z97 x); let Z105 := fun (t : Z90) => Z97 t < w; let Z106 := Z40 ∧ Z89; let Z107 := fun (t : Z90) => AV.v (Z104 t); let Z108 := fun (x : Z90) => Z0 - Z92 x; let Z109 := fun (x : Z90) => Value.int IntKind.i64 (Z102 x); let Z110 := fun (x : Z88) => Z5 - Z91 x; let Z111 := fun (t : Z90) => min (Z100 t) (nat_lit 64); let Z112 := fun (t : Z90) => AV.v (Z109 t); let Z113 := fun (t : Z88) => nat_lit 0 + Z99 t; let Z114 := Z56 ∧ Z85; let Z115 := fun (t : Z88) => Z96 t < Z31; let Z116 := fun (t : Z90) => Z102 t ≤ Z18; let Z117 := fun (t : Z88) => Z96 t + Z16; let Z118 := fun (t : Z90) => Z97 t + Z16; let Z119 := fun (t : Z88) => Z21 + Z99 t; let Z120 := fun (t : Z88) => IntKind.wrap IntKind.i64 (Z117 t); let Z121 := fun (t : Z90) => IntKind.wrap IntKind.i64 (Z118 t); let Z122 := fun (t : Z88) => Value.int IntKind.i64 (Z120 t); let Z123 := fun (t : Z90) => Value.int IntKind.i64 (Z121 t); let Z124 := fun (x : Z90) => Z2 ++ Z101 x; let Z125 := fun (t : Z90) => Z15 ^ Z111 t; let Z126 := fun (t : Z90) => Int.fdiv set (Z125 t); let Z128 := fun (t : Z90) => List.length (Z124 t); let Z129 := Z56 ∧ Z114; let Z136 := fun (t : Z90) => Z124 t = Z79; let Z138 := fun (t : Z88) => List.getD cs (Z113 t) Z95; let Z141 := fun (t : Z88) => List.getD cs (Z119 t) Z95; let Z142 := fun (t : Z88) => Prod.fst (Z138 t); let Z143 := fun (t : Z88) => Prod.snd (Z138 t); let Z148 := fun (t : Z88) => Prod.snd (Z143 t); let Z149 := fun (t : Z88) => Prod.fst (Z143 t); let Z150 := fun (t : Z88) => Prod.snd (Z141 t); let Z160 := fun (t : Z88) => Prod.snd (Z150 t); let Z161 := fun (t : Z88) => Prod.snd (Prod.fst (Z148 t)); let Z162 := fun (t : Z88) => Prod.fst (Prod.snd (Z148 t)); let Z163 := fun (t : Z88) => Prod.snd (Prod.snd (Z148 t)); let Z164 := fun (t : Z88) => Prod.fst (Prod.fst (Z148 t)); let Z167 := fun (t : Z90) => IntKind.wrap IntKind.i64 (↑(BitVec.toNat (BitVec.ofInt (nat_lit 64) (Z126 t) &&& Z30)) : Int) == Z17; let Z178 := fun (t : Z88) => Prod.snd (Prod.fst (Z160 t)); let Z179 := fun (t : Z88) => Prod.snd (Prod.snd (Z160 t)); let Z191 := fun (t : Z90) => decide (Z105 t); let Z193 := fun (t : Z90) => decide (Z116 t); let Z195 := fun (t : Z88) => decide (Z115 t); let Z208 := fun (t : Z88) => IntKind.wrap IntKind.i64 (↑(BitVec.toNat (BitVec.ofInt (nat_lit 64) (Int.fdiv set (Z15 ^ min (Int.toNat (Z142 t)) (nat_lit 64))) &&& Z30)) : Int) == Z16; (∃ (x : Z88), (True ∧ True ∧ Z38) ∧ (True ∧ True ∧ Z38 ∧ Z38 ∧ (True ∧ True ∧ True ∧ nat_lit 0 = nat_lit 0 ∧ Z1) ∧ Z98 x = Z19 ∧ True) ∧ (Z41 ∧ Z29 ∧ Z29 ∧ Z29 ∧ Z50 ∧ Z58 ∧ Z36 = Z103 x ∧ True) ∧ True ∧ Z26 ∧ Z24 ∧ Z106 ∧ Z129 ∧ (Z40 ∧ Z44 ∧ Z42 ∧ Z48 ∧ Z53) ∧ Z1) ∧ ∀ (t : Z88), (Z195 t = true → (Z17 ≤ Z96 t ∧ Z115 t) ∧ Z113 t < List.length cs ∧ Z17 ≤ Z142 t ∧ (Z208 t = true → (nat_lit 1 = nat_lit 1 ∧ some [AV.v (Value.int IntKind.i64 (Z142 t)), AV.v (Value.int IntKind.i64 (Z149 t)), AV.v (Value.bool (Z164 t)), AV.v (Value.int IntKind.i64 (Prod.fst (Z161 t))), AV.v (Value.bool (Prod.snd (Z161 t))), AV.v (Value.bool (Z162 t)), AV.v (Value.int IntKind.i64 (Prod.fst (Z163 t))), AV.v (Value.bool (Prod.snd (Z163 t)))] = some [AV.v (Value.int IntKind.i64 (Prod.fst (Z141 t))), AV.v (Value.int IntKind.i64 (Z149 t)), AV.v (Value.bool (Prod.fst (Prod.fst (Z160 t)))), AV.v (Value.int IntKind.i64 (Prod.fst (Z161 t))), AV.v (Value.bool (Prod.snd (Z178 t))), AV.v (Value.bool (Z162 t)), AV.v (Value.int IntKind.i64 (Prod.fst (Z179 t))), AV.v (Value.bool (Prod.snd (Z163 t)))]) ∧ nat_lit 1 ≤ nat_lit 1 ∧ List.length (Z98 t) + nat_lit 1 ≤ nat_lit 1099511627776 ∧ True ∧ ∃ (x : Z88), ((Z41 ∧ Z29 ∧ Z29 ∧ Z29 ∧ Z50 ∧ Z58 ∧ Z122 t = Z103 x ∧ True) ∧ True ∧ Z26 ∧ Z24 ∧ Z106 ∧ Z129 ∧ Z87 ∧ (Z35 ∧ Z98 t ++ List.take Z22 (List.drop Z21 ((Z142 t, Prod.fst (Z150 t), (Z164 t, Prod.fst (Z178 t), Prod.snd (Z161 t)), Prod.fst (Prod.snd (Z160 t)), Prod.fst (Z163 t), Prod.snd (Z179 t)) :: Z19)) = Z98 x) ∧ True) ∧ Z110 x < Z110 t) ∧ (Z208 t = false → True ∧ ∃ (x : Z88), ((Z41 ∧ Z29 ∧ Z29 ∧ Z29 ∧ Z50 ∧ Z58 ∧ Z122 t = Z103 x ∧ True) ∧ True ∧ Z26 ∧ Z24 ∧ Z106 ∧ Z129 ∧ Z87 ∧ (Z52 ∧ Z98 t = Z98 x) ∧ True) ∧ Z110 x < Z110 t)) ∧ (Z195 t = false → (∃ (x : Z90), (Z41 ∧ Z29 ∧ Z29 ∧ Z29 ∧ Z44 ∧ Z36 = Z104 x ∧ True) ∧ True ∧ Z26 ∧ Z24 ∧ Z106 ∧ Z129 ∧ (Z8 = Z109 x ∧ Z73) ∧ (Z52 ∧ Z98 t = Z124 x) ∧ True) ∧ ∀ (t : Z90), (Z191 t = true → Z17 ≤ Z97 t ∧ (Z167 t = true → True ∧ (Z109 t = Z109 t ∧ True) ∧ True ∧ (nat_lit 1 = nat_lit 1 ∧ some (Z107 t :: Z43 :: Z13 :: Z112 t :: Z67) = some (Z107 t :: Z43 :: Z13 :: Z112 t :: Z67)) ∧ nat_lit 1 ≤ nat_lit 1 ∧ Z128 t + nat_lit 1 ≤ nat_lit 1099511627776 ∧ True ∧ ∃ (x : Z90), ((Z41 ∧ Z29 ∧ Z29 ∧ Z29 ∧ Z44 ∧ Z123 t = Z104 x ∧ True) ∧ True ∧ Z26 ∧ Z24 ∧ Z106 ∧ Z129 ∧ (Value.int IntKind.i64 (IntKind.wrap IntKind.i64 (Z102 t + Z16)) = Z109 x ∧ Z73) ∧ (Z35 ∧ Z124 t ++ List.take Z22 (List.drop Z21 ((Z97 t, Z17, (false, Z102 t, false), Z54) :: Z19)) = Z124 x) ∧ True) ∧ Z108 x < Z108 t) ∧ (Z167 t = false → True ∧ ∃ (x : Z90), ((Z41 ∧ Z29 ∧ Z29 ∧ Z29 ∧ Z44 ∧ Z123 t = Z104 x ∧ True) ∧ True ∧ Z26 ∧ Z24 ∧ Z106 ∧ Z129 ∧ (Z109 t = Z109 x ∧ Z73) ∧ (Z52 ∧ Z124 t = Z124 x) ∧ True) ∧ Z108 x < Z108 t)) ∧ (Z191 t = false → (Z193 t = true → True ∧ (((Z109 t = Z83 ∧ Z73) ∧ Value.bool (decide ((↑(Z128 t) : Int) ≤ (14 : Int))) = Z64 ∧ True) ∧ True) ∧ True ∧ Z26 ∧ Z24 ∧ (Z52 ∧ Z136 t) ∧ True) ∧ (Z193 t = false → True ∧ (((Z109 t = Z83 ∧ Z73) ∧ Z64 = Z6 ∧ True) ∧ True) ∧ True ∧ Z26 ∧ Z24 ∧ (Z52 ∧ Z136 t) ∧ True))))
    (by kernel_rfl) ?_
  simp only [eq_self, true_and, and_true, Int.toNat_natCast, Nat.zero_add, Nat.sub_zero, Value.int.injEq, Value.bool.injEq, decide_eq_true_eq, decide_eq_false_iff_not]
  have hw : 0 ≤ w ∧ w ≤ 6 := hk.w
  have hf : 0 ≤ f ∧ f ≤ 6 := hk.f
  have hc14 : cs.length ≤ 14 := hk.cs
  have hbN : ∀ k : Nat, k < 6 → IntKind.i64.wrap ((BitVec.ofInt 64 (set.fdiv (2 ^ min k 64)) &&& BitVec.ofInt 64 1).toNat : Int) = if hasM set (k : Int) then 1 else 0 := fun k h => bit_i (n := set) (k := (k : Int)) hs ⟨Int.natCast_nonneg _, by omega⟩
  refine ⟨⟨⟨0, Nat.zero_le _⟩, rfl, rfl⟩, fun t => ⟨fun ht => ?_, fun ht => ⟨⟨⟨0, Nat.zero_le _⟩, rfl, rfl, ?_⟩, fun t => ⟨fun ht => ?_, fun ht => ?_⟩⟩⟩⟩
  · obtain ⟨i, hi⟩ := t
    have hlt : i < cs.length := by have h0 : (i : Int) < (cs.length : Int) := ht; omega
    have hcl := hk.claims _ (getD_mem dfC hlt)
    have hc1 : 0 ≤ (cs.getD i dfC).1 ∧ (cs.getD i dfC).1 < w := hcl.2.1
    have hb := bit_i (n := set) hs (k := (cs.getD i dfC).1) ⟨hc1.1, by omega⟩
    have hsu := sucI i (by omega)
    refine ⟨⟨Int.natCast_nonneg _, ht⟩, hlt, hc1.1, fun h => ?_, fun h => ?_⟩
    · have h' : (IntKind.i64.wrap ((BitVec.ofInt 64 (set.fdiv (2 ^ min (cs.getD i dfC).1.toNat 64)) &&& BitVec.ofInt 64 1).toNat : Int) == 1) = true := h
      rw [hb] at h'
      have hyes : hasM set (cs.getD i dfC).1 = true := by
        cases h2 : hasM set (cs.getD i dfC).1 with
        | true => rfl
        | false => rw [h2] at h'; cases h'
      have hkl := keep_len set (cs.take i)
      rw [List.length_take] at hkl
      exact ⟨Nat.le_refl _, by show (keepM set (cs.take i)).length + 1 ≤ _; omega, ⟨i + 1, hlt⟩, ⟨hsu, (keep_yes hlt hyes).symm⟩, dec1 hlt⟩
    · have h' : (IntKind.i64.wrap ((BitVec.ofInt 64 (set.fdiv (2 ^ min (cs.getD i dfC).1.toNat 64)) &&& BitVec.ofInt 64 1).toNat : Int) == 1) = false := h
      rw [hb] at h'
      have hno : hasM set (cs.getD i dfC).1 = false := by
        cases h2 : hasM set (cs.getD i dfC).1 with
        | false => rfl
        | true => rw [h2] at h'; cases h'
      exact ⟨⟨i + 1, hlt⟩, ⟨hsu, (keep_no hlt hno).symm⟩, dec1 hlt⟩
  · have hte : t.1 = cs.length := by have := t.2; omega
    rw [hte, List.take_length]
    first | done | exact (List.append_nil _).symm
  · obtain ⟨k, hk0⟩ := t
    have hlt : k < w.toNat := by have h0 : (k : Int) < w := ht; omega
    have hb := hbN k (by omega)
    have hsu := sucI k (by omega)
    have hfb := free_b f set k
    have hkl := keep_len set cs
    have hwr : IntKind.i64.wrap ((freeM f set k).2 + 1) = (freeM f set k).2 + 1 := wrap_id (by omega) (by omega)
    refine ⟨Int.natCast_nonneg _, fun h => ?_, fun h => ?_⟩
    · have h' : (IntKind.i64.wrap ((BitVec.ofInt 64 (set.fdiv (2 ^ min k 64)) &&& BitVec.ofInt 64 1).toNat : Int) == 0) = true := h
      rw [hb] at h'
      have hno : hasM set (k : Int) = false := by
        cases h2 : hasM set (k : Int) with
        | false => rfl
        | true => rw [h2] at h'; cases h'
      refine ⟨Nat.le_refl _, by rw [List.length_append]; show (keepM set cs).length + (freeM f set k).1.length + 1 ≤ _; omega, ⟨k + 1, hlt⟩, ⟨hsu, ?_, ?_⟩, dec1 hlt⟩
      · show IntKind.i64.wrap ((freeM f set k).2 + 1) = (freeM f set (k + 1)).2
        rw [hwr, freeM, if_neg (by rw [hno]; decide)]
      · show _ = keepM set cs ++ (freeM f set (k + 1)).1
        rw [freeM, if_neg (by rw [hno]; decide), ← List.append_assoc]; rfl
    · have h' : (IntKind.i64.wrap ((BitVec.ofInt 64 (set.fdiv (2 ^ min k 64)) &&& BitVec.ofInt 64 1).toNat : Int) == 0) = false := h
      rw [hb] at h'
      have hyes : hasM set (k : Int) = true := by
        cases h2 : hasM set (k : Int) with
        | true => rfl
        | false => rw [h2] at h'; cases h'
      refine ⟨⟨k + 1, hlt⟩, ⟨hsu, ?_, ?_⟩, dec1 hlt⟩
      · show (freeM f set k).2 = (freeM f set (k + 1)).2
        rw [freeM, if_pos hyes]
      · show _ = keepM set cs ++ (freeM f set (k + 1)).1
        rw [freeM, if_pos hyes]
  · obtain ⟨k, hk0⟩ := t
    have hte : k = w.toNat := by have h0 : ¬ (k : Int) < w := ht; omega
    subst hte
    refine ⟨fun h => ⟨⟨rfl, ?_⟩, rfl⟩, fun h => ⟨⟨rfl, ?_⟩, rfl⟩⟩
    · unfold canM
      rw [show decide ((heardM ((f, w, li), cs, ks) set).1.1 ≤ 6) = true from decide_eq_true h, Bool.true_and]; rfl
    · unfold canM
      rw [show decide ((heardM ((f, w, li), cs, ks) set).1.1 ≤ 6) = false from decide_eq_false h, Bool.false_and]

theorem heard_sound : Sound Try.prog 44 heardS.con := FSpec.sound _ (enter_of Try.func44 (by kernel_rfl) (by kernel_rfl)) heard_ok
end AE.Pr

namespace AE.Pr
open Go AE Go.Proofs

def drawM (by' : List Int) (at' n : Int) : Int := (by'.getD ((at' + 1) % (by'.length : Int)).toNat 0 + 47 * (at' + 1)) % n
def okBy (l : List Int) : Prop := (0 < l.length ∧ l.length < 9223372036854775808) ∧ ∀ x ∈ l, 0 ≤ x ∧ x ≤ 65535
def avBy (H : Heap UU) (id : Nat) : Option (List Int) := match blkAt H id 0 with
  | some (.cells [a] _) => sliceAt .u16 H a
  | some (.rc [a] _) => sliceAt .u16 H a
  | _ => none
def avAt (H : Heap UU) (id : Nat) : Option Int := match blkAt H id 0 with
  | some (.cells [a] _) => avInt a
  | _ => none
def drawS : FSpec UU where
  X := Int × Int × List Int
  pick := fun args H => match args with
    | [n, .ptr i 0 0 0, .ptr j 0 0 0] => match avInt n, avAt H i, avBy H j with
      | some n, some a, some l => some (n, a, l)
      | _, _, _ => none
    | _ => none
  args := fun x => [.i x.1, .ptr 0 0 0 0, .ptr 1 0 0 0]
  H := fun x => [.one (.cells [.i x.2.1] 3), .one (.rc [.sl 2 0 0 x.2.2.length] 46), .one (.ro .u16 x.2.2)]
  R := fun x => .val ⟨.i (drawM x.2.2 x.2.1 x.1), [(0, 0, .cells [.i (x.2.1 + 1)] 3)], [], []⟩
  pre := fun x => (0 < x.1 ∧ x.1 < 1000) ∧ (0 ≤ x.2.1 ∧ x.2.1 < 1000000) ∧ okBy x.2.2
set_option maxHeartbeats 0 in
set_option maxRecDepth 100000 in
theorem draw_ok : ∀ x, drawS.pre x → FunOk Try.prog 74 (drawS.args x) (drawS.H x) (drawS.R x) := by
  rintro ⟨n, a, l⟩ hx
  refine fun_of (T := []) (L := fun _ => none) (hs := fun _ => []) hmix .nil Try.func74 (by kernel_rfl) (by kernel_rfl) ?_
  refine Eq.mp (α :=
      let Z0 := List.length l; let Z1 := (0 : Int); let Z3 := (↑Z0 : Int); let Z4 := a + (1 : Int); let Z5 := IntKind.wrap IntKind.i64 Z4; let Z6 := Int.tmod Z5 Z3; let Z8 := nat_lit 0 + Int.toNat Z6; Z3 ≠ Z1 ∧ (Z1 ≤ Z6 ∧ Z6 < Z3) ∧ Z8 < List.length l ∧ n ≠ Z1 ∧ True ∧ (Value.int IntKind.i64 (Int.tmod (IntKind.wrap IntKind.i64 (IntKind.wrap IntKind.i64 (List.getD l Z8 Z1) + IntKind.wrap IntKind.i64 ((47 : Int) * Z5))) n) = Value.int IntKind.i64 (drawM l a n) ∧ True) ∧ True ∧ (Value.int IntKind.i64 Z5 = Value.int IntKind.i64 Z4 ∧ True) ∧ ((nat_lit 0 = nat_lit 0 ∧ nat_lit 0 = nat_lit 0 ∧ Z0 = Z0) ∧ True) ∧ l = l ∧ True)
    (by kernel_rfl) ?_
  simp only [eq_self, true_and, and_true, Int.toNat_natCast, Nat.zero_add, Nat.sub_zero, Value.int.injEq, Value.bool.injEq, decide_eq_true_eq, decide_eq_false_iff_not]
  obtain ⟨⟨hn0, hn1⟩, ⟨ha0, ha1⟩, ⟨hl0, hl1⟩, hv⟩ := hx
  have hn0' : 0 < n := hn0
  have hn1' : n < 1000 := hn1
  have ha0' : 0 ≤ a := ha0
  have ha1' : a < 1000000 := ha1
  have hl0' : 0 < l.length := hl0
  have e1 : IntKind.i64.wrap (a + 1) = a + 1 := wrap_id (by omega) (by omega)
  have e2 : (a + 1).tmod (l.length : Int) = (a + 1) % (l.length : Int) := Int.tmod_eq_emod_of_nonneg (by omega)
  have hm0 := Int.emod_nonneg (a + 1) (show ((l.length : Nat) : Int) ≠ 0 by omega)
  have hm1 := Int.emod_lt_of_pos (a + 1) (show (0 : Int) < ((l.length : Nat) : Int) by omega)
  have hlt : ((a + 1) % (l.length : Int)).toNat < l.length := by omega
  have hx := hv _ (getD_mem 0 hlt)
  have hx0 : 0 ≤ l.getD ((a + 1) % (l.length : Int)).toNat 0 ∧ l.getD ((a + 1) % (l.length : Int)).toNat 0 ≤ 65535 := hx
  rw [e1, e2]
  refine ⟨by omega, ⟨hm0, hm1⟩, hlt, by omega, ?_, rfl⟩
  unfold drawM
  generalize l.getD ((a + 1) % (l.length : Int)).toNat 0 = v at *
  rw [wrap_id (x := 47 * (a + 1)) (by omega) (by omega), wrap_id (x := v) (by omega) (by omega), wrap_id (by omega) (by omega)]
  exact Int.tmod_eq_emod_of_nonneg (by omega)

theorem draw_sound : Sound Try.prog 74 drawS.con := FSpec.sound _ (enter_of Try.func74 (by kernel_rfl) (by kernel_rfl)) draw_ok
theorem drawM_lt (l : List Int) (a : Int) {n : Int} (h : 0 < n) : 0 ≤ drawM l a n ∧ drawM l a n < n := ⟨Int.emod_nonneg _ (by omega), Int.emod_lt_of_pos _ h⟩

/-! ### a drawn word -/
/-- Has a drawn word a person; where drawing stands behind that. -/
def wpM (l : List Int) (a : Int) : Bool := drawM l (a + 1) 3 == 0
def wnM (l : List Int) (f w a : Int) : Int := if wpM l a then drawM l (a + 2) w else drawM l a f
def waM (l : List Int) (a : Int) : Int := if wpM l a then a + 4 else a + 3
def wqM (l : List Int) (a : Int) : Bool := drawM l (waM l a - 1) 2 == 0
def wordDM (l : List Int) (f w a : Int) : W3 := (wpM l a, wnM l f w a, wqM l a)
def avDr (H : Heap UU) (id : Nat) : Option (Int × List Int) := match blkAt H id 0 with
  | some (.cells [.fn (.func 74) [] [.ptr i 0 0 0, .ptr j 0 0 0]] _) => match avAt H i, avBy H j with
    | some a, some l => some (a, l)
    | _, _ => none
  | some (.rc [.fn (.func 74) [] [.ptr i 0 0 0, .ptr j 0 0 0]] _) => match avAt H i, avBy H j with
    | some a, some l => some (a, l)
    | _, _ => none
  | _ => none
def avFW (H : Heap UU) (id : Nat) : Option (Int × Int) := match blkAt H id 0 with
  | some (.cells [a, b, _, _, _] _) => match avInt a, avInt b with
    | some a, some b => some (a, b)
    | _, _ => none
  | some (.rc [a, b, _, _, _] _) => match avInt a, avInt b with
    | some a, some b => some (a, b)
    | _, _ => none
  | _ => none
def wordDS : FSpec UU where
  X := (Int × Int) × Int × List Int
  pick := fun args H => match args with
    | [.ptr i 0 0 0, .ptr j 0 0 0] => match avDr H i, avFW H j with
      | some (a, l), some x => some (x, a, l)
      | _, _ => none
    | _ => none
  args := fun _ => [.ptr 0 0 0 0, .ptr 4 0 0 0]
  H := fun x => [.one (.rc [.fn (.func 74) [] [.ptr 1 0 0 0, .ptr 2 0 0 0]] 51), .one (.cells [.i x.2.1] 3), .one (.rc [.sl 3 0 0 x.2.2.length] 46), .one (.ro .u16 x.2.2), .one (.rc [.i x.1.1, .i x.1.2, .junk, .junk, .junk] 25)]
  R := fun x => .val ⟨.agg [.b (wpM x.2.2 x.2.1), .i (wnM x.2.2 x.1.1 x.1.2 x.2.1), .b (wqM x.2.2 x.2.1)], [(1, 0, .cells [.i (waM x.2.2 x.2.1)] 3)], [], []⟩
  pre := fun x => ((0 < x.1.1 ∧ x.1.1 ≤ 6) ∧ (0 < x.1.2 ∧ x.1.2 ≤ 6)) ∧ (0 ≤ x.2.1 ∧ x.2.1 < 900000) ∧ okBy x.2.2
def TwordD : Tab UU := [(74, drawS.con), (33, (wordS true).con)]
theorem TwordD_ok : TwordD.Sound Try.prog := .cons draw_sound (.cons person_sound .nil)
set_option maxHeartbeats 0 in
set_option maxRecDepth 100000 in
theorem wordD_ok : ∀ x, wordDS.pre x → FunOk Try.prog 72 (wordDS.args x) (wordDS.H x) (wordDS.R x) := by
  rintro ⟨⟨f, w⟩, a, l⟩ hx
  refine fun_of (T := TwordD) (L := fun _ => none) (hs := fun _ => []) hmix TwordD_ok Try.func72 (by kernel_rfl) (by kernel_rfl) ?_
  refine Eq.mp (α :=
      let Z0 := List.length l; let Z1 := Value.int IntKind.i64 w; let Z2 := Value.int IntKind.i64 f; let Z3 := Value.bool (wpM l a); let Z4 := Value.bool (wqM l a); let Z5 := nat_lit 0 = nat_lit 0 ∧ nat_lit 0 = nat_lit 0; let Z6 := (1 : Int); let Z7 := (0 : Int); let Z8 := (2 : Int); let Z9 := (3 : Int); let Z10 := True ∧ True ∧ True ∧ True; let Z11 := Value.int IntKind.i64 (waM l a); let Z12 := l = l; let Z13 := (1000 : Int); let Z17 := Value.int IntKind.i64 (wnM l f w a); let Z18 := (1000000 : Int); let Z22 := Fn.func (74 : FuncId); let Z23 := Value.int IntKind.i64 Z9; let Z24 := Value.int IntKind.i64 Z8; let Z29 := Z2 = Z2; let Z30 := Z1 = Z1; let Z33 := a + Z6; let Z34 := nat_lit 0 = nat_lit 0 ∧ nat_lit 0 = nat_lit 0 ∧ Z0 = Z0; let Z35 := Z7 < Z8; let Z37 := Z8 < Z13; let Z40 := Value.int IntKind.i64 Z33; let Z42 := (nat_lit 0 = nat_lit 0 ∧ Z5) ∧ (nat_lit 0 = nat_lit 0 ∧ Z5) ∧ True; let Z47 := (Z34 ∧ True) ∧ Z12 ∧ True; let Z48 := Z33 + Z6; let Z52 := Value.int IntKind.i64 Z48; let Z55 := Value.int IntKind.i64 (drawM l Z48 w); let Z57 := drawM l Z33 Z9 == Z7; let Z58 := Z7 ≤ Z48; let Z60 := Z48 < Z18; let Z63 := Z48 + Z6; let Z65 := Value.int IntKind.i64 Z63; let Z66 := (nat_lit 0 < Z0 ∧ Z0 < nat_lit 9223372036854775808) ∧ ∀ (x : Int), x ∈ l → Z7 ≤ x ∧ x ≤ (65535 : Int); ((Z7 < f ∧ f < Z13) ∧ (Z7 ≤ a ∧ a < Z18) ∧ Z66) ∧ (Z29 ∧ Z42) ∧ ((Value.int IntKind.i64 a = Value.int IntKind.i64 a ∧ True) ∧ Z47) ∧ ((Z7 < Z9 ∧ Z9 < Z13) ∧ (Z7 ≤ Z33 ∧ Z33 < Z18) ∧ Z66) ∧ (Z23 = Z23 ∧ Z42) ∧ ((Z40 = Z40 ∧ True) ∧ Z47) ∧ (Z57 = true → ((Z7 < w ∧ w < Z13) ∧ (Z58 ∧ Z60) ∧ Z66) ∧ (Z30 ∧ Z42) ∧ ((Z52 = Z52 ∧ True) ∧ Z47) ∧ True ∧ (Z55 = Z55 ∧ True) ∧ True ∧ ((Z35 ∧ Z37) ∧ (Z7 ≤ Z63 ∧ Z63 < Z18) ∧ Z66) ∧ (Z24 = Z24 ∧ Z42) ∧ ((Z65 = Z65 ∧ True) ∧ Z47) ∧ True ∧ ((Value.bool true = Z3 ∧ Z55 = Z17 ∧ Value.bool (drawM l Z63 Z8 == Z7) = Z4 ∧ True) ∧ True) ∧ True ∧ ((Z22 = Z22 ∧ True ∧ Z42) ∧ True) ∧ (Value.int IntKind.i64 (Z63 + Z6) = Z11 ∧ True) ∧ (Z34 ∧ True) ∧ Z12 ∧ (Z29 ∧ Z30 ∧ Z10) ∧ True) ∧ (Z57 = false → ((Z35 ∧ Z37) ∧ (Z58 ∧ Z60) ∧ Z66) ∧ (Z24 = Z24 ∧ Z42) ∧ ((Z52 = Z52 ∧ True) ∧ Z47) ∧ True ∧ ((Value.bool false = Z3 ∧ Value.int IntKind.i64 (drawM l a f) = Z17 ∧ Value.bool (drawM l Z48 Z8 == Z7) = Z4 ∧ True) ∧ True) ∧ True ∧ ((Z22 = Z22 ∧ True ∧ Z42) ∧ True) ∧ (Z65 = Z11 ∧ True) ∧ (Z34 ∧ True) ∧ Z12 ∧ (Z29 ∧ Z30 ∧ Z10) ∧ True))
    (by kernel_rfl) ?_
  simp only [eq_self, true_and, and_true, Int.toNat_natCast, Nat.zero_add, Nat.sub_zero, Value.int.injEq, Value.bool.injEq, decide_eq_true_eq, decide_eq_false_iff_not]
  obtain ⟨⟨⟨hf0, hf1⟩, hw0, hw1⟩, ⟨ha0, ha1⟩, hl, hv⟩ := hx
  have hf0' : 0 < f := hf0
  have hf1' : f ≤ 6 := hf1
  have hw0' : 0 < w := hw0
  have hw1' : w ≤ 6 := hw1
  have ha0' : 0 ≤ a := ha0
  have ha1' : a < 900000 := ha1
  refine ⟨⟨by omega, by omega, hl, hv⟩, ⟨by omega, by omega, hl, hv⟩, fun h => ⟨⟨by omega, by omega, hl, hv⟩, ⟨by omega, by omega, hl, hv⟩, ?_⟩, fun h => ⟨⟨by omega, by omega, hl, hv⟩, ?_⟩⟩
  · have hp : wpM l a = true := h
    have e : waM l a = a + 4 := by unfold waM; rw [if_pos hp]
    refine ⟨⟨hp.symm, ?_, ?_⟩, by rw [e]; omega⟩
    · unfold wnM; rw [if_pos hp, show a + 1 + 1 = a + 2 by omega]
    · unfold wqM; rw [e, show a + 1 + 1 + 1 = a + 4 - 1 by omega]
  · have hp : wpM l a = false := h
    have e : waM l a = a + 3 := by unfold waM; rw [hp]; rfl
    refine ⟨⟨hp.symm, ?_, ?_⟩, by rw [e]; omega⟩
    · unfold wnM; rw [hp]; rfl
    · unfold wqM; rw [e, show a + 1 + 1 = a + 3 - 1 by omega]

theorem wordD_sound : Sound Try.prog 72 wordDS.con := FSpec.sound _ (enter_of Try.func72 (by kernel_rfl) (by kernel_rfl)) wordD_ok
end AE.Pr

namespace AE.Pr
open Go AE Go.Proofs

def drawsS : FSpec UU where
  X := List Int
  pick := fun args H => match args with
    | [a] => sliceAt .u16 H a
    | _ => none
  args := fun (x : List Int) => [.sl 0 0 0 x.length]
  H := fun x => [.one (.ro .u16 x)]
  R := fun (x : List Int) => .val ⟨.fn (.func 74) [] [.ptr 2 0 0 0, .ptr 1 0 0 0], [], [], [.cells [.sl 0 0 0 x.length] 46, .cells [.i 0] 3]⟩
set_option maxRecDepth 100000 in
theorem draws_ok : ∀ x, drawsS.pre x → FunOk Try.prog 35 (drawsS.args x) (drawsS.H x) (drawsS.R x) := by
  intro (x : List Int) _
  refine fun_of (T := []) (L := fun _ => none) (hs := fun _ => []) hmix .nil Try.func35 (by kernel_rfl) (by kernel_rfl) ?_
  refine Eq.mp (α :=
      let Z0 := nat_lit 0 = nat_lit 0 ∧ nat_lit 0 = nat_lit 0; let Z3 := Value.int IntKind.i64 (0 : Int); True ∧ ((Fn.func (nat_lit 74) = Fn.func (74 : FuncId) ∧ True ∧ (nat_lit 0 = nat_lit 0 ∧ Z0) ∧ (nat_lit 0 = nat_lit 0 ∧ Z0) ∧ True) ∧ True) ∧ True ∧ x = x ∧ ((nat_lit 0 = nat_lit 0 ∧ nat_lit 0 = nat_lit 0 ∧ List.length x = List.length x) ∧ True) ∧ (Z3 = Z3 ∧ True) ∧ True)
    (by kernel_rfl) ?_
  simp

theorem draws_sound : Sound Try.prog 35 drawsS.con := FSpec.sound _ (enter_of Try.func35 (by kernel_rfl) (by kernel_rfl)) draws_ok
def Tmade : Tab UU := [(74, drawS.con), (72, wordDS.con), (36, sizeRS.con), (73, claimRS.con), (38, rightRS.con), (30, notS.con)]
theorem Tmade_ok : Tmade.Sound Try.prog := .cons draw_sound (.cons wordD_sound (.cons sizeR_sound (.cons claimR_sound (.cons rightR_sound (.cons not_sound .nil)))))
/-! ### made, in plain Lean -/
def mfM (l : List Int) : Int := 1 + drawM l 0 6
def mwM (l : List Int) : Int := 1 + drawM l 1 6
def tfM (l : List Int) : Int := drawM l 2 (2 ^ (mfM l).toNat)
def tlM (l : List Int) : Int := drawM l 3 (2 ^ (mwM l).toNat)
def mlM (l : List Int) : Int := min (mwM l) (popM (tlM l) + drawM l 4 2)
def lieM (l : List Int) (i : Nat) : Bool := hasM (tlM l) i
def nkM (l : List Int) (a : Int) : Int := 1 + drawM l a 2
def awM (l : List Int) (a : Int) : W3 := wordDM l (mfM l) (mwM l) a
def clDM (l : List Int) (i : Nat) (wrong : Bool) (a : Int) : Cl :=
  if claimRM (tfM l, tlM l) ((i : Int), drawM l a 3, awM l (a + 1), awM l (waM l (a + 1))) == wrong then
    ((i : Int), 0, (if rightM (tfM l, tlM l) (awM l (a + 1)) == wrong then ((awM l (a + 1)).1, (awM l (a + 1)).2.1, !(awM l (a + 1)).2.2) else awM l (a + 1)), dfW)
  else ((i : Int), drawM l a 3, awM l (a + 1), awM l (waM l (a + 1)))
def aftM (l : List Int) (a : Int) : Int := waM l (waM l (a + 1))
def stepM (l : List Int) (i j : Nat) (s : List Cl × Int) : List Cl × Int := (s.1 ++ [clDM l i (lieM l i && j == 0) s.2], aftM l s.2)
def insM (l : List Int) (i : Nat) (s : List Cl × Int) : Nat → List Cl × Int
  | 0 => s
  | j + 1 => stepM l i j (insM l i s j)
def outM (l : List Int) : Nat → List Cl × Int
  | 0 => ([], 5)
  | i + 1 => insM l i ((outM l i).1, (outM l i).2 + 1) (nkM l (outM l i).2).toNat
def kwM (l : List Int) (a : Int) : W3 := if rightM (tfM l, tlM l) (awM l a) then awM l a else ((awM l a).1, (awM l a).2.1, !(awM l a).2.2)
def oM (l : List Int) : List Cl × Int := outM l (mwM l).toNat
def knM (l : List Int) : Nat → List W3 × Int
  | 0 => ([], (oM l).2 + 1)
  | j + 1 => ((knM l j).1 ++ [kwM l (knM l j).2], waM l (knM l j).2)
def nnM (l : List Int) : Nat := (drawM l (oM l).2 5).toNat
/-- What is made: the hearing, and its truth. -/
def madeM (l : List Int) : HT := ((mfM l, mwM l, mlM l), (oM l).1, (knM l (nnM l)).1)
theorem mf_b (l : List Int) : 0 < mfM l ∧ mfM l ≤ 6 := by have := drawM_lt l 0 (show (0 : Int) < 6 by decide); unfold mfM; omega
theorem mw_b (l : List Int) : 0 < mwM l ∧ mwM l ≤ 6 := by have := drawM_lt l 1 (show (0 : Int) < 6 by decide); unfold mwM; omega
theorem two_pow (n : Nat) : (2 : Int) ^ n = ((2 ^ n : Nat) : Int) := by simp
theorem tf_b (l : List Int) : 0 ≤ tfM l ∧ tfM l < ((2 ^ (mfM l).toNat : Nat) : Int) := by
  have h := Nat.pow_pos (n := (mfM l).toNat) (show 0 < 2 by decide)
  have := drawM_lt l 2 (n := ((2 ^ (mfM l).toNat : Nat) : Int)) (by omega)
  unfold tfM; rw [two_pow]; exact this
theorem tl_b (l : List Int) : 0 ≤ tlM l ∧ tlM l < ((2 ^ (mwM l).toNat : Nat) : Int) := by
  have h := Nat.pow_pos (n := (mwM l).toNat) (show 0 < 2 by decide)
  have := drawM_lt l 3 (n := ((2 ^ (mwM l).toNat : Nat) : Int)) (by omega)
  unfold tlM; rw [two_pow]; exact this
theorem tf_64 (l : List Int) : 0 ≤ tfM l ∧ tfM l < 64 := by
  have h := tf_b l; have := pow64 (mfM l).toNat (by have := mf_b l; omega); omega
theorem tl_64 (l : List Int) : 0 ≤ tlM l ∧ tlM l < 64 := by
  have h := tl_b l; have := pow64 (mwM l).toNat (by have := mw_b l; omega); omega
theorem wa_b (l : List Int) (a : Int) : a + 3 ≤ waM l a ∧ waM l a ≤ a + 4 := by unfold waM; split <;> omega
theorem aft_b (l : List Int) (a : Int) : a + 7 ≤ aftM l a ∧ aftM l a ≤ a + 9 := by
  have h1 := wa_b l (a + 1); have h2 := wa_b l (waM l (a + 1)); unfold aftM; omega
theorem nk_b (l : List Int) (a : Int) : 1 ≤ nkM l a ∧ nkM l a ≤ 2 := by have := drawM_lt l a (show (0 : Int) < 2 by decide); unfold nkM; omega
theorem wn_b (l : List Int) (a : Int) : 0 ≤ wnM l (mfM l) (mwM l) a ∧ wnM l (mfM l) (mwM l) a < 6 := by
  have h1 := mf_b l; have h2 := mw_b l
  have h3 := drawM_lt l (a + 2) h2.1; have h4 := drawM_lt l a h1.1
  unfold wnM; split <;> omega
theorem ins_b (l : List Int) (i : Nat) (s : List Cl × Int) : ∀ j : Nat, s.2 ≤ (insM l i s j).2 ∧ (insM l i s j).2 ≤ s.2 + 9 * j ∧ (insM l i s j).1.length = s.1.length + j
  | 0 => ⟨Int.le_refl _, by show s.2 ≤ _; omega, rfl⟩
  | j + 1 => by
    obtain ⟨h1, h2, h3⟩ := ins_b l i s j
    have h4 := aft_b l (insM l i s j).2
    unfold insM stepM
    refine ⟨by show s.2 ≤ aftM l _; omega, by show aftM l _ ≤ _; omega, ?_⟩
    rw [List.length_append, h3]; simp; omega
theorem out_b (l : List Int) : ∀ i : Nat, 5 ≤ (outM l i).2 ∧ (outM l i).2 ≤ 5 + 19 * i ∧ (outM l i).1.length ≤ 2 * i
  | 0 => ⟨Int.le_refl _, by show (5 : Int) ≤ _; omega, by simp [outM]⟩
  | i + 1 => by
    obtain ⟨h1, h2, h3⟩ := out_b l i
    have h4 := nk_b l (outM l i).2
    obtain ⟨h5, h6, h7⟩ := ins_b l i ((outM l i).1, (outM l i).2 + 1) (nkM l (outM l i).2).toNat
    have h5' : (outM l i).2 + 1 ≤ _ := h5
    have h6' : _ ≤ (outM l i).2 + 1 + 9 * ((nkM l (outM l i).2).toNat : Int) := h6
    have h7' : _ = (outM l i).1.length + (nkM l (outM l i).2).toNat := h7
    unfold outM
    refine ⟨by omega, by omega, by omega⟩
theorem kn_b (l : List Int) : ∀ j : Nat, (oM l).2 + 1 ≤ (knM l j).2 ∧ (knM l j).2 ≤ (oM l).2 + 1 + 4 * j ∧ (knM l j).1.length = j
  | 0 => ⟨Int.le_refl _, by show (oM l).2 + 1 ≤ _; omega, rfl⟩
  | j + 1 => by
    obtain ⟨h1, h2, h3⟩ := kn_b l j
    have h4 := wa_b l (knM l j).2
    unfold knM
    refine ⟨by show _ ≤ waM l _; omega, by show waM l _ ≤ _; omega, ?_⟩
    rw [List.length_append, h3]; rfl
theorem nn_b (l : List Int) : nnM l ≤ 4 ∧ (nnM l : Int) = drawM l (oM l).2 5 := by
  have := drawM_lt l (oM l).2 (show (0 : Int) < 5 by decide); unfold nnM; omega
def atM (a : Int) : AB UU := .one (.cells [.i a] 3)
def madeH (l : List Int) (a : Int) (cs : List Cl) (x : AV) : Heap UU := [.one (.cells [.i a] 3), .one (.rc [.sl 2 0 0 l.length] 46), .one (.ro .u16 l), .one (.cells [.fn (.func 74) [] [.ptr 0 0 0 0, .ptr 1 0 0 0]] 51), .one (.cells [.i (mfM l), .i (mwM l), .i (mlM l), .gs 6 0, x] 25), .one (.cells [.i (tfM l), .i (tlM l)] 48), .one (.row .claim cs 67)]
def madeF : Fr := [(1, .ptr 3 0 0 0), (2, .ptr 4 0 0 0), (3, .ptr 5 0 0 0), (4, .fn (.func 72) [] [.ptr 3 0 0 0, .ptr 4 0 0 0])]
def madeL1 (l : List Int) : LSpec UU where
  T := { i : Nat // i ≤ (mwM l).toNat }
  fr := fun i => madeF ++ [(43, .i (mwM l)), (44, .i i.1)]
  H := fun i => madeH l (outM l i.1).2 (outM l i.1).1 (.v (.slice none 0 0))
  mu := fun i => (mwM l).toNat - i.1
def madeL2 (l : List Int) : LSpec UU where
  T := { p : Nat × Nat // p.1 < (mwM l).toNat ∧ p.2 ≤ (nkM l (outM l p.1).2).toNat }
  fr := fun p => madeF ++ [(43, .i (mwM l)), (44, .i p.1.1), (5, .i p.1.1), (6, .b (lieM l p.1.1)), (55, .i (nkM l (outM l p.1.1).2)), (56, .i p.1.2)]
  H := fun p => madeH l (insM l p.1.1 ((outM l p.1.1).1, (outM l p.1.1).2 + 1) p.1.2).2 (insM l p.1.1 ((outM l p.1.1).1, (outM l p.1.1).2 + 1) p.1.2).1 (.v (.slice none 0 0))
  mu := fun p => (nkM l (outM l p.1.1).2).toNat - p.1.2
def madeL3 (l : List Int) : LSpec UU where
  T := { j : Nat // j ≤ nnM l }
  fr := fun j => madeF ++ [(100, .i (nnM l : Nat)), (101, .i j.1)]
  H := fun j => madeH l (knM l j.1).2 (oM l).1 (.gs 7 0) ++ [.one (.row .word (knM l j.1).1 27)]
  mu := fun j => nnM l - j.1
def madeLs (l : List Int) (k : Nat) : Option (LRule UU) :=
  match k with
  | 6 => some (.inv (madeL1 l))
  | 10 => some (.invR (madeL2 l) fun a b => b.1.1 = a.1.1)
  | 22 => some (.inv (madeL3 l))
  | _ => none
def avClo (H : Heap UU) : AV → Option (Int × List Int)
  | .fn (.func 74) [] [.ptr i 0 0 0, .ptr j 0 0 0] => match avAt H i, avBy H j with
    | some a, some l => some (a, l)
    | _, _ => none
  | _ => none
def madeS : FSpec UU where
  X := List Int
  pick := fun args H => match args with
    | [a] => match avClo H a with
      | some (_, l) => some l
      | none => none
    | _ => none
  args := fun _ => [.fn (.func 74) [] [.ptr 0 0 0 0, .ptr 1 0 0 0]]
  H := fun (l : List Int) => [.one (.cells [.i 0] 3), .one (.rc [.sl 2 0 0 l.length] 46), .one (.ro .u16 l)]
  R := fun (l : List Int) => .val ⟨.tup [.agg [.i (mfM l), .i (mwM l), .i (mlM l), .gs 3 0, .gs 4 0], .agg [.i (tfM l), .i (tlM l)]], [(0, 0, .cells [.i (knM l (nnM l)).2] 3)], [], [.row .claim (oM l).1 67, .row .word (knM l (nnM l)).1 27]⟩
  pre := fun (l : List Int) => okBy l
set_option maxHeartbeats 0 in
set_option maxRecDepth 100000 in
theorem made_ok : ∀ x, madeS.pre x → FunOk Try.prog 34 (madeS.args x) (madeS.H x) (madeS.R x) := by
  intro (l : List Int) hx
  refine fun_of (T := Tmade) (L := madeLs l) (hs := fun _ => [0]) hmix Tmade_ok Try.func34 (by kernel_rfl) (by kernel_rfl) ?_
  refine Eq.mp (α :=
      let Z0 := True ∧ True; let Z1 : Option Addr := none; let Z2 := List.length l; let Z3 := fun (p : Nat × Nat) => Prod.snd p; let Z4 := fun (p : Nat × Nat) => Prod.fst p; let Z5 := Value.bool false; let Z6 := nat_lit 0 = nat_lit 0 ∧ True; let Z7 := Int.toNat (mwM l); let Z8 := nat_lit 1 ≤ nat_lit 1; let Z9 := True ∧ Z0; let Z10 := AV.v Z5; let Z11 := nat_lit 0 = nat_lit 0 ∧ nat_lit 0 = nat_lit 0; let Z12 := (0 : Int); let Z13 := (3 : Int); let Z14 := (2 : Int); let Z15 := (5 : Int); let Z16 := (6 : Int); let Z17 := (1 : Int); let Z18 : List (Bool × Int × Bool) := []; let Z19 : List (Int × Int × W3 × W3) := []; let Z20 := fun (p : Nat × Nat) => outM l (Z4 p); let Z21 := Value.int IntKind.i64 (tlM l); let Z22 := Value.int IntKind.i64 (mwM l); let Z23 := Value.int IntKind.i64 (mlM l); let Z24 := (64 : Int); let Z25 := Value.int IntKind.i64 (mfM l); let Z26 := Value.int IntKind.i64 (tfM l); let Z27 := Value.slice Z1 (nat_lit 0) (nat_lit 0); let Z28 := (1 : Nat); let Z29 := (0 : Nat); let Z30 := fun (j : Nat) => j ≤ nnM l; let Z31 := True ∧ Z9; let Z32 : List Cl := Prod.fst (oM l); let Z33 := (1000 : Int); let Z34 := l = l; let Z35 := (67 : TypeId); let Z36 := (tfM l, tlM l); let Z37 := (72 : FuncId); let Z38 := (74 : FuncId); let Z39 := (↑(nnM l) : Int); let Z40 := (65535 : Int); let Z41 := (27 : TypeId); let Z42 := nat_lit 0 = nat_lit 0 ∧ Z6; let Z43 := (900000 : Int); let Z44 := nat_lit 0 < Z2; let Z45 := (1000000 : Int); let Z46 := fun (i : Nat) => i ≤ Z7; let Z47 := Z31 ∧ True; let Z48 := nat_lit 0 = nat_lit 0 ∧ Z11; let Z49 := Z34 ∧ True; let Z50 := Z2 = Z2; let Z51 := Fn.func Z37; let Z52 := Fn.func Z38; let Z53 := nat_lit 67 = Z35; let Z54 := nat_lit 27 = Z41; let Z55 := Value.int IntKind.i64 Z12; let Z56 := Value.int IntKind.i64 Z15; let Z57 := Value.int IntKind.i64 Z13; let Z58 := Value.int IntKind.i64 Z14; let Z59 := Value.int IntKind.i64 Z16; let Z60 : List AV := [Z10]; let Z61 := Z48 ∧ True; let Z62 : Type := { j : Nat // Z30 j }; let Z63 := fun (p : Nat × Nat) => Prod.snd (Z20 p); let Z64 := Z2 < nat_lit 9223372036854775808; let Z65 := fun (x : Int) => Z12 ≤ x; let Z66 := (Z12, false); let Z67 := fun (x : Int) => x ∈ l; let Z68 := AV.v Z55; let Z69 := Value.int IntKind.i64 Z39; let Z70 := fun (p : Nat × Nat) => Z4 p < Z7; let Z71 := fun (x : Z62) => Subtype.val x; let Z72 := nat_lit 0 = nat_lit 0 ∧ Z50; let Z73 := fun (x : Int) => x ≤ Z40; let Z74 := Z31 ∧ Z9; let Z75 := Z12 ≤ tlM l; let Z76 := mwM l ≤ Z16; let Z77 := mfM l ≤ Z16; let Z78 := Z12 ≤ tfM l; let Z79 := Z12 < mfM l; let Z80 := Z12 < mwM l; let Z81 := tlM l < Z24; let Z82 := tfM l < Z24; let Z83 : Type := { i : Nat // Z46 i }; let Z84 := fun (p : Nat × Nat) => nkM l (Z63 p); let Z85 := fun (x : Z62) => knM l (Z71 x); let Z86 := fun (x : Z83) => Subtype.val x; let Z87 := True ∧ Z74; let Z88 := drawM l Z12 Z16; let Z89 := Z21 = Z21; let Z90 := Z23 = Z23; let Z91 := Z25 = Z25; let Z92 := Z22 = Z22; let Z93 := Z26 = Z26; let Z94 := Z27 = Z27; let Z95 := fun (p : Nat × Nat) => Int.toNat (Z84 p); let Z96 := nat_lit 0 = nat_lit 0 ∧ Z72; let Z97 := True ∧ Z87; let Z98 := Z89 ∧ True; let Z99 := fun (x : Z83) => outM l (Z86 x); let Z100 := Z12 < Z14; let Z101 := Z12 < Z16; let Z102 := Z94 ∧ True; let Z103 := Z35 = Z35; let Z104 := fun (x : Z62) => (↑(Z71 x) : Int); let Z105 := Z16 < Z33; let Z106 := Z96 ∧ True; let Z107 := Z14 < Z33; let Z108 := True ∧ Z97; let Z109 := (false, Z66); let Z110 := fun (x : Z62) => Prod.snd (Z85 x); let Z111 := fun (x : Z62) => Prod.fst (Z85 x); let Z112 := fun (x : Z83) => (↑(Z86 x) : Int); let Z113 := Z52 = Z52; let Z114 := Z51 = Z51; let Z115 := Z32 = Z32; let Z116 := Z44 ∧ Z64; let Z117 := nat_lit 0 = nat_lit 0 ∧ Z102; let Z118 := Z12 + Z17; let Z119 := Z48 ∧ Z61; let Z120 := fun (t : Z62) => wqM l (Z110 t); let Z121 := fun (t : Z62) => waM l (Z110 t); let Z122 := fun (t : Z62) => wpM l (Z110 t); let Z123 := fun (x : Z83) => Prod.snd (Z99 x); let Z124 := fun (x : Z83) => Prod.fst (Z99 x); let Z125 := fun (x : Z62) => Value.int IntKind.i64 (Z104 x); let Z126 := Z59 = Z59; let Z127 := Z58 = Z58; let Z128 := Z92 ∧ Z31; let Z129 := True ∧ Z119; let Z130 := fun (p : Nat × Nat) => Z3 p ≤ Z95 p; let Z131 := fun (x : Z62) => nnM l - Z71 x; let Z132 := fun (t : Z62) => !Z120 t; let Z133 := Z90 ∧ Z42; let Z134 := fun (x : Z62) => Value.int IntKind.i64 (Z110 x); let Z135 := fun (t : Z62) => Value.bool (Z122 t); let Z136 := fun (t : Z62) => Value.bool (Z120 t); let Z137 := fun (x : Z83) => Value.int IntKind.i64 (Z112 x); let Z138 := fun (x : Int) => Z65 x ∧ Z73 x; let Z139 : List AV := Z68 :: Z60; let Z140 := fun (t : Z62) => AV.v (Z136 t); let Z141 := fun (t : Z62) => AV.v (Z135 t); let Z142 := Z69 = Z69; let Z143 := Value.int IntKind.i64 Z118; let Z144 := fun (t : Z62) => Value.bool (Z132 t); let Z145 := fun (t : Z62) => wnM l (mfM l) (mwM l) (Z110 t); let Z146 := fun (t : Z62) => Value.int IntKind.i64 (Z121 t); let Z147 := fun (t : Z62) => List.length (Z111 t); let Z148 := fun (x : Z83) => Value.int IntKind.i64 (Z123 x); let Z149 := fun (t : Z83) => Z112 t < mwM l; let Z150 := Z79 ∧ Z77; let Z151 := Z80 ∧ Z76; let Z152 := fun (t : Z62) => AV.v (Z144 t); let Z153 := Z78 ∧ Z82; let Z154 := Z75 ∧ Z81; let Z155 := fun (x : Z83) => Z7 - Z86 x; let Z156 := Z106 ∧ Z49; let Z157 := drawM l Z118 Z16; let Z158 := fun (t : Z62) => Z104 t < Z39; let Z159 := Z17 + Z88; let Z160 := fun (t : Z62) => Value.int IntKind.i64 (Z145 t); let Z161 := fun (t : Z62) => [Z140 t]; let Z162 := fun (t : Z62) => AV.v (Z160 t); let Z163 := fun (t : Z62) => [Z152 t]; let Z164 := fun (t : Z83) => Z12 ≤ Z123 t; let Z165 := Z93 ∧ Z98; let Z166 := fun (t : Z62) => Z104 t + Z17; let Z167 : List AV := Z10 :: Z139; let Z168 := fun (t : Z83) => Z123 t < Z45; let Z169 := IntKind.wrap IntKind.i64 Z159; let Z170 := fun (t : Z62) => Z147 t + nat_lit 1; let Z171 := Z101 ∧ Z105; let Z172 := Z100 ∧ Z107; let Z173 := Z90 ∧ Z117; let Z174 := Z118 + Z17; let Z175 := fun (p : Nat × Nat) => Z70 p ∧ Z130 p; let Z176 := Int.toNat Z169; let Z177 := fun (t : Z83) => Z123 t + Z17; let Z178 := fun (x : Int) => Z67 x → Z138 x; let Z179 := fun (t : Z62) => IntKind.wrap IntKind.i64 (Z166 t); let Z180 := Z91 ∧ Z128; let Z181 := Z103 ∧ Z115; let Z182 := ∀ (x : Int), Z178 x; let Z183 := Z92 ∧ Z133; let Z184 := Z180 ∧ True; let Z185 := Value.int IntKind.i64 Z174; let Z186 := fun (t : Z83) => Value.int IntKind.i64 (Z177 t); let Z187 := min Z176 (nat_lit 64); let Z188 := fun (t : Z62) => Z170 t ≤ nat_lit 1099511627776; let Z189 := fun (t : Z62) => Value.int IntKind.i64 (Z179 t); let Z190 := Z114 ∧ Z129; let Z191 := Z113 ∧ Z129; let Z192 : Type := { p : Nat × Nat // Z175 p }; let Z193 := Z17 + Z157; let Z194 := Z127 ∧ Z119; let Z195 := Z126 ∧ Z119; let Z196 := fun (x : Z192) => Subtype.val x; let Z197 := Z191 ∧ True; let Z198 := Z34 ∧ Z184; let Z199 := fun (x : Z192) => Prod.fst (Z196 x); let Z200 := fun (x : Z192) => Prod.snd (Z196 x); let Z201 := IntKind.wrap IntKind.i64 Z193; let Z202 := fun (t : Z62) => Z135 t = Z135 t; let Z203 := fun (t : Z62) => Z136 t = Z136 t; let Z204 := fun (x t : Z62) => Z131 x < Z131 t; let Z205 := fun (t : Z62) => (Z145 t, Z120 t); let Z206 := fun (x : Z192) => outM l (Z199 x); let Z207 := fun (x : Z192) => lieM l (Z199 x); let Z208 := Z174 + Z17; let Z209 := fun (t x : Z62) => Z146 t = Z134 x; let Z210 := fun (t : Z62) => Z203 t ∧ True; let Z211 := Int.toNat Z201; let Z212 := Z92 ∧ Z173; let Z213 := fun (t x : Z62) => Z209 t x ∧ True; let Z214 := fun (x : Z192) => Value.bool (Z207 x); let Z215 := fun (t : Z83) => decide (Z149 t); let Z216 := Value.int IntKind.i64 Z201; let Z217 := fun (t : Z83) => Z148 t = Z148 t; let Z218 := Z150 ∧ Z151; let Z219 := fun (x : Z192) => (↑(Z199 x) : Int); let Z220 := fun (x : Z192) => (↑(Z200 x) : Int); let Z221 := Z91 ∧ Z183; let Z222 := Z153 ∧ Z154; let Z223 := Value.int IntKind.i64 Z208; let Z224 := fun (t : Z83) => Z217 t ∧ True; let Z225 := fun (x : Z192) => Prod.fst (Z206 x); let Z226 := fun (x : Z192) => Prod.snd (Z206 x); let Z227 := min Z211 (nat_lit 64); let Z228 := fun (x : Z192) => nkM l (Z226 x); let Z229 := fun (x : Z192) => Value.int IntKind.i64 (Z220 x); let Z230 := fun (x : Z192) => Value.int IntKind.i64 (Z219 x); let Z231 := Z116 ∧ Z182; let Z232 := fun (t : Z192) => AV.v (Z230 t); let Z233 := fun (t : Z62) => decide (Z158 t); let Z234 := fun (x : Z192) => Int.toNat (Z228 x); let Z235 := Z14 ^ Z187; let Z236 := fun (t : Z62) => Z160 t = Z160 t; let Z237 := Z216 = Z22; let Z238 := fun (x : Z192) => Value.int IntKind.i64 (Z228 x); let Z239 := fun (t : Z62) => Z162 t :: Z161 t; let Z240 := fun (t x : Z62) => Z189 t = Z125 x; let Z241 := fun (t : Z62) => Z162 t :: Z163 t; let Z242 := Z208 + Z17; let Z243 := Z106 ∧ Z198; let Z244 := fun (t x : Z62) => Z240 t x ∧ True; let Z245 := Z91 ∧ Z212; let Z246 := fun (t : Z83) => Z164 t ∧ Z168 t; let Z247 := fun (t : Z192) => Z220 t + Z17; let Z248 := Value.int IntKind.i64 Z242; let Z249 := fun (t : Z192) => Z220 t == Z12; let Z250 := fun (x : Z192) => Z226 x + Z17; let Z251 := fun (t : Z192) => IntKind.wrap IntKind.i64 (Z247 t); let Z252 := Z17 * Z235; let Z253 := Z14 ^ Z227; let Z254 := fun (t : Z62) => (Z122 t, Z205 t); let Z255 := fun (t : Z192) => Value.int IntKind.i64 (Z251 t); let Z256 := IntKind.wrap IntKind.i64 Z252; let Z257 := fun (t : Z83) (x : Z192) => Z137 t = Z230 x; let Z258 := fun (t : Z83) => Z224 t ∧ Z156; let Z259 := Value.int IntKind.i64 Z256; let Z260 := fun (t : Z62) => rightM Z36 (Z254 t); let Z261 := fun (t : Z62) => !Z260 t; let Z262 := Z17 * Z253; let Z263 := fun (t : Z62) => Z141 t :: Z239 t; let Z264 := fun (t : Z62) => Z141 t :: Z241 t; let Z265 := fun (t x : Z62) => Z142 ∧ Z244 t x; let Z266 := IntKind.wrap IntKind.i64 Z262; let Z267 := fun (t : Z62) => some (Z263 t); let Z268 := fun (t : Z62) => some (Z264 t); let Z269 := fun (t x : Z192) => Z199 t = Z199 x; let Z270 := Value.int IntKind.i64 Z266; let Z271 := fun (t x : Z192) => Z214 t = Z214 x; let Z272 := fun (t : Z62) => Z236 t ∧ Z210 t; let Z273 := fun (t : Z192) => Z220 t < Z228 t; let Z274 := fun (x : Z192) => Z234 x - Z200 x; let Z275 := fun (t x : Z192) => Z230 t = Z230 x; let Z276 := fun (t : Z192) => Z230 t = Z230 t; let Z277 := fun (t x : Z192) => Z238 t = Z238 x; let Z278 := fun (t : Z83) => Z246 t ∧ Z231; let Z279 := fun (x : Z192) => (Z225 x, Z250 x); let Z280 := fun (t x : Z62) => Z190 ∧ Z265 t x; let Z281 := fun (t x : Z192) => Z255 t = Z229 x; let Z282 := fun (t x : Z192) => Z281 t x ∧ True; let Z283 := fun (t x : Z62) => Z48 ∧ Z280 t x; let Z284 := drawM l Z208 Z266; let Z285 := Value.int IntKind.i64 Z284; let Z286 := fun (t x : Z62) => Z48 ∧ Z283 t x; let Z287 := fun (t : Z62) => Z202 t ∧ Z272 t; let Z288 := fun (t : Z62) => Z287 t ∧ True; let Z289 := fun (t x : Z62) => Z48 ∧ Z286 t x; let Z290 := fun (x : Z192) => insM l (Z199 x) (Z279 x) (Z200 x); let Z291 := fun (t : Z192) => decide (Z273 t); let Z292 := fun (x : Z192) => Prod.snd (Z290 x); let Z293 := fun (x : Z192) => Prod.fst (Z290 x); let Z294 := fun (x t : Z192) => Z274 x < Z274 t; let Z295 := fun (x : Z192) => Value.int IntKind.i64 (Z292 x); let Z296 := fun (t : Z192) => List.length (Z293 t); let Z297 := fun (t : Z192) => drawM l (Z292 t) Z13; let Z298 := fun (t : Z192) => Value.int IntKind.i64 (Z297 t); let Z299 := fun (t : Z192) => AV.v (Z298 t); let Z300 := fun (t : Z192) => Z292 t + Z17; let Z301 := fun (t : Z192) => Z296 t + nat_lit 1; let Z302 := fun (t : Z192) => Z297 t ≠ Z12; let Z303 := fun (t : Z192) => wqM l (Z300 t); let Z304 := fun (t : Z192) => wpM l (Z300 t); let Z305 := fun (t : Z192) => waM l (Z300 t); let Z306 := fun (t : Z192) => !Z303 t; let Z307 := fun (t : Z192) => Z297 t ≤ Z14; let Z308 := fun (t : Z192) => Z12 ≤ Z297 t; let Z309 := fun (t : Z192) => Value.int IntKind.i64 (Z300 t); let Z310 := fun (t : Z192) => wqM l (Z305 t); let Z311 := fun (t : Z192) => wpM l (Z305 t); let Z312 := fun (t : Z192) => waM l (Z305 t); let Z313 := fun (t : Z192) => Value.bool (Z303 t); let Z314 := fun (t : Z192) => Value.bool (Z304 t); let Z315 := fun (t : Z192) => AV.v (Z314 t); let Z316 := fun (t : Z192) => AV.v (Z313 t); let Z317 := fun (t : Z192) => Value.bool (Z306 t); let Z318 := fun (t : Z192) => Value.int IntKind.i64 (Z305 t); let Z319 := fun (t : Z192) => wnM l (mfM l) (mwM l) (Z300 t); let Z320 := fun (t : Z192) => Value.bool (Z310 t); let Z321 := fun (t : Z192) => Value.bool (Z311 t); let Z322 := fun (t : Z192) => Z301 t ≤ nat_lit 1099511627776; let Z323 := fun (t : Z192) => AV.v (Z317 t); let Z324 := fun (t : Z192) => AV.v (Z320 t); let Z325 := fun (t : Z192) => AV.v (Z321 t); let Z326 := fun (t : Z192) => wnM l (mfM l) (mwM l) (Z305 t); let Z327 := fun (t : Z192) => Value.int IntKind.i64 (Z312 t); let Z328 := fun (t : Z192) => Value.int IntKind.i64 (Z319 t); let Z329 := fun (t : Z192) => AV.v (Z328 t); let Z330 := fun (t : Z192) => Value.int IntKind.i64 (Z326 t); let Z331 := fun (t : Z192) => [Z324 t]; let Z332 := fun (t : Z192) => AV.v (Z330 t); let Z333 := fun (t x : Z192) => Z277 t x ∧ Z282 t x; let Z334 := fun (t : Z192) => Z319 t < Z16; let Z335 := fun (t : Z192) => Z12 ≤ Z319 t; let Z336 := fun (t : Z192) => Z12 ≤ Z326 t; let Z337 := fun (t : Z192) => Z326 t < Z16; let Z338 := fun (t : Z192) => Z316 t :: Z167; let Z339 := fun (t : Z192) => Z323 t :: Z167; let Z340 := fun (x t x_1 : Z192) => Z294 x t ∧ Z269 x x_1; let Z341 := fun (t x : Z192) => Z271 t x ∧ Z333 t x; let Z342 := fun (t x : Z192) => Z275 t x ∧ Z341 t x; let Z343 := fun (t : Z192) => Z298 t = Z298 t; let Z344 := fun (t x : Z192) => Z327 t = Z295 x; let Z345 := fun (t x : Z192) => Z344 t x ∧ True; let Z346 := fun (t : Z192) => Z308 t ∧ Z307 t; let Z347 := fun (t : Z192) => Z313 t = Z313 t; let Z348 := fun (t : Z192) => Z314 t = Z314 t; let Z349 := fun (t : Z192) => (Z319 t, Z303 t); let Z350 := fun (t : Z192) => Z347 t ∧ True; let Z351 := fun (t : Z192) => (Z319 t, Z306 t); let Z352 := fun (t : Z192) => Z321 t = Z321 t; let Z353 := fun (t : Z192) => Z320 t = Z320 t; let Z354 := fun (t : Z192) => (Z326 t, Z310 t); let Z355 := fun (t : Z192) => Z353 t ∧ True; let Z356 := fun (t : Z192) => Z328 t = Z328 t; let Z357 := fun (t : Z192) => Z330 t = Z330 t; let Z358 := fun (t : Z192) => Z332 t :: Z331 t; let Z359 := fun (t : Z192) => Z335 t ∧ Z334 t; let Z360 := fun (t : Z192) => Z336 t ∧ Z337 t; let Z361 := fun (t : Z192) => Z329 t :: Z338 t; let Z362 := fun (t : Z192) => Z329 t :: Z339 t; let Z363 := fun (t : Z192) => Z222 ∧ Z359 t; let Z364 := fun (t x : Z192) => Z275 t x ∧ Z342 t x; let Z365 := fun (t x : Z192) => Z92 ∧ Z364 t x; let Z366 := fun (t x : Z192) => Z190 ∧ Z365 t x; let Z367 := fun (t x : Z192) => Z48 ∧ Z366 t x; let Z368 := fun (t x : Z192) => Z48 ∧ Z367 t x; let Z369 := fun (t x : Z192) => Z48 ∧ Z368 t x; let Z370 := fun (t : Z192) => (Z304 t, Z349 t); let Z371 := fun (t : Z192) => (Z304 t, Z351 t); let Z372 := fun (t : Z192) => (Z311 t, Z354 t); let Z373 := fun (t : Z192) => rightM Z36 (Z370 t); let Z374 := fun (t : Z192) => Z325 t :: Z358 t; let Z375 := fun (t : Z192) => Z302 t → Z360 t; let Z376 := fun (t : Z192) => (Z370 t, Z109); let Z377 := fun (t : Z192) => Z373 t == false; let Z378 := fun (t : Z192) => (Z371 t, Z109); let Z379 := fun (t : Z192) => (Z12, Z376 t); let Z380 := fun (t : Z192) => (Z12, Z378 t); let Z381 := fun (t : Z192) => Z315 t :: Z361 t; let Z382 := fun (t : Z192) => Z315 t :: Z362 t; let Z383 := fun (t : Z192) => Z68 :: Z381 t; let Z384 := fun (t : Z192) => Z68 :: Z382 t; let Z385 := fun (t : Z192) => Z373 t == Z249 t; let Z386 := fun (t : Z192) => (Z219 t, Z379 t); let Z387 := fun (t : Z192) => (Z219 t, Z380 t); let Z388 := fun (t : Z192) => Z386 t :: Z19; let Z389 := fun (t : Z192) => Z387 t :: Z19; let Z390 := fun (t : Z192) => Z232 t :: Z383 t; let Z391 := fun (t : Z192) => List.drop Z29 (Z388 t); let Z392 := fun (t : Z192) => Z232 t :: Z384 t; let Z393 := fun (t : Z192) => List.drop Z29 (Z389 t); let Z394 := fun (t : Z192) => some (Z390 t); let Z395 := fun (t : Z192) => some (Z392 t); let Z396 := fun (t : Z192) => List.take Z28 (Z391 t); let Z397 := fun (t : Z192) => List.take Z28 (Z393 t); let Z398 := fun (t : Z192) => Z356 t ∧ Z350 t; let Z399 := fun (t : Z192) => Z357 t ∧ Z355 t; let Z400 := fun (t : Z192) => Z316 t :: Z374 t; let Z401 := fun (t : Z192) => Z293 t ++ Z396 t; let Z402 := fun (t : Z192) => Z293 t ++ Z397 t; let Z403 := fun (t : Z192) => Z329 t :: Z400 t; let Z404 := fun (t : Z192) => Z359 t ∧ Z375 t; let Z405 := fun (t x : Z192) => Z401 t = Z293 x; let Z406 := fun (t x : Z192) => Z402 t = Z293 x; let Z407 := fun (t x : Z192) => Z53 ∧ Z405 t x; let Z408 := fun (t x : Z192) => Z53 ∧ Z406 t x; let Z409 := fun (t x : Z192) => Z407 t x ∧ True; let Z410 := fun (t x : Z192) => Z408 t x ∧ True; let Z411 := fun (t x : Z192) => Z165 ∧ Z409 t x; let Z412 := fun (t x : Z192) => Z165 ∧ Z410 t x; let Z413 := fun (t x : Z192) => Z245 ∧ Z411 t x; let Z414 := fun (t x : Z192) => Z245 ∧ Z412 t x; let Z415 := fun (t : Z192) => Z348 t ∧ Z398 t; let Z416 := fun (t : Z192) => (Z370 t, Z372 t); let Z417 := fun (t : Z192) => Z415 t ∧ True; let Z418 := fun (t : Z192) => Z352 t ∧ Z399 t; let Z419 := fun (t : Z192) => Z315 t :: Z403 t; let Z420 := fun (t x : Z192) => Z197 ∧ Z413 t x; let Z421 := fun (t x : Z192) => Z197 ∧ Z414 t x; let Z422 := fun (t : Z192) => Z165 ∧ Z417 t; let Z427 := fun (t : Z192) => Z394 t = Z394 t; let Z429 := fun (t : Z192) => Z395 t = Z395 t; let Z434 := fun (t : Z192) => (Z219 t, Z297 t, Z416 t); let Z437 := fun (t : Z192) => claimRM Z36 (Z434 t) == false; let Z443 := fun (t : Z192) => claimRM Z36 (Z434 t) == Z249 t; let Z466 := fun (t x : Z192) => ∃ (x_1 : Z192), (Z369 t x_1 ∧ True ∧ Z345 t x_1 ∧ Z106 ∧ Z34 ∧ Z420 t x_1) ∧ Z340 x_1 t x; let Z468 := fun (t x : Z192) => ∃ (x_1 : Z192), (Z369 t x_1 ∧ True ∧ Z345 t x_1 ∧ Z106 ∧ Z34 ∧ Z421 t x_1) ∧ Z340 x_1 t x; let Z478 := fun (t : Z192) => some (Z232 t :: Z299 t :: Z419 t) = some (Z232 t :: Z299 t :: Z419 t); let Z482 := fun (t x : Z192) => ∃ (x_1 : Z192), (Z369 t x_1 ∧ True ∧ Z345 t x_1 ∧ Z106 ∧ Z34 ∧ Z197 ∧ Z245 ∧ Z165 ∧ (Z53 ∧ Z293 t ++ List.take Z28 (List.drop Z29 (Z434 t :: Z19)) = Z293 x_1) ∧ True) ∧ Z340 x_1 t x; (Z171 ∧ (Z12 ≤ Z12 ∧ Z12 < Z45) ∧ Z231) ∧ Z195 ∧ ((Z55 = Z55 ∧ True) ∧ Z156) ∧ (Z171 ∧ (Z12 ≤ Z118 ∧ Z118 < Z45) ∧ Z231) ∧ Z195 ∧ ((Z143 = Z143 ∧ True) ∧ Z156) ∧ Z12 ≤ Z169 ∧ ((Z12 < Z256 ∧ Z256 < Z33) ∧ (Z12 ≤ Z174 ∧ Z174 < Z45) ∧ Z231) ∧ (Z259 = Z259 ∧ Z119) ∧ ((Z185 = Z185 ∧ True) ∧ Z156) ∧ Z12 ≤ Z201 ∧ ((Z12 < Z266 ∧ Z266 < Z33) ∧ (Z12 ≤ Z208 ∧ Z208 < Z45) ∧ Z231) ∧ (Z270 = Z270 ∧ Z119) ∧ ((Z223 = Z223 ∧ True) ∧ Z156) ∧ (Z12 ≤ Z284 ∧ Z284 < Z24) ∧ (Z285 = Z285 ∧ True) ∧ True ∧ (Z172 ∧ (Z12 ≤ Z242 ∧ Z242 < Z45) ∧ Z231) ∧ Z194 ∧ ((Z248 = Z248 ∧ True) ∧ Z156) ∧ (∃ (x : Z83), Z108 ∧ (Z0 ∧ Z0 ∧ True ∧ Z47 ∧ (True ∧ True ∧ True ∧ nat_lit 0 = nat_lit 0 ∧ Z0) ∧ Z9 ∧ Z124 x = Z19 ∧ True) ∧ (Z48 ∧ Z48 ∧ Z48 ∧ (Fn.func (nat_lit 72) = Z51 ∧ Z129) ∧ Z237 ∧ Z55 = Z137 x ∧ True) ∧ True ∧ (Value.int IntKind.i64 (Z242 + Z17) = Z148 x ∧ True) ∧ Z106 ∧ Z34 ∧ Z197 ∧ (Value.int IntKind.i64 Z169 = Z25 ∧ Z237 ∧ Value.int IntKind.i64 (min Z201 (IntKind.wrap IntKind.i64 (popM (drawM l Z208 (IntKind.wrap IntKind.i64 (Z17 * Z14 ^ min Z211 (64 : Nat)))) + drawM l Z242 Z14))) = Z23 ∧ Z94 ∧ Z102) ∧ (Value.int IntKind.i64 (drawM l Z174 Z256) = Z26 ∧ Z285 = Z21 ∧ True) ∧ Z0) ∧ ∀ (t : Z83), (Z215 t = true → Z12 ≤ Z112 t ∧ (Z172 ∧ Z278 t) ∧ Z194 ∧ Z258 t ∧ ∃ (x : Z192), ((Z48 ∧ Z48 ∧ Z48 ∧ Z190 ∧ Z92 ∧ Z257 t x ∧ Z257 t x ∧ Value.bool (IntKind.wrap IntKind.i64 (↑(BitVec.toNat (BitVec.ofInt (nat_lit 64) (Int.fdiv (tlM l) (Z14 ^ min (Int.toNat (Z112 t)) (nat_lit 64))) &&& BitVec.ofInt (nat_lit 64) Z17)) : Int) == Z17) = Z214 x ∧ Value.int IntKind.i64 (IntKind.wrap IntKind.i64 (Z17 + drawM l (Z123 t) Z14)) = Z238 x ∧ Z55 = Z229 x ∧ True) ∧ True ∧ (Z186 t = Z295 x ∧ True) ∧ Z106 ∧ Z34 ∧ Z197 ∧ Z245 ∧ Z165 ∧ (Z103 ∧ Z124 t = Z293 x) ∧ True) ∧ Z199 x = Z199 x ∧ ∀ (t_1 : Z192), Z269 t_1 x → (Z291 t_1 = true → ((Z12 < Z13 ∧ Z13 < Z33) ∧ (Z12 ≤ Z292 t_1 ∧ Z292 t_1 < Z45) ∧ Z231) ∧ (Z57 = Z57 ∧ Z119) ∧ ((Z295 t_1 = Z295 t_1 ∧ True) ∧ Z156) ∧ (Z218 ∧ (Z12 ≤ Z300 t_1 ∧ Z300 t_1 < Z43) ∧ Z231) ∧ Z119 ∧ (Z197 ∧ (Z309 t_1 = Z309 t_1 ∧ True) ∧ Z243) ∧ (Z218 ∧ (Z12 ≤ Z305 t_1 ∧ Z305 t_1 < Z43) ∧ Z231) ∧ Z119 ∧ (Z197 ∧ (Z318 t_1 = Z318 t_1 ∧ True) ∧ Z243) ∧ (Z207 t_1 = true → (Z222 ∧ Z346 t_1 ∧ Z404 t_1) ∧ (Z165 ∧ (Z276 t_1 ∧ Z343 t_1 ∧ Z348 t_1 ∧ Z356 t_1 ∧ Z347 t_1 ∧ Z418 t_1) ∧ True) ∧ True ∧ (Z443 t_1 = true → Z363 t_1 ∧ Z422 t_1 ∧ True ∧ (Z385 t_1 = true → True ∧ Z417 t_1 ∧ True ∧ (nat_lit 1 = nat_lit 1 ∧ Z429 t_1) ∧ Z8 ∧ Z322 t_1 ∧ True ∧ Z468 t_1 x) ∧ (Z385 t_1 = false → (nat_lit 1 = nat_lit 1 ∧ Z427 t_1) ∧ Z8 ∧ Z322 t_1 ∧ True ∧ Z466 t_1 x)) ∧ (Z443 t_1 = false → (nat_lit 1 = nat_lit 1 ∧ Z478 t_1) ∧ Z8 ∧ Z322 t_1 ∧ True ∧ Z482 t_1 x)) ∧ (Z207 t_1 = false → (Z222 ∧ Z346 t_1 ∧ Z404 t_1) ∧ (Z165 ∧ (Z276 t_1 ∧ Z343 t_1 ∧ Z348 t_1 ∧ Z356 t_1 ∧ Z347 t_1 ∧ Z418 t_1) ∧ True) ∧ True ∧ (Z437 t_1 = true → Z363 t_1 ∧ Z422 t_1 ∧ True ∧ (Z377 t_1 = true → True ∧ Z417 t_1 ∧ True ∧ (nat_lit 1 = nat_lit 1 ∧ Z429 t_1) ∧ Z8 ∧ Z322 t_1 ∧ True ∧ Z468 t_1 x) ∧ (Z377 t_1 = false → (nat_lit 1 = nat_lit 1 ∧ Z427 t_1) ∧ Z8 ∧ Z322 t_1 ∧ True ∧ Z466 t_1 x)) ∧ (Z437 t_1 = false → (nat_lit 1 = nat_lit 1 ∧ Z478 t_1) ∧ Z8 ∧ Z322 t_1 ∧ True ∧ Z482 t_1 x))) ∧ (Z291 t_1 = false → True ∧ ∃ (x : Z83), ((Z48 ∧ Z48 ∧ Z48 ∧ Z190 ∧ Z92 ∧ Value.int IntKind.i64 (IntKind.wrap IntKind.i64 (Z219 t_1 + Z17)) = Z137 x ∧ True) ∧ True ∧ (Z295 t_1 = Z148 x ∧ True) ∧ Z106 ∧ Z34 ∧ Z197 ∧ Z245 ∧ Z165 ∧ (Z103 ∧ Z293 t_1 = Z124 x) ∧ True) ∧ Z155 x < Z155 t)) ∧ (Z215 t = false → ((Z12 < Z15 ∧ Z15 < Z33) ∧ Z278 t) ∧ (Z56 = Z56 ∧ Z119) ∧ Z258 t ∧ (∃ (x : Z62), Z108 ∧ (Z0 ∧ Z0 ∧ True ∧ Z47 ∧ (True ∧ True ∧ True ∧ True ∧ Z6) ∧ Z9 ∧ True ∧ Z111 x = Z18 ∧ True) ∧ (Z48 ∧ Z48 ∧ Z48 ∧ Z190 ∧ Value.int IntKind.i64 (drawM l (Z123 t) Z15) = Z69 ∧ Z55 = Z125 x ∧ True) ∧ True ∧ (Z186 t = Z134 x ∧ True) ∧ Z106 ∧ Z34 ∧ Z197 ∧ Z245 ∧ Z165 ∧ (Z103 ∧ Z124 t = Z32) ∧ Z0) ∧ ∀ (t : Z62), (Z233 t = true → (Z218 ∧ (Z12 ≤ Z110 t ∧ Z110 t < Z43) ∧ Z231) ∧ Z119 ∧ (Z197 ∧ (Z134 t = Z134 t ∧ True) ∧ Z243) ∧ (Z222 ∧ Z12 ≤ Z145 t ∧ Z145 t < Z16) ∧ (Z165 ∧ Z288 t) ∧ True ∧ (Z261 t = true → True ∧ Z288 t ∧ True ∧ (nat_lit 1 = nat_lit 1 ∧ Z268 t = Z268 t) ∧ Z8 ∧ Z188 t ∧ True ∧ ∃ (x : Z62), (Z289 t x ∧ True ∧ Z213 t x ∧ Z106 ∧ Z34 ∧ Z197 ∧ Z221 ∧ Z165 ∧ Z181 ∧ (Z54 ∧ Z111 t ++ List.take Z28 (List.drop Z29 ((Z122 t, Z145 t, Z132 t) :: Z18)) = Z111 x) ∧ True) ∧ Z204 x t) ∧ (Z261 t = false → (nat_lit 1 = nat_lit 1 ∧ Z267 t = Z267 t) ∧ Z8 ∧ Z188 t ∧ True ∧ ∃ (x : Z62), (Z289 t x ∧ True ∧ Z213 t x ∧ Z106 ∧ Z34 ∧ Z197 ∧ Z221 ∧ Z165 ∧ Z181 ∧ (Z54 ∧ Z111 t ++ List.take Z28 (List.drop Z29 (Z254 t :: Z18)) = Z111 x) ∧ True) ∧ Z204 x t)) ∧ (Z233 t = false → True ∧ ((Z221 ∧ Z165 ∧ True) ∧ True) ∧ True ∧ (Z134 t = Value.int IntKind.i64 (Prod.snd (knM l (nnM l))) ∧ True) ∧ Z106 ∧ Z34 ∧ Z181 ∧ (Z41 = Z41 ∧ Z111 t = Prod.fst (knM l (nnM l))) ∧ True)))
    (by kernel_rfl) ?_
  simp only [eq_self, true_and, and_true, Int.toNat_natCast, Nat.zero_add, Nat.sub_zero, Value.int.injEq, Value.bool.injEq, decide_eq_true_eq, decide_eq_false_iff_not]
  have hby : (0 < l.length ∧ l.length < 9223372036854775808) ∧ ∀ (x : Int), x ∈ l → 0 ≤ x ∧ x ≤ 65535 := hx
  have hmf := mf_b l
  have hmw := mw_b l
  have e0 : IntKind.i64.wrap (1 + drawM l 0 6) = mfM l := wrap_id (x := mfM l) (by omega) (by omega)
  have e1 : IntKind.i64.wrap (1 + drawM l 1 6) = mwM l := wrap_id (x := mwM l) (by omega) (by omega)
  have hp : ∀ n : Int, 0 < n → n ≤ 6 → IntKind.i64.wrap (1 * 2 ^ min n.toNat 64) = 2 ^ n.toNat ∧ (0 : Int) < 2 ^ n.toNat ∧ (2 : Int) ^ n.toNat ≤ 64 := fun n h1 h2 => by
    have h3 := pow64 n.toNat (by omega)
    have h4 := Nat.pow_pos (n := n.toNat) (show 0 < 2 by decide)
    rw [show min n.toNat 64 = n.toNat by omega, Int.one_mul, two_pow]
    exact ⟨wrap_id (by omega) (by omega), by omega, by omega⟩
  obtain ⟨pf1, pf2, pf3⟩ := hp _ hmf.1 hmf.2
  obtain ⟨pw1, pw2, pw3⟩ := hp _ hmw.1 hmw.2
  have htl := tl_64 l
  have htf := tf_64 l
  have hpl := popM_le (tlM l)
  have hd4 := drawM_lt l 4 (show (0 : Int) < 2 by decide)
  have eL : IntKind.i64.wrap (popM (tlM l) + drawM l 4 2) = popM (tlM l) + drawM l 4 2 := wrap_id (by omega) (by omega)
  simp only [show (0 : Int) + 1 = 1 from rfl, show (1 : Int) + 1 = 2 from rfl, show (2 : Int) + 1 = 3 from rfl, show (3 : Int) + 1 = 4 from rfl, show (4 : Int) + 1 = 5 from rfl, e0, e1, pf1, pw1]
  have eTf : drawM l 2 (2 ^ (mfM l).toNat) = tfM l := rfl
  have eTl : drawM l 3 (2 ^ (mwM l).toNat) = tlM l := rfl
  have eMl : min (mwM l) (popM (tlM l) + drawM l 4 2) = mlM l := rfl
  simp only [eTf, eTl, eL, eMl, eq_self, true_and, and_true]
  refine ⟨⟨by decide, by decide, hby⟩, ⟨by decide, by decide, hby⟩, by omega, ⟨⟨pf2, by omega⟩, by decide, hby⟩, by omega, ⟨⟨pw2, by omega⟩, by decide, hby⟩, htl, ⟨by decide, by decide, hby⟩, ⟨⟨0, Nat.zero_le _⟩, rfl, rfl, rfl⟩, fun t => ⟨fun ht => ?_, fun ht => ?_⟩⟩
  · obtain ⟨i, hi⟩ := t
    have hlt : i < (mwM l).toNat := by have h0 : (i : Int) < mwM l := ht; omega
    have ho := out_b l i
    have hnk := nk_b l (outM l i).2
    have ob : 0 ≤ (outM l i).2 ∧ (outM l i).2 < 1000000 := by omega
    have hlie : (IntKind.i64.wrap ((BitVec.ofInt 64 ((tlM l).fdiv (2 ^ min i 64)) &&& BitVec.ofInt 64 1).toNat : Int) == 1) = lieM l i := by
      have h1 := htl
      unfold lieM
      generalize tlM l = t at h1
      obtain ⟨t, rfl⟩ := Int.eq_ofNat_of_zero_le h1.1
      have : ∀ (t : Fin 64) (i : Fin 6), (IntKind.i64.wrap ((BitVec.ofInt 64 (((t.val : Nat) : Int).fdiv (2 ^ min i.val 64)) &&& BitVec.ofInt 64 1).toNat : Int) == 1) = hasM ((t.val : Nat) : Int) ((i.val : Nat) : Int) := by decide +kernel
      exact this ⟨t, by omega⟩ ⟨i, by omega⟩
    refine ⟨Int.natCast_nonneg _, ⟨by decide, ob, hby⟩, ⟨(i, 0), hlt, Nat.zero_le _⟩, ⟨⟨rfl, rfl, hlie, wrap_id (x := nkM l (outM l i).2) (by omega) (by omega), rfl⟩, rfl, rfl⟩, ?_⟩
    rintro ⟨⟨i1, j⟩, hi1, hj⟩ hr1
    have hr1' : i1 = i := hr1
    subst hr1'
    have hj' : j ≤ (nkM l (outM l i1).2).toNat := hj
    have hb := ins_b l i1 ((outM l i1).1, (outM l i1).2 + 1) j
    refine ⟨fun h => ?_, fun h => ?_⟩
    · have hjl : j < (nkM l (outM l i1).2).toNat := by have h0 : (j : Int) < nkM l (outM l i1).2 := h; omega
      have hsu := sucI j (by omega)
      have hstep : insM l i1 ((outM l i1).1, (outM l i1).2 + 1) (j + 1) = stepM l i1 j (insM l i1 ((outM l i1).1, (outM l i1).2 + 1) j) := rfl
      have hb1 : (outM l i1).2 + 1 ≤ (insM l i1 ((outM l i1).1, (outM l i1).2 + 1) j).2 := hb.1
      have hb2 : (insM l i1 ((outM l i1).1, (outM l i1).2 + 1) j).2 ≤ (outM l i1).2 + 1 + 9 * (j : Int) := hb.2.1
      have hb3 : (insM l i1 ((outM l i1).1, (outM l i1).2 + 1) j).1.length = (outM l i1).1.length + j := hb.2.2
      have hlen : (insM l i1 ((outM l i1).1, (outM l i1).2 + 1) j).1.length + 1 ≤ 1099511627776 := by omega
      have hzero : (((j : Nat) : Int) == 0) = (j == 0) := by
        cases j with
        | zero => rfl
        | succ j => simp; omega
      simp only [hzero]
      generalize insM l i1 ((outM l i1).1, (outM l i1).2 + 1) j = s at *
      have hwa := wa_b l (s.2 + 1)
      have hd3 := drawM_lt l s.2 (show (0 : Int) < 3 by decide)
      have hok : ((0 ≤ drawM l s.2 3 ∧ drawM l s.2 3 ≤ 2) ∧ (0 ≤ wnM l (mfM l) (mwM l) (s.2 + 1) ∧ wnM l (mfM l) (mwM l) (s.2 + 1) < 6) ∧ (drawM l s.2 3 ≠ 0 → 0 ≤ wnM l (mfM l) (mwM l) (waM l (s.2 + 1)) ∧ wnM l (mfM l) (mwM l) (waM l (s.2 + 1)) < 6)) := ⟨by omega, wn_b l _, fun _ => wn_b l _⟩
      have fin : ∀ (c : Cl), clDM l i1 (lieM l i1 && j == 0) s.2 = c → ∃ x : { p : Nat × Nat // p.1 < (mwM l).toNat ∧ p.2 ≤ (nkM l (outM l p.1).2).toNat },
          ((((i1 : Nat) : Int) = ((x.1.1 : Nat) : Int) ∧ ((i1 : Nat) : Int) = ((x.1.1 : Nat) : Int) ∧ lieM l i1 = lieM l x.1.1 ∧ nkM l (outM l i1).2 = nkM l (outM l x.1.1).2 ∧ IntKind.i64.wrap ((j : Int) + 1) = ((x.1.2 : Nat) : Int)) ∧
            waM l (waM l (s.2 + 1)) = (insM l x.1.1 ((outM l x.1.1).1, (outM l x.1.1).2 + 1) x.1.2).2 ∧ s.1 ++ List.take 1 (List.drop 0 [c]) = (insM l x.1.1 ((outM l x.1.1).1, (outM l x.1.1).2 + 1) x.1.2).1) ∧
          (nkM l (outM l x.1.1).2).toNat - x.1.2 < (nkM l (outM l i1).2).toNat - j ∧ x.1.1 = i1 := fun c hc => by
        refine ⟨⟨(i1, j + 1), hlt, hjl⟩, ⟨⟨rfl, rfl, rfl, rfl, hsu⟩, ?_, ?_⟩, dec1 hjl, rfl⟩
        · show _ = (insM l i1 ((outM l i1).1, (outM l i1).2 + 1) (j + 1)).2
          rw [hstep]; rfl
        · show _ = (insM l i1 ((outM l i1).1, (outM l i1).2 + 1) (j + 1)).1
          rw [hstep, ← hc]; rfl
      refine ⟨⟨by decide, by omega, hby⟩, ⟨⟨hmf, hmw⟩, by omega, hby⟩, ⟨⟨hmf, hmw⟩, by omega, hby⟩, fun hli => ?_, fun hli => ?_⟩
      · refine ⟨⟨⟨htf, htl⟩, hok⟩, fun h1 => ⟨⟨⟨htf, htl⟩, wn_b l _⟩, fun h2 => ⟨Nat.le_refl _, hlen, fin _ ?_⟩, fun h2 => ⟨Nat.le_refl _, hlen, fin _ ?_⟩⟩, fun h1 => ⟨Nat.le_refl _, hlen, fin _ ?_⟩⟩
        · rw [hli, Bool.true_and]; unfold clDM
          rw [if_pos (show (claimRM (tfM l, tlM l) ((i1 : Int), drawM l s.2 3, awM l (s.2 + 1), awM l (waM l (s.2 + 1))) == (j == 0)) = true from h1), if_pos (show (rightM (tfM l, tlM l) (awM l (s.2 + 1)) == (j == 0)) = true from h2)]; rfl
        · rw [hli, Bool.true_and]; unfold clDM
          rw [if_pos (show (claimRM (tfM l, tlM l) ((i1 : Int), drawM l s.2 3, awM l (s.2 + 1), awM l (waM l (s.2 + 1))) == (j == 0)) = true from h1), if_neg (by rw [show (rightM (tfM l, tlM l) (awM l (s.2 + 1)) == (j == 0)) = false from h2]; decide)]; rfl
        · rw [hli, Bool.true_and]; unfold clDM
          rw [if_neg (by rw [show (claimRM (tfM l, tlM l) ((i1 : Int), drawM l s.2 3, awM l (s.2 + 1), awM l (waM l (s.2 + 1))) == (j == 0)) = false from h1]; decide)]; rfl
      · refine ⟨⟨⟨htf, htl⟩, hok⟩, fun h1 => ⟨⟨⟨htf, htl⟩, wn_b l _⟩, fun h2 => ⟨Nat.le_refl _, hlen, fin _ ?_⟩, fun h2 => ⟨Nat.le_refl _, hlen, fin _ ?_⟩⟩, fun h1 => ⟨Nat.le_refl _, hlen, fin _ ?_⟩⟩
        · rw [hli, Bool.false_and]; unfold clDM
          rw [if_pos (show (claimRM (tfM l, tlM l) ((i1 : Int), drawM l s.2 3, awM l (s.2 + 1), awM l (waM l (s.2 + 1))) == false) = true from h1), if_pos (show (rightM (tfM l, tlM l) (awM l (s.2 + 1)) == false) = true from h2)]; rfl
        · rw [hli, Bool.false_and]; unfold clDM
          rw [if_pos (show (claimRM (tfM l, tlM l) ((i1 : Int), drawM l s.2 3, awM l (s.2 + 1), awM l (waM l (s.2 + 1))) == false) = true from h1), if_neg (by rw [show (rightM (tfM l, tlM l) (awM l (s.2 + 1)) == false) = false from h2]; decide)]; rfl
        · rw [hli, Bool.false_and]; unfold clDM
          rw [if_neg (by rw [show (claimRM (tfM l, tlM l) ((i1 : Int), drawM l s.2 3, awM l (s.2 + 1), awM l (waM l (s.2 + 1))) == false) = false from h1]; decide)]; rfl
    · have hje : j = (nkM l (outM l i1).2).toNat := by have h0 : ¬ (j : Int) < nkM l (outM l i1).2 := h; omega
      subst hje
      exact ⟨⟨i1 + 1, hlt⟩, ⟨sucI i1 (by omega), rfl, rfl⟩, dec1 hlt⟩
  · have hti : t.1 = (mwM l).toNat := by have := t.2; omega
    have ho := out_b l (mwM l).toNat
    have hnn := nn_b l
    rw [hti]
    have hoM : outM l (mwM l).toNat = oM l := rfl
    rw [hoM] at ho ⊢
    refine ⟨⟨by decide, by omega, hby⟩, ⟨⟨0, Nat.zero_le _⟩, rfl, ⟨hnn.2.symm, rfl⟩, rfl, rfl⟩, fun t => ⟨fun ht => ?_, fun ht => ?_⟩⟩
    · obtain ⟨j, hj⟩ := t
      have hlt : j < nnM l := by have h0 : (j : Int) < (nnM l : Int) := ht; omega
      have hk := kn_b l j
      have hsu := sucI j (by omega)
      refine ⟨⟨⟨hmf, hmw⟩, by show 0 ≤ (knM l j).2 ∧ (knM l j).2 < 900000; omega, hby⟩, ⟨⟨htf, htl⟩, wn_b l _⟩, fun hr => ⟨Nat.le_refl _, by show (knM l j).1.length + 1 ≤ _; omega, ⟨j + 1, hlt⟩, ⟨hsu, rfl, ?_⟩, dec1 hlt⟩, fun hr => ⟨Nat.le_refl _, by show (knM l j).1.length + 1 ≤ _; omega, ⟨j + 1, hlt⟩, ⟨hsu, rfl, ?_⟩, dec1 hlt⟩⟩
      · have hr' : (!rightM (tfM l, tlM l) (awM l (knM l j).2)) = true := hr
        have hr2 : rightM (tfM l, tlM l) (awM l (knM l j).2) = false := by simpa using hr'
        show _ = (knM l j).1 ++ [kwM l (knM l j).2]
        unfold kwM; rw [hr2]; rfl
      · have hr' : (!rightM (tfM l, tlM l) (awM l (knM l j).2)) = false := hr
        have hr2 : rightM (tfM l, tlM l) (awM l (knM l j).2) = true := by simpa using hr'
        show _ = (knM l j).1 ++ [kwM l (knM l j).2]
        unfold kwM; rw [hr2]; rfl
    · have htn : t.1 = nnM l := by have := t.2; omega
      rw [htn]; exact ⟨rfl, rfl⟩

theorem made_sound : Sound Try.prog 34 madeS.con := FSpec.sound _ (enter_of Try.func34 (by kernel_rfl) (by kernel_rfl)) made_ok
end AE.Pr

namespace AE.Pr
open Go AE Go.Proofs

def trM (l : List Int) : Int × Int := (tfM l, tlM l)
theorem right_not (t : Int × Int) (w : W3) : rightM t (w.1, w.2.1, !w.2.2) = !rightM t w := by
  unfold rightM
  simp only
  generalize (if w.1 = true then !hasM t.2 w.2.1 else hasM t.1 w.2.1) = b
  cases b <;> cases w.2.2 <;> rfl
theorem claim_is (t : Int × Int) (i : Int) (w v : W3) : claimRM t (i, 0, w, v) = rightM t w := by
  simp [claimRM, claimM, ciM]
theorem cl_right (l : List Int) (i : Nat) (wrong : Bool) (a : Int) : claimRM (trM l) (clDM l i wrong a) = !wrong := by
  have hb : ∀ x y : Bool, ¬ (x == y) = true → x = !y := by decide
  unfold clDM
  show claimRM (trM l) (if claimRM (trM l) _ == wrong then _ else _) = _
  split
  · rw [claim_is]
    split
    · rename_i h
      rw [right_not]
      have : rightM (tfM l, tlM l) (awM l (a + 1)) = wrong := eq_of_beq h
      rw [show rightM (trM l) (awM l (a + 1)) = wrong from this]
    · rename_i h; exact hb _ _ h
  · rename_i h; exact hb _ _ h
theorem aw_ok (l : List Int) (a : Int) : wordM (mfM l) (mwM l) (awM l a) = true := by
  have h1 := mf_b l
  have h2 := mw_b l
  have e1 : W (mfM l - 1) = mfM l - 1 := wrap_id (by omega) (by omega)
  have e2 : W (mwM l - 1) = mwM l - 1 := wrap_id (by omega) (by omega)
  have h3 := drawM_lt l (a + 2) h2.1
  have h4 := drawM_lt l a h1.1
  unfold wordM inM awM wordDM wnM
  simp only
  cases wpM l a <;> simp [e1, e2] <;> omega
theorem word_not {f w : Int} (x : W3) : wordM f w (x.1, x.2.1, !x.2.2) = wordM f w x := rfl
theorem cl_ok (l : List Int) (i : Nat) (wrong : Bool) (a : Int) : (clDM l i wrong a).1 = (i : Int) ∧ (0 ≤ (clDM l i wrong a).2.1 ∧ (clDM l i wrong a).2.1 ≤ 2) ∧ wordM (mfM l) (mwM l) (clDM l i wrong a).2.2.1 = true ∧ ((clDM l i wrong a).2.1 ≠ 0 → wordM (mfM l) (mwM l) (clDM l i wrong a).2.2.2 = true) := by
  have h3 := drawM_lt l a (show (0 : Int) < 3 by decide)
  unfold clDM
  split
  · refine ⟨rfl, ⟨Int.le_refl _, by show (0 : Int) ≤ 2; decide⟩, ?_, fun h => absurd rfl h⟩
    show wordM _ _ (if _ then _ else _) = true
    split
    · exact aw_ok l _
    · exact aw_ok l _
  · exact ⟨rfl, ⟨h3.1, by show drawM l a 3 ≤ 2; omega⟩, aw_ok l _, fun _ => aw_ok l _⟩
theorem ins_mem (l : List Int) (i : Nat) (s : List Cl × Int) (c : Cl) : ∀ j : Nat, c ∈ (insM l i s j).1 → c ∈ s.1 ∨ ∃ k a, c = clDM l i (lieM l i && k == 0) a
  | 0, h => .inl h
  | j + 1, h => by
    have h' : c ∈ (insM l i s j).1 ++ [clDM l i (lieM l i && j == 0) (insM l i s j).2] := h
    rcases List.mem_append.1 h' with h1 | h1
    · exact ins_mem l i s c j h1
    · exact .inr ⟨j, _, List.mem_singleton.1 h1⟩
theorem ins_keep (l : List Int) (i : Nat) (s : List Cl × Int) (c : Cl) (h : c ∈ s.1) : ∀ j : Nat, c ∈ (insM l i s j).1
  | 0 => h
  | j + 1 => List.mem_append.2 (.inl (ins_keep l i s c h j))
theorem ins_first (l : List Int) (i : Nat) (s : List Cl × Int) : ∀ j : Nat, ∃ a, clDM l i (lieM l i && (0 : Nat) == 0) a ∈ (insM l i s (j + 1)).1
  | 0 => ⟨_, List.mem_append.2 (.inr (List.mem_singleton.2 rfl))⟩
  | j + 1 => by
    obtain ⟨a, h⟩ := ins_first l i s j
    exact ⟨a, List.mem_append.2 (.inl h)⟩
theorem out_mem (l : List Int) (c : Cl) : ∀ i : Nat, c ∈ (outM l i).1 → ∃ w k a, w < i ∧ c = clDM l w (lieM l w && k == 0) a
  | 0, h => by simp [outM] at h
  | i + 1, h => by
    have h' : c ∈ (insM l i ((outM l i).1, (outM l i).2 + 1) (nkM l (outM l i).2).toNat).1 := h
    rcases ins_mem l i _ c _ h' with h1 | ⟨k, a, h1⟩
    · obtain ⟨w, k, a, hw, e⟩ := out_mem l c i h1
      exact ⟨w, k, a, by omega, e⟩
    · exact ⟨i, k, a, by omega, h1⟩
theorem out_first (l : List Int) (w : Nat) : ∀ i : Nat, w < i → ∃ a, clDM l w (lieM l w && (0 : Nat) == 0) a ∈ (outM l i).1
  | 0, h => absurd h (Nat.not_lt_zero _)
  | i + 1, h => by
    have hn := nk_b l (outM l i).2
    rcases Nat.lt_or_eq_of_le (Nat.le_of_lt_succ h) with h1 | rfl
    · obtain ⟨a, ha⟩ := out_first l w i h1
      exact ⟨a, ins_keep l i ((outM l i).1, (outM l i).2 + 1) _ ha _⟩
    · obtain ⟨k, hk⟩ : ∃ k, (nkM l (outM l w).2).toNat = k + 1 := ⟨(nkM l (outM l w).2).toNat - 1, by omega⟩
      obtain ⟨a, ha⟩ := ins_first l w ((outM l w).1, (outM l w).2 + 1) k
      exact ⟨a, by unfold outM; rw [hk]; exact ha⟩
theorem kn_mem (l : List Int) (c : W3) : ∀ j : Nat, c ∈ (knM l j).1 → rightM (trM l) c = true ∧ wordM (mfM l) (mwM l) c = true
  | 0, h => by simp [knM] at h
  | j + 1, h => by
    have h' : c ∈ (knM l j).1 ++ [kwM l (knM l j).2] := h
    rcases List.mem_append.1 h' with h1 | h1
    · exact kn_mem l c j h1
    · rw [List.mem_singleton.1 h1]
      unfold kwM
      split
      · rename_i h2; exact ⟨h2, aw_ok l _⟩
      · rename_i h2
        rw [right_not, word_not]
        refine ⟨?_, aw_ok l _⟩
        have : rightM (trM l) (awM l (knM l j).2) = false := by
          cases h3 : rightM (trM l) (awM l (knM l j).2) with
          | false => rfl
          | true => exact absurd h3 h2
        rw [this]; rfl
theorem hear_of {x : HT} (h : HearOk x) : hearM x = true := by
  obtain ⟨⟨f, w, li⟩, cs, ks⟩ := x
  obtain ⟨h1, h2, h3, h4, h5, h6, h7⟩ := h
  have h1' : 0 ≤ f ∧ f ≤ 6 := h1
  have h2' : 0 ≤ w ∧ w ≤ 6 := h2
  have h3' : 0 ≤ li ∧ li ≤ w := h3
  have hW : W (w - 1) = w - 1 := wrap_id (by omega) (by omega)
  have e1 : cs.any (badCM f w) = false := by
    rw [List.any_eq_false]
    intro c hc
    obtain ⟨⟨a1, a2⟩, ⟨a3, a4⟩, a5, a6⟩ := h6 c hc
    have a4' : c.1 < w := a4
    have a5' : wordM f w c.2.2.1 = true := a5
    have i1 : inM c.2.1 0 2 = true := by simp [inM, a1, a2]
    have i2 : inM c.1 0 (w - 1) = true := by simp [inM, a3]; omega
    unfold badCM
    rw [hW, i1, i2, a5']
    cases hk : (c.2.1 != 0) with
    | false => simp
    | true =>
      have a6' : wordM f w c.2.2.2 = true := a6 (by simpa using hk)
      rw [a6']; simp
  have e2 : (ks.any fun y => !wordM f w y) = false := by
    rw [List.any_eq_false]
    intro c hc
    have : wordM f w c = true := h7 c hc
    rw [this]; simp
  have h4' : cs.length ≤ 14 := h4
  have h5' : ks.length ≤ 4 := h5
  unfold hearM inM
  simp only [e1, e2, h4', h5', h1', h2', h3', decide_true]
  rfl
theorem made_hear (l : List Int) : HearOk (madeM l) := by
  have h1 := mf_b l
  have h2 := mw_b l
  have h3 := tl_b l
  have h4 := drawM_lt l 4 (show (0 : Int) < 2 by decide)
  have h5 := popM_le (tlM l)
  have ho := out_b l (mwM l).toNat
  have hn := nn_b l
  have hk := kn_b l (nnM l)
  refine ⟨⟨by show 0 ≤ mfM l; omega, by show mfM l ≤ 6; omega⟩, ⟨by show 0 ≤ mwM l; omega, by show mwM l ≤ 6; omega⟩, ⟨by show 0 ≤ mlM l; unfold mlM; omega, by show mlM l ≤ mwM l; unfold mlM; omega⟩, ?_, ?_, fun c hc => ?_, fun c hc => ?_⟩
  · show (outM l (mwM l).toNat).1.length ≤ 14
    omega
  · show (knM l (nnM l)).1.length ≤ 4
    omega
  · obtain ⟨w, k, a, hw, rfl⟩ := out_mem l c _ hc
    obtain ⟨a1, a2, a3, a4⟩ := cl_ok l w (lieM l w && k == 0) a
    exact ⟨a2, by rw [a1]; exact ⟨Int.natCast_nonneg _, by show (w : Int) < mwM l; omega⟩, a3, a4⟩
  · exact (kn_mem l c _ hc).2
theorem made_told (l : List Int) (w : Nat) (hw : w < (mwM l).toNat) : toldM (madeM l).2.1 (trM l) (w : Int) = !lieM l w := by
  cases hl : lieM l w with
  | true =>
    obtain ⟨a, ha⟩ := out_first l w _ hw
    rw [hl] at ha
    show toldM _ _ _ = false
    unfold toldM
    rw [List.all_eq_false]
    refine ⟨_, ha, ?_⟩
    rw [cl_right, (cl_ok l w _ a).1]; simp
  | false =>
    show toldM _ _ _ = true
    unfold toldM
    rw [List.all_eq_true]
    intro c hc
    obtain ⟨w2, k, a, hw2, rfl⟩ := out_mem l c _ hc
    rw [cl_right, (cl_ok l w2 _ a).1]
    by_cases e : w2 = w
    · subst e; rw [hl]; simp
    · have : ((w2 : Int) == (w : Int)) = false := by simp; omega
      rw [this]; rfl
theorem made_true (l : List Int) : trM l ∈ allH (madeM l) := by
  have h2 := mw_b l
  have htf := tf_b l
  have htl := tl_b l
  have h4 := drawM_lt l 4 (show (0 : Int) < 2 by decide)
  obtain ⟨a, ha⟩ := Int.eq_ofNat_of_zero_le htf.1
  obtain ⟨b, hb⟩ := Int.eq_ofNat_of_zero_le htl.1
  have hbl : b < 2 ^ (mwM l).toNat := by have := htl.2; rw [hb] at this; omega
  have ht : trM l = tM a b := by unfold trM tM; rw [ha, hb]
  refine mem_allM_iff.2 ⟨a, b, by show a < 2 ^ (mfM l).toNat; have := htf.2; rw [ha] at this; omega, hbl, ?_, ht⟩
  rw [← ht]
  have hp := pop_lt (mwM l).toNat b (by omega) hbl
  rw [← hb] at hp
  refine isM_true (x := rtM (madeM l)) ?_ (fun k hk => ?_) fun j hj => ?_
  · show popM (tlM l) ≤ mlM l
    unfold mlM; omega
  · have hk' : k < (mwM l).toNat := hk
    rw [sayM_told (by omega), made_told l k hk']
    show (!(_ && ((!lieM l k) == lieM l k))) = true
    cases lieM l k <;> simp
  · exact (kn_mem l _ _ (getD_mem dfW hj)).1
end AE.Pr

namespace AE.Pr
open Go AE Go.Proofs

theorem every_has {n k : Nat} (hn : n ≤ 6) (hk : k < n) : hasM (everyM n) (k : Int) = true := by
  have : ∀ (n : Fin 7) (k : Fin 6), k.val < n.val → hasM (everyM n.val) ((k.val : Nat) : Int) = true := by decide +kernel
  exact this ⟨n, by omega⟩ ⟨k, by omega⟩ hk
/-- A truth, if all are heard, is one if some are. -/
theorem isM_sub {x : HT} (hx : HearOk x) {s : Int} {t : Int × Int} (h : isM (rtM x) (everyH x) t = true) : isM (rtM x) s t = true := by
  unfold isM at h ⊢
  simp only [Bool.and_eq_true] at h ⊢
  refine ⟨⟨h.1.1, ?_⟩, h.2⟩
  rw [List.all_eq_true] at *
  intro k hk
  have h1 := h.1.2 k hk
  have hk2 : k < x.1.2.1.toNat := List.mem_range.1 hk
  have hw := hx.w
  unfold sayM at h1 ⊢
  have he : hasM (everyH x) (k : Int) = true := every_has (by omega) hk2
  rw [he] at h1
  cases hasM s (k : Int) with
  | false => rfl
  | true => exact h1
theorem all_sub {x : HT} (hx : HearOk x) (s : Int) {t : Int × Int} (h : t ∈ allH x) : t ∈ allM (rtM x) s := by
  obtain ⟨a, b, ha, hb, hi, rfl⟩ := mem_allM_iff.1 h
  exact mem_allM_iff.2 ⟨a, b, ha, hb, isM_sub hx hi, rfl⟩
theorem proof_right {x : HT} {w : W3} (h : (proofM x w).2 = 0) {t : Int × Int} (ht : t ∈ allH x) : rightM t w = true := by
  unfold proofM at h
  split at h
  · rename_i hc
    rw [Bool.and_eq_true] at hc
    split at h
    · rename_i hb
      unfold bestM at hb
      split at hb
      · rename_i s hs
        have hk := hear_ok hc.1
        have hw := hk.w
        have hbest := search_best x.1.2.1.toNat (by omega) (fun s => proveM (rtM x) s w)
        rw [hs] at hbest
        have hp : proveM (rtM x) (s : Int) w = true := hbest.2.1
        unfold proveM at hp
        rw [Bool.and_eq_true] at hp
        exact List.all_eq_true.1 hp.2 t (all_sub hk _ ht)
      · cases hb
    · cases h
  · unfold openErrM at h
    split at h <;> cases h
theorem clash_none {x : HT} (hx : hearM x = true) {t : Int × Int} (ht : t ∈ allH x) : clashHM x = (0, 4) := by
  have : clashM (rtM x) (everyH x) = false := by
    unfold clashM
    cases h : allM (rtM x) (everyH x) with
    | nil => have h' : allH x = [] := h; rw [h'] at ht; cases ht
    | cons a l => rfl
  simp [clashHM, hx, this]
theorem rule_true {x : HT} (hx : hearM x = true) {t : Int × Int} (ht : t ∈ allH x) {w : W3} (hw : wordM x.1.1 x.1.2.1 w = true) :
    (ruleM x w).2 = 0 ∧ ((ruleM x w).1 = 1 ∨ ((ruleM x w).1 = 2 ∧ rightM t w = true) ∨ ((ruleM x w).1 = 0 ∧ rightM t w = false)) := by
  have hp := List.length_pos_of_mem ht
  rw [rule_some hx, hw, if_pos rfl, if_pos (by omega)]
  obtain ⟨v1, v2, v3⟩ := verdict_cases (allH x) w hp
  refine ⟨rfl, ?_⟩
  rcases v3 with h | h | h
  · exact .inr (.inr ⟨h, v2.1 h t ht⟩)
  · exact .inl h
  · exact .inr (.inl ⟨h, v1.1 h t ht⟩)
/-- A word and the same one with Not the other way round. -/
theorem rule_not {x : HT} (hx : hearM x = true) (hp : 0 < (allH x).length) {w : W3} (hw : wordM x.1.1 x.1.2.1 w = true) (hr : ∀ t, rightM t (w.1, w.2.1, !w.2.2) = !rightM t w) :
    (ruleM x w).1 + (ruleM x (w.1, w.2.1, !w.2.2)).1 = 2 := by
  have hw2 : wordM x.1.1 x.1.2.1 (w.1, w.2.1, !w.2.2) = true := hw
  rw [rule_some hx, rule_some hx, hw, hw2, if_pos rfl, if_pos rfl, if_pos (by omega), if_pos (by omega)]
  show verdictM _ _ + verdictM _ _ = 2
  have e1 : wrongsM (allH x) (w.1, w.2.1, !w.2.2) = rightsM (allH x) w := by
    unfold wrongsM rightsM; congr 1; funext t; rw [hr]; simp
  have e2 : rightsM (allH x) (w.1, w.2.1, !w.2.2) = wrongsM (allH x) w := by
    unfold wrongsM rightsM; congr 1; funext t; rw [hr]
  have hne : ¬ (wrongsM (allH x) w = false ∧ rightsM (allH x) w = false) := fun ⟨a, b⟩ => by
    have h0 := getD_mem (0, 0) hp
    have a' := (List.any_eq_false.1 a) _ h0
    have b' := (List.any_eq_false.1 b) _ h0
    cases h : rightM ((allH x).getD 0 (0, 0)) w with
    | true => exact b' h
    | false => rw [h] at a'; exact a' rfl
  unfold verdictM
  rw [e1, e2]
  cases h1 : wrongsM (allH x) w <;> cases h2 : rightsM (allH x) w <;> simp_all
end AE.Pr

namespace AE.Pr
open Go AE Go.Proofs

def clashQM (x : HT) (set : Int) (should : Bool) : Bool := if canM x set then (countM (heardM x set)).2 == 0 && (countM (heardM x set)).1 == 0 else should
def proveQM (x : HT) (w : W3) (set : Int) (should : Bool) : Bool := if canM x set then (ruleM (heardM x set) w).2 == 0 && (ruleM (heardM x set) w).1 == 2 else should
def ownM (bits : Int) (n : Nat) : Int := IntKind.i64.wrap ((BitVec.ofInt 64 (IntKind.i64.wrap bits) &&& BitVec.ofInt 64 (everyM n)).toNat : Int)

theorem free_succ (f set : Int) (n : Nat) : freeM f set (n + 1) = if hasM set (n : Int) then freeM f set n else ((freeM f set n).1 ++ [((n : Int), 0, (false, (freeM f set n).2, false), dfW)], (freeM f set n).2 + 1) := rfl
theorem free_mem {f set : Int} {c : Cl} : ∀ {n : Nat}, c ∈ (freeM f set n).1 → ∃ k, k < n ∧ hasM set (k : Int) = false ∧ c = ((k : Int), 0, (false, (freeM f set k).2, false), dfW)
  | 0, h => by simp [freeM] at h
  | n + 1, h => by
    rw [free_succ] at h
    split at h
    · obtain ⟨k, h1, h2⟩ := free_mem h
      exact ⟨k, by omega, h2⟩
    · rename_i hn
      rcases List.mem_append.1 h with h | h
      · obtain ⟨k, h1, h2⟩ := free_mem h
        exact ⟨k, by omega, h2⟩
      · exact ⟨n, by omega, by simpa using hn, List.mem_singleton.1 h⟩
theorem mem_free {f set : Int} {k : Nat} (hs : hasM set (k : Int) = false) : ∀ {n : Nat}, k < n → ((k : Int), 0, (false, (freeM f set k).2, false), dfW) ∈ (freeM f set n).1
  | 0, h => absurd h (Nat.not_lt_zero _)
  | n + 1, h => by
    rw [free_succ]
    rcases Nat.lt_or_eq_of_le (Nat.le_of_lt_succ h) with h1 | rfl
    · have := mem_free (f := f) hs h1
      split
      · exact this
      · exact List.mem_append.2 (.inl this)
    · rw [if_neg (by rw [hs]; decide)]
      exact List.mem_append.2 (.inr (List.mem_singleton.2 rfl))
theorem free_mono {f set : Int} {k : Nat} (hs : hasM set (k : Int) = false) : ∀ {n : Nat}, k < n → (freeM f set k).2 < (freeM f set n).2
  | 0, h => absurd h (Nat.not_lt_zero _)
  | n + 1, h => by
    rw [free_succ]
    rcases Nat.lt_or_eq_of_le (Nat.le_of_lt_succ h) with h1 | rfl
    · have := free_mono (f := f) hs h1
      split
      · exact this
      · show _ < (freeM f set n).2 + 1; omega
    · rw [if_neg (by rw [hs]; decide)]
      show _ < (freeM f set k).2 + 1; omega
theorem word_more {f f' w : Int} {c : W3} (hf : 0 ≤ f ∧ f ≤ f') (hf' : f' ≤ 6) (h : wordM f w c = true) : wordM f' w c = true := by
  unfold wordM inM at h ⊢
  rw [Bool.and_eq_true, decide_eq_true_eq, decide_eq_true_eq] at h ⊢
  refine ⟨h.1, ?_⟩
  have h2 := h.2
  have e1 : W (f - 1) = f - 1 := wrap_id (by omega) (by omega)
  have e2 : W (f' - 1) = f' - 1 := wrap_id (by omega) (by omega)
  cases hp : c.1 with
  | true => rw [hp] at h2; exact h2
  | false =>
    rw [hp] at h2
    simp only [Bool.false_eq_true, if_false] at h2 ⊢
    rw [e1] at h2
    rw [e2]; omega
/-- It is a hearing. -/
theorem heard_hear {x : HT} {set : Int} (hk : HearOk x) (hc : canM x set = true) : HearOk (heardM x set) := by
  obtain ⟨⟨f, w, li⟩, cs, ks⟩ := x
  have hf : 0 ≤ f ∧ f ≤ 6 := hk.f
  have hw : 0 ≤ w ∧ w ≤ 6 := hk.w
  have hfb := free_b f set w.toNat
  unfold canM at hc
  rw [Bool.and_eq_true, decide_eq_true_eq, decide_eq_true_eq] at hc
  have hc1 : (freeM f set w.toNat).2 ≤ 6 := hc.1
  have hc2 : ((keepM set cs ++ (freeM f set w.toNat).1).length : Int) ≤ 14 := hc.2
  refine ⟨⟨by show 0 ≤ (freeM f set w.toNat).2; omega, hc1⟩, hk.w, hk.l, by show (keepM set cs ++ (freeM f set w.toNat).1).length ≤ 14; omega, hk.ks, fun c hcm => ?_, fun c hcm => word_more ⟨hf.1, hfb.1⟩ hc1 (hk.known c hcm)⟩
  have hcm' : c ∈ keepM set cs ++ (freeM f set w.toNat).1 := hcm
  rcases List.mem_append.1 hcm' with h | h
  · obtain ⟨a1, a2, a3, a4⟩ := hk.claims c (List.mem_filter.1 h).1
    exact ⟨a1, a2, word_more ⟨hf.1, hfb.1⟩ hc1 a3, fun h0 => word_more ⟨hf.1, hfb.1⟩ hc1 (a4 h0)⟩
  · obtain ⟨k, h1, h2, rfl⟩ := free_mem h
    have hm := free_mono (f := f) h2 h1
    have hb := free_b f set k
    refine ⟨⟨Int.le_refl _, by show (0 : Int) ≤ 2; decide⟩, ⟨Int.natCast_nonneg _, by show (k : Int) < w; omega⟩, ?_, fun h0 => absurd rfl h0⟩
    have e2 : W ((freeM f set w.toNat).2 - 1) = (freeM f set w.toNat).2 - 1 := wrap_id (by omega) (by omega)
    show wordM (freeM f set w.toNat).2 w (false, (freeM f set k).2, false) = true
    unfold wordM inM
    simp only [Bool.false_eq_true, if_false, e2]
    rw [Bool.and_eq_true, decide_eq_true_eq, decide_eq_true_eq]
    omega

/-! ### truths of the one and of the other -/
/-- What a truth of the one has to do with one of the other. -/
def RelT (f w : Nat) (set : Int) (a' a b : Nat) : Prop := (∀ j, j < f → a'.testBit j = a.testBit j) ∧ ∀ k, k < w → hasM set (k : Int) = false → a'.testBit (freeM f set k).2.toNat = !hasM (b : Int) (k : Int)
theorem rel_ex (f : Nat) (set : Int) (a b : Nat) (ha : a < 2 ^ f) : ∀ w : Nat, ∃ a', a' < 2 ^ (freeM f set w).2.toNat ∧ RelT f w set a' a b
  | 0 => ⟨a, ha, fun _ _ => rfl, fun k h => absurd h (Nat.not_lt_zero _)⟩
  | w + 1 => by
    obtain ⟨a', h1, h2, h3⟩ := rel_ex f set a b ha w
    have hb := free_b (f : Int) set w
    cases hs : hasM set (w : Int) with
    | true =>
      refine ⟨a', by rw [free_succ, if_pos hs]; exact h1, h2, fun k hk hn => ?_⟩
      rcases Nat.lt_or_eq_of_le (Nat.le_of_lt_succ hk) with h4 | rfl
      · exact h3 k h4 hn
      · rw [hs] at hn; cases hn
    | false =>
      obtain ⟨m, hm⟩ := Int.eq_ofNat_of_zero_le (show 0 ≤ (freeM (f : Int) set w).2 by omega)
      have hm' : (freeM (f : Int) set w).2.toNat = m := by omega
      rw [hm'] at h1
      have hfm : f ≤ m := by omega
      have hnew : (freeM (f : Int) set (w + 1)).2.toNat = m + 1 := by
        rw [free_succ, if_neg (by rw [hs]; decide)]
        show ((freeM (f : Int) set w).2 + 1).toNat = m + 1; omega
      have hold : ∀ k, k < w → hasM set (k : Int) = false → (freeM (f : Int) set k).2.toNat < m := fun k hk hn => by
        have := free_mono (f := (f : Int)) hn hk
        have := free_b (f : Int) set k
        omega
      rw [hnew]
      cases hl : hasM (b : Int) (w : Int) with
      | true =>
        refine ⟨a', Nat.lt_of_lt_of_le h1 (Nat.pow_le_pow_right (by decide) (by omega)), h2, fun k hk hn => ?_⟩
        rcases Nat.lt_or_eq_of_le (Nat.le_of_lt_succ hk) with h4 | rfl
        · exact h3 k h4 hn
        · rw [hl, hm', Nat.testBit_lt_two_pow h1]; rfl
      | false =>
        refine ⟨a' ||| 2 ^ m, Nat.or_lt_two_pow (Nat.lt_of_lt_of_le h1 (Nat.pow_le_pow_right (by decide) (by omega))) (Nat.pow_lt_pow_right (by decide) (by omega)), fun j hj => ?_, fun k hk hn => ?_⟩
        · rw [Nat.testBit_or, Nat.testBit_two_pow, h2 j hj, decide_eq_false (by omega), Bool.or_false]
        · rcases Nat.lt_or_eq_of_le (Nat.le_of_lt_succ hk) with h4 | rfl
          · have := hold k h4 hn
            rw [Nat.testBit_or, Nat.testBit_two_pow, decide_eq_false (by omega), Bool.or_false]
            exact h3 k h4 hn
          · rw [hl, hm', Nat.testBit_or, Nat.testBit_two_pow, decide_eq_true rfl, Bool.or_true]; rfl
theorem rel_right {f w : Nat} {set : Int} {a' a b : Nat} (hr : RelT f w set a' a b) (hf : f ≤ 6) (hw : w ≤ 6) {c : W3} (hc : wordM f w c = true) : rightM (tM a' b) c = rightM (tM a b) c := by
  unfold wordM inM at hc
  rw [Bool.and_eq_true, decide_eq_true_eq, decide_eq_true_eq] at hc
  unfold rightM
  cases hp : c.1 with
  | true => rfl
  | false =>
    rw [hp] at hc
    have e1 : W ((f : Int) - 1) = (f : Int) - 1 := wrap_id (by omega) (by omega)
    simp only [Bool.false_eq_true, if_false, e1] at hc ⊢
    have : hasM (tM a' b).1 c.2.1 = hasM (tM a b).1 c.2.1 := hr.1 c.2.1.toNat (by omega)
    rw [this]
theorem rel_claim {f w : Nat} {set : Int} {a' a b : Nat} (hr : RelT f w set a' a b) (hf : f ≤ 6) (hw : w ≤ 6) {c : Cl} (hk : 0 ≤ c.2.1 ∧ c.2.1 ≤ 2) (hA : wordM f w c.2.2.1 = true) (hB : c.2.1 ≠ 0 → wordM f w c.2.2.2 = true) : claimRM (tM a' b) c = claimRM (tM a b) c := by
  have h1 := rel_right hr hf hw hA
  unfold claimRM claimM ciM
  simp only [decide_eq_true_eq]
  split
  · rw [h1, rel_right hr hf hw (hB (by omega))]
  · split
    · rw [h1, rel_right hr hf hw (hB (by omega))]
    · exact h1
theorem told_heard {f w : Nat} {li : Int} {cs : List Cl} {ks : List W3} {set : Int} {a' a b k : Nat} (hk : HearOk (((f : Int), (w : Int), li), cs, ks)) (hr : RelT f w set a' a b) (hf : f ≤ 6) (hw : w ≤ 6) (hkw : k < w) :
    toldM (heardM (((f : Int), (w : Int), li), cs, ks) set).2.1 (tM a' b) (k : Int) = if hasM set (k : Int) then toldM cs (tM a b) (k : Int) else !hasM (b : Int) (k : Int) := by
  have e : (heardM (((f : Int), (w : Int), li), cs, ks) set).2.1 = keepM set cs ++ (freeM (f : Int) set w).1 := rfl
  rw [e]
  unfold toldM
  rw [List.all_append]
  cases hs : hasM set (k : Int) with
  | true =>
    rw [if_pos rfl]
    have h2 : ((freeM (f : Int) set w).1.all fun c => !(c.1 == (k : Int) && !claimRM (tM a' b) c)) = true := by
      rw [List.all_eq_true]
      intro c hc
      obtain ⟨j, h1, h2, rfl⟩ := free_mem hc
      have : ((j : Int) == (k : Int)) = false := by
        rw [beq_eq_false_iff_ne]
        intro h; rw [h, hs] at h2; cases h2
      show (!(((j : Int) == (k : Int)) && _)) = true
      rw [this]; rfl
    rw [h2, Bool.and_true]
    unfold keepM
    rw [List.all_filter, Bool.eq_iff_iff, List.all_eq_true, List.all_eq_true]
    have key : ∀ c ∈ cs, (!hasM set c.1 || !(c.1 == (k : Int) && !claimRM (tM a' b) c)) = !(c.1 == (k : Int) && !claimRM (tM a b) c) := fun c hc => by
      obtain ⟨a1, a2, a3, a4⟩ := hk.claims c hc
      have hcl := rel_claim hr hf hw a1 a3 a4
      by_cases he : c.1 = (k : Int)
      · rw [he, hs, hcl]; simp
      · have : (c.1 == (k : Int)) = false := by rw [beq_eq_false_iff_ne]; exact he
        rw [this]; simp
    constructor
    · intro h c hc
      have := h c hc
      rw [key c hc] at this; exact this
    · intro h c hc
      have := h c hc
      rw [← key c hc] at this; exact this
  | false =>
    rw [if_neg (by decide)]
    have h1 : ((keepM set cs).all fun c => !(c.1 == (k : Int) && !claimRM (tM a' b) c)) = true := by
      rw [List.all_eq_true]
      intro c hc
      have h2 := (List.mem_filter.1 hc).2
      have : (c.1 == (k : Int)) = false := by
        rw [beq_eq_false_iff_ne]
        intro h; rw [h, hs] at h2; cases h2
      rw [this]; rfl
    rw [h1, Bool.true_and, Bool.eq_iff_iff, List.all_eq_true]
    have h3 : claimRM (tM a' b) ((k : Int), 0, (false, (freeM (f : Int) set k).2, false), dfW) = !hasM (b : Int) (k : Int) := by
      rw [← hr.2 k hkw hs]
      simp only [claimRM, claimM, ciM]
      show rightM (tM a' b) (false, (freeM (f : Int) set k).2, false) = _
      unfold rightM
      simp only [Bool.false_eq_true, if_false, Bool.bne_false]
      rfl
    constructor
    · intro h
      have := h _ (mem_free (f := (f : Int)) hs hkw)
      rw [h3] at this
      simpa using this
    · intro h c hc
      obtain ⟨j, _, _, rfl⟩ := free_mem hc
      by_cases he : j = k
      · subst he; rw [h3, h]; simp
      · have : ((j : Int) == (k : Int)) = false := by rw [beq_eq_false_iff_ne]; omega
        show (!(((j : Int) == (k : Int)) && _)) = true
        rw [this]; rfl
theorem isM_heard {f w : Nat} {li : Int} {cs : List Cl} {ks : List W3} {set : Int} {a' a b : Nat} (hk : HearOk (((f : Int), (w : Int), li), cs, ks)) (hr : RelT f w set a' a b) (hf : f ≤ 6) (hw : w ≤ 6) :
    isM (rtM (heardM (((f : Int), (w : Int), li), cs, ks) set)) (everyM w) (tM a' b) = isM (rtM (((f : Int), (w : Int), li), cs, ks)) set (tM a b) := by
  unfold isM
  have e1 : ((rtM (heardM (((f : Int), (w : Int), li), cs, ks) set)).2.1.all (rightM (tM a' b))) = ((rtM (((f : Int), (w : Int), li), cs, ks)).2.1.all (rightM (tM a b))) := by
    show ks.all _ = ks.all _
    rw [Bool.eq_iff_iff, List.all_eq_true, List.all_eq_true]
    constructor
    · intro h c hc; rw [← rel_right hr hf hw (hk.known c hc)]; exact h c hc
    · intro h c hc; rw [rel_right hr hf hw (hk.known c hc)]; exact h c hc
  have e2 : ((List.range (rtM (heardM (((f : Int), (w : Int), li), cs, ks) set)).1.2.1.toNat).all (sayM (rtM (heardM (((f : Int), (w : Int), li), cs, ks) set)) (everyM w) (tM a' b))) = ((List.range (rtM (((f : Int), (w : Int), li), cs, ks)).1.2.1.toNat).all (sayM (rtM (((f : Int), (w : Int), li), cs, ks)) set (tM a b))) := by
    show (List.range w).all _ = (List.range w).all _
    have key : ∀ k ∈ List.range w, sayM (rtM (heardM (((f : Int), (w : Int), li), cs, ks) set)) (everyM w) (tM a' b) k = sayM (rtM (((f : Int), (w : Int), li), cs, ks)) set (tM a b) k := fun k hk2 => by
      have hkw : k < w := List.mem_range.1 hk2
      rw [sayM_told (by omega), sayM_told (by omega), told_heard hk hr hf hw hkw, every_has hw hkw]
      show (!(true && ((if hasM set (k : Int) then toldM cs (tM a b) (k : Int) else !hasM (b : Int) (k : Int)) == hasM (b : Int) (k : Int)))) = !(hasM set (k : Int) && (toldM cs (tM a b) (k : Int) == hasM (b : Int) (k : Int)))
      cases hasM set (k : Int) with
      | true => rfl
      | false => cases hasM (b : Int) (k : Int) <;> rfl
    rw [Bool.eq_iff_iff, List.all_eq_true, List.all_eq_true]
    constructor
    · intro h k hk2; rw [← key k hk2]; exact h k hk2
    · intro h k hk2; rw [key k hk2]; exact h k hk2
  rw [e1, e2]; rfl
/-- To each truth of the one there is one of the other, in which words of the first are as right. -/
theorem heard_of {x : HT} {set : Int} (hk : HearOk x) {t : Int × Int} (ht : t ∈ allM (rtM x) set) : ∃ t' ∈ allH (heardM x set), ∀ c, wordM x.1.1 x.1.2.1 c = true → rightM t' c = rightM t c := by
  obtain ⟨⟨f, w, li⟩, cs, ks⟩ := x
  have hf6 : 0 ≤ f ∧ f ≤ 6 := hk.f
  have hw6 : 0 ≤ w ∧ w ≤ 6 := hk.w
  obtain ⟨f, rfl⟩ := Int.eq_ofNat_of_zero_le hf6.1
  obtain ⟨w, rfl⟩ := Int.eq_ofNat_of_zero_le hw6.1
  obtain ⟨a, b, ha, hb, hi, rfl⟩ := mem_allM_iff.1 ht
  obtain ⟨a', h1, hr⟩ := rel_ex f set a b ha w
  refine ⟨tM a' b, mem_allM_iff.2 ⟨a', b, h1, hb, ?_, rfl⟩, fun c hc => rel_right hr (by omega) (by omega) hc⟩
  have := isM_heard hk hr (by omega) (by omega)
  rw [hi] at this
  exact this
theorem of_heard {x : HT} {set : Int} (hk : HearOk x) {t' : Int × Int} (ht : t' ∈ allH (heardM x set)) : ∃ t ∈ allM (rtM x) set, ∀ c, wordM x.1.1 x.1.2.1 c = true → rightM t' c = rightM t c := by
  obtain ⟨⟨f, w, li⟩, cs, ks⟩ := x
  have hf6 : 0 ≤ f ∧ f ≤ 6 := hk.f
  have hw6 : 0 ≤ w ∧ w ≤ 6 := hk.w
  obtain ⟨f, rfl⟩ := Int.eq_ofNat_of_zero_le hf6.1
  obtain ⟨w, rfl⟩ := Int.eq_ofNat_of_zero_le hw6.1
  obtain ⟨a', b, ha, hb, hi, rfl⟩ := mem_allM_iff.1 ht
  have hi' : isM (rtM (heardM (((f : Int), (w : Int), li), cs, ks) set)) (everyM w) (tM a' b) = true := hi
  have hr : RelT f w set a' (a' % 2 ^ f) b := by
    refine ⟨fun j hj => by rw [Nat.testBit_mod_two_pow, decide_eq_true hj, Bool.true_and], fun k hkw hs => ?_⟩
    unfold isM at hi'
    simp only [Bool.and_eq_true] at hi'
    have hsay := (List.all_eq_true.1 hi'.1.2) k (List.mem_range.2 hkw)
    rw [sayM_told (by omega), every_has (by omega) hkw] at hsay
    have hm := mem_free (f := (f : Int)) hs hkw
    have hsay' : (!(true && (toldM (heardM (((f : Int), (w : Int), li), cs, ks) set).2.1 (tM a' b) (k : Int) == hasM (b : Int) (k : Int)))) = true := hsay
    have e : (heardM (((f : Int), (w : Int), li), cs, ks) set).2.1 = keepM set cs ++ (freeM (f : Int) set w).1 := rfl
    have h3 : claimRM (tM a' b) ((k : Int), 0, (false, (freeM (f : Int) set k).2, false), dfW) = a'.testBit (freeM f set k).2.toNat := by
      simp only [claimRM, claimM, ciM]
      show rightM (tM a' b) (false, (freeM (f : Int) set k).2, false) = _
      unfold rightM
      simp only [Bool.false_eq_true, if_false, Bool.bne_false]
      rfl
    have h4 : toldM (heardM (((f : Int), (w : Int), li), cs, ks) set).2.1 (tM a' b) (k : Int) = a'.testBit (freeM f set k).2.toNat := by
      rw [e, ← h3]
      unfold toldM
      rw [List.all_append, Bool.eq_iff_iff]
      constructor
      · intro h
        rw [Bool.and_eq_true] at h
        have := List.all_eq_true.1 h.2 _ hm
        simpa using this
      · intro h
        rw [Bool.and_eq_true, List.all_eq_true, List.all_eq_true]
        refine ⟨fun c hc => ?_, fun c hc => ?_⟩
        · have h2 := (List.mem_filter.1 hc).2
          have : (c.1 == (k : Int)) = false := by
            rw [beq_eq_false_iff_ne]
            intro h; rw [h, hs] at h2; cases h2
          rw [this]; rfl
        · obtain ⟨j, _, _, rfl⟩ := free_mem hc
          by_cases he : j = k
          · subst he; rw [h]; simp
          · have : ((j : Int) == (k : Int)) = false := by rw [beq_eq_false_iff_ne]; omega
            show (!(((j : Int) == (k : Int)) && _)) = true
            rw [this]; rfl
    rw [h4] at hsay'
    revert hsay'
    cases a'.testBit (freeM f set k).2.toNat <;> cases hasM (b : Int) (k : Int) <;> decide
  refine ⟨tM (a' % 2 ^ f) b, mem_allM_iff.2 ⟨a' % 2 ^ f, b, Nat.mod_lt _ (Nat.pow_pos (by decide)), hb, ?_, rfl⟩, fun c hc => rel_right hr (by omega) (by omega) hc⟩
  rw [← isM_heard hk hr (by omega) (by omega)]
  exact hi'
/-- What the laws ask, if it can be asked. -/
theorem clashQ_eq {x : HT} {set : Int} (hk : HearOk x) (b : Bool) : clashQM x set b = if canM x set then clashM (rtM x) set else b := by
  unfold clashQM
  cases hc : canM x set with
  | false => rfl
  | true =>
    simp only [if_true]
    have hh := hear_of (heard_hear hk hc)
    rw [count_some hh]
    show ((0 : Int) == 0 && (((allH (heardM x set)).length : Int) == 0)) = _
    unfold clashM
    have h1 : (0 : Int) == 0 := rfl
    rw [show ((0 : Int) == 0) = true from rfl, Bool.true_and]
    cases hA : allM (rtM x) set with
    | nil =>
      cases hB : allH (heardM x set) with
      | nil => rfl
      | cons t l =>
        obtain ⟨u, hu, _⟩ := of_heard hk (t' := t) (by rw [hB]; exact List.mem_cons_self ..)
        rw [hA] at hu; cases hu
    | cons t l =>
      obtain ⟨u, hu, _⟩ := heard_of hk (t := t) (by rw [hA]; exact List.mem_cons_self ..)
      have hpos := List.length_pos_of_mem hu
      have : (((allH (heardM x set)).length : Int) == 0) = false := by rw [beq_eq_false_iff_ne]; omega
      rw [this]; rfl
theorem proveQ_eq {x : HT} {w : W3} {set : Int} (hk : HearOk x) (hw : wordM x.1.1 x.1.2.1 w = true) (b : Bool) : proveQM x w set b = if canM x set then proveM (rtM x) set w else b := by
  unfold proveQM
  cases hc : canM x set with
  | false => rfl
  | true =>
    simp only [if_true]
    have hhk := heard_hear hk hc
    have hh := hear_of hhk
    have hf := hk.f
    have hfb := free_b x.1.1 set x.1.2.1.toNat
    have hf2 : (freeM x.1.1 set x.1.2.1.toNat).2 ≤ 6 := hhk.f.2
    have hw2 : wordM (heardM x set).1.1 (heardM x set).1.2.1 w = true := word_more ⟨hf.1, hfb.1⟩ hf2 hw
    rw [rule_some hh, hw2]
    simp only [if_true]
    unfold proveM
    cases hB : allH (heardM x set) with
    | nil =>
      cases hA : allM (rtM x) set with
      | nil => rfl
      | cons t l =>
        obtain ⟨u, hu, _⟩ := heard_of hk (t := t) (by rw [hA]; exact List.mem_cons_self ..)
        rw [hB] at hu; cases hu
    | cons t l =>
      rw [← hB]
      have hpos : 0 < (allH (heardM x set)).length := by rw [hB]; simp
      have hpos' : ((allH (heardM x set)).length : Int) > 0 := by omega
      simp only [hpos', if_true]
      obtain ⟨u, hu, _⟩ := of_heard hk (t' := t) (by rw [hB]; exact List.mem_cons_self ..)
      have hne : (allM (rtM x) set).isEmpty = false := by
        cases hA : allM (rtM x) set with
        | nil => rw [hA] at hu; cases hu
        | cons => rfl
      rw [hne]
      show ((0 : Int) == 0 && (verdictM (allH (heardM x set)) w == 2)) = ((!false) && _)
      rw [show ((0 : Int) == 0) = true from rfl, Bool.true_and, Bool.not_false, Bool.true_and, Bool.eq_iff_iff, beq_iff_eq, (verdict_cases _ w hpos).1, List.all_eq_true]
      constructor
      · intro h t ht
        obtain ⟨t', ht', e⟩ := heard_of hk ht
        rw [← e w hw]; exact h t' ht'
      · intro h t' ht'
        obtain ⟨t, ht, e⟩ := of_heard hk ht'
        rw [e w hw]; exact h t ht
/-- What a set is without one of it. -/
def clearM (s : Int) (k : Nat) : Int := IntKind.i64.wrap ((BitVec.ofInt 64 s &&& ~~~BitVec.ofInt 64 (IntKind.i64.wrap (1 * 2 ^ min k 64))).toNat : Int)
theorem clear_b (s k : Nat) (hs : s < 64) (hk : k < 6) (h : hasM (s : Int) (k : Int) = true) : ∃ r : Nat, clearM (s : Int) k = (r : Int) ∧ r < s ∧ popM (r : Int) < popM (s : Int) := by
  have : ∀ (s : Fin 64) (k : Fin 6), hasM ((s.val : Nat) : Int) ((k.val : Nat) : Int) = true → clearM ((s.val : Nat) : Int) k.val = ((s.val - 2 ^ k.val : Nat) : Int) ∧ s.val - 2 ^ k.val < s.val ∧ popM ((s.val - 2 ^ k.val : Nat) : Int) < popM ((s.val : Nat) : Int) := by decide +kernel
  exact ⟨_, this ⟨s, hs⟩ ⟨k, hk⟩ h⟩
/-- What the laws ask of the best set. -/
theorem best_law {n : Nat} (hn : n ≤ 6) {suits : Int → Bool} {can : Int → Bool} {Q : Int → Bool → Bool} (hQ : ∀ s b, Q s b = if can s then suits s else b) (hb : (bestM n suits).2 = true) :
    ∃ s : Nat, (bestM n suits).1 = (s : Int) ∧ s < 2 ^ n ∧ Q (s : Int) true = true ∧ (∀ k, k < n → hasM (s : Int) (k : Int) = true → (0 ≤ clearM (s : Int) k ∧ clearM (s : Int) k < 64) ∧ Q (clearM (s : Int) k) false = false) ∧
      ∀ own : Nat, own < 2 ^ n → Q (own : Int) false = true → popM (s : Int) < popM (own : Int) ∨ (popM (own : Int) = popM (s : Int) ∧ s ≤ own) := by
  have hs := search_best n hn suits
  unfold bestM at hb ⊢
  cases h : searchM n suits with
  | none => rw [h] at hb; cases hb
  | some s =>
    rw [h] at hs
    obtain ⟨h1, h2, h3⟩ := hs
    have h64 : s < 64 := Nat.lt_of_lt_of_le h1 (pow64 n hn)
    refine ⟨s, rfl, h1, ?_, fun k hk hm => ?_, fun own ho hq => ?_⟩
    · rw [hQ, h2]; cases can (s : Int) <;> rfl
    · obtain ⟨r, e, hr, hp⟩ := clear_b s k h64 (by omega) hm
      refine ⟨by omega, ?_⟩
      rw [e, hQ]
      have : suits (r : Int) = false := by
        cases hsu : suits (r : Int) with
        | false => rfl
        | true => have := h3 r (by omega) hsu; omega
      rw [this]; cases can (r : Int) <;> rfl
    · rw [hQ] at hq
      have hsu : suits (own : Int) = true := by
        cases hc : can (own : Int) with
        | true => rw [hc] at hq; exact hq
        | false => rw [hc] at hq; cases hq
      have := h3 own ho hsu
      omega
theorem clash_best {x : HT} (hw : 0 ≤ x.1.2.1 ∧ x.1.2.1 ≤ 6) (h : clashM (rtM x) (everyH x) = true) : (bestM x.1.2.1.toNat fun s => clashM (rtM x) s).2 = true := by
  have hs := search_best x.1.2.1.toNat (by omega) fun s => clashM (rtM x) s
  unfold bestM
  cases hb : searchM x.1.2.1.toNat fun s => clashM (rtM x) s with
  | some s => rfl
  | none =>
    rw [hb] at hs
    have hp := Nat.pow_pos (n := x.1.2.1.toNat) (show 0 < 2 by decide)
    have h1 := hs (2 ^ x.1.2.1.toNat - 1) (by omega)
    have he : everyH x = ((2 ^ x.1.2.1.toNat - 1 : Nat) : Int) := by
      unfold everyH
      rw [everyP _ (by omega)]; omega
    rw [he] at h
    have h1' : clashM (rtM x) ((2 ^ x.1.2.1.toNat - 1 : Nat) : Int) = false := h1
    rw [h] at h1'; cases h1'
theorem clash_sub {x : HT} (hk : HearOk x) {t : Int × Int} (ht : t ∈ allH x) (s : Int) : clashM (rtM x) s = false := by
  have := all_sub hk s ht
  unfold clashM
  cases h : allM (rtM x) s with
  | nil => rw [h] at this; cases this
  | cons => rfl
end AE.Pr

namespace AE.Pr
open Go AE Go.Proofs

/-! ### what some prove, as the laws ask it -/
def hBoxed (x : HT) : AB UU := .one (.rc [.i x.1.1, .i x.1.2.1, .i x.1.2.2, .sl 0 0 0 x.2.1.length, .sl 1 0 0 x.2.2.length] 25)
def avHB (H : Heap UU) : AV → Option HT
  | .ptr i 0 0 0 => match blkAt H i 0 with
    | some (.cells l _) => avH H (.agg l)
    | some (.rc l _) => avH H (.agg l)
    | _ => none
  | _ => none
def avWB (H : Heap UU) : AV → Option W3
  | .ptr i 0 0 0 => match blkAt H i 0 with
    | some (.cells l _) => avW (.agg l)
    | some (.rc l _) => avW (.agg l)
    | _ => none
  | _ => none
def clashQS : FSpec UU where
  X := HT × Int × Bool
  pick := fun args H => match args with
    | [a, b, c] => match avInt a, avBool b, avHB H c with
      | some a, some b, some c => some (c, a, b)
      | _, _, _ => none
    | _ => none
  args := fun x => [.i x.2.1, .b x.2.2, .ptr 2 0 0 0]
  H := fun x => hH x.1 ++ [hBoxed x.1]
  R := fun x => .val ⟨.b (clashQM x.1 x.2.1 x.2.2), [], [], []⟩
  pre := fun x => HearOk x.1 ∧ (0 ≤ x.2.1 ∧ x.2.1 < 64)
def TclashQ : Tab UU := [(44, heardS.con), (14, countS.con)]
theorem TclashQ_ok : TclashQ.Sound Try.prog := .cons heard_sound (.cons count_sound .nil)
set_option maxHeartbeats 0 in
set_option maxRecDepth 100000 in
theorem clashQ_ok : ∀ x, clashQS.pre x → FunOk Try.prog 45 (clashQS.args x) (clashQS.H x) (clashQS.R x) := by
  rintro ⟨⟨⟨f, w, li⟩, cs, ks⟩, set, b⟩ ⟨hk, hs⟩
  refine fun_of (T := TclashQ) (L := fun _ => none) (hs := fun _ => []) hmix TclashQ_ok Try.func45 (by kernel_rfl) (by kernel_rfl) ?_
  refine Eq.mp (α :=
      let Z1 := List.length ks; let Z2 := (w, li); let Z3 := Value.int IntKind.i64 li; let Z4 := Value.int IntKind.i64 f; let Z5 := Value.int IntKind.i64 w; let Z6 := (0 : Int); let Z7 := ks = ks; let Z9 := cs = cs; let Z22 := ((f, Z2), cs, ks); let Z27 := Value.bool (clashQM Z22 set b); let Z32 := Prod.fst (Prod.fst (heardM Z22 set)); let Z33 : List Cl := Prod.fst (Prod.snd (heardM Z22 set)); let Z34 := Value.int IntKind.i64 Z32; let Z39 := Z4 = Z4 ∧ Z5 = Z5 ∧ Z3 = Z3 ∧ (nat_lit 0 = nat_lit 0 ∧ nat_lit 0 = nat_lit 0 ∧ List.length cs = List.length cs) ∧ (nat_lit 0 = nat_lit 0 ∧ nat_lit 0 = nat_lit 0 ∧ Z1 = Z1) ∧ True; let Z44 := ((Z32, Z2), Z33, ks); let Z47 := Prod.snd (countM Z44) == Z6; (HearOk Z22 ∧ Z6 ≤ set ∧ set < (64 : Int)) ∧ (Z39 ∧ Value.int IntKind.i64 set = Value.int IntKind.i64 set ∧ True) ∧ (Z9 ∧ Z7 ∧ True) ∧ ((!canM Z22 set) = true → True ∧ (Value.bool b = Z27 ∧ True) ∧ True ∧ Z9 ∧ Z7 ∧ Z39 ∧ True) ∧ ((!canM Z22 set) = false → (List.length Z33 < nat_lit 1000 ∧ Z1 < nat_lit 1000) ∧ ((Z34 = Z34 ∧ Z5 = Z5 ∧ Z3 = Z3 ∧ (nat_lit 3 = nat_lit 3 ∧ nat_lit 0 = nat_lit 0 ∧ nat_lit 0 = nat_lit 0 ∧ List.length Z33 = List.length Z33) ∧ (nat_lit 0 = nat_lit 0 ∧ nat_lit 0 = nat_lit 0 ∧ Z1 = Z1) ∧ True) ∧ True) ∧ (Z33 = Z33 ∧ Z7 ∧ True) ∧ (Z47 = true → True ∧ (Value.bool (Prod.fst (countM Z44) == Z6) = Z27 ∧ True) ∧ True ∧ Z9 ∧ Z7 ∧ Z39 ∧ True) ∧ (Z47 = false → True ∧ (Z27 = Value.bool false ∧ True) ∧ True ∧ Z9 ∧ Z7 ∧ Z39 ∧ True)))
    (by kernel_rfl) ?_
  simp only [eq_self, true_and, and_true, Int.toNat_natCast, Nat.zero_add, Nat.sub_zero, Value.int.injEq, Value.bool.injEq, decide_eq_true_eq, decide_eq_false_iff_not]
  have hlen : (heardM ((f, w, li), cs, ks) set).2.1.length < 1000 := by
    have h1 := keep_len set cs
    have h2 := free_b f set w.toNat
    have h3 : cs.length ≤ 14 := hk.cs
    have h4 : 0 ≤ w ∧ w ≤ 6 := hk.w
    show (keepM set cs ++ (freeM f set w.toNat).1).length < 1000
    rw [List.length_append]; omega
  have hks : ks.length < 1000 := by have h : ks.length ≤ 4 := hk.ks; omega
  refine ⟨⟨hk, hs⟩, fun h => ?_, fun h => ⟨⟨hlen, hks⟩, fun h2 => ?_, fun h2 => ?_⟩⟩
  · have hc : canM ((f, w, li), cs, ks) set = false := by simpa using h
    unfold clashQM; rw [hc]; rfl
  · have hc : canM ((f, w, li), cs, ks) set = true := by simpa using h
    have h2' : ((countM (heardM ((f, w, li), cs, ks) set)).2 == 0) = true := h2
    unfold clashQM; rw [hc, h2']; rfl
  · have hc : canM ((f, w, li), cs, ks) set = true := by simpa using h
    have h2' : ((countM (heardM ((f, w, li), cs, ks) set)).2 == 0) = false := h2
    unfold clashQM; rw [hc, h2']; rfl

theorem clashQ_sound : Sound Try.prog 45 clashQS.con := FSpec.sound _ (enter_of Try.func45 (by kernel_rfl) (by kernel_rfl)) clashQ_ok
def proveQS : FSpec UU where
  X := HT × W3 × Int × Bool
  pick := fun args H => match args with
    | [a, b, c, d] => match avInt a, avBool b, avHB H c, avWB H d with
      | some a, some b, some c, some d => some (c, d, a, b)
      | _, _, _, _ => none
    | _ => none
  args := fun x => [.i x.2.2.1, .b x.2.2.2, .ptr 2 0 0 0, .ptr 3 0 0 0]
  H := fun x => hH x.1 ++ [hBoxed x.1, .one (.rc [.b x.2.1.1, .i x.2.1.2.1, .b x.2.1.2.2] 27)]
  R := fun x => .val ⟨.b (proveQM x.1 x.2.1 x.2.2.1 x.2.2.2), [], [], []⟩
  pre := fun x => HearOk x.1 ∧ (0 ≤ x.2.2.1 ∧ x.2.2.1 < 64)
def TproveQ : Tab UU := [(44, heardS.con), (20, ruleS.con)]
theorem TproveQ_ok : TproveQ.Sound Try.prog := .cons heard_sound (.cons rule_sound .nil)
set_option maxHeartbeats 0 in
set_option maxRecDepth 100000 in
theorem proveQ_ok : ∀ x, proveQS.pre x → FunOk Try.prog 43 (proveQS.args x) (proveQS.H x) (proveQS.R x) := by
  rintro ⟨⟨⟨f, w, li⟩, cs, ks⟩, ⟨p, n, q⟩, set, b⟩ ⟨hk, hs⟩
  refine fun_of (T := TproveQ) (L := fun _ => none) (hs := fun _ => []) hmix TproveQ_ok Try.func43 (by kernel_rfl) (by kernel_rfl) ?_
  refine Eq.mp (α :=
      let Z3 := List.length ks; let Z4 := (w, li); let Z6 := Value.int IntKind.i64 f; let Z7 := Value.int IntKind.i64 n; let Z8 := Value.int IntKind.i64 w; let Z9 := Value.int IntKind.i64 li; let Z10 := (0 : Int); let Z11 := ks = ks; let Z12 := cs = cs; let Z21 := (p, n, q); let Z32 := ((f, Z4), cs, ks); let Z36 := (Value.bool p = Value.bool p ∧ Z7 = Z7 ∧ Value.bool q = Value.bool q ∧ True) ∧ True; let Z42 := Value.bool (proveQM Z32 Z21 set b); let Z44 := Prod.fst (Prod.fst (heardM Z32 set)); let Z45 : List Cl := Prod.fst (Prod.snd (heardM Z32 set)); let Z46 := Value.int IntKind.i64 Z44; let Z51 := Z6 = Z6 ∧ Z8 = Z8 ∧ Z9 = Z9 ∧ (nat_lit 0 = nat_lit 0 ∧ nat_lit 0 = nat_lit 0 ∧ List.length cs = List.length cs) ∧ (nat_lit 0 = nat_lit 0 ∧ nat_lit 0 = nat_lit 0 ∧ Z3 = Z3) ∧ True; let Z56 := ((Z44, Z4), Z45, ks); let Z59 := Prod.snd (ruleM Z56 Z21) == Z10; (HearOk Z32 ∧ Z10 ≤ set ∧ set < (64 : Int)) ∧ (Z51 ∧ Value.int IntKind.i64 set = Value.int IntKind.i64 set ∧ True) ∧ (Z12 ∧ Z11 ∧ True) ∧ ((!canM Z32 set) = true → True ∧ (Value.bool b = Z42 ∧ True) ∧ True ∧ Z12 ∧ Z11 ∧ Z51 ∧ Z36) ∧ ((!canM Z32 set) = false → (List.length Z45 < nat_lit 1000 ∧ Z3 < nat_lit 1000) ∧ ((Z46 = Z46 ∧ Z8 = Z8 ∧ Z9 = Z9 ∧ (nat_lit 4 = nat_lit 4 ∧ nat_lit 0 = nat_lit 0 ∧ nat_lit 0 = nat_lit 0 ∧ List.length Z45 = List.length Z45) ∧ (nat_lit 0 = nat_lit 0 ∧ nat_lit 0 = nat_lit 0 ∧ Z3 = Z3) ∧ True) ∧ Z36) ∧ (Z45 = Z45 ∧ Z11 ∧ True) ∧ (Z59 = true → True ∧ (Value.bool (Prod.fst (ruleM Z56 Z21) == (2 : Int)) = Z42 ∧ True) ∧ True ∧ Z12 ∧ Z11 ∧ Z51 ∧ Z36) ∧ (Z59 = false → True ∧ (Z42 = Value.bool false ∧ True) ∧ True ∧ Z12 ∧ Z11 ∧ Z51 ∧ Z36)))
    (by kernel_rfl) ?_
  simp only [eq_self, true_and, and_true, Int.toNat_natCast, Nat.zero_add, Nat.sub_zero, Value.int.injEq, Value.bool.injEq, decide_eq_true_eq, decide_eq_false_iff_not]
  have hlen : (heardM ((f, w, li), cs, ks) set).2.1.length < 1000 := by
    have h1 := keep_len set cs
    have h2 := free_b f set w.toNat
    have h3 : cs.length ≤ 14 := hk.cs
    have h4 : 0 ≤ w ∧ w ≤ 6 := hk.w
    show (keepM set cs ++ (freeM f set w.toNat).1).length < 1000
    rw [List.length_append]; omega
  have hks : ks.length < 1000 := by have h : ks.length ≤ 4 := hk.ks; omega
  refine ⟨⟨hk, hs⟩, fun h => ?_, fun h => ⟨⟨hlen, hks⟩, fun h2 => ?_, fun h2 => ?_⟩⟩
  · have hc : canM ((f, w, li), cs, ks) set = false := by simpa using h
    unfold proveQM; rw [hc]; rfl
  · have hc : canM ((f, w, li), cs, ks) set = true := by simpa using h
    have h2' : ((ruleM (heardM ((f, w, li), cs, ks) set) (p, n, q)).2 == 0) = true := h2
    unfold proveQM; rw [hc, h2']; rfl
  · have hc : canM ((f, w, li), cs, ks) set = true := by simpa using h
    have h2' : ((ruleM (heardM ((f, w, li), cs, ks) set) (p, n, q)).2 == 0) = false := h2
    unfold proveQM; rw [hc, h2']; rfl

theorem proveQ_sound : Sound Try.prog 43 proveQS.con := FSpec.sound _ (enter_of Try.func43 (by kernel_rfl) (by kernel_rfl)) proveQ_ok

/-! ### ProtestClash -/
def TlawC : Tab UU := [(12, heavyS.con), (13, aliveS.con), (14, countS.con), (28, clashFS.con), (39, isHearingS.con), (40, everyRS.con), (36, sizeRS.con), (45, clashQS.con)]
theorem TlawC_ok : TlawC.Sound Try.prog := .cons heavy_sound (.cons alive_sound (.cons count_sound (.cons clashF_sound (.cons hearR_sound (.cons everyR_sound (.cons sizeR_sound (.cons clashQ_sound .nil)))))))
def hBoxC (x : HT) : AB UU := .one (.cells [.i x.1.1, .i x.1.2.1, .i x.1.2.2, .sl 0 0 0 x.2.1.length, .sl 1 0 0 x.2.2.length] 25)
def clashL (x : HT) (bits : Int) : LSpec UU where
  T := { i : Nat // i ≤ x.1.2.1.toNat }
  fr := fun i => [(1, .v (.int .u8 bits)), (2, .ptr 2 0 0 0), (5, .i (clashHM x).1), (9, .i (everyM x.1.2.1.toNat)), (10, .fn (.func 45) [] [.ptr 2 0 0 0]), (91, .i x.1.2.1), (92, .i i.1)]
  H := fun _ => hH x ++ [hBoxC x]
  mu := fun i => x.1.2.1.toNat - i.1
def clashLs (x : HT) (bits : Int) (k : Nat) : Option (LRule UU) :=
  match k with
  | 16 => some (.inv (clashL x bits))
  | _ => none
def lawCS : FSpec UU where
  X := HT × Int
  pick := fun args H => match args with
    | [a, .v (.int .u8 b)] => match avH H a with
      | some a => some (a, b)
      | _ => none
    | _ => none
  args := fun x => [vH x.1, .v (.int .u8 x.2)]
  H := fun x => hH x.1
  R := fun _ => .val ⟨.b true, [], [], []⟩
  pre := fun x => bigH x.1 ∧ (0 ≤ x.2 ∧ x.2 ≤ 255)
set_option maxHeartbeats 0 in
set_option maxRecDepth 100000 in
theorem lawC_ok : ∀ x, lawCS.pre x → FunOk Try.prog 9 (lawCS.args x) (lawCS.H x) (lawCS.R x) := by
  rintro ⟨⟨⟨f, w, li⟩, cs, ks⟩, bits⟩ hl
  refine fun_of (T := TlawC) (L := clashLs ((f, w, li), cs, ks) bits) (hs := fun _ => []) hmix TlawC_ok Try.func9 (by kernel_rfl) (by kernel_rfl) ?_
  refine Eq.mp (α :=
      let Z0 := Int.toNat w; let Z1 := Value.bool true; let Z2 := List.length cs; let Z3 := List.length ks; let Z4 := Value.bool false; let Z5 := (w, li); let Z6 := Value.int IntKind.u8 bits; let Z7 := Value.int IntKind.i64 li; let Z8 := Value.int IntKind.i64 f; let Z9 := Value.int IntKind.i64 w; let Z10 := everyM Z0; let Z11 := IntKind.wrap IntKind.i64 bits; let Z12 := nat_lit 0 = nat_lit 0 ∧ nat_lit 0 = nat_lit 0; let Z13 := (0 : Int); let Z14 := (1 : Int); let Z15 := (4 : Int); let Z16 := (3 : Int); let Z17 := (2 : Int); let Z18 := (64 : Int); let Z19 := ks = ks; let Z20 := (45 : FuncId); let Z21 := (cs, ks); let Z22 := cs = cs; let Z23 := BitVec.ofInt (nat_lit 64) Z10; let Z24 := BitVec.ofInt (nat_lit 64) Z11; let Z25 := Z2 < nat_lit 1000; let Z26 := Z3 < nat_lit 1000; let Z27 := nat_lit 0 = nat_lit 0 ∧ Z12; let Z28 := Value.int IntKind.i64 Z10; let Z29 := Z19 ∧ True; let Z30 := BitVec.ofInt (nat_lit 64) Z14; let Z31 := Fn.func Z20; let Z32 := Z3 = Z3; let Z33 := Z2 = Z2; let Z34 := (f, Z5); let Z35 := Z1 = Z1; let Z36 := Value.int IntKind.i64 Z16; let Z37 := Z1 = Z4; let Z38 := Z4 = Z4; let Z39 := Z27 ∧ True; let Z40 := Z6 = Z6; let Z41 := Z9 = Z9; let Z42 := Z8 = Z8; let Z43 := Z7 = Z7; let Z44 := Z35 ∧ True; let Z45 := Z37 ∧ True; let Z46 := True ∧ Z39; let Z47 := nat_lit 0 = nat_lit 0 ∧ Z33; let Z48 := nat_lit 0 = nat_lit 0 ∧ Z32; let Z49 := nat_lit 0 = nat_lit 0 ∧ Z48; let Z50 := nat_lit 0 = nat_lit 0 ∧ Z47; let Z51 := Z22 ∧ Z29; let Z52 := Z49 ∧ True; let Z53 := Z25 ∧ Z26; let Z54 := True ∧ Z51; let Z55 := Z31 = Z31; let Z56 := Z28 = Z28; let Z57 := Z36 = Z36; let Z58 := Z38 ∧ Z39; let Z59 := (Z34, Z21); let Z60 := hearM Z59; let Z61 := HearOk Z59; let Z62 := countM Z59; let Z63 := clashHM Z59; let Z64 := Z44 ∧ Z54; let Z65 := Z45 ∧ Z54; let Z66 := !Z60; let Z67 := Z55 ∧ Z46; let Z68 := True ∧ Z64; let Z69 := True ∧ Z65; let Z70 := Prod.fst Z62; let Z71 := Prod.snd Z62; let Z72 := Prod.fst Z63; let Z73 := Prod.snd Z63; let Z74 := Z50 ∧ Z52; let Z75 := True ∧ Z68; let Z76 := popM Z72; let Z77 := BitVec.ofInt (nat_lit 64) Z72; let Z78 := True ∧ Z75; let Z79 := Value.int IntKind.i64 Z72; let Z80 := True ∧ Z78; let Z81 := Prod.fst Z59; let Z82 := heavyM Z59 Z16 Z16; let Z83 := Z72 > Z10; let Z84 := Z70 > Z13; let Z85 := Z72 < Z13; let Z86 := Z13 ≤ Z72; let Z87 := Z72 < Z18; let Z88 := Prod.snd Z81; let Z89 := Z43 ∧ Z74; let Z90 := Prod.fst Z88; let Z91 := Z71 != Z13; let Z92 := Z73 != Z13; let Z93 := Z70 == Z13; let Z94 := Z72 == Z13; let Z95 := Z73 == Z14; let Z100 := Z94 = false; let Z104 : Type := { i : Nat // i ≤ Int.toNat Z90 }; let Z105 := fun (x : Z104) => Subtype.val x; let Z107 := fun (x : Z104) => (↑(Z105 x) : Int); let Z108 := IntKind.wrap IntKind.i64 (↑(BitVec.toNat (Z24 &&& Z23)) : Int); let Z109 := clashQM Z59 Z72 true; let Z114 := Value.int IntKind.i64 Z108; let Z117 := fun (x : Z104) => Z0 - Z105 x; let Z119 := (Z42 ∧ Z41 ∧ Z89) ∧ True; let Z121 := Z13 ≤ Z108; let Z122 := Z108 < Z18; let Z123 := Z79 = Z79; let Z124 := Z71 == Z73; let Z130 := Z22 ∧ Z19 ∧ Z119; let Z133 := fun (t : Z104) => Z17 ^ min (Int.toNat (Z107 t)) (nat_lit 64); let Z134 := clashQM Z59 Z108 false; let Z137 := (!Z134) = false; let Z143 := popM Z108 == Z76; let Z147 := Z114 = Z114; let Z160 := fun (t : Z104) => decide (Z107 t < w); let Z161 := fun (t : Z104) => IntKind.wrap IntKind.i64 (↑(BitVec.toNat (BitVec.ofInt (nat_lit 64) (Int.fdiv Z72 (Z133 t)) &&& Z30)) : Int) == Z14; let Z166 := fun (t : Z104) => IntKind.wrap IntKind.i64 (↑(BitVec.toNat (Z77 &&& ~~~BitVec.ofInt (nat_lit 64) (IntKind.wrap IntKind.i64 (Z14 * Z133 t)))) : Int); let Z170 := decide (Z108 ≥ Z72); let Z171 := decide (popM Z108 > Z76); let Z177 := decide Z85; let Z178 := decide Z83; let Z179 := (Z73 == Z15) == decide Z84; let Z182 := fun (t : Z104) => ∃ (x : Z104), ((Z40 ∧ Z27 ∧ Z123 ∧ Z56 ∧ Z67 ∧ Z41 ∧ Value.int IntKind.i64 (IntKind.wrap IntKind.i64 (Z107 t + Z14)) = Value.int IntKind.i64 (Z107 x) ∧ True) ∧ True ∧ Z130) ∧ Z117 x < Z117 t; (Z2 < nat_lit 9223372036854775808 ∧ Z3 < nat_lit 9223372036854775808) ∧ ((Z42 ∧ Z41 ∧ Z89) ∧ Z57 ∧ Z57 ∧ True) ∧ Z51 ∧ (Z82 = true → Z80) ∧ (Z82 = false → Z53 ∧ Z119 ∧ Z51 ∧ Z53 ∧ Z119 ∧ Z51 ∧ Z53 ∧ Z119 ∧ Z51 ∧ (Z66 = true → (Z95 = true → (Z124 = true → (Z94 = true → (Z93 = true → Z80) ∧ (Z93 = false → Z69)) ∧ (Z100 → Z69)) ∧ (Z124 = false → Z69)) ∧ (Z95 = false → Z69)) ∧ (Z66 = false → (Z13 ≤ w ∧ w ≤ (6 : Int)) ∧ ((True ∧ Z41 ∧ True ∧ True ∧ True ∧ True) ∧ True) ∧ True ∧ (Z91 = true → Z69) ∧ (Z91 = false → ((!Z179) = true → Z69) ∧ ((!Z179) = false → (Z92 = true → (Z94 = true → (Z61 ∧ Z121 ∧ Z122) ∧ (Z147 ∧ Z58) ∧ Z130 ∧ ((!Z134) = true → Z80) ∧ (Z137 → Z69)) ∧ (Z100 → Z69)) ∧ (Z92 = false → (Z177 = true → Z69) ∧ (Z177 = false → (Z178 = true → Z69) ∧ (Z178 = false → (Z61 ∧ Z86 ∧ Z87) ∧ (Z123 ∧ Z35 ∧ Z39) ∧ Z130 ∧ ((!Z109) = true → Z69) ∧ ((!Z109) = false → (∃ (x : Z104), (Z40 ∧ Z27 ∧ Z123 ∧ Z56 ∧ (Fn.func (nat_lit 45) = Z31 ∧ Z46) ∧ Z41 ∧ Value.int IntKind.i64 Z13 = Value.int IntKind.i64 (Z107 x) ∧ True) ∧ True ∧ Z130) ∧ ∀ (t : Z104), (Z160 t = true → Z13 ≤ Z107 t ∧ (Z161 t = true → Z13 ≤ Z107 t ∧ (Z61 ∧ Z13 ≤ Z166 t ∧ Z166 t < Z18) ∧ (Value.int IntKind.i64 (Z166 t) = Value.int IntKind.i64 (Z166 t) ∧ Z58) ∧ Z130 ∧ (clashQM Z59 (Z166 t) false = true → Z69) ∧ (clashQM Z59 (Z166 t) false = false → True ∧ Z182 t)) ∧ (Z161 t = false → True ∧ Z182 t)) ∧ (Z160 t = false → (Z121 ∧ Z122) ∧ (Z147 ∧ True) ∧ True ∧ (Z86 ∧ Z87) ∧ (Z123 ∧ True) ∧ True ∧ (Z61 ∧ Z121 ∧ Z122) ∧ (Z147 ∧ Z58) ∧ Z130 ∧ ((!Z134) = true → Z80) ∧ (Z137 → (Z171 = true → Z80) ∧ (Z171 = false → (Z143 = true → (Z170 = true → Z80) ∧ (Z170 = false → Z69)) ∧ (Z143 = false → Z69)))))))))))))
    (by kernel_rfl) ?_
  simp only [eq_self, true_and, and_true, Int.toNat_natCast, Nat.zero_add, Nat.sub_zero, Value.int.injEq, Value.bool.injEq, decide_eq_true_eq, decide_eq_false_iff_not]
  obtain ⟨hbig, hol0, hol1⟩ := hl
  obtain ⟨ol, rfl⟩ := Int.eq_ofNat_of_zero_le hol0
  have hol2 : (ol : Int) ≤ 255 := hol1
  refine ⟨hbig, fun _ => trivial, fun hhv => ?_⟩
  have hl1 : cs.length < 1000 := (heavy_no hhv).1.1
  have hl2 : ks.length < 1000 := (heavy_no hhv).1.2
  refine ⟨⟨hl1, hl2⟩, ⟨hl1, hl2⟩, ⟨hl1, hl2⟩, fun hh0 => ?_, fun hh0 => ?_⟩
  · have hh : hearM ((f, w, li), cs, ks) = false := by simpa using hh0
    have e1 : countM ((f, w, li), cs, ks) = (0, 1) := by simp [countM, hh]
    have e2 : clashHM ((f, w, li), cs, ks) = (0, 1) := by simp [clashHM, hh]
    simp [e1, e2]
  · have hh : hearM ((f, w, li), cs, ks) = true := by simpa using hh0
    have hk := hear_ok hh
    have hx := rt_ok hk
    have hw6 : 0 ≤ w ∧ w ≤ 6 := hk.w
    obtain ⟨nw, rfl⟩ := Int.eq_ofNat_of_zero_le hw6.1
    have hnw : nw ≤ 6 := by omega
    have hW := pow64 nw hnw
    have hpW := Nat.pow_pos (n := nw) (show 0 < 2 by decide)
    have hE := everyP nw hnw
    have a2 : IntKind.i64.wrap ((BitVec.ofInt 64 (IntKind.i64.wrap (ol : Int)) &&& BitVec.ofInt 64 (everyM nw)).toNat : Int) = ((ol % 2 ^ nw : Nat) : Int) := by
      rw [hE, wrap_id (x := (ol : Int)) (by omega) (by omega), andW ol nw (by omega) hnw]
    have b2 := Nat.mod_lt ol hpW
    simp only [Int.toNat_natCast, a2]
    generalize ol % 2 ^ nw = lw at *
    clear a2 hol0 hol1 hol2
    have hr2 : (0 : Int) ≤ (lw : Int) ∧ (lw : Int) < 64 := by omega
    have e1 := count_some hh
    have hQ : ∀ s b, clashQM ((f, (nw : Int), li), cs, ks) s b = if canM ((f, (nw : Int), li), cs, ks) s then clashM (rtM ((f, (nw : Int), li), cs, ks)) s else b := fun s b => clashQ_eq hk b
    rw [e1]
    refine ⟨hw6, fun h => absurd h (by simp), fun _ => ?_⟩
    by_cases hA : 0 < (allH ((f, (nw : Int), li), cs, ks)).length
    · have h0 := getD_mem (0, 0) hA
      have e2 := clash_none hh h0
      have hno : clashQM ((f, (nw : Int), li), cs, ks) (lw : Int) false = false := by
        rw [hQ, clash_sub hk h0]; split <;> rfl
      have hd : decide (((allH ((f, (nw : Int), li), cs, ks)).length : Int) > 0) = true := decide_eq_true (by omega)
      rw [e2, hno]
      refine ⟨fun h => absurd h (by simp only [hd]; decide), fun _ => ⟨fun _ => ⟨fun _ => ⟨⟨hk, hr2⟩, fun _ => trivial, fun h => absurd h (by decide)⟩, fun h => absurd h (by simp)⟩, fun h => absurd h (by simp)⟩⟩
    · have hA0 : allH ((f, (nw : Int), li), cs, ks) = [] := List.eq_nil_of_length_eq_zero (by omega)
      have hcl : clashM (rtM ((f, (nw : Int), li), cs, ks)) (everyH ((f, (nw : Int), li), cs, ks)) = true := by
        have : allM (rtM ((f, (nw : Int), li), cs, ks)) (everyH ((f, (nw : Int), li), cs, ks)) = [] := hA0
        unfold clashM; rw [this]; rfl
      obtain ⟨s, b1, b3, b4, b5, b6⟩ := best_law hnw hQ (clash_best (x := ((f, (nw : Int), li), cs, ks)) hw6 hcl)
      have e2 : clashHM ((f, (nw : Int), li), cs, ks) = ((s : Int), 0) := by
        unfold clashHM; rw [hh, hcl, ← b1]; rfl
      rw [e2, hA0]
      have hs64 : (0 : Int) ≤ (s : Int) ∧ (s : Int) < 64 := by omega
      refine ⟨fun h => absurd h (by simp), fun _ => ⟨fun h => absurd h (by simp), fun _ => ⟨fun h => absurd h (by show ¬ (s : Int) < 0; omega), fun _ => ⟨fun h => absurd h (by show ¬ (s : Int) > everyM nw; omega), fun _ => ⟨⟨hk, hs64⟩, fun h => absurd h (by rw [b4]; decide), fun _ => ⟨⟨⟨0, Nat.zero_le _⟩, rfl⟩, fun t => ⟨fun ht => ?_, fun _ => ?_⟩⟩⟩⟩⟩⟩⟩
      · obtain ⟨k, hk0⟩ := t
        have hlt : k < nw := by have h0 : (k : Int) < (nw : Int) := ht; omega
        have hgo : ∃ y : { i : Nat // i ≤ nw }, IntKind.i64.wrap ((k : Int) + 1) = (y.1 : Int) ∧ nw - y.1 < nw - k := ⟨⟨k + 1, hlt⟩, sucI k (by omega), dec1 hlt⟩
        refine ⟨Int.natCast_nonneg _, fun h => ⟨Int.natCast_nonneg _, ?_⟩, fun _ => hgo⟩
        have h' : (IntKind.i64.wrap ((BitVec.ofInt 64 ((s : Int).fdiv (2 ^ min k 64)) &&& BitVec.ofInt 64 1).toNat : Int) == 1) = true := h
        have hb := bit_i (n := (s : Int)) (k := (k : Int)) hs64 ⟨Int.natCast_nonneg _, by omega⟩
        rw [Int.toNat_natCast] at hb
        rw [hb] at h'
        have hyes : hasM (s : Int) (k : Int) = true := by
          cases h2 : hasM (s : Int) (k : Int) with
          | true => rfl
          | false => rw [h2] at h'; cases h'
        obtain ⟨c1, c2⟩ := b5 k hlt hyes
        exact ⟨⟨hk, c1⟩, fun h => absurd (show clashQM ((f, (nw : Int), li), cs, ks) (clearM (s : Int) k) false = true from h) (by rw [c2]; decide), fun _ => hgo⟩
      · refine ⟨hr2, hs64, ⟨hk, hr2⟩, fun _ => trivial, fun h => ?_⟩
        have hq : clashQM ((f, (nw : Int), li), cs, ks) (lw : Int) false = true := by simpa using h
        have hb := b6 lw b2 hq
        refine ⟨fun _ => trivial, fun h1 => ⟨fun h2 => ⟨fun _ => trivial, fun h3 => absurd h3 ?_⟩, fun h2 => absurd h2 ?_⟩⟩
        · have h1' : ¬ popM (lw : Int) > popM (s : Int) := h1
          show ¬ ¬ (lw : Int) ≥ (s : Int)
          omega
        · have h1' : ¬ popM (lw : Int) > popM (s : Int) := h1
          show ¬ (popM (lw : Int) == popM (s : Int)) = false
          have : popM (lw : Int) = popM (s : Int) := by omega
          rw [this]; simp

theorem lawC_sound : Sound Try.prog 9 lawCS.con := FSpec.sound _ (enter_of Try.func9 (by kernel_rfl) (by kernel_rfl)) lawC_ok

/-! ### ProtestProof -/
def TlawP : Tab UU := [(12, heavyS.con), (13, aliveS.con), (26, proofS.con), (39, isHearingS.con), (42, isWordS.con), (40, everyRS.con), (36, sizeRS.con), (43, proveQS.con)]
theorem TlawP_ok : TlawP.Sound Try.prog := .cons heavy_sound (.cons alive_sound (.cons proof_sound (.cons hearR_sound (.cons wordR_sound (.cons everyR_sound (.cons sizeR_sound (.cons proveQ_sound .nil)))))))
def proofLw (x : HT) (w : W3) (bits : Int) : LSpec UU where
  T := { i : Nat // i ≤ x.1.2.1.toNat }
  fr := fun i => [(3, .ptr 2 0 0 0), (4, .ptr 3 0 0 0), (7, .i (proofM x w).1), (9, .i (everyM x.1.2.1.toNat)), (10, .fn (.func 43) [] [.ptr 2 0 0 0, .ptr 3 0 0 0]), (11, .i (ownM bits x.1.2.1.toNat)), (98, .i x.1.2.1), (99, .i i.1)]
  H := fun _ => hH x ++ [hBoxC x, .one (.cells [.b w.1, .i w.2.1, .b w.2.2] 27)]
  mu := fun i => x.1.2.1.toNat - i.1
def proofLs (x : HT) (w : W3) (bits : Int) (k : Nat) : Option (LRule UU) :=
  match k with
  | 14 => some (.inv (proofLw x w bits))
  | _ => none
def lawPS : FSpec UU where
  X := HT × W3 × Int
  pick := fun args H => match args with
    | [a, b, .v (.int .u8 c)] => match avH H a, avW b with
      | some a, some b => some (a, b, c)
      | _, _ => none
    | _ => none
  args := fun x => [vH x.1, vW x.2.1, .v (.int .u8 x.2.2)]
  H := fun x => hH x.1
  R := fun _ => .val ⟨.b true, [], [], []⟩
  pre := fun x => bigH x.1 ∧ (0 ≤ x.2.2 ∧ x.2.2 ≤ 255)
set_option maxHeartbeats 0 in
set_option maxRecDepth 100000 in
theorem lawP_ok : ∀ x, lawPS.pre x → FunOk Try.prog 8 (lawPS.args x) (lawPS.H x) (lawPS.R x) := by
  rintro ⟨⟨⟨f, w, li⟩, cs, ks⟩, ⟨p, n, q⟩, bits⟩ hl
  refine fun_of (T := TlawP) (L := proofLs ((f, w, li), cs, ks) (p, n, q) bits) (hs := fun _ => []) hmix TlawP_ok Try.func8 (by kernel_rfl) (by kernel_rfl) ?_
  refine Eq.mp (α :=
      let Z0 := Int.toNat w; let Z1 := Value.bool p; let Z2 := Value.bool q; let Z3 := List.length cs; let Z4 := Value.bool true; let Z5 := List.length ks; let Z6 := (w, li); let Z7 := Value.bool false; let Z8 := (n, q); let Z9 := Value.int IntKind.i64 w; let Z10 := everyM Z0; let Z11 := Value.int IntKind.i64 li; let Z12 := Value.int IntKind.i64 n; let Z13 := Value.int IntKind.i64 f; let Z14 := ownM bits Z0; let Z15 := IntKind.wrap IntKind.i64 bits; let Z16 := nat_lit 0 = nat_lit 0 ∧ nat_lit 0 = nat_lit 0; let Z17 := (3 : Int); let Z18 := (4 : Int); let Z19 := (0 : Int); let Z20 := (1 : Int); let Z21 := (2 : Int); let Z22 := (64 : Int); let Z23 := True ∧ True ∧ True ∧ True; let Z24 := popM Z14; let Z25 := ks = ks; let Z26 := cs = cs; let Z27 := (cs, ks); let Z28 := (43 : FuncId); let Z29 := Z1 = Z1; let Z30 := Z2 = Z2; let Z31 := BitVec.ofInt (nat_lit 64) Z10; let Z32 := BitVec.ofInt (nat_lit 64) Z15; let Z33 := Z3 < nat_lit 1000; let Z34 := Z5 < nat_lit 1000; let Z35 := Value.int IntKind.i64 Z10; let Z36 := nat_lit 0 = nat_lit 0 ∧ Z16; let Z37 := Z25 ∧ True; let Z38 := Fn.func Z28; let Z39 := Value.int IntKind.i64 Z14; let Z40 := BitVec.ofInt (nat_lit 64) Z20; let Z41 := Z30 ∧ True; let Z42 := Z3 = Z3; let Z43 := Z5 = Z5; let Z44 := (f, Z6); let Z45 := Z4 = Z4; let Z46 := Z4 = Z7; let Z47 := Value.int IntKind.i64 Z17; let Z48 := (p, Z8); let Z49 := Z7 = Z7; let Z50 := Z36 ∧ True; let Z51 := Z11 = Z11; let Z52 := Z9 = Z9; let Z53 := Z13 = Z13; let Z54 := Z12 = Z12; let Z55 := Z45 ∧ True; let Z56 := Z46 ∧ True; let Z57 := nat_lit 0 = nat_lit 0 ∧ Z42; let Z58 := nat_lit 0 = nat_lit 0 ∧ Z43; let Z59 := wordM f w Z48; let Z60 := !Z59; let Z61 := Z19 ≤ Z14; let Z62 := Z14 < Z22; let Z63 := nat_lit 0 = nat_lit 0 ∧ Z57; let Z64 := nat_lit 0 = nat_lit 0 ∧ Z58; let Z65 := Z26 ∧ Z37; let Z66 := Z64 ∧ True; let Z67 := Z33 ∧ Z34; let Z68 := Z52 ∧ Z23; let Z69 := True ∧ Z65; let Z70 := Z38 = Z38; let Z71 := Z35 = Z35; let Z72 := Z39 = Z39; let Z73 := Z36 ∧ Z50; let Z74 := Z54 ∧ Z41; let Z75 := Z47 = Z47; let Z76 := True ∧ Z73; let Z77 := (Z44, Z27); let Z78 := Z29 ∧ Z74; let Z79 := hearM Z77; let Z80 := HearOk Z77; let Z81 := Z49 ∧ Z73; let Z82 := Z61 ∧ Z62; let Z83 := Z78 ∧ True; let Z84 := Z55 ∧ Z69; let Z85 := Z56 ∧ Z69; let Z86 := !Z79; let Z87 := True ∧ Z84; let Z88 := True ∧ Z85; let Z89 := Z63 ∧ Z66; let Z90 := True ∧ Z87; let Z91 := True ∧ Z90; let Z92 := True ∧ Z91; let Z93 := Prod.fst Z77; let Z94 := proofM Z77 Z48; let Z95 := heavyM Z77 Z17 Z17; let Z96 := Z70 ∧ Z76; let Z97 := Prod.fst Z94; let Z98 := Prod.snd Z94; let Z99 := Prod.snd Z93; let Z100 := popM Z97; let Z101 := Z51 ∧ Z89; let Z102 := BitVec.ofInt (nat_lit 64) Z97; let Z103 := proveQM Z77 Z48 Z10 false; let Z104 := proveQM Z77 Z48 Z14 false; let Z105 := Value.int IntKind.i64 Z97; let Z106 := Prod.fst Z99; let Z107 := !Z103; let Z108 := !Z104; let Z109 := Int.toNat Z106; let Z110 := Z97 > Z10; let Z111 := Z14 ≥ Z97; let Z112 := Z32 &&& Z31; let Z113 := Z97 < Z19; let Z114 := Z19 ≤ Z97; let Z115 := Z97 < Z22; let Z116 := fun (i : Nat) => i ≤ Z109; let Z117 := Z24 > Z100; let Z118 := BitVec.toNat Z112; let Z119 := Z52 ∧ Z101; let Z120 : Type := { i : Nat // Z116 i }; let Z121 := Z98 != Z19; let Z122 := Z98 == Z18; let Z123 := Z98 == Z21; let Z124 := Z97 == Z19; let Z125 := Z98 == Z20; let Z126 := fun (x : Z120) => Subtype.val x; let Z127 := (↑Z118 : Int); let Z128 := Z24 == Z100; let Z129 := Z124 = true; let Z132 := Z124 = false; let Z133 := Z125 = false; let Z134 := Z123 = false; let Z135 := fun (x : Z120) => (↑(Z126 x) : Int); let Z136 := IntKind.wrap IntKind.i64 Z127; let Z139 := Value.int IntKind.i64 Z136; let Z141 := Z53 ∧ Z119; let Z142 := fun (x : Z120) => Z0 - Z126 x; let Z148 := proveQM Z77 Z48 Z97 true; let Z151 := fun (t : Z120) => Z21 ^ min (Int.toNat (Z135 t)) (nat_lit 64); let Z153 := Z105 = Z105; let Z156 := Z125 == Z86; let Z161 := Z156 = false; let Z162 := proveQM Z77 Z48 Z136 false; let Z168 := Z26 ∧ Z25 ∧ Z141 ∧ Z83; let Z175 := decide Z111; let Z177 := decide Z117; let Z182 := fun (t : Z120) => decide (Z135 t < w); let Z187 := fun (t : Z120) => IntKind.wrap IntKind.i64 (↑(BitVec.toNat (BitVec.ofInt (nat_lit 64) (Int.fdiv Z97 (Z151 t)) &&& Z40)) : Int) == Z20; let Z191 := fun (t : Z120) => IntKind.wrap IntKind.i64 (↑(BitVec.toNat (Z102 &&& ~~~BitVec.ofInt (nat_lit 64) (IntKind.wrap IntKind.i64 (Z20 * Z151 t)))) : Int); let Z196 := fun (t : Z120) => proveQM Z77 Z48 (Z191 t) false; let Z208 := fun (t : Z120) => ∃ (x : Z120), ((Z36 ∧ Z36 ∧ Z153 ∧ Z71 ∧ Z96 ∧ Z72 ∧ Z52 ∧ Value.int IntKind.i64 (IntKind.wrap IntKind.i64 (Z135 t + Z20)) = Value.int IntKind.i64 (Z135 x) ∧ True) ∧ True ∧ Z168) ∧ Z142 x < Z142 t; let Z212 := decide Z113; let Z213 := decide Z110; (Z3 < nat_lit 9223372036854775808 ∧ Z5 < nat_lit 9223372036854775808) ∧ (Z141 ∧ Z75 ∧ Z75 ∧ True) ∧ Z65 ∧ (Z95 = true → Z92) ∧ (Z95 = false → Z67 ∧ (Z141 ∧ Z83) ∧ Z65 ∧ Z67 ∧ (Z141 ∧ True) ∧ Z65 ∧ (Z86 = true → (Z129 → Z67 ∧ (Z141 ∧ True) ∧ Z65 ∧ (Z156 = true → (Z125 = true → Z92) ∧ (Z133 → (Z123 = true → Z92) ∧ (Z134 → Z88))) ∧ (Z161 → Z88)) ∧ (Z132 → Z88)) ∧ (Z86 = false → True ∧ ((Z53 ∧ Z68) ∧ Z83) ∧ True ∧ (Z60 = true → (Z129 → Z67 ∧ (Z141 ∧ True) ∧ Z65 ∧ (Z156 = true → (Z125 = true → Z92) ∧ (Z133 → (Z123 = true → Z92) ∧ (Z134 → Z88))) ∧ (Z161 → Z88)) ∧ (Z132 → Z88)) ∧ (Z60 = false → (Z19 ≤ w ∧ w ≤ (6 : Int)) ∧ ((True ∧ Z68) ∧ True) ∧ True ∧ (Z121 = true → (Z122 = true → (Z129 → (Z80 ∧ Z19 ≤ Z136 ∧ Z136 < Z22) ∧ (Z139 = Z139 ∧ Z81) ∧ Z168 ∧ ((!Z162) = true → (Z80 ∧ Z19 ≤ Z10 ∧ Z10 < Z22) ∧ (Z71 ∧ Z81) ∧ Z168 ∧ (Z107 = true → Z92) ∧ (Z107 = false → Z88)) ∧ ((!Z162) = false → Z88)) ∧ (Z132 → Z88)) ∧ (Z122 = false → Z88)) ∧ (Z121 = false → (Z212 = true → Z88) ∧ (Z212 = false → (Z213 = true → Z88) ∧ (Z213 = false → (Z80 ∧ Z114 ∧ Z115) ∧ (Z153 ∧ Z45 ∧ Z73) ∧ Z168 ∧ ((!Z148) = true → Z88) ∧ ((!Z148) = false → (∃ (x : Z120), (Z36 ∧ Z36 ∧ Z153 ∧ Z71 ∧ (Fn.func (nat_lit 43) = Z38 ∧ Z76) ∧ Z139 = Z39 ∧ Z52 ∧ Value.int IntKind.i64 Z19 = Value.int IntKind.i64 (Z135 x) ∧ True) ∧ True ∧ Z168) ∧ ∀ (t : Z120), (Z182 t = true → Z19 ≤ Z135 t ∧ (Z187 t = true → Z19 ≤ Z135 t ∧ (Z80 ∧ Z19 ≤ Z191 t ∧ Z191 t < Z22) ∧ (Value.int IntKind.i64 (Z191 t) = Value.int IntKind.i64 (Z191 t) ∧ Z81) ∧ Z168 ∧ (Z196 t = true → Z88) ∧ (Z196 t = false → True ∧ Z208 t)) ∧ (Z187 t = false → True ∧ Z208 t)) ∧ (Z182 t = false → Z82 ∧ (Z72 ∧ True) ∧ True ∧ (Z114 ∧ Z115) ∧ (Z153 ∧ True) ∧ True ∧ (Z80 ∧ Z82) ∧ (Z72 ∧ Z81) ∧ Z168 ∧ (Z108 = true → Z92) ∧ (Z108 = false → (Z177 = true → Z92) ∧ (Z177 = false → (Z128 = true → (Z175 = true → Z92) ∧ (Z175 = false → Z88)) ∧ (Z128 = false → Z88))))))))))))
    (by kernel_rfl) ?_
  simp only [eq_self, true_and, and_true, Int.toNat_natCast, Nat.zero_add, Nat.sub_zero, Value.int.injEq, Value.bool.injEq, decide_eq_true_eq, decide_eq_false_iff_not]
  obtain ⟨hbig, hol0, hol1⟩ := hl
  obtain ⟨ol, rfl⟩ := Int.eq_ofNat_of_zero_le hol0
  have hol2 : (ol : Int) ≤ 255 := hol1
  refine ⟨hbig, fun _ => trivial, fun hhv => ?_⟩
  have hl1 : cs.length < 1000 := (heavy_no hhv).1.1
  have hl2 : ks.length < 1000 := (heavy_no hhv).1.2
  refine ⟨⟨hl1, hl2⟩, ⟨hl1, hl2⟩, fun hh0 => ?_, fun hh0 => ?_⟩
  · have hh : hearM ((f, w, li), cs, ks) = false := by simpa using hh0
    have e2 : proofM ((f, w, li), cs, ks) (p, n, q) = (0, 1) := by simp [proofM, openErrM, hh]
    simp [e2, hl1, hl2, hh]
  · have hh : hearM ((f, w, li), cs, ks) = true := by simpa using hh0
    refine ⟨fun hw0 => ?_, fun hw0 => ?_⟩
    · have hwo : wordM f w (p, n, q) = false := by simpa using hw0
      have e2 : proofM ((f, w, li), cs, ks) (p, n, q) = (0, 2) := by simp [proofM, openErrM, hh, hwo]
      simp [e2, hl1, hl2, hh]
    have hwo : wordM f w (p, n, q) = true := by simpa using hw0
    have hk := hear_ok hh
    have hx := rt_ok hk
    have hw6 : 0 ≤ w ∧ w ≤ 6 := hk.w
    obtain ⟨nw, rfl⟩ := Int.eq_ofNat_of_zero_le hw6.1
    have hnw : nw ≤ 6 := by omega
    have hW := pow64 nw hnw
    have hpW := Nat.pow_pos (n := nw) (show 0 < 2 by decide)
    have hE := everyP nw hnw
    have a2 : IntKind.i64.wrap ((BitVec.ofInt 64 (IntKind.i64.wrap (ol : Int)) &&& BitVec.ofInt 64 (everyM nw)).toNat : Int) = ((ol % 2 ^ nw : Nat) : Int) := by
      rw [hE, wrap_id (x := (ol : Int)) (by omega) (by omega), andW ol nw (by omega) hnw]
    have b2 := Nat.mod_lt ol hpW
    have hown : ownM (ol : Int) nw = ((ol % 2 ^ nw : Nat) : Int) := a2
    simp only [Int.toNat_natCast, a2, hown]
    generalize ol % 2 ^ nw = lw at *
    clear a2 hol0 hol1 hol2
    have hr2 : (0 : Int) ≤ (lw : Int) ∧ (lw : Int) < 64 := by omega
    have hEB : 0 ≤ everyM nw ∧ everyM nw < 64 := everyB nw hnw
    have hQ : ∀ s b, proveQM ((f, (nw : Int), li), cs, ks) (p, n, q) s b = if canM ((f, (nw : Int), li), cs, ks) s then proveM (rtM ((f, (nw : Int), li), cs, ks)) s (p, n, q) else b := fun s b => proveQ_eq hk hwo b
    refine ⟨hw6, ?_⟩
    cases hB : (bestM nw fun s => proveM (rtM ((f, (nw : Int), li), cs, ks)) s (p, n, q)).2 with
    | false =>
      have e2 : proofM ((f, (nw : Int), li), cs, ks) (p, n, q) = (0, 4) := by
        have hwo' : wordM f (nw : Int) (p, n, q) = true := hwo
        simp [proofM, hh, hwo', hB]
      have hS := search_best nw hnw fun s => proveM (rtM ((f, (nw : Int), li), cs, ks)) s (p, n, q)
      have hnone : ∀ k : Nat, k < 2 ^ nw → proveQM ((f, (nw : Int), li), cs, ks) (p, n, q) (k : Int) false = false := fun k hk2 => by
        unfold bestM at hB
        cases hb : searchM nw fun s => proveM (rtM ((f, (nw : Int), li), cs, ks)) s (p, n, q) with
        | some s => rw [hb] at hB; cases hB
        | none =>
          rw [hb] at hS
          have h1 : proveM (rtM ((f, (nw : Int), li), cs, ks)) (k : Int) (p, n, q) = false := hS k hk2
          rw [hQ, h1]; split <;> rfl
      have hev : everyM nw = ((2 ^ nw - 1 : Nat) : Int) := by omega
      have n1 := hnone lw b2
      have n2 := hnone (2 ^ nw - 1) (by omega)
      rw [← hev] at n2
      rw [e2, n1, n2]
      refine ⟨fun _ => ⟨fun _ => ⟨fun _ => ⟨⟨hk, hr2⟩, fun _ => ⟨⟨hk, hEB⟩, fun _ => trivial, fun h => absurd h (by decide)⟩, fun h => absurd h (by decide)⟩, fun h => absurd h (by simp)⟩, fun h => absurd h (by simp)⟩, fun h => absurd h (by simp)⟩
    | true =>
      obtain ⟨s, b1, b3, b4, b5, b6⟩ := best_law hnw hQ hB
      have e2 : proofM ((f, (nw : Int), li), cs, ks) (p, n, q) = ((s : Int), 0) := by
        have hwo' : wordM f (nw : Int) (p, n, q) = true := hwo
        simp [proofM, hh, hwo', hB, b1]
      rw [e2]
      have hs64 : (0 : Int) ≤ (s : Int) ∧ (s : Int) < 64 := by omega
      refine ⟨fun h => absurd h (by simp), fun _ => ⟨fun h => absurd h (by show ¬ (s : Int) < 0; omega), fun _ => ⟨fun h => absurd h (by show ¬ (s : Int) > everyM nw; omega), fun _ => ⟨⟨hk, hs64⟩, fun h => absurd h (by rw [b4]; decide), fun _ => ⟨⟨⟨0, Nat.zero_le _⟩, trivial, rfl⟩, fun t => ⟨fun ht => ?_, fun _ => ?_⟩⟩⟩⟩⟩⟩
      · obtain ⟨k, hk0⟩ := t
        have hlt : k < nw := by have h0 : (k : Int) < (nw : Int) := ht; omega
        have hgo : ∃ y : { i : Nat // i ≤ nw }, IntKind.i64.wrap ((k : Int) + 1) = (y.1 : Int) ∧ nw - y.1 < nw - k := ⟨⟨k + 1, hlt⟩, sucI k (by omega), dec1 hlt⟩
        refine ⟨Int.natCast_nonneg _, fun h => ⟨Int.natCast_nonneg _, ?_⟩, fun _ => hgo⟩
        have h' : (IntKind.i64.wrap ((BitVec.ofInt 64 ((s : Int).fdiv (2 ^ min k 64)) &&& BitVec.ofInt 64 1).toNat : Int) == 1) = true := h
        have hb := bit_i (n := (s : Int)) (k := (k : Int)) hs64 ⟨Int.natCast_nonneg _, by omega⟩
        rw [Int.toNat_natCast] at hb
        rw [hb] at h'
        have hyes : hasM (s : Int) (k : Int) = true := by
          cases h2 : hasM (s : Int) (k : Int) with
          | true => rfl
          | false => rw [h2] at h'; cases h'
        obtain ⟨c1, c2⟩ := b5 k hlt hyes
        exact ⟨⟨hk, c1⟩, fun h => absurd (show proveQM ((f, (nw : Int), li), cs, ks) (p, n, q) (clearM (s : Int) k) false = true from h) (by rw [c2]; decide), fun _ => hgo⟩
      · refine ⟨hr2, hs64, ⟨hk, hr2⟩, fun _ => trivial, fun h => ?_⟩
        have hq : proveQM ((f, (nw : Int), li), cs, ks) (p, n, q) (lw : Int) false = true := by simpa using h
        have hb := b6 lw b2 hq
        refine ⟨fun _ => trivial, fun h1 => ⟨fun h2 => ⟨fun _ => trivial, fun h3 => absurd h3 ?_⟩, fun h2 => absurd h2 ?_⟩⟩
        · have h1' : ¬ popM (lw : Int) > popM (s : Int) := h1
          show ¬ ¬ (lw : Int) ≥ (s : Int)
          omega
        · have h1' : ¬ popM (lw : Int) > popM (s : Int) := h1
          show ¬ (popM (lw : Int) == popM (s : Int)) = false
          have : popM (lw : Int) = popM (s : Int) := by omega
          rw [this]; simp

theorem lawP_sound : Sound Try.prog 8 lawPS.con := FSpec.sound _ (enter_of Try.func8 (by kernel_rfl) (by kernel_rfl)) lawP_ok
end AE.Pr

namespace AE
open Go Go.ChangeShapes Go.WideShapes

theorem Keeps.but {w w' : World} (h : Keeps (fun _ => False) w w') (may : MemPlace → Prop) : w.keptBut w' may := by
  refine ⟨h.os, h.output, fun i hi => ?_⟩
  have hb := h.block i hi fun h => h
  rw [hb]
  exact (World.keptBut_refl w may).2.2 i hi
theorem Keeps.frozen {w w' : World} (h : Keeps (fun _ => False) w w') (a : Addr) (ha : a.block < w.heap.size) : w'.frozen? a = w.frozen? a := by
  unfold World.frozen?
  rw [h.block a.block ha fun h => h]
theorem post_of_keeps {P : Program} {H : Type} {enc : TypeId × Value → H} {f : Func} {s : ChangeSpec} {apart fresh handsOn again : Bool} {W W' : World} {args : Array Value} {v : Value} {ds gs : List (DataW H)} {before pa pv : List MemPlace}
    (hW : DataW.Whole enc P f.params.toList s.vars apart W args.toList ds gs before)
    (hres : ∀ (b : Nat) (sp : Nat → Bool) (hd : Bool), DataW.TrodAll enc P W' b sp hd f.resultTypes.toList (v.resultList f.resultTypes.size) (s.fn H (ds ++ gs)).results [])
    (hargs : ∀ sp : Nat → Bool, (∀ p ∈ before, sp p.block = true) → DataW.TrodAll enc P W' 0 sp true f.params.toList args.toList (s.fn H (ds ++ gs)).args pa)
    (hvars : ∀ sp : Nat → Bool, (∀ p ∈ before, sp p.block = true) → DataW.TrodVars enc P W' sp s.vars (s.fn H (ds ++ gs)).vars pv)
    (hps : before = pa ++ pv) (hk : Keeps (fun _ => False) W W')
    (hok : ∀ (j : Nat) (t : TypeId) (r : Value), f.resultTypes[j]? = some t → (v.resultList f.resultTypes.size)[j]? = some r → Value.okWide P W' .any 0 t r) :
    s.post enc P f apart fresh handsOn again W args v W' := by
  have hlt := hW.lt
  have hold : ∀ p ∈ before, (fun b => decide (b < W.heap.size)) p.block = true := fun p hp => by simpa using hlt p hp
  have hb : ∀ p, p ∈ [] ++ pa ++ pv ↔ p ∈ before := fun p => by rw [hps, List.nil_append]
  refine ⟨ds, gs, before, [], pa, pv, hW, hres _ _ _, hargs _ hold, hvars _ hold, World.keptBut_mono (fun p hp => ⟨hp, ?_⟩) (hk.but _), fun _ => ?_⟩
  · exact Or.inr (List.mem_append.1 (hps ▸ hp))
  · obtain ⟨_, _, _, _, _, hz, hn⟩ := hW
    refine ⟨hok, _, _, [] ++ pa ++ pv, ⟨[] ++ pa, pv, trodAll_append (hargs _ (fun _ _ => rfl)) (hres _ _ _), hvars _ (fun _ _ => rfl), rfl, fun b off hp => ?_, fun ha => ?_⟩, fun p hp _ => (hb p).1 hp⟩
    · have hp' := (hb _).1 hp
      rw [hk.frozen _ (hlt _ hp')]
      exact hz b off hp'
    · have := hn ha
      rwa [hps, ← List.nil_append pa] at this
end AE

namespace AE
open Go Go.ChangeShapes Go.WideShapes Go.RowKit

theorem Keeps.below {w w' : World} (h : Keeps (fun _ => False) w w') : Below w.heap.size w w' :=
  ⟨h.os, h.tape, h.output, h.size, fun k hk => h.block k hk fun e => e⟩

/-- What a cell of a flat type holds. -/
inductive FK where
  | int (k : IntKind)
  | bool
def FK.ok : FK → Value → Prop
  | .int k, v => ∃ n, v = .int k n ∧ (Lit.int k n).wf = true
  | .bool, v => ∃ b, v = .bool b
def FKs : List FK → List Value → Prop
  | [], vs => vs = []
  | k :: ks, vs => ∃ v r, vs = v :: r ∧ k.ok v ∧ FKs ks r
theorem FKs.append : ∀ {a b : List FK} {x y : List Value}, FKs a x → FKs b y → FKs (a ++ b) (x ++ y)
  | [], _, _, _, h, k => by cases h; exact k
  | _ :: _, _, _, _, ⟨v, r, e, h1, h2⟩, k => ⟨v, _, by rw [e]; rfl, h1, h2.append k⟩
theorem FKs.length : ∀ {a : List FK} {x : List Value}, FKs a x → x.length = a.length
  | [], _, h => by cases h; rfl
  | _ :: _, _, ⟨v, r, e, _, h⟩ => by rw [e, List.length_cons, List.length_cons, h.length]

mutual
def flat (P : Program) : Nat → TypeId → Option (List FK)
  | 0, _ => none
  | n + 1, t => match P.underlying t with
    | some .bool => some [.bool]
    | some (.int k) => some [.int k]
    | some (.struct fs) => flatFs P n 0 fs.toList
    | _ => none
def flatFs (P : Program) : Nat → Nat → List Field → Option (List FK)
  | _, _, [] => some []
  | 0, _, _ :: _ => none
  | n + 1, o, f :: fs => match Nat.beq f.offset o, flat P n f.type with
    | true, some l => match Nat.beq (P.cellsOf f.type) l.length, flatFs P n (o + l.length) fs with
      | true, some r => some (l ++ r)
      | _, _ => none
    | _, _ => none
end

section
variable {H : Type} {enc : TypeId × Value → H} {P : Program} {w : World} {base : Nat} {spare : Nat → Bool} {held : Bool}
mutual
theorem flat_ok : ∀ (n : Nat) {t : TypeId} {ks : List FK} {fuel : Nat} {cs : List Value} {x : DataW H × List MemPlace}, flat P n t = some ks → P.cellsOf t = ks.length → DataW.trod enc P w base spare held fuel t cs = some x → FKs ks cs
  | 0, t, ks, fuel, cs, x, h, _, _ => by simp [flat] at h
  | n + 1, t, ks, fuel, cs, x, h, hc, hx => by
    unfold flat at h
    split at h
    · rename_i hu
      cases h
      cases fuel with
      | zero => simp [DataW.trod] at hx
      | succ m =>
        unfold DataW.trod at hx
        rw [hu] at hx
        split at hx <;> first | (simp_all; done) | skip
        rename_i b _ _
        exact ⟨_, _, rfl, ⟨_, rfl⟩, rfl⟩
    · rename_i k hu
      cases h
      cases fuel with
      | zero => simp [DataW.trod] at hx
      | succ m =>
        unfold DataW.trod at hx
        rw [hu] at hx
        split at hx <;> first | (simp_all; done) | skip
        split at hx
        · rename_i k1 _ _ he hh
          have he' : k = k1 := by simpa using he
          subst he'
          obtain ⟨rfl, hh⟩ := hh
          exact ⟨_, _, rfl, ⟨_, rfl, hh⟩, rfl⟩
        · cases hx
    · rename_i fs hu
      obtain ⟨xs, m, _, _, hl, hlen, hf⟩ := DataW.trod_struct hu hx
      have := flatFs_ok n (cs := cs) h (fun f hm => by
        obtain ⟨i, hi, rfl⟩ := List.getElem_of_mem hm
        have h1 : i < fs.size := by simpa using hi
        have h2 := hf i fs[i] (Array.getElem?_eq_getElem h1)
        rw [List.getElem?_eq_getElem (by omega)] at h2
        exact ⟨_, m, by rw [Array.getElem_toList]; exact h2⟩) (by rw [hl, hc]; omega)
      simpa using this
    · cases h
theorem flatFs_ok : ∀ (n : Nat) {o : Nat} {fs : List Field} {ks : List FK} {cs : List Value}, flatFs P n o fs = some ks →
    (∀ f ∈ fs, ∃ y m, DataW.trod enc P w base spare held m f.type ((cs.drop f.offset).take (P.cellsOf f.type)) = some y) → cs.length = o + ks.length → FKs ks (cs.drop o)
  | n, o, [], ks, cs, h, _, hl => by
    have : ks = [] := by cases n <;> simpa [flatFs] using h.symm
    subst this
    show cs.drop o = []
    exact List.drop_eq_nil_of_le (by simpa using Nat.le_of_eq hl)
  | 0, o, f :: fs, ks, cs, h, _, _ => by simp [flatFs] at h
  | n + 1, o, f :: fs, ks, cs, h, hf, hl => by
    unfold flatFs at h
    split at h
    case h_2 => cases h
    rename_i l ho hfl
    split at h
    case h_2 => cases h
    rename_i r hc hr
    cases h
    replace ho := Nat.eq_of_beq_eq_true ho
    replace hc := Nat.eq_of_beq_eq_true hc
    obtain ⟨y, m, hy⟩ := hf f (List.mem_cons_self ..)
    have h1 := flat_ok n hfl hc hy
    have h2 := flatFs_ok n (cs := cs) hr (fun g hg => hf g (List.mem_cons_of_mem _ hg)) (by rw [hl, List.length_append]; omega)
    rw [ho, hc] at h1
    have h3 := h1.append h2
    rw [← List.drop_drop, List.take_append_drop] at h3
    exact h3
end

theorem cells_get {a : Addr} {n : Nat} {cs : List Value} (h : w.cells? base a n = some cs) : cs.length = n ∧ ∀ j, j < n → w.cell? (a.add j) = cs[j]? := by
  unfold World.cells? at h
  split at h
  · exact ⟨by simpa using mapM_some_length h, fun j hj => mapM_some_get h j j (by simp [hj])⟩
  · cases h

theorem cell_spot {a : Addr} {v : Value} (h : w.cell? a = some v) : a.spot = none := by
  unfold World.cell? at h
  split at h
  · split at h
    · cases h
    · rename_i hs; simpa using hs
  · cases h

/-- A slice of flat elements, read as data, is a row of the executor's memory. -/
theorem row_of_trodQ {U : Uni} (c : U.C) (Q : U.ty c → Prop) {t e : TypeId} {ks : List FK} {n fuel : Nat} {v : Value} {x : DataW H × List MemPlace} (ht : P.underlying t = some (.slice e)) (hfl : flat P n e = some ks) (hce : P.cellsOf e = ks.length) (hsz : ks.length = U.sz c) (hpos : 0 < ks.length)
    (hdec : ∀ cs, FKs ks cs → ∃ x, U.enc c x = cs.map .v ∧ Q x) (h : DataW.trod enc P w base spare held fuel t [v] = some x) :
    ∃ (l : List (U.ty c)) (p : Place), l.length < 9223372036854775808 ∧ (∀ x ∈ l, Q x) ∧ (∀ π, BlkOk π w p (.ro c l)) ∧ ∀ (π : Plc) (id k : Nat), π id k = some p → Rep π (.sl id k 0 l.length) v := by
  rcases DataW.trod_slice ht h with ⟨h0, _⟩ | ⟨a, len, cap, elems, rest, m, _, hv, _, hb, hl, hm, hlen, hel, _, _⟩
  · cases h0
    refine ⟨[], ⟨0, 0, U.sz c, none, 0, 0⟩, by simp, fun x hx => by simp at hx, fun π => ⟨rfl, fun i x hi => by simp at hi⟩, fun π id k _ => ?_⟩
    simp only [Rep]
    exact ⟨none, 0, rfl, Nat.le_refl _, fun h => absurd h (Nat.lt_irrefl 0)⟩
  · cases hv
    have each : ∀ i, i < len → ∃ x : U.ty c, Q x ∧ ∀ j a1, (U.enc c x)[j]? = some a1 → ∃ y, w.cell? ((a.add (i * P.cellsOf e)).add j) = some y ∧ a1 = .v y := by
      intro i hi
      have h1 := hel i hi
      rw [List.getElem?_eq_getElem (by omega), Option.bind_eq_some_iff] at h1
      obtain ⟨cs, hcs, htr⟩ := h1
      obtain ⟨hcl, hcg⟩ := cells_get hcs
      obtain ⟨x, hx, hQ⟩ := hdec cs (flat_ok n hfl hce htr)
      refine ⟨x, hQ, fun j a1 hj => ?_⟩
      rw [hx, List.getElem?_map] at hj
      cases hc : cs[j]? with
      | none => rw [hc] at hj; cases hj
      | some y =>
        rw [hc] at hj
        have hjl := (List.getElem?_eq_some_iff.1 hc).1
        exact ⟨y, by rw [hcg j (by omega), hc], by simpa using hj.symm⟩
    have spot : 0 < len → a.spot = none := by
      intro h0
      obtain ⟨x, _, hx⟩ := each 0 h0
      have hl2 := U.len c x
      obtain ⟨y, hy, _⟩ := hx 0 ((U.enc c x)[0]'(by omega)) (List.getElem?_eq_getElem _)
      have h9 : (a.add (0 * P.cellsOf e)).add 0 = a := by simp [Addr.add]
      rw [h9] at hy
      exact cell_spot hy
    have : ∃ l : List (U.ty c), l.length = len ∧ ∀ i x, l[i]? = some x → Q x ∧ ∀ j a1, (U.enc c x)[j]? = some a1 → ∃ y, w.cell? ((a.add (i * P.cellsOf e)).add j) = some y ∧ a1 = .v y := by
      refine ⟨(List.range len).pmap (fun i hi => (each i hi).choose) (fun i hi => List.mem_range.1 hi), by simp, fun i x hi => ?_⟩
      rw [List.getElem?_pmap] at hi
      by_cases h0 : i < len
      · rw [Option.pmap_eq_some_iff] at hi
        obtain ⟨i', h1, h2, rfl⟩ := hi
        have : i' = i := by rw [List.getElem?_range h0] at h2; exact (Option.some.inj h2).symm
        subst this
        exact (each i' h1).choose_spec
      · simp [List.getElem?_eq_none (show (List.range len).length ≤ i by simp; omega)] at hi
    obtain ⟨l, hll, hl2⟩ := this
    have hQl : ∀ x ∈ l, Q x := fun x hx => by
      obtain ⟨i, hi⟩ := List.getElem?_of_mem hx
      exact (hl2 i x hi).1
    have hml : maxLen = 9223372036854775807 := by decide
    refine ⟨l, ⟨a.block, a.off, U.sz c, none, 0, 0⟩, by omega, hQl, fun π => ⟨rfl, fun i x hi j a1 hj => ?_⟩, fun π id k hp => ?_⟩
    · obtain ⟨y, hy, rfl⟩ := (hl2 i x hi).2 j a1 hj
      have hi' := (List.getElem?_eq_some_iff.1 hi).1
      have hs := spot (by omega)
      refine ⟨y, ?_, by simp [Rep]⟩
      rw [← hy]
      congr 1
      cases a
      simp only at hs
      subst hs
      simp only [Addr.add, hce, hsz]
      split <;> split <;> simp_all
    · simp only [Rep]
      refine ⟨some a, cap, by rw [hll], by omega, fun h0 => ⟨_, hp, ?_⟩⟩
      have hs := spot (by omega)
      cases a
      simp only at hs
      subst hs
      simp
/-- A slice of flat elements, read as data, is a row of the executor's memory. -/
theorem row_of_trod {U : Uni} (c : U.C) {t e : TypeId} {ks : List FK} {n fuel : Nat} {v : Value} {x : DataW H × List MemPlace} (ht : P.underlying t = some (.slice e)) (hfl : flat P n e = some ks) (hce : P.cellsOf e = ks.length) (hsz : ks.length = U.sz c) (hpos : 0 < ks.length)
    (hdec : ∀ cs, FKs ks cs → ∃ x, U.enc c x = cs.map .v) (h : DataW.trod enc P w base spare held fuel t [v] = some x) :
    ∃ (l : List (U.ty c)) (p : Place), l.length < 9223372036854775808 ∧ (∀ π, BlkOk π w p (.ro c l)) ∧ ∀ (π : Plc) (id k : Nat), π id k = some p → Rep π (.sl id k 0 l.length) v := by
  obtain ⟨l, p, a, _, b, d⟩ := row_of_trodQ c (fun _ => True) ht hfl hce hsz hpos (fun cs hc => by
    obtain ⟨x, hx⟩ := hdec cs hc
    exact ⟨x, hx, trivial⟩) h
  exact ⟨l, p, a, b, d⟩
end

/-- Rows that are only read, as memory. -/
def rosPlc (ps : List Place) : Plc := fun id k => if k = 0 then ps[id]? else none
theorem rosPlc_fresh (ps : List Place) : Fresh (rosPlc ps) ps.length := by
  intro id k h
  unfold rosPlc
  split
  · rw [List.getElem?_eq_none h]
  · rfl
def roH {U : Uni} (bs : List ((c : U.C) × List (U.ty c))) : Heap U := bs.map fun b => .one (.ro b.1 b.2)
theorem roH_at {U : Uni} {bs : List ((c : U.C) × List (U.ty c))} {id k : Nat} {b : AB1 U} (h : (roH bs).at id k = some b) : k = 0 ∧ ∃ c, bs[id]? = some c ∧ b = .ro c.1 c.2 := by
  unfold Heap.at roH at h
  rw [List.getElem?_map] at h
  cases hb : bs[id]? with
  | none => rw [hb] at h; cases h
  | some c =>
    rw [hb] at h
    simp only [Option.map_some] at h
    split at h
    · rename_i e; exact ⟨e, c, rfl, by simpa using h.symm⟩
    · cases h
theorem roH_conc {U : Uni} {w : World} {bs : List ((c : U.C) × List (U.ty c))} {ps : List Place} (hl : ps.length = bs.length) (h : ∀ (i : Nat) (b : (c : U.C) × List (U.ty c)) (p : Place), bs[i]? = some b → ps[i]? = some p → ∀ π, BlkOk (U := U) π w p (.ro b.1 b.2)) : Conc (rosPlc ps) (roH bs) w where
  ok := fun id k b hb => by
    obtain ⟨rfl, c, hc, rfl⟩ := roH_at hb
    have h1 := (List.getElem?_eq_some_iff.1 hc).1
    refine ⟨ps[id], ?_, h id c _ hc (List.getElem?_eq_getElem (by omega)) _⟩
    unfold rosPlc
    rw [if_pos rfl, List.getElem?_eq_getElem (by omega)]
  sep := fun id k b id' k' b' p p' hb _ _ ho => by
    obtain ⟨rfl, c, hc, rfl⟩ := roH_at hb
    cases ho
theorem roH_length {U : Uni} (bs : List ((c : U.C) × List (U.ty c))) : (roH bs).length = bs.length := by simp [roH]
/-- A call that owns nothing of its memory keeps all that was there. -/
theorem keeps_of_ro {U : Uni} {bs : List ((c : U.C) × List (U.ty c))} {w w' : World} {O : Nat → Prop} (h : Keeps O w w') (hO : ∀ n, ¬ O n) : Keeps (fun _ => False) w w' := h.weaken fun n _ hn => hO n hn

/-- Arguments read in a world that keeps all that was there as they read before. -/
theorem trodAll_stays {H : Type} {enc : TypeId × Value → H} {P : Program} (hl : laidOutB P = true) {W W' : World} {sp' : Nat → Bool} : ∀ {ts : List TypeId} {vs : List Value} {ds : List (DataW H)} {ps : List MemPlace},
    (ts.all fun t => P.readableRec t && decide (t < P.types.size)) = true → DataW.TrodAll enc P W 0 (fun _ => true) true ts vs ds ps → (∀ p ∈ ps, W.sameAt W' p) → (∀ p ∈ ps, sp' p.block = true) → DataW.TrodAll enc P W' 0 sp' true ts vs ds ps
  | [], [], [], _, _, h, _, _ => h
  | _ :: _, _ :: _, _ :: _, _, ht, ⟨p, q, h1, h2, e⟩, hs, hp => by
    simp only [List.all_cons, Bool.and_eq_true, decide_eq_true_eq] at ht
    exact ⟨p, q, WideElems.Trod_stays hl ht.1.1 ht.1.2 h1 (fun x hx => hs x (by rw [e]; exact List.mem_append_left _ hx)) (fun x hx => hp x (by rw [e]; exact List.mem_append_left _ hx)),
      trodAll_stays hl ht.2 h2 (fun x hx => hs x (by rw [e]; exact List.mem_append_right _ hx)) (fun x hx => hp x (by rw [e]; exact List.mem_append_right _ hx)), e⟩

/-- A law without named variables, by its walk: 'it returns true; the arguments read as they did'. -/
theorem law_lifted {C : Checked} {f : FuncId} {fn : Func} {s : ChangeSpec} {conds : List PathCond} (own : ownKnob C.prog.godebug = none) {os : Os} (started : os.Started) {H : Type} {enc : TypeId × Value → H} (noInit : C.prog.inits.idxOf? f = none) (hfn : C.prog.funcs[f]? = some fn)
    (witness : ∃ (w : World) (tape : Tape) (i : Input), w.os = os ∧ (w.forCall tape i).Shaped C.prog ∧ i.vars = [] ∧ Input.okWide C.prog (w.forCall tape i) .any w.heap.size f i ∧ s.pre6 enc C.prog fn conds false (w.forCall tape i).memory i.args ∧ ({} : Assume).holds C.prog (lone (Frame.enter C.prog f i.args .normal) [] (w.forCall tape i)))
    (hl : laidOutB C.prog = true) (hts : (fn.params.toList.all fun t => C.prog.readableRec t && decide (t < C.prog.types.size)) = true) {rt : TypeId} (hrt : fn.resultTypes = #[rt]) (hb : C.prog.underlying rt = some .bool)
    (hvars : s.vars = []) (hspec : ∀ ds : List (DataW H), ds.length = fn.params.size → (s.fn H ds).results = [.lit (.bool true)] ∧ (s.fn H ds).args = ds ∧ (s.fn H ds).vars = [])
    (walk : ∀ (W : World) (args : Array Value) (ds : List (DataW H)) (ps : List MemPlace), DataW.TrodAll enc C.prog W 0 (fun _ => true) true fn.params.toList args.toList ds ps → (∀ (j : Nat) t v, fn.params[j]? = some t → args[j]? = some v → ∃ base, Value.okWide C.prog W .any base t v) →
      Calls C.prog f args W fun e w' => e = .returned (.bool true) ∧ Keeps (fun _ => False) W w') :
    ReturnsInHanded {} C os f .any (s.pre6 enc C.prog fn conds false) (s.post enc C.prog fn false true false false) := by
  refine returnsInHanded_of_change (C := C) own started noInit hfn witness ?_
  intro W base args ds gs before hval hW hcnd _
  have hW' := hW
  obtain ⟨p, q, hA, hV, rfl, hfz, hnd⟩ := hW
  rw [hvars] at hV
  obtain ⟨rfl, rfl⟩ := trodVars_none hV
  simp only [List.append_nil] at hW'
  have hlen : ds.length = fn.params.size := by
    have : ∀ {ts : List TypeId} {vs : List Value} {ds : List (DataW H)} {ps : List MemPlace}, DataW.TrodAll enc C.prog W 0 (fun _ => true) true ts vs ds ps → ds.length = ts.length := by
      intro ts
      induction ts with
      | nil => intro vs ds ps h; obtain ⟨_, rfl, _⟩ := trodAll_nil h; rfl
      | cons t ts ih =>
        intro vs ds ps h
        obtain ⟨_, _, _, ds', _, _, _, rfl, _, _, h2⟩ := trodAll_cons h
        simp [ih h2]
    rw [this hA]; simp
  obtain ⟨s1, s2, s3⟩ := hspec (ds ++ []) (by simpa using hlen)
  refine (walk W args ds p hA fun j t v h1 h2 => ⟨base, hval j t v h1 h2⟩).mono fun e W' ⟨he, hg⟩ => ?_
  subst he
  refine ⟨_, rfl, post_of_keeps (pa := p) (pv := []) hW' (fun b sp hd => ?_) (fun sp hsp => ?_) (fun sp _ => ?_) (by simp) hg ?_⟩
  · rw [s1, hrt]
    exact trodAll_cons_mk (shut_bool hb _) trodAll_mk0
  · rw [s2, List.append_nil]
    have hlt := hW'.lt
    exact trodAll_stays hl hts hA (fun x hx => hg.below.same (by simpa using hlt x hx)) fun x hx => hsp x hx
  · rw [s3, hvars]; rfl
  · exact ok_one hrt rfl (okWide_bool_mk hb _)

theorem agg_of_cells {v : Value} {l : List Value} (h : v.cells.toList = l) (hl : l.length ≠ 1) : v = .agg l.toArray := by
  cases v with
  | agg cs => simp only [Value.cells] at h; rw [← h]
  | _ => simp only [Value.cells] at h; rw [← h] at hl; exact absurd rfl hl
theorem cells_of_one2 {v : Value} {x : Value} (hx : ∀ cs, v ≠ .agg cs) (h : v.cells.toList = [x]) : v = x := by
  cases v with
  | agg cs => exact absurd rfl (hx cs)
  | _ => simpa [Value.cells] using h
/-- A flat value read as data: its cells. -/
theorem flat_cells {H : Type} {enc : TypeId × Value → H} {P : Program} {w : World} {base : Nat} {spare : Nat → Bool} {held : Bool} {t : TypeId} {v : Value} {d : DataW H} {ps : List MemPlace} {ks : List FK} (n : Nat) (hfl : flat P n t = some ks) (hce : P.cellsOf t = ks.length) (h : DataW.Trod enc P w base spare held t v d ps) : FKs ks v.cells.toList := by
  obtain ⟨fuel, h⟩ := h
  exact flat_ok n hfl hce h
theorem flat_agg {H : Type} {enc : TypeId × Value → H} {P : Program} {w : World} {base : Nat} {spare : Nat → Bool} {held : Bool} {t : TypeId} {v : Value} {d : DataW H} {ps : List MemPlace} {ks : List FK} (n : Nat) (hfl : flat P n t = some ks) (hce : P.cellsOf t = ks.length) (hne : ks.length ≠ 1) (h : DataW.Trod enc P w base spare held t v d ps) : ∃ l, FKs ks l ∧ v = .agg l.toArray := by
  have h1 := flat_cells n hfl hce h
  exact ⟨_, h1, agg_of_cells rfl (by rw [h1.length]; exact hne)⟩
theorem RepL.ofV {π : Plc} : ∀ (l : List Value), RepL π (l.map .v) l
  | [] => RepL.nil π
  | x :: l => RepL.cons (by simp [Rep]) (RepL.ofV l)
end AE

namespace AE.Pr
open Go AE Go.Proofs Go.ChangeShapes Go.WideShapes Go.RowKit

theorem laidOut : laidOutB Try.prog = true := by kernel_rfl
theorem flatW : flat Try.prog 30 27 = some [.bool, .int .i64, .bool] := by kernel_rfl
theorem flatC : flat Try.prog 30 67 = some [.int .i64, .int .i64, .bool, .int .i64, .bool, .bool, .int .i64, .bool] := by kernel_rfl
theorem decW (cs : List Value) (h : FKs [.bool, .int .i64, .bool] cs) : ∃ w : W3, cs = [.bool w.1, .int .i64 w.2.1, .bool w.2.2] := by
  obtain ⟨_, _, rfl, ⟨a, rfl⟩, _, _, rfl, ⟨b, rfl, _⟩, _, _, rfl, ⟨c, rfl⟩, h⟩ := h
  cases h
  exact ⟨(a, b, c), rfl⟩
theorem decC (cs : List Value) (h : FKs [.int .i64, .int .i64, .bool, .int .i64, .bool, .bool, .int .i64, .bool] cs) : ∃ x : Cl, CC.enc .claim x = cs.map .v := by
  obtain ⟨_, _, rfl, ⟨a, rfl, _⟩, _, _, rfl, ⟨b, rfl, _⟩, _, _, rfl, ⟨c, rfl⟩, _, _, rfl, ⟨d, rfl, _⟩, _, _, rfl, ⟨e, rfl⟩, _, _, rfl, ⟨f, rfl⟩, _, _, rfl, ⟨g, rfl, _⟩, _, _, rfl, ⟨i, rfl⟩, h⟩ := h
  cases h
  exact ⟨(a, b, (c, d, e), (f, g, i)), rfl⟩

section
variable {H : Type} {enc : TypeId × Value → H} {w : World} {d : DataW H} {ps : List MemPlace} {v : Value}
theorem open_word (h : DataW.Trod enc Try.prog w 0 (fun _ => true) true 27 v d ps) : ∃ x : W3, ∀ π, Rep π (vW x) v := by
  obtain ⟨l, hl, rfl⟩ := flat_agg 30 flatW (by kernel_rfl) (by decide) h
  obtain ⟨x, rfl⟩ := decW l hl
  refine ⟨x, fun π => ?_⟩
  simp only [vW, Rep]
  exact ⟨_, rfl, RepL.cons (by simp [Rep]) (RepL.cons (by simp [Rep]) (RepL.cons (by simp [Rep]) (RepL.nil π)))⟩
set_option maxRecDepth 100000 in
theorem open_hearing (h : DataW.Trod enc Try.prog w 0 (fun _ => true) true 25 v d ps) :
    ∃ (x : HT) (p q : Place), bigH x ∧ (∀ π, BlkOk π w p (.ro (U := UU) .claim x.2.1)) ∧ (∀ π, BlkOk π w q (.ro (U := UU) .word x.2.2)) ∧ ∀ π : Plc, π 0 0 = some p → π 1 0 = some q → Rep π (vH x) v := by
  obtain ⟨fuel, h⟩ := h
  obtain ⟨xs, m, _, _, hl, hlen, hf⟩ := DataW.trod_struct Try.underlying25 h
  have hc : Try.prog.cellsOf 25 = 5 := by kernel_rfl
  have c3 : Try.prog.cellsOf 3 = 1 := by kernel_rfl
  have c22 : Try.prog.cellsOf 22 = 1 := by kernel_rfl
  have c23 : Try.prog.cellsOf 23 = 1 := by kernel_rfl
  have fl3 : flat Try.prog 30 3 = some [.int .i64] := by kernel_rfl
  rw [hc] at hl
  have hv := agg_of_cells (v := v) rfl (by omega)
  obtain ⟨l, hl2⟩ : ∃ l, v.cells.toList = l := ⟨_, rfl⟩
  rw [hl2] at hl hv hf
  subst hv
  have hx : ∀ i, i < 5 → ∃ y, xs[i]? = some y := fun i hi => ⟨_, List.getElem?_eq_getElem (by have : xs.length = 5 := hlen; omega)⟩
  match l, hl with
  | [a, b, c, e, g], _ =>
  obtain ⟨y0, e0⟩ := hx 0 (by omega)
  obtain ⟨y1, e1⟩ := hx 1 (by omega)
  obtain ⟨y2, e2⟩ := hx 2 (by omega)
  obtain ⟨y3, e3⟩ := hx 3 (by omega)
  obtain ⟨y4, e4⟩ := hx 4 (by omega)
  have f0 : DataW.trod enc Try.prog w 0 (fun _ => true) true m 3 (([a, b, c, e, g].drop 0).take (Try.prog.cellsOf 3)) = xs[0]? := hf 0 _ rfl
  have f1 : DataW.trod enc Try.prog w 0 (fun _ => true) true m 3 (([a, b, c, e, g].drop 1).take (Try.prog.cellsOf 3)) = xs[1]? := hf 1 _ rfl
  have f2 : DataW.trod enc Try.prog w 0 (fun _ => true) true m 3 (([a, b, c, e, g].drop 2).take (Try.prog.cellsOf 3)) = xs[2]? := hf 2 _ rfl
  have f3 : DataW.trod enc Try.prog w 0 (fun _ => true) true m 22 (([a, b, c, e, g].drop 3).take (Try.prog.cellsOf 22)) = xs[3]? := hf 3 _ rfl
  have f4 : DataW.trod enc Try.prog w 0 (fun _ => true) true m 23 (([a, b, c, e, g].drop 4).take (Try.prog.cellsOf 23)) = xs[4]? := hf 4 _ rfl
  rw [e0, c3] at f0
  rw [e1, c3] at f1
  rw [e2, c3] at f2
  rw [e3, c22] at f3
  rw [e4, c23] at f4
  obtain ⟨_, _, h0, ⟨n0, rfl, _⟩, r0⟩ := flat_ok 30 fl3 c3 f0
  obtain ⟨_, _, h1, ⟨n1, rfl, _⟩, r1⟩ := flat_ok 30 fl3 c3 f1
  obtain ⟨_, _, h2, ⟨n2, rfl, _⟩, r2⟩ := flat_ok 30 fl3 c3 f2
  have h0' : a = .int .i64 n0 := (List.cons.inj h0).1
  have h1' : b = .int .i64 n1 := (List.cons.inj h1).1
  have h2' : c = .int .i64 n2 := (List.cons.inj h2).1
  obtain ⟨cs, p, hcs, hp, hpr⟩ := row_of_trod (U := UU) CC.claim Try.underlying22 flatC (by kernel_rfl) rfl (by decide) decC f3
  obtain ⟨ks, q, hks, hq, hqr⟩ := row_of_trod (U := UU) CC.word Try.underlying23 flatW (by kernel_rfl) rfl (by decide) (fun cs h => by
    obtain ⟨x, rfl⟩ := decW cs h
    exact ⟨x, rfl⟩) f4
  refine ⟨((n0, n1, n2), cs, ks), p, q, ⟨hcs, hks⟩, hp, hq, fun π h3 h4 => ?_⟩
  subst h0' h1' h2'
  simp only [vH, Rep]
  exact ⟨_, rfl, RepL.cons (by simp [Rep]) (RepL.cons (by simp [Rep]) (RepL.cons (by simp [Rep]) (RepL.cons (hpr π 0 0 h3) (RepL.cons (hqr π 1 0 h4) (RepL.nil π)))))⟩
end
theorem own_hH (x : HT) : hH x = roH (U := UU) [⟨CC.claim, x.2.1⟩, ⟨CC.word, x.2.2⟩] := rfl
/-- A law that takes a hearing and more: its walk. -/
theorem walk_of {f : FuncId} {W : World} {args : Array Value} {x : HT} {p q : Place} {al : List AV} (h : FunOk Try.prog f al (hH x) (.val ⟨.b true, [], [], []⟩)) (hp : ∀ π, BlkOk π W p (.ro (U := UU) .claim x.2.1)) (hq : ∀ π, BlkOk π W q (.ro (U := UU) .word x.2.2))
    (hr : RepL (rosPlc [p, q]) al args.toList) : Calls Try.prog f args W fun e w' => e = .returned (.bool true) ∧ Keeps (fun _ => False) W w' := by
  have hc : Conc (rosPlc [p, q]) (hH x) W := roH_conc (U := UU) (bs := [⟨CC.claim, x.2.1⟩, ⟨CC.word, x.2.2⟩]) rfl fun i b p' hb hp' π => by
    match i with
    | 0 => cases hb; cases hp'; exact hp π
    | 1 => cases hb; cases hp'; exact hq π
    | i + 2 => cases hb
  have hF := h (rosPlc [p, q]) W args.toList (rosPlc_fresh [p, q]) hc hr
  refine hF.mono fun e w' hh => ?_
  obtain ⟨v, πn, rfl, hpo⟩ := hh
  have hb := rep_v hpo.rep
  subst hb
  refine ⟨rfl, hpo.keeps.weaken fun n _ hn => ?_⟩
  obtain ⟨id, k, p, b0, hu, _⟩ := hn
  rcases hu with ⟨b, hb⟩ | hb <;> cases hb
end AE.Pr
