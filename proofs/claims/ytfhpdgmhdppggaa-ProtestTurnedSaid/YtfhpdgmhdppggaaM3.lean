/- An own symbolic executor for the model's code, and what the functions beneath the law compute, joined out of: PrA, PrB, PrM, PrC, PrN, PrD, PrE0, PrF, PrG, PrH, PsA, PsB, PsC. No condition. -/
import Derived.Test.YtfhpdgmhdppggaaM2
import Derived.IntWalk

namespace AE.Pr
open Go AE Go.Proofs

theorem hmix : Try.prog.follows .mixedOrders = true := by kernel_rfl
theorem wrap_id {x : Int} (h1 : -9223372036854775808 ≤ x) (h2 : x ≤ 9223372036854775807) : IntKind.i64.wrap x = x := IntWalk.i64_in x ⟨h1, h2⟩
abbrev W (x : Int) : Int := IntKind.wrap IntKind.i64 x

/-! ### reading arguments -/
def avU : AV → Option Int
  | .v (.int .u64 n) => some n
  | _ => none
def avW : AV → Option W3
  | .agg [a, b, c] => match avBool a, avInt b, avBool c with
    | some a, some b, some c => some (a, b, c)
    | _, _, _ => none
  | _ => none
def vW (w : W3) : AV := .agg [.b w.1, .i w.2.1, .b w.2.2]
def vT (t : Int × Int) : AV := .agg [AV.u t.1, AV.u t.2]
def avT : AV → Option (Int × Int)
  | .agg [a, b] => match avU a, avU b with
    | some a, some b => some (a, b)
    | _, _ => none
  | _ => none
def sliceAt (c : CC) (H : Heap UU) : AV → Option (List (c.ty))
  | .v (.slice none 0 0) => some []
  | .gs id k => rowAt (U := UU) c H id k
  | .sl id k _ _ => match Nat.beq id noId with
    | true => some []
    | false => rowAt (U := UU) c H id k
  | _ => none

/-! ### within -/
def inM (n lo hi : Int) : Bool := decide (lo ≤ n) && decide (n ≤ hi)
def withinS : FSpec UU where
  X := Int × Int × Int
  pick := fun args _ => match args with
    | [a, b, c] => match avInt a, avInt b, avInt c with
      | some a, some b, some c => some (a, b, c)
      | _, _, _ => none
    | _ => none
  args := fun x => [.i x.1, .i x.2.1, .i x.2.2]
  H := fun _ => []
  R := fun x => .val ⟨.b (inM x.1 x.2.1 x.2.2), [], [], []⟩
theorem within_ok : ∀ x, withinS.pre x → FunOk Try.prog 86 (withinS.args x) (withinS.H x) (withinS.R x) := by
  rintro ⟨n, lo, hi⟩ _
  refine fun_of (T := []) (L := fun _ => none) (hs := fun _ => []) hmix .nil Try.func86 (by kernel_rfl) (by kernel_rfl) ?_
  refine Eq.mp (α :=
      let Z0 := Value.bool (inM n lo hi); let Z2 := decide (lo ≤ n); (Z2 = true → True ∧ (Value.bool (decide (n ≤ hi)) = Z0 ∧ True) ∧ True ∧ True) ∧ (Z2 = false → True ∧ (Z0 = Value.bool false ∧ True) ∧ True ∧ True))
    (by kernel_rfl) ?_
  simp only [inM]
  simp +contextual
  omega

theorem within_sound : Sound Try.prog 86 withinS.con := FSpec.sound _ (enter_of Try.func86 (by kernel_rfl) (by kernel_rfl)) within_ok

/-! ### need -/
def failV (e : Int) : AV := .ifc 112 (.agg [.i e])
def needS : FSpec2 UU where
  X := Bool × Int
  pick := fun args _ => match args with
    | [a, b] => match avBool a, avInt b with
      | some a, some b => some (a, b)
      | _, _ => none
    | _ => none
  args := fun x => [.v (.bool x.1), .i x.2]
  H := fun _ => []
  c := fun x => x.1
  R := fun _ => .val ⟨.tup [], [], [], []⟩
  R' := fun x => .panic (failV x.2)
set_option maxRecDepth 100000 in
theorem need_ok1 : ∀ x, needS.pre x → needS.c x = true → FunOk Try.prog 68 (needS.args x) (needS.H x) (needS.R x) := by
  rintro ⟨b, e⟩ _ hb
  refine fun_of (T := []) (L := fun _ => none) (hs := fun _ => []) hmix .nil Try.func68 (by kernel_rfl) (by kernel_rfl) ?_
  refine Eq.mp (α :=
      ((!b) = true → False) ∧ ((!b) = false → True ∧ (True ∧ True) ∧ True ∧ True))
    (by kernel_rfl) ?_
  simp only [needS] at hb
  simp [hb]

set_option maxRecDepth 100000 in
theorem need_ok2 : ∀ x, needS.pre x → needS.c x = false → FunOk Try.prog 68 (needS.args x) (needS.H x) (needS.R' x) := by
  rintro ⟨b, e⟩ _ hb
  refine fun_of (T := []) (L := fun _ => none) (hs := fun _ => []) hmix .nil Try.func68 (by kernel_rfl) (by kernel_rfl) ?_
  refine Eq.mp (α :=
      ((!b) = true → True ∧ nat_lit 112 = (112 : TypeId) ∧ Value.int IntKind.i64 e = Value.int IntKind.i64 e ∧ True) ∧ ((!b) = false → False))
    (by kernel_rfl) ?_
  simp only [needS] at hb
  simp [hb]

theorem need_sound : Sound Try.prog 68 needS.con := FSpec2.sound _ (enter_of Try.func68 (by kernel_rfl) (by kernel_rfl)) fun x h => ⟨need_ok1 x h, need_ok2 x h⟩

/-! ### caught -/
def caughtS : FSpec UU where
  X := Option Int × Int
  pick := fun args H => match args with
    | [a, .ptr id 0 0 0] => match blkAt H id 0 with
      | some (.cells [o] _) => match avInt o with
        | some o => match a with
          | .v .nilIface => some (none, o)
          | .ifc _ (.agg [e]) => match avInt e with
            | some e => some (some e, o)
            | none => none
          | _ => none
        | none => none
      | _ => none
    | _ => none
  args := fun x => match x.1 with
    | none => [.v .nilIface, .ptr 0 0 0 0]
    | some e => [failV e, .ptr 0 0 0 0]
  H := fun x => [.one (.cells [.i x.2] 30)]
  R := fun x => match x.1 with
    | none => .val ⟨.tup [], [(0, 0, .cells [.i x.2] 30)], [], []⟩
    | some e => .val ⟨.tup [], [(0, 0, .cells [.i e] 30)], [], []⟩
set_option maxRecDepth 100000 in
theorem caught_ok1 (o : Int) : FunOk Try.prog 48 (caughtS.args (none, o)) (caughtS.H (none, o)) (caughtS.R (none, o)) := by
  refine fun_of (T := []) (L := fun _ => none) (hs := fun _ => []) hmix .nil Try.func48 (by kernel_rfl) (by kernel_rfl) ?_
  refine Eq.mp (α :=
      (true = true → True ∧ (True ∧ True) ∧ True ∧ (Value.int IntKind.i64 o = Value.int IntKind.i64 o ∧ True) ∧ True) ∧ (true = false → False))
    (by kernel_rfl) ?_
  simp

set_option maxRecDepth 100000 in
theorem caught_ok2 (e o : Int) : FunOk Try.prog 48 (caughtS.args (some e, o)) (caughtS.H (some e, o)) (caughtS.R (some e, o)) := by
  refine fun_of (T := []) (L := fun _ => none) (hs := fun _ => []) hmix .nil Try.func48 (by kernel_rfl) (by kernel_rfl) ?_
  refine Eq.mp (α :=
      True ∧ (True ∧ True) ∧ True ∧ (Value.int IntKind.i64 e = Value.int IntKind.i64 e ∧ True) ∧ True)
    (by kernel_rfl) ?_
  simp

theorem caught_sound : Sound Try.prog 48 caughtS.con := FSpec.sound _ (enter_of Try.func48 (by kernel_rfl) (by kernel_rfl)) fun x _ => match x with
  | (none, o) => caught_ok1 o
  | (some e, o) => caught_ok2 e o

theorem enter48 : ∀ args w, (callFunc 48 args).run Try.prog w = .ok (.enter 48 args) w := enter_of Try.func48 (by kernel_rfl) (by kernel_rfl)
theorem told47 : ToldOk Try.prog 47 48 := told_of Try.func47 (enter_of Try.func47 (by kernel_rfl) (by kernel_rfl)) enter48 rfl rfl rfl rfl rfl rfl rfl rfl
theorem told53 : ToldOk Try.prog 53 48 := told_of Try.func53 (enter_of Try.func53 (by kernel_rfl) (by kernel_rfl)) enter48 rfl rfl rfl rfl rfl rfl rfl rfl
theorem told59 : ToldOk Try.prog 59 48 := told_of Try.func59 (enter_of Try.func59 (by kernel_rfl) (by kernel_rfl)) enter48 rfl rfl rfl rfl rfl rfl rfl rfl
theorem told61 : ToldOk Try.prog 61 48 := told_of Try.func61 (enter_of Try.func61 (by kernel_rfl) (by kernel_rfl)) enter48 rfl rfl rfl rfl rfl rfl rfl rfl
theorem told64 : ToldOk Try.prog 64 48 := told_of Try.func64 (enter_of Try.func64 (by kernel_rfl) (by kernel_rfl)) enter48 rfl rfl rfl rfl rfl rfl rfl rfl
theorem told70 : ToldOk Try.prog 70 48 := told_of Try.func70 (enter_of Try.func70 (by kernel_rfl) (by kernel_rfl)) enter48 rfl rfl rfl rfl rfl rfl rfl rfl
def toldL (n : Nat) (k : Nat) : Option FuncId := match Nat.beq n k with
  | true => some 48
  | false => none
theorem toldL_ok {n : Nat} (h : ToldOk Try.prog n 48) : ∀ k f, toldL n k = some f → ToldOk Try.prog k f := by
  intro k f hk
  unfold toldL at hk
  split at hk
  · rename_i e; have := Nat.eq_of_beq_eq_true e; subst this; cases hk; exact h
  · cases hk

/-! ### has, size -/
def hasM (a n : Int) : Bool := a.toNat.testBit n.toNat
def hasS : FSpec UU where
  X := Int × Int
  pick := fun args _ => match args with
    | [a, b] => match avU a, avInt b with
      | some a, some b => some (a, b)
      | _, _ => none
    | _ => none
  args := fun x => [AV.u x.1, .i x.2]
  H := fun _ => []
  R := fun x => .val ⟨.b (hasM x.1 x.2), [], [], []⟩
  pre := fun x => 0 ≤ x.1 ∧ x.1 < 64 ∧ 0 ≤ x.2 ∧ x.2 < 64
theorem has_math (a n : Int) (h : 0 ≤ a ∧ a < 64 ∧ 0 ≤ n ∧ n < 64) : (IntKind.u64.wrap (BitVec.ofInt 64 (a.fdiv (2 ^ min n.toNat 64)) &&& BitVec.ofInt 64 1).toNat == 1) = hasM a n := by
  obtain ⟨h1, h2, h3, h4⟩ := h
  obtain ⟨a, rfl⟩ := Int.eq_ofNat_of_zero_le h1
  obtain ⟨n, rfl⟩ := Int.eq_ofNat_of_zero_le h3
  have hn : min (Int.toNat (n : Int)) 64 = n := by simp; omega
  rw [hn]
  have hd : ((a : Int).fdiv (2 ^ n)) = ((a / 2 ^ n : Nat) : Int) := by
    rw [Int.fdiv_eq_ediv_of_nonneg _ (by exact_mod_cast Nat.zero_le _)]; simp
  rw [hd]
  simp only [hasM, Int.toNat_natCast]
  have hlt : a / 2 ^ n < 64 := Nat.lt_of_le_of_lt (Nat.div_le_self _ _) (by omega)
  have ht : a.testBit n = decide (a / 2 ^ n % 2 = 1) := by rw [Nat.testBit_eq_decide_div_mod_eq]
  rw [ht]
  generalize a / 2 ^ n = m at hlt
  have : ∀ m : Fin 64, (IntKind.u64.wrap (BitVec.ofInt 64 ((m.val : Nat) : Int) &&& BitVec.ofInt 64 1).toNat == 1) = decide (m.val % 2 = 1) := by decide +kernel
  exact this ⟨m, hlt⟩

set_option maxRecDepth 100000 in
theorem has_ok : ∀ x, hasS.pre x → FunOk Try.prog 83 (hasS.args x) (hasS.H x) (hasS.R x) := by
  rintro ⟨a, n⟩ h
  refine fun_of (T := []) (L := fun _ => none) (hs := fun _ => []) hmix .nil Try.func83 (by kernel_rfl) (by kernel_rfl) ?_
  refine Eq.mp (α :=
      let Z0 := (1 : Int); (0 : Int) ≤ n ∧ True ∧ (Value.bool (IntKind.wrap IntKind.u64 (↑(BitVec.toNat (BitVec.ofInt (nat_lit 64) (Int.fdiv a ((2 : Int) ^ min (Int.toNat n) (nat_lit 64))) &&& BitVec.ofInt (nat_lit 64) Z0)) : Int) == Z0) = Value.bool (hasM a n) ∧ True) ∧ True ∧ True)
    (by kernel_rfl) ?_
  exact ⟨h.2.2.1, trivial, ⟨congrArg Value.bool (has_math a n h), trivial⟩, trivial, trivial⟩

theorem has_sound : Sound Try.prog 83 hasS.con := FSpec.sound _ (enter_of Try.func83 (by kernel_rfl) (by kernel_rfl)) has_ok

set_option maxRecDepth 100000 in
theorem hasF_ok : ∀ x, hasS.pre x → FunOk Try.prog 87 (hasS.args x) (hasS.H x) (hasS.R x) := by
  rintro ⟨a, n⟩ h
  refine fun_of (T := []) (L := fun _ => none) (hs := fun _ => []) hmix .nil Try.func87 (by kernel_rfl) (by kernel_rfl) ?_
  refine Eq.mp (α :=
      let Z0 := (1 : Int); (0 : Int) ≤ n ∧ True ∧ (Value.bool (IntKind.wrap IntKind.u64 (↑(BitVec.toNat (BitVec.ofInt (nat_lit 64) (Int.fdiv a ((2 : Int) ^ min (Int.toNat n) (nat_lit 64))) &&& BitVec.ofInt (nat_lit 64) Z0)) : Int) == Z0) = Value.bool (hasM a n) ∧ True) ∧ True ∧ True)
    (by kernel_rfl) ?_
  exact ⟨h.2.2.1, trivial, ⟨congrArg Value.bool (has_math a n h), trivial⟩, trivial, trivial⟩

theorem hasF_sound : Sound Try.prog 87 hasS.con := FSpec.sound _ (enter_of Try.func87 (by kernel_rfl) (by kernel_rfl)) hasF_ok

/-- How many are in a set. -/
def popM (a : Int) : Int := ((List.range 6).filter fun i => a.toNat.testBit i).length
def popS : FSpec UU where
  X := Int
  pick := fun args _ => match args with
    | [a] => avU a
    | _ => none
  args := fun x => [AV.u x]
  H := fun _ => []
  R := fun x => .val ⟨.i (popM x), [], [], []⟩
  pre := fun (x : Int) => 0 ≤ x ∧ x < 64
set_option maxRecDepth 100000 in
theorem ones64_ok : ∀ x, popS.pre x → FunOk Try.prog 95 (popS.args x) (popS.H x) (popS.R x) := by
  intro (x : Int) h
  refine fun_of (T := []) (L := fun _ => none) (hs := fun _ => []) hmix .nil Try.func95 (by kernel_rfl) (by kernel_rfl) ?_
  refine Eq.mp (α :=
      let Z1 := (0 : Int); let Z2 := (2 : Int); let Z3 := (3689348814741910323 : Int); let Z4 := (6148914691236517205 : Int); let Z25 := IntKind.wrap IntKind.u64 (IntKind.wrap IntKind.u64 (↑(BitVec.toNat (BitVec.ofInt (nat_lit 64) (Int.fdiv x (Z2 ^ nat_lit 1)) &&& BitVec.ofInt (nat_lit 64) Z4)) : Int) + IntKind.wrap IntKind.u64 (↑(BitVec.toNat (BitVec.ofInt (nat_lit 64) x &&& BitVec.ofInt (nat_lit 64) Z4)) : Int)); let Z38 := IntKind.wrap IntKind.u64 (IntKind.wrap IntKind.u64 (↑(BitVec.toNat (BitVec.ofInt (nat_lit 64) (Int.fdiv Z25 (Z2 ^ nat_lit 2)) &&& BitVec.ofInt (nat_lit 64) Z3)) : Int) + IntKind.wrap IntKind.u64 (↑(BitVec.toNat (BitVec.ofInt (nat_lit 64) Z25 &&& BitVec.ofInt (nat_lit 64) Z3)) : Int)); let Z46 := IntKind.wrap IntKind.u64 (↑(BitVec.toNat (BitVec.ofInt (nat_lit 64) (IntKind.wrap IntKind.u64 (Int.fdiv Z38 (Z2 ^ nat_lit 4) + Z38)) &&& BitVec.ofInt (nat_lit 64) (1085102592571150095 : Int))) : Int); let Z49 := IntKind.wrap IntKind.u64 (Z46 + Int.fdiv Z46 (Z2 ^ nat_lit 8)); let Z52 := IntKind.wrap IntKind.u64 (Z49 + Int.fdiv Z49 (Z2 ^ nat_lit 16)); Z1 ≤ (1 : Int) ∧ Z1 ≤ Z2 ∧ Z1 ≤ (4 : Int) ∧ Z1 ≤ (8 : Int) ∧ Z1 ≤ (16 : Int) ∧ Z1 ≤ (32 : Int) ∧ True ∧ (Value.int IntKind.i64 (IntKind.wrap IntKind.i64 (↑(BitVec.toNat (BitVec.ofInt (nat_lit 64) (IntKind.wrap IntKind.i64 (IntKind.wrap IntKind.u64 (Z52 + Int.fdiv Z52 (Z2 ^ nat_lit 32)))) &&& BitVec.ofInt (nat_lit 64) (127 : Int))) : Int)) = Value.int IntKind.i64 (popM x) ∧ True) ∧ True ∧ True)
    (by kernel_rfl) ?_
  simp only [popS] at h
  refine ⟨by decide, by decide, by decide, by decide, by decide, by decide, trivial, ⟨congrArg (Value.int .i64) ?_, trivial⟩, trivial, trivial⟩
  obtain ⟨m, rfl⟩ := Int.eq_ofNat_of_zero_le h.1
  have hm : m < 64 := by omega
  clear h
  revert m
  decide +kernel

theorem ones64_sound : Sound Try.prog 95 popS.con := FSpec.sound _ (enter_of Try.func95 (by kernel_rfl) (by kernel_rfl)) ones64_ok
def Tones64 : Tab UU := [(95, popS.con)]
theorem Tones64_ok : Tones64.Sound Try.prog := .cons ones64_sound .nil
set_option maxRecDepth 100000 in
theorem ones_ok : ∀ x, popS.pre x → FunOk Try.prog 88 (popS.args x) (popS.H x) (popS.R x) := by
  intro (x : Int) h
  refine fun_of (T := Tones64) (L := fun _ => none) (hs := fun _ => []) hmix Tones64_ok Try.func88 (by kernel_rfl) (by kernel_rfl) ?_
  refine Eq.mp (α :=
      let Z0 := Value.int IntKind.i64 (popM x); ((0 : Int) ≤ x ∧ x < (64 : Int)) ∧ (Value.int IntKind.u64 x = Value.int IntKind.u64 x ∧ True) ∧ True ∧ True ∧ (Z0 = Z0 ∧ True) ∧ True ∧ True)
    (by kernel_rfl) ?_
  simp only [popS] at h
  simpa using h

theorem ones_sound : Sound Try.prog 88 popS.con := FSpec.sound _ (enter_of Try.func88 (by kernel_rfl) (by kernel_rfl)) ones_ok
def Tones : Tab UU := [(88, popS.con)]
theorem Tones_ok : Tones.Sound Try.prog := .cons ones_sound .nil
set_option maxRecDepth 100000 in
theorem size_ok : ∀ x, popS.pre x → FunOk Try.prog 60 (popS.args x) (popS.H x) (popS.R x) := by
  intro (x : Int) h
  refine fun_of (T := Tones) (L := fun _ => none) (hs := fun _ => []) hmix Tones_ok Try.func60 (by kernel_rfl) (by kernel_rfl) ?_
  refine Eq.mp (α :=
      let Z0 := Value.int IntKind.i64 (popM x); ((0 : Int) ≤ x ∧ x < (64 : Int)) ∧ (Value.int IntKind.u64 x = Value.int IntKind.u64 x ∧ True) ∧ True ∧ True ∧ (Z0 = Z0 ∧ True) ∧ True ∧ True)
    (by kernel_rfl) ?_
  simp only [popS] at h
  simpa using h

theorem size_sound : Sound Try.prog 60 popS.con := FSpec.sound _ (enter_of Try.func60 (by kernel_rfl) (by kernel_rfl)) size_ok

/-! ### words -/
def rightM (t : Int × Int) (w : W3) : Bool := (if w.1 then !hasM t.2 w.2.1 else hasM t.1 w.2.1) != w.2.2
def okT (t : Int × Int) : Prop := (0 ≤ t.1 ∧ t.1 < 64) ∧ 0 ≤ t.2 ∧ t.2 < 64
def okW (w : W3) : Prop := 0 ≤ w.2.1 ∧ w.2.1 < 6
def rightS : FSpec UU where
  X := (Int × Int) × W3
  pick := fun args _ => match args with
    | [a, b] => match avT a, avW b with
      | some a, some b => some (a, b)
      | _, _ => none
    | _ => none
  args := fun x => [vT x.1, vW x.2]
  H := fun _ => []
  R := fun x => .val ⟨.b (rightM x.1 x.2), [], [], []⟩
  pre := fun x => okT x.1 ∧ okW x.2
def Thas : Tab UU := [(87, hasS.con), (83, hasS.con)]
theorem Thas_ok : Thas.Sound Try.prog := .cons hasF_sound (.cons has_sound .nil)
set_option maxRecDepth 100000 in
theorem right_ok : ∀ x, rightS.pre x → FunOk Try.prog 56 (rightS.args x) (rightS.H x) (rightS.R x) := by
  rintro ⟨⟨f, l⟩, ⟨p, n, x⟩⟩ h
  refine fun_of (T := Thas) (L := fun _ => none) (hs := fun _ => []) hmix Thas_ok Try.func56 (by kernel_rfl) (by kernel_rfl) ?_
  refine Eq.mp (α :=
      let Z0 := Value.int IntKind.i64 n; let Z1 := (0 : Int); let Z2 := (64 : Int); let Z4 := Z1 ≤ n; let Z5 := n < Z2; let Z8 := rightM (f, l) (p, n, x); (Z1 ≤ f ∧ f < Z2 ∧ Z4 ∧ Z5) ∧ (Value.int IntKind.u64 f = Value.int IntKind.u64 f ∧ Z0 = Z0 ∧ True) ∧ True ∧ (p = true → (Z1 ≤ l ∧ l < Z2 ∧ Z4 ∧ Z5) ∧ (Value.int IntKind.u64 l = Value.int IntKind.u64 l ∧ Z0 = Z0 ∧ True) ∧ True ∧ True ∧ ((Value.bool !(!hasM l n) == x) = Value.bool Z8 ∧ True) ∧ True ∧ True) ∧ (p = false → True ∧ ((Value.bool !hasM f n == x) = Value.bool Z8 ∧ True) ∧ True ∧ True))
    (by kernel_rfl) ?_
  simp only [rightS, okT, okW] at h
  simp [rightM]
  refine ⟨by omega, fun hp => ⟨by omega, ?_⟩, fun hp => ?_⟩
  · rw [if_pos hp]; generalize hasM l n = a; cases a <;> cases x <;> rfl
  · rw [if_neg (by simp [hp])]; generalize hasM f n = a; cases a <;> cases x <;> rfl

theorem right_sound : Sound Try.prog 56 rightS.con := FSpec.sound _ (enter_of Try.func56 (by kernel_rfl) (by kernel_rfl)) right_ok

/-! ### claims -/
def vPair (a b : W3) : AV := .agg [.b a.1, .i a.2.1, .b a.2.2, .b b.1, .i b.2.1, .b b.2.2]
def avPair : AV → Option (W3 × W3)
  | .agg [a, b, c, d, e, f] => match avBool a, avInt b, avBool c, avBool d, avInt e, avBool f with
    | some a, some b, some c, some d, some e, some f => some ((a, b, c), (d, e, f))
    | _, _, _, _, _, _ => none
  | _ => none
def pairS (R : W3 → W3 → Int × Int → AV) : FSpec UU where
  X := (W3 × W3) × (Int × Int)
  pick := fun args _ => match args with
    | [a, b] => match avPair a, avT b with
      | some a, some b => some (a, b)
      | _, _ => none
    | _ => none
  args := fun x => [vPair x.1.1 x.1.2, vT x.2]
  H := fun _ => []
  R := fun x => .val ⟨R x.1.1 x.1.2 x.2, [], [], []⟩
  pre := fun x => okT x.2 ∧ okW x.1.1 ∧ okW x.1.2
def bothV (a b : W3) (t : Int × Int) : AV := .tup [.b (rightM t a), .b (rightM t b)]
def orV (a b : W3) (t : Int × Int) : AV := .b (rightM t a || rightM t b)
def whenV (a b : W3) (t : Int × Int) : AV := .b (!rightM t a || rightM t b)
def Tright : Tab UU := [(56, rightS.con)]
theorem Tright_ok : Tright.Sound Try.prog := .cons right_sound .nil
set_option maxRecDepth 100000 in
theorem both_ok : ∀ x, (pairS bothV).pre x → FunOk Try.prog 114 ((pairS bothV).args x) ((pairS bothV).H x) ((pairS bothV).R x) := by
  rintro ⟨⟨⟨p, n, x⟩, ⟨p', n', x'⟩⟩, ⟨f, l⟩⟩ h
  refine fun_of (T := Tright) (L := fun _ => none) (hs := fun _ => []) hmix Tright_ok Try.func114 (by kernel_rfl) (by kernel_rfl) ?_
  refine Eq.mp (α :=
      let Z0 := (f, l); let Z1 := Value.int IntKind.u64 l; let Z2 := Value.int IntKind.u64 f; let Z3 := (6 : Int); let Z4 := (0 : Int); let Z5 := (64 : Int); let Z6 := (p', n', x'); let Z7 := (p, n, x); let Z8 := Z4 ≤ f; let Z9 := Z4 ≤ l; let Z12 := l < Z5; let Z13 := f < Z5; (((Z8 ∧ Z13) ∧ Z9 ∧ Z12) ∧ Z4 ≤ n ∧ n < Z3) ∧ ((Z2 = Z2 ∧ Z1 = Z1 ∧ True) ∧ (Value.bool p = Value.bool p ∧ Value.int IntKind.i64 n = Value.int IntKind.i64 n ∧ Value.bool x = Value.bool x ∧ True) ∧ True) ∧ True ∧ (((Z8 ∧ Z13) ∧ Z9 ∧ Z12) ∧ Z4 ≤ n' ∧ n' < Z3) ∧ ((Z2 = Z2 ∧ Z1 = Z1 ∧ True) ∧ (Value.bool p' = Value.bool p' ∧ Value.int IntKind.i64 n' = Value.int IntKind.i64 n' ∧ Value.bool x' = Value.bool x' ∧ True) ∧ True) ∧ True ∧ True ∧ ((Value.bool (rightM Z0 Z7) = Value.bool (rightM Z0 Z7) ∧ Value.bool (rightM Z0 Z6) = Value.bool (rightM Z0 Z6) ∧ True) ∧ True) ∧ True ∧ True)
    (by kernel_rfl) ?_
  simp only [pairS, okT, okW] at h
  simp [bothV]
  omega

theorem both_sound : Sound Try.prog 114 (pairS bothV).con := FSpec.sound _ (enter_of Try.func114 (by kernel_rfl) (by kernel_rfl)) both_ok
def Tboth : Tab UU := [(114, (pairS bothV).con)]
theorem Tboth_ok : Tboth.Sound Try.prog := .cons both_sound .nil
set_option maxRecDepth 100000 in
theorem or_ok : ∀ x, (pairS orV).pre x → FunOk Try.prog 115 ((pairS orV).args x) ((pairS orV).H x) ((pairS orV).R x) := by
  rintro ⟨⟨⟨p, n, x⟩, ⟨p', n', x'⟩⟩, ⟨f, l⟩⟩ h
  refine fun_of (T := Tboth) (L := fun _ => none) (hs := fun _ => []) hmix Tboth_ok Try.func115 (by kernel_rfl) (by kernel_rfl) ?_
  refine Eq.mp (α :=
      let Z0 := (f, l); let Z3 := (0 : Int); let Z4 := (6 : Int); let Z5 := (64 : Int); let Z8 := rightM Z0 (p, n, x); let Z9 := rightM Z0 (p', n', x'); (((Z3 ≤ f ∧ f < Z5) ∧ Z3 ≤ l ∧ l < Z5) ∧ (Z3 ≤ n ∧ n < Z4) ∧ Z3 ≤ n' ∧ n' < Z4) ∧ ((Value.bool p = Value.bool p ∧ Value.int IntKind.i64 n = Value.int IntKind.i64 n ∧ Value.bool x = Value.bool x ∧ Value.bool p' = Value.bool p' ∧ Value.int IntKind.i64 n' = Value.int IntKind.i64 n' ∧ Value.bool x' = Value.bool x' ∧ True) ∧ (Value.int IntKind.u64 f = Value.int IntKind.u64 f ∧ Value.int IntKind.u64 l = Value.int IntKind.u64 l ∧ True) ∧ True) ∧ True ∧ (Z8 = true → True ∧ (Value.bool (Z8 || Z9) = Value.bool true ∧ True) ∧ True ∧ True) ∧ (Z8 = false → True ∧ (Value.bool Z9 = Value.bool (Z8 || Z9) ∧ True) ∧ True ∧ True))
    (by kernel_rfl) ?_
  refine ⟨h, by simp, trivial, fun h1 => ?_, fun h1 => ?_⟩ <;> simp [h1]

theorem or_sound : Sound Try.prog 115 (pairS orV).con := FSpec.sound _ (enter_of Try.func115 (by kernel_rfl) (by kernel_rfl)) or_ok
set_option maxRecDepth 100000 in
theorem when_ok : ∀ x, (pairS whenV).pre x → FunOk Try.prog 116 ((pairS whenV).args x) ((pairS whenV).H x) ((pairS whenV).R x) := by
  rintro ⟨⟨⟨p, n, x⟩, ⟨p', n', x'⟩⟩, ⟨f, l⟩⟩ h
  refine fun_of (T := Tboth) (L := fun _ => none) (hs := fun _ => []) hmix Tboth_ok Try.func116 (by kernel_rfl) (by kernel_rfl) ?_
  refine Eq.mp (α :=
      let Z0 := (f, l); let Z3 := (0 : Int); let Z4 := (6 : Int); let Z5 := (64 : Int); let Z9 := rightM Z0 (p', n', x'); let Z10 := !rightM Z0 (p, n, x); (((Z3 ≤ f ∧ f < Z5) ∧ Z3 ≤ l ∧ l < Z5) ∧ (Z3 ≤ n ∧ n < Z4) ∧ Z3 ≤ n' ∧ n' < Z4) ∧ ((Value.bool p = Value.bool p ∧ Value.int IntKind.i64 n = Value.int IntKind.i64 n ∧ Value.bool x = Value.bool x ∧ Value.bool p' = Value.bool p' ∧ Value.int IntKind.i64 n' = Value.int IntKind.i64 n' ∧ Value.bool x' = Value.bool x' ∧ True) ∧ (Value.int IntKind.u64 f = Value.int IntKind.u64 f ∧ Value.int IntKind.u64 l = Value.int IntKind.u64 l ∧ True) ∧ True) ∧ True ∧ (Z10 = true → True ∧ (Value.bool (Z10 || Z9) = Value.bool true ∧ True) ∧ True ∧ True) ∧ (Z10 = false → True ∧ (Value.bool Z9 = Value.bool (Z10 || Z9) ∧ True) ∧ True ∧ True))
    (by kernel_rfl) ?_
  refine ⟨h, by simp, trivial, fun h1 => ?_, fun h1 => ?_⟩ <;> simp at h1 <;> simp [h1]

theorem when_sound : Sound Try.prog 116 (pairS whenV).con := FSpec.sound _ (enter_of Try.func116 (by kernel_rfl) (by kernel_rfl)) when_ok
def isS : FSpec UU where
  X := W3 × (Int × Int)
  pick := fun args _ => match args with
    | [a, b] => match avW a, avT b with
      | some a, some b => some (a, b)
      | _, _ => none
    | _ => none
  args := fun x => [vW x.1, vT x.2]
  H := fun _ => []
  R := fun x => .val ⟨.b (rightM x.2 x.1), [], [], []⟩
  pre := fun x => okT x.2 ∧ okW x.1
set_option maxRecDepth 100000 in
theorem is_ok : ∀ x, isS.pre x → FunOk Try.prog 117 (isS.args x) (isS.H x) (isS.R x) := by
  rintro ⟨⟨p, n, x⟩, ⟨f, l⟩⟩ h
  refine fun_of (T := Tright) (L := fun _ => none) (hs := fun _ => []) hmix Tright_ok Try.func117 (by kernel_rfl) (by kernel_rfl) ?_
  refine Eq.mp (α :=
      let Z0 := (0 : Int); let Z1 := (64 : Int); let Z3 := rightM (f, l) (p, n, x); (((Z0 ≤ f ∧ f < Z1) ∧ Z0 ≤ l ∧ l < Z1) ∧ Z0 ≤ n ∧ n < (6 : Int)) ∧ ((Value.int IntKind.u64 f = Value.int IntKind.u64 f ∧ Value.int IntKind.u64 l = Value.int IntKind.u64 l ∧ True) ∧ (Value.bool p = Value.bool p ∧ Value.int IntKind.i64 n = Value.int IntKind.i64 n ∧ Value.bool x = Value.bool x ∧ True) ∧ True) ∧ True ∧ True ∧ (Value.bool Z3 = Value.bool Z3 ∧ True) ∧ True ∧ True)
    (by kernel_rfl) ?_
  exact ⟨h, by simp, trivial, trivial, by simp, trivial, trivial⟩

theorem is_sound : Sound Try.prog 117 isS.con := FSpec.sound _ (enter_of Try.func117 (by kernel_rfl) (by kernel_rfl)) is_ok

/-! ### read -/
def ciM (c : Cl) : Ci := (decide (c.2.1 = 1), decide (c.2.1 = 2), c.2.2.1, c.2.2.2)
def avCl : AV → Option Cl
  | .agg [w, k, a, b, c, d, e, f] => match avInt w, avInt k, avBool a, avInt b, avBool c, avBool d, avInt e, avBool f with
    | some w, some k, some a, some b, some c, some d, some e, some f => some (w, k, (a, b, c), (d, e, f))
    | _, _, _, _, _, _, _, _ => none
  | _ => none
def vCl (c : Cl) : AV := .agg [.i c.1, .i c.2.1, .b c.2.2.1.1, .i c.2.2.1.2.1, .b c.2.2.1.2.2, .b c.2.2.2.1, .i c.2.2.2.2.1, .b c.2.2.2.2.2]
def readS : FSpec UU where
  X := Cl
  pick := fun args _ => match args with
    | [a] => avCl a
    | _ => none
  args := fun x => [vCl x]
  H := fun _ => []
  R := fun x => .val ⟨vCi (ciM x), [], [], []⟩
set_option maxRecDepth 100000 in
theorem read_ok : ∀ x, readS.pre x → FunOk Try.prog 80 (readS.args x) (readS.H x) (readS.R x) := by
  rintro ⟨w, k, ⟨p, n, x⟩, ⟨p', n', x'⟩⟩ h
  refine fun_of (T := []) (L := fun _ => none) (hs := fun _ => []) hmix .nil Try.func80 (by kernel_rfl) (by kernel_rfl) ?_
  refine Eq.mp (α :=
      let Z10 := (135 : TypeId); let Z11 := (134 : TypeId); let Z12 := (137 : TypeId); let Z15 := k == (1 : Int); let Z16 := k == (2 : Int); let Z19 := (w, k, (p, n, x), p', n', x'); let Z21 := Prod.fst (ciM Z19); let Z22 := Prod.snd (ciM Z19); let Z23 := Z21 = true; let Z24 := Z21 = false; let Z25 := Prod.fst Z22; let Z26 := Prod.snd Z22; let Z27 := Z25 = true; let Z28 := Z25 = false; let Z29 := Prod.snd Z26; let Z30 := Prod.fst Z26; let Z32 := Prod.snd Z30; let Z34 := Prod.snd Z29; let Z43 := Value.bool p = Value.bool (Prod.fst Z30); let Z48 := Value.bool x = Value.bool (Prod.snd Z32); let Z52 := Value.int IntKind.i64 n = Value.int IntKind.i64 (Prod.fst Z32); let Z56 := Z43 ∧ Z52 ∧ Z48 ∧ False; let Z59 := Z43 ∧ Z52 ∧ Z48 ∧ Value.bool p' = Value.bool (Prod.fst Z29) ∧ Value.int IntKind.i64 n' = Value.int IntKind.i64 (Prod.fst Z34) ∧ Value.bool x' = Value.bool (Prod.snd Z34) ∧ True; (Z15 = true → True ∧ (((Z23 → nat_lit 134 = Z11 ∧ Z59) ∧ (Z24 → (Z27 → nat_lit 134 = Z10 ∧ Z59) ∧ (Z28 → nat_lit 134 = Z12 ∧ Z56))) ∧ True) ∧ True ∧ True) ∧ (Z15 = false → (Z16 = true → True ∧ (((Z23 → nat_lit 135 = Z11 ∧ Z59) ∧ (Z24 → (Z27 → nat_lit 135 = Z10 ∧ Z59) ∧ (Z28 → nat_lit 135 = Z12 ∧ Z56))) ∧ True) ∧ True ∧ True) ∧ (Z16 = false → True ∧ (((Z23 → nat_lit 137 = Z11 ∧ Z56) ∧ (Z24 → (Z27 → nat_lit 137 = Z10 ∧ Z56) ∧ (Z28 → nat_lit 137 = Z12 ∧ Z43 ∧ Z52 ∧ Z48 ∧ True))) ∧ True) ∧ True ∧ True)))
    (by kernel_rfl) ?_
  simp +contextual [ciM]

theorem read_sound : Sound Try.prog 80 readS.con := FSpec.sound _ (enter_of Try.func80 (by kernel_rfl) (by kernel_rfl)) read_ok

/-! ### isWord -/
def wordM (f w : Int) (x : W3) : Bool := inM x.2.1 0 (W ((if x.1 then w else f) - 1))
def isWordS : FSpec UU where
  X := (Int × Int) × W3
  pick := fun args _ => match args with
    | [.agg [a, b, _, _, _], c] => match avInt a, avInt b, avW c with
      | some a, some b, some c => some ((a, b), c)
      | _, _, _ => none
    | _ => none
  args := fun x => [.agg [.i x.1.1, .i x.1.2, .junk, .junk, .junk], vW x.2]
  H := fun _ => []
  R := fun x => .val ⟨.b (wordM x.1.1 x.1.2 x.2), [], [], []⟩
def Twithin : Tab UU := [(86, withinS.con)]
theorem Twithin_ok : Twithin.Sound Try.prog := .cons within_sound .nil
set_option maxRecDepth 100000 in
theorem isWord_ok : ∀ x, isWordS.pre x → FunOk Try.prog 54 (isWordS.args x) (isWordS.H x) (isWordS.R x) := by
  rintro ⟨⟨f, w⟩, ⟨p, n, x⟩⟩ h
  refine fun_of (T := Twithin) (L := fun _ => none) (hs := fun _ => []) hmix Twithin_ok Try.func54 (by kernel_rfl) (by kernel_rfl) ?_
  refine Eq.mp (α :=
      let Z0 := Value.int IntKind.i64 n; let Z1 := (0 : Int); let Z2 := (1 : Int); let Z3 := Value.int IntKind.i64 Z1; let Z4 := (p, n, x); let Z10 := IntKind.wrap IntKind.i64 (w - Z2); let Z11 := IntKind.wrap IntKind.i64 (f - Z2); let Z13 := Value.int IntKind.i64 Z10; let Z14 := Value.int IntKind.i64 Z11; (p = true → True ∧ (Z0 = Z0 ∧ Z3 = Z3 ∧ Z13 = Z13 ∧ True) ∧ True ∧ True ∧ (Value.bool (inM n Z1 Z10) = Value.bool (wordM f w Z4) ∧ True) ∧ True ∧ True) ∧ (p = false → True ∧ (Z0 = Z0 ∧ Z3 = Z3 ∧ Z14 = Z14 ∧ True) ∧ True ∧ True ∧ (Value.bool (inM n Z1 Z11) = Value.bool (wordM f w Z4) ∧ True) ∧ True ∧ True))
    (by kernel_rfl) ?_
  refine ⟨fun h1 => ?_, fun h1 => ?_⟩ <;> simp [wordM, h1]

theorem isWord_sound : Sound Try.prog 54 isWordS.con := FSpec.sound _ (enter_of Try.func54 (by kernel_rfl) (by kernel_rfl)) isWord_ok

end AE.Pr

namespace AE.Pr
open Go AE Go.Proofs

/-! ### joined, every -/
def everyM (n : Nat) : Int := 2 ^ n - 1
def natsM (n : Nat) : List Int := (List.range n).map fun (i : Nat) => (i : Int)
def joinedS : FSpec UU where
  X := List Int
  pick := fun args H => match args with
    | [a] => sliceAt .wit H a
    | _ => none
  args := fun (x : List Int) => [.sl 0 0 0 x.length]
  H := fun x => [.one (.ro .wit x)]
  R := fun (x : List Int) => .val ⟨AV.u (everyM x.length), [], [], []⟩
  pre := fun (x : List Int) => x.length ≤ 6 ∧ x = natsM x.length
def joinedL (n : Nat) : LSpec UU where
  T := { i : Nat // i ≤ n }
  fr := fun t => [(2, AV.u (everyM t.1)), (5, .sl 0 0 0 n), (6, .i n), (7, .i t.1)]
  H := fun _ => [.one (.ro .wit (natsM n))]
  mu := fun t => n - t.1
theorem natsM_length (n : Nat) : (natsM n).length = n := by simp [natsM]
theorem natsM_get {n i : Nat} (h : i < n) (d : Int) : (natsM n).getD i d = (i : Int) := by
  simp [natsM, List.getD_eq_getElem?_getD, List.getElem?_map, List.getElem?_range h]
theorem or_math (i : Nat) (h : i < 6) : IntKind.u64.wrap (BitVec.ofInt 64 (everyM i) ||| BitVec.ofInt 64 (IntKind.u64.wrap (1 * 2 ^ min i 64))).toNat = everyM (i + 1) := by
  have : ∀ i : Fin 6, IntKind.u64.wrap (BitVec.ofInt 64 (everyM i.val) ||| BitVec.ofInt 64 (IntKind.u64.wrap (1 * 2 ^ min i.val 64))).toNat = everyM (i.val + 1) := by decide +kernel
  exact this ⟨i, h⟩
set_option maxRecDepth 100000 in
theorem joined_ok0 (n : Nat) (hn : n ≤ 6) : FunOk Try.prog 85 [.sl 0 0 0 (natsM n).length] [.one (.ro .wit (natsM n) : AB1 UU)] (.val ⟨AV.u (everyM n), [], [], []⟩) := by
  refine fun_of (T := []) (L := fun _ => some (.inv (joinedL n))) (hs := fun _ => []) hmix .nil Try.func85 (by kernel_rfl) (by kernel_rfl) ?_
  refine Eq.mp (α :=
      let Z1 := List.length (natsM n); let Z2 := (↑n : Int); let Z3 := (0 : Int); let Z4 := (1 : Int); let Z5 : Type := { i : Nat // i ≤ n }; let Z6 := Value.int IntKind.i64 Z2; let Z7 := fun (x : Z5) => Subtype.val x; let Z8 := natsM n = natsM n; let Z12 := fun (x : Z5) => (↑(Z7 x) : Int); let Z13 := fun (x : Z5) => Value.int IntKind.u64 (everyM (Z7 x)); let Z15 := fun (x : Z5) => n - Z7 x; let Z18 := fun (t : Z5) => nat_lit 0 + Int.toNat (Z12 t); let Z19 := fun (t : Z5) => List.getD (natsM n) (Z18 t) Z3; let Z20 := fun (t : Z5) => decide (Z12 t < Z2); (∃ (x : Z5), (Value.int IntKind.u64 Z3 = Z13 x ∧ (nat_lit 0 = nat_lit 0 ∧ nat_lit 0 = nat_lit 0 ∧ Z1 = n) ∧ Value.int IntKind.i64 (↑Z1 : Int) = Z6 ∧ Value.int IntKind.i64 Z3 = Value.int IntKind.i64 (Z12 x) ∧ True) ∧ True ∧ Z8 ∧ True) ∧ ∀ (t : Z5), (Z20 t = true → (Z3 ≤ Z12 t ∧ Z12 t < Z2) ∧ Z18 t < List.length (natsM n) ∧ Z3 ≤ Z19 t ∧ True ∧ ∃ (x : Z5), ((Value.int IntKind.u64 (IntKind.wrap IntKind.u64 (↑(BitVec.toNat (BitVec.ofInt (nat_lit 64) (everyM (Z7 t)) ||| BitVec.ofInt (nat_lit 64) (IntKind.wrap IntKind.u64 (Z4 * (2 : Int) ^ min (Int.toNat (Z19 t)) (nat_lit 64))))) : Int)) = Z13 x ∧ (nat_lit 0 = nat_lit 0 ∧ nat_lit 0 = nat_lit 0 ∧ n = n) ∧ Z6 = Z6 ∧ Value.int IntKind.i64 (IntKind.wrap IntKind.i64 (Z12 t + Z4)) = Value.int IntKind.i64 (Z12 x) ∧ True) ∧ True ∧ Z8 ∧ True) ∧ Z15 x < Z15 t) ∧ (Z20 t = false → True ∧ (Z13 t = Value.int IntKind.u64 (everyM n) ∧ True) ∧ True ∧ Z8 ∧ True))
    (by kernel_rfl) ?_
  refine ⟨⟨⟨0, by omega⟩, by simp [natsM_length, everyM]⟩, ?_⟩
  rintro ⟨i, hi⟩
  refine ⟨fun h => ?_, fun h => ?_⟩
  · have hlt : i < n := by simpa using h
    simp only [Int.toNat_natCast, Nat.zero_add, natsM_get hlt 0, natsM_length]
    refine ⟨by omega, hlt, by omega, trivial, ⟨i + 1, by omega⟩, ?_⟩
    rw [or_math i (by omega), wrap_id (by omega) (by omega)]
    simp; omega
  · have : i = n := by simp at h; omega
    subst this; simp

theorem joined_sound : Sound Try.prog 85 joinedS.con := FSpec.sound _ (enter_of Try.func85 (by kernel_rfl) (by kernel_rfl)) fun (x : List Int) h => by
  obtain ⟨h1, h2⟩ := h
  have := joined_ok0 x.length h1
  rw [← h2] at this
  exact this

def everyS : FSpec UU where
  X := Int
  pick := fun args H => match args with
    | [.ptr id 0 0 0] => match blkAt H id 0 with
      | some (.cells (_ :: w :: _) _) => avInt w
      | some (.rc (_ :: w :: _) _) => avInt w
      | _ => none
    | _ => none
  args := fun _ => [.ptr 0 0 0 0]
  H := fun (w : Int) => [.one (.rc [.junk, .i w, .junk, .junk, .junk, .junk] 100)]
  R := fun (w : Int) => .val ⟨AV.u (everyM w.toNat), [], [], []⟩
  pre := fun (w : Int) => 0 ≤ w ∧ w ≤ 6
def fillM (n i : Nat) : List Int := (List.range n).map fun (j : Nat) => if j < i then (j : Int) else 0
theorem fillM_length (n i : Nat) : (fillM n i).length = n := by simp [fillM]
theorem fillM_zero (n : Nat) : fillM n 0 = List.replicate n 0 := by
  apply List.ext_getElem <;> simp [fillM]
theorem fillM_all (n : Nat) : fillM n n = natsM n := by
  apply List.ext_getElem
  · simp [fillM, natsM]
  · intro j h1 h2
    have : j < n := by simpa [fillM] using h1
    simp [fillM, natsM, this]
theorem fillM_set {n i : Nat} (h : i < n) : (fillM n i).set i (i : Int) = fillM n (i + 1) := by
  apply List.ext_getElem
  · simp [fillM]
  · intro j h1 h2
    rw [List.getElem_set]
    by_cases e : i = j
    · subst e; simp [fillM]
    · rw [if_neg e]; simp only [fillM, List.getElem_map, List.getElem_range]
      by_cases h3 : j < i
      · rw [if_pos h3, if_pos (by omega)]
      · rw [if_neg h3, if_neg (by omega)]
def everyL (n : Nat) : LSpec UU where
  T := { i : Nat // i ≤ n }
  fr := fun t => [(3, .gs 1 0), (12, .i n), (13, .i t.1)]
  H := fun t => [.one (.rc [.junk, .i n, .junk, .junk, .junk, .junk] 100), .one (.row .wit (fillM n t.1) 93)]
  mu := fun t => n - t.1
def Tjoined : Tab UU := [(85, joinedS.con)]
theorem Tjoined_ok : Tjoined.Sound Try.prog := .cons joined_sound .nil
set_option maxRecDepth 100000 in
theorem every_ok0 (n : Nat) (hn : n ≤ 6) : FunOk Try.prog 51 (everyS.args (n : Int)) (everyS.H (n : Int)) (.val ⟨AV.u (everyM n), [], [], []⟩) := by
  refine fun_of (T := Tjoined) (L := fun _ => some (.inv (everyL n))) (hs := fun _ => []) hmix Tjoined_ok Try.func51 (by kernel_rfl) (by kernel_rfl) ?_
  refine Eq.mp (α :=
      let Z0 := True ∧ True ∧ True; let Z2 := (↑n : Int); let Z3 := (0 : Int); let Z5 := (93 : TypeId); let Z8 : Type := { i : Nat // i ≤ n }; let Z9 := Value.int IntKind.i64 Z2; let Z10 := Value.int IntKind.i64 Z3; let Z11 := fun (x : Z8) => Subtype.val x; let Z13 := fun (x : Z8) => fillM n (Z11 x); let Z14 := fun (x : Z8) => (↑(Z11 x) : Int); let Z15 := fun (t : Z8) => List.length (Z13 t); let Z16 := [AV.v Z10]; let Z18 := fun (t : Z8) => List.length (Z13 t); let Z19 := fun (x : Z8) => n - Z11 x; let Z20 := fun (x : Z8) => Value.int IntKind.i64 (Z14 x); let Z21 := List.replicate (Int.toNat Z2) Z3; let Z23 := Z9 = Z9; let Z28 := fun (t : Z8) => decide (Z14 t < Z2); ((Z2 = Z2 ∧ Z3 ≤ Z2 ∧ Z2 ≤ (1099511627776 : Int) ∧ (↑(nat_lit 8) : Int) * Z2 ≤ (281474976710656 : Int)) ∧ Z16 = List.map AV.nrm1 Z16) ∧ (∃ (x : Z8), (nat_lit 0 = nat_lit 0 ∧ Value.int IntKind.i64 (↑(List.length Z21) : Int) = Z9 ∧ Z10 = Z20 x ∧ True) ∧ True ∧ (True ∧ Z23 ∧ True ∧ True ∧ Z0) ∧ (nat_lit 93 = Z5 ∧ Z21 = Z13 x) ∧ True) ∧ ∀ (t : Z8), (Z28 t = true → (Z3 ≤ Z14 t ∧ Z14 t < (↑(Z18 t) : Int)) ∧ nat_lit 0 + Int.toNat (Z14 t) < Z18 t ∧ [AV.v (Z20 t)] = [AV.v (Z20 t)] ∧ True ∧ ∃ (x : Z8), ((nat_lit 0 = nat_lit 0 ∧ Z23 ∧ Value.int IntKind.i64 (IntKind.wrap IntKind.i64 (Z14 t + (1 : Int))) = Z20 x ∧ True) ∧ True ∧ (True ∧ Z23 ∧ True ∧ True ∧ Z0) ∧ (Z5 = Z5 ∧ List.set (Z13 t) ((0 : Nat) + Int.toNat (Z14 t)) (Z14 t) = Z13 x) ∧ True) ∧ Z19 x < Z19 t) ∧ (Z28 t = false → (Z15 t ≤ nat_lit 6 ∧ Z13 t = natsM (Z15 t)) ∧ ((nat_lit 1 = nat_lit 1 ∧ nat_lit 0 = nat_lit 0 ∧ nat_lit 0 = nat_lit 0 ∧ Z18 t = Z15 t) ∧ True) ∧ (Z13 t = Z13 t ∧ True) ∧ True ∧ (Value.int IntKind.u64 (everyM (Z15 t)) = Value.int IntKind.u64 (everyM n) ∧ True) ∧ True ∧ (True ∧ Z23 ∧ True ∧ True ∧ Z0) ∧ True))
    (by kernel_rfl) ?_
  simp only [Int.toNat_natCast, Nat.zero_add, fillM_length, natsM_length]
  refine ⟨⟨⟨trivial, by omega, by omega, by omega⟩, rfl⟩, ⟨⟨0, by omega⟩, ?_⟩, ?_⟩
  · simp [fillM_zero]
  · rintro ⟨i, hi⟩
    refine ⟨fun h => ?_, fun h => ?_⟩
    · have hlt : i < n := by simpa using h
      refine ⟨⟨by show (0 : Int) ≤ (i : Int); omega, by show (i : Int) < (n : Int); omega⟩, hlt, trivial, trivial, ⟨i + 1, by omega⟩, ?_⟩
      have hs := fillM_set hlt
      have hw : IntKind.i64.wrap ((i : Int) + 1) = (i : Int) + 1 := wrap_id (by omega) (by omega)
      simp [hs, hw]; omega
    · have : i = n := by simp at h; omega
      subst this
      simp [fillM_all]; exact hn

theorem every_sound : Sound Try.prog 51 everyS.con := FSpec.sound _ (enter_of Try.func51 (by kernel_rfl) (by kernel_rfl)) fun (w : Int) h => by
  obtain ⟨h1, h2⟩ := h
  obtain ⟨n, rfl⟩ := Int.eq_ofNat_of_zero_le (show 0 ≤ w from h1)
  exact every_ok0 n (by have : (n : Int) ≤ 6 := h2; omega)

/-! ### the first one that is so -/
def idxM {α : Type} (p : α → Bool) (l : List α) : Int := match l.findIdx? p with
  | some i => (i : Int)
  | none => -1
theorem idxM_some {α : Type} {p : α → Bool} {l : List α} {i : Nat} (hi : i < l.length) (d : α) (h : p (l.getD i d) = true) (h0 : ∀ j, j < i → p (l.getD j d) = false) : idxM p l = (i : Int) := by
  have : l.findIdx? p = some i := by
    rw [List.findIdx?_eq_some_iff_getElem]
    refine ⟨hi, ?_, fun j hj => ?_⟩
    · simpa [List.getD_eq_getElem?_getD, hi] using h
    · have := h0 j hj
      simpa [List.getD_eq_getElem?_getD, (show j < l.length by omega)] using this
  unfold idxM; rw [this]
theorem idxM_none {α : Type} {p : α → Bool} {l : List α} (d : α) (h0 : ∀ j, j < l.length → p (l.getD j d) = false) : idxM p l = -1 := by
  have : l.findIdx? p = none := by
    rw [List.findIdx?_eq_none_iff]
    intro x hx
    obtain ⟨j, hj, rfl⟩ := List.getElem_of_mem hx
    have := h0 j hj
    simpa [List.getD_eq_getElem?_getD, hj] using this
  unfold idxM; rw [this]
theorem idxM_any {α : Type} (p : α → Bool) (l : List α) : decide (idxM p l ≥ 0) = l.any p := by
  unfold idxM
  cases h : l.findIdx? p with
  | none =>
    rw [List.findIdx?_eq_none_iff] at h
    have : l.any p = false := by rw [List.any_eq_false]; intro x hx; simp [h x hx]
    rw [this]; simp
  | some i =>
    rw [List.findIdx?_eq_some_iff_getElem] at h
    obtain ⟨hi, h1, _⟩ := h
    have : l.any p = true := List.any_eq_true.2 ⟨_, List.getElem_mem hi, h1⟩
    rw [this]; simp

/-! ### the closures of isHearing -/
def hBox (f w : Int) : AB UU := .one (.rc [.i f, .i w, .junk, .junk, .junk] 25)
def avBox (H : Heap UU) (id : Nat) : Option (Int × Int) := match blkAt H id 0 with
  | some (.cells (f :: w :: _) _) => match avInt f, avInt w with
    | some f, some w => some (f, w)
    | _, _ => none
  | some (.rc (f :: w :: _) _) => match avInt f, avInt w with
    | some f, some w => some (f, w)
    | _, _ => none
  | _ => none
def badWS : FSpec UU where
  X := (Int × Int) × W3
  pick := fun args H => match args with
    | [a, .ptr id 0 0 0] => match avW a, avBox H id with
      | some a, some b => some (b, a)
      | _, _ => none
    | _ => none
  args := fun x => [vW x.2, .ptr 0 0 0 0]
  H := fun x => [hBox x.1.1 x.1.2]
  R := fun x => .val ⟨.b (!wordM x.1.1 x.1.2 x.2), [], [], []⟩
def TisWord : Tab UU := [(54, isWordS.con)]
theorem TisWord_ok : TisWord.Sound Try.prog := .cons isWord_sound .nil
set_option maxRecDepth 100000 in
theorem badW_ok : ∀ x, badWS.pre x → FunOk Try.prog 89 (badWS.args x) (badWS.H x) (badWS.R x) := by
  rintro ⟨⟨f, w⟩, ⟨p, n, x⟩⟩ _
  refine fun_of (T := TisWord) (L := fun _ => none) (hs := fun _ => []) hmix TisWord_ok Try.func89 (by kernel_rfl) (by kernel_rfl) ?_
  refine Eq.mp (α :=
      let Z0 := Value.int IntKind.i64 f; let Z1 := Value.int IntKind.i64 w; let Z2 := True ∧ True ∧ True ∧ True; let Z3 := (p, n, x); True ∧ ((Z0 = Z0 ∧ Z1 = Z1 ∧ Z2) ∧ (Value.bool p = Value.bool p ∧ Value.int IntKind.i64 n = Value.int IntKind.i64 n ∧ Value.bool x = Value.bool x ∧ True) ∧ True) ∧ True ∧ True ∧ ((Value.bool !wordM f w Z3) = Value.bool !wordM f w Z3 ∧ True) ∧ True ∧ (Z0 = Z0 ∧ Z1 = Z1 ∧ Z2) ∧ True)
    (by kernel_rfl) ?_
  simp

theorem badW_sound : Sound Try.prog 89 badWS.con := FSpec.sound _ (enter_of Try.func89 (by kernel_rfl) (by kernel_rfl)) badW_ok
def badCM (f w : Int) (c : Cl) : Bool := !inM c.2.1 0 2 || !inM c.1 0 (W (w - 1)) || !wordM f w c.2.2.1 || (c.2.1 != 0 && !wordM f w c.2.2.2)
def badCS : FSpec UU where
  X := (Int × Int) × Cl
  pick := fun args H => match args with
    | [a, .ptr id 0 0 0, .ptr _ 0 0 0] => match avCl a, avBox H id with
      | some a, some b => some (b, a)
      | _, _ => none
    | _ => none
  args := fun x => [vCl x.2, .ptr 0 0 0 0, .ptr 1 0 0 0]
  H := fun x => [hBox x.1.1 x.1.2, .one (.rc [.fn (.func 89) [] [.ptr 0 0 0 0]] 86)]
  R := fun x => .val ⟨.b (badCM x.1.1 x.1.2 x.2), [], [], []⟩
def TbadC : Tab UU := [(86, withinS.con), (89, badWS.con)]
theorem TbadC_ok : TbadC.Sound Try.prog := .cons within_sound (.cons badW_sound .nil)
set_option maxRecDepth 100000 in
theorem badC_ok : ∀ x, badCS.pre x → FunOk Try.prog 90 (badCS.args x) (badCS.H x) (badCS.R x) := by
  rintro ⟨⟨f, w⟩, ⟨wi, k, ⟨p, n, x⟩, ⟨p', n', x'⟩⟩⟩ _
  refine fun_of (T := TbadC) (L := fun _ => none) (hs := fun _ => []) hmix TbadC_ok Try.func90 (by kernel_rfl) (by kernel_rfl) ?_
  refine Eq.mp (α :=
      let Z0 := True ∧ True; let Z4 := Value.int IntKind.i64 w; let Z5 := Value.int IntKind.i64 f; let Z8 := (2 : Int); let Z10 := (0 : Int); let Z12 := (89 : FuncId); let Z13 := nat_lit 0 = nat_lit 0 ∧ nat_lit 0 = nat_lit 0 ∧ nat_lit 0 = nat_lit 0; let Z15 := Value.int IntKind.i64 Z8; let Z16 := Value.int IntKind.i64 Z10; let Z17 := (p', n', x'); let Z18 := (p, n, x); let Z20 := Z4 = Z4; let Z21 := Z5 = Z5; let Z28 := k != Z10; let Z31 := IntKind.wrap IntKind.i64 (w - (1 : Int)); let Z33 := Value.int IntKind.i64 Z31; let Z45 := Value.bool (badCM f w (wi, k, Z18, Z17)); let Z46 := Z45 = Value.bool true; let Z49 := True ∧ (Z21 ∧ Z20 ∧ True ∧ True ∧ Z0) ∧ ((Fn.func Z12 = Fn.func Z12 ∧ True ∧ Z13 ∧ True) ∧ True) ∧ True; True ∧ (Value.int IntKind.i64 k = Value.int IntKind.i64 k ∧ Z16 = Z16 ∧ Z15 = Z15 ∧ True) ∧ True ∧ ((!inM k Z10 Z8) = true → True ∧ (Z46 ∧ True) ∧ Z49) ∧ ((!inM k Z10 Z8) = false → True ∧ (Value.int IntKind.i64 wi = Value.int IntKind.i64 wi ∧ Z16 = Z16 ∧ Z33 = Z33 ∧ True) ∧ True ∧ ((!inM wi Z10 Z31) = true → True ∧ (Z46 ∧ True) ∧ Z49) ∧ ((!inM wi Z10 Z31) = false → True ∧ ((Value.bool p = Value.bool p ∧ Value.int IntKind.i64 n = Value.int IntKind.i64 n ∧ Value.bool x = Value.bool x ∧ True) ∧ Z13 ∧ True) ∧ ((Z21 ∧ Z20 ∧ True ∧ True ∧ Z0) ∧ True) ∧ ((!wordM f w Z18) = true → True ∧ (Z46 ∧ True) ∧ Z49) ∧ ((!wordM f w Z18) = false → (Z28 = true → True ∧ ((Value.bool p' = Value.bool p' ∧ Value.int IntKind.i64 n' = Value.int IntKind.i64 n' ∧ Value.bool x' = Value.bool x' ∧ True) ∧ Z13 ∧ True) ∧ ((Z21 ∧ Z20 ∧ True ∧ True ∧ Z0) ∧ True) ∧ True ∧ ((Value.bool !wordM f w Z17) = Z45 ∧ True) ∧ Z49) ∧ (Z28 = false → True ∧ (Z45 = Value.bool false ∧ True) ∧ Z49)))))
    (by kernel_rfl) ?_
  simp +contextual [badCM]
  intro _ _ _ _; rfl

theorem badC_sound : Sound Try.prog 90 badCS.con := FSpec.sound _ (enter_of Try.func90 (by kernel_rfl) (by kernel_rfl)) badC_ok

/-! ### IndexFunc, ContainsFunc: words, claims -/
def idxWS (R : ((Int × Int) × List W3) → AV) : FSpec UU where
  X := (Int × Int) × List W3
  pick := fun args H => match args with
    | [a, .fn _ _ [.ptr id 0 0 0]] => match sliceAt .word H a, avBox H id with
      | some a, some b => some (b, a)
      | _, _ => none
    | _ => none
  args := fun x => [.sl 0 0 0 x.2.length, .fn (.func 89) [] [.ptr 1 0 0 0]]
  H := fun x => [.one (.ro .word x.2), hBox x.1.1 x.1.2]
  R := fun x => .val ⟨R x, [], [], []⟩
  pre := fun x => x.2.length < 1000000
def idxWL (f w : Int) (l : List W3) : LSpec UU where
  T := { i : Nat // i ≤ l.length ∧ ∀ j, j < i → (!wordM f w (l.getD j (false, 0, false))) = false }
  fr := fun t => [(0, .sl 0 0 0 l.length), (1, .fn (.func 89) [] [.ptr 1 0 0 0]), (7, .i l.length), (8, .i t.1)]
  H := fun _ => [.one (.ro .word l), hBox f w]
  mu := fun t => l.length - t.1
def TidxW : Tab UU := [(89, badWS.con)]
theorem TidxW_ok : TidxW.Sound Try.prog := .cons badW_sound .nil
set_option maxRecDepth 100000 in
theorem idxW_ok : ∀ x, (idxWS fun x => .i (idxM (fun y => !wordM x.1.1 x.1.2 y) x.2)).pre x → FunOk Try.prog 97 ((idxWS fun x => .i (idxM (fun y => !wordM x.1.1 x.1.2 y) x.2)).args x) ((idxWS fun x => .i (idxM (fun y => !wordM x.1.1 x.1.2 y) x.2)).H x) ((idxWS fun x => .i (idxM (fun y => !wordM x.1.1 x.1.2 y) x.2)).R x) := by
  rintro ⟨⟨f, w⟩, l⟩ hl
  refine fun_of (T := TidxW) (L := fun _ => some (.inv (idxWL f w l))) (hs := fun _ => []) hmix TidxW_ok Try.func97 (by kernel_rfl) (by kernel_rfl) ?_
  refine Eq.mp (α :=
      let Z1 := List.length l; let Z2 := Value.int IntKind.i64 w; let Z3 := Value.int IntKind.i64 f; let Z6 := (1 : Int); let Z7 := (0 : Int); let Z12 := nat_lit 0 = nat_lit 0 ∧ nat_lit 0 = nat_lit 0 ∧ nat_lit 0 = nat_lit 0; let Z13 := Fn.func (89 : FuncId); let Z14 := (↑Z1 : Int); let Z23 := Value.int IntKind.i64 Z14; let Z24 := Value.int IntKind.i64 (idxM (fun (y : W3) => !wordM f w y) l); let Z26 := (false, Z7, false); let Z40 := True ∧ l = l ∧ (Z3 = Z3 ∧ Z2 = Z2 ∧ True ∧ True ∧ True ∧ True) ∧ True; let Z42 : Type := { i : Nat // i ≤ Z1 ∧ ∀ (j : Nat), j < i → (!wordM f w (List.getD l j Z26)) = false }; let Z43 := fun (x : Z42) => Subtype.val x; let Z44 := fun (x : Z42) => (↑(Z43 x) : Int); let Z46 := fun (x : Z42) => Value.int IntKind.i64 (Z44 x); let Z47 := fun (x : Z42) => Z1 - Z43 x; let Z48 := fun (t : Z42) => nat_lit 0 + Int.toNat (Z44 t); let Z50 := fun (t : Z42) => List.getD l (Z48 t) Z26; let Z53 := fun (t : Z42) => Prod.snd (Z50 t); let Z54 := fun (t : Z42) => Prod.fst (Z50 t); let Z60 := fun (t : Z42) => decide (Z44 t < Z14); (∃ (x : Z42), ((nat_lit 0 = nat_lit 0 ∧ nat_lit 0 = nat_lit 0 ∧ Z1 = Z1) ∧ (Z13 = Z13 ∧ True ∧ Z12 ∧ True) ∧ Z23 = Z23 ∧ Value.int IntKind.i64 Z7 = Z46 x ∧ True) ∧ Z40) ∧ ∀ (t : Z42), (Z60 t = true → (Z7 ≤ Z44 t ∧ Z44 t < Z14) ∧ Z48 t < List.length l ∧ True ∧ ((Value.bool (Z54 t) = Value.bool (Z54 t) ∧ Value.int IntKind.i64 (Prod.fst (Z53 t)) = Value.int IntKind.i64 (Prod.fst (Z53 t)) ∧ Value.bool (Prod.snd (Z53 t)) = Value.bool (Prod.snd (Z53 t)) ∧ True) ∧ Z12 ∧ True) ∧ ((Z3 = Z3 ∧ Z2 = Z2 ∧ True ∧ True ∧ True ∧ True) ∧ True) ∧ ((!wordM f w (Z50 t)) = true → True ∧ (Z46 t = Z24 ∧ True) ∧ Z40) ∧ ((!wordM f w (Z50 t)) = false → True ∧ ∃ (x : Z42), (((nat_lit 0 = nat_lit 0 ∧ nat_lit 0 = nat_lit 0 ∧ Z1 = Z1) ∧ (Z13 = Z13 ∧ True ∧ Z12 ∧ True) ∧ Z23 = Z23 ∧ Value.int IntKind.i64 (IntKind.wrap IntKind.i64 (Z44 t + Z6)) = Z46 x ∧ True) ∧ Z40) ∧ Z47 x < Z47 t)) ∧ (Z60 t = false → True ∧ (Value.int IntKind.i64 (-Z6) = Z24 ∧ True) ∧ Z40))
    (by kernel_rfl) ?_
  simp only [idxWS] at hl
  simp
  refine ⟨⟨0, ⟨by omega, fun j hj => by omega⟩, rfl⟩, fun i hi h0 => ⟨fun hlt => ⟨hlt, fun h1 => ?_, fun h1 => ⟨i + 1, ?_, ⟨by omega, fun j hj => ?_⟩, by omega⟩⟩, fun hge => ?_⟩⟩
  · exact (idxM_some hlt (false, 0, false) (by simpa [List.getD_eq_getElem?_getD] using h1) (fun j hj => by simpa [List.getD_eq_getElem?_getD] using h0 j hj)).symm
  · rw [wrap_id (by omega) (by omega)]; rfl
  · rcases Nat.lt_or_eq_of_le (Nat.le_of_lt_succ hj) with h2 | rfl
    · exact h0 j h2
    · exact h1
  · exact (idxM_none (false, 0, false) (fun j hj => by simpa [List.getD_eq_getElem?_getD] using h0 j (by omega))).symm

theorem idxW_sound : Sound Try.prog 97 (idxWS fun x => .i (idxM (fun y => !wordM x.1.1 x.1.2 y) x.2)).con := FSpec.sound _ (enter_of Try.func97 (by kernel_rfl) (by kernel_rfl)) idxW_ok
def TidxW2 : Tab UU := [(97, (idxWS fun x => .i (idxM (fun y => !wordM x.1.1 x.1.2 y) x.2)).con)]
theorem TidxW2_ok : TidxW2.Sound Try.prog := .cons idxW_sound .nil
set_option maxRecDepth 100000 in
theorem anyW_ok : ∀ x, (idxWS fun x => .b (x.2.any fun y => !wordM x.1.1 x.1.2 y)).pre x → FunOk Try.prog 92 ((idxWS fun x => .b (x.2.any fun y => !wordM x.1.1 x.1.2 y)).args x) ((idxWS fun x => .b (x.2.any fun y => !wordM x.1.1 x.1.2 y)).H x) ((idxWS fun x => .b (x.2.any fun y => !wordM x.1.1 x.1.2 y)).R x) := by
  rintro ⟨⟨f, w⟩, l⟩ hl
  refine fun_of (T := TidxW2) (L := fun _ => none) (hs := fun _ => []) hmix TidxW2_ok Try.func92 (by kernel_rfl) (by kernel_rfl) ?_
  refine Eq.mp (α :=
      let Z0 := List.length l; let Z1 := Value.int IntKind.i64 f; let Z2 := Value.int IntKind.i64 w; let Z3 := True ∧ True ∧ True ∧ True; let Z4 := l = l; let Z5 := (89 : FuncId); Z0 < nat_lit 1000000 ∧ ((nat_lit 0 = nat_lit 0 ∧ nat_lit 0 = nat_lit 0 ∧ Z0 = Z0) ∧ (Fn.func Z5 = Fn.func Z5 ∧ True ∧ (nat_lit 0 = nat_lit 0 ∧ nat_lit 0 = nat_lit 0 ∧ nat_lit 0 = nat_lit 0) ∧ True) ∧ True) ∧ (Z4 ∧ (Z1 = Z1 ∧ Z2 = Z2 ∧ Z3) ∧ True) ∧ True ∧ (Value.bool (decide (idxM (fun (y : W3) => !wordM f w y) l ≥ (0 : Int))) = Value.bool (List.any l fun (y : W3) => !wordM f w y) ∧ True) ∧ True ∧ Z4 ∧ (Z1 = Z1 ∧ Z2 = Z2 ∧ Z3) ∧ True)
    (by kernel_rfl) ?_
  simp only [idxWS] at hl
  rw [← idxM_any]
  simpa using hl

theorem anyW_sound : Sound Try.prog 92 (idxWS fun x => .b (x.2.any fun y => !wordM x.1.1 x.1.2 y)).con := FSpec.sound _ (enter_of Try.func92 (by kernel_rfl) (by kernel_rfl)) anyW_ok

def idxCS (R : ((Int × Int) × List Cl) → AV) : FSpec UU where
  X := (Int × Int) × List Cl
  pick := fun args H => match args with
    | [a, .fn _ _ [.ptr id 0 0 0, _]] => match sliceAt .claim H a, avBox H id with
      | some a, some b => some (b, a)
      | _, _ => none
    | _ => none
  args := fun x => [.sl 0 0 0 x.2.length, .fn (.func 90) [] [.ptr 1 0 0 0, .ptr 2 0 0 0]]
  H := fun x => [.one (.ro .claim x.2), hBox x.1.1 x.1.2, .one (.rc [.fn (.func 89) [] [.ptr 1 0 0 0]] 86)]
  R := fun x => .val ⟨R x, [], [], []⟩
  pre := fun x => x.2.length < 1000000
def idxCL (f w : Int) (l : List Cl) : LSpec UU where
  T := { i : Nat // i ≤ l.length ∧ ∀ j, j < i → badCM f w (l.getD j dfC) = false }
  fr := fun t => [(0, .sl 0 0 0 l.length), (1, .fn (.func 90) [] [.ptr 1 0 0 0, .ptr 2 0 0 0]), (7, .i l.length), (8, .i t.1)]
  H := fun _ => [.one (.ro .claim l), hBox f w, .one (.rc [.fn (.func 89) [] [.ptr 1 0 0 0]] 86)]
  mu := fun t => l.length - t.1
def TidxC : Tab UU := [(90, badCS.con)]
theorem TidxC_ok : TidxC.Sound Try.prog := .cons badC_sound .nil
set_option maxRecDepth 100000 in
theorem idxC_ok : ∀ x, (idxCS fun x => .i (idxM (fun y => badCM x.1.1 x.1.2 y) x.2)).pre x → FunOk Try.prog 96 ((idxCS fun x => .i (idxM (fun y => badCM x.1.1 x.1.2 y) x.2)).args x) ((idxCS fun x => .i (idxM (fun y => badCM x.1.1 x.1.2 y) x.2)).H x) ((idxCS fun x => .i (idxM (fun y => badCM x.1.1 x.1.2 y) x.2)).R x) := by
  rintro ⟨⟨f, w⟩, l⟩ hl
  refine fun_of (T := TidxC) (L := fun _ => some (.inv (idxCL f w l))) (hs := fun _ => []) hmix TidxC_ok Try.func96 (by kernel_rfl) (by kernel_rfl) ?_
  refine Eq.mp (α :=
      let Z1 := List.length l; let Z2 := Value.int IntKind.i64 f; let Z3 := Value.int IntKind.i64 w; let Z7 := (0 : Int); let Z8 := (1 : Int); let Z15 := nat_lit 0 = nat_lit 0 ∧ nat_lit 0 = nat_lit 0 ∧ nat_lit 0 = nat_lit 0; let Z16 := Fn.func (90 : FuncId); let Z17 := Fn.func (89 : FuncId); let Z19 := (↑Z1 : Int); let Z21 := Z15 ∧ True; let Z28 := Value.int IntKind.i64 (idxM (fun (y : Cl) => badCM f w y) l); let Z29 := Value.int IntKind.i64 Z19; let Z32 := (false, Z7, false); let Z42 : Type := { i : Nat // i ≤ Z1 ∧ ∀ (j : Nat), j < i → badCM f w (List.getD l j dfC) = false }; let Z44 := fun (x : Z42) => Subtype.val x; let Z47 := fun (x : Z42) => (↑(Z44 x) : Int); let Z50 := fun (x : Z42) => Value.int IntKind.i64 (Z47 x); let Z52 := fun (x : Z42) => Z1 - Z44 x; let Z53 := fun (t : Z42) => nat_lit 0 + Int.toNat (Z47 t); let Z59 := True ∧ l = l ∧ (Z2 = Z2 ∧ Z3 = Z3 ∧ True ∧ True ∧ True ∧ True) ∧ ((Z17 = Z17 ∧ True ∧ Z21) ∧ True) ∧ True; let Z60 := fun (t : Z42) => decide (Z47 t < Z19); let Z61 := fun (t : Z42) => List.getD l (Z53 t) (Z7, Z7, Z32, Z32); let Z63 := fun (t : Z42) => Prod.fst (Z61 t); let Z64 := fun (t : Z42) => Prod.snd (Z61 t); let Z66 := fun (t : Z42) => Prod.fst (Z64 t); let Z67 := fun (t : Z42) => Prod.snd (Z64 t); let Z71 := fun (t : Z42) => Prod.fst (Prod.fst (Z67 t)); let Z72 := fun (t : Z42) => Prod.snd (Prod.snd (Z67 t)); let Z73 := fun (t : Z42) => Prod.fst (Prod.snd (Z67 t)); let Z74 := fun (t : Z42) => Prod.snd (Prod.fst (Z67 t)); (∃ (x : Z42), ((nat_lit 0 = nat_lit 0 ∧ nat_lit 0 = nat_lit 0 ∧ Z1 = Z1) ∧ (Z16 = Z16 ∧ True ∧ Z15 ∧ Z21) ∧ Z29 = Z29 ∧ Value.int IntKind.i64 Z7 = Z50 x ∧ True) ∧ Z59) ∧ ∀ (t : Z42), (Z60 t = true → (Z7 ≤ Z47 t ∧ Z47 t < Z19) ∧ Z53 t < List.length l ∧ True ∧ ((Value.int IntKind.i64 (Z63 t) = Value.int IntKind.i64 (Z63 t) ∧ Value.int IntKind.i64 (Z66 t) = Value.int IntKind.i64 (Z66 t) ∧ Value.bool (Z71 t) = Value.bool (Z71 t) ∧ Value.int IntKind.i64 (Prod.fst (Z74 t)) = Value.int IntKind.i64 (Prod.fst (Z74 t)) ∧ Value.bool (Prod.snd (Z74 t)) = Value.bool (Prod.snd (Z74 t)) ∧ Value.bool (Z73 t) = Value.bool (Z73 t) ∧ Value.int IntKind.i64 (Prod.fst (Z72 t)) = Value.int IntKind.i64 (Prod.fst (Z72 t)) ∧ Value.bool (Prod.snd (Z72 t)) = Value.bool (Prod.snd (Z72 t)) ∧ True) ∧ Z15 ∧ Z21) ∧ ((Z2 = Z2 ∧ Z3 = Z3 ∧ True ∧ True ∧ True ∧ True) ∧ ((Z17 = Z17 ∧ True ∧ Z21) ∧ True) ∧ True) ∧ (badCM f w (Z61 t) = true → True ∧ (Z50 t = Z28 ∧ True) ∧ Z59) ∧ (badCM f w (Z61 t) = false → True ∧ ∃ (x : Z42), (((nat_lit 0 = nat_lit 0 ∧ nat_lit 0 = nat_lit 0 ∧ Z1 = Z1) ∧ (Z16 = Z16 ∧ True ∧ Z15 ∧ Z21) ∧ Z29 = Z29 ∧ Value.int IntKind.i64 (IntKind.wrap IntKind.i64 (Z47 t + Z8)) = Z50 x ∧ True) ∧ Z59) ∧ Z52 x < Z52 t)) ∧ (Z60 t = false → True ∧ (Value.int IntKind.i64 (-Z8) = Z28 ∧ True) ∧ Z59))
    (by kernel_rfl) ?_
  simp only [idxCS] at hl
  simp
  refine ⟨⟨0, ⟨by omega, fun j hj => by omega⟩, rfl⟩, fun i hi h0 => ⟨fun hlt => ⟨hlt, fun h1 => ?_, fun h1 => ⟨i + 1, ?_, ⟨by omega, fun j hj => ?_⟩, by omega⟩⟩, fun hge => ?_⟩⟩
  · exact (idxM_some hlt dfC (by simpa [List.getD_eq_getElem?_getD, dfC] using h1) (fun j hj => by simpa [List.getD_eq_getElem?_getD] using h0 j hj)).symm
  · rw [wrap_id (by omega) (by omega)]; rfl
  · rcases Nat.lt_or_eq_of_le (Nat.le_of_lt_succ hj) with h2 | rfl
    · exact h0 j h2
    · exact h1
  · exact (idxM_none dfC (fun j hj => by simpa [List.getD_eq_getElem?_getD] using h0 j (by omega))).symm

theorem idxC_sound : Sound Try.prog 96 (idxCS fun x => .i (idxM (fun y => badCM x.1.1 x.1.2 y) x.2)).con := FSpec.sound _ (enter_of Try.func96 (by kernel_rfl) (by kernel_rfl)) idxC_ok
def TidxC2 : Tab UU := [(96, (idxCS fun x => .i (idxM (fun y => badCM x.1.1 x.1.2 y) x.2)).con)]
theorem TidxC2_ok : TidxC2.Sound Try.prog := .cons idxC_sound .nil
set_option maxRecDepth 100000 in
theorem anyC_ok : ∀ x, (idxCS fun x => .b (x.2.any fun y => badCM x.1.1 x.1.2 y)).pre x → FunOk Try.prog 91 ((idxCS fun x => .b (x.2.any fun y => badCM x.1.1 x.1.2 y)).args x) ((idxCS fun x => .b (x.2.any fun y => badCM x.1.1 x.1.2 y)).H x) ((idxCS fun x => .b (x.2.any fun y => badCM x.1.1 x.1.2 y)).R x) := by
  rintro ⟨⟨f, w⟩, l⟩ hl
  refine fun_of (T := TidxC2) (L := fun _ => none) (hs := fun _ => []) hmix TidxC2_ok Try.func91 (by kernel_rfl) (by kernel_rfl) ?_
  refine Eq.mp (α :=
      let Z0 := List.length l; let Z1 := Value.int IntKind.i64 f; let Z2 := Value.int IntKind.i64 w; let Z4 := True ∧ True ∧ True ∧ True; let Z5 := l = l; let Z7 := (90 : FuncId); let Z8 := nat_lit 0 = nat_lit 0 ∧ nat_lit 0 = nat_lit 0 ∧ nat_lit 0 = nat_lit 0; let Z10 := Fn.func (89 : FuncId); Z0 < nat_lit 1000000 ∧ ((nat_lit 0 = nat_lit 0 ∧ nat_lit 0 = nat_lit 0 ∧ Z0 = Z0) ∧ (Fn.func Z7 = Fn.func Z7 ∧ True ∧ Z8 ∧ Z8 ∧ True) ∧ True) ∧ (Z5 ∧ (Z1 = Z1 ∧ Z2 = Z2 ∧ Z4) ∧ ((Z10 = Z10 ∧ True ∧ Z8 ∧ True) ∧ True) ∧ True) ∧ True ∧ (Value.bool (decide (idxM (fun (y : Cl) => badCM f w y) l ≥ (0 : Int))) = Value.bool (List.any l fun (y : Cl) => badCM f w y) ∧ True) ∧ True ∧ Z5 ∧ (Z1 = Z1 ∧ Z2 = Z2 ∧ Z4) ∧ ((Z10 = Z10 ∧ True ∧ Z8 ∧ True) ∧ True) ∧ True)
    (by kernel_rfl) ?_
  simp only [idxCS] at hl
  rw [← idxM_any]
  simpa using hl

theorem anyC_sound : Sound Try.prog 91 (idxCS fun x => .b (x.2.any fun y => badCM x.1.1 x.1.2 y)).con := FSpec.sound _ (enter_of Try.func91 (by kernel_rfl) (by kernel_rfl)) anyC_ok

/-! ### isHearing -/
/-- A hearing: facts, witnesses, liars; claims; words that are known. -/
abbrev HT := (Int × Int × Int) × List Cl × List W3
def hearM (x : HT) : Bool :=
  (inM x.1.1 0 6 && inM x.1.2.1 0 6 && inM x.1.2.2 0 x.1.2.1) && (decide (x.2.1.length ≤ 14) && decide (x.2.2.length ≤ 4)) && !x.2.1.any (badCM x.1.1 x.1.2.1) && !x.2.2.any fun y => !wordM x.1.1 x.1.2.1 y
def vH (x : HT) : AV := .agg [.i x.1.1, .i x.1.2.1, .i x.1.2.2, .sl 0 0 0 x.2.1.length, .sl 1 0 0 x.2.2.length]
def hH (x : HT) : Heap UU := [.one (.ro .claim x.2.1), .one (.ro .word x.2.2)]
def avH (H : Heap UU) : AV → Option HT
  | .agg [a, b, c, d, e] => match avInt a, avInt b, avInt c, sliceAt .claim H d, sliceAt .word H e with
    | some a, some b, some c, some d, some e => some ((a, b, c), d, e)
    | _, _, _, _, _ => none
  | _ => none
def okH (x : HT) : Prop := x.2.1.length < 1000 ∧ x.2.2.length < 1000
def isHearingS : FSpec UU where
  X := HT
  pick := fun args H => match args with
    | [a] => avH H a
    | _ => none
  args := fun x => [vH x]
  H := fun x => hH x
  R := fun x => .val ⟨.b (hearM x), [], [], []⟩
  pre := fun x => okH x
def TisH : Tab UU := [(86, withinS.con), (91, (idxCS fun x => .b (x.2.any fun y => badCM x.1.1 x.1.2 y)).con), (92, (idxWS fun x => .b (x.2.any fun y => !wordM x.1.1 x.1.2 y)).con)]
theorem TisH_ok : TisH.Sound Try.prog := .cons within_sound (.cons anyC_sound (.cons anyW_sound .nil))
set_option maxRecDepth 100000 in
theorem isHearing_ok : ∀ x, isHearingS.pre x → FunOk Try.prog 79 (isHearingS.args x) (isHearingS.H x) (isHearingS.R x) := by
  rintro ⟨⟨f, w, li⟩, cs, ks⟩ hl
  refine fun_of (T := TisH) (L := fun _ => none) (hs := fun _ => []) hmix TisH_ok Try.func79 (by kernel_rfl) (by kernel_rfl) ?_
  refine Eq.mp (α :=
      let Z0 := List.length cs; let Z1 := List.length ks; let Z4 := Value.int IntKind.i64 f; let Z5 := Value.int IntKind.i64 w; let Z8 := (0 : Int); let Z9 := (6 : Int); let Z11 := True ∧ True ∧ True ∧ True; let Z12 := ks = ks; let Z14 := cs = cs; let Z16 := inM li Z8 w; let Z17 := nat_lit 0 = nat_lit 0 ∧ nat_lit 0 = nat_lit 0 ∧ nat_lit 0 = nat_lit 0; let Z22 := List.any cs fun (y : Cl) => badCM f w y; let Z24 := Value.int IntKind.i64 Z9; let Z25 := Value.int IntKind.i64 Z8; let Z28 := Z4 = Z4; let Z29 := Z5 = Z5; let Z31 := Z16 = false; let Z32 := Fn.func (nat_lit 89) = Fn.func (89 : FuncId); let Z42 := Z25 = Z25; let Z46 := ((f, w, li), cs, ks); let Z54 := True ∧ (Value.bool (hearM Z46) = Value.bool false ∧ True) ∧ True ∧ Z14 ∧ Z12 ∧ True; let Z56 := decide ((↑Z1 : Int) ≤ (4 : Int)); let Z57 := decide ((↑Z0 : Int) ≤ (14 : Int)); let Z58 := Z57 = true; let Z59 := Z57 = false; True ∧ (Z28 ∧ Z42 ∧ Z24 = Z24 ∧ True) ∧ True ∧ (inM f Z8 Z9 = true → True ∧ (Z29 ∧ Z42 ∧ Z24 = Z24 ∧ True) ∧ True ∧ (inM w Z8 Z9 = true → True ∧ (Value.int IntKind.i64 li = Value.int IntKind.i64 li ∧ Z42 ∧ Z29 ∧ True) ∧ True ∧ (Z58 → (Z16 = true → (Z56 = true → Z0 < nat_lit 1000000 ∧ ((nat_lit 0 = nat_lit 0 ∧ nat_lit 0 = nat_lit 0 ∧ Z0 = Z0) ∧ (Fn.func (nat_lit 90) = Fn.func (90 : FuncId) ∧ True ∧ Z17 ∧ Z17 ∧ True) ∧ True) ∧ (Z14 ∧ (Z28 ∧ Z29 ∧ Z11) ∧ ((Z32 ∧ True ∧ Z17 ∧ True) ∧ True) ∧ True) ∧ ((!Z22) = true → Z1 < nat_lit 1000000 ∧ ((nat_lit 0 = nat_lit 0 ∧ nat_lit 0 = nat_lit 0 ∧ Z1 = Z1) ∧ (Z32 ∧ True ∧ Z17 ∧ True) ∧ True) ∧ (Z12 ∧ (Z28 ∧ Z29 ∧ Z11) ∧ True) ∧ True ∧ ((Value.bool !List.any ks fun (y : W3) => !wordM f w y) = Value.bool (hearM Z46) ∧ True) ∧ True ∧ Z14 ∧ Z12 ∧ True) ∧ ((!Z22) = false → Z54)) ∧ (Z56 = false → Z54)) ∧ (Z31 → Z54)) ∧ (Z59 → (Z16 = true → Z54) ∧ (Z31 → Z54))) ∧ (inM w Z8 Z9 = false → (Z58 → Z54) ∧ (Z59 → Z54))) ∧ (inM f Z8 Z9 = false → (Z58 → Z54) ∧ (Z59 → Z54)))
    (by kernel_rfl) ?_
  simp only [isHearingS, okH] at hl
  simp only [hearM]
  generalize (cs.any fun y => badCM f w y) = A
  generalize (ks.any fun y => !wordM f w y) = B
  generalize inM f 0 6 = c1
  generalize inM w 0 6 = c2
  generalize inM li 0 w = c3
  have h1 : (cs.length : Int) ≤ 14 ↔ cs.length ≤ 14 := by omega
  have h2 : (ks.length : Int) ≤ 4 ↔ ks.length ≤ 4 := by omega
  have h3 : cs.length < 1000000 := by omega
  have h4 : ks.length < 1000000 := by omega
  cases c1 <;> cases c2 <;> cases c3 <;> simp +contextual [h1, h2, h3, h4]
  exact ⟨fun _ a b => absurd b (by omega), fun a b => absurd b (by omega)⟩

theorem isHearing_sound : Sound Try.prog 79 isHearingS.con := FSpec.sound _ (enter_of Try.func79 (by kernel_rfl) (by kernel_rfl)) isHearing_ok

end AE.Pr

namespace AE.Pr
open Go AE

/-- Claims, each one heard once. -/
def ddM (l : List Cl) : List Cl := l.foldl (fun acc c => if c ∈ acc then acc else acc ++ [c]) []
def saysM (l : List Cl) (k : Int) : List Ci := ((ddM l).filter fun c => c.1 == k).map ciM
theorem ddM_snoc (l : List Cl) (c : Cl) : ddM (l ++ [c]) = if c ∈ ddM l then ddM l else ddM l ++ [c] := by
  unfold ddM; rw [List.foldl_append]; rfl
theorem mem_ddM' (c : Cl) : ∀ (l acc : List Cl), c ∈ l.foldl (fun acc c => if c ∈ acc then acc else acc ++ [c]) acc ↔ c ∈ acc ∨ c ∈ l
  | [], acc => by simp
  | d :: l, acc => by
    rw [List.foldl_cons, mem_ddM' c l]
    split
    · rename_i h
      constructor
      · rintro (h1 | h1)
        · exact .inl h1
        · exact .inr (List.mem_cons_of_mem _ h1)
      · rintro (h1 | h1)
        · exact .inl h1
        · rcases List.mem_cons.1 h1 with rfl | h1
          · exact .inl h
          · exact .inr h1
    · simp [or_assoc]
theorem mem_ddM (l : List Cl) (c : Cl) : c ∈ ddM l ↔ c ∈ l := by
  unfold ddM; rw [mem_ddM']; simp
theorem saysM_dup (l : List Cl) (c : Cl) (k : Int) (h : c ∈ l) : saysM (l ++ [c]) k = saysM l k := by
  unfold saysM; rw [ddM_snoc, if_pos ((mem_ddM l c).2 h)]
theorem saysM_new (l : List Cl) (c : Cl) (k : Int) (h : c ∉ l) : saysM (l ++ [c]) k = if c.1 = k then saysM l k ++ [ciM c] else saysM l k := by
  unfold saysM; rw [ddM_snoc, if_neg (fun h1 => h ((mem_ddM l c).1 h1)), List.filter_append, List.map_append]
  by_cases hc : c.1 = k
  · simp [hc]
  · simp [hc]
theorem ddM_length' : ∀ (l acc : List Cl), (l.foldl (fun acc c => if c ∈ acc then acc else acc ++ [c]) acc).length ≤ acc.length + l.length
  | [], acc => by simp
  | d :: l, acc => by
    rw [List.foldl_cons]
    have := ddM_length' l (if d ∈ acc then acc else acc ++ [d])
    have h2 : (if d ∈ acc then acc else acc ++ [d]).length ≤ acc.length + 1 := by split <;> simp
    rw [List.length_cons]; omega
theorem saysM_length (l : List Cl) (k : Int) : (saysM l k).length ≤ l.length := by
  unfold saysM
  rw [List.length_map]
  refine Nat.le_trans (List.length_filter_le _ _) ?_
  have := ddM_length' l []
  simpa [ddM] using this
theorem take_snoc {α : Type} (l : List α) (i : Nat) (h : i < l.length) (d : α) : l.take (i + 1) = l.take i ++ [l.getD i d] := by
  rw [List.take_add_one, List.getD_eq_getElem?_getD, List.getElem?_eq_getElem h]; rfl
theorem mem_take_getD {α : Type} (l : List α) (i : Nat) (d : α) (x : α) (hi : i ≤ l.length) : x ∈ l.take i ↔ ∃ j, j < i ∧ l.getD j d = x := by
  rw [List.mem_take_iff_getElem]
  constructor
  · rintro ⟨j, hj, rfl⟩
    exact ⟨j, by omega, by rw [List.getD_eq_getElem?_getD, List.getElem?_eq_getElem (by omega)]; rfl⟩
  · rintro ⟨j, hj, rfl⟩
    exact ⟨j, by omega, by rw [List.getD_eq_getElem?_getD, List.getElem?_eq_getElem (by omega)]; rfl⟩
/-- What a valid hearing's numbers are. -/
structure HearOk (x : HT) : Prop where
  f : 0 ≤ x.1.1 ∧ x.1.1 ≤ 6
  w : 0 ≤ x.1.2.1 ∧ x.1.2.1 ≤ 6
  l : 0 ≤ x.1.2.2 ∧ x.1.2.2 ≤ x.1.2.1
  cs : x.2.1.length ≤ 14
  ks : x.2.2.length ≤ 4
  claims : ∀ c ∈ x.2.1, (0 ≤ c.2.1 ∧ c.2.1 ≤ 2) ∧ (0 ≤ c.1 ∧ c.1 < x.1.2.1) ∧ wordM x.1.1 x.1.2.1 c.2.2.1 = true ∧ (c.2.1 ≠ 0 → wordM x.1.1 x.1.2.1 c.2.2.2 = true)
  known : ∀ c ∈ x.2.2, wordM x.1.1 x.1.2.1 c = true
theorem hear_ok {x : HT} (h : hearM x = true) : HearOk x := by
  obtain ⟨⟨f, w, li⟩, cs, ks⟩ := x
  simp only [hearM, Bool.and_eq_true, Bool.not_eq_true', List.any_eq_false, decide_eq_true_eq, inM] at h
  obtain ⟨⟨⟨⟨⟨hf, hw⟩, hl⟩, hc, hk⟩, h1⟩, h2⟩ := h
  have hW : W (w - 1) = w - 1 := wrap_id (by omega) (by omega)
  refine ⟨hf, hw, hl, hc, hk, fun c hcm => ?_, fun c hcm => by simpa using h2 c hcm⟩
  have := h1 c hcm
  simp only [badCM, inM, hW, Bool.or_eq_true, Bool.not_eq_true', Bool.and_eq_true, not_or] at this
  obtain ⟨⟨⟨a1, a2⟩, a3⟩, a4⟩ := this
  rw [Bool.not_eq_false, Bool.and_eq_true, decide_eq_true_eq, decide_eq_true_eq] at a1 a2
  rw [Bool.not_eq_false] at a3
  refine ⟨a1, ⟨a2.1, by have := a2.2; show c.1 < w; omega⟩, a3, fun hne => ?_⟩
  by_cases hb : wordM f w c.2.2.2 = true
  · exact hb
  · exact absurd (show (c.2.1 != 0) = true ∧ wordM f w c.2.2.2 = false from ⟨by simpa using hne, by simpa using hb⟩) a4

theorem eqCl (a b : Cl) : (a.1 == b.1 && (a.2.1 == b.2.1 && (a.2.2.1.1 == b.2.2.1.1 && (a.2.2.1.2.1 == b.2.2.1.2.1 && (a.2.2.1.2.2 == b.2.2.1.2.2 && true)) && ((a.2.2.2.1 == b.2.2.2.1 && (a.2.2.2.2.1 == b.2.2.2.2.1 && (a.2.2.2.2.2 == b.2.2.2.2.2 && true))) && true)))) = true ↔ a = b := by
  obtain ⟨a0, a1, ⟨a2, a3, a4⟩, ⟨a5, a6, a7⟩⟩ := a
  obtain ⟨b0, b1, ⟨b2, b3, b4⟩, ⟨b5, b6, b7⟩⟩ := b
  simp only [Bool.and_true, Bool.and_eq_true, beq_iff_eq, Prod.mk.injEq]

/-! ### truths -/
/-- A hearing as the program keeps it: facts, witnesses, liars; what is known; what each witness claims. -/
abbrev RT := (Int × Int × Int) × List W3 × List Ci × List Ci × List Ci × List Ci × List Ci × List Ci
def rowK (x : RT) : Nat → List Ci
  | 0 => x.2.2.1
  | 1 => x.2.2.2.1
  | 2 => x.2.2.2.2.1
  | 3 => x.2.2.2.2.2.1
  | 4 => x.2.2.2.2.2.2.1
  | 5 => x.2.2.2.2.2.2.2
  | _ => []
def claimM (t : Int × Int) (c : Ci) : Bool := if c.1 then rightM t c.2.2.1 || rightM t c.2.2.2 else if c.2.1 then !rightM t c.2.2.1 || rightM t c.2.2.2 else rightM t c.2.2.1
def okCi (c : Ci) : Prop := okW c.2.2.1 ∧ ((c.1 = true ∨ c.2.1 = true) → okW c.2.2.2)
def liesM (t : Int × Int) (l : List Ci) : Bool := l.any fun y => !claimM t y
def tM (a b : Nat) : Int × Int := ((a : Int), (b : Int))
def sayM (x : RT) (heard : Int) (t : Int × Int) (k : Nat) : Bool := !(hasM heard k && (liesM t (rowK x k) != hasM t.2 k))
def isM (x : RT) (heard : Int) (t : Int × Int) : Bool :=
  decide (popM t.2 ≤ x.1.2.2) && (List.range x.1.2.1.toNat).all (sayM x heard t) && x.2.1.all (rightM t)
def lineM (x : RT) (heard : Int) (a n : Nat) : List (Int × Int) := ((List.range n).filter fun b => isM x heard (tM a b)).map fun b => tM a b
def preM (x : RT) (heard : Int) (a b : Nat) : List (Int × Int) := ((List.range a).flatMap fun a => lineM x heard a (2 ^ x.1.2.1.toNat)) ++ lineM x heard a b
def allM (x : RT) (heard : Int) : List (Int × Int) := preM x heard (2 ^ x.1.1.toNat) 0
theorem preM_zero (x : RT) (heard : Int) : preM x heard 0 0 = [] := rfl
theorem preM_line (x : RT) (heard : Int) (a : Nat) : preM x heard a (2 ^ x.1.2.1.toNat) = preM x heard (a + 1) 0 := by
  unfold preM
  rw [List.range_succ, List.flatMap_append]
  simp [lineM]
theorem preM_yes (x : RT) (heard : Int) (a b : Nat) (h : isM x heard (tM a b) = true) : preM x heard a (b + 1) = preM x heard a b ++ [tM a b] := by
  unfold preM lineM
  rw [List.range_succ, List.filter_append, List.map_append]
  simp [h]
theorem preM_no (x : RT) (heard : Int) (a b : Nat) (h : isM x heard (tM a b) = false) : preM x heard a (b + 1) = preM x heard a b := by
  unfold preM lineM
  rw [List.range_succ, List.filter_append, List.map_append]
  simp [h]
theorem lineM_length (x : RT) (heard : Int) (a n : Nat) : (lineM x heard a n).length ≤ n := by
  unfold lineM
  rw [List.length_map]
  exact Nat.le_trans (List.length_filter_le _ _) (by simp)
/-- What is so of a hearing that is looked at. -/
structure RtOk (x : RT) : Prop where
  f : 0 ≤ x.1.1 ∧ x.1.1 ≤ 6
  w : 0 ≤ x.1.2.1 ∧ x.1.2.1 ≤ 6
  ks : x.2.1.length < 1000
  known : ∀ c ∈ x.2.1, okW c
  rows : ∀ k, (rowK x k).length < 1000 ∧ ∀ c ∈ rowK x k, okCi c
theorem pow_le {n : Int} (h : 0 ≤ n ∧ n ≤ 6) : 2 ^ n.toNat ≤ 64 := by
  have : n.toNat ≤ 6 := by omega
  exact Nat.le_trans (Nat.pow_le_pow_right (by omega) this) (by decide)
theorem preM_length (x : RT) (hx : RtOk x) (heard : Int) (a b : Nat) (ha : a ≤ 64) (hb : b ≤ 64) : (preM x heard a b).length ≤ 5000 := by
  unfold preM
  rw [List.length_append, List.length_flatMap]
  have h1 : ((List.range a).map fun a => (lineM x heard a (2 ^ x.1.2.1.toNat)).length).sum ≤ a * 64 := by
    have : ∀ l : List Nat, (l.map fun a => (lineM x heard a (2 ^ x.1.2.1.toNat)).length).sum ≤ l.length * 64 := by
      intro l
      induction l with
      | nil => simp
      | cons y l ih =>
        have h2 := lineM_length x heard y (2 ^ x.1.2.1.toNat)
        have h3 := pow_le hx.w
        simp only [List.map_cons, List.sum_cons, List.length_cons]; omega
    simpa using this (List.range a)
  have h2 := lineM_length x heard a b
  have : a * 64 ≤ 64 * 64 := Nat.mul_le_mul_right _ ha
  omega
end AE.Pr

namespace AE.Pr
open Go AE Go.Proofs

/-! ### what a witness says -/
def tBox (t : Int × Int) : AB UU := .one (.rc [AV.u t.1, AV.u t.2] 85)
def avTBox (H : Heap UU) (id : Nat) : Option (Int × Int) := match blkAt H id 0 with
  | some (.cells [a, b] _) => match avU a, avU b with
    | some a, some b => some (a, b)
    | _, _ => none
  | some (.rc [a, b] _) => match avU a, avU b with
    | some a, some b => some (a, b)
    | _, _ => none
  | _ => none
def avCi : AV → Option Ci
  | .alt c1 (.ifc _ (.agg [a, b, c, d, e, f])) (.alt c2 _ _) => match avBool a, avInt b, avBool c, avBool d, avInt e, avBool f with
    | some a, some b, some c, some d, some e, some f => some (c1, c2, (a, b, c), (d, e, f))
    | _, _, _, _, _, _ => none
  | _ => none
def wrongS : FSpec UU where
  X := (Int × Int) × Ci
  pick := fun args H => match args with
    | [a, .ptr id 0 0 0] => match avCi a, avTBox H id with
      | some a, some b => some (b, a)
      | _, _ => none
    | _ => none
  args := fun x => [vCi x.2, .ptr 0 0 0 0]
  H := fun x => [tBox x.1]
  R := fun x => .val ⟨.b (!claimM x.1 x.2), [], [], []⟩
  pre := fun x => okT x.1 ∧ okCi x.2
def Twrong : Tab UU := [(115, (pairS orV).con), (116, (pairS whenV).con), (117, isS.con)]
theorem Twrong_ok : Twrong.Sound Try.prog := .cons or_sound (.cons when_sound (.cons is_sound .nil))
set_option maxRecDepth 100000 in
theorem wrong_ok : ∀ x, wrongS.pre x → FunOk Try.prog 82 (wrongS.args x) (wrongS.H x) (wrongS.R x) := by
  rintro ⟨⟨f, l⟩, ⟨c1, c2, ⟨p, n, x⟩, ⟨p', n', x'⟩⟩⟩ h
  refine fun_of (T := Twrong) (L := fun _ => none) (hs := fun _ => []) hmix Twrong_ok Try.func82 (by kernel_rfl) (by kernel_rfl) ?_
  refine Eq.mp (α :=
      let Z0 := Value.bool x'; let Z1 := Value.bool p'; let Z4 := (f, l); let Z7 := Value.int IntKind.i64 n'; let Z8 := Value.int IntKind.u64 l; let Z9 := Value.int IntKind.u64 f; let Z10 := Value.int IntKind.i64 n; let Z11 := (0 : Int); let Z12 := (6 : Int); let Z13 := (64 : Int); let Z16 := Value.bool p = Value.bool p; let Z17 := Value.bool x = Value.bool x; let Z19 := (p, n, x); let Z20 := (p', n', x'); let Z21 := Z11 ≤ n'; let Z22 := Z11 ≤ n; let Z23 := n' < Z12; let Z24 := Z11 ≤ l; let Z25 := n < Z12; let Z26 := Z11 ≤ f; let Z27 := Z10 = Z10; let Z29 := l < Z13; let Z32 := f < Z13; let Z34 := rightM Z4 Z19; let Z44 := (Z9 = Z9 ∧ Z8 = Z8 ∧ True) ∧ True; let Z54 := Value.bool !claimM Z4 (c1, c2, Z19, Z20); (c1 = true → (((Z26 ∧ Z32) ∧ Z24 ∧ Z29) ∧ (Z22 ∧ Z25) ∧ Z21 ∧ Z23) ∧ ((Z16 ∧ Z27 ∧ Z17 ∧ Z1 = Z1 ∧ Z7 = Z7 ∧ Z0 = Z0 ∧ True) ∧ Z44) ∧ True ∧ True ∧ ((Value.bool !(Z34 || rightM Z4 Z20)) = Z54 ∧ True) ∧ True ∧ Z44) ∧ (c1 = false → (c2 = true → (((Z26 ∧ Z32) ∧ Z24 ∧ Z29) ∧ (Z22 ∧ Z25) ∧ Z21 ∧ Z23) ∧ ((Z16 ∧ Z27 ∧ Z17 ∧ Z1 = Z1 ∧ Z7 = Z7 ∧ Z0 = Z0 ∧ True) ∧ Z44) ∧ True ∧ True ∧ ((Value.bool !(!Z34 || rightM Z4 Z20)) = Z54 ∧ True) ∧ True ∧ Z44) ∧ (c2 = false → (((Z26 ∧ Z32) ∧ Z24 ∧ Z29) ∧ Z22 ∧ Z25) ∧ ((Z16 ∧ Z27 ∧ Z17 ∧ True) ∧ Z44) ∧ True ∧ True ∧ ((Value.bool !Z34) = Z54 ∧ True) ∧ True ∧ Z44)))
    (by kernel_rfl) ?_
  simp only [wrongS, okT, okCi, okW] at h
  simp only [claimM]
  cases c1 <;> cases c2 <;> simp at h ⊢ <;> omega

theorem wrong_sound : Sound Try.prog 82 wrongS.con := FSpec.sound _ (enter_of Try.func82 (by kernel_rfl) (by kernel_rfl)) wrong_ok
def idxIS (R : ((Int × Int) × List Ci) → AV) : FSpec UU where
  X := (Int × Int) × List Ci
  pick := fun args H => match args with
    | [a, .fn _ _ [.ptr id 0 0 0]] => match sliceAt .ci H a, avTBox H id with
      | some a, some b => some (b, a)
      | _, _ => none
    | _ => none
  args := fun x => [.sl 0 0 0 x.2.length, .fn (.func 82) [] [.ptr 1 0 0 0]]
  H := fun x => [.one (.ro .ci x.2), tBox x.1]
  R := fun x => .val ⟨R x, [], [], []⟩
  pre := fun x => x.2.length < 1000000 ∧ okT x.1 ∧ ∀ c ∈ x.2, okCi c
def idxIL (t : Int × Int) (l : List Ci) : LSpec UU where
  T := { i : Nat // i ≤ l.length ∧ ∀ j, j < i → (!claimM t (l.getD j dfI)) = false }
  fr := fun i => [(0, .sl 0 0 0 l.length), (1, .fn (.func 82) [] [.ptr 1 0 0 0]), (7, .i l.length), (8, .i i.1)]
  H := fun _ => [.one (.ro .ci l), tBox t]
  mu := fun i => l.length - i.1
def TidxI : Tab UU := [(82, wrongS.con)]
theorem TidxI_ok : TidxI.Sound Try.prog := .cons wrong_sound .nil
set_option maxRecDepth 100000 in
theorem idxI_ok : ∀ x, (idxIS fun x => .i (idxM (fun y => !claimM x.1 y) x.2)).pre x → FunOk Try.prog 93 ((idxIS fun x => .i (idxM (fun y => !claimM x.1 y) x.2)).args x) ((idxIS fun x => .i (idxM (fun y => !claimM x.1 y) x.2)).H x) ((idxIS fun x => .i (idxM (fun y => !claimM x.1 y) x.2)).R x) := by
  rintro ⟨⟨f, l⟩, cs⟩ hl
  refine fun_of (T := TidxI) (L := fun _ => some (.inv (idxIL (f, l) cs))) (hs := fun _ => []) hmix TidxI_ok Try.func93 (by kernel_rfl) (by kernel_rfl) ?_
  refine Eq.mp (α :=
      let Z0 := List.length cs; let Z1 := (f, l); let Z2 := Value.int IntKind.u64 f; let Z3 := Value.int IntKind.u64 l; let Z6 := (0 : Int); let Z7 := (1 : Int); let Z8 := (6 : Int); let Z9 := (64 : Int); let Z12 := (135 : TypeId); let Z13 := (134 : TypeId); let Z14 := (137 : TypeId); let Z17 := nat_lit 0 = nat_lit 0 ∧ nat_lit 0 = nat_lit 0 ∧ nat_lit 0 = nat_lit 0; let Z18 := Fn.func (82 : FuncId); let Z19 := (↑Z0 : Int); let Z29 := Value.int IntKind.i64 Z19; let Z34 := (false, Z6, false); let Z35 := Value.int IntKind.i64 (idxM (fun (y : Ci) => !claimM Z1 y) cs); let Z45 := True ∧ cs = cs ∧ (Z2 = Z2 ∧ Z3 = Z3 ∧ True) ∧ True; let Z46 : Type := { i : Nat // i ≤ Z0 ∧ ∀ (j : Nat), j < i → (!claimM Z1 (List.getD cs j dfI)) = false }; let Z47 := fun (x : Z46) => Subtype.val x; let Z49 := fun (x : Z46) => (↑(Z47 x) : Int); let Z51 := fun (x : Z46) => Value.int IntKind.i64 (Z49 x); let Z53 := fun (x : Z46) => Z0 - Z47 x; let Z54 := fun (t : Z46) => nat_lit 0 + Int.toNat (Z49 t); let Z57 := fun (t : Z46) => decide (Z49 t < Z19); let Z58 := fun (t : Z46) => List.getD cs (Z54 t) (false, false, Z34, Z34); let Z60 := fun (t : Z46) => Prod.snd (Z58 t); let Z61 := fun (t : Z46) => Prod.fst (Z58 t); let Z63 := fun (t : Z46) => Prod.fst (Z60 t); let Z64 := fun (t : Z46) => Prod.snd (Z60 t); let Z68 := fun (t : Z46) => Prod.snd (Prod.fst (Z64 t)); let Z69 := fun (t : Z46) => Prod.snd (Prod.snd (Z64 t)); let Z70 := fun (t : Z46) => Prod.fst (Prod.fst (Z64 t)); let Z71 := fun (t : Z46) => Value.bool (Prod.fst (Prod.snd (Z64 t))); let Z73 := fun (t : Z46) => Prod.fst (Z68 t); let Z74 := fun (t : Z46) => Prod.fst (Z69 t); let Z77 := fun (t : Z46) => Value.bool (Prod.snd (Z69 t)); let Z80 := fun (t : Z46) => Value.int IntKind.i64 (Z74 t); let Z82 := fun (t : Z46) => Value.bool (Z70 t) = Value.bool (Z70 t); let Z84 := fun (t : Z46) => Value.bool (Prod.snd (Z68 t)) = Value.bool (Prod.snd (Z68 t)); let Z87 := fun (t : Z46) => Value.int IntKind.i64 (Z73 t) = Value.int IntKind.i64 (Z73 t); (∃ (x : Z46), ((nat_lit 0 = nat_lit 0 ∧ nat_lit 0 = nat_lit 0 ∧ Z0 = Z0) ∧ (Z18 = Z18 ∧ True ∧ Z17 ∧ True) ∧ Z29 = Z29 ∧ Value.int IntKind.i64 Z6 = Z51 x ∧ True) ∧ Z45) ∧ ∀ (t : Z46), (Z57 t = true → (Z6 ≤ Z49 t ∧ Z49 t < Z19) ∧ Z54 t < List.length cs ∧ (((Z6 ≤ f ∧ f < Z9) ∧ Z6 ≤ l ∧ l < Z9) ∧ (Z6 ≤ Z73 t ∧ Z73 t < Z8) ∧ (Z61 t = true ∨ Z63 t = true → Z6 ≤ Z74 t ∧ Z74 t < Z8)) ∧ ((Z61 t = Z61 t ∧ (Z13 = Z13 ∧ Z82 t ∧ Z87 t ∧ Z84 t ∧ Z71 t = Z71 t ∧ Z80 t = Z80 t ∧ Z77 t = Z77 t ∧ True) ∧ Z63 t = Z63 t ∧ (Z12 = Z12 ∧ Z82 t ∧ Z87 t ∧ Z84 t ∧ Z71 t = Z71 t ∧ Z80 t = Z80 t ∧ Z77 t = Z77 t ∧ True) ∧ Z14 = Z14 ∧ Z82 t ∧ Z87 t ∧ Z84 t ∧ True) ∧ Z17 ∧ True) ∧ ((Z2 = Z2 ∧ Z3 = Z3 ∧ True) ∧ True) ∧ ((!claimM Z1 (Z58 t)) = true → True ∧ (Z51 t = Z35 ∧ True) ∧ Z45) ∧ ((!claimM Z1 (Z58 t)) = false → True ∧ ∃ (x : Z46), (((nat_lit 0 = nat_lit 0 ∧ nat_lit 0 = nat_lit 0 ∧ Z0 = Z0) ∧ (Z18 = Z18 ∧ True ∧ Z17 ∧ True) ∧ Z29 = Z29 ∧ Value.int IntKind.i64 (IntKind.wrap IntKind.i64 (Z49 t + Z7)) = Z51 x ∧ True) ∧ Z45) ∧ Z53 x < Z53 t)) ∧ (Z57 t = false → True ∧ (Value.int IntKind.i64 (-Z7) = Z35 ∧ True) ∧ Z45))
    (by kernel_rfl) ?_
  simp only [idxIS] at hl
  obtain ⟨hl, ht, hc⟩ := hl
  have hci : ∀ i, i < cs.length → okCi (cs.getD i dfI) := fun i hi => hc _ (by rw [List.getD_eq_getElem?_getD, List.getElem?_eq_getElem hi]; exact List.getElem_mem hi)
  simp
  refine ⟨⟨0, ⟨by omega, fun j hj => by omega⟩, rfl⟩, fun i hi h0 => ⟨fun hlt => ⟨hlt, ⟨ht, ?_⟩, fun h1 => ?_, fun h1 => ⟨i + 1, ?_, ⟨by omega, fun j hj => ?_⟩, by omega⟩⟩, fun hge => ?_⟩⟩
  · have := hci i hlt
    rw [List.getD_eq_getElem?_getD] at this; exact this
  · exact (idxM_some hlt dfI (by simpa [List.getD_eq_getElem?_getD, dfI] using h1) (fun j hj => by simpa [List.getD_eq_getElem?_getD] using h0 j hj)).symm
  · rw [wrap_id (by omega) (by omega)]; rfl
  · rcases Nat.lt_or_eq_of_le (Nat.le_of_lt_succ hj) with h2 | rfl
    · exact h0 j h2
    · exact h1
  · exact (idxM_none dfI (fun j hj => by simpa [List.getD_eq_getElem?_getD] using h0 j (by omega))).symm

theorem idxI_sound : Sound Try.prog 93 (idxIS fun x => .i (idxM (fun y => !claimM x.1 y) x.2)).con := FSpec.sound _ (enter_of Try.func93 (by kernel_rfl) (by kernel_rfl)) idxI_ok
def TidxI2 : Tab UU := [(93, (idxIS fun x => .i (idxM (fun y => !claimM x.1 y) x.2)).con)]
theorem TidxI2_ok : TidxI2.Sound Try.prog := .cons idxI_sound .nil
set_option maxRecDepth 100000 in
theorem anyI_ok : ∀ x, (idxIS fun x => .b (liesM x.1 x.2)).pre x → FunOk Try.prog 84 ((idxIS fun x => .b (liesM x.1 x.2)).args x) ((idxIS fun x => .b (liesM x.1 x.2)).H x) ((idxIS fun x => .b (liesM x.1 x.2)).R x) := by
  rintro ⟨⟨f, l⟩, cs⟩ hl
  refine fun_of (T := TidxI2) (L := fun _ => none) (hs := fun _ => []) hmix TidxI2_ok Try.func84 (by kernel_rfl) (by kernel_rfl) ?_
  refine Eq.mp (α :=
      let Z0 := List.length cs; let Z1 := Value.int IntKind.u64 l; let Z2 := Value.int IntKind.u64 f; let Z3 := (6 : Int); let Z4 := (0 : Int); let Z5 := (64 : Int); let Z6 := cs = cs; let Z7 := (82 : FuncId); let Z8 := fun (c : Ci) => Prod.snd c; let Z13 := fun (c : Ci) => Prod.snd (Z8 c); let Z16 := fun (c : Ci) => Prod.snd (Prod.snd (Z13 c)); let Z17 := fun (c : Ci) => Prod.snd (Prod.fst (Z13 c)); (Z0 < nat_lit 1000000 ∧ ((Z4 ≤ f ∧ f < Z5) ∧ Z4 ≤ l ∧ l < Z5) ∧ ∀ (c : Ci), c ∈ cs → (Z4 ≤ Prod.fst (Z17 c) ∧ Prod.fst (Z17 c) < Z3) ∧ (Prod.fst c = true ∨ Prod.fst (Z8 c) = true → Z4 ≤ Prod.fst (Z16 c) ∧ Prod.fst (Z16 c) < Z3)) ∧ ((nat_lit 0 = nat_lit 0 ∧ nat_lit 0 = nat_lit 0 ∧ Z0 = Z0) ∧ (Fn.func Z7 = Fn.func Z7 ∧ True ∧ (nat_lit 0 = nat_lit 0 ∧ nat_lit 0 = nat_lit 0 ∧ nat_lit 0 = nat_lit 0) ∧ True) ∧ True) ∧ (Z6 ∧ (Z2 = Z2 ∧ Z1 = Z1 ∧ True) ∧ True) ∧ True ∧ (Value.bool (decide (idxM (fun (y : Ci) => !claimM (f, l) y) cs ≥ Z4)) = Value.bool (liesM (f, l) cs) ∧ True) ∧ True ∧ Z6 ∧ (Z2 = Z2 ∧ Z1 = Z1 ∧ True) ∧ True)
    (by kernel_rfl) ?_
  simp only [idxIS] at hl
  simp only [liesM]
  rw [← idxM_any]
  simp only [eq_self, true_and, and_true, and_self]
  exact hl

theorem anyI_sound : Sound Try.prog 84 (idxIS fun x => .b (liesM x.1 x.2)).con := FSpec.sound _ (enter_of Try.func84 (by kernel_rfl) (by kernel_rfl)) anyI_ok

/-! ### truths -/
def truthsS : FSpec UU where
  X := Int
  pick := fun args _ => match args with
    | [.ptr _ 0 0 0, a] => avU a
    | _ => none
  args := fun (x : Int) => [.ptr 0 0 0 0, AV.u x]
  H := fun _ => [.none]
  R := fun (x : Int) => .val ⟨.fn (.func 81) [] [.ptr 1 0 0 0, .ptr 2 0 0 0], [], [], [.cells [.ptr 0 0 0 0] 72, .cells [AV.u x] 78]⟩
set_option maxRecDepth 100000 in
theorem truths_ok : ∀ x, truthsS.pre x → FunOk Try.prog 50 (truthsS.args x) (truthsS.H x) (truthsS.R x) := by
  intro (x : Int) _
  refine fun_of (T := []) (L := fun _ => none) (hs := fun _ => []) hmix .nil Try.func50 (by kernel_rfl) (by kernel_rfl) ?_
  refine Eq.mp (α :=
      let Z1 := nat_lit 0 = nat_lit 0 ∧ nat_lit 0 = nat_lit 0 ∧ nat_lit 0 = nat_lit 0; True ∧ ((Fn.func (nat_lit 81) = Fn.func (81 : FuncId) ∧ True ∧ Z1 ∧ Z1 ∧ True) ∧ True) ∧ True ∧ True ∧ (Z1 ∧ True) ∧ (Value.int IntKind.u64 x = Value.int IntKind.u64 x ∧ True) ∧ True)
    (by kernel_rfl) ?_
  simp

theorem truths_sound : Sound Try.prog 50 truthsS.con := FSpec.sound _ (enter_of Try.func50 (by kernel_rfl) (by kernel_rfl)) truths_ok

/-! ### open -/
def rowsM (l : List Cl) : Heap UU := [.one (.row .ci (saysM l 0) 116), .one (.row .ci (saysM l 1) 116), .one (.row .ci (saysM l 2) 116), .one (.row .ci (saysM l 3) 116), .one (.row .ci (saysM l 4) 116), .one (.row .ci (saysM l 5) 116)]
def mrowM (i : Nat) : AB1 UU := .mrow true [.gs i 0, .gs (i + 1) 0, .gs (i + 2) 0, .gs (i + 3) 0, .gs (i + 4) 0, .gs (i + 5) 0]
def structM (x : HT) (i : Nat) : AB1 UU := .cells [.i x.1.1, .i x.1.2.1, .i x.1.2.2, .sl 0 0 0 x.2.1.length, .sl 1 0 0 x.2.2.length, .map i 0] 100
def boxM (x : HT) : AB1 UU := .cells [.i x.1.1, .i x.1.2.1, .i x.1.2.2, .sl 0 0 0 x.2.1.length, .sl 1 0 0 x.2.2.length] 25
def clM (c : Cl) : AB1 UU := .cells [.i c.1, .i c.2.1, .b c.2.2.1.1, .i c.2.2.1.2.1, .b c.2.2.1.2.2, .b c.2.2.2.1, .i c.2.2.2.2.1, .b c.2.2.2.2.2] 67
/-- The error of what cannot be opened. -/
def openErrM (x : HT) : Int := if hearM x then 2 else 1
def openS : FSpec2 UU where
  X := HT × Bool
  pick := fun args H => match args with
    | [a, b] => match avH H a, avBool b with
      | some a, some b => some (a, b)
      | _, _ => none
    | _ => none
  args := fun x => [vH x.1, .v (.bool x.2)]
  H := fun x => hH x.1
  c := fun x => hearM x.1 && x.2
  R := fun x => .val ⟨.ptr 2 0 0 0, [], [], [structM x.1 3, mrowM 4, .row .ci (saysM x.1.2.1 0) 116, .row .ci (saysM x.1.2.1 1) 116, .row .ci (saysM x.1.2.1 2) 116, .row .ci (saysM x.1.2.1 3) 116, .row .ci (saysM x.1.2.1 4) 116, .row .ci (saysM x.1.2.1 5) 116]⟩
  R' := fun x => .panic (failV (openErrM x.1))
  pre := fun x => okH x.1
def openL1 (x : HT) : LSpec UU where
  T := { i : Nat // i ≤ x.2.1.length }
  fr := fun i => [(2, .ptr 2 0 0 0), (5, .ptr 10 0 0 0), (21, .sl 0 0 0 x.2.1.length), (22, .i x.2.1.length), (23, .i i.1)]
  H := fun i => hH x ++ [.one (boxM x), .one (mrowM 4)] ++ rowsM (x.2.1.take i.1) ++ [.one (structM x 3)]
  mu := fun i => x.2.1.length - i.1
def openL2 (x : HT) : LSpec UU where
  T := { p : Nat × Nat // p.1 < x.2.1.length ∧ p.2 ≤ p.1 ∧ ∀ j, j < p.2 → x.2.1.getD j dfC ≠ x.2.1.getD p.1 dfC }
  fr := fun p => [(2, .ptr 2 0 0 0), (5, .ptr 10 0 0 0), (21, .sl 0 0 0 x.2.1.length), (22, .i x.2.1.length), (23, .i p.1.1), (7, .ptr 11 0 0 0), (6, .i p.1.1), (31, .sl 0 0 0 p.1.1), (32, .i p.1.1), (33, .i p.1.2)]
  H := fun p => hH x ++ [.one (boxM x), .one (mrowM 4)] ++ rowsM (x.2.1.take p.1.1) ++ [.one (structM x 3), .one (clM (x.2.1.getD p.1.1 dfC))]
  mu := fun p => p.1.1 - p.1.2
def Topen : Tab UU := [(79, isHearingS.con), (68, needS.con), (80, readS.con)]
theorem Topen_ok : Topen.Sound Try.prog := .cons isHearing_sound (.cons need_sound (.cons read_sound .nil))
set_option maxRecDepth 100000 in
theorem open_ok2 : ∀ x, openS.pre x → openS.c x = false → FunOk Try.prog 49 (openS.args x) (openS.H x) (openS.R' x) := by
  rintro ⟨⟨⟨f, w, li⟩, cs, ks⟩, b⟩ hl hc
  refine fun_of (T := Topen) (L := fun _ => none) (hs := fun _ => []) hmix Topen_ok Try.func49 (by kernel_rfl) (by kernel_rfl) ?_
  refine Eq.mp (α :=
      let Z0 := Value.bool b; let Z1 := List.length ks; let Z2 := List.length cs; let Z8 := (112 : TypeId); let Z10 := Value.int IntKind.i64 (1 : Int); let Z11 := Value.int IntKind.i64 (2 : Int); let Z17 := ((f, w, li), cs, ks); let Z21 := Value.bool (hearM Z17); let Z22 := Value.int IntKind.i64 (openErrM Z17); (Z2 < nat_lit 1000 ∧ Z1 < nat_lit 1000) ∧ ((Value.int IntKind.i64 f = Value.int IntKind.i64 f ∧ Value.int IntKind.i64 w = Value.int IntKind.i64 w ∧ Value.int IntKind.i64 li = Value.int IntKind.i64 li ∧ (nat_lit 0 = nat_lit 0 ∧ nat_lit 0 = nat_lit 0 ∧ Z2 = Z2) ∧ (nat_lit 0 = nat_lit 0 ∧ nat_lit 0 = nat_lit 0 ∧ Z1 = Z1) ∧ True) ∧ True) ∧ (cs = cs ∧ ks = ks ∧ True) ∧ True ∧ (hearM Z17 = true → (Z21 = Z21 ∧ Z10 = Z10 ∧ True) ∧ True ∧ True ∧ (b = true → (Z0 = Z0 ∧ Z11 = Z11 ∧ True) ∧ True ∧ False) ∧ (b = false → (Z0 = Z0 ∧ Z11 = Z11 ∧ True) ∧ True ∧ True ∧ Z8 = Z8 ∧ Z11 = Z22 ∧ True)) ∧ (hearM Z17 = false → (Z21 = Z21 ∧ Z10 = Z10 ∧ True) ∧ True ∧ True ∧ Z8 = Z8 ∧ Z10 = Z22 ∧ True))
    (by kernel_rfl) ?_
  simp only [openS, okH] at hl
  simp only [openS, Bool.and_eq_false_iff] at hc
  simp [openErrM]
  refine ⟨hl, fun h => ?_⟩
  rcases hc with hc | hc
  · rw [hc] at h; cases h
  · exact ⟨hc, fun _ => h⟩

set_option maxHeartbeats 0 in
set_option maxRecDepth 100000 in
theorem open_ok1 : ∀ x, openS.pre x → openS.c x = true → FunOk Try.prog 49 (openS.args x) (openS.H x) (openS.R x) := by
  rintro ⟨⟨⟨f, w, li⟩, cs, ks⟩, b⟩ hl hc
  refine fun_ofG (T := Topen) (L := fun k => match Nat.beq k 5 with | true => some (.inv (openL1 ((f, w, li), cs, ks))) | false => some (.invR (openL2 ((f, w, li), cs, ks)) fun a b => b.1.1 = a.1.1)) (hs := fun _ => [3, 4, 5, 6, 7, 8, 9]) (sp := fun k => match Nat.beq k 12 with | true => some (10, 6) | false => none) hmix Topen_ok (tl := fun _ => none) (fun _ _ h => by cases h) (it := fun _ => none) (fun _ _ h => by cases h) Try.func49 (by kernel_rfl) (by kernel_rfl) ?_
  refine Eq.mp (α :=
      let Z0 := Value.bool b; let Z1 := none; let Z2 := fun (p : Nat × Nat) => Prod.snd p; let Z3 := fun (p : Nat × Nat) => Prod.fst p; let Z4 := List.length cs; let Z5 := List.length ks; let Z6 := (w, li); let Z7 := nat_lit 0 = nat_lit 0 ∧ True; let Z8 := nat_lit 1 ≤ nat_lit 1; let Z9 := Value.int IntKind.i64 f; let Z10 := Value.int IntKind.i64 li; let Z11 := Value.int IntKind.i64 w; let Z12 := nat_lit 0 = nat_lit 0 ∧ nat_lit 0 = nat_lit 0; let Z13 := []; let Z14 := (0 : Int); let Z15 := (4 : Int); let Z16 := (1 : Int); let Z17 := (3 : Int); let Z18 := (5 : Int); let Z19 := (2 : Int); let Z20 := Value.slice Z1 (nat_lit 0) (nat_lit 0); let Z21 := (0 : Nat); let Z22 := (1 : Nat); let Z23 := List.length cs; let Z24 := ks = ks; let Z25 := (cs, ks); let Z26 := cs = cs; let Z27 := Z0 = Z0; let Z28 := nat_lit 0 = nat_lit 0 ∧ Z7; let Z29 := (116 : TypeId); let Z30 := (137 : TypeId); let Z31 := (134 : TypeId); let Z32 := (135 : TypeId); let Z33 := AV.v Z20; let Z34 := fun (j : Nat) (p : Nat × Nat) => j < Z2 p; let Z35 := nat_lit 0 = nat_lit 0 ∧ Z12; let Z36 := (↑Z4 : Int); let Z37 := Z5 = Z5; let Z38 := Z4 = Z4; let Z39 := (f, Z6); let Z40 := Value.int IntKind.i64 Z16; let Z41 := Value.int IntKind.i64 Z14; let Z42 := Value.int IntKind.i64 Z19; let Z43 := nat_lit 116 = Z29; let Z44 := nat_lit 0 = nat_lit 0 ∧ Z28; let Z45 := (Z14, false); let Z46 := Z10 = Z10; let Z47 := Z9 = Z9; let Z48 := Z11 = Z11; let Z49 := fun (p : Nat × Nat) => Z2 p ≤ Z3 p; let Z50 := nat_lit 0 = nat_lit 0 ∧ Z37; let Z51 := nat_lit 0 = nat_lit 0 ∧ Z38; let Z52 := Value.int IntKind.i64 Z36; let Z53 := nat_lit 0 = nat_lit 0 ∧ Z44; let Z54 := nat_lit 0 = nat_lit 0 ∧ Z51; let Z55 := nat_lit 0 = nat_lit 0 ∧ Z50; let Z56 := Z33 = Z33; let Z57 := nat_lit 0 = nat_lit 0 ∧ Z53; let Z58 := Z29 = Z29; let Z59 := Z55 ∧ True; let Z60 := (false, Z45); let Z61 := nat_lit 0 = nat_lit 0 ∧ Z57; let Z62 := Z55 ∧ Z7; let Z63 := Z40 = Z40; let Z64 := Z42 = Z42; let Z65 := Z64 ∧ True; let Z66 := Z63 ∧ True; let Z67 := Z52 = Z52; let Z68 := (Z39, Z25); let Z69 := hearM Z68; let Z70 := Z27 ∧ Z65; let Z71 := Value.bool Z69; let Z72 := Z54 ∧ Z59; let Z73 := Z54 ∧ Z62; let Z74 := (Z60, Z60); let Z75 := Prod.snd Z68; let Z76 := Z46 ∧ Z72; let Z77 := Prod.fst Z75; let Z78 := Z46 ∧ Z73; let Z79 := List.length Z77; let Z80 := (Z14, Z74); let Z81 := fun (j : Nat) => List.getD Z77 j dfC; let Z82 := fun (i : Nat) => i ≤ Z79; let Z83 := fun (p : Nat × Nat) => List.getD Z77 (Z3 p) dfC; let Z84 := fun (p : Nat × Nat) => Z3 p < Z79; let Z85 : Type := { i : Nat // Z82 i }; let Z86 := Z48 ∧ Z76; let Z87 := fun (x : Z85) => Subtype.val x; let Z88 := Z48 ∧ Z78; let Z89 := fun (x : Z85) => List.take (Z87 x) cs; let Z90 := (Z14, Z80); let Z91 := fun (x : Z85) => (↑(Z87 x) : Int); let Z92 := Z71 = Z71; let Z93 := fun (t : Z85) => Int.toNat (Z91 t); let Z94 := fun (x : Z85) => Value.int IntKind.i64 (Z91 x); let Z95 := Z47 ∧ Z86; let Z96 := fun (x : Z85) => saysM (Z89 x) Z16; let Z97 := fun (x : Z85) => saysM (Z89 x) Z17; let Z98 := fun (x : Z85) => saysM (Z89 x) Z19; let Z99 := fun (x : Z85) => saysM (Z89 x) Z18; let Z100 := fun (x : Z85) => saysM (Z89 x) Z14; let Z101 := fun (x : Z85) => saysM (Z89 x) Z15; let Z102 := fun (x : Z85) => Z4 - Z87 x; let Z103 := Z47 ∧ Z88; let Z104 := fun (t : Z85) => Z14 ≤ Z91 t; let Z105 := fun (t : Z85) => Z93 t - nat_lit 0; let Z106 := fun (t : Z85) => nat_lit 0 + Z93 t; let Z107 := Z103 ∧ True; let Z108 := fun (t : Z85) => Z91 t < Z36; let Z109 := Z92 ∧ Z66; let Z110 := fun (j : Nat) (p : Nat × Nat) => Z81 j ≠ Z83 p; let Z111 := fun (j : Nat) (p : Nat × Nat) => Z34 j p → Z110 j p; let Z112 := fun (p : Nat × Nat) => ∀ (j : Nat), Z111 j p; let Z113 := fun (p : Nat × Nat) => Z49 p ∧ Z112 p; let Z114 := fun (t : Z85) => List.getD cs (Z106 t) Z90; let Z115 := fun (x t : Z85) => Z102 x < Z102 t; let Z116 := fun (t : Z85) => Prod.snd (Z114 t); let Z117 := fun (t : Z85) => Prod.snd (Z116 t); let Z118 := fun (t : Z85) => Prod.snd (Z117 t); let Z119 := fun (t : Z85) => Prod.fst (Z117 t); let Z120 := fun (t : Z85) => Prod.snd (Z118 t); let Z121 := fun (t : Z85) => Prod.snd (Z119 t); let Z122 := fun (p : Nat × Nat) => Z84 p ∧ Z113 p; let Z123 : Type := { p : Nat × Nat // Z122 p }; let Z124 := fun (x : Z123) => Subtype.val x; let Z125 := fun (x : Z123) => Prod.snd (Z124 x); let Z126 := fun (x : Z123) => Prod.fst (Z124 x); let Z127 := fun (t : Z85) => decide (Z108 t); let Z128 := fun (x : Z123) => List.take (Z126 x) cs; let Z129 := fun (x : Z123) => (↑(Z125 x) : Int); let Z130 := fun (x : Z123) => (↑(Z126 x) : Int); let Z131 := fun (t : Z123) => Int.toNat (Z129 t); let Z132 := fun (x : Z123) => Value.int IntKind.i64 (Z130 x); let Z133 := fun (x : Z123) => Value.int IntKind.i64 (Z129 x); let Z134 := fun (x : Z123) => saysM (Z128 x) Z16; let Z135 := fun (x : Z123) => saysM (Z128 x) Z18; let Z136 := fun (x : Z123) => saysM (Z128 x) Z17; let Z137 := fun (x : Z123) => saysM (Z128 x) Z15; let Z138 := fun (x : Z123) => saysM (Z128 x) Z14; let Z139 := fun (x : Z123) => saysM (Z128 x) Z19; let Z140 := fun (t : Z123) => nat_lit 0 + Z131 t; let Z141 := fun (t : Z123) => Z130 t + Z16; let Z142 := fun (t : Z123) => IntKind.wrap IntKind.i64 (Z141 t); let Z143 := fun (t : Z123) => Value.int IntKind.i64 (Z142 t); let Z144 := fun (x : Z123) => List.getD cs (Z126 x) Z90; let Z145 := fun (t : Z123) => ciM (Z144 t); let Z146 := fun (x : Z123) => Prod.fst (Z144 x); let Z147 := fun (x : Z123) => Prod.snd (Z144 x); let Z148 := fun (t : Z123) => Prod.fst (Z145 t); let Z149 := fun (t : Z123) => Prod.snd (Z145 t); let Z150 := fun (x : Z123) => Value.int IntKind.i64 (Z146 x); let Z151 := fun (t : Z85) (x : Z123) => Z94 t = Z132 x; let Z152 := fun (t : Z123) => Z145 t :: Z13; let Z153 := fun (x : Z123) => Prod.snd (Z147 x); let Z154 := fun (x : Z123) => Prod.fst (Z147 x); let Z155 := fun (t : Z123) => Prod.snd (Z149 t); let Z156 := fun (t : Z123) => Prod.fst (Z149 t); let Z157 := fun (x : Z123) => Prod.snd (Z153 x); let Z158 := fun (x : Z123) => Prod.fst (Z153 x); let Z159 := fun (x : Z123) => Value.int IntKind.i64 (Z154 x); let Z160 := fun (t : Z123) => List.getD cs (Z140 t) Z90; let Z161 := fun (t : Z123) => Prod.fst (Z155 t); let Z162 := fun (t : Z123) => Prod.snd (Z155 t); let Z163 := fun (t : Z123) (x : Z85) => Z136 t = Z97 x; let Z164 := fun (t : Z123) (x : Z85) => Z135 t = Z99 x; let Z165 := fun (t : Z123) (x : Z85) => Z138 t = Z100 x; let Z166 := fun (t : Z123) (x : Z85) => Z134 t = Z96 x; let Z167 := fun (t : Z123) (x : Z85) => Z139 t = Z98 x; let Z168 := fun (t : Z123) (x : Z85) => Z137 t = Z101 x; let Z169 := fun (x : Z123) => Prod.snd (Z158 x); let Z170 := fun (x : Z123) => Prod.snd (Z157 x); let Z171 := fun (x : Z123) => Prod.fst (Z157 x); let Z172 := fun (x : Z123) => Prod.fst (Z158 x); let Z173 := fun (t : Z123) => List.drop Z21 (Z152 t); let Z174 := fun (t : Z123) => Prod.snd (Z162 t); let Z175 := fun (t : Z123) => Prod.fst (Z162 t); let Z176 := fun (t : Z123) => Prod.fst (Z161 t); let Z177 := fun (t : Z123) => Prod.snd (Z161 t); let Z178 := fun (x : Z123) => Value.bool (Z172 x); let Z179 := fun (x : Z123) => Value.bool (Z171 x); let Z180 := fun (x : Z123) => Prod.fst (Z170 x); let Z181 := fun (x : Z123) => Prod.snd (Z169 x); let Z182 := fun (x : Z123) => Prod.fst (Z169 x); let Z183 := fun (x : Z123) => Prod.snd (Z170 x); let Z184 := fun (t : Z123) => Prod.snd (Z160 t); let Z185 := fun (t : Z123) => Prod.fst (Z160 t); let Z186 := fun (t : Z123) => Value.bool (Z176 t); let Z187 := fun (t : Z123) => Value.bool (Z175 t); let Z188 := fun (t : Z123) => Prod.fst (Z177 t); let Z189 := fun (t : Z123) => Prod.snd (Z174 t); let Z190 := fun (t : Z123) => Prod.snd (Z177 t); let Z191 := fun (t : Z123) => AV.v (Z187 t); let Z192 := fun (t : Z123) => Prod.fst (Z174 t); let Z193 := fun (t : Z123) => AV.v (Z186 t); let Z194 := fun (x : Z123) => Value.bool (Z181 x); let Z195 := fun (x : Z123) => Value.bool (Z183 x); let Z196 := fun (x : Z123) => Value.int IntKind.i64 (Z180 x); let Z197 := fun (x : Z123) => Value.int IntKind.i64 (Z182 x); let Z198 := fun (t : Z123) => Value.bool (Z190 t); let Z199 := fun (t : Z123) => Value.bool (Z189 t); let Z200 := fun (t : Z123) (x : Z85) => Z143 t = Z94 x; let Z201 := fun (t : Z123) => AV.v (Z199 t); let Z202 := fun (t : Z123) => AV.v (Z198 t); let Z203 := fun (t : Z123) => Value.int IntKind.i64 (Z192 t); let Z204 := fun (t : Z123) => Value.int IntKind.i64 (Z188 t); let Z205 := fun (t : Z123) => Prod.snd (Z184 t); let Z206 := fun (t : Z123) => Prod.fst (Z184 t); let Z207 := fun (t : Z123) (x : Z85) => Z200 t x ∧ True; let Z208 := fun (t : Z123) => AV.v (Z204 t); let Z209 := fun (t : Z123) => AV.v (Z203 t); let Z210 := fun (t : Z123) => Prod.fst (Z205 t); let Z211 := fun (t : Z123) => Prod.snd (Z205 t); let Z212 := fun (t : Z123) => List.take Z22 (Z173 t); let Z213 := fun (t : Z123) => [Z201 t]; let Z214 := fun (t : Z123) => [Z202 t]; let Z215 := fun (t : Z123) (x : Z85) => Z58 ∧ Z167 t x; let Z216 := fun (t : Z123) (x : Z85) => Z58 ∧ Z165 t x; let Z218 := fun (t : Z123) (x : Z85) => Z58 ∧ Z166 t x; let Z223 := fun (t : Z123) => Prod.snd (Z211 t); let Z224 := fun (t : Z123) => Prod.snd (Z210 t); let Z232 := fun (t : Z123) (x : Z85) => Z35 ∧ Z35 ∧ Z54 ∧ Z67 ∧ Z207 t x; let Z235 := fun (x : Z123) => Z126 x - Z125 x; let Z236 := fun (t : Z123) => Z129 t < Z130 t; let Z240 := fun (t : Z123) => Z185 t == Z146 t; let Z243 := fun (t : Z123) => Z206 t == Z154 t; let Z251 := fun (t : Z123) => Prod.fst (Z210 t) == Z172 t; let Z252 := fun (t : Z123) => Prod.fst (Z211 t) == Z171 t; let Z253 := fun (t : Z123) => Prod.fst (Z224 t) == Z182 t; let Z254 := fun (t : Z123) => Prod.fst (Z223 t) == Z180 t; let Z255 := fun (t : Z123) => Prod.snd (Z224 t) == Z181 t; let Z256 := fun (t : Z123) => Prod.snd (Z223 t) == Z183 t; let Z260 := fun (t : Z123) => decide (Z236 t); let Z265 := fun (t : Z123) (x : Z85) => (Z58 ∧ Z163 t x) ∧ (Z58 ∧ Z168 t x) ∧ (Z58 ∧ Z164 t x) ∧ Z107; let Z274 := fun (t : Z123) => Z193 t :: Z208 t :: Z202 t :: Z191 t :: Z209 t :: Z213 t; let Z289 := fun (t : Z123) => (Z150 t = Z150 t ∧ Z159 t = Z159 t ∧ Z178 t = Z178 t ∧ Z197 t = Z197 t ∧ Z194 t = Z194 t ∧ Z179 t = Z179 t ∧ Z196 t = Z196 t ∧ Z195 t = Z195 t ∧ True) ∧ True; let Z295 := fun (t : Z123) => nat_lit 1 = nat_lit 1 ∧ some [AV.alt (Z148 t) (AV.ifc Z31 (AV.agg (Z274 t))) (AV.alt (Z156 t) (AV.ifc Z32 (AV.agg (Z274 t))) (AV.ifc Z30 (AV.agg (Z193 t :: Z208 t :: Z214 t))))] = some [AV.alt (Z148 t) (AV.ifc Z31 (AV.agg (Z274 t))) (AV.alt (Z156 t) (AV.ifc Z32 (AV.agg (Z274 t))) (AV.ifc Z30 (AV.agg (Z193 t :: Z208 t :: Z214 t))))]; (Z4 < nat_lit 1000 ∧ Z5 < nat_lit 1000) ∧ (Z95 ∧ True) ∧ (Z26 ∧ Z24 ∧ True) ∧ True ∧ (Z69 = true → Z109 ∧ True ∧ True ∧ (b = true → Z70 ∧ True ∧ (∃ (x : Z85), (Z35 ∧ Z35 ∧ Z54 ∧ Z67 ∧ Z41 = Z94 x ∧ True) ∧ True ∧ Z26 ∧ Z24 ∧ Z95 ∧ Z61 ∧ (Z43 ∧ Z13 = Z100 x) ∧ (Z43 ∧ Z13 = Z96 x) ∧ (Z43 ∧ Z13 = Z98 x) ∧ (Z43 ∧ Z13 = Z97 x) ∧ (Z43 ∧ Z13 = Z101 x) ∧ (Z43 ∧ Z13 = Z99 x) ∧ Z107) ∧ ∀ (t : Z85), (Z127 t = true → (Z104 t ∧ Z108 t) ∧ Z106 t < Z23 ∧ (Z14 ≤ Z14 ∧ Z104 t ∧ Z91 t ≤ Z36) ∧ ∃ (x : Z123), ((Z35 ∧ Z35 ∧ Z54 ∧ Z67 ∧ Z151 t x ∧ Z35 ∧ Z151 t x ∧ (nat_lit 0 = nat_lit 0 ∧ nat_lit 0 = nat_lit 0 ∧ Z105 t = Z126 x) ∧ Value.int IntKind.i64 (↑(Z105 t) : Int) = Z132 x ∧ Z41 = Z133 x ∧ True) ∧ True ∧ Z26 ∧ Z24 ∧ Z95 ∧ Z61 ∧ (Z58 ∧ Z100 t = Z138 x) ∧ (Z58 ∧ Z96 t = Z134 x) ∧ (Z58 ∧ Z98 t = Z139 x) ∧ (Z58 ∧ Z97 t = Z136 x) ∧ (Z58 ∧ Z101 t = Z137 x) ∧ (Z58 ∧ Z99 t = Z135 x) ∧ Z103 ∧ (Value.int IntKind.i64 (Prod.fst (Z114 t)) = Z150 x ∧ Value.int IntKind.i64 (Prod.fst (Z116 t)) = Z159 x ∧ Value.bool (Prod.fst (Z119 t)) = Z178 x ∧ Value.int IntKind.i64 (Prod.fst (Z121 t)) = Z197 x ∧ Value.bool (Prod.snd (Z121 t)) = Z194 x ∧ Value.bool (Prod.fst (Z118 t)) = Z179 x ∧ Value.int IntKind.i64 (Prod.fst (Z120 t)) = Z196 x ∧ Value.bool (Prod.snd (Z120 t)) = Z195 x ∧ True) ∧ True) ∧ Z126 x = Z126 x ∧ ∀ (t_1 : Z123), Z126 t_1 = Z126 x → (Z260 t_1 = true → (Z14 ≤ Z129 t_1 ∧ Z236 t_1) ∧ Z140 t_1 < Z23 ∧ ((Z240 t_1 && (Z243 t_1 && (Z251 t_1 && (Z253 t_1 && (Z255 t_1 && true)) && (Z252 t_1 && (Z254 t_1 && (Z256 t_1 && true)) && true)))) = true → True ∧ ∃ (x : Z85), (Z232 t_1 x ∧ True ∧ Z26 ∧ Z24 ∧ Z95 ∧ Z61 ∧ Z216 t_1 x ∧ Z218 t_1 x ∧ Z215 t_1 x ∧ Z265 t_1 x) ∧ Z115 x t) ∧ ((Z240 t_1 && (Z243 t_1 && (Z251 t_1 && (Z253 t_1 && (Z255 t_1 && true)) && (Z252 t_1 && (Z254 t_1 && (Z256 t_1 && true)) && true)))) = false → True ∧ ∃ (x_1 : Z123), ((Z35 ∧ Z35 ∧ Z54 ∧ Z67 ∧ Z132 t_1 = Z132 x_1 ∧ Z35 ∧ Z132 t_1 = Z132 x_1 ∧ (nat_lit 0 = nat_lit 0 ∧ nat_lit 0 = nat_lit 0 ∧ Z126 t_1 = Z126 x_1) ∧ Z132 t_1 = Z132 x_1 ∧ Value.int IntKind.i64 (IntKind.wrap IntKind.i64 (Z129 t_1 + Z16)) = Z133 x_1 ∧ True) ∧ True ∧ Z26 ∧ Z24 ∧ Z95 ∧ Z61 ∧ (Z58 ∧ Z138 t_1 = Z138 x_1) ∧ (Z58 ∧ Z134 t_1 = Z134 x_1) ∧ (Z58 ∧ Z139 t_1 = Z139 x_1) ∧ (Z58 ∧ Z136 t_1 = Z136 x_1) ∧ (Z58 ∧ Z137 t_1 = Z137 x_1) ∧ (Z58 ∧ Z135 t_1 = Z135 x_1) ∧ Z103 ∧ (Z150 t_1 = Z150 x_1 ∧ Z159 t_1 = Z159 x_1 ∧ Z178 t_1 = Z178 x_1 ∧ Z197 t_1 = Z197 x_1 ∧ Z194 t_1 = Z194 x_1 ∧ Z179 t_1 = Z179 x_1 ∧ Z196 t_1 = Z196 x_1 ∧ Z195 t_1 = Z195 x_1 ∧ True) ∧ True) ∧ Z235 x_1 < Z235 t_1 ∧ Z126 x_1 = Z126 x)) ∧ (Z260 t_1 = false → (Z14 ≤ Z146 t_1 ∧ Z146 t_1 < (↑(nat_lit 6) : Int)) ∧ (Z146 t_1 = (↑(nat_lit 0) : Int) → Z56 ∧ True ∧ Z289 t_1 ∧ True ∧ Z295 t_1 ∧ Z8 ∧ List.length (Z138 t_1) + nat_lit 1 ≤ nat_lit 1099511627776 ∧ True ∧ ∃ (x : Z85), (Z232 t_1 x ∧ True ∧ Z26 ∧ Z24 ∧ Z95 ∧ Z61 ∧ (Z43 ∧ Z138 t_1 ++ Z212 t_1 = Z100 x) ∧ Z218 t_1 x ∧ Z215 t_1 x ∧ Z265 t_1 x) ∧ Z115 x t) ∧ (Z146 t_1 = (↑(nat_lit 1) : Int) → Z56 ∧ True ∧ Z289 t_1 ∧ True ∧ Z295 t_1 ∧ Z8 ∧ List.length (Z134 t_1) + nat_lit 1 ≤ nat_lit 1099511627776 ∧ True ∧ ∃ (x : Z85), (Z232 t_1 x ∧ True ∧ Z26 ∧ Z24 ∧ Z95 ∧ Z61 ∧ Z216 t_1 x ∧ (Z43 ∧ Z134 t_1 ++ Z212 t_1 = Z96 x) ∧ Z215 t_1 x ∧ Z265 t_1 x) ∧ Z115 x t) ∧ (Z146 t_1 = (↑(nat_lit 2) : Int) → Z56 ∧ True ∧ Z289 t_1 ∧ True ∧ Z295 t_1 ∧ Z8 ∧ List.length (Z139 t_1) + nat_lit 1 ≤ nat_lit 1099511627776 ∧ True ∧ ∃ (x : Z85), (Z232 t_1 x ∧ True ∧ Z26 ∧ Z24 ∧ Z95 ∧ Z61 ∧ Z216 t_1 x ∧ Z218 t_1 x ∧ (Z43 ∧ Z139 t_1 ++ Z212 t_1 = Z98 x) ∧ Z265 t_1 x) ∧ Z115 x t) ∧ (Z146 t_1 = (↑(nat_lit 3) : Int) → Z56 ∧ True ∧ Z289 t_1 ∧ True ∧ Z295 t_1 ∧ Z8 ∧ List.length (Z136 t_1) + nat_lit 1 ≤ nat_lit 1099511627776 ∧ True ∧ ∃ (x : Z85), (Z232 t_1 x ∧ True ∧ Z26 ∧ Z24 ∧ Z95 ∧ Z61 ∧ Z216 t_1 x ∧ Z218 t_1 x ∧ Z215 t_1 x ∧ (Z43 ∧ Z136 t_1 ++ Z212 t_1 = Z97 x) ∧ (Z58 ∧ Z168 t_1 x) ∧ (Z58 ∧ Z164 t_1 x) ∧ Z107) ∧ Z115 x t) ∧ (Z146 t_1 = (↑(nat_lit 4) : Int) → Z56 ∧ True ∧ Z289 t_1 ∧ True ∧ Z295 t_1 ∧ Z8 ∧ List.length (Z137 t_1) + nat_lit 1 ≤ nat_lit 1099511627776 ∧ True ∧ ∃ (x : Z85), (Z232 t_1 x ∧ True ∧ Z26 ∧ Z24 ∧ Z95 ∧ Z61 ∧ Z216 t_1 x ∧ Z218 t_1 x ∧ Z215 t_1 x ∧ (Z58 ∧ Z163 t_1 x) ∧ (Z43 ∧ Z137 t_1 ++ Z212 t_1 = Z101 x) ∧ (Z58 ∧ Z164 t_1 x) ∧ Z107) ∧ Z115 x t) ∧ (Z146 t_1 = (↑(nat_lit 5) : Int) → Z56 ∧ True ∧ Z289 t_1 ∧ True ∧ Z295 t_1 ∧ Z8 ∧ List.length (Z135 t_1) + nat_lit 1 ≤ nat_lit 1099511627776 ∧ True ∧ ∃ (x : Z85), (Z232 t_1 x ∧ True ∧ Z26 ∧ Z24 ∧ Z95 ∧ Z61 ∧ Z216 t_1 x ∧ Z218 t_1 x ∧ Z215 t_1 x ∧ (Z58 ∧ Z163 t_1 x) ∧ (Z58 ∧ Z168 t_1 x) ∧ (Z43 ∧ Z135 t_1 ++ Z212 t_1 = Z99 x) ∧ Z107) ∧ Z115 x t) ∧ True)) ∧ (Z127 t = false → True ∧ (Z35 ∧ True) ∧ True ∧ Z26 ∧ Z24 ∧ Z103 ∧ Z61 ∧ (Z58 ∧ Z100 t = saysM cs Z14) ∧ (Z58 ∧ Z96 t = saysM cs Z16) ∧ (Z58 ∧ Z98 t = saysM cs Z19) ∧ (Z58 ∧ Z97 t = saysM cs Z17) ∧ (Z58 ∧ Z101 t = saysM cs Z15) ∧ (Z58 ∧ Z99 t = saysM cs Z18) ∧ True)) ∧ (b = false → Z70 ∧ True ∧ False)) ∧ (Z69 = false → Z109 ∧ True ∧ False))
    (by kernel_rfl) ?_
  simp only [openS, okH, Bool.and_eq_true] at hl hc
  have hh := hear_ok hc.1
  simp only [eq_self, true_and, and_true, Int.toNat_natCast, Nat.zero_add, Nat.sub_zero]
  refine ⟨hl, fun _ => ⟨fun _ => ⟨⟨⟨0, Nat.zero_le _⟩, by simp [saysM, ddM]⟩, fun t => ⟨fun ht => ?_, fun ht => ?_⟩⟩, fun hb => by have h1 := hc.2; have h2 : b = true := h1; rw [h2] at hb; cases hb⟩, fun hf => by have h1 := hc.1; rw [h1] at hf; cases hf⟩
  · obtain ⟨i, hi⟩ := t
    have hlt : i < cs.length := by simpa using ht
    refine ⟨⟨by simp, by simpa using hlt⟩, hlt, ⟨by omega, by simp, by simpa using hi⟩, ⟨⟨(i, 0), hlt, Nat.zero_le _, fun j hj => absurd hj (by simp)⟩, by simp, ?_⟩⟩
    rintro ⟨⟨i1, j⟩, h1, h2, h3⟩ hrel
    have hrel' : i1 = i := hrel
    subst hrel'
    have hget : ∀ j, j < i1 → cs.getD j dfC ∈ cs.take i1 := fun j hj => (mem_take_getD cs i1 dfC _ hi).2 ⟨j, hj, rfl⟩
    have hw : IntKind.i64.wrap ((i1 : Int) + 1) = ((i1 + 1 : Nat) : Int) := by rw [wrap_id (by omega) (by omega)]; rfl
    have hrange := (hh.claims (cs.getD i1 dfC) (by rw [List.getD_eq_getElem?_getD, List.getElem?_eq_getElem hlt]; exact List.getElem_mem hlt)).2.1
    refine ⟨fun hj => ⟨⟨by simp, by simpa using hj⟩, ?_, fun heq => ⟨⟨i1 + 1, hlt⟩, ?_⟩, fun hne => ⟨⟨(i1, j + 1), h1, ?_, ?_⟩, ?_⟩⟩, fun hj => ?_⟩
    · have : j < i1 := by simpa using hj
      show j < cs.length
      omega
    · have hj' : j < i1 := by simpa using hj
      have he := (eqCl _ _).1 heq
      have hd : cs.getD i1 dfC ∈ cs.take i1 := by rw [← he]; exact hget j hj'
      simp only [take_snoc cs i1 hlt dfC, saysM_dup _ _ _ hd, hw]
      refine ⟨by simp, by omega⟩
    · have hj' : j < i1 := by simpa using hj
      exact hj'
    · intro k hk he
      rcases Nat.lt_or_eq_of_le (Nat.le_of_lt_succ hk) with h5 | h5
      · exact h3 k h5 he
      · have h5' : k = j := h5
        subst h5'
        have := (eqCl _ _).2 he
        exact Bool.noConfusion (this.symm.trans hne)
    · have hj' : j < i1 := by simpa using hj
      have hw2 : IntKind.i64.wrap ((j : Int) + 1) = ((j + 1 : Nat) : Int) := by rw [wrap_id (by omega) (by omega)]; rfl
      simp only [hw2]
      refine ⟨by simp, by omega, trivial⟩
    · have hj' : j = i1 := by
        have : ¬ j < i1 := by simpa using hj
        have : j ≤ i1 := h2
        omega
      subst hj'
      have hnew : cs.getD j dfC ∉ cs.take j := fun hm => by
        obtain ⟨k, hk, he⟩ := (mem_take_getD cs j dfC _ hi).1 hm
        exact h3 k hk he
      have hsl : ∀ k, (saysM (cs.take j) k).length ≤ 1000 := fun k => by
        have := saysM_length (cs.take j) k
        rw [List.length_take] at this
        omega
      have hbr : ∀ k0 : Int, (cs.getD j dfC).1 = k0 → ∀ k, saysM (cs.take (j + 1)) k = if k0 = k then saysM (cs.take j) k ++ [ciM (cs.getD j dfC)] else saysM (cs.take j) k := fun k0 hk k => by
        rw [take_snoc cs j hlt dfC, saysM_new _ _ _ hnew, hk]
      have hw6 := hh.w.2
      refine ⟨⟨hrange.1, ?_⟩, fun hn => ?_, fun hn => ?_, fun hn => ?_, fun hn => ?_, fun hn => ?_, fun hn => ?_⟩
      · have h7 := hrange.2
        have h8 : (cs.getD j dfC).1 < 6 := by
          have : w ≤ 6 := hw6
          have : (cs.getD j dfC).1 < w := h7
          omega
        exact h8
      · refine ⟨Nat.le_refl _, by have := hsl 0; simp; omega, ⟨j + 1, hlt⟩, ?_, by show cs.length - (j + 1) < cs.length - j; omega⟩
        simp [hw, hbr _ hn]
      · refine ⟨Nat.le_refl _, by have := hsl 1; simp; omega, ⟨j + 1, hlt⟩, ?_, by show cs.length - (j + 1) < cs.length - j; omega⟩
        simp [hw, hbr _ hn]
      · refine ⟨Nat.le_refl _, by have := hsl 2; simp; omega, ⟨j + 1, hlt⟩, ?_, by show cs.length - (j + 1) < cs.length - j; omega⟩
        simp [hw, hbr _ hn]
      · refine ⟨Nat.le_refl _, by have := hsl 3; simp; omega, ⟨j + 1, hlt⟩, ?_, by show cs.length - (j + 1) < cs.length - j; omega⟩
        simp [hw, hbr _ hn]
      · refine ⟨Nat.le_refl _, by have := hsl 4; simp; omega, ⟨j + 1, hlt⟩, ?_, by show cs.length - (j + 1) < cs.length - j; omega⟩
        simp [hw, hbr _ hn]
      · refine ⟨Nat.le_refl _, by have := hsl 5; simp; omega, ⟨j + 1, hlt⟩, ?_, by show cs.length - (j + 1) < cs.length - j; omega⟩
        simp [hw, hbr _ hn]
  · have : t.1 = cs.length := by
      have h1 := t.2
      have h2 : ¬ t.1 < cs.length := by simpa using ht
      omega
    rw [this, List.take_length]
    simp

theorem open_sound : Sound Try.prog 49 openS.con := FSpec2.sound _ (enter_of Try.func49 (by kernel_rfl) (by kernel_rfl)) fun x h => ⟨open_ok1 x h, open_ok2 x h⟩
end AE.Pr

namespace AE.Pr
open Go AE Go.Proofs

theorem powW (n : Nat) (h : n ≤ 6) : IntKind.u64.wrap (1 * 2 ^ min n 64) = ((2 ^ n : Nat) : Int) := by
  have : ∀ n : Fin 7, IntKind.u64.wrap (1 * 2 ^ min n.val 64) = ((2 ^ n.val : Nat) : Int) := by decide +kernel
  exact this ⟨n, by omega⟩
theorem everyW (n : Nat) (h : n ≤ 6) : IntKind.u64.wrap (everyM n + 1) = ((2 ^ n : Nat) : Int) := by
  have : ∀ n : Fin 7, IntKind.u64.wrap (everyM n.val + 1) = ((2 ^ n.val : Nat) : Int) := by decide +kernel
  exact this ⟨n, by omega⟩
theorem everyB (n : Nat) (h : n ≤ 6) : 0 ≤ everyM n ∧ everyM n < 64 := by
  have : ∀ n : Fin 7, 0 ≤ everyM n.val ∧ everyM n.val < 64 := by decide +kernel
  exact this ⟨n, by omega⟩
theorem sucW (b : Nat) (h : b < 64) : IntKind.u64.wrap ((b : Int) + 1) = ((b + 1 : Nat) : Int) := by
  have : ∀ n : Fin 64, IntKind.u64.wrap ((n.val : Int) + 1) = ((n.val + 1 : Nat) : Int) := by decide +kernel
  exact this ⟨b, h⟩
theorem pow64 (n : Nat) (h : n ≤ 6) : 2 ^ n ≤ 64 := Nat.le_trans (Nat.pow_le_pow_right (by omega) h) (by decide)
theorem dec1 {N b : Nat} (h : b < N) : N - (b + 1) < N - b := by omega
theorem isM_big {x : RT} {heard : Int} {t : Int × Int} (h : popM t.2 > x.1.2.2) : isM x heard t = false := by
  have : decide (popM t.2 ≤ x.1.2.2) = false := by simp; omega
  unfold isM; rw [this]; rfl
theorem isM_says {x : RT} {heard : Int} {t : Int × Int} {k : Nat} (hk : k < x.1.2.1.toNat) (h : sayM x heard t k = false) : isM x heard t = false := by
  have : (List.range x.1.2.1.toNat).all (sayM x heard t) = false := by
    rw [List.all_eq_false]; exact ⟨k, List.mem_range.2 hk, by simp [h]⟩
  unfold isM; rw [this]; simp
theorem isM_known {x : RT} {heard : Int} {t : Int × Int} {j : Nat} (hj : j < x.2.1.length) (h : rightM t (x.2.1.getD j dfW) = false) : isM x heard t = false := by
  have : x.2.1.all (rightM t) = false := by
    rw [List.all_eq_false]
    refine ⟨x.2.1[j], List.getElem_mem hj, ?_⟩
    rw [List.getD_eq_getElem?_getD, List.getElem?_eq_getElem hj] at h
    simpa using h
  unfold isM; rw [this]; simp
theorem isM_true {x : RT} {heard : Int} {t : Int × Int} (h1 : popM t.2 ≤ x.1.2.2) (h2 : ∀ k, k < x.1.2.1.toNat → sayM x heard t k = true) (h3 : ∀ j, j < x.2.1.length → rightM t (x.2.1.getD j dfW) = true) : isM x heard t = true := by
  have a : (List.range x.1.2.1.toNat).all (sayM x heard t) = true := by
    rw [List.all_eq_true]; intro k hk; exact h2 k (List.mem_range.1 hk)
  have b : x.2.1.all (rightM t) = true := by
    rw [List.all_eq_true]
    intro y hy
    obtain ⟨j, hj, rfl⟩ := List.getElem_of_mem hy
    have := h3 j hj
    rwa [List.getD_eq_getElem?_getD, List.getElem?_eq_getElem hj] at this
  unfold isM; rw [a, b]; simp [h1]
theorem sayM_no {x : RT} {heard : Int} {t : Int × Int} {k : Nat} (h1 : hasM heard k = true) (h2 : (!(liesM t (rowK x k) == hasM t.2 k)) = true) : sayM x heard t k = false := by
  unfold sayM; rw [h1, bne, h2]; rfl
theorem sayM_yes {x : RT} {heard : Int} {t : Int × Int} {k : Nat} (h2 : (!(liesM t (rowK x k) == hasM t.2 k)) = false) : sayM x heard t k = true := by
  unfold sayM; rw [bne, h2]; simp
theorem sayM_off {x : RT} {heard : Int} {t : Int × Int} {k : Nat} (h1 : hasM heard k = false) : sayM x heard t k = true := by
  unfold sayM; rw [h1]; rfl
theorem below_succ {p : Nat → Prop} {k : Nat} (h : ∀ j, j < k → p j) (hk : p k) : ∀ j, j < k + 1 → p j := by
  intro j hj
  rcases Nat.lt_or_eq_of_le (Nat.le_of_lt_succ hj) with h1 | rfl
  · exact h j h1
  · exact hk
end AE.Pr

namespace AE.Pr
open Go AE Go.Proofs

/-! ### a hearing that is looked at, in memory -/
def rtH (x : RT) : Heap UU := [.one (.rc [.i x.1.1, .i x.1.2.1, .i x.1.2.2, .junk, .sl 1 0 0 x.2.1.length, .map 2 0] 100), .one (.ro .word x.2.1),
  .one (.mrow false [.sl 3 0 0 x.2.2.1.length, .sl 4 0 0 x.2.2.2.1.length, .sl 5 0 0 x.2.2.2.2.1.length, .sl 6 0 0 x.2.2.2.2.2.1.length, .sl 7 0 0 x.2.2.2.2.2.2.1.length, .sl 8 0 0 x.2.2.2.2.2.2.2.length]),
  .one (.ro .ci x.2.2.1), .one (.ro .ci x.2.2.2.1), .one (.ro .ci x.2.2.2.2.1), .one (.ro .ci x.2.2.2.2.2.1), .one (.ro .ci x.2.2.2.2.2.2.1), .one (.ro .ci x.2.2.2.2.2.2.2)]
def avRT (H : Heap UU) (vs : List AV) : Option RT := match vs with
  | [f, w, l, _, ks, .map m _] => match blkAt H m 0 with
    | some (.mrow _ [a, b, c, d, e, g]) => match avInt f, avInt w, avInt l, sliceAt .word H ks, sliceAt .ci H a, sliceAt .ci H b, sliceAt .ci H c, sliceAt .ci H d, sliceAt .ci H e, sliceAt .ci H g with
      | some f, some w, some l, some ks, some a, some b, some c, some d, some e, some g => some ((f, w, l), ks, a, b, c, d, e, g)
      | _, _, _, _, _, _, _, _, _, _ => none
    | _ => none
  | _ => none
def avHr (H : Heap UU) : AV → Option RT
  | .ptr id 0 0 0 => match blkAt H id 0 with
    | some (.cells vs _) => avRT H vs
    | some (.rc vs _) => avRT H vs
    | _ => none
  | _ => none

/-! ### the iterator's loops, in a consumer's memory Hc, which hangs on how far they are -/
def itFr (l p1 p2 : Nat) : Fr := [(0, .fn (.yield l) [] []), (1, .ptr p1 0 0 0), (2, .ptr p2 0 0 0)]
def tCell (a b : Nat) : AB UU := .one (.cells [AV.u a, AV.u b] 85)
def itL1 (x : RT) (l p1 p2 : Nat) (Hc : Nat → Nat → Heap UU) : LSpec UU where
  T := { a : Nat // a ≤ 2 ^ x.1.1.toNat }
  fr := fun a => itFr l p1 p2 ++ [(17, AV.u (2 ^ x.1.1.toNat : Nat)), (18, AV.u a.1)]
  H := fun a => Hc a.1 0
  mu := fun a => 2 ^ x.1.1.toNat - a.1
def itL2 (x : RT) (l p1 p2 : Nat) (Hc : Nat → Nat → Heap UU) : LSpec UU where
  T := { p : Nat × Nat // p.1 < 2 ^ x.1.1.toNat ∧ p.2 ≤ 2 ^ x.1.2.1.toNat }
  fr := fun p => itFr l p1 p2 ++ [(17, AV.u (2 ^ x.1.1.toNat : Nat)), (18, AV.u p.1.1), (4, AV.u p.1.1), (23, AV.u (2 ^ x.1.2.1.toNat : Nat)), (24, AV.u p.1.2)]
  H := fun p => Hc p.1.1 p.1.2
  mu := fun p => 2 ^ x.1.2.1.toNat - p.1.2
def itL3 (x : RT) (heard : Int) (l p1 p2 tc : Nat) (Hc : Nat → Nat → Heap UU) : LSpec UU where
  T := { p : (Nat × Nat) × Nat // p.1.1 < 2 ^ x.1.1.toNat ∧ p.1.2 < 2 ^ x.1.2.1.toNat ∧ popM p.1.2 ≤ x.1.2.2 ∧ p.2 ≤ x.1.2.1.toNat ∧ ∀ k, k < p.2 → sayM x heard (tM p.1.1 p.1.2) k = true }
  fr := fun p => itFr l p1 p2 ++ [(17, AV.u (2 ^ x.1.1.toNat : Nat)), (18, AV.u p.1.1.1), (4, AV.u p.1.1.1), (23, AV.u (2 ^ x.1.2.1.toNat : Nat)), (24, AV.u p.1.1.2), (5, AV.u p.1.1.2), (6, .ptr tc 0 0 0), (42, .i x.1.2.1), (43, .i p.1.2)]
  H := fun p => Hc p.1.1.1 p.1.1.2 ++ [tCell p.1.1.1 p.1.1.2]
  mu := fun p => x.1.2.1.toNat - p.1.2
def itL4 (x : RT) (heard : Int) (l p1 p2 tc : Nat) (Hc : Nat → Nat → Heap UU) : LSpec UU where
  T := { p : (Nat × Nat) × Nat // p.1.1 < 2 ^ x.1.1.toNat ∧ p.1.2 < 2 ^ x.1.2.1.toNat ∧ popM p.1.2 ≤ x.1.2.2 ∧ (∀ k, k < x.1.2.1.toNat → sayM x heard (tM p.1.1 p.1.2) k = true) ∧ p.2 ≤ x.2.1.length ∧ ∀ j, j < p.2 → rightM (tM p.1.1 p.1.2) (x.2.1.getD j dfW) = true }
  fr := fun p => itFr l p1 p2 ++ [(17, AV.u (2 ^ x.1.1.toNat : Nat)), (18, AV.u p.1.1.1), (4, AV.u p.1.1.1), (23, AV.u (2 ^ x.1.2.1.toNat : Nat)), (24, AV.u p.1.1.2), (5, AV.u p.1.1.2), (6, .ptr tc 0 0 0), (9, .fn (.func 56) [.agg [AV.u p.1.1.1, AV.u p.1.1.2]] []), (71, .sl 1 0 0 x.2.1.length), (72, .i x.2.1.length), (73, .i p.1.2)]
  H := fun p => Hc p.1.1.1 p.1.1.2 ++ [tCell p.1.1.1 p.1.1.2]
  mu := fun p => x.2.1.length - p.1.2
def itLs (x : RT) (heard : Int) (p1 p2 tc : Nat) (Hc : Nat → Nat → Heap UU) (l k : Nat) : Option (LRule UU) :=
  match k with
  | 1 => some (.inv (itL1 x l p1 p2 Hc))
  | 4 => some (.invR (itL2 x l p1 p2 Hc) fun a b => b.1.1 = a.1.1)
  | 9 => some (.invR (itL3 x heard l p1 p2 tc Hc) fun a b => b.1.1 = a.1.1)
  | 16 => some (.invR (itL4 x heard l p1 p2 tc Hc) fun a b => b.1.1 = a.1.1)
  | _ => none
def Tit : Tab UU := [(51, everyS.con), (60, popS.con), (83, hasS.con), (84, (idxIS fun x => .b (liesM x.1 x.2)).con), (56, rightS.con)]
theorem Tit_ok : Tit.Sound Try.prog := .cons every_sound (.cons size_sound (.cons has_sound (.cons anyI_sound (.cons right_sound .nil))))
def spIt (k : Nat) : Option (Nat × Nat) := match Nat.beq k 10 with
  | true => some (7, 6)
  | false => none
theorem itP_ok {L : Nat → Nat → Option (LRule UU)} : ItOk Try.prog (itOf Try.prog Tit 81 Try.f81 L (fun _ => []) spIt) :=
  itOf_ok hmix Tit_ok Try.func81 (by kernel_rfl) (by kernel_rfl) (enter_of Try.func81 (by kernel_rfl) (by kernel_rfl))
def onlyAt (n : Nat) (i : ItW UU) (k : Nat) : Option (ItW UU) := match Nat.beq k n with
  | true => some i
  | false => none
theorem onlyAt_ok {n : Nat} {i : ItW UU} (h : ItOk Try.prog i) : ∀ k j, onlyAt n i k = some j → ItOk Try.prog j := by
  intro k j hk
  unfold onlyAt at hk
  split at hk
  · cases hk; exact h
  · cases hk

/-! ### all -/
def allHc (x : RT) (heard : Int) (a b : Nat) : Heap UU := rtH x ++ [.one (.cells [.gs 12 0] 88), .one (.cells [.ptr 0 0 0 0] 72), .one (.cells [AV.u heard] 78), .one (.row .truth (preM x heard a b) 85)]
def allS : FSpec2 UU where
  X := RT
  pick := fun args H => match args with
    | [a] => avHr H a
    | _ => none
  args := fun _ => [.ptr 0 0 0 0]
  H := fun x => rtH x
  c := fun x => decide (((allM x (everyM x.1.2.1.toNat)).length : Int) > 0)
  R := fun x => .val ⟨.gs 9 0, [], [], [.row .truth (allM x (everyM x.1.2.1.toNat)) 85]⟩
  R' := fun _ => .panic (failV 10)
  pre := fun x => RtOk x
def Tall : Tab UU := [(51, everyS.con), (50, truthsS.con), (68, needS.con)]
theorem Tall_ok : Tall.Sound Try.prog := .cons every_sound (.cons truths_sound (.cons need_sound .nil))
set_option maxHeartbeats 0 in
set_option maxRecDepth 100000 in
theorem all_ok : ∀ x, allS.pre x → (allS.c x = true → FunOk Try.prog 57 (allS.args x) (allS.H x) (allS.R x)) ∧ (allS.c x = false → FunOk Try.prog 57 (allS.args x) (allS.H x) (allS.R' x)) := by
  rintro ⟨⟨f, w, li⟩, ks, r0, r1, r2, r3, r4, r5⟩ hx
  refine fun_ofE (T := Tall) (L := fun _ => none) (hs := fun _ => []) (sp := fun _ => none) hmix Tall_ok (tl := fun _ => none) (fun _ _ h => by cases h) (it := onlyAt 3 (itOf Try.prog Tit 81 Try.f81 (itLs ((f, w, li), ks, r0, r1, r2, r3, r4, r5) (everyM w.toNat) 10 11 13 (allHc ((f, w, li), ks, r0, r1, r2, r3, r4, r5) (everyM w.toNat))) (fun _ => []) spIt)) (onlyAt_ok itP_ok) Try.func57 (by kernel_rfl) (by kernel_rfl) ?_
  refine Eq.mp (α :=
      let Z0 := Int.toNat w; let Z1 := Int.toNat f; let Z2 := True ∧ True; let Z3 := none; let Z4 := fun (p : Nat × Nat) => Prod.snd p; let Z5 := fun (p : Nat × Nat) => Prod.fst p; let Z6 := List.length r3; let Z7 := List.length r0; let Z8 := List.length r1; let Z9 := List.length r4; let Z10 := List.length ks; let Z11 := List.length r2; let Z12 := List.length r5; let Z13 := (w, li); let Z14 := nat_lit 0 = nat_lit 0 ∧ True; let Z15 := True ∧ Z2; let Z16 := everyM Z0; let Z17 := Value.int IntKind.i64 f; let Z18 := Value.int IntKind.i64 li; let Z19 := Value.int IntKind.i64 w; let Z20 := nat_lit 0 = nat_lit 0 ∧ nat_lit 0 = nat_lit 0; let Z21 := (↑(nat_lit 3) : Int); let Z22 := (↑(nat_lit 2) : Int); let Z23 := (↑(nat_lit 0) : Int); let Z24 := (↑(nat_lit 1) : Int); let Z25 := (↑(nat_lit 4) : Int); let Z26 := (↑(nat_lit 5) : Int); let Z27 := fun (p : (Nat × Nat) × Nat) => Prod.fst p; let Z28 := fun (p : (Nat × Nat) × Nat) => Prod.snd p; let Z29 := (0 : Int); let Z30 := (6 : Int); let Z31 := (1 : Int); let Z32 := []; let Z33 := fun (l : Nat) => Fn.yield l = Fn.yield l; let Z34 := (10 : Int); let Z35 := (64 : Int); let Z36 := Value.slice Z3 (nat_lit 0) (nat_lit 0); let Z37 := (0 : Nat); let Z38 := (2 : Nat); let Z39 := True ∧ Z15; let Z40 := r1 = r1; let Z41 := r5 = r5; let Z42 := r3 = r3; let Z43 := r4 = r4; let Z44 := r0 = r0; let Z45 := r2 = r2; let Z46 := ks = ks; let Z47 := (r4, r5); let Z48 := (82 : FuncId); let Z49 := (85 : TypeId); let Z50 := (56 : FuncId); let Z51 := (112 : TypeId); let Z52 := AV.v Z36; let Z53 := True ∧ Z39; let Z54 := fun (c : Ci) => Prod.snd c; let Z55 := fun (c : Ci) => Prod.fst c; let Z56 := Value.int IntKind.u64 Z16; let Z57 := nat_lit 0 = nat_lit 0 ∧ Z20; let Z58 := fun (p : (Nat × Nat) × Nat) => Prod.snd (Z27 p); let Z59 := fun (p : (Nat × Nat) × Nat) => Prod.fst (Z27 p); let Z60 := Fn.func Z50; let Z61 := Fn.func Z48; let Z62 := (↑Z10 : Int); let Z63 := Z11 = Z11; let Z64 := Z8 = Z8; let Z65 := Z12 = Z12; let Z66 := Z6 = Z6; let Z67 := Z10 = Z10; let Z68 := Z7 = Z7; let Z69 := Z9 = Z9; let Z70 := Value.int IntKind.i64 Z23; let Z71 := Value.int IntKind.i64 Z21; let Z72 := Value.int IntKind.i64 Z25; let Z73 := Value.int IntKind.i64 Z26; let Z74 := Value.int IntKind.i64 Z22; let Z75 := Value.int IntKind.i64 Z24; let Z76 := (f, Z13); let Z77 := Value.int IntKind.i64 Z29; let Z78 := fun (l : Nat) => Z33 l ∧ Z2; let Z79 := fun (k : Nat) (p : (Nat × Nat) × Nat) => k < Z28 p; let Z80 := Value.int IntKind.u64 Z29; let Z81 := True ∧ Z53; let Z82 := Value.int IntKind.i64 Z34; let Z83 := Z57 ∧ True; let Z84 := Z29 ≤ w; let Z85 := w ≤ Z30; let Z86 := (Z29, false); let Z87 := Z17 = Z17; let Z88 := Z18 = Z18; let Z89 := Z19 = Z19; let Z90 := hasM Z16 Z24; let Z91 := hasM Z16 Z22; let Z92 := hasM Z16 Z25; let Z93 := hasM Z16 Z23; let Z94 := hasM Z16 Z21; let Z95 := hasM Z16 Z26; let Z96 := fun (c : Ci) => Z55 c = true; let Z97 := True ∧ Z81; let Z98 := Fn.func (nat_lit 82) = Z61; let Z99 := True ∧ Z83; let Z100 := nat_lit 0 = nat_lit 0 ∧ Z64; let Z101 := nat_lit 0 = nat_lit 0 ∧ Z66; let Z102 := nat_lit 0 = nat_lit 0 ∧ Z68; let Z103 := nat_lit 0 = nat_lit 0 ∧ Z69; let Z104 := nat_lit 0 = nat_lit 0 ∧ Z67; let Z105 := nat_lit 0 = nat_lit 0 ∧ Z63; let Z106 := nat_lit 0 = nat_lit 0 ∧ Z65; let Z107 := Value.int IntKind.i64 Z62; let Z108 := fun (p : (Nat × Nat) × Nat) => (↑(Z58 p) : Int); let Z109 := fun (c : Ci) => Prod.snd (Z54 c); let Z110 := fun (c : Ci) => Prod.fst (Z54 c); let Z111 := Z29 ≤ Z16; let Z112 := Z16 < Z35; let Z113 := nat_lit 2 ^ Z0; let Z114 := nat_lit 2 ^ Z1; let Z115 := Z29 ≤ Z23; let Z116 := Z29 ≤ Z21; let Z117 := fun (p : (Nat × Nat) × Nat) => popM (Z108 p); let Z118 := Z29 ≤ Z22; let Z119 := Z29 ≤ Z26; let Z120 := Z29 ≤ Z24; let Z121 := Z29 ≤ Z25; let Z122 := nat_lit 0 = nat_lit 0 ∧ Z100; let Z123 := nat_lit 0 = nat_lit 0 ∧ Z102; let Z124 := nat_lit 0 = nat_lit 0 ∧ Z101; let Z125 := nat_lit 0 = nat_lit 0 ∧ Z106; let Z126 := nat_lit 0 = nat_lit 0 ∧ Z103; let Z127 := nat_lit 0 = nat_lit 0 ∧ Z105; let Z128 := nat_lit 0 = nat_lit 0 ∧ Z104; let Z129 := Z25 < Z35; let Z130 := Z23 < Z35; let Z131 := Z26 < Z35; let Z132 := Z21 < Z35; let Z133 := Z22 < Z35; let Z134 := Z24 < Z35; let Z135 := Z49 = Z49; let Z136 := Z52 = Z52; let Z137 := (r3, Z47); let Z138 := Z125 ∧ True; let Z139 := fun (c : Ci) => Z110 c = true; let Z140 := (false, Z86); let Z141 := fun (c : Ci) => Prod.snd (Z109 c); let Z142 := fun (c : Ci) => Prod.fst (Z109 c); let Z143 := fun (p : (Nat × Nat) × Nat) => tM (Z59 p) (Z58 p); let Z144 := Z56 = Z56; let Z145 := Z89 ∧ Z53; let Z146 := (↑Z113 : Int); let Z147 := (↑Z114 : Int); let Z148 := Z75 = Z75; let Z149 := Z72 = Z72; let Z150 := Z128 ∧ Z14; let Z151 := Z74 = Z74; let Z152 := Z70 = Z70; let Z153 := Z73 = Z73; let Z154 := Z71 = Z71; let Z155 := Z144 ∧ True; let Z156 := Z82 = Z82; let Z157 := True ∧ Z145; let Z158 := Z84 ∧ Z85; let Z159 := Z151 ∧ True; let Z160 := Z148 ∧ True; let Z161 := Z152 ∧ True; let Z162 := True ∧ Z150; let Z163 := Z149 ∧ True; let Z164 := Z154 ∧ True; let Z165 := Z153 ∧ True; let Z166 := fun (c : Ci) => Prod.snd (Z141 c); let Z167 := fun (c : Ci) => Prod.snd (Z142 c); let Z168 := Z157 ∧ True; let Z169 := Z156 ∧ True; let Z170 := Value.int IntKind.u64 Z146; let Z171 := Value.int IntKind.u64 Z147; let Z172 := Z98 ∧ Z99; let Z173 := fun (c : Ci) => Prod.fst (Z167 c); let Z174 := fun (c : Ci) => Prod.fst (Z166 c); let Z175 := Z172 ∧ True; let Z176 := Z107 = Z107; let Z177 := fun (c : Ci) => Z96 c ∨ Z139 c; let Z178 := (r2, Z137); let Z179 := Z115 ∧ Z130; let Z180 := Z121 ∧ Z129; let Z181 := Z118 ∧ Z133; let Z182 := Z119 ∧ Z131; let Z183 := Z120 ∧ Z134; let Z184 := Z116 ∧ Z132; let Z185 := Z126 ∧ Z138; let Z186 := Z88 ∧ Z162; let Z187 := fun (c : Ci) => Z29 ≤ Z173 c; let Z188 := fun (c : Ci) => Z173 c < Z30; let Z189 := fun (c : Ci) => Z29 ≤ Z174 c; let Z190 := fun (c : Ci) => Z174 c < Z30; let Z191 := Z89 ∧ Z186; let Z192 := (r1, Z178); let Z193 := Z171 = Z171; let Z194 := Z170 = Z170; let Z195 := Z124 ∧ Z185; let Z196 := Z87 ∧ Z191; let Z197 := (r0, Z192); let Z198 := Z127 ∧ Z195; let Z199 := fun (c : Ci) => Z187 c ∧ Z188 c; let Z200 := fun (c : Ci) => Z189 c ∧ Z190 c; let Z201 := Z122 ∧ Z198; let Z202 := (ks, Z197); let Z203 := Z123 ∧ Z201; let Z204 := fun (c : Ci) => Z177 c → Z200 c; let Z205 := (Z76, Z202); let Z206 := allM Z205 Z16; let Z207 := List.length Z206; let Z208 := (↑Z207 : Int); let Z209 := fun (p : (Nat × Nat) × Nat) (k : Nat) => sayM Z205 Z16 (Z143 p) k; let Z210 := Z208 > Z29; let Z211 := Prod.fst Z205; let Z212 := Prod.snd Z205; let Z213 := fun (p : (Nat × Nat) × Nat) (k : Nat) => Z209 p k = true; let Z214 := Prod.snd Z211; let Z215 := Prod.fst Z211; let Z216 := Int.toNat Z215; let Z217 := Prod.snd Z214; let Z218 := Prod.fst Z214; let Z219 := Int.toNat Z218; let Z220 := fun (k : Nat) (p : (Nat × Nat) × Nat) => Z79 k p → Z213 p k; let Z221 := fun (p : (Nat × Nat) × Nat) => ∀ (k : Nat), Z220 k p; let Z222 := fun (k : Nat) => k < Z219; let Z223 := fun (p : (Nat × Nat) × Nat) => Z28 p ≤ Z219; let Z224 := Prod.fst Z212; let Z225 := fun (c : Ci) => Z199 c ∧ Z204 c; let Z226 := Z38 ^ Z216; let Z227 := List.length Z224; let Z228 := fun (j : Nat) => List.getD Z224 j dfW; let Z229 := fun (p : (Nat × Nat) × Nat) => Z117 p ≤ Z217; let Z230 := Z38 ^ Z219; let Z231 := fun (a : Nat) => a ≤ Z226; let Z232 := fun (p : Nat × Nat) => Z5 p < Z226; let Z233 : Type := { a : Nat // Z231 a }; let Z234 := fun (x : Z233) => Subtype.val x; let Z235 := fun (p : (Nat × Nat) × Nat) => Z28 p ≤ Z227; let Z236 := fun (p : Nat × Nat) => Z4 p ≤ Z230; let Z237 := fun (p : (Nat × Nat) × Nat) => Z59 p < Z226; let Z238 := fun (x : Z233) => (↑(Z234 x) : Int); let Z239 := fun (p : (Nat × Nat) × Nat) => Z58 p < Z230; let Z240 := fun (x : Z233) => Value.int IntKind.u64 (Z238 x); let Z241 := fun (p : (Nat × Nat) × Nat) (j : Nat) => rightM (Z143 p) (Z228 j); let Z242 := fun (p : (Nat × Nat) × Nat) (j : Nat) => Z241 p j = true; let Z243 := fun (x : Z233) => Z114 - Z234 x; let Z244 := fun (j : Nat) (p : (Nat × Nat) × Nat) => Z79 j p → Z242 p j; let Z245 := fun (p : (Nat × Nat) × Nat) => ∀ (j : Nat), Z244 j p; let Z246 := fun (t : Z233) => Z238 t < Z147; let Z247 := fun (x : Z233) => preM Z205 Z16 (Z234 x) (nat_lit 0); let Z248 := fun (k : Nat) (p : (Nat × Nat) × Nat) => Z222 k → Z213 p k; let Z249 := fun (p : (Nat × Nat) × Nat) => ∀ (k : Nat), Z248 k p; let Z250 := fun (t : Z233) => preM Z205 Z16 (Z234 t) Z37; let Z251 := fun (t : Z233) => List.length (Z247 t); let Z252 := fun (t : Z233) => (↑(Z251 t) : Int); let Z253 := fun (p : (Nat × Nat) × Nat) => Z223 p ∧ Z221 p; let Z254 := fun (t : Z233) => Z252 t > Z29; let Z255 := fun (p : Nat × Nat) => Z232 p ∧ Z236 p; let Z256 : Type := { p : Nat × Nat // Z255 p }; let Z257 := fun (x : Z256) => Subtype.val x; let Z258 := fun (x : Z256) => Prod.snd (Z257 x); let Z259 := fun (x : Z256) => Prod.fst (Z257 x); let Z260 := fun (x : Z256) => (↑(Z259 x) : Int); let Z261 := fun (x : Z256) => (↑(Z258 x) : Int); let Z262 := fun (t : Z256) => popM (Z261 t); let Z263 := fun (x : Z256) => Value.int IntKind.u64 (Z260 x); let Z264 := fun (x : Z256) => Value.int IntKind.u64 (Z261 x); let Z265 := fun (t : Z256) => Z262 t > li; let Z266 := fun (p : (Nat × Nat) × Nat) => Z235 p ∧ Z245 p; let Z267 := fun (x : Z256) => Z113 - Z258 x; let Z268 := fun (t : Z256) => Z261 t < Z146; let Z269 := decide Z210; let Z270 := fun (p : (Nat × Nat) × Nat) => Z229 p ∧ Z253 p; let Z271 := fun (t : Z233) (x : Z256) => Z240 t = Z263 x; let Z272 := fun (t : Z233) => decide (Z246 t); let Z273 := fun (t : Z233) => decide (Z254 t); let Z274 := fun (t : Z233) => Value.bool (Z273 t); let Z275 := fun (p : (Nat × Nat) × Nat) => Z239 p ∧ Z270 p; let Z276 := fun (p : (Nat × Nat) × Nat) => Z249 p ∧ Z266 p; let Z277 := fun (t x : Z256) => Z259 t = Z259 x; let Z278 := fun (t x : Z256) => Z263 t = Z263 x; let Z279 := fun (x t : Z256) => Z267 x < Z267 t; let Z280 := fun (x : Z256) => preM Z205 Z16 (Z259 x) (Z258 x); let Z281 := fun (p : (Nat × Nat) × Nat) => Z237 p ∧ Z275 p; let Z282 := fun (p : (Nat × Nat) × Nat) => Z229 p ∧ Z276 p; let Z283 : Type := { p : (Nat × Nat) × Nat // Z281 p }; let Z284 := fun (x : Z283) => Subtype.val x; let Z285 := fun (x : Z283) => Prod.snd (Z284 x); let Z286 := fun (x : Z283) => Prod.fst (Z284 x); let Z287 := fun (x : Z283) => Prod.fst (Z286 x); let Z288 := fun (x : Z283) => Prod.snd (Z286 x); let Z289 := fun (x : Z283) => (↑(Z285 x) : Int); let Z290 := fun (x : Z283) => (↑(Z287 x) : Int); let Z291 := fun (x : Z283) => (↑(Z288 x) : Int); let Z292 := fun (x : Z283) => Value.int IntKind.i64 (Z289 x); let Z293 := fun (t : Z283) => Z289 t < w; let Z294 := fun (x : Z283) => Z0 - Z285 x; let Z295 := fun (x : Z283) => Value.int IntKind.u64 (Z291 x); let Z296 := fun (x : Z283) => Value.int IntKind.u64 (Z290 x); let Z297 := fun (t : Z283) => hasM (Z291 t) Z21; let Z298 := fun (t : Z283) => hasM (Z291 t) Z22; let Z299 := fun (t : Z283) => hasM (Z291 t) Z23; let Z300 := fun (t : Z283) => hasM (Z291 t) Z24; let Z301 := fun (t : Z283) => hasM (Z291 t) Z25; let Z302 := fun (t : Z283) => hasM (Z291 t) Z26; let Z303 := fun (t : Z283) => Z29 ≤ Z291 t; let Z304 := fun (t : Z283) => Z29 ≤ Z290 t; let Z305 := fun (t : Z283) => Z291 t < Z35; let Z306 := fun (t : Z283) => Z290 t < Z35; let Z307 := fun (t : Z283) => Z289 t + Z31; let Z308 := fun (t : Z283) => Z291 t + Z31; let Z309 := fun (t : Z283) => IntKind.wrap IntKind.i64 (Z307 t); let Z310 := fun (t : Z283) => IntKind.wrap IntKind.u64 (Z308 t); let Z311 := fun (t : Z283) => Value.int IntKind.i64 (Z309 t); let Z312 := fun (t : Z283) => Value.int IntKind.u64 (Z310 t); let Z313 := fun (t : Z256) => decide (Z265 t); let Z314 := fun (t : Z256) => decide (Z268 t); let Z315 := fun (p : (Nat × Nat) × Nat) => Z239 p ∧ Z282 p; let Z316 := fun (p : (Nat × Nat) × Nat) => Z237 p ∧ Z315 p; let Z317 : Type := { p : (Nat × Nat) × Nat // Z316 p }; let Z318 := fun (x : Z317) => Subtype.val x; let Z319 := fun (x : Z317) => Prod.snd (Z318 x); let Z320 := fun (x : Z317) => Prod.fst (Z318 x); let Z321 := fun (x : Z317) => Prod.fst (Z320 x); let Z322 := fun (x : Z317) => Prod.snd (Z320 x); let Z323 := fun (x : Z317) => (↑(Z319 x) : Int); let Z324 := fun (t : Z317) => Int.toNat (Z323 t); let Z325 := fun (x : Z317) => (↑(Z321 x) : Int); let Z326 := fun (x : Z317) => (↑(Z322 x) : Int); let Z327 := fun (x : Z317) => Value.int IntKind.i64 (Z323 x); let Z328 := fun (x : Z317) => Value.int IntKind.u64 (Z325 x); let Z329 := fun (x : Z317) => Z10 - Z319 x; let Z330 := fun (x : Z317) => Value.int IntKind.u64 (Z326 x); let Z331 := fun (t : Z317) => AV.v (Z328 t); let Z332 := fun (t : Z317) => AV.v (Z330 t); let Z333 := fun (t : Z317) => nat_lit 0 + Z324 t; let Z334 := fun (t : Z317) => Z323 t < Z62; let Z335 := fun (t : Z317) => [Z332 t]; let Z336 := fun (t : Z256) (x : Z283) => Z263 t = Z296 x; let Z337 := fun (t : Z283) (x : Z256) => Z296 t = Z263 x; let Z338 := fun (t : Z256) (x : Z283) => Z264 t = Z295 x; let Z339 := fun (t : Z317) => Z326 t + Z31; let Z340 := fun (t : Z317) => IntKind.wrap IntKind.u64 (Z339 t); let Z341 := fun (t : Z317) => Value.int IntKind.u64 (Z340 t); let Z342 := fun (t : Z283) (x : Z256) => Z312 t = Z264 x; let Z343 := fun (t : Z317) => List.getD ks (Z333 t) Z140; let Z344 := fun (t : Z283) (x : Z256) => Z342 t x ∧ True; let Z345 := fun (t : Z317) => Prod.snd (Z343 t); let Z346 := fun (t : Z317) => Prod.fst (Z343 t); let Z347 := fun (t : Z317) => Value.bool (Z346 t); let Z348 := fun (t : Z317) => Prod.fst (Z345 t); let Z349 := fun (t : Z317) => Prod.snd (Z345 t); let Z350 := fun (t : Z317) => Value.bool (Z349 t); let Z351 := fun (t : Z317) => Value.int IntKind.i64 (Z348 t); let Z352 := fun (t : Z233) => Z274 t = Z274 t; let Z353 := fun (t : Z283) (x : Z256) => Z194 ∧ Z344 t x; let Z354 := fun (t : Z233) => Z352 t ∧ Z169; let Z355 := fun (x t x_1 : Z256) => Z279 x t ∧ Z277 x x_1; let Z356 := fun (t : Z317) (x : Z256) => Z328 t = Z263 x; let Z357 := fun (t : Z317) (x : Z256) => Z341 t = Z264 x; let Z358 := fun (t : Z317) (x : Z256) => Z357 t x ∧ True; let Z359 := fun (t : Z317) (x : Z256) => Z194 ∧ Z358 t x; let Z360 := fun (t x : Z283) => Z286 t = Z286 x; let Z361 := fun (t : Z283) => (Z290 t, Z291 t); let Z362 := fun (t : Z283) => liesM (Z361 t) r4; let Z363 := fun (t : Z283) => liesM (Z361 t) r3; let Z364 := fun (t : Z283) => liesM (Z361 t) r1; let Z365 := fun (t : Z283) => liesM (Z361 t) r5; let Z366 := fun (t : Z283) => liesM (Z361 t) r0; let Z367 := fun (t : Z283) => liesM (Z361 t) r2; let Z368 := fun (x t : Z283) => Z294 x < Z294 t; let Z369 := fun (t : Z283) => Z296 t = Z296 t; let Z370 := fun (t x : Z283) => Z296 t = Z296 x; let Z371 := fun (t : Z283) => Z295 t = Z295 t; let Z372 := fun (t x : Z283) => Z295 t = Z295 x; let Z373 := fun (t x : Z283) => Z372 t x ∧ True; let Z374 := fun (t : Z283) => Z371 t ∧ True; let Z375 := fun (t : Z283) => Z303 t ∧ Z305 t; let Z376 := fun (t : Z283) => Z304 t ∧ Z306 t; let Z377 := fun (t x : Z283) => Z311 t = Z292 x; let Z378 := fun (t x : Z283) => Z377 t x ∧ True; let Z379 := fun (t x : Z283) => Z89 ∧ Z378 t x; let Z380 := fun (t x : Z283) => Z57 ∧ Z379 t x; let Z381 := fun (x : Z283) => preM Z205 Z16 (Z287 x) (Z288 x); let Z382 := fun (t : Z283) => decide (Z293 t); let Z383 := fun (t : Z283) (x : Z317) => Z296 t = Z328 x; let Z384 := fun (t : Z283) (x : Z317) => Z295 t = Z330 x; let Z385 := fun (t : Z283) (x : Z317) => Z384 t x ∧ True; let Z386 := fun (t x : Z317) => Z320 t = Z320 x; let Z387 := fun (t : Z317) => (Z325 t, Z326 t); let Z388 := fun (t x : Z317) => Z330 t = Z330 x; let Z389 := fun (t x : Z317) => Z328 t = Z328 x; let Z390 := fun (t x : Z317) => Z388 t x ∧ True; let Z391 := fun (t : Z317) => Z331 t :: Z335 t; let Z392 := fun (t : Z317) => some (Z391 t); let Z393 := fun (t : Z283) (x : Z256) => Z337 t x ∧ Z353 t x; let Z394 := fun (x : Z317) => preM Z205 Z16 (Z321 x) (Z322 x); let Z395 := fun (t : Z283) => Z365 t == Z302 t; let Z396 := fun (t : Z283) => Z364 t == Z300 t; let Z397 := fun (t : Z283) => Z367 t == Z298 t; let Z398 := fun (t : Z283) => Z366 t == Z299 t; let Z399 := fun (t : Z283) => Z362 t == Z301 t; let Z400 := fun (t : Z283) => Z363 t == Z297 t; let Z401 := fun (t : Z283) => !Z395 t; let Z402 := fun (t : Z283) => !Z400 t; let Z403 := fun (t : Z283) => !Z396 t; let Z404 := fun (t : Z283) => !Z399 t; let Z405 := fun (t : Z283) => !Z398 t; let Z406 := fun (t : Z283) => !Z397 t; let Z407 := fun (t : Z317) => decide (Z334 t); let Z408 := fun (t : Z283) (x : Z256) => Z381 t = Z280 x; let Z409 := fun (t : Z283) (x : Z256) => Z135 ∧ Z408 t x; let Z410 := fun (t : Z283) (x : Z256) => Z409 t x ∧ True; let Z411 := fun (t : Z283) (x : Z256) => Z155 ∧ Z410 t x; let Z412 := fun (t : Z283) (x : Z256) => Z83 ∧ Z411 t x; let Z413 := fun (t : Z283) (x : Z256) => Z14 ∧ Z412 t x; let Z414 := fun (t : Z283) (x : Z256) => Z41 ∧ Z413 t x; let Z415 := fun (t : Z283) (x : Z256) => Z43 ∧ Z414 t x; let Z429 := fun (t : Z283) => (Z369 t ∧ Z374 t) ∧ True; let Z430 := fun (t : Z283) => Z376 t ∧ Z375 t; let Z475 := fun (l : Nat) (t : Z283) (t_1 x : Z256) => True ∧ ∃ (x_1 : Z256), ((Z78 l ∧ Z57 ∧ Z57 ∧ Z193 ∧ Z337 t x_1 ∧ Z393 t x_1) ∧ True ∧ Z196 ∧ Z46 ∧ Z203 ∧ Z44 ∧ Z40 ∧ Z45 ∧ Z42 ∧ Z415 t x_1) ∧ Z355 x_1 t_1 x; let Z479 := fun (l : Nat) (t x : Z283) => True ∧ ∃ (x_1 : Z283), ((Z78 l ∧ Z57 ∧ Z57 ∧ Z193 ∧ Z370 t x_1 ∧ Z370 t x_1 ∧ Z194 ∧ Z372 t x_1 ∧ Z372 t x_1 ∧ Z380 t x_1) ∧ True ∧ Z196 ∧ Z46 ∧ Z203 ∧ Z44 ∧ Z40 ∧ Z45 ∧ Z42 ∧ Z43 ∧ Z41 ∧ Z14 ∧ Z83 ∧ Z155 ∧ (Z135 ∧ Z381 t = Z381 x_1) ∧ (Z370 t x_1 ∧ Z373 t x_1) ∧ True) ∧ Z368 x_1 t ∧ Z360 x_1 x; Z158 ∧ Z83 ∧ Z168 ∧ True ∧ (Z57 ∧ Z155) ∧ Z2 ∧ ∀ (l : Nat), Z29 ≤ f ∧ (∃ (x : Z233), (Z2 ∧ Z53) ∧ (Z97 ∧ True ∧ Z97 ∧ True ∧ True ∧ True ∧ True ∧ True ∧ True ∧ Z14 ∧ Z2 ∧ Z2 ∧ Z247 x = Z32 ∧ True) ∧ (Z78 l ∧ Z57 ∧ Z57 ∧ Value.int IntKind.u64 (IntKind.wrap IntKind.u64 (Z31 * (2 : Int) ^ min Z1 (nat_lit 64))) = Z171 ∧ Z80 = Z240 x ∧ True) ∧ True ∧ Z196 ∧ Z46 ∧ Z203 ∧ Z44 ∧ Z40 ∧ Z45 ∧ Z42 ∧ Z43 ∧ Z41 ∧ (Z36 = Z36 ∧ True) ∧ Z83 ∧ Z155 ∧ Z2) ∧ ∀ (t : Z233), (Z272 t = true → Z158 ∧ Z83 ∧ Z168 ∧ ∃ (x : Z256), ((Z78 l ∧ Z57 ∧ Z57 ∧ Z193 ∧ Z271 t x ∧ Z271 t x ∧ Value.int IntKind.u64 (IntKind.wrap IntKind.u64 (Z16 + Z31)) = Z170 ∧ Z80 = Z264 x ∧ True) ∧ True ∧ Z196 ∧ Z46 ∧ Z203 ∧ Z44 ∧ Z40 ∧ Z45 ∧ Z42 ∧ Z43 ∧ Z41 ∧ Z14 ∧ Z83 ∧ Z155 ∧ (Z135 ∧ Z250 t = Z280 x) ∧ True) ∧ Z259 x = Z259 x ∧ ∀ (t_1 : Z256), Z277 t_1 x → (Z314 t_1 = true → (Z29 ≤ Z261 t_1 ∧ Z261 t_1 < Z35) ∧ (Z264 t_1 = Z264 t_1 ∧ True) ∧ True ∧ (Z313 t_1 = true → True ∧ ∃ (x_1 : Z256), ((Z78 l ∧ Z57 ∧ Z57 ∧ Z193 ∧ Z278 t_1 x_1 ∧ Z278 t_1 x_1 ∧ Z194 ∧ Value.int IntKind.u64 (IntKind.wrap IntKind.u64 (Z261 t_1 + Z31)) = Z264 x_1 ∧ True) ∧ True ∧ Z196 ∧ Z46 ∧ Z203 ∧ Z44 ∧ Z40 ∧ Z45 ∧ Z42 ∧ Z43 ∧ Z41 ∧ Z14 ∧ Z83 ∧ Z155 ∧ (Z135 ∧ Z280 t_1 = Z280 x_1) ∧ True) ∧ Z355 x_1 t_1 x) ∧ (Z313 t_1 = false → ∃ (x_1 : Z283), ((Z78 l ∧ Z57 ∧ Z57 ∧ Z193 ∧ Z336 t_1 x_1 ∧ Z336 t_1 x_1 ∧ Z194 ∧ Z338 t_1 x_1 ∧ Z338 t_1 x_1 ∧ Z57 ∧ Z89 ∧ Z77 = Z292 x_1 ∧ True) ∧ True ∧ Z196 ∧ Z46 ∧ Z203 ∧ Z44 ∧ Z40 ∧ Z45 ∧ Z42 ∧ Z43 ∧ Z41 ∧ Z14 ∧ Z83 ∧ Z155 ∧ (Z135 ∧ Z280 t_1 = Z381 x_1) ∧ (Z336 t_1 x_1 ∧ Z338 t_1 x_1 ∧ True) ∧ True) ∧ Z286 x_1 = Z286 x_1 ∧ ∀ (t : Z283), Z360 t x_1 → (Z382 t = true → (Z29 ≤ Z289 t ∧ Z289 t < (↑(nat_lit 6) : Int)) ∧ (Z289 t = Z23 → (Z111 ∧ Z112 ∧ Z179) ∧ (Z144 ∧ Z161) ∧ True ∧ (Z93 = true → Z136 ∧ (Z7 < nat_lit 1000000 ∧ Z430 t ∧ ∀ (c : Ci), c ∈ r0 → Z225 c) ∧ (Z123 ∧ Z175) ∧ (Z44 ∧ Z429 t) ∧ (Z303 t ∧ Z305 t ∧ Z179) ∧ (Z371 t ∧ Z161) ∧ True ∧ (Z405 t = true → Z475 l t t_1 x) ∧ (Z405 t = false → Z479 l t x_1)) ∧ (Z93 = false → Z479 l t x_1)) ∧ (Z289 t = Z24 → (Z111 ∧ Z112 ∧ Z183) ∧ (Z144 ∧ Z160) ∧ True ∧ (Z90 = true → Z136 ∧ (Z8 < nat_lit 1000000 ∧ Z430 t ∧ ∀ (c : Ci), c ∈ r1 → Z225 c) ∧ (Z122 ∧ Z175) ∧ (Z40 ∧ Z429 t) ∧ (Z303 t ∧ Z305 t ∧ Z183) ∧ (Z371 t ∧ Z160) ∧ True ∧ (Z403 t = true → Z475 l t t_1 x) ∧ (Z403 t = false → Z479 l t x_1)) ∧ (Z90 = false → Z479 l t x_1)) ∧ (Z289 t = Z22 → (Z111 ∧ Z112 ∧ Z181) ∧ (Z144 ∧ Z159) ∧ True ∧ (Z91 = true → Z136 ∧ (Z11 < nat_lit 1000000 ∧ Z430 t ∧ ∀ (c : Ci), c ∈ r2 → Z225 c) ∧ (Z127 ∧ Z175) ∧ (Z45 ∧ Z429 t) ∧ (Z303 t ∧ Z305 t ∧ Z181) ∧ (Z371 t ∧ Z159) ∧ True ∧ (Z406 t = true → Z475 l t t_1 x) ∧ (Z406 t = false → Z479 l t x_1)) ∧ (Z91 = false → Z479 l t x_1)) ∧ (Z289 t = Z21 → (Z111 ∧ Z112 ∧ Z184) ∧ (Z144 ∧ Z164) ∧ True ∧ (Z94 = true → Z136 ∧ (Z6 < nat_lit 1000000 ∧ Z430 t ∧ ∀ (c : Ci), c ∈ r3 → Z225 c) ∧ (Z124 ∧ Z175) ∧ (Z42 ∧ Z429 t) ∧ (Z303 t ∧ Z305 t ∧ Z184) ∧ (Z371 t ∧ Z164) ∧ True ∧ (Z402 t = true → Z475 l t t_1 x) ∧ (Z402 t = false → Z479 l t x_1)) ∧ (Z94 = false → Z479 l t x_1)) ∧ (Z289 t = Z25 → (Z111 ∧ Z112 ∧ Z180) ∧ (Z144 ∧ Z163) ∧ True ∧ (Z92 = true → Z136 ∧ (Z9 < nat_lit 1000000 ∧ Z430 t ∧ ∀ (c : Ci), c ∈ r4 → Z225 c) ∧ (Z126 ∧ Z175) ∧ (Z43 ∧ Z429 t) ∧ (Z303 t ∧ Z305 t ∧ Z180) ∧ (Z371 t ∧ Z163) ∧ True ∧ (Z404 t = true → Z475 l t t_1 x) ∧ (Z404 t = false → Z479 l t x_1)) ∧ (Z92 = false → Z479 l t x_1)) ∧ (Z289 t = Z26 → (Z111 ∧ Z112 ∧ Z182) ∧ (Z144 ∧ Z165) ∧ True ∧ (Z95 = true → Z136 ∧ (Z12 < nat_lit 1000000 ∧ Z430 t ∧ ∀ (c : Ci), c ∈ r5 → Z225 c) ∧ (Z125 ∧ Z175) ∧ (Z41 ∧ Z429 t) ∧ (Z303 t ∧ Z305 t ∧ Z182) ∧ (Z371 t ∧ Z165) ∧ True ∧ (Z401 t = true → Z475 l t t_1 x) ∧ (Z401 t = false → Z479 l t x_1)) ∧ (Z95 = false → Z479 l t x_1)) ∧ True) ∧ (Z382 t = false → ∃ (x_2 : Z317), ((Z78 l ∧ Z57 ∧ Z57 ∧ Z193 ∧ Z383 t x_2 ∧ Z383 t x_2 ∧ Z194 ∧ Z384 t x_2 ∧ Z384 t x_2 ∧ Z57 ∧ (Fn.func (nat_lit 56) = Z60 ∧ ((Z383 t x_2 ∧ Z385 t x_2) ∧ True) ∧ True) ∧ Z128 ∧ Z176 ∧ Z77 = Z327 x_2 ∧ True) ∧ True ∧ Z196 ∧ Z46 ∧ Z203 ∧ Z44 ∧ Z40 ∧ Z45 ∧ Z42 ∧ Z43 ∧ Z41 ∧ Z14 ∧ Z83 ∧ Z155 ∧ (Z135 ∧ Z381 t = Z394 x_2) ∧ (Z383 t x_2 ∧ Z385 t x_2) ∧ True) ∧ Z320 x_2 = Z320 x_2 ∧ ∀ (t : Z317), Z386 t x_2 → (Z407 t = true → (Z29 ≤ Z323 t ∧ Z334 t) ∧ Z333 t < List.length ks ∧ (((Z29 ≤ Z325 t ∧ Z325 t < Z35) ∧ Z29 ≤ Z326 t ∧ Z326 t < Z35) ∧ Z29 ≤ Z348 t ∧ Z348 t < Z30) ∧ ((Z328 t = Z328 t ∧ Z330 t = Z330 t ∧ True) ∧ (Z347 t = Z347 t ∧ Z351 t = Z351 t ∧ Z350 t = Z350 t ∧ True) ∧ True) ∧ True ∧ ((!rightM (Z387 t) (Z343 t)) = true → True ∧ ∃ (x_3 : Z256), ((Z78 l ∧ Z57 ∧ Z57 ∧ Z193 ∧ Z356 t x_3 ∧ Z356 t x_3 ∧ Z359 t x_3) ∧ True ∧ Z196 ∧ Z46 ∧ Z203 ∧ Z44 ∧ Z40 ∧ Z45 ∧ Z42 ∧ Z43 ∧ Z41 ∧ Z14 ∧ Z83 ∧ Z155 ∧ (Z135 ∧ Z394 t = Z280 x_3) ∧ True) ∧ Z355 x_3 t_1 x) ∧ ((!rightM (Z387 t) (Z343 t)) = false → True ∧ ∃ (x : Z317), ((Z78 l ∧ Z57 ∧ Z57 ∧ Z193 ∧ Z389 t x ∧ Z389 t x ∧ Z194 ∧ Z388 t x ∧ Z388 t x ∧ Z57 ∧ (Z60 = Z60 ∧ ((Z389 t x ∧ Z390 t x) ∧ True) ∧ True) ∧ Z128 ∧ Z176 ∧ Value.int IntKind.i64 (IntKind.wrap IntKind.i64 (Z323 t + Z31)) = Z327 x ∧ True) ∧ True ∧ Z196 ∧ Z46 ∧ Z203 ∧ Z44 ∧ Z40 ∧ Z45 ∧ Z42 ∧ Z43 ∧ Z41 ∧ Z14 ∧ Z83 ∧ Z155 ∧ (Z135 ∧ Z394 t = Z394 x) ∧ (Z389 t x ∧ Z390 t x) ∧ True) ∧ Z329 x < Z329 t ∧ Z386 x x_2)) ∧ (Z407 t = false → l = l ∧ True ∧ (nat_lit 1 = nat_lit 1 ∧ Z392 t = Z392 t) ∧ nat_lit 1 ≤ nat_lit 1 ∧ List.length (Z394 t) + nat_lit 1 ≤ nat_lit 1099511627776 ∧ True ∧ True ∧ ∃ (x_3 : Z256), ((Z78 l ∧ Z57 ∧ Z57 ∧ Z193 ∧ Z356 t x_3 ∧ Z356 t x_3 ∧ Z359 t x_3) ∧ True ∧ Z196 ∧ Z46 ∧ Z203 ∧ Z44 ∧ Z40 ∧ Z45 ∧ Z42 ∧ Z43 ∧ Z41 ∧ Z14 ∧ Z83 ∧ Z155 ∧ (nat_lit 85 = Z49 ∧ Z394 t ++ List.take (1 : Nat) (List.drop Z37 (Z387 t :: Z32)) = Z280 x_3) ∧ True) ∧ Z355 x_3 t_1 x)))) ∧ (Z314 t_1 = false → True ∧ ∃ (x : Z233), ((Z78 l ∧ Z57 ∧ Z57 ∧ Z193 ∧ Value.int IntKind.u64 (IntKind.wrap IntKind.u64 (Z260 t_1 + Z31)) = Z240 x ∧ True) ∧ True ∧ Z196 ∧ Z46 ∧ Z203 ∧ Z44 ∧ Z40 ∧ Z45 ∧ Z42 ∧ Z43 ∧ Z41 ∧ Z14 ∧ Z83 ∧ Z155 ∧ (Z135 ∧ Z280 t_1 = Z247 x) ∧ True) ∧ Z243 x < Z243 t)) ∧ (Z272 t = false → True ∧ (Z273 t = true → Z354 t ∧ True ∧ Z269 = true ∧ True ∧ Z14 ∧ True ∧ Z196 ∧ Z46 ∧ Z203 ∧ Z44 ∧ Z40 ∧ Z45 ∧ Z42 ∧ Z43 ∧ Z41 ∧ (Z135 ∧ Z250 t = Z206) ∧ True) ∧ (Z273 t = false → Z354 t ∧ True ∧ Z269 = false ∧ True ∧ Z51 = Z51 ∧ Z169)))
    (by kernel_rfl) ?_
  have hf : 0 ≤ f ∧ f ≤ 6 := hx.f
  have hw : 0 ≤ w ∧ w ≤ 6 := hx.w
  obtain ⟨nf, rfl⟩ := Int.eq_ofNat_of_zero_le hf.1
  obtain ⟨nw, rfl⟩ := Int.eq_ofNat_of_zero_le hw.1
  have hnf : nf ≤ 6 := by omega
  have hnw : nw ≤ 6 := by omega
  have hF := pow64 nf hnf
  have hW := pow64 nw hnw
  have hE := everyB nw hnw
  have hks : ks.length < 1000 := hx.ks
  simp only [eq_self, true_and, and_true, Int.toNat_natCast, Nat.zero_add, Nat.sub_zero]
  refine ⟨hw, fun l => ⟨hf.1, ⟨⟨0, Nat.zero_le _⟩, preM_zero _ _, by rw [powW nf hnf], rfl⟩, fun t => ⟨fun ht => ⟨hw, ?_⟩, fun ht => ?_⟩⟩⟩
  · obtain ⟨a, ha⟩ := t
    have hlt : a < 2 ^ nf := by
      have h1 : ((a : Int)) < ((2 ^ nf : Nat) : Int) := of_decide_eq_true ht
      exact_mod_cast h1
    refine ⟨⟨(a, 0), hlt, Nat.zero_le _⟩, ⟨⟨rfl, rfl, congrArg _ (everyW nw hnw), rfl⟩, rfl⟩, ?_⟩
    rintro ⟨⟨a1, b⟩, ha1, hb⟩ hr1
    have hr1' : a1 = a := hr1
    subst hr1'
    have ha64 : a1 < 64 := Nat.lt_of_lt_of_le ha1 hF
    refine ⟨fun h1 => ?_, fun h1 => ?_⟩
    · have hbl : b < 2 ^ nw := by
        have h2 : ((b : Int)) < ((2 ^ nw : Nat) : Int) := of_decide_eq_true h1
        exact_mod_cast h2
      have hb64 : b < 64 := Nat.lt_of_lt_of_le hbl hW
      have hsu := sucW b hb64
      have hokT : okT (tM a1 b) := ⟨⟨Int.natCast_nonneg _, by show (a1 : Int) < 64; omega⟩, ⟨Int.natCast_nonneg _, by show (b : Int) < 64; omega⟩⟩
      refine ⟨⟨Int.natCast_nonneg _, by show (b : Int) < 64; omega⟩, fun hgt => ?_, fun hle => ?_⟩
      · have hno : isM (((nf : Int), (nw : Int), li), ks, r0, r1, r2, r3, r4, r5) (everyM nw) (tM a1 b) = false := isM_big (of_decide_eq_true hgt)
        exact ⟨⟨(a1, b + 1), ha1, hbl⟩, ⟨⟨rfl, rfl, congrArg _ hsu⟩, (preM_no _ _ _ _ hno).symm⟩, dec1 hbl, rfl⟩
      · have hle' : popM (b : Int) ≤ li := by
          have h9 : ¬ popM (b : Int) > li := of_decide_eq_false hle
          omega
        refine ⟨⟨((a1, b), 0), ha1, hbl, hle', Nat.zero_le _, fun k hk => absurd hk (Nat.not_lt_zero _)⟩, ⟨⟨rfl, rfl, rfl, rfl, rfl⟩, rfl, rfl, rfl⟩, ?_⟩
        rintro ⟨⟨⟨a2, b2⟩, k⟩, ha2, hb2, hp2, hk2, hs2⟩ hr2
        have hr2' : (a2, b2) = (a1, b) := hr2
        cases hr2'
        refine ⟨fun h2 => ?_, fun h2 => ?_⟩
        · have hkl : k < nw := by
            have h3 : ((k : Int)) < (nw : Int) := of_decide_eq_true h2
            exact_mod_cast h3
          have hksu : IntKind.i64.wrap ((k : Int) + 1) = ((k + 1 : Nat) : Int) := by rw [wrap_id (by omega) (by omega)]; rfl
          refine ⟨⟨Int.natCast_nonneg _, by show (k : Int) < 6; omega⟩, fun hk => ?_, fun hk => ?_, fun hk => ?_, fun hk => ?_, fun hk => ?_, fun hk => ?_⟩
          all_goals
            have hk' := Int.ofNat.inj hk
            simp only at hk'
            subst hk'
          · have hr := hx.rows 0
            refine ⟨⟨hE.1, hE.2, by decide, by decide⟩, fun hh => ⟨⟨Nat.lt_of_lt_of_le hr.1 (by decide), hokT, hr.2⟩, ⟨Int.natCast_nonneg _, by show (b : Int) < 64; omega, by decide, by decide⟩, fun hbad => ?_, fun hgood => ?_⟩, fun hh => ?_⟩
            · have hno : isM (((nf : Int), (nw : Int), li), ks, r0, r1, r2, r3, r4, r5) (everyM nw) (tM a1 b) = false := isM_says hkl (sayM_no hh hbad)
              exact ⟨⟨(a1, b + 1), ha1, hbl⟩, ⟨⟨rfl, rfl, congrArg _ hsu⟩, (preM_no _ _ _ _ hno).symm⟩, dec1 hbl, rfl⟩
            · exact ⟨⟨((a1, b), 0 + 1), ha1, hbl, hle', hkl, below_succ hs2 (sayM_yes hgood)⟩, ⟨⟨rfl, rfl, rfl, rfl, congrArg _ hksu⟩, rfl, rfl, rfl⟩, dec1 hkl, rfl⟩
            · exact ⟨⟨((a1, b), 0 + 1), ha1, hbl, hle', hkl, below_succ hs2 (sayM_off hh)⟩, ⟨⟨rfl, rfl, rfl, rfl, congrArg _ hksu⟩, rfl, rfl, rfl⟩, dec1 hkl, rfl⟩
          · have hr := hx.rows 1
            refine ⟨⟨hE.1, hE.2, by decide, by decide⟩, fun hh => ⟨⟨Nat.lt_of_lt_of_le hr.1 (by decide), hokT, hr.2⟩, ⟨Int.natCast_nonneg _, by show (b : Int) < 64; omega, by decide, by decide⟩, fun hbad => ?_, fun hgood => ?_⟩, fun hh => ?_⟩
            · have hno : isM (((nf : Int), (nw : Int), li), ks, r0, r1, r2, r3, r4, r5) (everyM nw) (tM a1 b) = false := isM_says hkl (sayM_no hh hbad)
              exact ⟨⟨(a1, b + 1), ha1, hbl⟩, ⟨⟨rfl, rfl, congrArg _ hsu⟩, (preM_no _ _ _ _ hno).symm⟩, dec1 hbl, rfl⟩
            · exact ⟨⟨((a1, b), 1 + 1), ha1, hbl, hle', hkl, below_succ hs2 (sayM_yes hgood)⟩, ⟨⟨rfl, rfl, rfl, rfl, congrArg _ hksu⟩, rfl, rfl, rfl⟩, dec1 hkl, rfl⟩
            · exact ⟨⟨((a1, b), 1 + 1), ha1, hbl, hle', hkl, below_succ hs2 (sayM_off hh)⟩, ⟨⟨rfl, rfl, rfl, rfl, congrArg _ hksu⟩, rfl, rfl, rfl⟩, dec1 hkl, rfl⟩
          · have hr := hx.rows 2
            refine ⟨⟨hE.1, hE.2, by decide, by decide⟩, fun hh => ⟨⟨Nat.lt_of_lt_of_le hr.1 (by decide), hokT, hr.2⟩, ⟨Int.natCast_nonneg _, by show (b : Int) < 64; omega, by decide, by decide⟩, fun hbad => ?_, fun hgood => ?_⟩, fun hh => ?_⟩
            · have hno : isM (((nf : Int), (nw : Int), li), ks, r0, r1, r2, r3, r4, r5) (everyM nw) (tM a1 b) = false := isM_says hkl (sayM_no hh hbad)
              exact ⟨⟨(a1, b + 1), ha1, hbl⟩, ⟨⟨rfl, rfl, congrArg _ hsu⟩, (preM_no _ _ _ _ hno).symm⟩, dec1 hbl, rfl⟩
            · exact ⟨⟨((a1, b), 2 + 1), ha1, hbl, hle', hkl, below_succ hs2 (sayM_yes hgood)⟩, ⟨⟨rfl, rfl, rfl, rfl, congrArg _ hksu⟩, rfl, rfl, rfl⟩, dec1 hkl, rfl⟩
            · exact ⟨⟨((a1, b), 2 + 1), ha1, hbl, hle', hkl, below_succ hs2 (sayM_off hh)⟩, ⟨⟨rfl, rfl, rfl, rfl, congrArg _ hksu⟩, rfl, rfl, rfl⟩, dec1 hkl, rfl⟩
          · have hr := hx.rows 3
            refine ⟨⟨hE.1, hE.2, by decide, by decide⟩, fun hh => ⟨⟨Nat.lt_of_lt_of_le hr.1 (by decide), hokT, hr.2⟩, ⟨Int.natCast_nonneg _, by show (b : Int) < 64; omega, by decide, by decide⟩, fun hbad => ?_, fun hgood => ?_⟩, fun hh => ?_⟩
            · have hno : isM (((nf : Int), (nw : Int), li), ks, r0, r1, r2, r3, r4, r5) (everyM nw) (tM a1 b) = false := isM_says hkl (sayM_no hh hbad)
              exact ⟨⟨(a1, b + 1), ha1, hbl⟩, ⟨⟨rfl, rfl, congrArg _ hsu⟩, (preM_no _ _ _ _ hno).symm⟩, dec1 hbl, rfl⟩
            · exact ⟨⟨((a1, b), 3 + 1), ha1, hbl, hle', hkl, below_succ hs2 (sayM_yes hgood)⟩, ⟨⟨rfl, rfl, rfl, rfl, congrArg _ hksu⟩, rfl, rfl, rfl⟩, dec1 hkl, rfl⟩
            · exact ⟨⟨((a1, b), 3 + 1), ha1, hbl, hle', hkl, below_succ hs2 (sayM_off hh)⟩, ⟨⟨rfl, rfl, rfl, rfl, congrArg _ hksu⟩, rfl, rfl, rfl⟩, dec1 hkl, rfl⟩
          · have hr := hx.rows 4
            refine ⟨⟨hE.1, hE.2, by decide, by decide⟩, fun hh => ⟨⟨Nat.lt_of_lt_of_le hr.1 (by decide), hokT, hr.2⟩, ⟨Int.natCast_nonneg _, by show (b : Int) < 64; omega, by decide, by decide⟩, fun hbad => ?_, fun hgood => ?_⟩, fun hh => ?_⟩
            · have hno : isM (((nf : Int), (nw : Int), li), ks, r0, r1, r2, r3, r4, r5) (everyM nw) (tM a1 b) = false := isM_says hkl (sayM_no hh hbad)
              exact ⟨⟨(a1, b + 1), ha1, hbl⟩, ⟨⟨rfl, rfl, congrArg _ hsu⟩, (preM_no _ _ _ _ hno).symm⟩, dec1 hbl, rfl⟩
            · exact ⟨⟨((a1, b), 4 + 1), ha1, hbl, hle', hkl, below_succ hs2 (sayM_yes hgood)⟩, ⟨⟨rfl, rfl, rfl, rfl, congrArg _ hksu⟩, rfl, rfl, rfl⟩, dec1 hkl, rfl⟩
            · exact ⟨⟨((a1, b), 4 + 1), ha1, hbl, hle', hkl, below_succ hs2 (sayM_off hh)⟩, ⟨⟨rfl, rfl, rfl, rfl, congrArg _ hksu⟩, rfl, rfl, rfl⟩, dec1 hkl, rfl⟩
          · have hr := hx.rows 5
            refine ⟨⟨hE.1, hE.2, by decide, by decide⟩, fun hh => ⟨⟨Nat.lt_of_lt_of_le hr.1 (by decide), hokT, hr.2⟩, ⟨Int.natCast_nonneg _, by show (b : Int) < 64; omega, by decide, by decide⟩, fun hbad => ?_, fun hgood => ?_⟩, fun hh => ?_⟩
            · have hno : isM (((nf : Int), (nw : Int), li), ks, r0, r1, r2, r3, r4, r5) (everyM nw) (tM a1 b) = false := isM_says hkl (sayM_no hh hbad)
              exact ⟨⟨(a1, b + 1), ha1, hbl⟩, ⟨⟨rfl, rfl, congrArg _ hsu⟩, (preM_no _ _ _ _ hno).symm⟩, dec1 hbl, rfl⟩
            · exact ⟨⟨((a1, b), 5 + 1), ha1, hbl, hle', hkl, below_succ hs2 (sayM_yes hgood)⟩, ⟨⟨rfl, rfl, rfl, rfl, congrArg _ hksu⟩, rfl, rfl, rfl⟩, dec1 hkl, rfl⟩
            · exact ⟨⟨((a1, b), 5 + 1), ha1, hbl, hle', hkl, below_succ hs2 (sayM_off hh)⟩, ⟨⟨rfl, rfl, rfl, rfl, congrArg _ hksu⟩, rfl, rfl, rfl⟩, dec1 hkl, rfl⟩
        · have hall : ∀ j, j < nw → sayM (((nf : Int), (nw : Int), li), ks, r0, r1, r2, r3, r4, r5) (everyM nw) (tM a1 b) j = true := by
            have h3 : ¬ ((k : Int)) < (nw : Int) := of_decide_eq_false h2
            intro j hj
            exact hs2 j (by show j < k; omega)
          refine ⟨⟨((a1, b), 0), ha1, hbl, hle', hall, Nat.zero_le _, fun j hj => absurd hj (Nat.not_lt_zero _)⟩, ⟨⟨rfl, rfl, rfl, rfl, ⟨rfl, rfl⟩, rfl⟩, rfl, rfl, rfl⟩, ?_⟩
          rintro ⟨⟨⟨a3, b3⟩, j⟩, ha3, hb3, hp3, hs3, hj3, hq3⟩ hr3
          have hr3' : (a3, b3) = (a1, b) := hr3
          cases hr3'
          refine ⟨fun h3 => ?_, fun h3 => ?_⟩
          · have hjl : j < ks.length := by
              have h4 : ((j : Int)) < (ks.length : Int) := of_decide_eq_true h3
              exact_mod_cast h4
            have hksu : IntKind.i64.wrap ((j : Int) + 1) = ((j + 1 : Nat) : Int) := by rw [wrap_id (by omega) (by omega)]; rfl
            have hkn := hx.known (ks.getD j dfW) (by rw [List.getD_eq_getElem?_getD, List.getElem?_eq_getElem hjl]; exact List.getElem_mem hjl)
            refine ⟨⟨Int.natCast_nonneg _, by show (j : Int) < (ks.length : Int); omega⟩, hjl, ⟨hokT, hkn⟩, fun hbad => ?_, fun hgood => ?_⟩
            · have hbad' : rightM (tM a1 b) (ks.getD j dfW) = false := Bool.not_eq_true' _ ▸ hbad
              have hno : isM (((nf : Int), (nw : Int), li), ks, r0, r1, r2, r3, r4, r5) (everyM nw) (tM a1 b) = false := isM_known hjl hbad'
              exact ⟨⟨(a1, b + 1), ha1, hbl⟩, ⟨⟨rfl, rfl, congrArg _ hsu⟩, (preM_no _ _ _ _ hno).symm⟩, dec1 hbl, rfl⟩
            · have hgood' : rightM (tM a1 b) (ks.getD j dfW) = true := Bool.not_eq_false' _ ▸ hgood
              exact ⟨⟨((a1, b), j + 1), ha1, hbl, hle', hs3, hjl, below_succ hq3 hgood'⟩, ⟨⟨rfl, rfl, rfl, rfl, ⟨rfl, rfl⟩, congrArg _ hksu⟩, rfl, rfl, rfl⟩, dec1 hjl, rfl⟩
          · have hyes : isM (((nf : Int), (nw : Int), li), ks, r0, r1, r2, r3, r4, r5) (everyM nw) (tM a1 b) = true := isM_true hle' hs3 (by
              have h4 : ¬ ((j : Int)) < (ks.length : Int) := of_decide_eq_false h3
              intro i hi
              have hi' : i < ks.length := hi
              exact hq3 i (by show i < j; omega))
            have hpl := preM_length _ hx (everyM nw) a1 b (by omega) (by omega)
            exact ⟨Nat.le_refl _, Nat.le_trans (Nat.add_le_add_right hpl 1) (by decide), ⟨(a1, b + 1), ha1, hbl⟩, ⟨⟨rfl, rfl, congrArg _ hsu⟩, (preM_yes _ _ _ _ hyes).symm⟩, dec1 hbl, rfl⟩
    · have hbl : b = 2 ^ nw := by
        have h2 : ¬ ((b : Int)) < ((2 ^ nw : Nat) : Int) := of_decide_eq_false h1
        have h3 : ¬ b < 2 ^ nw := by intro h; exact h2 (by exact_mod_cast h)
        have : b ≤ 2 ^ nw := hb
        omega
      subst hbl
      exact ⟨⟨a1 + 1, hlt⟩, ⟨congrArg _ (sucW a1 ha64), preM_line _ _ _⟩, dec1 hlt⟩
  · have hta : t.1 = 2 ^ nf := by
      have h2 : ¬ ((t.1 : Int)) < ((2 ^ nf : Nat) : Int) := of_decide_eq_false ht
      have h3 : ¬ t.1 < 2 ^ nf := by intro h; exact h2 (by exact_mod_cast h)
      have : t.1 ≤ 2 ^ nf := t.2
      omega
    simp only [hta]
    exact ⟨fun h => ⟨h, rfl⟩, fun h => h⟩

theorem all_sound : Sound Try.prog 57 allS.con := FSpec2.sound _ (enter_of Try.func57 (by kernel_rfl) (by kernel_rfl)) all_ok
end AE.Pr

namespace AE.Pr
open Go AE Go.Proofs

/-- A hearing as the program keeps it. -/
abbrev rtM (x : HT) : RT := (x.1, x.2.2, saysM x.2.1 0, saysM x.2.1 1, saysM x.2.1 2, saysM x.2.1 3, saysM x.2.1 4, saysM x.2.1 5)
theorem okW_of {f w : Int} {c : W3} (hf : 0 ≤ f ∧ f ≤ 6) (hw : 0 ≤ w ∧ w ≤ 6) (h : wordM f w c = true) : okW c := by
  unfold wordM inM at h
  rw [Bool.and_eq_true, decide_eq_true_eq, decide_eq_true_eq] at h
  have h2 := h.2
  cases hp : c.1 with
  | true =>
    rw [hp, if_pos rfl] at h2
    have h3 : W (w - 1) = w - 1 := wrap_id (by omega) (by omega)
    rw [h3] at h2
    exact ⟨h.1, by omega⟩
  | false =>
    rw [hp, if_neg (by simp)] at h2
    have h3 : W (f - 1) = f - 1 := wrap_id (by omega) (by omega)
    rw [h3] at h2
    exact ⟨h.1, by omega⟩
theorem says_ok {x : HT} (h : HearOk x) (k : Int) : (saysM x.2.1 k).length < 1000 ∧ ∀ c ∈ saysM x.2.1 k, okCi c := by
  refine ⟨?_, fun c hc => ?_⟩
  · have h1 := saysM_length x.2.1 k
    have h2 := h.cs
    omega
  · unfold saysM at hc
    obtain ⟨d, hd, rfl⟩ := List.mem_map.1 hc
    have hd2 := (mem_ddM _ _).1 (List.mem_filter.1 hd).1
    obtain ⟨_, _, h3, h4⟩ := h.claims d hd2
    refine ⟨okW_of h.f h.w h3, fun hh => okW_of h.f h.w (h4 fun h0 => ?_)⟩
    rcases hh with hh | hh
    · have h5 : d.2.1 = 1 := of_decide_eq_true hh
      omega
    · have h5 : d.2.1 = 2 := of_decide_eq_true hh
      omega
theorem rt_ok {x : HT} (h : HearOk x) : RtOk (rtM x) where
  f := h.f
  w := h.w
  ks := by have := h.ks; show x.2.2.length < 1000; omega
  known := fun c hc => okW_of h.f h.w (h.known c hc)
  rows := fun k => by
    match k with
    | 0 => exact says_ok h 0
    | 1 => exact says_ok h 1
    | 2 => exact says_ok h 2
    | 3 => exact says_ok h 3
    | 4 => exact says_ok h 4
    | 5 => exact says_ok h 5
    | k + 6 => exact ⟨by simp [rowK], fun c hc => by simp [rowK] at hc⟩
/-- All truths of a hearing, if some witnesses are heard. -/
def truthsM (x : HT) (heard : Int) : List (Int × Int) := allM (rtM x) heard
/-- All witnesses. -/
def everyH (x : HT) : Int := everyM x.1.2.1.toNat
def allH (x : HT) : List (Int × Int) := truthsM x (everyH x)
/-- Count: how many truths there are; the error. -/
def countM (x : HT) : Int × Int := if hearM x then (((allH x).length : Int), 0) else (0, 1)
theorem mem_allM {x : RT} (hx : RtOk x) {heard : Int} {t : Int × Int} (h : t ∈ allM x heard) : okT t ∧ isM x heard t = true := by
  unfold allM preM at h
  have key : ∀ a n, a < 64 → n ≤ 64 → t ∈ lineM x heard a n → okT t ∧ isM x heard t = true := by
    intro a n ha hn ht
    unfold lineM at ht
    obtain ⟨b, hb, rfl⟩ := List.mem_map.1 ht
    obtain ⟨hb1, hb2⟩ := List.mem_filter.1 hb
    have hb3 := List.mem_range.1 hb1
    exact ⟨⟨⟨Int.natCast_nonneg _, by show (a : Int) < 64; omega⟩, ⟨Int.natCast_nonneg _, by show (b : Int) < 64; omega⟩⟩, hb2⟩
  rcases List.mem_append.1 h with h | h
  · obtain ⟨a, ha, ht⟩ := List.mem_flatMap.1 h
    have h1 := List.mem_range.1 ha
    have h2 := pow_le hx.f
    exact key a _ (by omega) (pow_le hx.w) ht
  · unfold lineM at h
    simp at h
/-- Was a word not right, was it right, in some truth; what is told of it. -/
def wrongsM (l : List (Int × Int)) (w : W3) : Bool := l.any fun t => !rightM t w
def rightsM (l : List (Int × Int)) (w : W3) : Bool := l.any fun t => rightM t w
def verdictM (l : List (Int × Int)) (w : W3) : Int := if !wrongsM l w && rightsM l w then 2 else if wrongsM l w && !rightsM l w then 0 else 1
def ruleM (x : HT) (w : W3) : Int × Int :=
  if hearM x && wordM x.1.1 x.1.2.1 w then (if ((allH x).length : Int) > 0 then (verdictM (allH x) w, 0) else (0, 10)) else (0, openErrM x)
theorem any_take {α : Type} (p : α → Bool) (l : List α) (i : Nat) (h : i < l.length) (d : α) : (l.take (i + 1)).any p = ((l.take i).any p || p (l.getD i d)) := by
  rw [take_snoc l i h d, List.any_append]; simp
end AE.Pr

namespace AE.Pr
open Go AE Go.Proofs

/-! ### Rule's closure -/
def avWBox (H : Heap UU) (id : Nat) : Option W3 := match blkAt H id 0 with
  | some (.cells [a, b, c] _) => avW (.agg [a, b, c])
  | some (.rc [a, b, c] _) => avW (.agg [a, b, c])
  | _ => none
def seeS : FSpec UU where
  X := (Int × Int) × W3 × Bool × Bool
  pick := fun args H => match args with
    | [t, .ptr i 0 0 0, .ptr j 0 0 0] => match avT t, avWBox H i, blkAt H j 0 with
      | some t, some w, some (.cells [a, b] _) => match avBool a, avBool b with
        | some a, some b => some (t, w, a, b)
        | _, _ => none
      | _, _, _ => none
    | _ => none
  args := fun x => [vT x.1, .ptr 0 0 0 0, .ptr 1 0 0 0]
  H := fun x => [.one (.rc [.b x.2.1.1, .i x.2.1.2.1, .b x.2.1.2.2] 27), .one (.cells [.b x.2.2.1, .b x.2.2.2] 82)]
  R := fun x => .val ⟨.tup [], [(1, 0, .cells [.b (x.2.2.1 || !rightM x.1 x.2.1), .b (x.2.2.2 || rightM x.1 x.2.1)] 82)], [], []⟩
  pre := fun x => okT x.1 ∧ okW x.2.1
set_option maxRecDepth 100000 in
theorem see_ok : ∀ x, seeS.pre x → FunOk Try.prog 55 (seeS.args x) (seeS.H x) (seeS.R x) := by
  rintro ⟨⟨f, l⟩, ⟨p, n, x⟩, a, b⟩ h
  refine fun_of (T := Tright) (L := fun _ => none) (hs := fun _ => []) hmix Tright_ok Try.func55 (by kernel_rfl) (by kernel_rfl) ?_
  refine Eq.mp (α :=
      let Z4 := Value.int IntKind.i64 n; let Z5 := (↑(nat_lit 2) : Int); let Z6 := (0 : Int); let Z7 := (1 : Int); let Z8 := (64 : Int); let Z9 := Value.bool p = Value.bool p; let Z10 := Value.bool x = Value.bool x; let Z13 := Z4 = Z4; let Z14 := rightM (f, l) (p, n, x); (((Z6 ≤ f ∧ f < Z8) ∧ Z6 ≤ l ∧ l < Z8) ∧ Z6 ≤ n ∧ n < (6 : Int)) ∧ ((Value.int IntKind.u64 f = Value.int IntKind.u64 f ∧ Value.int IntKind.u64 l = Value.int IntKind.u64 l ∧ True) ∧ (Z9 ∧ Z13 ∧ Z10 ∧ True) ∧ True) ∧ True ∧ (Z14 = true → (Z6 ≤ Z7 ∧ Z7 < Z5) ∧ True ∧ (True ∧ True) ∧ True ∧ (Z9 ∧ Z13 ∧ Z10 ∧ True) ∧ (Value.bool a = Value.bool (a || !Z14) ∧ Value.bool (b || Z14) = Value.bool true ∧ True) ∧ True) ∧ (Z14 = false → (Z6 ≤ Z6 ∧ Z6 < Z5) ∧ True ∧ (True ∧ True) ∧ True ∧ (Z9 ∧ Z13 ∧ Z10 ∧ True) ∧ (Value.bool (a || !Z14) = Value.bool true ∧ Value.bool b = Value.bool (b || Z14) ∧ True) ∧ True))
    (by kernel_rfl) ?_
  refine ⟨h, by simp, trivial, fun hr => ?_, fun hr => ?_⟩ <;> simp [hr]

theorem see_sound : Sound Try.prog 55 seeS.con := FSpec.sound _ (enter_of Try.func55 (by kernel_rfl) (by kernel_rfl)) see_ok

/-! ### Rule -/
def wBox (w : W3) : AB UU := .one (.cells [.b w.1, .i w.2.1, .b w.2.2] 27)
def ruleL (x : HT) (w : W3) (l : List (Int × Int)) : LSpec UU where
  T := { i : Nat // i ≤ l.length }
  fr := fun i => [(4, .i 0), (5, .ptr 4 0 0 0), (7, .ptr 13 0 0 0), (8, .fn (.func 55) [] [.ptr 3 0 0 0, .ptr 13 0 0 0]), (19, .gs 14 0), (20, .i l.length), (21, .i i.1)]
  H := fun i => hH x ++ [.none, wBox w, .one (.cells [.i 0] 30), .none, .none, .none, .none, .none, .none, .none, .none, .one (.cells [.b (wrongsM (l.take i.1) w), .b (rightsM (l.take i.1) w)] 82), .one (.row .truth l 85)]
  mu := fun i => l.length - i.1
def ruleS : FSpec UU where
  X := HT × W3
  pick := fun args H => match args with
    | [a, b] => match avH H a, avW b with
      | some a, some b => some (a, b)
      | _, _ => none
    | _ => none
  args := fun x => [vH x.1, vW x.2]
  H := fun x => hH x.1
  R := fun x => .val ⟨.tup [.i (ruleM x.1 x.2).1, .i (ruleM x.1 x.2).2], [], [], []⟩
  pre := fun x => okH x.1
def Trule : Tab UU := [(54, isWordS.con), (49, openS.con), (57, allS.con), (55, seeS.con), (48, caughtS.con)]
theorem Trule_ok : Trule.Sound Try.prog := .cons isWord_sound (.cons open_sound (.cons all_sound (.cons see_sound (.cons caught_sound .nil))))
set_option maxHeartbeats 0 in
set_option maxRecDepth 100000 in
theorem rule_ok : ∀ x, ruleS.pre x → FunOk Try.prog 20 (ruleS.args x) (ruleS.H x) (ruleS.R x) := by
  rintro ⟨⟨⟨f, w, li⟩, cs, ks⟩, ⟨p, n, q⟩⟩ hl
  refine fun_ofG (T := Trule) (L := fun _ => some (.inv (ruleL ((f, w, li), cs, ks) (p, n, q) (allH ((f, w, li), cs, ks))))) (hs := fun _ => []) (sp := fun _ => none) hmix Trule_ok (tl := toldL 53) (toldL_ok told53) (it := fun _ => none) (fun _ _ h => by cases h) Try.func20 (by kernel_rfl) (by kernel_rfl) ?_
  refine Eq.mp (α :=
      let Z0 := Int.toNat w; let Z1 := Value.bool q; let Z2 := Value.bool p; let Z3 := List.length cs; let Z4 := List.length ks; let Z5 := (w, li); let Z6 := (n, q); let Z7 := Value.int IntKind.i64 f; let Z8 := Value.int IntKind.i64 w; let Z9 := Value.int IntKind.i64 n; let Z10 := Value.int IntKind.i64 li; let Z11 := everyM Z0; let Z12 := nat_lit 0 = nat_lit 0 ∧ nat_lit 0 = nat_lit 0; let Z13 := (1 : Int); let Z14 := (4 : Int); let Z15 := (5 : Int); let Z16 := (2 : Int); let Z17 := (0 : Int); let Z18 := (3 : Int); let Z19 := (64 : Int); let Z20 := (10 : Int); let Z21 := (4 : Nat); let Z22 := Value.nilIface = Value.nilIface; let Z23 := ks = ks; let Z24 := (cs, ks); let Z25 := (55 : FuncId); let Z26 := cs = cs; let Z27 := (85 : TypeId); let Z28 := Z2 = Z2; let Z29 := Z1 = Z1; let Z30 := (112 : TypeId); let Z31 := saysM cs Z15; let Z32 := saysM cs Z16; let Z33 := saysM cs Z13; let Z34 := saysM cs Z17; let Z35 := saysM cs Z14; let Z36 := saysM cs Z18; let Z37 := nat_lit 0 = nat_lit 0 ∧ Z12; let Z38 := AV.ptr Z21 (nat_lit 0) (nat_lit 0) (nat_lit 0); let Z39 := Fn.func Z25; let Z40 := Z23 ∧ True; let Z41 := Z29 ∧ True; let Z42 := Z4 = Z4; let Z43 := Z3 = Z3; let Z44 := (f, Z5); let Z45 := Value.int IntKind.i64 Z17; let Z46 := (p, Z6); let Z47 := Value.int IntKind.i64 Z20; let Z48 := Z37 ∧ True; let Z49 := Z7 = Z7; let Z50 := Z9 = Z9; let Z51 := Z8 = Z8; let Z52 := Z10 = Z10; let Z53 := List.length Z32; let Z54 := List.length Z34; let Z55 := List.length Z35; let Z56 := List.length Z36; let Z57 := List.length Z33; let Z58 := List.length Z31; let Z59 := nat_lit 0 = nat_lit 0 ∧ Z42; let Z60 := nat_lit 0 = nat_lit 0 ∧ Z43; let Z61 := wordM f w Z46; let Z62 := [Z38]; let Z63 := List.length Z36; let Z64 := List.length Z35; let Z65 := List.length Z34; let Z66 := List.length Z33; let Z67 := List.length Z31; let Z68 := List.length Z32; let Z69 := Z48 ∧ True ∧ True; let Z70 := (Z17, Z17); let Z71 := Value.bool Z61; let Z72 := nat_lit 0 = nat_lit 0 ∧ Z60; let Z73 := nat_lit 0 = nat_lit 0 ∧ Z59; let Z74 := Z27 = Z27; let Z75 := Z26 ∧ Z40; let Z76 := Z30 = Z30; let Z77 := Z73 ∧ True; let Z78 := Z22 ∧ Z48; let Z79 := True ∧ Z75; let Z80 := Z37 ∧ Z48; let Z81 := DfE.call (Fn.func (nat_lit 53)) Z62 []; let Z82 := Z73 ∧ nat_lit 0 = nat_lit 0 ∧ True; let Z83 := Z50 ∧ Z41; let Z84 := Z45 = Z45; let Z85 := Z32 = Z32; let Z86 := Z36 = Z36; let Z87 := Z34 = Z34; let Z88 := Z35 = Z35; let Z89 := Z31 = Z31; let Z90 := Z33 = Z33; let Z91 := True ∧ Z80; let Z92 := (Z35, Z31); let Z93 := True ∧ Z82; let Z94 := Z84 ∧ True; let Z95 := Z89 ∧ True; let Z96 := Z94 ∧ True; let Z97 := [Z81]; let Z98 := Z65 = Z54; let Z99 := Z64 = Z55; let Z100 := Z67 = Z58; let Z101 := Z68 = Z53; let Z102 := Z63 = Z56; let Z103 := Z66 = Z57; let Z104 := (Z44, Z24); let Z105 := Z28 ∧ Z83; let Z106 := allH Z104; let Z107 := hearM Z104; let Z108 := nat_lit 0 = nat_lit 0 ∧ Z102; let Z109 := nat_lit 0 = nat_lit 0 ∧ Z100; let Z110 := nat_lit 0 = nat_lit 0 ∧ Z98; let Z125 := Value.int IntKind.i64 (openErrM Z104); let Z127 := truthsM Z104 Z11; let Z131 := nat_lit 11 = nat_lit 11 ∧ nat_lit 0 = nat_lit 0 ∧ nat_lit 0 = nat_lit 0 ∧ Z99; let Z132 := nat_lit 12 = nat_lit 12 ∧ nat_lit 0 = nat_lit 0 ∧ Z109; let Z133 := nat_lit 10 = nat_lit 10 ∧ nat_lit 0 = nat_lit 0 ∧ Z108; let Z136 := List.length Z127; let Z139 := List.length Z127; let Z142 : Type := { i : Nat // i ≤ List.length Z106 }; let Z143 := fun (x : Z142) => Subtype.val x; let Z145 := (↑Z136 : Int); let Z149 := Value.int IntKind.i64 (Prod.snd (ruleM Z104 Z46)); let Z150 := Value.int IntKind.i64 (Prod.fst (ruleM Z104 Z46)); let Z151 := Value.int IntKind.i64 Z145; let Z152 := fun (x : Z142) => (↑(Z143 x) : Int); let Z157 := Z45 = Z149; let Z158 := Z45 = Z150; let Z159 := fun (t : Z142) => nat_lit 0 + Int.toNat (Z152 t); let Z165 := fun (x : Z142) => List.take (Z143 x) Z127; let Z168 := fun (x : Z142) => Z136 - Z143 x; let Z169 := fun (x : Z142) => rightsM (Z165 x) Z46; let Z170 := fun (x : Z142) => wrongsM (Z165 x) Z46; let Z171 := fun (x : Z142) => Value.bool (Z169 x); let Z172 := fun (x : Z142) => Value.bool (Z170 x); let Z175 := fun (t : Z142) => Z169 t == true; let Z176 := fun (t : Z142) => Z170 t == true; let Z177 := fun (t : Z142) => Z170 t == false; let Z178 := fun (t : Z142) => Z169 t == false; let Z182 := fun (t : Z142) => List.getD Z127 (Z159 t) Z70; let Z183 := fun (t : Z142) => Prod.snd (Z182 t); let Z184 := fun (t : Z142) => Prod.fst (Z182 t); let Z191 := (Z44, ks, Z34, Z33, Z32, Z36, Z92); let Z192 := allM Z191 Z11; let Z196 := fun (t : Z142) => decide (Z152 t < Z145); let Z204 := decide ((↑(List.length Z192) : Int) > Z17); True ∧ ((Z49 ∧ Z51 ∧ True ∧ True ∧ True ∧ True) ∧ Z105 ∧ True) ∧ True ∧ (Z3 < nat_lit 1000 ∧ Z4 < nat_lit 1000) ∧ ((Z107 && Z61) = true → ((Z49 ∧ Z51 ∧ Z52 ∧ Z72 ∧ Z77) ∧ Z71 = Z71 ∧ True) ∧ Z75 ∧ RtOk Z191 ∧ (Z204 = true → Z48 ∧ ((Z49 ∧ Z51 ∧ Z52 ∧ Z93) ∧ Z23 ∧ ((nat_lit 7 = nat_lit 7 ∧ nat_lit 0 = nat_lit 0 ∧ Z110) ∧ (nat_lit 8 = nat_lit 8 ∧ nat_lit 0 = nat_lit 0 ∧ nat_lit 0 = nat_lit 0 ∧ Z103) ∧ (nat_lit 9 = nat_lit 9 ∧ nat_lit 0 = nat_lit 0 ∧ nat_lit 0 = nat_lit 0 ∧ Z101) ∧ Z133 ∧ Z131 ∧ Z132 ∧ True) ∧ Z87 ∧ Z90 ∧ Z85 ∧ Z86 ∧ Z88 ∧ Z95) ∧ (∃ (x : Z142), (Z84 ∧ Z37 ∧ Z37 ∧ (Fn.func (nat_lit 55) = Z39 ∧ Z91) ∧ nat_lit 0 = nat_lit 0 ∧ Value.int IntKind.i64 (↑(List.length Z192) : Int) = Z151 ∧ Z45 = Value.int IntKind.i64 (Z152 x) ∧ True) ∧ Z69 ∧ Z26 ∧ Z23 ∧ True ∧ Z105 ∧ Z94 ∧ True ∧ True ∧ True ∧ True ∧ True ∧ True ∧ True ∧ True ∧ (Value.bool false = Z172 x ∧ Value.bool false = Z171 x ∧ True) ∧ (Z74 ∧ Z192 = Z127) ∧ True) ∧ ∀ (t : Z142), (Z196 t = true → (Z17 ≤ Z152 t ∧ Z152 t < (↑Z139 : Int)) ∧ Z159 t < Z139 ∧ (((Z17 ≤ Z184 t ∧ Z184 t < Z19) ∧ Z17 ≤ Z183 t ∧ Z183 t < Z19) ∧ Z17 ≤ n ∧ n < (6 : Int)) ∧ ((Value.int IntKind.u64 (Z184 t) = Value.int IntKind.u64 (Z184 t) ∧ Value.int IntKind.u64 (Z183 t) = Value.int IntKind.u64 (Z183 t) ∧ True) ∧ Z80) ∧ (Z105 ∧ (Z172 t = Z172 t ∧ Z171 t = Z171 t ∧ True) ∧ True) ∧ Z97 = Z97 ∧ ∃ (x : Z142), ((Z84 ∧ Z37 ∧ Z37 ∧ (Z39 = Z39 ∧ Z91) ∧ nat_lit 0 = nat_lit 0 ∧ Z151 = Z151 ∧ Value.int IntKind.i64 (IntKind.wrap IntKind.i64 (Z152 t + Z13)) = Value.int IntKind.i64 (Z152 x) ∧ True) ∧ Z69 ∧ Z26 ∧ Z23 ∧ True ∧ Z105 ∧ Z94 ∧ True ∧ True ∧ True ∧ True ∧ True ∧ True ∧ True ∧ True ∧ (Value.bool (Z170 t || !rightM (Z182 t) Z46) = Z172 x ∧ Value.bool (Z169 t || rightM (Z182 t) Z46) = Z171 x ∧ True) ∧ (Z74 ∧ Z127 = Z127) ∧ True) ∧ Z168 x < Z168 t) ∧ (Z196 t = false → ((Z177 t && Z175 t) = true → True ∧ Z78 ∧ Z96 ∧ True ∧ ((Value.int IntKind.i64 Z16 = Z150 ∧ Z157 ∧ True) ∧ True) ∧ Z79) ∧ ((Z177 t && Z175 t) = false → ((Z176 t && Z178 t) = true → True ∧ Z78 ∧ Z96 ∧ True ∧ ((Z158 ∧ Z157 ∧ True) ∧ True) ∧ Z79) ∧ ((Z176 t && Z178 t) = false → True ∧ Z78 ∧ Z96 ∧ True ∧ ((Value.int IntKind.i64 Z13 = Z150 ∧ Z157 ∧ True) ∧ True) ∧ Z79)))) ∧ (Z204 = false → Z48 ∧ ((Z49 ∧ Z51 ∧ Z52 ∧ Z93) ∧ Z23 ∧ ((nat_lit 7 = nat_lit 7 ∧ nat_lit 0 = nat_lit 0 ∧ Z110) ∧ (nat_lit 8 = nat_lit 8 ∧ nat_lit 0 = nat_lit 0 ∧ nat_lit 0 = nat_lit 0 ∧ Z103) ∧ (nat_lit 9 = nat_lit 9 ∧ nat_lit 0 = nat_lit 0 ∧ nat_lit 0 = nat_lit 0 ∧ Z101) ∧ Z133 ∧ Z131 ∧ Z132 ∧ True) ∧ Z87 ∧ Z90 ∧ Z85 ∧ Z86 ∧ Z88 ∧ Z95) ∧ True ∧ ((Z76 ∧ Z47 = Z47 ∧ True) ∧ Z48) ∧ Z96 ∧ True ∧ ((Z158 ∧ Z47 = Z149 ∧ True) ∧ True) ∧ Z79)) ∧ ((Z107 && Z61) = false → ((Z49 ∧ Z51 ∧ Z52 ∧ Z72 ∧ Z77) ∧ Z71 = Z71 ∧ True) ∧ Z75 ∧ True ∧ ((Z76 ∧ Z125 = Z125 ∧ True) ∧ Z48) ∧ Z96 ∧ True ∧ ((Z158 ∧ Z125 = Z149 ∧ True) ∧ True) ∧ Z79))
    (by kernel_rfl) ?_
  simp only [ruleS, okH] at hl
  simp only [eq_self, true_and, and_true, Int.toNat_natCast, Nat.zero_add, Nat.sub_zero]
  have hA : allM ((f, w, li), ks, saysM cs 0, saysM cs 1, saysM cs 2, saysM cs 3, saysM cs 4, saysM cs 5) (everyM w.toNat) = allH ((f, w, li), cs, ks) := rfl
  have hA2 : truthsM ((f, w, li), cs, ks) (everyM w.toNat) = allH ((f, w, li), cs, ks) := rfl
  simp only [hA, hA2, true_and, and_true]
  refine ⟨hl, fun hh => ?_, fun hh => ?_⟩
  · have hh2 : hearM ((f, w, li), cs, ks) = true ∧ wordM f w (p, n, q) = true := by rw [← Bool.and_eq_true]; exact hh
    have hk := hear_ok hh2.1
    have hx := rt_ok hk
    have hok : ∀ t ∈ allH ((f, w, li), cs, ks), okT t := fun t ht => (mem_allM hx ht).1
    have hlen : (allH ((f, w, li), cs, ks)).length ≤ 5000 := preM_length _ hx _ _ _ (pow_le hx.f) (by decide)
    have hW6 : okW (p, n, q) := okW_of hk.f hk.w hh2.2
    have hr : ruleM ((f, w, li), cs, ks) (p, n, q) = if ((allH ((f, w, li), cs, ks)).length : Int) > 0 then (verdictM (allH ((f, w, li), cs, ks)) (p, n, q), 0) else (0, 10) := by
      unfold ruleM; rw [if_pos hh]
    rw [hr]
    generalize allH ((f, w, li), cs, ks) = A at *
    refine ⟨hx, fun hp => ⟨⟨⟨0, Nat.zero_le _⟩, by simp [wrongsM, rightsM]⟩, fun t => ⟨fun ht => ?_, fun ht => ?_⟩⟩, fun hp => ?_⟩
    · obtain ⟨t, htl⟩ := t
      have hlt : t < A.length := by
        have h4 : ((t : Int)) < (A.length : Int) := of_decide_eq_true ht
        exact_mod_cast h4
      have hmem : A.getD t (0, 0) ∈ A := by rw [List.getD_eq_getElem?_getD, List.getElem?_eq_getElem hlt]; exact List.getElem_mem hlt
      have hw : IntKind.i64.wrap ((t : Int) + 1) = ((t + 1 : Nat) : Int) := by rw [wrap_id (by omega) (by omega)]; rfl
      refine ⟨⟨Int.natCast_nonneg _, by show (t : Int) < (A.length : Int); omega⟩, hlt, ⟨hok _ hmem, hW6⟩, ⟨t + 1, hlt⟩, ?_, dec1 hlt⟩
      simp only [wrongsM, rightsM, any_take _ A t hlt (0, 0), hw, true_and]
    · have hta : t.1 = A.length := by
        have h2 : ¬ ((t.1 : Int)) < (A.length : Int) := of_decide_eq_false ht
        have : t.1 ≤ A.length := t.2
        omega
      rw [hta, List.take_length, if_pos (of_decide_eq_true hp)]
      simp only [verdictM]
      cases wrongsM A (p, n, q) <;> cases rightsM A (p, n, q) <;> simp
    · rw [if_neg (of_decide_eq_false hp)]
      exact ⟨rfl, rfl⟩
  · have hr : ruleM ((f, w, li), cs, ks) (p, n, q) = (0, openErrM ((f, w, li), cs, ks)) := by
      unfold ruleM; rw [if_neg (by rw [hh]; simp)]
    rw [hr]
    exact ⟨rfl, rfl⟩

theorem rule_sound : Sound Try.prog 20 ruleS.con := FSpec.sound _ (enter_of Try.func20 (by kernel_rfl) (by kernel_rfl)) rule_ok

/-! ### Fact, Told -/
def factS (p : Bool) : FSpec UU where
  X := HT × Int
  pick := fun args H => match args with
    | [a, b] => match avH H a, avInt b with
      | some a, some b => some (a, b)
      | _, _ => none
    | _ => none
  args := fun x => [vH x.1, .i x.2]
  H := fun x => hH x.1
  R := fun x => .val ⟨.tup [.i (ruleM x.1 (p, x.2, false)).1, .i (ruleM x.1 (p, x.2, false)).2], [], [], []⟩
  pre := fun x => okH x.1
def Tfact : Tab UU := [(20, ruleS.con)]
theorem Tfact_ok : Tfact.Sound Try.prog := .cons rule_sound .nil
set_option maxRecDepth 100000 in
theorem fact_ok : ∀ x, (factS false).pre x → FunOk Try.prog 16 ((factS false).args x) ((factS false).H x) ((factS false).R x) := by
  rintro ⟨⟨⟨f, w, li⟩, cs, ks⟩, n⟩ hl
  refine fun_of (T := Tfact) (L := fun _ => none) (hs := fun _ => []) hmix Tfact_ok Try.func16 (by kernel_rfl) (by kernel_rfl) ?_
  refine Eq.mp (α :=
      let Z0 := List.length ks; let Z1 := List.length cs; let Z2 := Value.bool false; let Z5 := ks = ks; let Z7 := cs = cs; let Z11 := (false, n, false); let Z13 := ((f, w, li), cs, ks); let Z17 := Value.int IntKind.i64 (Prod.fst (ruleM Z13 Z11)); let Z18 := Value.int IntKind.i64 (Prod.snd (ruleM Z13 Z11)); (Z1 < nat_lit 1000 ∧ Z0 < nat_lit 1000) ∧ ((Value.int IntKind.i64 f = Value.int IntKind.i64 f ∧ Value.int IntKind.i64 w = Value.int IntKind.i64 w ∧ Value.int IntKind.i64 li = Value.int IntKind.i64 li ∧ (nat_lit 0 = nat_lit 0 ∧ nat_lit 0 = nat_lit 0 ∧ Z1 = Z1) ∧ (nat_lit 0 = nat_lit 0 ∧ nat_lit 0 = nat_lit 0 ∧ Z0 = Z0) ∧ True) ∧ (Z2 = Z2 ∧ Value.int IntKind.i64 n = Value.int IntKind.i64 n ∧ Z2 = Z2 ∧ True) ∧ True) ∧ (Z7 ∧ Z5 ∧ True) ∧ True ∧ ((Z17 = Z17 ∧ Z18 = Z18 ∧ True) ∧ True) ∧ True ∧ Z7 ∧ Z5 ∧ True)
    (by kernel_rfl) ?_
  simp only [factS, okH] at hl
  simpa using hl

theorem fact_sound : Sound Try.prog 16 (factS false).con := FSpec.sound _ (enter_of Try.func16 (by kernel_rfl) (by kernel_rfl)) fact_ok
set_option maxRecDepth 100000 in
theorem toldW_ok : ∀ x, (factS true).pre x → FunOk Try.prog 18 ((factS true).args x) ((factS true).H x) ((factS true).R x) := by
  rintro ⟨⟨⟨f, w, li⟩, cs, ks⟩, n⟩ hl
  refine fun_of (T := Tfact) (L := fun _ => none) (hs := fun _ => []) hmix Tfact_ok Try.func18 (by kernel_rfl) (by kernel_rfl) ?_
  refine Eq.mp (α :=
      let Z0 := List.length ks; let Z1 := List.length cs; let Z4 := ks = ks; let Z5 := cs = cs; let Z9 := (true, n, false); let Z11 := ((f, w, li), cs, ks); let Z15 := Value.int IntKind.i64 (Prod.fst (ruleM Z11 Z9)); let Z16 := Value.int IntKind.i64 (Prod.snd (ruleM Z11 Z9)); (Z1 < nat_lit 1000 ∧ Z0 < nat_lit 1000) ∧ ((Value.int IntKind.i64 f = Value.int IntKind.i64 f ∧ Value.int IntKind.i64 w = Value.int IntKind.i64 w ∧ Value.int IntKind.i64 li = Value.int IntKind.i64 li ∧ (nat_lit 0 = nat_lit 0 ∧ nat_lit 0 = nat_lit 0 ∧ Z1 = Z1) ∧ (nat_lit 0 = nat_lit 0 ∧ nat_lit 0 = nat_lit 0 ∧ Z0 = Z0) ∧ True) ∧ (Value.bool true = Value.bool true ∧ Value.int IntKind.i64 n = Value.int IntKind.i64 n ∧ Value.bool false = Value.bool false ∧ True) ∧ True) ∧ (Z5 ∧ Z4 ∧ True) ∧ True ∧ ((Z15 = Z15 ∧ Z16 = Z16 ∧ True) ∧ True) ∧ True ∧ Z5 ∧ Z4 ∧ True)
    (by kernel_rfl) ?_
  simp only [factS, okH] at hl
  simpa using hl

theorem toldW_sound : Sound Try.prog 18 (factS true).con := FSpec.sound _ (enter_of Try.func18 (by kernel_rfl) (by kernel_rfl)) toldW_ok

end AE.Pr

namespace AE.Pr
open Go AE Go.Proofs

/-! ### Liars -/
def spanM (l : List (Int × Int)) : Int × Int := l.foldl (fun s t => (min s.1 (popM t.2), max s.2 (popM t.2))) (6, 0)
def liarsM (x : HT) : (Int × Int) × Int := if hearM x then (if ((allH x).length : Int) > 0 then (spanM (allH x), 0) else ((0, 0), 10)) else ((0, 0), 1)
theorem span_take (l : List (Int × Int)) (i : Nat) (h : i < l.length) (d : Int × Int) : spanM (l.take (i + 1)) = (min (spanM (l.take i)).1 (popM (l.getD i d).2), max (spanM (l.take i)).2 (popM (l.getD i d).2)) := by
  rw [take_snoc l i h d]; unfold spanM; rw [List.foldl_append]; rfl
def liarsL (x : HT) (l : List (Int × Int)) : LSpec UU where
  T := { i : Nat // i ≤ l.length }
  fr := fun i => [(2, .ptr 3 0 0 0), (3, .ptr 4 0 0 0), (13, .gs 13 0), (14, .i l.length), (15, .i i.1)]
  H := fun i => hH x ++ [.none, .one (.cells [.i (spanM (l.take i.1)).1, .i (spanM (l.take i.1)).2] 37), .one (.cells [.i 0] 30), .none, .none, .none, .none, .none, .none, .none, .none, .one (.row .truth l 85)]
  mu := fun i => l.length - i.1
def liarsS : FSpec UU where
  X := HT
  pick := fun args H => match args with
    | [a] => avH H a
    | _ => none
  args := fun x => [vH x]
  H := fun x => hH x
  R := fun x => .val ⟨.tup [.agg [.i (liarsM x).1.1, .i (liarsM x).1.2], .i (liarsM x).2], [], [], []⟩
  pre := fun x => okH x
def Tliars : Tab UU := [(49, openS.con), (57, allS.con), (60, popS.con), (48, caughtS.con)]
theorem Tliars_ok : Tliars.Sound Try.prog := .cons open_sound (.cons all_sound (.cons size_sound (.cons caught_sound .nil)))
set_option maxHeartbeats 0 in
set_option maxRecDepth 100000 in
theorem liars_ok : ∀ x, liarsS.pre x → FunOk Try.prog 22 (liarsS.args x) (liarsS.H x) (liarsS.R x) := by
  rintro ⟨⟨f, w, li⟩, cs, ks⟩ hl
  refine fun_ofG (T := Tliars) (L := fun _ => some (.inv (liarsL ((f, w, li), cs, ks) (allH ((f, w, li), cs, ks))))) (hs := fun _ => []) (sp := fun _ => none) hmix Tliars_ok (tl := toldL 59) (toldL_ok told59) (it := fun _ => none) (fun _ _ h => by cases h) Try.func22 (by kernel_rfl) (by kernel_rfl) ?_
  refine Eq.mp (α :=
      let Z0 := Int.toNat w; let Z1 := Value.bool true; let Z2 := List.length ks; let Z3 := List.length cs; let Z4 := (w, li); let Z5 := Value.int IntKind.i64 li; let Z6 := Value.int IntKind.i64 w; let Z7 := Value.int IntKind.i64 f; let Z8 := everyM Z0; let Z9 := nat_lit 0 = nat_lit 0 ∧ nat_lit 0 = nat_lit 0; let Z10 := (2 : Int); let Z11 := (5 : Int); let Z12 := (1 : Int); let Z13 := (3 : Int); let Z14 := (4 : Int); let Z15 := (0 : Int); let Z16 := (10 : Int); let Z17 := (4 : Nat); let Z18 := ks = ks; let Z19 := cs = cs; let Z20 := (cs, ks); let Z21 := (85 : TypeId); let Z22 := (112 : TypeId); let Z23 := saysM cs Z11; let Z24 := saysM cs Z10; let Z25 := saysM cs Z15; let Z26 := saysM cs Z13; let Z27 := saysM cs Z14; let Z28 := saysM cs Z12; let Z29 := nat_lit 0 = nat_lit 0 ∧ Z9; let Z30 := Z18 ∧ True; let Z31 := AV.ptr Z17 (nat_lit 0) (nat_lit 0) (nat_lit 0); let Z32 := Z2 = Z2; let Z33 := Z3 = Z3; let Z34 := (f, Z4); let Z35 := Z1 = Z1; let Z36 := Value.int IntKind.i64 Z15; let Z37 := Value.int IntKind.i64 Z16; let Z38 := Z29 ∧ True; let Z39 := Z7 = Z7; let Z40 := Z5 = Z5; let Z41 := Z6 = Z6; let Z42 := List.length Z28; let Z43 := List.length Z27; let Z44 := List.length Z23; let Z45 := Z35 ∧ True; let Z46 := List.length Z26; let Z47 := List.length Z24; let Z48 := List.length Z25; let Z49 := nat_lit 0 = nat_lit 0 ∧ Z33; let Z50 := nat_lit 0 = nat_lit 0 ∧ Z32; let Z51 := [Z31]; let Z52 := List.length Z25; let Z53 := List.length Z27; let Z54 := List.length Z28; let Z55 := List.length Z24; let Z56 := List.length Z23; let Z57 := List.length Z26; let Z58 := Z38 ∧ True ∧ True; let Z59 := (Z15, Z15); let Z60 := nat_lit 0 = nat_lit 0 ∧ Z49; let Z61 := nat_lit 0 = nat_lit 0 ∧ Z50; let Z62 := Z21 = Z21; let Z63 := Z19 ∧ Z30; let Z64 := Z22 = Z22; let Z65 := Z61 ∧ True; let Z66 := True ∧ Z63; let Z67 := DfE.call (Fn.func (nat_lit 59)) Z51 []; let Z68 := Z61 ∧ nat_lit 0 = nat_lit 0 ∧ True; let Z69 := Z36 = Z36; let Z70 := Z27 = Z27; let Z71 := Z26 = Z26; let Z72 := Z25 = Z25; let Z73 := Z28 = Z28; let Z74 := Z24 = Z24; let Z75 := Z23 = Z23; let Z76 := (Z27, Z23); let Z77 := True ∧ Z68; let Z78 := Z69 ∧ True; let Z79 := Z75 ∧ True; let Z80 := Z78 ∧ True; let Z81 := [Z67]; let Z82 := Z54 = Z42; let Z83 := Z57 = Z46; let Z84 := Z53 = Z43; let Z85 := Z55 = Z47; let Z86 := Z52 = Z48; let Z87 := Z56 = Z44; let Z88 := (Z34, Z20); let Z89 := allH Z88; let Z90 := hearM Z88; let Z91 := nat_lit 0 = nat_lit 0 ∧ Z86; let Z92 := nat_lit 0 = nat_lit 0 ∧ Z85; let Z105 := Z90 && true; let Z107 := Value.int IntKind.i64 (openErrM Z88); let Z110 := truthsM Z88 Z8; let Z112 := Prod.fst (liarsM Z88); let Z116 := nat_lit 11 = nat_lit 11 ∧ nat_lit 0 = nat_lit 0 ∧ nat_lit 0 = nat_lit 0 ∧ Z84; let Z117 := nat_lit 12 = nat_lit 12 ∧ nat_lit 0 = nat_lit 0 ∧ nat_lit 0 = nat_lit 0 ∧ Z87; let Z118 := nat_lit 10 = nat_lit 10 ∧ nat_lit 0 = nat_lit 0 ∧ nat_lit 0 = nat_lit 0 ∧ Z83; let Z123 := Value.int IntKind.i64 (Prod.snd (liarsM Z88)); let Z125 := List.length Z110; let Z126 := List.length Z110; let Z127 := Value.int IntKind.i64 (Prod.fst Z112); let Z128 := Value.int IntKind.i64 (Prod.snd Z112); let Z129 : Type := { i : Nat // i ≤ List.length Z89 }; let Z130 := fun (x : Z129) => Subtype.val x; let Z131 := (↑Z125 : Int); let Z135 := Value.int IntKind.i64 Z131; let Z136 := fun (x : Z129) => (↑(Z130 x) : Int); let Z144 := fun (t : Z129) => nat_lit 0 + Int.toNat (Z136 t); let Z150 := fun (x : Z129) => List.take (Z130 x) Z110; let Z153 := fun (x : Z129) => Prod.fst (spanM (Z150 x)); let Z154 := fun (x : Z129) => Prod.snd (spanM (Z150 x)); let Z156 := fun (x : Z129) => Z125 - Z130 x; let Z157 := fun (x : Z129) => Value.int IntKind.i64 (Z153 x); let Z158 := fun (x : Z129) => Value.int IntKind.i64 (Z154 x); let Z165 := fun (t : Z129) => Prod.snd (List.getD Z110 (Z144 t) Z59); let Z166 := fun (t : Z129) => popM (Z165 t); let Z171 := (Z34, ks, Z25, Z28, Z24, Z26, Z76); let Z172 := allM Z171 Z8; let Z176 := fun (t : Z129) => decide (Z136 t < Z131); let Z182 := decide ((↑(List.length Z172) : Int) > Z15); (Z3 < nat_lit 1000 ∧ Z2 < nat_lit 1000) ∧
        (Z105 = true →
            ((Z39 ∧ Z41 ∧ Z40 ∧ Z60 ∧ Z65) ∧ Z45) ∧
              Z63 ∧
                RtOk Z171 ∧
                  (Z182 = true →
                      Z38 ∧
                        ((Z39 ∧ Z41 ∧ Z40 ∧ Z77) ∧ Z18 ∧ ((nat_lit 7 = nat_lit 7 ∧ nat_lit 0 = nat_lit 0 ∧ Z91) ∧ (nat_lit 8 = nat_lit 8 ∧ nat_lit 0 = nat_lit 0 ∧ nat_lit 0 = nat_lit 0 ∧ Z82) ∧ (nat_lit 9 = nat_lit 9 ∧ nat_lit 0 = nat_lit 0 ∧ Z92) ∧ Z118 ∧ Z116 ∧ Z117 ∧ True) ∧ Z72 ∧ Z73 ∧ Z74 ∧ Z71 ∧ Z70 ∧ Z79) ∧
                          (∃ (x : Z129), (Z29 ∧ Z29 ∧ nat_lit 0 = nat_lit 0 ∧ Value.int IntKind.i64 (↑(List.length Z172) : Int) = Z135 ∧ Z36 = Value.int IntKind.i64 (Z136 x) ∧ True) ∧ Z58 ∧ Z19 ∧ Z18 ∧ True ∧ (Value.int IntKind.i64 (6 : Int) = Z157 x ∧ Z36 = Z158 x ∧ True) ∧ Z78 ∧ True ∧ True ∧ True ∧ True ∧ True ∧ True ∧ True ∧ True ∧ (Z62 ∧ Z172 = Z110) ∧ True) ∧
                            ∀ (t : Z129),
                              (Z176 t = true →
                                  (Z15 ≤ Z136 t ∧ Z136 t < (↑Z126 : Int)) ∧
                                    Z144 t < Z126 ∧
                                      (Z15 ≤ Z165 t ∧ Z165 t < (64 : Int)) ∧
                                        (Value.int IntKind.u64 (Z165 t) = Value.int IntKind.u64 (Z165 t) ∧ True) ∧
                                          True ∧
                                            Z81 = Z81 ∧
                                              ∃ (x : Z129),
                                                ((Z29 ∧ Z29 ∧ nat_lit 0 = nat_lit 0 ∧ Z135 = Z135 ∧ Value.int IntKind.i64 (IntKind.wrap IntKind.i64 (Z136 t + Z12)) = Value.int IntKind.i64 (Z136 x) ∧ True) ∧
                                                    Z58 ∧
                                                      Z19 ∧
                                                        Z18 ∧
                                                          True ∧
                                                            (Value.int IntKind.i64
                                                                    (match false with
                                                                    | true => max (Z153 t) (Z166 t)
                                                                    | false => min (Z153 t) (Z166 t)) =
                                                                  Z157 x ∧
                                                                Value.int IntKind.i64
                                                                      (match true with
                                                                      | true => max (Z154 t) (Z166 t)
                                                                      | false => min (Z154 t) (Z166 t)) =
                                                                    Z158 x ∧
                                                                  True) ∧
                                                              Z78 ∧ True ∧ True ∧ True ∧ True ∧ True ∧ True ∧ True ∧ True ∧ (Z62 ∧ Z110 = Z110) ∧ True) ∧
                                                  Z156 x < Z156 t) ∧
                                (Z176 t = false → True ∧ (Value.nilIface = Value.nilIface ∧ Z38) ∧ Z80 ∧ True ∧ (((Z157 t = Z127 ∧ Z158 t = Z128 ∧ True) ∧ Z36 = Z123 ∧ True) ∧ True) ∧ Z66)) ∧
                    (Z182 = false → Z38 ∧ ((Z39 ∧ Z41 ∧ Z40 ∧ Z77) ∧ Z18 ∧ ((nat_lit 7 = nat_lit 7 ∧ nat_lit 0 = nat_lit 0 ∧ Z91) ∧ (nat_lit 8 = nat_lit 8 ∧ nat_lit 0 = nat_lit 0 ∧ nat_lit 0 = nat_lit 0 ∧ Z82) ∧ (nat_lit 9 = nat_lit 9 ∧ nat_lit 0 = nat_lit 0 ∧ Z92) ∧ Z118 ∧ Z116 ∧ Z117 ∧ True) ∧ Z72 ∧ Z73 ∧ Z74 ∧ Z71 ∧ Z70 ∧ Z79) ∧ True ∧ ((Z64 ∧ Z37 = Z37 ∧ True) ∧ Z38) ∧ Z80 ∧ True ∧ (((Z36 = Z127 ∧ Z36 = Z128 ∧ True) ∧ Z37 = Z123 ∧ True) ∧ True) ∧ Z66)) ∧
          (Z105 = false → ((Z39 ∧ Z41 ∧ Z40 ∧ Z60 ∧ Z65) ∧ Z45) ∧ Z63 ∧ True ∧ ((Z64 ∧ Z107 = Z107 ∧ True) ∧ Z38) ∧ Z80 ∧ True ∧ (((Z36 = Z127 ∧ Z36 = Z128 ∧ True) ∧ Z107 = Z123 ∧ True) ∧ True) ∧ Z66))
    (by kernel_rfl) ?_
  simp only [liarsS, okH] at hl
  simp only [eq_self, true_and, and_true, Int.toNat_natCast, Nat.zero_add, Nat.sub_zero]
  have hA : allM ((f, w, li), ks, saysM cs 0, saysM cs 1, saysM cs 2, saysM cs 3, saysM cs 4, saysM cs 5) (everyM w.toNat) = allH ((f, w, li), cs, ks) := rfl
  have hA2 : truthsM ((f, w, li), cs, ks) (everyM w.toNat) = allH ((f, w, li), cs, ks) := rfl
  simp only [hA, hA2, true_and, and_true]
  refine ⟨hl, fun hh => ?_, fun hh => ?_⟩
  · rw [Bool.and_true] at hh
    have hk := hear_ok hh
    have hx := rt_ok hk
    have hok : ∀ t ∈ allH ((f, w, li), cs, ks), okT t := fun t ht => (mem_allM hx ht).1
    have hlen : (allH ((f, w, li), cs, ks)).length ≤ 5000 := preM_length _ hx _ _ _ (pow_le hx.f) (by decide)
    have hr : liarsM ((f, w, li), cs, ks) = if ((allH ((f, w, li), cs, ks)).length : Int) > 0 then (spanM (allH ((f, w, li), cs, ks)), 0) else ((0, 0), 10) := by
      unfold liarsM; rw [if_pos hh]
    rw [hr]
    generalize allH ((f, w, li), cs, ks) = A at *
    refine ⟨hx, fun hp => ⟨⟨⟨0, Nat.zero_le _⟩, by simp [spanM]⟩, fun t => ⟨fun ht => ?_, fun ht => ?_⟩⟩, fun hp => ?_⟩
    · obtain ⟨t, htl⟩ := t
      have hlt : t < A.length := by
        have h4 : ((t : Int)) < (A.length : Int) := of_decide_eq_true ht
        exact_mod_cast h4
      have hmem : A.getD t (0, 0) ∈ A := by rw [List.getD_eq_getElem?_getD, List.getElem?_eq_getElem hlt]; exact List.getElem_mem hlt
      have hw : IntKind.i64.wrap ((t : Int) + 1) = ((t + 1 : Nat) : Int) := by rw [wrap_id (by omega) (by omega)]; rfl
      refine ⟨⟨Int.natCast_nonneg _, by show (t : Int) < (A.length : Int); omega⟩, hlt, (hok _ hmem).2, ⟨t + 1, hlt⟩, ?_, dec1 hlt⟩
      simp only [span_take A t hlt (0, 0), hw, true_and]
    · have hta : t.1 = A.length := by
        have h2 : ¬ ((t.1 : Int)) < (A.length : Int) := of_decide_eq_false ht
        have : t.1 ≤ A.length := t.2
        omega
      rw [hta, List.take_length, if_pos (of_decide_eq_true hp)]
      simp
    · rw [if_neg (of_decide_eq_false hp)]
      exact ⟨⟨rfl, rfl⟩, rfl⟩
  · rw [Bool.and_true] at hh
    have hr : liarsM ((f, w, li), cs, ks) = ((0, 0), openErrM ((f, w, li), cs, ks)) := by
      unfold liarsM; rw [if_neg (by rw [hh]; simp), openErrM, if_neg (by rw [hh]; simp)]
    rw [hr]
    exact ⟨⟨rfl, rfl⟩, rfl⟩

theorem liars_sound : Sound Try.prog 22 liarsS.con := FSpec.sound _ (enter_of Try.func22 (by kernel_rfl) (by kernel_rfl)) liars_ok

end AE.Pr

namespace AE.Pr
open Go AE Go.Proofs

theorem popM_le (a : Int) : 0 ≤ popM a ∧ popM a ≤ 6 := by
  unfold popM
  have := List.length_filter_le (fun i => a.toNat.testBit i) (List.range 6)
  rw [List.length_range] at this
  omega
/-! ### First's closure -/
def fewerS : FSpec UU where
  X := (Int × Int) × (Int × Int)
  pick := fun args _ => match args with
    | [a, b] => match avT a, avT b with
      | some a, some b => some (a, b)
      | _, _ => none
    | _ => none
  args := fun x => [vT x.1, vT x.2]
  H := fun _ => []
  R := fun x => .val ⟨.i (popM x.1.2 - popM x.2.2), [], [], []⟩
  pre := fun x => okT x.1 ∧ okT x.2
def Tfewer : Tab UU := [(60, popS.con)]
theorem Tfewer_ok : Tfewer.Sound Try.prog := .cons size_sound .nil
set_option maxRecDepth 100000 in
theorem fewer_ok : ∀ x, fewerS.pre x → FunOk Try.prog 63 (fewerS.args x) (fewerS.H x) (fewerS.R x) := by
  rintro ⟨⟨a, b⟩, ⟨c, d⟩⟩ h
  refine fun_of (T := Tfewer) (L := fun _ => none) (hs := fun _ => []) hmix Tfewer_ok Try.func63 (by kernel_rfl) (by kernel_rfl) ?_
  refine Eq.mp (α :=
      let Z0 := (0 : Int); let Z1 := (64 : Int); let Z2 := popM b - popM d; (Z0 ≤ b ∧ b < Z1) ∧ (Value.int IntKind.u64 b = Value.int IntKind.u64 b ∧ True) ∧ True ∧ (Z0 ≤ d ∧ d < Z1) ∧ (Value.int IntKind.u64 d = Value.int IntKind.u64 d ∧ True) ∧ True ∧ True ∧ (Value.int IntKind.i64 (IntKind.wrap IntKind.i64 Z2) = Value.int IntKind.i64 Z2 ∧ True) ∧ True ∧ True)
    (by kernel_rfl) ?_
  have h1 := popM_le b
  have h2 := popM_le d
  have h3 : W (popM b - popM d) = popM b - popM d := wrap_id (by omega) (by omega)
  have h4 := h.1.2
  have h5 := h.2.2
  simp_all

theorem fewer_sound : Sound Try.prog 63 fewerS.con := FSpec.sound _ (enter_of Try.func63 (by kernel_rfl) (by kernel_rfl)) fewer_ok

/-! ### MinFunc -/
def minStep (m t : Int × Int) : Int × Int := if popM t.2 < popM m.2 then t else m
def firstM (l : List (Int × Int)) : Int × Int := (l.drop 1).foldl minStep (l.getD 0 (0, 0))
theorem first_take (l : List (Int × Int)) (i : Nat) (h0 : 1 ≤ i) (h : i < l.length) : firstM (l.take (i + 1)) = minStep (firstM (l.take i)) (l.getD i (0, 0)) := by
  rw [take_snoc l i h (0, 0)]
  have h1 : (l.take i).length = i := by rw [List.length_take]; omega
  unfold firstM
  rw [List.drop_append_of_le_length (by omega), List.foldl_append]
  rw [show (List.take i l ++ [l.getD i (0, 0)]).getD 0 (0, 0) = (List.take i l).getD 0 (0, 0) by rw [List.getD_eq_getElem?_getD, List.getD_eq_getElem?_getD, List.getElem?_append_left (by omega)]; rfl]
  rfl
theorem first_mem (l : List (Int × Int)) (h : 0 < l.length) : firstM l ∈ l := by
  have key : ∀ (q : List (Int × Int)) (m : Int × Int), m ∈ l → (∀ t ∈ q, t ∈ l) → q.foldl minStep m ∈ l := by
    intro q
    induction q with
    | nil => intro m hm _; exact hm
    | cons a q ih =>
      intro m hm hq
      refine ih _ ?_ fun t ht => hq t (List.mem_cons_of_mem _ ht)
      unfold minStep
      split
      · exact hq a (List.mem_cons_self ..)
      · exact hm
  refine key _ _ ?_ fun t ht => List.mem_of_mem_drop ht
  rw [List.getD_eq_getElem?_getD, List.getElem?_eq_getElem h]
  exact List.getElem_mem h
def minL (l : List (Int × Int)) : LSpec UU where
  T := { i : Nat // 1 ≤ i ∧ i ≤ l.length }
  fr := fun i => [(0, .sl 0 0 0 l.length), (1, .fn (.func 63) [] []), (4, .ptr 1 0 0 0), (5, .ptr 2 0 0 0), (6, .i i.1)]
  H := fun i => [.one (.ro .truth l), .one (.cells [AV.u 0, AV.u 0] 85), .one (.cells [AV.u (firstM (l.take i.1)).1, AV.u (firstM (l.take i.1)).2] 85)]
  mu := fun i => l.length - i.1
def minS : FSpec UU where
  X := List (Int × Int)
  pick := fun args H => match args with
    | [a, .fn (.func 63) [] []] => sliceAt .truth H a
    | _ => none
  args := fun (x : List (Int × Int)) => [.sl 0 0 0 x.length, .fn (.func 63) [] []]
  H := fun x => [.one (.ro .truth x)]
  R := fun x => .val ⟨.agg [AV.u (firstM x).1, AV.u (firstM x).2], [], [], []⟩
  pre := fun (x : List (Int × Int)) => (0 < x.length ∧ x.length ≤ 5000) ∧ ∀ t ∈ x, okT t
def Tmin : Tab UU := [(63, fewerS.con)]
theorem Tmin_ok : Tmin.Sound Try.prog := .cons fewer_sound .nil
set_option maxHeartbeats 0 in
set_option maxRecDepth 100000 in
theorem min_ok : ∀ x, minS.pre x → FunOk Try.prog 62 (minS.args x) (minS.H x) (minS.R x) := by
  intro (l : List (Int × Int)) hl
  refine fun_of (T := Tmin) (L := fun _ => some (.inv (minL l))) (hs := fun _ => []) hmix Tmin_ok Try.func62 (by kernel_rfl) (by kernel_rfl) ?_
  refine Eq.mp (α :=
      let Z1 := List.length l; let Z2 := (1 : Int); let Z3 := (0 : Int); let Z4 := (64 : Int); let Z6 := List.length l; let Z7 := (63 : FuncId); let Z8 := l = l; let Z9 := nat_lit 0 = nat_lit 0 ∧ nat_lit 0 = nat_lit 0 ∧ nat_lit 0 = nat_lit 0; let Z12 := Value.int IntKind.u64 Z3; let Z13 := (↑Z1 : Int); let Z16 := (Z3, Z3); let Z18 := nat_lit 0 = nat_lit 0 ∧ nat_lit 0 = nat_lit 0 ∧ Z1 = Z1; let Z22 := Z12 = Z12; let Z23 := List.getD l (nat_lit 0) Z16; let Z24 := Fn.func Z7 = Fn.func Z7 ∧ True ∧ True; let Z26 : Type := { i : Nat // (1 : Nat) ≤ i ∧ i ≤ Z1 }; let Z27 := fun (x : Z26) => Subtype.val x; let Z28 := fun (x : Z26) => List.take (Z27 x) l; let Z29 := fun (x : Z26) => (↑(Z27 x) : Int); let Z32 := fun (x : Z26) => Value.int IntKind.i64 (Z29 x); let Z33 := fun (x : Z26) => Prod.fst (firstM (Z28 x)); let Z34 := fun (x : Z26) => Prod.snd (firstM (Z28 x)); let Z36 := fun (x : Z26) => Z1 - Z27 x; let Z37 := fun (x : Z26) => Value.int IntKind.u64 (Z34 x); let Z38 := fun (x : Z26) => Value.int IntKind.u64 (Z33 x); let Z40 := decide (Z13 < Z2); let Z41 := fun (t : Z26) => nat_lit 0 + Int.toNat (Z29 t); let Z43 := fun (t : Z26) => Z29 t + Z2; let Z44 := fun (t : Z26) => Z29 t < Z13; let Z48 := fun (t : Z26) => List.getD l (Z41 t) Z16; let Z49 := fun (t : Z26) => Prod.snd (Z48 t); let Z50 := fun (t : Z26) => Prod.fst (Z48 t); let Z52 := fun (t : Z26) => Value.int IntKind.u64 (Z49 t); let Z53 := fun (t : Z26) => Value.int IntKind.u64 (Z50 t); let Z57 := fun (t : Z26) => decide (Z44 t); let Z65 := fun (t : Z26) => decide (popM (Z49 t) - popM (Z34 t) < Z3); (Z40 = true → False) ∧ (Z40 = false → (Z3 ≤ Z3 ∧ Z3 < Z13) ∧ nat_lit 0 < Z6 ∧ (∃ (x : Z26), (Z18 ∧ Z24 ∧ Z9 ∧ Z9 ∧ Value.int IntKind.i64 Z2 = Z32 x ∧ True) ∧ True ∧ Z8 ∧ (Z22 ∧ Z22 ∧ True) ∧ (Value.int IntKind.u64 (Prod.fst Z23) = Z38 x ∧ Value.int IntKind.u64 (Prod.snd Z23) = Z37 x ∧ True) ∧ True) ∧ ∀ (t : Z26), (Z57 t = true → (Z3 ≤ Z29 t ∧ Z44 t) ∧ Z41 t < Z6 ∧ (((Z3 ≤ Z50 t ∧ Z50 t < Z4) ∧ Z3 ≤ Z49 t ∧ Z49 t < Z4) ∧ (Z3 ≤ Z33 t ∧ Z33 t < Z4) ∧ Z3 ≤ Z34 t ∧ Z34 t < Z4) ∧ ((Z53 t = Z53 t ∧ Z52 t = Z52 t ∧ True) ∧ (Z38 t = Z38 t ∧ Z37 t = Z37 t ∧ True) ∧ True) ∧ True ∧ (Z65 t = true → (Z3 ≤ Z29 t ∧ Z44 t) ∧ Z41 t < Z6 ∧ True ∧ ∃ (x : Z26), ((Z18 ∧ Z24 ∧ Z9 ∧ Z9 ∧ Value.int IntKind.i64 (IntKind.wrap IntKind.i64 (Z43 t)) = Z32 x ∧ True) ∧ True ∧ Z8 ∧ (Z22 ∧ Z22 ∧ True) ∧ (Z53 t = Z38 x ∧ Z52 t = Z37 x ∧ True) ∧ True) ∧ Z36 x < Z36 t) ∧ (Z65 t = false → True ∧ ∃ (x : Z26), ((Z18 ∧ Z24 ∧ Z9 ∧ Z9 ∧ Value.int IntKind.i64 (IntKind.wrap IntKind.i64 (Z43 t)) = Z32 x ∧ True) ∧ True ∧ Z8 ∧ (Z22 ∧ Z22 ∧ True) ∧ (Z38 t = Z38 x ∧ Z37 t = Z37 x ∧ True) ∧ True) ∧ Z36 x < Z36 t)) ∧ (Z57 t = false → True ∧ ((Z38 t = Value.int IntKind.u64 (Prod.fst (firstM l)) ∧ Z37 t = Value.int IntKind.u64 (Prod.snd (firstM l)) ∧ True) ∧ True) ∧ True ∧ Z8 ∧ True)))
    (by kernel_rfl) ?_
  simp only [minS] at hl
  obtain ⟨⟨hl0, hl1⟩, hok⟩ := hl
  have hg : ∀ i, i < l.length → okT (l.getD i (0, 0)) := fun i hi => hok _ (by rw [List.getD_eq_getElem?_getD, List.getElem?_eq_getElem hi]; exact List.getElem_mem hi)
  have hf1 : firstM (l.take 1) = l.getD 0 (0, 0) := by cases l with | nil => simp at hl0 | cons a l => rfl
  simp only [eq_self, true_and, and_true, Int.toNat_natCast, Nat.zero_add, Nat.sub_zero]
  refine ⟨fun h => ?_, fun _ => ⟨⟨by decide, by omega⟩, hl0, ⟨⟨1, by decide, hl0⟩, rfl, congrArg (fun t : Int × Int => Value.int .u64 t.1) hf1.symm, congrArg (fun t : Int × Int => Value.int .u64 t.2) hf1.symm⟩, fun t => ⟨fun ht => ?_, fun ht => ?_⟩⟩⟩
  · have h2 : (l.length : Int) < 1 := of_decide_eq_true h
    omega
  · obtain ⟨t, ht1, htl⟩ := t
    have hlt : t < l.length := by
      have h4 : ((t : Int)) < (l.length : Int) := of_decide_eq_true ht
      exact_mod_cast h4
    have hw : IntKind.i64.wrap ((t : Int) + 1) = ((t + 1 : Nat) : Int) := by rw [wrap_id (by omega) (by omega)]; rfl
    have hft : okT (firstM (l.take t)) := hok _ (List.mem_of_mem_take (first_mem (l.take t) (by rw [List.length_take]; omega)))
    have hs := first_take l t ht1 hlt
    refine ⟨⟨Int.natCast_nonneg _, by show (t : Int) < (l.length : Int); omega⟩, hlt, ⟨hg t hlt, hft⟩, fun hd => ?_, fun hd => ?_⟩
    · have hd2 : popM (l.getD t (0, 0)).2 - popM (firstM (l.take t)).2 < 0 := of_decide_eq_true hd
      have hm : firstM (l.take (t + 1)) = l.getD t (0, 0) := by rw [hs, minStep, if_pos (by omega)]
      exact ⟨⟨Int.natCast_nonneg _, by show (t : Int) < (l.length : Int); omega⟩, hlt, ⟨t + 1, by omega, hlt⟩, ⟨congrArg _ hw, congrArg (fun t : Int × Int => Value.int .u64 t.1) hm.symm, congrArg (fun t : Int × Int => Value.int .u64 t.2) hm.symm⟩, dec1 hlt⟩
    · have hd2 : ¬ popM (l.getD t (0, 0)).2 - popM (firstM (l.take t)).2 < 0 := of_decide_eq_false hd
      have hm : firstM (l.take (t + 1)) = firstM (l.take t) := by rw [hs, minStep, if_neg (by omega)]
      exact ⟨⟨t + 1, by omega, hlt⟩, ⟨congrArg _ hw, congrArg (fun t : Int × Int => Value.int .u64 t.1) hm.symm, congrArg (fun t : Int × Int => Value.int .u64 t.2) hm.symm⟩, dec1 hlt⟩
  · have hta : t.1 = l.length := by
      have h2 : ¬ ((t.1 : Int)) < (l.length : Int) := of_decide_eq_false ht
      have : t.1 ≤ l.length := t.2.2
      omega
    rw [hta, List.take_length]
    exact ⟨rfl, rfl⟩

theorem min_sound : Sound Try.prog 62 minS.con := FSpec.sound _ (enter_of Try.func62 (by kernel_rfl) (by kernel_rfl)) min_ok

/-! ### First -/
def firstHM (x : HT) : (Int × Int) × Int := if hearM x then (if ((allH x).length : Int) > 0 then (firstM (allH x), 0) else ((0, 0), 10)) else ((0, 0), 1)
def firstS : FSpec UU where
  X := HT
  pick := fun args H => match args with
    | [a] => avH H a
    | _ => none
  args := fun x => [vH x]
  H := fun x => hH x
  R := fun x => .val ⟨.tup [.i (firstHM x).1.1, .i (firstHM x).1.2, .i (firstHM x).2], [], [], []⟩
  pre := fun x => okH x
def Tfirst : Tab UU := [(49, openS.con), (57, allS.con), (62, minS.con), (48, caughtS.con)]
theorem Tfirst_ok : Tfirst.Sound Try.prog := .cons open_sound (.cons all_sound (.cons min_sound (.cons caught_sound .nil)))
set_option maxHeartbeats 0 in
set_option maxRecDepth 100000 in
theorem firstF_ok : ∀ x, firstS.pre x → FunOk Try.prog 24 (firstS.args x) (firstS.H x) (firstS.R x) := by
  rintro ⟨⟨f, w, li⟩, cs, ks⟩ hl
  refine fun_ofG (T := Tfirst) (L := fun _ => none) (hs := fun _ => []) (sp := fun _ => none) hmix Tfirst_ok (tl := toldL 61) (toldL_ok told61) (it := fun _ => none) (fun _ _ h => by cases h) Try.func24 (by kernel_rfl) (by kernel_rfl) ?_
  refine Eq.mp (α :=
      let Z0 := Int.toNat w; let Z1 := List.length cs; let Z2 := Value.bool true; let Z3 := List.length ks; let Z4 := (w, li); let Z5 := Value.int IntKind.i64 li; let Z6 := Value.int IntKind.i64 w; let Z7 := everyM Z0; let Z8 := Value.int IntKind.i64 f; let Z9 := nat_lit 0 = nat_lit 0 ∧ nat_lit 0 = nat_lit 0; let Z10 := (1 : Int); let Z11 := (2 : Int); let Z12 := (4 : Int); let Z13 := (3 : Int); let Z14 := (5 : Int); let Z15 := (0 : Int); let Z16 := (64 : Int); let Z17 := (10 : Int); let Z18 := ks = ks; let Z19 := (cs, ks); let Z20 := cs = cs; let Z21 := (112 : TypeId); let Z22 := saysM cs Z11; let Z23 := saysM cs Z12; let Z24 := saysM cs Z15; let Z25 := saysM cs Z13; let Z26 := saysM cs Z10; let Z27 := saysM cs Z14; let Z28 := nat_lit 0 = nat_lit 0 ∧ Z9; let Z29 := Z18 ∧ True; let Z30 := Z3 = Z3; let Z31 := Z1 = Z1; let Z32 := (f, Z4); let Z33 := Z2 = Z2; let Z34 := Value.int IntKind.i64 Z15; let Z35 := Value.int IntKind.i64 Z17; let Z36 := Z28 ∧ True; let Z37 := Z8 = Z8; let Z38 := Z6 = Z6; let Z39 := Z5 = Z5; let Z40 := List.length Z25; let Z41 := List.length Z24; let Z42 := List.length Z26; let Z43 := List.length Z27; let Z44 := List.length Z23; let Z45 := Z33 ∧ True; let Z46 := List.length Z22; let Z47 := nat_lit 0 = nat_lit 0 ∧ Z31; let Z48 := nat_lit 0 = nat_lit 0 ∧ Z30; let Z49 := List.length Z25; let Z50 := List.length Z23; let Z51 := List.length Z26; let Z52 := List.length Z27; let Z53 := List.length Z24; let Z54 := List.length Z22; let Z55 := nat_lit 0 = nat_lit 0 ∧ Z47; let Z56 := nat_lit 0 = nat_lit 0 ∧ Z48; let Z57 := Z21 = Z21; let Z58 := Z20 ∧ Z29; let Z59 := Z56 ∧ True; let Z60 := True ∧ Z58; let Z61 := Z56 ∧ nat_lit 0 = nat_lit 0 ∧ True; let Z62 := Z34 = Z34; let Z63 := Z23 = Z23; let Z64 := Z27 = Z27; let Z65 := Z25 = Z25; let Z66 := Z24 = Z24; let Z67 := Z26 = Z26; let Z68 := Z22 = Z22; let Z69 := (Z23, Z27); let Z70 := True ∧ Z61; let Z71 := Z62 ∧ True; let Z72 := Z64 ∧ True; let Z73 := Z71 ∧ True; let Z80 := (Z32, Z19); let Z96 := hearM Z80 && true; let Z99 := Value.int IntKind.i64 (openErrM Z80); let Z101 := Prod.fst (firstHM Z80); let Z106 := nat_lit 10 = nat_lit 10 ∧ nat_lit 0 = nat_lit 0 ∧ nat_lit 0 = nat_lit 0 ∧ Z50 = Z44; let Z107 := nat_lit 11 = nat_lit 11 ∧ nat_lit 0 = nat_lit 0 ∧ nat_lit 0 = nat_lit 0 ∧ Z52 = Z43; let Z111 := Value.int IntKind.i64 (Prod.snd (firstHM Z80)); let Z113 := Value.int IntKind.i64 (Prod.snd Z101); let Z114 := Value.int IntKind.i64 (Prod.fst Z101); let Z135 := (Z32, ks, Z24, Z26, Z22, Z25, Z69); let Z136 := allM Z135 Z7; let Z138 := List.length Z136; let Z146 := decide ((↑Z138 : Int) > Z15); (Z1 < nat_lit 1000 ∧ Z3 < nat_lit 1000) ∧ (Z96 = true → ((Z37 ∧ Z38 ∧ Z39 ∧ Z55 ∧ Z59) ∧ Z45) ∧ Z58 ∧ RtOk Z135 ∧ (Z146 = true → Z36 ∧ ((Z37 ∧ Z38 ∧ Z39 ∧ Z70) ∧ Z18 ∧ ((nat_lit 6 = nat_lit 6 ∧ nat_lit 0 = nat_lit 0 ∧ nat_lit 0 = nat_lit 0 ∧ Z53 = Z41) ∧ (nat_lit 7 = nat_lit 7 ∧ nat_lit 0 = nat_lit 0 ∧ nat_lit 0 = nat_lit 0 ∧ Z51 = Z42) ∧ (nat_lit 8 = nat_lit 8 ∧ nat_lit 0 = nat_lit 0 ∧ nat_lit 0 = nat_lit 0 ∧ Z54 = Z46) ∧ (nat_lit 9 = nat_lit 9 ∧ nat_lit 0 = nat_lit 0 ∧ nat_lit 0 = nat_lit 0 ∧ Z49 = Z40) ∧ Z106 ∧ Z107 ∧ True) ∧ Z66 ∧ Z67 ∧ Z68 ∧ Z65 ∧ Z63 ∧ Z72) ∧ ((nat_lit 0 < Z138 ∧ Z138 ≤ nat_lit 5000) ∧ ∀ (t : Int × Int), t ∈ Z136 → (Z15 ≤ Prod.fst t ∧ Prod.fst t < Z16) ∧ Z15 ≤ Prod.snd t ∧ Prod.snd t < Z16) ∧ ((nat_lit 12 = nat_lit 12 ∧ nat_lit 0 = nat_lit 0 ∧ nat_lit 0 = nat_lit 0 ∧ List.length Z136 = Z138) ∧ (Fn.func (nat_lit 63) = Fn.func (63 : FuncId) ∧ True ∧ True) ∧ True) ∧ (Z136 = Z136 ∧ True) ∧ True ∧ (Value.nilIface = Value.nilIface ∧ Z36) ∧ Z73 ∧ True ∧ ((Value.int IntKind.i64 (IntKind.wrap IntKind.i64 (Prod.fst (firstM Z136))) = Z114 ∧ Value.int IntKind.i64 (IntKind.wrap IntKind.i64 (Prod.snd (firstM Z136))) = Z113 ∧ Z34 = Z111 ∧ True) ∧ True) ∧ Z60) ∧ (Z146 = false → Z36 ∧ ((Z37 ∧ Z38 ∧ Z39 ∧ Z70) ∧ Z18 ∧ ((nat_lit 6 = nat_lit 6 ∧ nat_lit 0 = nat_lit 0 ∧ nat_lit 0 = nat_lit 0 ∧ Z53 = Z41) ∧ (nat_lit 7 = nat_lit 7 ∧ nat_lit 0 = nat_lit 0 ∧ nat_lit 0 = nat_lit 0 ∧ Z51 = Z42) ∧ (nat_lit 8 = nat_lit 8 ∧ nat_lit 0 = nat_lit 0 ∧ nat_lit 0 = nat_lit 0 ∧ Z54 = Z46) ∧ (nat_lit 9 = nat_lit 9 ∧ nat_lit 0 = nat_lit 0 ∧ nat_lit 0 = nat_lit 0 ∧ Z49 = Z40) ∧ Z106 ∧ Z107 ∧ True) ∧ Z66 ∧ Z67 ∧ Z68 ∧ Z65 ∧ Z63 ∧ Z72) ∧ True ∧ ((Z57 ∧ Z35 = Z35 ∧ True) ∧ Z36) ∧ Z73 ∧ True ∧ ((Z34 = Z114 ∧ Z34 = Z113 ∧ Z35 = Z111 ∧ True) ∧ True) ∧ Z60)) ∧ (Z96 = false → ((Z37 ∧ Z38 ∧ Z39 ∧ Z55 ∧ Z59) ∧ Z45) ∧ Z58 ∧ True ∧ ((Z57 ∧ Z99 = Z99 ∧ True) ∧ Z36) ∧ Z73 ∧ True ∧ ((Z34 = Z114 ∧ Z34 = Z113 ∧ Z99 = Z111 ∧ True) ∧ True) ∧ Z60))
    (by kernel_rfl) ?_
  simp only [firstS, okH] at hl
  simp only [eq_self, true_and, and_true, Int.toNat_natCast, Nat.zero_add, Nat.sub_zero]
  have hA : allM ((f, w, li), ks, saysM cs 0, saysM cs 1, saysM cs 2, saysM cs 3, saysM cs 4, saysM cs 5) (everyM w.toNat) = allH ((f, w, li), cs, ks) := rfl
  simp only [hA, true_and, and_true]
  refine ⟨hl, fun hh => ?_, fun hh => ?_⟩
  · rw [Bool.and_true] at hh
    have hk := hear_ok hh
    have hx := rt_ok hk
    have hok : ∀ t ∈ allH ((f, w, li), cs, ks), okT t := fun t ht => (mem_allM hx ht).1
    have hlen : (allH ((f, w, li), cs, ks)).length ≤ 5000 := preM_length _ hx _ _ _ (pow_le hx.f) (by decide)
    have hr : firstHM ((f, w, li), cs, ks) = if ((allH ((f, w, li), cs, ks)).length : Int) > 0 then (firstM (allH ((f, w, li), cs, ks)), 0) else ((0, 0), 10) := by
      unfold firstHM; rw [if_pos hh]
    rw [hr]
    generalize allH ((f, w, li), cs, ks) = A at *
    refine ⟨hx, fun hp => ?_, fun hp => ?_⟩
    · have hp2 : (A.length : Int) > 0 := of_decide_eq_true hp
      have hfo := hok _ (first_mem A (by omega))
      rw [if_pos hp2, wrap_id (by have := hfo.1; omega) (by have := hfo.1; omega), wrap_id (by have := hfo.2; omega) (by have := hfo.2; omega)]
      exact ⟨⟨⟨by omega, hlen⟩, fun t ht => hok t ht⟩, rfl, rfl, rfl⟩
    · rw [if_neg (of_decide_eq_false hp)]
      exact ⟨rfl, rfl, rfl⟩
  · rw [Bool.and_true] at hh
    have hr : firstHM ((f, w, li), cs, ks) = ((0, 0), openErrM ((f, w, li), cs, ks)) := by
      unfold firstHM; rw [if_neg (by rw [hh]; simp), openErrM, if_neg (by rw [hh]; simp)]
    rw [hr]
    exact ⟨rfl, rfl, rfl⟩

theorem firstF_sound : Sound Try.prog 24 firstS.con := FSpec.sound _ (enter_of Try.func24 (by kernel_rfl) (by kernel_rfl)) firstF_ok
end AE.Pr

namespace AE.Pr
open Go AE Go.Proofs

/-! ### in, Word -/
set_option maxRecDepth 100000 in
theorem in_ok : ∀ x, withinS.pre x → FunOk Try.prog 76 (withinS.args x) (withinS.H x) (withinS.R x) := by
  rintro ⟨n, lo, hi⟩ _
  refine fun_of (T := []) (L := fun _ => none) (hs := fun _ => []) hmix .nil Try.func76 (by kernel_rfl) (by kernel_rfl) ?_
  refine Eq.mp (α :=
      let Z0 := Value.bool (inM n lo hi); let Z2 := decide (lo ≤ n); (Z2 = true → True ∧ (Value.bool (decide (n ≤ hi)) = Z0 ∧ True) ∧ True ∧ True) ∧ (Z2 = false → True ∧ (Z0 = Value.bool false ∧ True) ∧ True ∧ True))
    (by kernel_rfl) ?_
  simp only [inM]
  simp +contextual
  omega

theorem in_sound : Sound Try.prog 76 withinS.con := FSpec.sound _ (enter_of Try.func76 (by kernel_rfl) (by kernel_rfl)) in_ok
def Tin : Tab UU := [(76, withinS.con)]
theorem Tin_ok : Tin.Sound Try.prog := .cons in_sound .nil
set_option maxRecDepth 100000 in
theorem wordR_ok : ∀ x, isWordS.pre x → FunOk Try.prog 42 (isWordS.args x) (isWordS.H x) (isWordS.R x) := by
  rintro ⟨⟨f, w⟩, ⟨p, n, x⟩⟩ h
  refine fun_of (T := Tin) (L := fun _ => none) (hs := fun _ => []) hmix Tin_ok Try.func42 (by kernel_rfl) (by kernel_rfl) ?_
  refine Eq.mp (α :=
      let Z0 := Value.int IntKind.i64 n; let Z1 := (0 : Int); let Z2 := (1 : Int); let Z3 := Value.int IntKind.i64 Z1; let Z4 := (p, n, x); let Z10 := IntKind.wrap IntKind.i64 (w - Z2); let Z11 := IntKind.wrap IntKind.i64 (f - Z2); let Z13 := Value.int IntKind.i64 Z10; let Z14 := Value.int IntKind.i64 Z11; (p = true → True ∧ (Z0 = Z0 ∧ Z3 = Z3 ∧ Z13 = Z13 ∧ True) ∧ True ∧ True ∧ (Value.bool (inM n Z1 Z10) = Value.bool (wordM f w Z4) ∧ True) ∧ True ∧ True) ∧ (p = false → True ∧ (Z0 = Z0 ∧ Z3 = Z3 ∧ Z14 = Z14 ∧ True) ∧ True ∧ True ∧ (Value.bool (inM n Z1 Z11) = Value.bool (wordM f w Z4) ∧ True) ∧ True ∧ True))
    (by kernel_rfl) ?_
  refine ⟨fun h1 => ?_, fun h1 => ?_⟩ <;> simp [wordM, h1]

theorem wordR_sound : Sound Try.prog 42 isWordS.con := FSpec.sound _ (enter_of Try.func42 (by kernel_rfl) (by kernel_rfl)) wordR_ok

/-! ### power, Has, Size -/
def powerS : FSpec UU where
  X := Int
  pick := fun args _ => match args with
    | [a] => avInt a
    | _ => none
  args := fun (x : Int) => [.i x]
  H := fun _ => []
  R := fun (x : Int) => .val ⟨.i (2 ^ x.toNat : Nat), [], [], []⟩
  pre := fun (x : Int) => 0 ≤ x ∧ x ≤ 40
def powerL (n : Nat) : LSpec UU where
  T := { i : Nat // i ≤ n }
  fr := fun i => [(0, .i n), (3, .i (2 ^ i.1 : Nat)), (4, .i i.1)]
  H := fun _ => []
  mu := fun i => n - i.1
theorem pow40 (n : Nat) (h : n ≤ 41) : 2 ^ n ≤ 2199023255552 := Nat.le_trans (Nat.pow_le_pow_right (by omega) h) (by decide)
set_option maxRecDepth 100000 in
theorem power_ok : ∀ x, powerS.pre x → FunOk Try.prog 77 (powerS.args x) (powerS.H x) (powerS.R x) := by
  intro (x : Int) hx
  obtain ⟨n, rfl⟩ := Int.eq_ofNat_of_zero_le hx.1
  refine fun_of (T := []) (L := fun _ => some (.inv (powerL n))) (hs := fun _ => []) hmix .nil Try.func77 (by kernel_rfl) (by kernel_rfl) ?_
  refine Eq.mp (α :=
      let Z1 := (↑n : Int); let Z2 := (1 : Int); let Z3 : Type := { i : Nat // i ≤ n }; let Z4 := Value.int IntKind.i64 Z1; let Z5 := fun (x : Z3) => Subtype.val x; let Z6 := fun (x : Z3) => (↑(Z5 x) : Int); let Z7 := fun (x : Z3) => n - Z5 x; let Z12 := fun (x : Z3) => (↑(nat_lit 2 ^ Z5 x) : Int); let Z13 := fun (x : Z3) => Value.int IntKind.i64 (Z12 x); let Z14 := fun (t : Z3) => decide (Z6 t < Z1); (∃ (x : Z3), (Z4 = Z4 ∧ Value.int IntKind.i64 Z2 = Z13 x ∧ Value.int IntKind.i64 (0 : Int) = Value.int IntKind.i64 (Z6 x) ∧ True) ∧ True ∧ True) ∧ ∀ (t : Z3), (Z14 t = true → True ∧ ∃ (x : Z3), ((Z4 = Z4 ∧ Value.int IntKind.i64 (IntKind.wrap IntKind.i64 ((2 : Int) * Z12 t)) = Z13 x ∧ Value.int IntKind.i64 (IntKind.wrap IntKind.i64 (Z6 t + Z2)) = Value.int IntKind.i64 (Z6 x) ∧ True) ∧ True ∧ True) ∧ Z7 x < Z7 t) ∧ (Z14 t = false → True ∧ (Z13 t = Value.int IntKind.i64 (↑(nat_lit 2 ^ Int.toNat Z1) : Int) ∧ True) ∧ True ∧ True))
    (by kernel_rfl) ?_
  simp only [eq_self, true_and, and_true, Int.toNat_natCast, Nat.zero_add, Nat.sub_zero, Value.int.injEq, Value.bool.injEq, decide_eq_true_eq, decide_eq_false_iff_not]
  have hn : n ≤ 40 := by have := hx.2; omega
  have hw : ∀ i : Nat, i < n → IntKind.i64.wrap (2 * ((2 ^ i : Nat) : Int)) = ((2 ^ (i + 1) : Nat) : Int) := fun i hi => by
    have h1 := pow40 (i + 1) (by omega)
    rw [Nat.pow_succ] at h1 ⊢
    generalize 2 ^ i = m at *
    rw [wrap_id (by omega) (by omega)]; omega
  refine ⟨⟨⟨0, Nat.zero_le _⟩, rfl, rfl⟩, fun t => ⟨fun ht => ⟨⟨t.1 + 1, by omega⟩, ⟨hw t.1 (by omega), ?_⟩, dec1 (by omega)⟩, fun ht => ?_⟩⟩
  · rw [wrap_id (by omega) (by omega)]; rfl
  · have h1 : t.1 = n := by have := t.2; omega
    rw [h1]

theorem power_sound : Sound Try.prog 77 powerS.con := FSpec.sound _ (enter_of Try.func77 (by kernel_rfl) (by kernel_rfl)) power_ok
def hasRS : FSpec UU where
  X := Int × Int
  pick := fun args _ => match args with
    | [a, b] => match avInt a, avInt b with
      | some a, some b => some (a, b)
      | _, _ => none
    | _ => none
  args := fun x => [.i x.1, .i x.2]
  H := fun _ => []
  R := fun x => .val ⟨.b (hasM x.1 x.2), [], [], []⟩
  pre := fun x => 0 ≤ x.1 ∧ x.1 < 64 ∧ 0 ≤ x.2 ∧ x.2 < 6
def Tpower : Tab UU := [(77, powerS.con)]
theorem Tpower_ok : Tpower.Sound Try.prog := .cons power_sound .nil
set_option maxRecDepth 100000 in
theorem hasR_ok : ∀ x, hasRS.pre x → FunOk Try.prog 75 (hasRS.args x) (hasRS.H x) (hasRS.R x) := by
  rintro ⟨a, n⟩ h
  refine fun_of (T := Tpower) (L := fun _ => none) (hs := fun _ => []) hmix Tpower_ok Try.func75 (by kernel_rfl) (by kernel_rfl) ?_
  refine Eq.mp (α :=
      let Z0 := (2 : Int); let Z1 := (0 : Int); let Z3 := (↑(nat_lit 2 ^ Int.toNat n) : Int); (Z1 ≤ n ∧ n ≤ (40 : Int)) ∧ (Value.int IntKind.i64 n = Value.int IntKind.i64 n ∧ True) ∧ True ∧ Z3 ≠ Z1 ∧ Z0 ≠ Z1 ∧ True ∧ (Value.bool (Int.tmod (IntKind.wrap IntKind.i64 (Int.tdiv a Z3)) Z0 == (1 : Int)) = Value.bool (hasM a n) ∧ True) ∧ True ∧ True)
    (by kernel_rfl) ?_
  obtain ⟨h1, h2, h3, h4⟩ := h
  obtain ⟨a, rfl⟩ := Int.eq_ofNat_of_zero_le h1
  obtain ⟨n, rfl⟩ := Int.eq_ofNat_of_zero_le h3
  have key : ∀ (a : Fin 64) (n : Fin 6), (Int.tmod (IntKind.i64.wrap (Int.tdiv ((a.val : Nat) : Int) ((2 ^ n.val : Nat) : Int))) 2 == 1) = hasM ((a.val : Nat) : Int) ((n.val : Nat) : Int) := by decide +kernel
  have hp : ((2 ^ n : Nat) : Int) ≠ 0 := by have := Nat.pow_pos (n := n) (show 0 < 2 by decide); omega
  simp only [eq_self, true_and, and_true, Int.toNat_natCast]
  refine ⟨⟨h3, by omega⟩, hp, by decide, congrArg Value.bool ?_⟩
  exact key ⟨a, by omega⟩ ⟨n, by omega⟩

theorem hasR_sound : Sound Try.prog 75 hasRS.con := FSpec.sound _ (enter_of Try.func75 (by kernel_rfl) (by kernel_rfl)) hasR_ok
def sizeRS : FSpec UU where
  X := Int
  pick := fun args _ => match args with
    | [a] => avInt a
    | _ => none
  args := fun (x : Int) => [.i x]
  H := fun _ => []
  R := fun (x : Int) => .val ⟨.i (popM x), [], [], []⟩
  pre := fun (x : Int) => 0 ≤ x ∧ x < 64
def sizeRL (n : Nat) : LSpec UU where
  T := { p : Nat × Nat // p.1 < 64 ∧ popM n = p.2 + popM p.1 }
  fr := fun p => [(0, .i p.1.1), (3, .i p.1.2)]
  H := fun _ => []
  mu := fun p => p.1.1
theorem pop_half (n : Nat) (h : n < 64) : popM n = ((n % 2 : Nat) : Int) + popM ((n / 2 : Nat) : Int) := by
  have : ∀ n : Fin 64, popM ((n.val : Nat) : Int) = ((n.val % 2 : Nat) : Int) + popM ((n.val / 2 : Nat) : Int) := by decide +kernel
  exact this ⟨n, h⟩
set_option maxRecDepth 100000 in
theorem sizeR_ok : ∀ x, sizeRS.pre x → FunOk Try.prog 36 (sizeRS.args x) (sizeRS.H x) (sizeRS.R x) := by
  intro (x : Int) hx
  obtain ⟨n, rfl⟩ := Int.eq_ofNat_of_zero_le hx.1
  refine fun_of (T := []) (L := fun _ => some (.inv (sizeRL n))) (hs := fun _ => []) hmix .nil Try.func36 (by kernel_rfl) (by kernel_rfl) ?_
  refine Eq.mp (α :=
      let Z1 := (↑n : Int); let Z2 := (2 : Int); let Z3 := (0 : Int); let Z14 : Type := { p : Nat × Nat // Prod.fst p < (64 : Nat) ∧ popM Z1 = (↑(Prod.snd p) : Int) + popM (↑(Prod.fst p) : Int) }; let Z15 := fun (x : Z14) => Subtype.val x; let Z16 := fun (x : Z14) => Prod.fst (Z15 x); let Z18 := fun (x : Z14) => (↑(Z16 x) : Int); let Z19 := fun (x : Z14) => (↑(Prod.snd (Z15 x)) : Int); let Z20 := fun (x : Z14) => Value.int IntKind.i64 (Z19 x); let Z23 := fun (t : Z14) => decide (Z18 t > Z3); (∃ (x : Z14), (Value.int IntKind.i64 Z1 = Value.int IntKind.i64 (Z18 x) ∧ Value.int IntKind.i64 Z3 = Z20 x ∧ True) ∧ True ∧ True) ∧ ∀ (t : Z14), (Z23 t = true → Z2 ≠ Z3 ∧ Z2 ≠ Z3 ∧ True ∧ ∃ (x : Z14), ((Value.int IntKind.i64 (IntKind.wrap IntKind.i64 (Int.tdiv (Z18 t) Z2)) = Value.int IntKind.i64 (Z18 x) ∧ Value.int IntKind.i64 (IntKind.wrap IntKind.i64 (Z19 t + Int.tmod (Z18 t) Z2)) = Z20 x ∧ True) ∧ True ∧ True) ∧ Z16 x < Z16 t) ∧ (Z23 t = false → True ∧ (Z20 t = Value.int IntKind.i64 (popM Z1) ∧ True) ∧ True ∧ True))
    (by kernel_rfl) ?_
  simp only [eq_self, true_and, and_true, Int.toNat_natCast, Nat.zero_add, Nat.sub_zero, Value.int.injEq, Value.bool.injEq, decide_eq_true_eq, decide_eq_false_iff_not]
  have hn : n < 64 := by have := hx.2; omega
  refine ⟨⟨⟨(n, 0), hn, by simp⟩, rfl, rfl⟩, fun t => ⟨fun ht => ⟨by decide, by decide, ?_⟩, fun ht => ?_⟩⟩
  · obtain ⟨⟨m, k⟩, hm, hk⟩ := t
    have h1 : 0 < m := by have h0 : (m : Int) > 0 := ht; omega
    have hp := pop_half m hm
    have hk6 := popM_le (n : Int)
    have hk7 := popM_le ((m / 2 : Nat) : Int)
    have hk' : popM (n : Int) = (k : Int) + popM (m : Int) := hk
    have h2 : Int.tdiv (m : Int) 2 = ((m / 2 : Nat) : Int) := by rw [Int.tdiv_eq_ediv_of_nonneg (by omega)]; rfl
    have h3 : Int.tmod (m : Int) 2 = ((m % 2 : Nat) : Int) := by rw [Int.tmod_eq_emod_of_nonneg (by omega)]; rfl
    refine ⟨⟨(m / 2, k + m % 2), by omega, ?_⟩, ⟨?_, ?_⟩, by show m / 2 < m; omega⟩
    · show popM (n : Int) = ((k + m % 2 : Nat) : Int) + popM ((m / 2 : Nat) : Int)
      omega
    · show IntKind.i64.wrap (Int.tdiv (m : Int) 2) = ((m / 2 : Nat) : Int)
      rw [h2, wrap_id (by omega) (by omega)]
    · show IntKind.i64.wrap ((k : Int) + Int.tmod (m : Int) 2) = ((k + m % 2 : Nat) : Int)
      rw [h3, wrap_id (by omega) (by omega)]; rfl
  · have h1 : t.1.1 = 0 := by omega
    have h2 := t.2.2
    rw [h1] at h2
    have h3 : popM ((0 : Nat) : Int) = 0 := by decide +kernel
    omega

theorem sizeR_sound : Sound Try.prog 36 sizeRS.con := FSpec.sound _ (enter_of Try.func36 (by kernel_rfl) (by kernel_rfl)) sizeR_ok
end AE.Pr

namespace AE.Pr
open Go AE Go.Proofs

/-! ### Hearing -/
def hearRL1 (x : HT) : LSpec UU where
  T := { i : Nat // i ≤ x.2.1.length ∧ ∀ j, j < i → badCM x.1.1 x.1.2.1 (x.2.1.getD j dfC) = false }
  fr := fun i => [(1, .ptr 2 0 0 0), (3, .i i.1)]
  H := fun _ => hH x ++ [.one (boxM x)]
  mu := fun i => x.2.1.length - i.1
def hearRL2 (x : HT) : LSpec UU where
  T := { i : Nat // i ≤ x.2.2.length ∧ ∀ j, j < i → wordM x.1.1 x.1.2.1 (x.2.2.getD j dfW) = true }
  fr := fun i => [(1, .ptr 2 0 0 0), (5, .i i.1)]
  H := fun _ => hH x ++ [.one (boxM x)]
  mu := fun i => x.2.2.length - i.1
def hearRLs (x : HT) (k : Nat) : Option (LRule UU) :=
  match k with
  | 4 => some (.inv (hearRL1 x))
  | 10 => some (.inv (hearRL2 x))
  | _ => none
def ThearR : Tab UU := [(76, withinS.con), (42, isWordS.con)]
theorem ThearR_ok : ThearR.Sound Try.prog := .cons in_sound (.cons wordR_sound .nil)
set_option maxHeartbeats 0 in
set_option maxRecDepth 100000 in
theorem hearR_ok : ∀ x, isHearingS.pre x → FunOk Try.prog 39 (isHearingS.args x) (isHearingS.H x) (isHearingS.R x) := by
  rintro ⟨⟨f, w, li⟩, cs, ks⟩ hl
  refine fun_of (T := ThearR) (L := hearRLs ((f, w, li), cs, ks)) (hs := fun _ => []) hmix ThearR_ok Try.func39 (by kernel_rfl) (by kernel_rfl) ?_
  refine Eq.mp (α :=
      let Z0 := List.length ks; let Z1 := List.length cs; let Z2 := Value.bool false; let Z3 := (w, li); let Z4 := Value.int IntKind.i64 li; let Z5 := Value.int IntKind.i64 w; let Z6 := Value.int IntKind.i64 f; let Z7 := True ∧ True ∧ True; let Z8 := fun (j i : Nat) => j < i; let Z9 := nat_lit 0 = nat_lit 0 ∧ nat_lit 0 = nat_lit 0; let Z10 := (6 : Int); let Z11 := (1 : Int); let Z12 := (2 : Int); let Z13 := (4 : Int); let Z14 := (0 : Int); let Z15 := (14 : Int); let Z16 := True ∧ Z7; let Z17 := ks = ks; let Z18 := cs = cs; let Z19 := (cs, ks); let Z20 := inM li Z14 w; let Z21 := nat_lit 0 = nat_lit 0 ∧ Z9; let Z22 := Z17 ∧ True; let Z23 := (↑Z0 : Int); let Z24 := (↑Z1 : Int); let Z25 := Z1 = Z1; let Z26 := Z0 = Z0; let Z27 := (f, Z3); let Z28 := Value.int IntKind.i64 Z14; let Z29 := Value.int IntKind.i64 Z10; let Z30 := Value.int IntKind.i64 Z12; let Z31 := !Z20; let Z32 := (Z14, false); let Z33 := Z6 = Z6; let Z34 := Z4 = Z4; let Z35 := Z5 = Z5; let Z36 := nat_lit 0 = nat_lit 0 ∧ Z25; let Z37 := nat_lit 0 = nat_lit 0 ∧ Z26; let Z38 := inM f Z14 Z10; let Z39 := inM w Z14 Z10; let Z40 := w - Z11; let Z41 := !Z39; let Z42 := !Z38; let Z43 := nat_lit 0 = nat_lit 0 ∧ Z37; let Z44 := nat_lit 0 = nat_lit 0 ∧ Z36; let Z45 := Z18 ∧ Z22; let Z46 := Z43 ∧ True; let Z47 := (false, Z32); let Z48 := Z35 ∧ Z16; let Z49 := True ∧ Z45; let Z50 := Z23 > Z13; let Z51 := Z24 > Z15; let Z52 := IntKind.wrap IntKind.i64 Z40; let Z53 := Z28 = Z28; let Z54 := Z29 = Z29; let Z55 := Z54 ∧ True; let Z56 := Value.int IntKind.i64 Z52; let Z57 := (Z27, Z19); let Z58 := hearM Z57; let Z59 := Z33 ∧ Z48; let Z60 := Value.bool Z58; let Z61 := Z44 ∧ Z46; let Z62 := Z60 = Z2; let Z63 := (Z47, Z47); let Z64 := Prod.fst Z57; let Z65 := Z62 ∧ True; let Z66 := Prod.snd Z57; let Z67 := Prod.snd Z64; let Z68 := Prod.fst Z64; let Z69 := Z53 ∧ Z55; let Z70 := Z34 ∧ Z61; let Z71 := Prod.snd Z66; let Z72 := Prod.fst Z66; let Z73 := Prod.fst Z67; let Z74 := List.length Z72; let Z75 := List.length Z71; let Z76 := (Z14, Z63); let Z77 := fun (j : Nat) => List.getD Z72 j dfC; let Z78 := fun (j : Nat) => List.getD Z71 j dfW; let Z79 := fun (i : Nat) => i ≤ Z74; let Z80 := fun (i : Nat) => i ≤ Z75; let Z83 := True ∧ Z65 ∧ Z49; let Z88 := decide Z50; let Z89 := decide Z51; let Z91 := True ∧ Z18 ∧ Z17 ∧ (Z33 ∧ Z35 ∧ Z70) ∧ True; let Z102 : Type := { i : Nat // Z80 i ∧ ∀ (j : Nat), Z8 j i → wordM Z68 Z73 (Z78 j) = true }; let Z103 : Type := { i : Nat // Z79 i ∧ ∀ (j : Nat), Z8 j i → badCM Z68 Z73 (Z77 j) = false }; let Z104 := fun (x : Z102) => Subtype.val x; let Z105 := fun (x : Z103) => Subtype.val x; let Z106 := fun (x : Z102) => (↑(Z104 x) : Int); let Z107 := fun (x : Z103) => (↑(Z105 x) : Int); let Z112 := fun (x : Z102) => Z0 - Z104 x; let Z113 := fun (x : Z103) => Z1 - Z105 x; let Z114 := fun (t : Z102) => nat_lit 0 + Int.toNat (Z106 t); let Z115 := fun (t : Z103) => nat_lit 0 + Int.toNat (Z107 t); let Z121 := fun (t : Z102) => List.getD ks (Z114 t) Z47; let Z124 := fun (t : Z102) => Prod.fst (Z121 t); let Z125 := fun (t : Z102) => Prod.snd (Z121 t); let Z131 := fun (t : Z103) => List.getD cs (Z115 t) (Z14, Z76); let Z132 := fun (t : Z103) => Prod.snd (Z131 t); let Z133 := fun (t : Z103) => Prod.fst (Z131 t); let Z135 := fun (t : Z103) => Prod.fst (Z132 t); let Z136 := fun (t : Z103) => Prod.snd (Z132 t); let Z137 := fun (t : Z103) => Prod.fst (Z136 t); let Z138 := fun (t : Z103) => Prod.snd (Z136 t); let Z144 := fun (t : Z103) => Prod.fst (Z138 t); let Z145 := fun (t : Z103) => Prod.fst (Z137 t); let Z146 := fun (t : Z103) => Prod.snd (Z138 t); let Z147 := fun (t : Z103) => Prod.snd (Z137 t); let Z158 := fun (t : Z103) => Z135 t != Z14; let Z167 := fun (t : Z102) => decide (Z106 t < Z23); let Z168 := fun (t : Z103) => decide (Z107 t < Z24); let Z171 := fun (t : Z103) => ∃ (x : Z103), ((Z21 ∧ Value.int IntKind.i64 (IntKind.wrap IntKind.i64 (Z107 t + Z11)) = Value.int IntKind.i64 (Z107 x) ∧ True) ∧ Z91) ∧ Z113 x < Z113 t; True ∧ (Z33 ∧ Z69) ∧ True ∧ (Z42 = true → Z83) ∧ (Z42 = false → True ∧ (Z35 ∧ Z69) ∧ True ∧ (Z41 = true → Z83) ∧ (Z41 = false → True ∧ (Z34 ∧ Z53 ∧ Z35 ∧ True) ∧ True ∧ (Z31 = true → Z83) ∧ (Z31 = false → (Z89 = true → Z83) ∧ (Z89 = false → (Z88 = true → Z83) ∧ (Z88 = false → (∃ (x : Z103), (Z21 ∧ Z28 = Value.int IntKind.i64 (Z107 x) ∧ True) ∧ Z91) ∧ ∀ (t : Z103), (Z168 t = true → (Z14 ≤ Z107 t ∧ Z107 t < Z24) ∧ Z115 t < List.length cs ∧ True ∧ (Value.int IntKind.i64 (Z133 t) = Value.int IntKind.i64 (Z133 t) ∧ Z53 ∧ Z56 = Z56 ∧ True) ∧ True ∧ ((!inM (Z133 t) Z14 Z52) = true → Z83) ∧ ((!inM (Z133 t) Z14 Z52) = false → True ∧ (Value.int IntKind.i64 (Z135 t) = Value.int IntKind.i64 (Z135 t) ∧ Z53 ∧ Z30 = Z30 ∧ True) ∧ True ∧ ((!inM (Z135 t) Z14 Z12) = true → Z83) ∧ ((!inM (Z135 t) Z14 Z12) = false → True ∧ (Z59 ∧ (Value.bool (Z145 t) = Value.bool (Z145 t) ∧ Value.int IntKind.i64 (Prod.fst (Z147 t)) = Value.int IntKind.i64 (Prod.fst (Z147 t)) ∧ Value.bool (Prod.snd (Z147 t)) = Value.bool (Prod.snd (Z147 t)) ∧ True) ∧ True) ∧ True ∧ ((!wordM f w (Z137 t)) = true → Z83) ∧ ((!wordM f w (Z137 t)) = false → (Z158 t = true → True ∧ (Z59 ∧ (Value.bool (Z144 t) = Value.bool (Z144 t) ∧ Value.int IntKind.i64 (Prod.fst (Z146 t)) = Value.int IntKind.i64 (Prod.fst (Z146 t)) ∧ Value.bool (Prod.snd (Z146 t)) = Value.bool (Prod.snd (Z146 t)) ∧ True) ∧ True) ∧ True ∧ ((!wordM f w (Z138 t)) = true → Z83) ∧ ((!wordM f w (Z138 t)) = false → True ∧ Z171 t)) ∧ (Z158 t = false → True ∧ Z171 t))))) ∧ (Z168 t = false → (∃ (x : Z102), (Z21 ∧ Z28 = Value.int IntKind.i64 (Z106 x) ∧ True) ∧ Z91) ∧ ∀ (t : Z102), (Z167 t = true → (Z14 ≤ Z106 t ∧ Z106 t < Z23) ∧ Z114 t < List.length ks ∧ True ∧ (Z59 ∧ (Value.bool (Z124 t) = Value.bool (Z124 t) ∧ Value.int IntKind.i64 (Prod.fst (Z125 t)) = Value.int IntKind.i64 (Prod.fst (Z125 t)) ∧ Value.bool (Prod.snd (Z125 t)) = Value.bool (Prod.snd (Z125 t)) ∧ True) ∧ True) ∧ True ∧ ((!wordM f w (Z121 t)) = true → Z83) ∧ ((!wordM f w (Z121 t)) = false → True ∧ ∃ (x : Z102), ((Z21 ∧ Value.int IntKind.i64 (IntKind.wrap IntKind.i64 (Z106 t + Z11)) = Value.int IntKind.i64 (Z106 x) ∧ True) ∧ Z91) ∧ Z112 x < Z112 t)) ∧ (Z167 t = false → True ∧ (Z60 = Value.bool true ∧ True) ∧ Z49))))))))
    (by kernel_rfl) ?_
  simp only [eq_self, true_and, and_true, Int.toNat_natCast, Nat.zero_add, Nat.sub_zero, Value.int.injEq, Value.bool.injEq, decide_eq_true_eq, decide_eq_false_iff_not]
  have hW : 0 ≤ w ∧ w ≤ 6 → W (w - 1) = w - 1 := fun h => wrap_id (by omega) (by omega)
  have hok : cs.length < 1000 ∧ ks.length < 1000 := hl
  have hbad : ∀ b : Bool, (!b) = true → b = false := by decide
  have hgood : ∀ b : Bool, (!b) = false → b = true := by decide
  have getc : ∀ i, i < cs.length → cs.getD i dfC ∈ cs := fun i hi => by rw [List.getD_eq_getElem?_getD, List.getElem?_eq_getElem hi]; exact List.getElem_mem hi
  have getk : ∀ i, i < ks.length → ks.getD i dfW ∈ ks := fun i hi => by rw [List.getD_eq_getElem?_getD, List.getElem?_eq_getElem hi]; exact List.getElem_mem hi
  have noc : ∀ i, i < cs.length → badCM f w (cs.getD i dfC) = true → hearM ((f, w, li), cs, ks) = false := fun i hi hb => by
    have : cs.any (badCM f w) = true := List.any_eq_true.2 ⟨_, getc i hi, hb⟩
    simp [hearM, this]
  have nok : ∀ i, i < ks.length → wordM f w (ks.getD i dfW) = false → hearM ((f, w, li), cs, ks) = false := fun i hi hb => by
    have : (ks.any fun y => !wordM f w y) = true := List.any_eq_true.2 ⟨_, getk i hi, by simp only [hb, Bool.not_false]⟩
    simp [hearM, this]
  refine ⟨fun h => by simp [hearM, hbad _ h], fun h1 => ⟨fun h => by simp [hearM, hbad _ h], fun h2 => ⟨fun h => by simp [hearM, hbad _ h], fun h3 => ⟨fun h => ?_, fun h4 => ⟨fun h => ?_, fun h5 => ?_⟩⟩⟩⟩⟩
  · have : ¬ cs.length ≤ 14 := by omega
    simp [hearM, this]
  · have : ¬ ks.length ≤ 4 := by omega
    simp [hearM, this]
  refine ⟨⟨⟨0, Nat.zero_le _, fun j hj => absurd hj (Nat.not_lt_zero _)⟩, rfl⟩, fun t => ⟨fun ht => ?_, fun ht => ?_⟩⟩
  · obtain ⟨i, hi, hb⟩ := t
    have hlt : i < cs.length := by have h0 : (i : Int) < cs.length := ht; omega
    have hsu : IntKind.i64.wrap ((i : Int) + 1) = ((i + 1 : Nat) : Int) := by rw [wrap_id (by omega) (by omega)]; rfl
    have no := noc i hlt
    have next : badCM f w (cs.getD i dfC) = false → ∃ x : { i : Nat // i ≤ cs.length ∧ ∀ j, j < i → badCM f w (cs.getD j dfC) = false }, IntKind.i64.wrap ((i : Int) + 1) = (x.1 : Int) ∧ cs.length - x.1 < cs.length - i :=
      fun hb2 => ⟨⟨i + 1, hlt, below_succ hb hb2⟩, hsu, dec1 hlt⟩
    refine ⟨⟨by show (0 : Int) ≤ (i : Int); omega, ht⟩, hlt, fun h => no ?_, fun g1 => ⟨fun h => no ?_, fun g2 => ⟨fun h => no ?_, fun g3 => ⟨fun h6 => ⟨fun h => no ?_, fun g4 => next ?_⟩, fun h6 => next ?_⟩⟩⟩⟩
    · have a1 : (!inM (cs.getD i dfC).1 0 (W (w - 1))) = true := h
      unfold badCM; rw [a1]; simp
    · have a1 : (!inM (cs.getD i dfC).2.1 0 2) = true := h
      unfold badCM; rw [a1]; rfl
    · have a1 : (!wordM f w (cs.getD i dfC).2.2.1) = true := h
      unfold badCM; rw [a1]; simp
    · have a1 : (!wordM f w (cs.getD i dfC).2.2.2) = true := h
      have a2 : ((cs.getD i dfC).2.1 != 0) = true := h6
      unfold badCM; rw [a1, a2]; simp
    · have a1 : (!inM (cs.getD i dfC).1 0 (W (w - 1))) = false := g1
      have a2 : (!inM (cs.getD i dfC).2.1 0 2) = false := g2
      have a3 : (!wordM f w (cs.getD i dfC).2.2.1) = false := g3
      have a4 : (!wordM f w (cs.getD i dfC).2.2.2) = false := g4
      unfold badCM; rw [a1, a2, a3, a4]; simp
    · have a1 : (!inM (cs.getD i dfC).1 0 (W (w - 1))) = false := g1
      have a2 : (!inM (cs.getD i dfC).2.1 0 2) = false := g2
      have a3 : (!wordM f w (cs.getD i dfC).2.2.1) = false := g3
      have a4 : ((cs.getD i dfC).2.1 != 0) = false := h6
      unfold badCM; rw [a1, a2, a3, a4]; simp
  · have hall : cs.any (badCM f w) = false := by
      rw [List.any_eq_false]
      intro c hc
      obtain ⟨i, hi, rfl⟩ := List.getElem_of_mem hc
      have := t.2.2 i (by omega)
      rw [List.getD_eq_getElem?_getD, List.getElem?_eq_getElem hi] at this
      simpa using this
    refine ⟨⟨⟨0, Nat.zero_le _, fun j hj => absurd hj (Nat.not_lt_zero _)⟩, rfl⟩, fun t => ⟨fun ht => ?_, fun ht => ?_⟩⟩
    · obtain ⟨i, hi, hb⟩ := t
      have hlt : i < ks.length := by have h0 : (i : Int) < ks.length := ht; omega
      have hsu : IntKind.i64.wrap ((i : Int) + 1) = ((i + 1 : Nat) : Int) := by rw [wrap_id (by omega) (by omega)]; rfl
      exact ⟨⟨by show (0 : Int) ≤ (i : Int); omega, ht⟩, hlt, fun h => nok i hlt (hbad _ h), fun h => ⟨⟨i + 1, hlt, below_succ hb (hgood _ h)⟩, hsu, dec1 hlt⟩⟩
    · have hall2 : (ks.any fun y => !wordM f w y) = false := by
        rw [List.any_eq_false]
        intro c hc
        obtain ⟨i, hi, rfl⟩ := List.getElem_of_mem hc
        have := t.2.2 i (by omega)
        rw [List.getD_eq_getElem?_getD, List.getElem?_eq_getElem hi] at this
        simpa using this
      have e1 : cs.length ≤ 14 := by omega
      have e2 : ks.length ≤ 4 := by omega
      simp only [hearM, hgood _ h1, hgood _ h2, hgood _ h3, e1, e2, hall, hall2]
      rfl

theorem hearR_sound : Sound Try.prog 39 isHearingS.con := FSpec.sound _ (enter_of Try.func39 (by kernel_rfl) (by kernel_rfl)) hearR_ok

/-! ### Right, Claim, told -/
def vRT (t : Int × Int) : AV := .agg [.i t.1, .i t.2]
def avTr : AV → Option (Int × Int)
  | .agg [a, b] => match avInt a, avInt b with
    | some a, some b => some (a, b)
    | _, _ => none
  | _ => none
def rightRS : FSpec UU where
  X := (Int × Int) × W3
  pick := fun args _ => match args with
    | [a, b] => match avTr a, avW b with
      | some a, some b => some (a, b)
      | _, _ => none
    | _ => none
  args := fun x => [vRT x.1, vW x.2]
  H := fun _ => []
  R := fun x => .val ⟨.b (rightM x.1 x.2), [], [], []⟩
  pre := fun x => okT x.1 ∧ okW x.2
def ThasR : Tab UU := [(75, hasRS.con)]
theorem ThasR_ok : ThasR.Sound Try.prog := .cons hasR_sound .nil
set_option maxRecDepth 100000 in
theorem rightR_ok : ∀ x, rightRS.pre x → FunOk Try.prog 38 (rightRS.args x) (rightRS.H x) (rightRS.R x) := by
  rintro ⟨⟨f, l⟩, ⟨p, n, x⟩⟩ h
  refine fun_of (T := ThasR) (L := fun _ => none) (hs := fun _ => []) hmix ThasR_ok Try.func38 (by kernel_rfl) (by kernel_rfl) ?_
  refine Eq.mp (α :=
      let Z0 := Value.int IntKind.i64 n; let Z2 := (0 : Int); let Z3 := (64 : Int); let Z5 := Z2 ≤ n; let Z6 := n < (6 : Int); let Z9 := rightM (f, l) (p, n, x); (p = true → (Z2 ≤ l ∧ l < Z3 ∧ Z5 ∧ Z6) ∧ (Value.int IntKind.i64 l = Value.int IntKind.i64 l ∧ Z0 = Z0 ∧ True) ∧ True ∧ True ∧ ((Value.bool !(!hasM l n) == x) = Value.bool Z9 ∧ True) ∧ True ∧ True) ∧ (p = false → (Z2 ≤ f ∧ f < Z3 ∧ Z5 ∧ Z6) ∧ (Value.int IntKind.i64 f = Value.int IntKind.i64 f ∧ Z0 = Z0 ∧ True) ∧ True ∧ True ∧ ((Value.bool !hasM f n == x) = Value.bool Z9 ∧ True) ∧ True ∧ True))
    (by kernel_rfl) ?_
  simp only [eq_self, true_and, and_true, Int.toNat_natCast, Nat.zero_add, Nat.sub_zero, Value.int.injEq, Value.bool.injEq, decide_eq_true_eq, decide_eq_false_iff_not]
  simp only [rightRS, okT, okW] at h
  have h1 : ∀ b x : Bool, (!(!b) == x) = ((!b) != x) := by decide
  have h2 : ∀ b x : Bool, (!b == x) = (b != x) := by decide
  refine ⟨fun hp => ⟨⟨h.1.2.1, h.1.2.2, h.2.1, h.2.2⟩, ?_⟩, fun hp => ⟨⟨h.1.1.1, h.1.1.2, h.2.1, h.2.2⟩, ?_⟩⟩ <;> simp [rightM, hp]
  · cases hasM l n <;> cases x <;> rfl
  · cases hasM f n <;> cases x <;> rfl

theorem rightR_sound : Sound Try.prog 38 rightRS.con := FSpec.sound _ (enter_of Try.func38 (by kernel_rfl) (by kernel_rfl)) rightR_ok
def okCl (c : Cl) : Prop := (0 ≤ c.2.1 ∧ c.2.1 ≤ 2) ∧ okW c.2.2.1 ∧ (c.2.1 ≠ 0 → okW c.2.2.2)
def claimRM (t : Int × Int) (c : Cl) : Bool := claimM t (ciM c)
def claimRS : FSpec UU where
  X := (Int × Int) × Cl
  pick := fun args _ => match args with
    | [a, b] => match avTr a, avCl b with
      | some a, some b => some (a, b)
      | _, _ => none
    | _ => none
  args := fun x => [vRT x.1, .agg [.i x.2.1, .i x.2.2.1, .b x.2.2.2.1.1, .i x.2.2.2.1.2.1, .b x.2.2.2.1.2.2, .b x.2.2.2.2.1, .i x.2.2.2.2.2.1, .b x.2.2.2.2.2.2]]
  H := fun _ => []
  R := fun x => .val ⟨.b (claimRM x.1 x.2), [], [], []⟩
  pre := fun x => okT x.1 ∧ okCl x.2
def TclaimR : Tab UU := [(38, rightRS.con)]
theorem TclaimR_ok : TclaimR.Sound Try.prog := .cons rightR_sound .nil
set_option maxRecDepth 100000 in
theorem claimR_ok : ∀ x, claimRS.pre x → FunOk Try.prog 73 (claimRS.args x) (claimRS.H x) (claimRS.R x) := by
  rintro ⟨⟨f, l⟩, ⟨wi, k, ⟨p, n, x⟩, ⟨p', n', x'⟩⟩⟩ h
  refine fun_of (T := TclaimR) (L := fun _ => none) (hs := fun _ => []) hmix TclaimR_ok Try.func73 (by kernel_rfl) (by kernel_rfl) ?_
  refine Eq.mp (α :=
      let Z0 := True ∧ True; let Z3 := Value.bool p'; let Z4 := Value.bool x'; let Z5 := (f, l); let Z8 := Value.int IntKind.i64 l; let Z9 := Value.int IntKind.i64 n; let Z10 := Value.int IntKind.i64 n'; let Z11 := Value.int IntKind.i64 f; let Z12 := (0 : Int); let Z14 := (6 : Int); let Z15 := (64 : Int); let Z16 := Value.bool x = Value.bool x; let Z17 := Value.bool p = Value.bool p; let Z22 := (p', n', x'); let Z23 := (p, n, x); let Z25 := n' < Z14; let Z26 := Z12 ≤ n; let Z27 := Z12 ≤ n'; let Z29 := n < Z14; let Z35 := Z9 = Z9; let Z37 := rightM Z5 Z23; let Z39 := k == Z12; let Z40 := k == (1 : Int); let Z50 := Z11 = Z11 ∧ Z8 = Z8 ∧ True; let Z58 := Value.bool (claimRM Z5 (wi, k, Z23, Z22)); let Z59 := (Z12 ≤ f ∧ f < Z15) ∧ Z12 ≤ l ∧ l < Z15; let Z60 := Z58 = Value.bool true; (Z39 = true → (Z59 ∧ Z26 ∧ Z29) ∧ (Z50 ∧ (Z17 ∧ Z35 ∧ Z16 ∧ True) ∧ True) ∧ True ∧ True ∧ (Value.bool Z37 = Z58 ∧ True) ∧ Z0) ∧ (Z39 = false → (Z40 = true → (Z59 ∧ Z26 ∧ Z29) ∧ (Z50 ∧ (Z17 ∧ Z35 ∧ Z16 ∧ True) ∧ True) ∧ True ∧ (Z37 = true → True ∧ (Z60 ∧ True) ∧ Z0) ∧ (Z37 = false → (Z59 ∧ Z27 ∧ Z25) ∧ (Z50 ∧ (Z3 = Z3 ∧ Z10 = Z10 ∧ Z4 = Z4 ∧ True) ∧ True) ∧ True ∧ True ∧ (Value.bool (rightM Z5 Z22) = Z58 ∧ True) ∧ Z0)) ∧ (Z40 = false → (Z59 ∧ Z26 ∧ Z29) ∧ (Z50 ∧ (Z17 ∧ Z35 ∧ Z16 ∧ True) ∧ True) ∧ True ∧ ((!Z37) = true → True ∧ (Z60 ∧ True) ∧ Z0) ∧ ((!Z37) = false → (Z59 ∧ Z27 ∧ Z25) ∧ (Z50 ∧ (Z3 = Z3 ∧ Z10 = Z10 ∧ Z4 = Z4 ∧ True) ∧ True) ∧ True ∧ True ∧ (Value.bool (rightM Z5 Z22) = Z58 ∧ True) ∧ Z0))))
    (by kernel_rfl) ?_
  simp only [eq_self, true_and, and_true, Int.toNat_natCast, Nat.zero_add, Nat.sub_zero, Value.int.injEq, Value.bool.injEq, decide_eq_true_eq, decide_eq_false_iff_not]
  simp only [claimRS, okT, okCl, okW] at h
  obtain ⟨ht, hk, hw, hw2⟩ := h
  refine ⟨fun h0 => ⟨⟨ht, hw⟩, ?_⟩, fun h0 => ⟨fun h1 => ⟨⟨ht, hw⟩, fun hr => ?_, fun hr => ⟨⟨ht, hw2 (by simpa using h0)⟩, ?_⟩⟩, fun h1 => ⟨⟨ht, hw⟩, fun hr => ?_, fun hr => ⟨⟨ht, hw2 (by simpa using h0)⟩, ?_⟩⟩⟩⟩
  · have e : k = 0 := by simpa using h0
    simp [claimRM, claimM, ciM, e]
  · have e : k = 1 := by simpa using h1
    simp [claimRM, claimM, ciM, e, hr]
  · have e : k = 1 := by simpa using h1
    simp [claimRM, claimM, ciM, e, hr]
  · have e0 : k ≠ 0 := by simpa using h0
    have e1 : k ≠ 1 := by simpa using h1
    have e : k = 2 := by omega
    have hr' : rightM (f, l) (p, n, x) = false := by simpa using hr
    simp [claimRM, claimM, ciM, e, hr']
  · have e0 : k ≠ 0 := by simpa using h0
    have e1 : k ≠ 1 := by simpa using h1
    have e : k = 2 := by omega
    have hr' : rightM (f, l) (p, n, x) = true := by simpa using hr
    simp [claimRM, claimM, ciM, e, hr']

theorem claimR_sound : Sound Try.prog 73 claimRS.con := FSpec.sound _ (enter_of Try.func73 (by kernel_rfl) (by kernel_rfl)) claimR_ok
def toldM (cs : List Cl) (t : Int × Int) (w : Int) : Bool := cs.all fun c => !(c.1 == w && !claimRM t c)
def toldRS : FSpec UU where
  X := HT × (Int × Int) × Int
  pick := fun args H => match args with
    | [a, b, c] => match avH H a, avTr b, avInt c with
      | some a, some b, some c => some (a, b, c)
      | _, _, _ => none
    | _ => none
  args := fun x => [vH x.1, vRT x.2.1, .i x.2.2]
  H := fun x => hH x.1
  R := fun x => .val ⟨.b (toldM x.1.2.1 x.2.1 x.2.2), [], [], []⟩
  pre := fun x => okT x.2.1 ∧ x.1.2.1.length < 1000 ∧ ∀ c ∈ x.1.2.1, okCl c
def toldRL (x : HT) (t : Int × Int) (w : Int) : LSpec UU where
  T := { i : Nat // i ≤ x.2.1.length ∧ ∀ j, j < i → ((x.2.1.getD j dfC).1 == w && !claimRM t (x.2.1.getD j dfC)) = false }
  fr := fun i => [(2, .i w), (3, .ptr 2 0 0 0), (4, .ptr 3 0 0 0), (7, .i i.1)]
  H := fun _ => hH x ++ [.one (boxM x), .one (.cells [.i t.1, .i t.2] 48)]
  mu := fun i => x.2.1.length - i.1
def TtoldR : Tab UU := [(73, claimRS.con)]
theorem TtoldR_ok : TtoldR.Sound Try.prog := .cons claimR_sound .nil
set_option maxHeartbeats 0 in
set_option maxRecDepth 100000 in
theorem toldR_ok : ∀ x, toldRS.pre x → FunOk Try.prog 78 (toldRS.args x) (toldRS.H x) (toldRS.R x) := by
  rintro ⟨⟨⟨f, w, li⟩, cs, ks⟩, ⟨a, b⟩, wi⟩ hl
  refine fun_of (T := TtoldR) (L := fun _ => some (.inv (toldRL ((f, w, li), cs, ks) (a, b) wi))) (hs := fun _ => []) hmix TtoldR_ok Try.func78 (by kernel_rfl) (by kernel_rfl) ?_
  refine Eq.mp (α :=
      let Z0 := List.length ks; let Z1 := List.length cs; let Z2 := (a, b); let Z3 := (w, li); let Z4 := Value.int IntKind.i64 w; let Z5 := Value.int IntKind.i64 a; let Z6 := Value.int IntKind.i64 wi; let Z7 := Value.int IntKind.i64 f; let Z8 := Value.int IntKind.i64 b; let Z9 := Value.int IntKind.i64 li; let Z10 := nat_lit 0 = nat_lit 0 ∧ nat_lit 0 = nat_lit 0; let Z11 := (0 : Int); let Z12 := (6 : Int); let Z13 := (1 : Int); let Z14 := (64 : Int); let Z15 := ks = ks; let Z16 := List.length cs; let Z17 := toldM cs Z2 wi; let Z18 := (cs, ks); let Z19 := cs = cs; let Z20 := nat_lit 0 = nat_lit 0 ∧ Z10; let Z21 := Z15 ∧ True; let Z22 := (↑Z1 : Int); let Z23 := Value.bool Z17; let Z24 := Z0 = Z0; let Z25 := Z1 = Z1; let Z26 := (f, Z3); let Z27 := (Z11, false); let Z28 := Z4 = Z4; let Z29 := Z9 = Z9; let Z30 := Z5 = Z5; let Z31 := Z7 = Z7; let Z32 := Z8 = Z8; let Z33 := Z6 = Z6; let Z34 := nat_lit 0 = nat_lit 0 ∧ Z24; let Z35 := nat_lit 0 = nat_lit 0 ∧ Z25; let Z36 := Z32 ∧ True; let Z37 := nat_lit 0 = nat_lit 0 ∧ Z34; let Z38 := nat_lit 0 = nat_lit 0 ∧ Z35; let Z39 := Z19 ∧ Z21; let Z41 := (false, Z27); let Z50 := Prod.fst (Prod.snd (Z26, Z18)); let Z71 : Type := { i : Nat // i ≤ List.length Z50 ∧ ∀ (j : Nat), j < i → (Prod.fst (List.getD Z50 j dfC) == wi && !claimRM Z2 (List.getD Z50 j dfC)) = false }; let Z72 := fun (x : Z71) => Subtype.val x; let Z73 := fun (x : Z71) => (↑(Z72 x) : Int); let Z76 := fun (x : Z71) => Z1 - Z72 x; let Z78 := fun (t : Z71) => nat_lit 0 + Int.toNat (Z73 t); let Z79 := fun (t : Z71) => Z73 t < Z22; let Z84 := fun (t : Z71) => List.getD cs (Z78 t) (Z11, Z11, Z41, Z41); let Z86 := fun (t : Z71) => Prod.snd (Z84 t); let Z87 := fun (t : Z71) => Prod.fst (Z84 t); let Z90 := fun (t : Z71) => Prod.snd (Z86 t); let Z91 := fun (t : Z71) => Prod.fst (Z86 t); let Z95 := fun (t : Z71) => Z87 t == wi; let Z96 := fun (t : Z71) => Prod.fst (Prod.fst (Z90 t)); let Z97 := fun (t : Z71) => Prod.snd (Prod.fst (Z90 t)); let Z98 := fun (t : Z71) => Prod.fst (Prod.snd (Z90 t)); let Z99 := fun (t : Z71) => Prod.snd (Prod.snd (Z90 t)); let Z104 := fun (t : Z71) => Prod.fst (Z99 t); let Z105 := fun (t : Z71) => Prod.fst (Z97 t); let Z117 := fun (t : Z71) => decide (Z79 t); let Z120 := fun (t : Z71) => ∃ (x : Z71), ((Z33 ∧ Z20 ∧ Z20 ∧ Value.int IntKind.i64 (IntKind.wrap IntKind.i64 (Z73 t + Z13)) = Value.int IntKind.i64 (Z73 x) ∧ True) ∧ True ∧ Z19 ∧ Z15 ∧ (Z31 ∧ Z28 ∧ Z29 ∧ Z38 ∧ Z37 ∧ True) ∧ (Z30 ∧ Z36) ∧ True) ∧ Z76 x < Z76 t; (∃ (x : Z71), (Z33 ∧ Z20 ∧ Z20 ∧ Value.int IntKind.i64 Z11 = Value.int IntKind.i64 (Z73 x) ∧ True) ∧ True ∧ Z19 ∧ Z15 ∧ (Z31 ∧ Z28 ∧ Z29 ∧ Z38 ∧ Z37 ∧ True) ∧ (Z30 ∧ Z36) ∧ True) ∧ ∀ (t : Z71), (Z117 t = true → (Z11 ≤ Z73 t ∧ Z79 t) ∧ Z78 t < Z16 ∧ (Z95 t = true → (Z11 ≤ Z73 t ∧ Z79 t) ∧ Z78 t < Z16 ∧ (((Z11 ≤ a ∧ a < Z14) ∧ Z11 ≤ b ∧ b < Z14) ∧ (Z11 ≤ Z91 t ∧ Z91 t ≤ (2 : Int)) ∧ (Z11 ≤ Z105 t ∧ Z105 t < Z12) ∧ (Z91 t ≠ Z11 → Z11 ≤ Z104 t ∧ Z104 t < Z12)) ∧ ((Z30 ∧ Z36) ∧ (Value.int IntKind.i64 (Z87 t) = Value.int IntKind.i64 (Z87 t) ∧ Value.int IntKind.i64 (Z91 t) = Value.int IntKind.i64 (Z91 t) ∧ Value.bool (Z96 t) = Value.bool (Z96 t) ∧ Value.int IntKind.i64 (Z105 t) = Value.int IntKind.i64 (Z105 t) ∧ Value.bool (Prod.snd (Z97 t)) = Value.bool (Prod.snd (Z97 t)) ∧ Value.bool (Z98 t) = Value.bool (Z98 t) ∧ Value.int IntKind.i64 (Z104 t) = Value.int IntKind.i64 (Z104 t) ∧ Value.bool (Prod.snd (Z99 t)) = Value.bool (Prod.snd (Z99 t)) ∧ True) ∧ True) ∧ True ∧ ((!claimRM Z2 (Z84 t)) = true → True ∧ (Z23 = Value.bool false ∧ True) ∧ True ∧ Z39) ∧ ((!claimRM Z2 (Z84 t)) = false → True ∧ Z120 t)) ∧ (Z95 t = false → True ∧ Z120 t)) ∧ (Z117 t = false → True ∧ (Z23 = Value.bool true ∧ True) ∧ True ∧ Z39))
    (by kernel_rfl) ?_
  simp only [eq_self, true_and, and_true, Int.toNat_natCast, Nat.zero_add, Nat.sub_zero, Value.int.injEq, Value.bool.injEq, decide_eq_true_eq, decide_eq_false_iff_not]
  simp only [toldRS, okT, okCl, okW] at hl
  obtain ⟨ht, hlen, hcl⟩ := hl
  have getc : ∀ i, i < cs.length → cs.getD i dfC ∈ cs := fun i hi => by rw [List.getD_eq_getElem?_getD, List.getElem?_eq_getElem hi]; exact List.getElem_mem hi
  refine ⟨⟨⟨0, Nat.zero_le _, fun j hj => absurd hj (Nat.not_lt_zero _)⟩, rfl⟩, fun t => ⟨fun h => ?_, fun h => ?_⟩⟩
  · obtain ⟨i, hi, hb⟩ := t
    have hlt : i < cs.length := by have h0 : (i : Int) < cs.length := h; omega
    have hsu : IntKind.i64.wrap ((i : Int) + 1) = ((i + 1 : Nat) : Int) := by rw [wrap_id (by omega) (by omega)]; rfl
    have next : ((cs.getD i dfC).1 == wi && !claimRM (a, b) (cs.getD i dfC)) = false → ∃ x : { i : Nat // i ≤ cs.length ∧ ∀ j, j < i → ((cs.getD j dfC).1 == wi && !claimRM (a, b) (cs.getD j dfC)) = false }, IntKind.i64.wrap ((i : Int) + 1) = (x.1 : Int) ∧ cs.length - x.1 < cs.length - i :=
      fun hb2 => ⟨⟨i + 1, hlt, below_succ hb hb2⟩, hsu, dec1 hlt⟩
    have h0 : (0 : Int) ≤ (i : Int) := by omega
    refine ⟨⟨h0, h⟩, hlt, fun hw => ⟨⟨h0, h⟩, hlt, ⟨ht, hcl _ (getc i hlt)⟩, fun hc => ?_, fun hc => next ?_⟩, fun hw => next ?_⟩
    · rw [toldM, List.all_eq_false]
      exact ⟨_, getc i hlt, by
        have hw' : ((cs.getD i dfC).1 == wi) = true := hw
        have hc' : (!claimRM (a, b) (cs.getD i dfC)) = true := hc
        rw [hw', hc']; decide⟩
    · have hc' : (!claimRM (a, b) (cs.getD i dfC)) = false := hc
      rw [hc', Bool.and_false]
    · have hw' : ((cs.getD i dfC).1 == wi) = false := hw
      rw [hw', Bool.false_and]
  · rw [toldM, List.all_eq_true]
    intro c hc
    obtain ⟨i, hi, rfl⟩ := List.getElem_of_mem hc
    have := t.2.2 i (by omega)
    rw [List.getD_eq_getElem?_getD, List.getElem?_eq_getElem hi] at this
    have h9 : ∀ x y : Bool, (x && y) = false → (!(x && y)) = true := by decide
    exact h9 _ _ this

theorem toldR_sound : Sound Try.prog 78 toldRS.con := FSpec.sound _ (enter_of Try.func78 (by kernel_rfl) (by kernel_rfl)) toldR_ok
end AE.Pr

namespace AE.Pr
open Go AE Go.Proofs

/-! ### Is -/
theorem rowK_says (x : HT) (k : Nat) (hk : k < 6) : rowK (rtM x) k = saysM x.2.1 k := by
  match k, hk with
  | 0, _ => rfl
  | 1, _ => rfl
  | 2, _ => rfl
  | 3, _ => rfl
  | 4, _ => rfl
  | 5, _ => rfl
theorem lies_told (x : HT) (t : Int × Int) (k : Nat) (hk : k < 6) : liesM t (rowK (rtM x) k) = !toldM x.2.1 t k := by
  rw [rowK_says x k hk, Bool.eq_iff_iff]
  unfold liesM saysM
  rw [List.any_map, List.any_filter, List.any_eq_true, Bool.not_eq_true', toldM, List.all_eq_false]
  constructor
  · rintro ⟨c, hc, h⟩
    refine ⟨c, (mem_ddM _ _).1 hc, ?_⟩
    have h' : (c.1 == (k : Int) && !claimM t (ciM c)) = true := h
    simp only [claimRM]; rw [h']; decide
  · rintro ⟨c, hc, h⟩
    refine ⟨c, (mem_ddM _ _).2 hc, ?_⟩
    show (c.1 == (k : Int) && !claimM t (ciM c)) = true
    have h9 : ∀ b : Bool, ¬ (!b) = true → b = true := by decide
    exact h9 _ h
theorem sayM_told {x : HT} {hd : Int} {t : Int × Int} {k : Nat} (hk : k < 6) : sayM (rtM x) hd t k = !(hasM hd k && (toldM x.2.1 t k == hasM t.2 k)) := by
  unfold sayM
  rw [lies_told x t k hk]
  cases hasM hd k <;> cases toldM x.2.1 t k <;> cases hasM t.2 k <;> rfl
theorem okCl_of {x : HT} (h : HearOk x) : ∀ c ∈ x.2.1, okCl c := fun c hc => by
  obtain ⟨h1, _, h3, h4⟩ := h.claims c hc
  exact ⟨h1, okW_of h.f h.w h3, fun h0 => okW_of h.f h.w (h4 h0)⟩
def isRS : FSpec UU where
  X := HT × Int × (Int × Int)
  pick := fun args H => match args with
    | [a, b, c] => match avH H a, avInt b, avTr c with
      | some a, some b, some c => some (a, b, c)
      | _, _, _ => none
    | _ => none
  args := fun x => [vH x.1, .i x.2.1, vRT x.2.2]
  H := fun x => hH x.1
  R := fun x => .val ⟨.b (isM (rtM x.1) x.2.1 x.2.2), [], [], []⟩
  pre := fun x => HearOk x.1 ∧ (0 ≤ x.2.1 ∧ x.2.1 < 64) ∧ okT x.2.2
def isRL1 (x : HT) (hd : Int) (t : Int × Int) : LSpec UU where
  T := { i : Nat // i ≤ x.1.2.1.toNat ∧ ∀ k, k < i → sayM (rtM x) hd t k = true }
  fr := fun i => [(1, .i hd), (3, .ptr 2 0 0 0), (5, .ptr 3 0 0 0), (7, .i i.1)]
  H := fun _ => hH x ++ [.one (boxM x), .one (.cells [.i t.1, .i t.2] 48)]
  mu := fun i => x.1.2.1.toNat - i.1
def isRL2 (x : HT) (hd : Int) (t : Int × Int) : LSpec UU where
  T := { i : Nat // i ≤ x.2.2.length ∧ ∀ j, j < i → rightM t (x.2.2.getD j dfW) = true }
  fr := fun i => [(1, .i hd), (3, .ptr 2 0 0 0), (5, .ptr 3 0 0 0), (8, .i i.1)]
  H := fun _ => hH x ++ [.one (boxM x), .one (.cells [.i t.1, .i t.2] 48)]
  mu := fun i => x.2.2.length - i.1
def isRLs (x : HT) (hd : Int) (t : Int × Int) (k : Nat) : Option (LRule UU) :=
  match k with
  | 2 => some (.inv (isRL1 x hd t))
  | 7 => some (.inv (isRL2 x hd t))
  | _ => none
def TisR : Tab UU := [(75, hasRS.con), (78, toldRS.con), (38, rightRS.con), (36, sizeRS.con)]
theorem TisR_ok : TisR.Sound Try.prog := .cons hasR_sound (.cons toldR_sound (.cons rightR_sound (.cons sizeR_sound .nil)))
set_option maxHeartbeats 0 in
set_option maxRecDepth 100000 in
theorem isR_ok : ∀ x, isRS.pre x → FunOk Try.prog 41 (isRS.args x) (isRS.H x) (isRS.R x) := by
  rintro ⟨⟨⟨f, w, li⟩, cs, ks⟩, hd, a, b⟩ hx
  refine fun_of (T := TisR) (L := isRLs ((f, w, li), cs, ks) hd (a, b)) (hs := fun _ => []) hmix TisR_ok Try.func41 (by kernel_rfl) (by kernel_rfl) ?_
  refine Eq.mp (α :=
      let Z0 := Int.toNat w; let Z1 := List.length cs; let Z2 := List.length ks; let Z3 := (a, b); let Z4 := (w, li); let Z5 := Value.int IntKind.i64 li; let Z6 := Value.int IntKind.i64 a; let Z7 := Value.int IntKind.i64 w; let Z8 := Value.int IntKind.i64 hd; let Z9 := Value.int IntKind.i64 f; let Z10 := Value.int IntKind.i64 b; let Z11 := fun (k i : Nat) => k < i; let Z12 := nat_lit 0 = nat_lit 0 ∧ nat_lit 0 = nat_lit 0; let Z13 := (6 : Int); let Z14 := (0 : Int); let Z15 := (1 : Int); let Z16 := (64 : Int); let Z17 := ks = ks; let Z18 := (cs, ks); let Z19 := cs = cs; let Z20 := fun (c : Cl) => Prod.snd c; let Z21 := nat_lit 0 = nat_lit 0 ∧ Z12; let Z22 := Z17 ∧ True; let Z23 := (↑Z2 : Int); let Z24 := Z2 = Z2; let Z25 := Z1 = Z1; let Z26 := (f, Z4); let Z27 := Value.int IntKind.i64 Z14; let Z28 := Z14 ≤ b; let Z29 := Z14 ≤ a; let Z30 := (Z14, false); let Z31 := a < Z16; let Z32 := b < Z16; let Z33 := Z5 = Z5; let Z34 := Z10 = Z10; let Z35 := Z7 = Z7; let Z36 := Z9 = Z9; let Z37 := Z6 = Z6; let Z38 := Z8 = Z8; let Z39 := nat_lit 0 = nat_lit 0 ∧ Z25; let Z40 := nat_lit 0 = nat_lit 0 ∧ Z24; let Z41 := Z34 ∧ True; let Z42 := fun (c : Cl) => Prod.snd (Z20 c); let Z43 := fun (c : Cl) => Prod.fst (Z20 c); let Z44 := nat_lit 0 = nat_lit 0 ∧ Z40; let Z45 := nat_lit 0 = nat_lit 0 ∧ Z39; let Z46 := Z19 ∧ Z22; let Z47 := Z44 ∧ True; let Z48 := fun (c : Cl) => Prod.fst (Z42 c); let Z49 := fun (c : Cl) => Prod.snd (Z42 c); let Z50 := (false, Z30); let Z51 := True ∧ Z46; let Z52 := Z29 ∧ Z31; let Z53 := Z28 ∧ Z32; let Z54 := fun (c : Cl) => Prod.snd (Z48 c); let Z55 := fun (c : Cl) => Prod.snd (Z49 c); let Z56 := Z37 ∧ Z41; let Z57 := fun (c : Cl) => Prod.fst (Z54 c); let Z58 := fun (c : Cl) => Prod.fst (Z55 c); let Z59 := Z56 ∧ True; let Z60 := (Z26, Z18); let Z61 := rtM Z60; let Z62 := Z45 ∧ Z47; let Z69 := Value.bool (isM Z61 hd Z3) = Value.bool false; let Z73 := Prod.snd (Prod.snd Z60); let Z94 : Type := { i : Nat // i ≤ Int.toNat (Prod.fst (Prod.snd (Prod.fst Z60))) ∧ ∀ (k : Nat), Z11 k i → sayM Z61 hd Z3 k = true }; let Z95 := fun (x : Z94) => Subtype.val x; let Z96 := fun (x : Z94) => (↑(Z95 x) : Int); let Z100 := True ∧ Z19 ∧ Z17 ∧ (Z36 ∧ Z35 ∧ Z33 ∧ Z62) ∧ Z59; let Z101 := fun (x : Z94) => Value.int IntKind.i64 (Z96 x); let Z103 := fun (x : Z94) => Z0 - Z95 x; let Z108 : Type := { i : Nat // i ≤ List.length Z73 ∧ ∀ (j : Nat), Z11 j i → rightM Z3 (List.getD Z73 j dfW) = true }; let Z110 := fun (x : Z108) => Subtype.val x; let Z112 := fun (x : Z108) => (↑(Z110 x) : Int); let Z116 := fun (x : Z108) => Z2 - Z110 x; let Z117 := fun (t : Z108) => nat_lit 0 + Int.toNat (Z112 t); let Z119 := fun (t : Z108) => List.getD ks (Z117 t) Z50; let Z120 := fun (t : Z108) => Prod.fst (Z119 t); let Z121 := fun (t : Z108) => Prod.snd (Z119 t); let Z125 := fun (t : Z108) => Prod.fst (Z121 t); let Z129 := fun (t : Z94) => Z101 t = Z101 t; let Z132 := fun (t : Z94) => toldM cs Z3 (Z96 t) == hasM b (Z96 t); let Z138 := fun (t : Z94) => decide (Z96 t < w); let Z140 := fun (t : Z108) => decide (Z112 t < Z23); let Z143 := fun (t : Z94) => ∃ (x : Z94), ((Z38 ∧ Z21 ∧ Z21 ∧ Value.int IntKind.i64 (IntKind.wrap IntKind.i64 (Z96 t + Z15)) = Z101 x ∧ True) ∧ Z100) ∧ Z103 x < Z103 t; (∃ (x : Z94), (Z38 ∧ Z21 ∧ Z21 ∧ Z27 = Z101 x ∧ True) ∧ Z100) ∧ ∀ (t : Z94), (Z138 t = true → (Z14 ≤ hd ∧ hd < Z16 ∧ Z14 ≤ Z96 t ∧ Z96 t < Z13) ∧ (Z38 ∧ Z129 t ∧ True) ∧ True ∧ (hasM hd (Z96 t) = true → ((Z52 ∧ Z53) ∧ Z1 < nat_lit 1000 ∧ ∀ (c : Cl), c ∈ cs → (Z14 ≤ Z43 c ∧ Z43 c ≤ (2 : Int)) ∧ (Z14 ≤ Z57 c ∧ Z57 c < Z13) ∧ (Z43 c ≠ Z14 → Z14 ≤ Z58 c ∧ Z58 c < Z13)) ∧ ((Z36 ∧ Z35 ∧ Z33 ∧ Z62) ∧ Z56 ∧ Z129 t ∧ True) ∧ Z46 ∧ (Z28 ∧ Z32 ∧ Z14 ≤ Z96 t ∧ Z96 t < Z13) ∧ (Z34 ∧ Z129 t ∧ True) ∧ True ∧ (Z132 t = true → True ∧ (Z69 ∧ True) ∧ Z51) ∧ (Z132 t = false → True ∧ Z143 t)) ∧ (hasM hd (Z96 t) = false → True ∧ Z143 t)) ∧ (Z138 t = false → (∃ (x : Z108), (Z38 ∧ Z21 ∧ Z21 ∧ Z27 = Value.int IntKind.i64 (Z112 x) ∧ True) ∧ Z100) ∧ ∀ (t : Z108), (Z140 t = true → (Z14 ≤ Z112 t ∧ Z112 t < Z23) ∧ Z117 t < List.length ks ∧ ((Z52 ∧ Z53) ∧ Z14 ≤ Z125 t ∧ Z125 t < Z13) ∧ (Z56 ∧ (Value.bool (Z120 t) = Value.bool (Z120 t) ∧ Value.int IntKind.i64 (Z125 t) = Value.int IntKind.i64 (Z125 t) ∧ Value.bool (Prod.snd (Z121 t)) = Value.bool (Prod.snd (Z121 t)) ∧ True) ∧ True) ∧ True ∧ ((!rightM Z3 (Z119 t)) = true → True ∧ (Z69 ∧ True) ∧ Z51) ∧ ((!rightM Z3 (Z119 t)) = false → True ∧ ∃ (x : Z108), ((Z38 ∧ Z21 ∧ Z21 ∧ Value.int IntKind.i64 (IntKind.wrap IntKind.i64 (Z112 t + Z15)) = Value.int IntKind.i64 (Z112 x) ∧ True) ∧ Z100) ∧ Z116 x < Z116 t)) ∧ (Z140 t = false → Z53 ∧ Z41 ∧ True ∧ True ∧ (Value.bool (decide (popM b ≤ li)) = Value.bool (isM Z61 hd Z3) ∧ True) ∧ Z51)))
    (by kernel_rfl) ?_
  simp only [eq_self, true_and, and_true, Int.toNat_natCast, Nat.zero_add, Nat.sub_zero, Value.int.injEq, Value.bool.injEq, decide_eq_true_eq, decide_eq_false_iff_not]
  obtain ⟨hh, hhd, ht⟩ := hx
  have hw : 0 ≤ w ∧ w ≤ 6 := hh.w
  have hks : ks.length ≤ 4 := hh.ks
  have hcs : cs.length ≤ 14 := hh.cs
  have getk : ∀ i, i < ks.length → ks.getD i dfW ∈ ks := fun i hi => by rw [List.getD_eq_getElem?_getD, List.getElem?_eq_getElem hi]; exact List.getElem_mem hi
  refine ⟨⟨⟨0, Nat.zero_le _, fun j hj => absurd hj (Nat.not_lt_zero _)⟩, rfl⟩, fun t => ⟨fun h => ?_, fun h => ?_⟩⟩
  · obtain ⟨i, hi, hb⟩ := t
    have hlt : i < w.toNat := by have h0 : (i : Int) < w := h; omega
    have hi6 : i < 6 := by omega
    have hsu : IntKind.i64.wrap ((i : Int) + 1) = ((i + 1 : Nat) : Int) := by rw [wrap_id (by omega) (by omega)]; rfl
    have hir : 0 ≤ (i : Int) ∧ (i : Int) < 6 := by omega
    have next : sayM (rtM ((f, w, li), cs, ks)) hd (a, b) i = true → ∃ x : { i : Nat // i ≤ w.toNat ∧ ∀ (k : Nat), k < i → sayM (rtM ((f, w, li), cs, ks)) hd (a, b) k = true }, IntKind.i64.wrap ((i : Int) + 1) = (x.1 : Int) ∧ w.toNat - x.1 < w.toNat - i :=
      fun hb2 => ⟨⟨i + 1, hlt, below_succ hb hb2⟩, hsu, dec1 hlt⟩
    have hst := sayM_told (x := ((f, w, li), cs, ks)) (hd := hd) (t := (a, b)) hi6
    refine ⟨⟨hhd.1, hhd.2, hir.1, hir.2⟩, fun h1 => ⟨⟨ht, by omega, okCl_of hh⟩, ⟨ht.2.1, ht.2.2, hir.1, hir.2⟩, fun h2 => ?_, fun h2 => next ?_⟩, fun h1 => next ?_⟩
    · refine isM_says (k := i) hlt ?_
      rw [hst]
      have h1' : hasM hd (i : Int) = true := h1
      have h2' : (toldM cs (a, b) (i : Int) == hasM b (i : Int)) = true := h2
      simp only [h1', h2']; rfl
    · rw [hst]
      have h2' : (toldM cs (a, b) (i : Int) == hasM b (i : Int)) = false := h2
      simp only [h2', Bool.and_false]; rfl
    · rw [hst]
      have h1' : hasM hd (i : Int) = false := h1
      simp only [h1', Bool.false_and]; rfl
  · have hall : ∀ k, k < w.toNat → sayM (rtM ((f, w, li), cs, ks)) hd (a, b) k = true := fun k hk => t.2.2 k (by omega)
    refine ⟨⟨⟨0, Nat.zero_le _, fun j hj => absurd hj (Nat.not_lt_zero _)⟩, rfl⟩, fun t => ⟨fun h => ?_, fun h => ?_⟩⟩
    · obtain ⟨i, hi, hb⟩ := t
      have hlt : i < ks.length := by have h0 : (i : Int) < ks.length := h; omega
      have hsu : IntKind.i64.wrap ((i : Int) + 1) = ((i + 1 : Nat) : Int) := by rw [wrap_id (by omega) (by omega)]; rfl
      refine ⟨⟨by show (0 : Int) ≤ (i : Int); omega, h⟩, hlt, ⟨ht, okW_of hh.f hh.w (hh.known _ (getk i hlt))⟩, fun h1 => ?_, fun h1 => ?_⟩
      · refine isM_known (j := i) hlt ?_
        have h1' : (!rightM (a, b) (ks.getD i dfW)) = true := h1
        simpa using h1'
      · have h1' : (!rightM (a, b) (ks.getD i dfW)) = false := h1
        exact ⟨⟨i + 1, hlt, below_succ hb (by simpa using h1')⟩, hsu, dec1 hlt⟩
    · have hk : ∀ j, j < ks.length → rightM (a, b) (ks.getD j dfW) = true := fun j hj => t.2.2 j (by omega)
      refine ⟨ht.2, ?_⟩
      by_cases hp : popM b ≤ li
      · rw [isM_true (x := rtM ((f, w, li), cs, ks)) (t := (a, b)) hp hall hk]; simp [hp]
      · rw [isM_big (x := rtM ((f, w, li), cs, ks)) (t := (a, b)) (by show popM b > li; omega)]; simp [hp]

theorem isR_sound : Sound Try.prog 41 isRS.con := FSpec.sound _ (enter_of Try.func41 (by kernel_rfl) (by kernel_rfl)) isR_ok

/-! ### All -/
def allRS : FSpec UU where
  X := HT × Int
  pick := fun args H => match args with
    | [a, b] => match avH H a, avInt b with
      | some a, some b => some (a, b)
      | _, _ => none
    | _ => none
  args := fun x => [vH x.1, .i x.2]
  H := fun x => hH x.1
  R := fun x => .val ⟨.gs 2 0, [], [], [.row .rtruth (allM (rtM x.1) x.2) 48]⟩
  pre := fun x => HearOk x.1 ∧ (0 ≤ x.2 ∧ x.2 < 64)
def allRL1 (x : HT) (hd : Int) : LSpec UU where
  T := { a : Nat // a ≤ 2 ^ x.1.1.toNat }
  fr := fun a => [(1, .i hd), (2, .ptr 2 0 0 0), (5, .gs 3 0), (6, .i a.1)]
  H := fun a => hH x ++ [.one (boxM x), .one (.row .rtruth (preM (rtM x) hd a.1 0) 48)]
  mu := fun a => 2 ^ x.1.1.toNat - a.1
def allRL2 (x : HT) (hd : Int) : LSpec UU where
  T := { p : Nat × Nat // p.1 < 2 ^ x.1.1.toNat ∧ p.2 ≤ 2 ^ x.1.2.1.toNat }
  fr := fun p => [(1, .i hd), (2, .ptr 2 0 0 0), (5, .gs 3 0), (6, .i p.1.1), (7, .i p.1.2)]
  H := fun p => hH x ++ [.one (boxM x), .one (.row .rtruth (preM (rtM x) hd p.1.1 p.1.2) 48)]
  mu := fun p => 2 ^ x.1.2.1.toNat - p.1.2
def allRLs (x : HT) (hd : Int) (k : Nat) : Option (LRule UU) :=
  match k with
  | 3 => some (.inv (allRL1 x hd))
  | 6 => some (.invR (allRL2 x hd) fun a b => b.1.1 = a.1.1)
  | _ => none
def TallR : Tab UU := [(77, powerS.con), (41, isRS.con)]
theorem TallR_ok : TallR.Sound Try.prog := .cons power_sound (.cons isR_sound .nil)
set_option maxHeartbeats 0 in
set_option maxRecDepth 100000 in
theorem allR_ok : ∀ x, allRS.pre x → FunOk Try.prog 52 (allRS.args x) (allRS.H x) (allRS.R x) := by
  rintro ⟨⟨⟨f, w, li⟩, cs, ks⟩, hd⟩ hx
  refine fun_of (T := TallR) (L := allRLs ((f, w, li), cs, ks) hd) (hs := fun _ => []) hmix TallR_ok Try.func52 (by kernel_rfl) (by kernel_rfl) ?_
  refine Eq.mp (α :=
      let Z7 := Value.int IntKind.i64 f; let Z8 := Value.int IntKind.i64 w; let Z9 := Value.int IntKind.i64 li; let Z10 := Value.int IntKind.i64 hd; let Z12 := (1 : Int); let Z13 := (0 : Int); let Z14 := (40 : Int); let Z15 := (64 : Int); let Z16 := []; let Z17 := (0 : Nat); let Z18 := Value.slice none (nat_lit 0) (nat_lit 0); let Z19 := (2 : Nat); let Z20 := ks = ks; let Z21 := cs = cs; let Z23 := (48 : TypeId); let Z24 := nat_lit 0 = nat_lit 0 ∧ nat_lit 0 = nat_lit 0 ∧ nat_lit 0 = nat_lit 0; let Z28 := Value.int IntKind.i64 Z13; let Z30 := Z10 = Z10; let Z35 := nat_lit 2 ^ Int.toNat f; let Z36 := nat_lit 2 ^ Int.toNat w; let Z39 := Z23 = Z23; let Z43 := ((f, w, li), cs, ks); let Z44 := rtM Z43; let Z46 := Prod.fst Z43; let Z54 := Z19 ^ Int.toNat (Prod.fst Z46); let Z57 := Z7 = Z7 ∧ Z8 = Z8 ∧ Z9 = Z9 ∧ (nat_lit 0 = nat_lit 0 ∧ nat_lit 0 = nat_lit 0 ∧ List.length cs = List.length cs) ∧ (nat_lit 0 = nat_lit 0 ∧ nat_lit 0 = nat_lit 0 ∧ List.length ks = List.length ks) ∧ True; let Z59 : Type := { a : Nat // a ≤ Z54 }; let Z60 := fun (x : Z59) => Subtype.val x; let Z62 := fun (x : Z59) => (↑(Z60 x) : Int); let Z63 := fun (x : Z59) => Value.int IntKind.i64 (Z62 x); let Z64 := fun (x : Z59) => Z35 - Z60 x; let Z69 : Type := { p : Nat × Nat // Prod.fst p < Z54 ∧ Prod.snd p ≤ Z19 ^ Int.toNat (Prod.fst (Prod.snd Z46)) }; let Z70 := fun (x : Z69) => Subtype.val x; let Z71 := fun (x : Z69) => Prod.fst (Z70 x); let Z72 := fun (x : Z69) => Prod.snd (Z70 x); let Z73 := fun (x : Z69) => (↑(Z72 x) : Int); let Z74 := fun (x : Z69) => (↑(Z71 x) : Int); let Z75 := fun (x : Z69) => Value.int IntKind.i64 (Z73 x); let Z76 := fun (x : Z69) => Value.int IntKind.i64 (Z74 x); let Z80 := fun (t : Z69) => Z73 t + Z12; let Z81 := fun (x : Z69) => Z36 - Z72 x; let Z85 := fun (t : Z59) => decide (Z62 t < (↑Z35 : Int)); let Z87 := fun (t : Z69) => (Z74 t, Z73 t); let Z90 := fun (x : Z69) => preM Z44 hd (Z71 x) (Z72 x); let Z96 := fun (t : Z69) => decide (Z73 t < (↑Z36 : Int)); (∃ (x : Z59), (True ∧ True ∧ nat_lit 0 = nat_lit 0 ∧ True ∧ True) ∧ (True ∧ True ∧ (True ∧ True ∧ True ∧ True ∧ True ∧ True) ∧ preM Z44 hd (Z60 x) (nat_lit 0) = Z16 ∧ True) ∧ (Z30 ∧ Z24 ∧ Z18 = Z18 ∧ Z28 = Z63 x ∧ True) ∧ True ∧ Z21 ∧ Z20 ∧ Z57 ∧ True ∧ True) ∧ ∀ (t : Z59), (Z13 ≤ f ∧ f ≤ Z14) ∧ (Z7 = Z7 ∧ True) ∧ True ∧ (Z85 t = true → ∃ (x : Z69), ((Z30 ∧ Z24 ∧ nat_lit 0 = nat_lit 0 ∧ Z63 t = Z76 x ∧ Z28 = Z75 x ∧ True) ∧ True ∧ Z21 ∧ Z20 ∧ Z57 ∧ (Z39 ∧ preM Z44 hd (Z60 t) Z17 = Z90 x) ∧ True) ∧ Z71 x = Z71 x ∧ ∀ (t_1 : Z69), Z71 t_1 = Z71 x → (Z13 ≤ w ∧ w ≤ Z14) ∧ (Z8 = Z8 ∧ True) ∧ True ∧ (Z96 t_1 = true → (HearOk Z43 ∧ (Z13 ≤ hd ∧ hd < Z15) ∧ (Z13 ≤ Z74 t_1 ∧ Z74 t_1 < Z15) ∧ Z13 ≤ Z73 t_1 ∧ Z73 t_1 < Z15) ∧ (Z57 ∧ Z30 ∧ (Z76 t_1 = Z76 t_1 ∧ Z75 t_1 = Z75 t_1 ∧ True) ∧ True) ∧ (Z21 ∧ Z20 ∧ True) ∧ (isM Z44 hd (Z87 t_1) = true → (nat_lit 1 = nat_lit 1 ∧ some [AV.v (Z76 t_1), AV.v (Z75 t_1)] = some [AV.v (Z76 t_1), AV.v (Z75 t_1)]) ∧ nat_lit 1 ≤ nat_lit 1 ∧ List.length (Z90 t_1) + nat_lit 1 ≤ nat_lit 1099511627776 ∧ True ∧ ∃ (x_1 : Z69), ((Z30 ∧ Z24 ∧ nat_lit 0 = nat_lit 0 ∧ Z76 t_1 = Z76 x_1 ∧ Value.int IntKind.i64 (IntKind.wrap IntKind.i64 (Z80 t_1)) = Z75 x_1 ∧ True) ∧ True ∧ Z21 ∧ Z20 ∧ Z57 ∧ (nat_lit 48 = Z23 ∧ Z90 t_1 ++ List.take (1 : Nat) (List.drop Z17 (Z87 t_1 :: Z16)) = Z90 x_1) ∧ True) ∧ Z81 x_1 < Z81 t_1 ∧ Z71 x_1 = Z71 x) ∧ (isM Z44 hd (Z87 t_1) = false → True ∧ ∃ (x_1 : Z69), ((Z30 ∧ Z24 ∧ nat_lit 0 = nat_lit 0 ∧ Z76 t_1 = Z76 x_1 ∧ Value.int IntKind.i64 (IntKind.wrap IntKind.i64 (Z80 t_1)) = Z75 x_1 ∧ True) ∧ True ∧ Z21 ∧ Z20 ∧ Z57 ∧ (Z39 ∧ Z90 t_1 = Z90 x_1) ∧ True) ∧ Z81 x_1 < Z81 t_1 ∧ Z71 x_1 = Z71 x)) ∧ (Z96 t_1 = false → True ∧ ∃ (x : Z59), ((Z30 ∧ Z24 ∧ nat_lit 0 = nat_lit 0 ∧ Value.int IntKind.i64 (IntKind.wrap IntKind.i64 (Z74 t_1 + Z12)) = Z63 x ∧ True) ∧ True ∧ Z21 ∧ Z20 ∧ Z57 ∧ (Z39 ∧ Z90 t_1 = preM Z44 hd (Z60 x) (nat_lit 0)) ∧ True) ∧ Z64 x < Z64 t)) ∧ (Z85 t = false → True ∧ (nat_lit 0 = nat_lit 0 ∧ True) ∧ True ∧ Z21 ∧ Z20 ∧ (Z39 ∧ preM Z44 hd (Z60 t) Z17 = allM Z44 hd) ∧ True))
    (by kernel_rfl) ?_
  simp only [eq_self, true_and, and_true, Int.toNat_natCast, Nat.zero_add, Nat.sub_zero, Value.int.injEq, Value.bool.injEq, decide_eq_true_eq, decide_eq_false_iff_not]
  obtain ⟨hh, hhd⟩ := hx
  have hf : 0 ≤ f ∧ f ≤ 6 := hh.f
  have hw : 0 ≤ w ∧ w ≤ 6 := hh.w
  have hF := pow64 f.toNat (by omega)
  have hW := pow64 w.toNat (by omega)
  have hrt := rt_ok hh
  have hsu : ∀ i : Nat, i < 64 → IntKind.i64.wrap ((i : Int) + 1) = ((i + 1 : Nat) : Int) := fun i hi => by rw [wrap_id (by omega) (by omega)]; rfl
  refine ⟨⟨⟨0, Nat.zero_le _⟩, preM_zero _ _, rfl⟩, fun t => ⟨⟨hf.1, by omega⟩, fun h => ?_, fun h => ?_⟩⟩
  · obtain ⟨a, ha⟩ := t
    have hlt : a < 2 ^ f.toNat := by exact_mod_cast h
    refine ⟨⟨(a, 0), hlt, Nat.zero_le _⟩, ⟨⟨rfl, rfl⟩, rfl⟩, ?_⟩
    rintro ⟨⟨a1, b⟩, ha1, hb⟩ hr1
    have hr1' : a1 = a := hr1
    subst hr1'
    refine ⟨⟨hw.1, by omega⟩, fun h1 => ?_, fun h1 => ?_⟩
    · have hbl : b < 2 ^ w.toNat := by
        have h2 : (b : Int) < ((2 ^ w.toNat : Nat) : Int) := h1
        exact_mod_cast h2
      have hpl := preM_length _ hrt hd a1 b (by omega) (by omega)
      refine ⟨⟨hh, hhd, ⟨by show (0 : Int) ≤ (a1 : Int); omega, by show (a1 : Int) < 64; omega⟩, ⟨by show (0 : Int) ≤ (b : Int); omega, by show (b : Int) < 64; omega⟩⟩, fun hy => ?_, fun hn => ?_⟩
      · exact ⟨Nat.le_refl _, Nat.le_trans (Nat.add_le_add_right hpl 1) (by decide), ⟨(a1, b + 1), ha1, hbl⟩, ⟨⟨rfl, hsu b (by omega)⟩, (preM_yes _ _ _ _ hy).symm⟩, dec1 hbl, rfl⟩
      · exact ⟨⟨(a1, b + 1), ha1, hbl⟩, ⟨⟨rfl, hsu b (by omega)⟩, (preM_no _ _ _ _ hn).symm⟩, dec1 hbl, rfl⟩
    · have hbl : b = 2 ^ w.toNat := by
        have h3 : ¬ b < 2 ^ w.toNat := by intro h; exact h1 (by exact_mod_cast h)
        have : b ≤ 2 ^ w.toNat := hb
        omega
      subst hbl
      exact ⟨⟨a1 + 1, hlt⟩, ⟨hsu a1 (by omega), preM_line _ _ _⟩, dec1 hlt⟩
  · have hta : t.1 = 2 ^ f.toNat := by
      have h3 : ¬ t.1 < 2 ^ f.toNat := by intro h0; exact h (by exact_mod_cast h0)
      have : t.1 ≤ 2 ^ f.toNat := t.2
      omega
    rw [hta]; rfl

theorem allR_sound : Sound Try.prog 52 allRS.con := FSpec.sound _ (enter_of Try.func52 (by kernel_rfl) (by kernel_rfl)) allR_ok
end AE.Pr
