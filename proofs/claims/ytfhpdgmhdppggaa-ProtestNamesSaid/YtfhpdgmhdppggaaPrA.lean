/- The layer 'protest': small functions. No condition. -/
import Derived.Test.YtfhpdgmhdppggaaPrU
import Derived.IntWalk
namespace AE.Pr
open Go AE Go.Proofs

theorem hmix : Try.prog.follows .mixedOrders = true := by kernel_rfl
theorem wrap_id {x : Int} (h1 : -9223372036854775808 ≤ x) (h2 : x ≤ 9223372036854775807) : IntKind.i64.wrap x = x := IntWalk.i64_in x ⟨h1, h2⟩
abbrev W (x : Int) : Int := IntKind.wrap IntKind.i64 x

/-! ### reading arguments -/
def avU : AV → Option Int
  | .v (.int .u64 n) => some n
  | _ => none
def avW : AV → Option W3
  | .agg [a, b, c] => match avBool a, avInt b, avBool c with
    | some a, some b, some c => some (a, b, c)
    | _, _, _ => none
  | _ => none
def vW (w : W3) : AV := .agg [.b w.1, .i w.2.1, .b w.2.2]
def vT (t : Int × Int) : AV := .agg [AV.u t.1, AV.u t.2]
def avT : AV → Option (Int × Int)
  | .agg [a, b] => match avU a, avU b with
    | some a, some b => some (a, b)
    | _, _ => none
  | _ => none
def sliceAt (c : CC) (H : Heap UU) : AV → Option (List (c.ty))
  | .v (.slice none 0 0) => some []
  | .gs id k => rowAt (U := UU) c H id k
  | .sl id k _ _ => match Nat.beq id noId with
    | true => some []
    | false => rowAt (U := UU) c H id k
  | _ => none

/-! ### within -/
def inM (n lo hi : Int) : Bool := decide (lo ≤ n) && decide (n ≤ hi)
def withinS : FSpec UU where
  X := Int × Int × Int
  pick := fun args _ => match args with
    | [a, b, c] => match avInt a, avInt b, avInt c with
      | some a, some b, some c => some (a, b, c)
      | _, _, _ => none
    | _ => none
  args := fun x => [.i x.1, .i x.2.1, .i x.2.2]
  H := fun _ => []
  R := fun x => .val ⟨.b (inM x.1 x.2.1 x.2.2), [], [], []⟩
theorem within_ok : ∀ x, withinS.pre x → FunOk Try.prog 86 (withinS.args x) (withinS.H x) (withinS.R x) := by
  rintro ⟨n, lo, hi⟩ _
  refine fun_of (T := []) (L := fun _ => none) (hs := fun _ => []) hmix .nil Try.func86 (by kernel_rfl) (by kernel_rfl) ?_
  refine Eq.mp (α :=
      (decide (lo ≤ n) = true → True ∧ (Value.bool (decide (n ≤ hi)) = Value.bool (inM n lo hi) ∧ True) ∧ True ∧ True) ∧ (decide (lo ≤ n) = false → True ∧ (Value.bool (inM n lo hi) = Value.bool false ∧ True) ∧ True ∧ True))
    (by kernel_rfl) ?_
  simp only [inM]
  simp +contextual
  omega

theorem within_sound : Sound Try.prog 86 withinS.con := FSpec.sound _ (enter_of Try.func86 (by kernel_rfl) (by kernel_rfl)) within_ok

/-! ### need -/
def failV (e : Int) : AV := .ifc 112 (.agg [.i e])
def needS : FSpec2 UU where
  X := Bool × Int
  pick := fun args _ => match args with
    | [a, b] => match avBool a, avInt b with
      | some a, some b => some (a, b)
      | _, _ => none
    | _ => none
  args := fun x => [.v (.bool x.1), .i x.2]
  H := fun _ => []
  c := fun x => x.1
  R := fun _ => .val ⟨.tup [], [], [], []⟩
  R' := fun x => .panic (failV x.2)
set_option maxRecDepth 100000 in
theorem need_ok1 : ∀ x, needS.pre x → needS.c x = true → FunOk Try.prog 68 (needS.args x) (needS.H x) (needS.R x) := by
  rintro ⟨b, e⟩ _ hb
  refine fun_of (T := []) (L := fun _ => none) (hs := fun _ => []) hmix .nil Try.func68 (by kernel_rfl) (by kernel_rfl) ?_
  refine Eq.mp (α :=
      ((!b) = true → False) ∧ ((!b) = false → True ∧ (True ∧ True) ∧ True ∧ True))
    (by kernel_rfl) ?_
  simp only [needS] at hb
  simp [hb]

set_option maxRecDepth 100000 in
theorem need_ok2 : ∀ x, needS.pre x → needS.c x = false → FunOk Try.prog 68 (needS.args x) (needS.H x) (needS.R' x) := by
  rintro ⟨b, e⟩ _ hb
  refine fun_of (T := []) (L := fun _ => none) (hs := fun _ => []) hmix .nil Try.func68 (by kernel_rfl) (by kernel_rfl) ?_
  refine Eq.mp (α :=
      ((!b) = true → True ∧ (112 : Nat) = (112 : TypeId) ∧ Value.int IntKind.i64 e = Value.int IntKind.i64 e ∧ True) ∧ ((!b) = false → False))
    (by kernel_rfl) ?_
  simp only [needS] at hb
  simp [hb]

theorem need_sound : Sound Try.prog 68 needS.con := FSpec2.sound _ (enter_of Try.func68 (by kernel_rfl) (by kernel_rfl)) fun x h => ⟨need_ok1 x h, need_ok2 x h⟩

/-! ### caught -/
def caughtS : FSpec UU where
  X := Option Int × Int
  pick := fun args H => match args with
    | [a, .ptr id 0 0 0] => match blkAt H id 0 with
      | some (.cells [o] _) => match avInt o with
        | some o => match a with
          | .v .nilIface => some (none, o)
          | .ifc _ (.agg [e]) => match avInt e with
            | some e => some (some e, o)
            | none => none
          | _ => none
        | none => none
      | _ => none
    | _ => none
  args := fun x => match x.1 with
    | none => [.v .nilIface, .ptr 0 0 0 0]
    | some e => [failV e, .ptr 0 0 0 0]
  H := fun x => [.one (.cells [.i x.2] 30)]
  R := fun x => match x.1 with
    | none => .val ⟨.tup [], [(0, 0, .cells [.i x.2] 30)], [], []⟩
    | some e => .val ⟨.tup [], [(0, 0, .cells [.i e] 30)], [], []⟩
set_option maxRecDepth 100000 in
theorem caught_ok1 (o : Int) : FunOk Try.prog 48 (caughtS.args (none, o)) (caughtS.H (none, o)) (caughtS.R (none, o)) := by
  refine fun_of (T := []) (L := fun _ => none) (hs := fun _ => []) hmix .nil Try.func48 (by kernel_rfl) (by kernel_rfl) ?_
  refine Eq.mp (α :=
      (true = true → True ∧ (True ∧ True) ∧ True ∧ (Value.int IntKind.i64 o = Value.int IntKind.i64 o ∧ True) ∧ True) ∧ (true = false → False))
    (by kernel_rfl) ?_
  simp

set_option maxRecDepth 100000 in
theorem caught_ok2 (e o : Int) : FunOk Try.prog 48 (caughtS.args (some e, o)) (caughtS.H (some e, o)) (caughtS.R (some e, o)) := by
  refine fun_of (T := []) (L := fun _ => none) (hs := fun _ => []) hmix .nil Try.func48 (by kernel_rfl) (by kernel_rfl) ?_
  refine Eq.mp (α :=
      True ∧ (True ∧ True) ∧ True ∧ (Value.int IntKind.i64 e = Value.int IntKind.i64 e ∧ True) ∧ True)
    (by kernel_rfl) ?_
  simp

theorem caught_sound : Sound Try.prog 48 caughtS.con := FSpec.sound _ (enter_of Try.func48 (by kernel_rfl) (by kernel_rfl)) fun x _ => match x with
  | (none, o) => caught_ok1 o
  | (some e, o) => caught_ok2 e o

theorem enter48 : ∀ args w, (callFunc 48 args).run Try.prog w = .ok (.enter 48 args) w := enter_of Try.func48 (by kernel_rfl) (by kernel_rfl)
theorem told47 : ToldOk Try.prog 47 48 := told_of Try.func47 (enter_of Try.func47 (by kernel_rfl) (by kernel_rfl)) enter48 rfl rfl rfl rfl rfl rfl rfl rfl
theorem told53 : ToldOk Try.prog 53 48 := told_of Try.func53 (enter_of Try.func53 (by kernel_rfl) (by kernel_rfl)) enter48 rfl rfl rfl rfl rfl rfl rfl rfl
theorem told59 : ToldOk Try.prog 59 48 := told_of Try.func59 (enter_of Try.func59 (by kernel_rfl) (by kernel_rfl)) enter48 rfl rfl rfl rfl rfl rfl rfl rfl
theorem told61 : ToldOk Try.prog 61 48 := told_of Try.func61 (enter_of Try.func61 (by kernel_rfl) (by kernel_rfl)) enter48 rfl rfl rfl rfl rfl rfl rfl rfl
theorem told64 : ToldOk Try.prog 64 48 := told_of Try.func64 (enter_of Try.func64 (by kernel_rfl) (by kernel_rfl)) enter48 rfl rfl rfl rfl rfl rfl rfl rfl
theorem told70 : ToldOk Try.prog 70 48 := told_of Try.func70 (enter_of Try.func70 (by kernel_rfl) (by kernel_rfl)) enter48 rfl rfl rfl rfl rfl rfl rfl rfl
def toldL (n : Nat) (k : Nat) : Option FuncId := match Nat.beq n k with
  | true => some 48
  | false => none
theorem toldL_ok {n : Nat} (h : ToldOk Try.prog n 48) : ∀ k f, toldL n k = some f → ToldOk Try.prog k f := by
  intro k f hk
  unfold toldL at hk
  split at hk
  · rename_i e; have := Nat.eq_of_beq_eq_true e; subst this; cases hk; exact h
  · cases hk

/-! ### has, size -/
def hasM (a n : Int) : Bool := a.toNat.testBit n.toNat
def hasS : FSpec UU where
  X := Int × Int
  pick := fun args _ => match args with
    | [a, b] => match avU a, avInt b with
      | some a, some b => some (a, b)
      | _, _ => none
    | _ => none
  args := fun x => [AV.u x.1, .i x.2]
  H := fun _ => []
  R := fun x => .val ⟨.b (hasM x.1 x.2), [], [], []⟩
  pre := fun x => 0 ≤ x.1 ∧ x.1 < 64 ∧ 0 ≤ x.2 ∧ x.2 < 64
theorem has_math (a n : Int) (h : 0 ≤ a ∧ a < 64 ∧ 0 ≤ n ∧ n < 64) : (IntKind.u64.wrap (BitVec.ofInt 64 (a.fdiv (2 ^ min n.toNat 64)) &&& BitVec.ofInt 64 1).toNat == 1) = hasM a n := by
  obtain ⟨h1, h2, h3, h4⟩ := h
  obtain ⟨a, rfl⟩ := Int.eq_ofNat_of_zero_le h1
  obtain ⟨n, rfl⟩ := Int.eq_ofNat_of_zero_le h3
  have hn : min (Int.toNat (n : Int)) 64 = n := by simp; omega
  rw [hn]
  have hd : ((a : Int).fdiv (2 ^ n)) = ((a / 2 ^ n : Nat) : Int) := by
    rw [Int.fdiv_eq_ediv_of_nonneg _ (by exact_mod_cast Nat.zero_le _)]; simp
  rw [hd]
  simp only [hasM, Int.toNat_natCast]
  have hlt : a / 2 ^ n < 64 := Nat.lt_of_le_of_lt (Nat.div_le_self _ _) (by omega)
  have ht : a.testBit n = decide (a / 2 ^ n % 2 = 1) := by rw [Nat.testBit_eq_decide_div_mod_eq]
  rw [ht]
  generalize a / 2 ^ n = m at hlt
  have : ∀ m : Fin 64, (IntKind.u64.wrap (BitVec.ofInt 64 ((m.val : Nat) : Int) &&& BitVec.ofInt 64 1).toNat == 1) = decide (m.val % 2 = 1) := by decide +kernel
  exact this ⟨m, hlt⟩

set_option maxRecDepth 100000 in
theorem has_ok : ∀ x, hasS.pre x → FunOk Try.prog 83 (hasS.args x) (hasS.H x) (hasS.R x) := by
  rintro ⟨a, n⟩ h
  refine fun_of (T := []) (L := fun _ => none) (hs := fun _ => []) hmix .nil Try.func83 (by kernel_rfl) (by kernel_rfl) ?_
  refine Eq.mp (α :=
      (0 : Int) ≤ n ∧ True ∧ (Value.bool (IntKind.wrap IntKind.u64 (↑(BitVec.toNat (BitVec.ofInt (nat_lit 64) (Int.fdiv a ((2 : Int) ^ min (Int.toNat n) (nat_lit 64))) &&& BitVec.ofInt (nat_lit 64) (1 : Int))) : Int) == (1 : Int)) = Value.bool (hasM a n) ∧ True) ∧ True ∧ True)
    (by kernel_rfl) ?_
  exact ⟨h.2.2.1, trivial, ⟨congrArg Value.bool (has_math a n h), trivial⟩, trivial, trivial⟩

theorem has_sound : Sound Try.prog 83 hasS.con := FSpec.sound _ (enter_of Try.func83 (by kernel_rfl) (by kernel_rfl)) has_ok

set_option maxRecDepth 100000 in
theorem hasF_ok : ∀ x, hasS.pre x → FunOk Try.prog 87 (hasS.args x) (hasS.H x) (hasS.R x) := by
  rintro ⟨a, n⟩ h
  refine fun_of (T := []) (L := fun _ => none) (hs := fun _ => []) hmix .nil Try.func87 (by kernel_rfl) (by kernel_rfl) ?_
  refine Eq.mp (α :=
      (0 : Int) ≤ n ∧ True ∧ (Value.bool (IntKind.wrap IntKind.u64 (↑(BitVec.toNat (BitVec.ofInt (nat_lit 64) (Int.fdiv a ((2 : Int) ^ min (Int.toNat n) (nat_lit 64))) &&& BitVec.ofInt (nat_lit 64) (1 : Int))) : Int) == (1 : Int)) = Value.bool (hasM a n) ∧ True) ∧ True ∧ True)
    (by kernel_rfl) ?_
  exact ⟨h.2.2.1, trivial, ⟨congrArg Value.bool (has_math a n h), trivial⟩, trivial, trivial⟩

theorem hasF_sound : Sound Try.prog 87 hasS.con := FSpec.sound _ (enter_of Try.func87 (by kernel_rfl) (by kernel_rfl)) hasF_ok

/-- How many are in a set. -/
def popM (a : Int) : Int := ((List.range 6).filter fun i => a.toNat.testBit i).length
def popS : FSpec UU where
  X := Int
  pick := fun args _ => match args with
    | [a] => avU a
    | _ => none
  args := fun x => [AV.u x]
  H := fun _ => []
  R := fun x => .val ⟨.i (popM x), [], [], []⟩
  pre := fun (x : Int) => 0 ≤ x ∧ x < 64
set_option maxRecDepth 100000 in
theorem ones64_ok : ∀ x, popS.pre x → FunOk Try.prog 95 (popS.args x) (popS.H x) (popS.R x) := by
  intro (x : Int) h
  refine fun_of (T := []) (L := fun _ => none) (hs := fun _ => []) hmix .nil Try.func95 (by kernel_rfl) (by kernel_rfl) ?_
  refine Eq.mp (α :=
      (0 : Int) ≤ (1 : Int) ∧ (0 : Int) ≤ (2 : Int) ∧ (0 : Int) ≤ (4 : Int) ∧ (0 : Int) ≤ (8 : Int) ∧ (0 : Int) ≤ (16 : Int) ∧ (0 : Int) ≤ (32 : Int) ∧ True ∧ (Value.int IntKind.i64 (IntKind.wrap IntKind.i64 (↑(BitVec.toNat (BitVec.ofInt (nat_lit 64) (IntKind.wrap IntKind.i64 (IntKind.wrap IntKind.u64 (IntKind.wrap IntKind.u64 (IntKind.wrap IntKind.u64 (IntKind.wrap IntKind.u64 (↑(BitVec.toNat (BitVec.ofInt (nat_lit 64) (IntKind.wrap IntKind.u64 (Int.fdiv (IntKind.wrap IntKind.u64 (IntKind.wrap IntKind.u64 (↑(BitVec.toNat (BitVec.ofInt (nat_lit 64) (Int.fdiv (IntKind.wrap IntKind.u64 (IntKind.wrap IntKind.u64 (↑(BitVec.toNat (BitVec.ofInt (nat_lit 64) (Int.fdiv x ((2 : Int) ^ nat_lit 1)) &&& BitVec.ofInt (nat_lit 64) (6148914691236517205 : Int))) : Int) + IntKind.wrap IntKind.u64 (↑(BitVec.toNat (BitVec.ofInt (nat_lit 64) x &&& BitVec.ofInt (nat_lit 64) (6148914691236517205 : Int))) : Int))) ((2 : Int) ^ nat_lit 2)) &&& BitVec.ofInt (nat_lit 64) (3689348814741910323 : Int))) : Int) + IntKind.wrap IntKind.u64 (↑(BitVec.toNat (BitVec.ofInt (nat_lit 64) (IntKind.wrap IntKind.u64 (IntKind.wrap IntKind.u64 (↑(BitVec.toNat (BitVec.ofInt (nat_lit 64) (Int.fdiv x ((2 : Int) ^ nat_lit 1)) &&& BitVec.ofInt (nat_lit 64) (6148914691236517205 : Int))) : Int) + IntKind.wrap IntKind.u64 (↑(BitVec.toNat (BitVec.ofInt (nat_lit 64) x &&& BitVec.ofInt (nat_lit 64) (6148914691236517205 : Int))) : Int))) &&& BitVec.ofInt (nat_lit 64) (3689348814741910323 : Int))) : Int))) ((2 : Int) ^ nat_lit 4) + IntKind.wrap IntKind.u64 (IntKind.wrap IntKind.u64 (↑(BitVec.toNat (BitVec.ofInt (nat_lit 64) (Int.fdiv (IntKind.wrap IntKind.u64 (IntKind.wrap IntKind.u64 (↑(BitVec.toNat (BitVec.ofInt (nat_lit 64) (Int.fdiv x ((2 : Int) ^ nat_lit 1)) &&& BitVec.ofInt (nat_lit 64) (6148914691236517205 : Int))) : Int) + IntKind.wrap IntKind.u64 (↑(BitVec.toNat (BitVec.ofInt (nat_lit 64) x &&& BitVec.ofInt (nat_lit 64) (6148914691236517205 : Int))) : Int))) ((2 : Int) ^ nat_lit 2)) &&& BitVec.ofInt (nat_lit 64) (3689348814741910323 : Int))) : Int) + IntKind.wrap IntKind.u64 (↑(BitVec.toNat (BitVec.ofInt (nat_lit 64) (IntKind.wrap IntKind.u64 (IntKind.wrap IntKind.u64 (↑(BitVec.toNat (BitVec.ofInt (nat_lit 64) (Int.fdiv x ((2 : Int) ^ nat_lit 1)) &&& BitVec.ofInt (nat_lit 64) (6148914691236517205 : Int))) : Int) + IntKind.wrap IntKind.u64 (↑(BitVec.toNat (BitVec.ofInt (nat_lit 64) x &&& BitVec.ofInt (nat_lit 64) (6148914691236517205 : Int))) : Int))) &&& BitVec.ofInt (nat_lit 64) (3689348814741910323 : Int))) : Int)))) &&& BitVec.ofInt (nat_lit 64) (1085102592571150095 : Int))) : Int) + Int.fdiv (IntKind.wrap IntKind.u64 (↑(BitVec.toNat (BitVec.ofInt (nat_lit 64) (IntKind.wrap IntKind.u64 (Int.fdiv (IntKind.wrap IntKind.u64 (IntKind.wrap IntKind.u64 (↑(BitVec.toNat (BitVec.ofInt (nat_lit 64) (Int.fdiv (IntKind.wrap IntKind.u64 (IntKind.wrap IntKind.u64 (↑(BitVec.toNat (BitVec.ofInt (nat_lit 64) (Int.fdiv x ((2 : Int) ^ nat_lit 1)) &&& BitVec.ofInt (nat_lit 64) (6148914691236517205 : Int))) : Int) + IntKind.wrap IntKind.u64 (↑(BitVec.toNat (BitVec.ofInt (nat_lit 64) x &&& BitVec.ofInt (nat_lit 64) (6148914691236517205 : Int))) : Int))) ((2 : Int) ^ nat_lit 2)) &&& BitVec.ofInt (nat_lit 64) (3689348814741910323 : Int))) : Int) + IntKind.wrap IntKind.u64 (↑(BitVec.toNat (BitVec.ofInt (nat_lit 64) (IntKind.wrap IntKind.u64 (IntKind.wrap IntKind.u64 (↑(BitVec.toNat (BitVec.ofInt (nat_lit 64) (Int.fdiv x ((2 : Int) ^ nat_lit 1)) &&& BitVec.ofInt (nat_lit 64) (6148914691236517205 : Int))) : Int) + IntKind.wrap IntKind.u64 (↑(BitVec.toNat (BitVec.ofInt (nat_lit 64) x &&& BitVec.ofInt (nat_lit 64) (6148914691236517205 : Int))) : Int))) &&& BitVec.ofInt (nat_lit 64) (3689348814741910323 : Int))) : Int))) ((2 : Int) ^ nat_lit 4) + IntKind.wrap IntKind.u64 (IntKind.wrap IntKind.u64 (↑(BitVec.toNat (BitVec.ofInt (nat_lit 64) (Int.fdiv (IntKind.wrap IntKind.u64 (IntKind.wrap IntKind.u64 (↑(BitVec.toNat (BitVec.ofInt (nat_lit 64) (Int.fdiv x ((2 : Int) ^ nat_lit 1)) &&& BitVec.ofInt (nat_lit 64) (6148914691236517205 : Int))) : Int) + IntKind.wrap IntKind.u64 (↑(BitVec.toNat (BitVec.ofInt (nat_lit 64) x &&& BitVec.ofInt (nat_lit 64) (6148914691236517205 : Int))) : Int))) ((2 : Int) ^ nat_lit 2)) &&& BitVec.ofInt (nat_lit 64) (3689348814741910323 : Int))) : Int) + IntKind.wrap IntKind.u64 (↑(BitVec.toNat (BitVec.ofInt (nat_lit 64) (IntKind.wrap IntKind.u64 (IntKind.wrap IntKind.u64 (↑(BitVec.toNat (BitVec.ofInt (nat_lit 64) (Int.fdiv x ((2 : Int) ^ nat_lit 1)) &&& BitVec.ofInt (nat_lit 64) (6148914691236517205 : Int))) : Int) + IntKind.wrap IntKind.u64 (↑(BitVec.toNat (BitVec.ofInt (nat_lit 64) x &&& BitVec.ofInt (nat_lit 64) (6148914691236517205 : Int))) : Int))) &&& BitVec.ofInt (nat_lit 64) (3689348814741910323 : Int))) : Int)))) &&& BitVec.ofInt (nat_lit 64) (1085102592571150095 : Int))) : Int)) ((2 : Int) ^ nat_lit 8)) + Int.fdiv (IntKind.wrap IntKind.u64 (IntKind.wrap IntKind.u64 (↑(BitVec.toNat (BitVec.ofInt (nat_lit 64) (IntKind.wrap IntKind.u64 (Int.fdiv (IntKind.wrap IntKind.u64 (IntKind.wrap IntKind.u64 (↑(BitVec.toNat (BitVec.ofInt (nat_lit 64) (Int.fdiv (IntKind.wrap IntKind.u64 (IntKind.wrap IntKind.u64 (↑(BitVec.toNat (BitVec.ofInt (nat_lit 64) (Int.fdiv x ((2 : Int) ^ nat_lit 1)) &&& BitVec.ofInt (nat_lit 64) (6148914691236517205 : Int))) : Int) + IntKind.wrap IntKind.u64 (↑(BitVec.toNat (BitVec.ofInt (nat_lit 64) x &&& BitVec.ofInt (nat_lit 64) (6148914691236517205 : Int))) : Int))) ((2 : Int) ^ nat_lit 2)) &&& BitVec.ofInt (nat_lit 64) (3689348814741910323 : Int))) : Int) + IntKind.wrap IntKind.u64 (↑(BitVec.toNat (BitVec.ofInt (nat_lit 64) (IntKind.wrap IntKind.u64 (IntKind.wrap IntKind.u64 (↑(BitVec.toNat (BitVec.ofInt (nat_lit 64) (Int.fdiv x ((2 : Int) ^ nat_lit 1)) &&& BitVec.ofInt (nat_lit 64) (6148914691236517205 : Int))) : Int) + IntKind.wrap IntKind.u64 (↑(BitVec.toNat (BitVec.ofInt (nat_lit 64) x &&& BitVec.ofInt (nat_lit 64) (6148914691236517205 : Int))) : Int))) &&& BitVec.ofInt (nat_lit 64) (3689348814741910323 : Int))) : Int))) ((2 : Int) ^ nat_lit 4) + IntKind.wrap IntKind.u64 (IntKind.wrap IntKind.u64 (↑(BitVec.toNat (BitVec.ofInt (nat_lit 64) (Int.fdiv (IntKind.wrap IntKind.u64 (IntKind.wrap IntKind.u64 (↑(BitVec.toNat (BitVec.ofInt (nat_lit 64) (Int.fdiv x ((2 : Int) ^ nat_lit 1)) &&& BitVec.ofInt (nat_lit 64) (6148914691236517205 : Int))) : Int) + IntKind.wrap IntKind.u64 (↑(BitVec.toNat (BitVec.ofInt (nat_lit 64) x &&& BitVec.ofInt (nat_lit 64) (6148914691236517205 : Int))) : Int))) ((2 : Int) ^ nat_lit 2)) &&& BitVec.ofInt (nat_lit 64) (3689348814741910323 : Int))) : Int) + IntKind.wrap IntKind.u64 (↑(BitVec.toNat (BitVec.ofInt (nat_lit 64) (IntKind.wrap IntKind.u64 (IntKind.wrap IntKind.u64 (↑(BitVec.toNat (BitVec.ofInt (nat_lit 64) (Int.fdiv x ((2 : Int) ^ nat_lit 1)) &&& BitVec.ofInt (nat_lit 64) (6148914691236517205 : Int))) : Int) + IntKind.wrap IntKind.u64 (↑(BitVec.toNat (BitVec.ofInt (nat_lit 64) x &&& BitVec.ofInt (nat_lit 64) (6148914691236517205 : Int))) : Int))) &&& BitVec.ofInt (nat_lit 64) (3689348814741910323 : Int))) : Int)))) &&& BitVec.ofInt (nat_lit 64) (1085102592571150095 : Int))) : Int) + Int.fdiv (IntKind.wrap IntKind.u64 (↑(BitVec.toNat (BitVec.ofInt (nat_lit 64) (IntKind.wrap IntKind.u64 (Int.fdiv (IntKind.wrap IntKind.u64 (IntKind.wrap IntKind.u64 (↑(BitVec.toNat (BitVec.ofInt (nat_lit 64) (Int.fdiv (IntKind.wrap IntKind.u64 (IntKind.wrap IntKind.u64 (↑(BitVec.toNat (BitVec.ofInt (nat_lit 64) (Int.fdiv x ((2 : Int) ^ nat_lit 1)) &&& BitVec.ofInt (nat_lit 64) (6148914691236517205 : Int))) : Int) + IntKind.wrap IntKind.u64 (↑(BitVec.toNat (BitVec.ofInt (nat_lit 64) x &&& BitVec.ofInt (nat_lit 64) (6148914691236517205 : Int))) : Int))) ((2 : Int) ^ nat_lit 2)) &&& BitVec.ofInt (nat_lit 64) (3689348814741910323 : Int))) : Int) + IntKind.wrap IntKind.u64 (↑(BitVec.toNat (BitVec.ofInt (nat_lit 64) (IntKind.wrap IntKind.u64 (IntKind.wrap IntKind.u64 (↑(BitVec.toNat (BitVec.ofInt (nat_lit 64) (Int.fdiv x ((2 : Int) ^ nat_lit 1)) &&& BitVec.ofInt (nat_lit 64) (6148914691236517205 : Int))) : Int) + IntKind.wrap IntKind.u64 (↑(BitVec.toNat (BitVec.ofInt (nat_lit 64) x &&& BitVec.ofInt (nat_lit 64) (6148914691236517205 : Int))) : Int))) &&& BitVec.ofInt (nat_lit 64) (3689348814741910323 : Int))) : Int))) ((2 : Int) ^ nat_lit 4) + IntKind.wrap IntKind.u64 (IntKind.wrap IntKind.u64 (↑(BitVec.toNat (BitVec.ofInt (nat_lit 64) (Int.fdiv (IntKind.wrap IntKind.u64 (IntKind.wrap IntKind.u64 (↑(BitVec.toNat (BitVec.ofInt (nat_lit 64) (Int.fdiv x ((2 : Int) ^ nat_lit 1)) &&& BitVec.ofInt (nat_lit 64) (6148914691236517205 : Int))) : Int) + IntKind.wrap IntKind.u64 (↑(BitVec.toNat (BitVec.ofInt (nat_lit 64) x &&& BitVec.ofInt (nat_lit 64) (6148914691236517205 : Int))) : Int))) ((2 : Int) ^ nat_lit 2)) &&& BitVec.ofInt (nat_lit 64) (3689348814741910323 : Int))) : Int) + IntKind.wrap IntKind.u64 (↑(BitVec.toNat (BitVec.ofInt (nat_lit 64) (IntKind.wrap IntKind.u64 (IntKind.wrap IntKind.u64 (↑(BitVec.toNat (BitVec.ofInt (nat_lit 64) (Int.fdiv x ((2 : Int) ^ nat_lit 1)) &&& BitVec.ofInt (nat_lit 64) (6148914691236517205 : Int))) : Int) + IntKind.wrap IntKind.u64 (↑(BitVec.toNat (BitVec.ofInt (nat_lit 64) x &&& BitVec.ofInt (nat_lit 64) (6148914691236517205 : Int))) : Int))) &&& BitVec.ofInt (nat_lit 64) (3689348814741910323 : Int))) : Int)))) &&& BitVec.ofInt (nat_lit 64) (1085102592571150095 : Int))) : Int)) ((2 : Int) ^ nat_lit 8))) ((2 : Int) ^ nat_lit 16)) + Int.fdiv (IntKind.wrap IntKind.u64 (IntKind.wrap IntKind.u64 (IntKind.wrap IntKind.u64 (↑(BitVec.toNat (BitVec.ofInt (nat_lit 64) (IntKind.wrap IntKind.u64 (Int.fdiv (IntKind.wrap IntKind.u64 (IntKind.wrap IntKind.u64 (↑(BitVec.toNat (BitVec.ofInt (nat_lit 64) (Int.fdiv (IntKind.wrap IntKind.u64 (IntKind.wrap IntKind.u64 (↑(BitVec.toNat (BitVec.ofInt (nat_lit 64) (Int.fdiv x ((2 : Int) ^ nat_lit 1)) &&& BitVec.ofInt (nat_lit 64) (6148914691236517205 : Int))) : Int) + IntKind.wrap IntKind.u64 (↑(BitVec.toNat (BitVec.ofInt (nat_lit 64) x &&& BitVec.ofInt (nat_lit 64) (6148914691236517205 : Int))) : Int))) ((2 : Int) ^ nat_lit 2)) &&& BitVec.ofInt (nat_lit 64) (3689348814741910323 : Int))) : Int) + IntKind.wrap IntKind.u64 (↑(BitVec.toNat (BitVec.ofInt (nat_lit 64) (IntKind.wrap IntKind.u64 (IntKind.wrap IntKind.u64 (↑(BitVec.toNat (BitVec.ofInt (nat_lit 64) (Int.fdiv x ((2 : Int) ^ nat_lit 1)) &&& BitVec.ofInt (nat_lit 64) (6148914691236517205 : Int))) : Int) + IntKind.wrap IntKind.u64 (↑(BitVec.toNat (BitVec.ofInt (nat_lit 64) x &&& BitVec.ofInt (nat_lit 64) (6148914691236517205 : Int))) : Int))) &&& BitVec.ofInt (nat_lit 64) (3689348814741910323 : Int))) : Int))) ((2 : Int) ^ nat_lit 4) + IntKind.wrap IntKind.u64 (IntKind.wrap IntKind.u64 (↑(BitVec.toNat (BitVec.ofInt (nat_lit 64) (Int.fdiv (IntKind.wrap IntKind.u64 (IntKind.wrap IntKind.u64 (↑(BitVec.toNat (BitVec.ofInt (nat_lit 64) (Int.fdiv x ((2 : Int) ^ nat_lit 1)) &&& BitVec.ofInt (nat_lit 64) (6148914691236517205 : Int))) : Int) + IntKind.wrap IntKind.u64 (↑(BitVec.toNat (BitVec.ofInt (nat_lit 64) x &&& BitVec.ofInt (nat_lit 64) (6148914691236517205 : Int))) : Int))) ((2 : Int) ^ nat_lit 2)) &&& BitVec.ofInt (nat_lit 64) (3689348814741910323 : Int))) : Int) + IntKind.wrap IntKind.u64 (↑(BitVec.toNat (BitVec.ofInt (nat_lit 64) (IntKind.wrap IntKind.u64 (IntKind.wrap IntKind.u64 (↑(BitVec.toNat (BitVec.ofInt (nat_lit 64) (Int.fdiv x ((2 : Int) ^ nat_lit 1)) &&& BitVec.ofInt (nat_lit 64) (6148914691236517205 : Int))) : Int) + IntKind.wrap IntKind.u64 (↑(BitVec.toNat (BitVec.ofInt (nat_lit 64) x &&& BitVec.ofInt (nat_lit 64) (6148914691236517205 : Int))) : Int))) &&& BitVec.ofInt (nat_lit 64) (3689348814741910323 : Int))) : Int)))) &&& BitVec.ofInt (nat_lit 64) (1085102592571150095 : Int))) : Int) + Int.fdiv (IntKind.wrap IntKind.u64 (↑(BitVec.toNat (BitVec.ofInt (nat_lit 64) (IntKind.wrap IntKind.u64 (Int.fdiv (IntKind.wrap IntKind.u64 (IntKind.wrap IntKind.u64 (↑(BitVec.toNat (BitVec.ofInt (nat_lit 64) (Int.fdiv (IntKind.wrap IntKind.u64 (IntKind.wrap IntKind.u64 (↑(BitVec.toNat (BitVec.ofInt (nat_lit 64) (Int.fdiv x ((2 : Int) ^ nat_lit 1)) &&& BitVec.ofInt (nat_lit 64) (6148914691236517205 : Int))) : Int) + IntKind.wrap IntKind.u64 (↑(BitVec.toNat (BitVec.ofInt (nat_lit 64) x &&& BitVec.ofInt (nat_lit 64) (6148914691236517205 : Int))) : Int))) ((2 : Int) ^ nat_lit 2)) &&& BitVec.ofInt (nat_lit 64) (3689348814741910323 : Int))) : Int) + IntKind.wrap IntKind.u64 (↑(BitVec.toNat (BitVec.ofInt (nat_lit 64) (IntKind.wrap IntKind.u64 (IntKind.wrap IntKind.u64 (↑(BitVec.toNat (BitVec.ofInt (nat_lit 64) (Int.fdiv x ((2 : Int) ^ nat_lit 1)) &&& BitVec.ofInt (nat_lit 64) (6148914691236517205 : Int))) : Int) + IntKind.wrap IntKind.u64 (↑(BitVec.toNat (BitVec.ofInt (nat_lit 64) x &&& BitVec.ofInt (nat_lit 64) (6148914691236517205 : Int))) : Int))) &&& BitVec.ofInt (nat_lit 64) (3689348814741910323 : Int))) : Int))) ((2 : Int) ^ nat_lit 4) + IntKind.wrap IntKind.u64 (IntKind.wrap IntKind.u64 (↑(BitVec.toNat (BitVec.ofInt (nat_lit 64) (Int.fdiv (IntKind.wrap IntKind.u64 (IntKind.wrap IntKind.u64 (↑(BitVec.toNat (BitVec.ofInt (nat_lit 64) (Int.fdiv x ((2 : Int) ^ nat_lit 1)) &&& BitVec.ofInt (nat_lit 64) (6148914691236517205 : Int))) : Int) + IntKind.wrap IntKind.u64 (↑(BitVec.toNat (BitVec.ofInt (nat_lit 64) x &&& BitVec.ofInt (nat_lit 64) (6148914691236517205 : Int))) : Int))) ((2 : Int) ^ nat_lit 2)) &&& BitVec.ofInt (nat_lit 64) (3689348814741910323 : Int))) : Int) + IntKind.wrap IntKind.u64 (↑(BitVec.toNat (BitVec.ofInt (nat_lit 64) (IntKind.wrap IntKind.u64 (IntKind.wrap IntKind.u64 (↑(BitVec.toNat (BitVec.ofInt (nat_lit 64) (Int.fdiv x ((2 : Int) ^ nat_lit 1)) &&& BitVec.ofInt (nat_lit 64) (6148914691236517205 : Int))) : Int) + IntKind.wrap IntKind.u64 (↑(BitVec.toNat (BitVec.ofInt (nat_lit 64) x &&& BitVec.ofInt (nat_lit 64) (6148914691236517205 : Int))) : Int))) &&& BitVec.ofInt (nat_lit 64) (3689348814741910323 : Int))) : Int)))) &&& BitVec.ofInt (nat_lit 64) (1085102592571150095 : Int))) : Int)) ((2 : Int) ^ nat_lit 8)) + Int.fdiv (IntKind.wrap IntKind.u64 (IntKind.wrap IntKind.u64 (↑(BitVec.toNat (BitVec.ofInt (nat_lit 64) (IntKind.wrap IntKind.u64 (Int.fdiv (IntKind.wrap IntKind.u64 (IntKind.wrap IntKind.u64 (↑(BitVec.toNat (BitVec.ofInt (nat_lit 64) (Int.fdiv (IntKind.wrap IntKind.u64 (IntKind.wrap IntKind.u64 (↑(BitVec.toNat (BitVec.ofInt (nat_lit 64) (Int.fdiv x ((2 : Int) ^ nat_lit 1)) &&& BitVec.ofInt (nat_lit 64) (6148914691236517205 : Int))) : Int) + IntKind.wrap IntKind.u64 (↑(BitVec.toNat (BitVec.ofInt (nat_lit 64) x &&& BitVec.ofInt (nat_lit 64) (6148914691236517205 : Int))) : Int))) ((2 : Int) ^ nat_lit 2)) &&& BitVec.ofInt (nat_lit 64) (3689348814741910323 : Int))) : Int) + IntKind.wrap IntKind.u64 (↑(BitVec.toNat (BitVec.ofInt (nat_lit 64) (IntKind.wrap IntKind.u64 (IntKind.wrap IntKind.u64 (↑(BitVec.toNat (BitVec.ofInt (nat_lit 64) (Int.fdiv x ((2 : Int) ^ nat_lit 1)) &&& BitVec.ofInt (nat_lit 64) (6148914691236517205 : Int))) : Int) + IntKind.wrap IntKind.u64 (↑(BitVec.toNat (BitVec.ofInt (nat_lit 64) x &&& BitVec.ofInt (nat_lit 64) (6148914691236517205 : Int))) : Int))) &&& BitVec.ofInt (nat_lit 64) (3689348814741910323 : Int))) : Int))) ((2 : Int) ^ nat_lit 4) + IntKind.wrap IntKind.u64 (IntKind.wrap IntKind.u64 (↑(BitVec.toNat (BitVec.ofInt (nat_lit 64) (Int.fdiv (IntKind.wrap IntKind.u64 (IntKind.wrap IntKind.u64 (↑(BitVec.toNat (BitVec.ofInt (nat_lit 64) (Int.fdiv x ((2 : Int) ^ nat_lit 1)) &&& BitVec.ofInt (nat_lit 64) (6148914691236517205 : Int))) : Int) + IntKind.wrap IntKind.u64 (↑(BitVec.toNat (BitVec.ofInt (nat_lit 64) x &&& BitVec.ofInt (nat_lit 64) (6148914691236517205 : Int))) : Int))) ((2 : Int) ^ nat_lit 2)) &&& BitVec.ofInt (nat_lit 64) (3689348814741910323 : Int))) : Int) + IntKind.wrap IntKind.u64 (↑(BitVec.toNat (BitVec.ofInt (nat_lit 64) (IntKind.wrap IntKind.u64 (IntKind.wrap IntKind.u64 (↑(BitVec.toNat (BitVec.ofInt (nat_lit 64) (Int.fdiv x ((2 : Int) ^ nat_lit 1)) &&& BitVec.ofInt (nat_lit 64) (6148914691236517205 : Int))) : Int) + IntKind.wrap IntKind.u64 (↑(BitVec.toNat (BitVec.ofInt (nat_lit 64) x &&& BitVec.ofInt (nat_lit 64) (6148914691236517205 : Int))) : Int))) &&& BitVec.ofInt (nat_lit 64) (3689348814741910323 : Int))) : Int)))) &&& BitVec.ofInt (nat_lit 64) (1085102592571150095 : Int))) : Int) + Int.fdiv (IntKind.wrap IntKind.u64 (↑(BitVec.toNat (BitVec.ofInt (nat_lit 64) (IntKind.wrap IntKind.u64 (Int.fdiv (IntKind.wrap IntKind.u64 (IntKind.wrap IntKind.u64 (↑(BitVec.toNat (BitVec.ofInt (nat_lit 64) (Int.fdiv (IntKind.wrap IntKind.u64 (IntKind.wrap IntKind.u64 (↑(BitVec.toNat (BitVec.ofInt (nat_lit 64) (Int.fdiv x ((2 : Int) ^ nat_lit 1)) &&& BitVec.ofInt (nat_lit 64) (6148914691236517205 : Int))) : Int) + IntKind.wrap IntKind.u64 (↑(BitVec.toNat (BitVec.ofInt (nat_lit 64) x &&& BitVec.ofInt (nat_lit 64) (6148914691236517205 : Int))) : Int))) ((2 : Int) ^ nat_lit 2)) &&& BitVec.ofInt (nat_lit 64) (3689348814741910323 : Int))) : Int) + IntKind.wrap IntKind.u64 (↑(BitVec.toNat (BitVec.ofInt (nat_lit 64) (IntKind.wrap IntKind.u64 (IntKind.wrap IntKind.u64 (↑(BitVec.toNat (BitVec.ofInt (nat_lit 64) (Int.fdiv x ((2 : Int) ^ nat_lit 1)) &&& BitVec.ofInt (nat_lit 64) (6148914691236517205 : Int))) : Int) + IntKind.wrap IntKind.u64 (↑(BitVec.toNat (BitVec.ofInt (nat_lit 64) x &&& BitVec.ofInt (nat_lit 64) (6148914691236517205 : Int))) : Int))) &&& BitVec.ofInt (nat_lit 64) (3689348814741910323 : Int))) : Int))) ((2 : Int) ^ nat_lit 4) + IntKind.wrap IntKind.u64 (IntKind.wrap IntKind.u64 (↑(BitVec.toNat (BitVec.ofInt (nat_lit 64) (Int.fdiv (IntKind.wrap IntKind.u64 (IntKind.wrap IntKind.u64 (↑(BitVec.toNat (BitVec.ofInt (nat_lit 64) (Int.fdiv x ((2 : Int) ^ nat_lit 1)) &&& BitVec.ofInt (nat_lit 64) (6148914691236517205 : Int))) : Int) + IntKind.wrap IntKind.u64 (↑(BitVec.toNat (BitVec.ofInt (nat_lit 64) x &&& BitVec.ofInt (nat_lit 64) (6148914691236517205 : Int))) : Int))) ((2 : Int) ^ nat_lit 2)) &&& BitVec.ofInt (nat_lit 64) (3689348814741910323 : Int))) : Int) + IntKind.wrap IntKind.u64 (↑(BitVec.toNat (BitVec.ofInt (nat_lit 64) (IntKind.wrap IntKind.u64 (IntKind.wrap IntKind.u64 (↑(BitVec.toNat (BitVec.ofInt (nat_lit 64) (Int.fdiv x ((2 : Int) ^ nat_lit 1)) &&& BitVec.ofInt (nat_lit 64) (6148914691236517205 : Int))) : Int) + IntKind.wrap IntKind.u64 (↑(BitVec.toNat (BitVec.ofInt (nat_lit 64) x &&& BitVec.ofInt (nat_lit 64) (6148914691236517205 : Int))) : Int))) &&& BitVec.ofInt (nat_lit 64) (3689348814741910323 : Int))) : Int)))) &&& BitVec.ofInt (nat_lit 64) (1085102592571150095 : Int))) : Int)) ((2 : Int) ^ nat_lit 8))) ((2 : Int) ^ nat_lit 16))) ((2 : Int) ^ nat_lit 32)))) &&& BitVec.ofInt (nat_lit 64) (127 : Int))) : Int)) = Value.int IntKind.i64 (popM x) ∧ True) ∧ True ∧ True)
    (by kernel_rfl) ?_
  simp only [popS] at h
  refine ⟨by decide, by decide, by decide, by decide, by decide, by decide, trivial, ⟨congrArg (Value.int .i64) ?_, trivial⟩, trivial, trivial⟩
  obtain ⟨m, rfl⟩ := Int.eq_ofNat_of_zero_le h.1
  have hm : m < 64 := by omega
  clear h
  revert m
  decide +kernel

theorem ones64_sound : Sound Try.prog 95 popS.con := FSpec.sound _ (enter_of Try.func95 (by kernel_rfl) (by kernel_rfl)) ones64_ok
def Tones64 : Tab UU := [(95, popS.con)]
theorem Tones64_ok : Tones64.Sound Try.prog := .cons ones64_sound .nil
set_option maxRecDepth 100000 in
theorem ones_ok : ∀ x, popS.pre x → FunOk Try.prog 88 (popS.args x) (popS.H x) (popS.R x) := by
  intro (x : Int) h
  refine fun_of (T := Tones64) (L := fun _ => none) (hs := fun _ => []) hmix Tones64_ok Try.func88 (by kernel_rfl) (by kernel_rfl) ?_
  refine Eq.mp (α :=
      ((0 : Int) ≤ x ∧ x < (64 : Int)) ∧ (Value.int IntKind.u64 x = Value.int IntKind.u64 x ∧ True) ∧ True ∧ True ∧ (Value.int IntKind.i64 (popM x) = Value.int IntKind.i64 (popM x) ∧ True) ∧ True ∧ True)
    (by kernel_rfl) ?_
  simp only [popS] at h
  simpa using h

theorem ones_sound : Sound Try.prog 88 popS.con := FSpec.sound _ (enter_of Try.func88 (by kernel_rfl) (by kernel_rfl)) ones_ok
def Tones : Tab UU := [(88, popS.con)]
theorem Tones_ok : Tones.Sound Try.prog := .cons ones_sound .nil
set_option maxRecDepth 100000 in
theorem size_ok : ∀ x, popS.pre x → FunOk Try.prog 60 (popS.args x) (popS.H x) (popS.R x) := by
  intro (x : Int) h
  refine fun_of (T := Tones) (L := fun _ => none) (hs := fun _ => []) hmix Tones_ok Try.func60 (by kernel_rfl) (by kernel_rfl) ?_
  refine Eq.mp (α :=
      ((0 : Int) ≤ x ∧ x < (64 : Int)) ∧ (Value.int IntKind.u64 x = Value.int IntKind.u64 x ∧ True) ∧ True ∧ True ∧ (Value.int IntKind.i64 (popM x) = Value.int IntKind.i64 (popM x) ∧ True) ∧ True ∧ True)
    (by kernel_rfl) ?_
  simp only [popS] at h
  simpa using h

theorem size_sound : Sound Try.prog 60 popS.con := FSpec.sound _ (enter_of Try.func60 (by kernel_rfl) (by kernel_rfl)) size_ok

/-! ### words -/
def rightM (t : Int × Int) (w : W3) : Bool := (if w.1 then !hasM t.2 w.2.1 else hasM t.1 w.2.1) != w.2.2
def okT (t : Int × Int) : Prop := (0 ≤ t.1 ∧ t.1 < 64) ∧ 0 ≤ t.2 ∧ t.2 < 64
def okW (w : W3) : Prop := 0 ≤ w.2.1 ∧ w.2.1 < 6
def rightS : FSpec UU where
  X := (Int × Int) × W3
  pick := fun args _ => match args with
    | [a, b] => match avT a, avW b with
      | some a, some b => some (a, b)
      | _, _ => none
    | _ => none
  args := fun x => [vT x.1, vW x.2]
  H := fun _ => []
  R := fun x => .val ⟨.b (rightM x.1 x.2), [], [], []⟩
  pre := fun x => okT x.1 ∧ okW x.2
def Thas : Tab UU := [(87, hasS.con), (83, hasS.con)]
theorem Thas_ok : Thas.Sound Try.prog := .cons hasF_sound (.cons has_sound .nil)
set_option maxRecDepth 100000 in
theorem right_ok : ∀ x, rightS.pre x → FunOk Try.prog 56 (rightS.args x) (rightS.H x) (rightS.R x) := by
  rintro ⟨⟨f, l⟩, ⟨p, n, x⟩⟩ h
  refine fun_of (T := Thas) (L := fun _ => none) (hs := fun _ => []) hmix Thas_ok Try.func56 (by kernel_rfl) (by kernel_rfl) ?_
  refine Eq.mp (α :=
      ((0 : Int) ≤ f ∧ f < (64 : Int) ∧ (0 : Int) ≤ n ∧ n < (64 : Int)) ∧ (Value.int IntKind.u64 f = Value.int IntKind.u64 f ∧ Value.int IntKind.i64 n = Value.int IntKind.i64 n ∧ True) ∧ True ∧ (p = true → ((0 : Int) ≤ l ∧ l < (64 : Int) ∧ (0 : Int) ≤ n ∧ n < (64 : Int)) ∧ (Value.int IntKind.u64 l = Value.int IntKind.u64 l ∧ Value.int IntKind.i64 n = Value.int IntKind.i64 n ∧ True) ∧ True ∧ True ∧ ((Value.bool !(!hasM l n) == x) = Value.bool (rightM (f, l) (p, n, x)) ∧ True) ∧ True ∧ True) ∧ (p = false → True ∧ ((Value.bool !hasM f n == x) = Value.bool (rightM (f, l) (p, n, x)) ∧ True) ∧ True ∧ True))
    (by kernel_rfl) ?_
  simp only [rightS, okT, okW] at h
  simp [rightM]
  refine ⟨by omega, fun hp => ⟨by omega, ?_⟩, fun hp => ?_⟩
  · rw [if_pos hp]; generalize hasM l n = a; cases a <;> cases x <;> rfl
  · rw [if_neg (by simp [hp])]; generalize hasM f n = a; cases a <;> cases x <;> rfl

theorem right_sound : Sound Try.prog 56 rightS.con := FSpec.sound _ (enter_of Try.func56 (by kernel_rfl) (by kernel_rfl)) right_ok

/-! ### claims -/
def vPair (a b : W3) : AV := .agg [.b a.1, .i a.2.1, .b a.2.2, .b b.1, .i b.2.1, .b b.2.2]
def avPair : AV → Option (W3 × W3)
  | .agg [a, b, c, d, e, f] => match avBool a, avInt b, avBool c, avBool d, avInt e, avBool f with
    | some a, some b, some c, some d, some e, some f => some ((a, b, c), (d, e, f))
    | _, _, _, _, _, _ => none
  | _ => none
def pairS (R : W3 → W3 → Int × Int → AV) : FSpec UU where
  X := (W3 × W3) × (Int × Int)
  pick := fun args _ => match args with
    | [a, b] => match avPair a, avT b with
      | some a, some b => some (a, b)
      | _, _ => none
    | _ => none
  args := fun x => [vPair x.1.1 x.1.2, vT x.2]
  H := fun _ => []
  R := fun x => .val ⟨R x.1.1 x.1.2 x.2, [], [], []⟩
  pre := fun x => okT x.2 ∧ okW x.1.1 ∧ okW x.1.2
def bothV (a b : W3) (t : Int × Int) : AV := .tup [.b (rightM t a), .b (rightM t b)]
def orV (a b : W3) (t : Int × Int) : AV := .b (rightM t a || rightM t b)
def whenV (a b : W3) (t : Int × Int) : AV := .b (!rightM t a || rightM t b)
def Tright : Tab UU := [(56, rightS.con)]
theorem Tright_ok : Tright.Sound Try.prog := .cons right_sound .nil
set_option maxRecDepth 100000 in
theorem both_ok : ∀ x, (pairS bothV).pre x → FunOk Try.prog 114 ((pairS bothV).args x) ((pairS bothV).H x) ((pairS bothV).R x) := by
  rintro ⟨⟨⟨p, n, x⟩, ⟨p', n', x'⟩⟩, ⟨f, l⟩⟩ h
  refine fun_of (T := Tright) (L := fun _ => none) (hs := fun _ => []) hmix Tright_ok Try.func114 (by kernel_rfl) (by kernel_rfl) ?_
  refine Eq.mp (α :=
      ((((0 : Int) ≤ f ∧ f < (64 : Int)) ∧ (0 : Int) ≤ l ∧ l < (64 : Int)) ∧ (0 : Int) ≤ n ∧ n < (6 : Int)) ∧ ((Value.int IntKind.u64 f = Value.int IntKind.u64 f ∧ Value.int IntKind.u64 l = Value.int IntKind.u64 l ∧ True) ∧ (Value.bool p = Value.bool p ∧ Value.int IntKind.i64 n = Value.int IntKind.i64 n ∧ Value.bool x = Value.bool x ∧ True) ∧ True) ∧ True ∧ ((((0 : Int) ≤ f ∧ f < (64 : Int)) ∧ (0 : Int) ≤ l ∧ l < (64 : Int)) ∧ (0 : Int) ≤ n' ∧ n' < (6 : Int)) ∧ ((Value.int IntKind.u64 f = Value.int IntKind.u64 f ∧ Value.int IntKind.u64 l = Value.int IntKind.u64 l ∧ True) ∧ (Value.bool p' = Value.bool p' ∧ Value.int IntKind.i64 n' = Value.int IntKind.i64 n' ∧ Value.bool x' = Value.bool x' ∧ True) ∧ True) ∧ True ∧ True ∧ ((Value.bool (rightM (f, l) (p, n, x)) = Value.bool (rightM (f, l) (p, n, x)) ∧ Value.bool (rightM (f, l) (p', n', x')) = Value.bool (rightM (f, l) (p', n', x')) ∧ True) ∧ True) ∧ True ∧ True)
    (by kernel_rfl) ?_
  simp only [pairS, okT, okW] at h
  simp [bothV]
  omega

theorem both_sound : Sound Try.prog 114 (pairS bothV).con := FSpec.sound _ (enter_of Try.func114 (by kernel_rfl) (by kernel_rfl)) both_ok
def Tboth : Tab UU := [(114, (pairS bothV).con)]
theorem Tboth_ok : Tboth.Sound Try.prog := .cons both_sound .nil
set_option maxRecDepth 100000 in
theorem or_ok : ∀ x, (pairS orV).pre x → FunOk Try.prog 115 ((pairS orV).args x) ((pairS orV).H x) ((pairS orV).R x) := by
  rintro ⟨⟨⟨p, n, x⟩, ⟨p', n', x'⟩⟩, ⟨f, l⟩⟩ h
  refine fun_of (T := Tboth) (L := fun _ => none) (hs := fun _ => []) hmix Tboth_ok Try.func115 (by kernel_rfl) (by kernel_rfl) ?_
  refine Eq.mp (α :=
      ((((0 : Int) ≤ f ∧ f < (64 : Int)) ∧ (0 : Int) ≤ l ∧ l < (64 : Int)) ∧ ((0 : Int) ≤ n ∧ n < (6 : Int)) ∧ (0 : Int) ≤ n' ∧ n' < (6 : Int)) ∧ ((Value.bool p = Value.bool p ∧ Value.int IntKind.i64 n = Value.int IntKind.i64 n ∧ Value.bool x = Value.bool x ∧ Value.bool p' = Value.bool p' ∧ Value.int IntKind.i64 n' = Value.int IntKind.i64 n' ∧ Value.bool x' = Value.bool x' ∧ True) ∧ (Value.int IntKind.u64 f = Value.int IntKind.u64 f ∧ Value.int IntKind.u64 l = Value.int IntKind.u64 l ∧ True) ∧ True) ∧ True ∧ (rightM (f, l) (p, n, x) = true → True ∧ (Value.bool (rightM (f, l) (p, n, x) || rightM (f, l) (p', n', x')) = Value.bool true ∧ True) ∧ True ∧ True) ∧ (rightM (f, l) (p, n, x) = false → True ∧ (Value.bool (rightM (f, l) (p', n', x')) = Value.bool (rightM (f, l) (p, n, x) || rightM (f, l) (p', n', x')) ∧ True) ∧ True ∧ True))
    (by kernel_rfl) ?_
  refine ⟨h, by simp, trivial, fun h1 => ?_, fun h1 => ?_⟩ <;> simp [h1]

theorem or_sound : Sound Try.prog 115 (pairS orV).con := FSpec.sound _ (enter_of Try.func115 (by kernel_rfl) (by kernel_rfl)) or_ok
set_option maxRecDepth 100000 in
theorem when_ok : ∀ x, (pairS whenV).pre x → FunOk Try.prog 116 ((pairS whenV).args x) ((pairS whenV).H x) ((pairS whenV).R x) := by
  rintro ⟨⟨⟨p, n, x⟩, ⟨p', n', x'⟩⟩, ⟨f, l⟩⟩ h
  refine fun_of (T := Tboth) (L := fun _ => none) (hs := fun _ => []) hmix Tboth_ok Try.func116 (by kernel_rfl) (by kernel_rfl) ?_
  refine Eq.mp (α :=
      ((((0 : Int) ≤ f ∧ f < (64 : Int)) ∧ (0 : Int) ≤ l ∧ l < (64 : Int)) ∧ ((0 : Int) ≤ n ∧ n < (6 : Int)) ∧ (0 : Int) ≤ n' ∧ n' < (6 : Int)) ∧ ((Value.bool p = Value.bool p ∧ Value.int IntKind.i64 n = Value.int IntKind.i64 n ∧ Value.bool x = Value.bool x ∧ Value.bool p' = Value.bool p' ∧ Value.int IntKind.i64 n' = Value.int IntKind.i64 n' ∧ Value.bool x' = Value.bool x' ∧ True) ∧ (Value.int IntKind.u64 f = Value.int IntKind.u64 f ∧ Value.int IntKind.u64 l = Value.int IntKind.u64 l ∧ True) ∧ True) ∧ True ∧ ((!rightM (f, l) (p, n, x)) = true → True ∧ (Value.bool (!rightM (f, l) (p, n, x) || rightM (f, l) (p', n', x')) = Value.bool true ∧ True) ∧ True ∧ True) ∧ ((!rightM (f, l) (p, n, x)) = false → True ∧ (Value.bool (rightM (f, l) (p', n', x')) = Value.bool (!rightM (f, l) (p, n, x) || rightM (f, l) (p', n', x')) ∧ True) ∧ True ∧ True))
    (by kernel_rfl) ?_
  refine ⟨h, by simp, trivial, fun h1 => ?_, fun h1 => ?_⟩ <;> simp at h1 <;> simp [h1]

theorem when_sound : Sound Try.prog 116 (pairS whenV).con := FSpec.sound _ (enter_of Try.func116 (by kernel_rfl) (by kernel_rfl)) when_ok
def isS : FSpec UU where
  X := W3 × (Int × Int)
  pick := fun args _ => match args with
    | [a, b] => match avW a, avT b with
      | some a, some b => some (a, b)
      | _, _ => none
    | _ => none
  args := fun x => [vW x.1, vT x.2]
  H := fun _ => []
  R := fun x => .val ⟨.b (rightM x.2 x.1), [], [], []⟩
  pre := fun x => okT x.2 ∧ okW x.1
set_option maxRecDepth 100000 in
theorem is_ok : ∀ x, isS.pre x → FunOk Try.prog 117 (isS.args x) (isS.H x) (isS.R x) := by
  rintro ⟨⟨p, n, x⟩, ⟨f, l⟩⟩ h
  refine fun_of (T := Tright) (L := fun _ => none) (hs := fun _ => []) hmix Tright_ok Try.func117 (by kernel_rfl) (by kernel_rfl) ?_
  refine Eq.mp (α :=
      ((((0 : Int) ≤ f ∧ f < (64 : Int)) ∧ (0 : Int) ≤ l ∧ l < (64 : Int)) ∧ (0 : Int) ≤ n ∧ n < (6 : Int)) ∧ ((Value.int IntKind.u64 f = Value.int IntKind.u64 f ∧ Value.int IntKind.u64 l = Value.int IntKind.u64 l ∧ True) ∧ (Value.bool p = Value.bool p ∧ Value.int IntKind.i64 n = Value.int IntKind.i64 n ∧ Value.bool x = Value.bool x ∧ True) ∧ True) ∧ True ∧ True ∧ (Value.bool (rightM (f, l) (p, n, x)) = Value.bool (rightM (f, l) (p, n, x)) ∧ True) ∧ True ∧ True)
    (by kernel_rfl) ?_
  exact ⟨h, by simp, trivial, trivial, by simp, trivial, trivial⟩

theorem is_sound : Sound Try.prog 117 isS.con := FSpec.sound _ (enter_of Try.func117 (by kernel_rfl) (by kernel_rfl)) is_ok

/-! ### read -/
def ciM (c : Cl) : Ci := (decide (c.2.1 = 1), decide (c.2.1 = 2), c.2.2.1, c.2.2.2)
def avCl : AV → Option Cl
  | .agg [w, k, a, b, c, d, e, f] => match avInt w, avInt k, avBool a, avInt b, avBool c, avBool d, avInt e, avBool f with
    | some w, some k, some a, some b, some c, some d, some e, some f => some (w, k, (a, b, c), (d, e, f))
    | _, _, _, _, _, _, _, _ => none
  | _ => none
def vCl (c : Cl) : AV := .agg [.i c.1, .i c.2.1, .b c.2.2.1.1, .i c.2.2.1.2.1, .b c.2.2.1.2.2, .b c.2.2.2.1, .i c.2.2.2.2.1, .b c.2.2.2.2.2]
def readS : FSpec UU where
  X := Cl
  pick := fun args _ => match args with
    | [a] => avCl a
    | _ => none
  args := fun x => [vCl x]
  H := fun _ => []
  R := fun x => .val ⟨vCi (ciM x), [], [], []⟩
set_option maxRecDepth 100000 in
theorem read_ok : ∀ x, readS.pre x → FunOk Try.prog 80 (readS.args x) (readS.H x) (readS.R x) := by
  rintro ⟨w, k, ⟨p, n, x⟩, ⟨p', n', x'⟩⟩ h
  refine fun_of (T := []) (L := fun _ => none) (hs := fun _ => []) hmix .nil Try.func80 (by kernel_rfl) (by kernel_rfl) ?_
  refine Eq.mp (α :=
      ((k == (1 : Int)) = true → True ∧ (((Prod.fst (ciM (w, k, (p, n, x), p', n', x')) = true → (134 : Nat) = (134 : TypeId) ∧ Value.bool p = Value.bool (Prod.fst (Prod.fst (Prod.snd (Prod.snd (ciM (w, k, (p, n, x), p', n', x')))))) ∧ Value.int IntKind.i64 n = Value.int IntKind.i64 (Prod.fst (Prod.snd (Prod.fst (Prod.snd (Prod.snd (ciM (w, k, (p, n, x), p', n', x'))))))) ∧ Value.bool x = Value.bool (Prod.snd (Prod.snd (Prod.fst (Prod.snd (Prod.snd (ciM (w, k, (p, n, x), p', n', x'))))))) ∧ Value.bool p' = Value.bool (Prod.fst (Prod.snd (Prod.snd (Prod.snd (ciM (w, k, (p, n, x), p', n', x')))))) ∧ Value.int IntKind.i64 n' = Value.int IntKind.i64 (Prod.fst (Prod.snd (Prod.snd (Prod.snd (Prod.snd (ciM (w, k, (p, n, x), p', n', x'))))))) ∧ Value.bool x' = Value.bool (Prod.snd (Prod.snd (Prod.snd (Prod.snd (Prod.snd (ciM (w, k, (p, n, x), p', n', x'))))))) ∧ True) ∧ (Prod.fst (ciM (w, k, (p, n, x), p', n', x')) = false → (Prod.fst (Prod.snd (ciM (w, k, (p, n, x), p', n', x'))) = true → (134 : Nat) = (135 : TypeId) ∧ Value.bool p = Value.bool (Prod.fst (Prod.fst (Prod.snd (Prod.snd (ciM (w, k, (p, n, x), p', n', x')))))) ∧ Value.int IntKind.i64 n = Value.int IntKind.i64 (Prod.fst (Prod.snd (Prod.fst (Prod.snd (Prod.snd (ciM (w, k, (p, n, x), p', n', x'))))))) ∧ Value.bool x = Value.bool (Prod.snd (Prod.snd (Prod.fst (Prod.snd (Prod.snd (ciM (w, k, (p, n, x), p', n', x'))))))) ∧ Value.bool p' = Value.bool (Prod.fst (Prod.snd (Prod.snd (Prod.snd (ciM (w, k, (p, n, x), p', n', x')))))) ∧ Value.int IntKind.i64 n' = Value.int IntKind.i64 (Prod.fst (Prod.snd (Prod.snd (Prod.snd (Prod.snd (ciM (w, k, (p, n, x), p', n', x'))))))) ∧ Value.bool x' = Value.bool (Prod.snd (Prod.snd (Prod.snd (Prod.snd (Prod.snd (ciM (w, k, (p, n, x), p', n', x'))))))) ∧ True) ∧ (Prod.fst (Prod.snd (ciM (w, k, (p, n, x), p', n', x'))) = false → (134 : Nat) = (137 : TypeId) ∧ Value.bool p = Value.bool (Prod.fst (Prod.fst (Prod.snd (Prod.snd (ciM (w, k, (p, n, x), p', n', x')))))) ∧ Value.int IntKind.i64 n = Value.int IntKind.i64 (Prod.fst (Prod.snd (Prod.fst (Prod.snd (Prod.snd (ciM (w, k, (p, n, x), p', n', x'))))))) ∧ Value.bool x = Value.bool (Prod.snd (Prod.snd (Prod.fst (Prod.snd (Prod.snd (ciM (w, k, (p, n, x), p', n', x'))))))) ∧ False))) ∧ True) ∧ True ∧ True) ∧ ((k == (1 : Int)) = false → ((k == (2 : Int)) = true → True ∧ (((Prod.fst (ciM (w, k, (p, n, x), p', n', x')) = true → (135 : Nat) = (134 : TypeId) ∧ Value.bool p = Value.bool (Prod.fst (Prod.fst (Prod.snd (Prod.snd (ciM (w, k, (p, n, x), p', n', x')))))) ∧ Value.int IntKind.i64 n = Value.int IntKind.i64 (Prod.fst (Prod.snd (Prod.fst (Prod.snd (Prod.snd (ciM (w, k, (p, n, x), p', n', x'))))))) ∧ Value.bool x = Value.bool (Prod.snd (Prod.snd (Prod.fst (Prod.snd (Prod.snd (ciM (w, k, (p, n, x), p', n', x'))))))) ∧ Value.bool p' = Value.bool (Prod.fst (Prod.snd (Prod.snd (Prod.snd (ciM (w, k, (p, n, x), p', n', x')))))) ∧ Value.int IntKind.i64 n' = Value.int IntKind.i64 (Prod.fst (Prod.snd (Prod.snd (Prod.snd (Prod.snd (ciM (w, k, (p, n, x), p', n', x'))))))) ∧ Value.bool x' = Value.bool (Prod.snd (Prod.snd (Prod.snd (Prod.snd (Prod.snd (ciM (w, k, (p, n, x), p', n', x'))))))) ∧ True) ∧ (Prod.fst (ciM (w, k, (p, n, x), p', n', x')) = false → (Prod.fst (Prod.snd (ciM (w, k, (p, n, x), p', n', x'))) = true → (135 : Nat) = (135 : TypeId) ∧ Value.bool p = Value.bool (Prod.fst (Prod.fst (Prod.snd (Prod.snd (ciM (w, k, (p, n, x), p', n', x')))))) ∧ Value.int IntKind.i64 n = Value.int IntKind.i64 (Prod.fst (Prod.snd (Prod.fst (Prod.snd (Prod.snd (ciM (w, k, (p, n, x), p', n', x'))))))) ∧ Value.bool x = Value.bool (Prod.snd (Prod.snd (Prod.fst (Prod.snd (Prod.snd (ciM (w, k, (p, n, x), p', n', x'))))))) ∧ Value.bool p' = Value.bool (Prod.fst (Prod.snd (Prod.snd (Prod.snd (ciM (w, k, (p, n, x), p', n', x')))))) ∧ Value.int IntKind.i64 n' = Value.int IntKind.i64 (Prod.fst (Prod.snd (Prod.snd (Prod.snd (Prod.snd (ciM (w, k, (p, n, x), p', n', x'))))))) ∧ Value.bool x' = Value.bool (Prod.snd (Prod.snd (Prod.snd (Prod.snd (Prod.snd (ciM (w, k, (p, n, x), p', n', x'))))))) ∧ True) ∧ (Prod.fst (Prod.snd (ciM (w, k, (p, n, x), p', n', x'))) = false → (135 : Nat) = (137 : TypeId) ∧ Value.bool p = Value.bool (Prod.fst (Prod.fst (Prod.snd (Prod.snd (ciM (w, k, (p, n, x), p', n', x')))))) ∧ Value.int IntKind.i64 n = Value.int IntKind.i64 (Prod.fst (Prod.snd (Prod.fst (Prod.snd (Prod.snd (ciM (w, k, (p, n, x), p', n', x'))))))) ∧ Value.bool x = Value.bool (Prod.snd (Prod.snd (Prod.fst (Prod.snd (Prod.snd (ciM (w, k, (p, n, x), p', n', x'))))))) ∧ False))) ∧ True) ∧ True ∧ True) ∧ ((k == (2 : Int)) = false → True ∧ (((Prod.fst (ciM (w, k, (p, n, x), p', n', x')) = true → (137 : Nat) = (134 : TypeId) ∧ Value.bool p = Value.bool (Prod.fst (Prod.fst (Prod.snd (Prod.snd (ciM (w, k, (p, n, x), p', n', x')))))) ∧ Value.int IntKind.i64 n = Value.int IntKind.i64 (Prod.fst (Prod.snd (Prod.fst (Prod.snd (Prod.snd (ciM (w, k, (p, n, x), p', n', x'))))))) ∧ Value.bool x = Value.bool (Prod.snd (Prod.snd (Prod.fst (Prod.snd (Prod.snd (ciM (w, k, (p, n, x), p', n', x'))))))) ∧ False) ∧ (Prod.fst (ciM (w, k, (p, n, x), p', n', x')) = false → (Prod.fst (Prod.snd (ciM (w, k, (p, n, x), p', n', x'))) = true → (137 : Nat) = (135 : TypeId) ∧ Value.bool p = Value.bool (Prod.fst (Prod.fst (Prod.snd (Prod.snd (ciM (w, k, (p, n, x), p', n', x')))))) ∧ Value.int IntKind.i64 n = Value.int IntKind.i64 (Prod.fst (Prod.snd (Prod.fst (Prod.snd (Prod.snd (ciM (w, k, (p, n, x), p', n', x'))))))) ∧ Value.bool x = Value.bool (Prod.snd (Prod.snd (Prod.fst (Prod.snd (Prod.snd (ciM (w, k, (p, n, x), p', n', x'))))))) ∧ False) ∧ (Prod.fst (Prod.snd (ciM (w, k, (p, n, x), p', n', x'))) = false → (137 : Nat) = (137 : TypeId) ∧ Value.bool p = Value.bool (Prod.fst (Prod.fst (Prod.snd (Prod.snd (ciM (w, k, (p, n, x), p', n', x')))))) ∧ Value.int IntKind.i64 n = Value.int IntKind.i64 (Prod.fst (Prod.snd (Prod.fst (Prod.snd (Prod.snd (ciM (w, k, (p, n, x), p', n', x'))))))) ∧ Value.bool x = Value.bool (Prod.snd (Prod.snd (Prod.fst (Prod.snd (Prod.snd (ciM (w, k, (p, n, x), p', n', x'))))))) ∧ True))) ∧ True) ∧ True ∧ True)))
    (by kernel_rfl) ?_
  simp +contextual [ciM]

theorem read_sound : Sound Try.prog 80 readS.con := FSpec.sound _ (enter_of Try.func80 (by kernel_rfl) (by kernel_rfl)) read_ok

/-! ### isWord -/
def wordM (f w : Int) (x : W3) : Bool := inM x.2.1 0 (W ((if x.1 then w else f) - 1))
def isWordS : FSpec UU where
  X := (Int × Int) × W3
  pick := fun args _ => match args with
    | [.agg [a, b, _, _, _], c] => match avInt a, avInt b, avW c with
      | some a, some b, some c => some ((a, b), c)
      | _, _, _ => none
    | _ => none
  args := fun x => [.agg [.i x.1.1, .i x.1.2, .junk, .junk, .junk], vW x.2]
  H := fun _ => []
  R := fun x => .val ⟨.b (wordM x.1.1 x.1.2 x.2), [], [], []⟩
def Twithin : Tab UU := [(86, withinS.con)]
theorem Twithin_ok : Twithin.Sound Try.prog := .cons within_sound .nil
set_option maxRecDepth 100000 in
theorem isWord_ok : ∀ x, isWordS.pre x → FunOk Try.prog 54 (isWordS.args x) (isWordS.H x) (isWordS.R x) := by
  rintro ⟨⟨f, w⟩, ⟨p, n, x⟩⟩ h
  refine fun_of (T := Twithin) (L := fun _ => none) (hs := fun _ => []) hmix Twithin_ok Try.func54 (by kernel_rfl) (by kernel_rfl) ?_
  refine Eq.mp (α :=
      (p = true → True ∧ (Value.int IntKind.i64 n = Value.int IntKind.i64 n ∧ Value.int IntKind.i64 (0 : Int) = Value.int IntKind.i64 (0 : Int) ∧ Value.int IntKind.i64 (IntKind.wrap IntKind.i64 (w - (1 : Int))) = Value.int IntKind.i64 (IntKind.wrap IntKind.i64 (w - (1 : Int))) ∧ True) ∧ True ∧ True ∧ (Value.bool (inM n (0 : Int) (IntKind.wrap IntKind.i64 (w - (1 : Int)))) = Value.bool (wordM f w (p, n, x)) ∧ True) ∧ True ∧ True) ∧ (p = false → True ∧ (Value.int IntKind.i64 n = Value.int IntKind.i64 n ∧ Value.int IntKind.i64 (0 : Int) = Value.int IntKind.i64 (0 : Int) ∧ Value.int IntKind.i64 (IntKind.wrap IntKind.i64 (f - (1 : Int))) = Value.int IntKind.i64 (IntKind.wrap IntKind.i64 (f - (1 : Int))) ∧ True) ∧ True ∧ True ∧ (Value.bool (inM n (0 : Int) (IntKind.wrap IntKind.i64 (f - (1 : Int)))) = Value.bool (wordM f w (p, n, x)) ∧ True) ∧ True ∧ True))
    (by kernel_rfl) ?_
  refine ⟨fun h1 => ?_, fun h1 => ?_⟩ <;> simp [wordM, h1]

theorem isWord_sound : Sound Try.prog 54 isWordS.con := FSpec.sound _ (enter_of Try.func54 (by kernel_rfl) (by kernel_rfl)) isWord_ok

end AE.Pr
