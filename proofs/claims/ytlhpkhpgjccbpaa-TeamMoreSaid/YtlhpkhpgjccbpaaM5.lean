/- An own symbolic executor for the model's code, and what the functions beneath the law compute, joined out of: TmP, TmQ, TmR, TmS, TmM, TmL, TmT, TmV, TmX, TmY, SoS, SoT, SoV, SoW, SoX, TmRA, TmRB, TmRC, TmRD. No condition. -/
import Derived.Test.YtlhpkhpgjccbpaaM4

set_option linter.unusedSimpArgs false
set_option linter.unusedVariables false
namespace AE.Team
open Go AE Go.Proofs AE.Soil

def uV (n : Int) : AV := .v (.int .u64 n)
def avUi : AV → Option Int
  | .v (.int .u64 n) => some n
  | _ => none
abbrev EntT := Int × Int × Bool
def sfAtM (es : List EntT) (p k : Int) : Bool := mhasM UU MM.safe [p, k] es && (mgetM UU MM.safe [p, k] es).2.2
def setBM (u : Int) (k : Nat) : Int := ((u.toNat ||| 2 ^ k : Nat) : Int)
def freeBM (u : Int) (k : Nat) : Bool := !u.toNat.testBit k
def onM (es : List EntT) (nt : Int) (ps : List Int) : Nat → Nat → Int → List Int → Bool × Int × List Int
  | 0, _, u, out => (true, u, out)
  | n + 1, i, u, out => match (List.range nt.toNat).find? fun k => freeBM u k && sfAtM es (ps.getD i 0) (k : Int) && (onM es nt ps n (i + 1) (setBM u k) (out ++ [(k : Int)])).1 with
    | some k => onM es nt ps n (i + 1) (setBM u k) (out ++ [(k : Int)])
    | none => (false, u, out)
def testM (es : List EntT) (nt : Int) (ps : List Int) (n i : Nat) (u : Int) (out : List Int) (k : Nat) : Bool := freeBM u k && sfAtM es (ps.getD i 0) (k : Int) && (onM es nt ps n (i + 1) (setBM u k) (out ++ [(k : Int)])).1
theorem onM_false {es : List EntT} {nt : Int} {ps : List Int} : ∀ (n i : Nat) (u : Int) (out : List Int), (onM es nt ps n i u out).1 = false → onM es nt ps n i u out = (false, u, out)
  | 0, i, u, out, h => by simp [onM] at h
  | n + 1, i, u, out, h => by
    rw [onM] at h ⊢
    split at h
    · rename_i k hk
      have := List.find?_some hk
      simp only [Bool.and_eq_true] at this
      rw [this.2] at h
      cases h
    · rename_i hk
      rfl
theorem on_some {es : List EntT} {nt : Int} {ps : List Int} {n i : Nat} {u : Int} {out : List Int} {k : Nat} (hk : (k : Int) < nt) (h : testM es nt ps n i u out k = true) (h0 : ∀ j, j < k → testM es nt ps n i u out j = false) : onM es nt ps (n + 1) i u out = onM es nt ps n (i + 1) (setBM u k) (out ++ [(k : Int)]) := by
  have : (List.range nt.toNat).find? (fun k => testM es nt ps n i u out k) = some k := by
    rw [List.find?_range_eq_some]
    refine ⟨h, List.mem_range.2 (by omega), fun j hj => ?_⟩
    rw [h0 j hj]; rfl
  rw [onM]
  simp only [testM] at this
  rw [this]
theorem on_none {es : List EntT} {nt : Int} {ps : List Int} {n i : Nat} {u : Int} {out : List Int} (h0 : ∀ j : Nat, (j : Int) < nt → testM es nt ps n i u out j = false) : onM es nt ps (n + 1) i u out = (false, u, out) := by
  have : (List.range nt.toNat).find? (fun k => testM es nt ps n i u out k) = none := by
    rw [List.find?_range_eq_none]
    intro j hj
    rw [h0 j (by omega)]; rfl
  rw [onM]
  simp only [testM] at this
  rw [this]
theorem has_math {u : Int} {k : Nat} (h1 : 0 ≤ u) (h2 : u < 64) (h3 : k < 6) : (IntKind.u64.wrap (BitVec.ofInt 64 (u.fdiv (2 ^ min k 64)) &&& BitVec.ofInt 64 1).toNat == 1) = !freeBM u k := by
  obtain ⟨m, rfl⟩ := Int.eq_ofNat_of_zero_le h1
  have hm : m < 64 := by omega
  have : ∀ m : Fin 64, ∀ k : Fin 6, (IntKind.u64.wrap (BitVec.ofInt 64 (((m.val : Nat) : Int).fdiv (2 ^ min k.val 64)) &&& BitVec.ofInt 64 1).toNat == 1) = !freeBM ((m.val : Nat) : Int) k.val := by decide +kernel
  exact this ⟨m, hm⟩ ⟨k, h3⟩
theorem set_math {u : Int} {k : Nat} (h1 : 0 ≤ u) (h2 : u < 64) (h3 : k < 6) : IntKind.u64.wrap (BitVec.ofInt 64 u ||| BitVec.ofInt 64 (IntKind.u64.wrap (1 * 2 ^ min k 64))).toNat = setBM u k := by
  obtain ⟨m, rfl⟩ := Int.eq_ofNat_of_zero_le h1
  have hm : m < 64 := by omega
  have : ∀ m : Fin 64, ∀ k : Fin 6, IntKind.u64.wrap (BitVec.ofInt 64 ((m.val : Nat) : Int) ||| BitVec.ofInt 64 (IntKind.u64.wrap (1 * 2 ^ min k.val 64))).toNat = setBM ((m.val : Nat) : Int) k.val := by decide +kernel
  exact this ⟨m, hm⟩ ⟨k, h3⟩
theorem set_lt {u : Int} {k : Nat} (h1 : 0 ≤ u) (h2 : u < 64) (h3 : k < 6) : 0 ≤ setBM u k ∧ setBM u k < 64 := by
  obtain ⟨m, rfl⟩ := Int.eq_ofNat_of_zero_le h1
  have hm : m < 64 := by omega
  have : ∀ m : Fin 64, ∀ k : Fin 6, 0 ≤ setBM ((m.val : Nat) : Int) k.val ∧ setBM ((m.val : Nat) : Int) k.val < 64 := by decide +kernel
  exact this ⟨m, hm⟩ ⟨k, h3⟩
theorem clear_math {u : Int} {k : Nat} (h1 : 0 ≤ u) (h2 : u < 64) (h3 : k < 6) (hf : freeBM u k = true) : IntKind.u64.wrap (BitVec.ofInt 64 (setBM u k) &&& ~~~BitVec.ofInt 64 (IntKind.u64.wrap (1 * 2 ^ min k 64))).toNat = u := by
  obtain ⟨m, rfl⟩ := Int.eq_ofNat_of_zero_le h1
  have hm : m < 64 := by omega
  have : ∀ m : Fin 64, ∀ k : Fin 6, freeBM ((m.val : Nat) : Int) k.val = true → IntKind.u64.wrap (BitVec.ofInt 64 (setBM ((m.val : Nat) : Int) k.val) &&& ~~~BitVec.ofInt 64 (IntKind.u64.wrap (1 * 2 ^ min k.val 64))).toNat = ((m.val : Nat) : Int) := by decide +kernel
  exact this ⟨m, hm⟩ ⟨k, h3⟩ hf
abbrev OnT := List EntT × Int × List Int × Nat × Int × List Int
def mapSafe : (m : MM) → List (MM.ty m) → Option (List EntT)
  | .safe, l => some l
  | _, _ => none
def avField (H : Heap UU) : AV → Option (List EntT × Int)
  | .ptr i 0 0 0 => match blkAt H i 0 with
    | some (.cells [.map m 0, n, _] _) => match blkAt H m 0, avInt n with
      | some (.map m l), some n => match mapSafe m l with
        | some l => some (l, n)
        | none => none
      | _, _ => none
    | some (.rc [.map m 0, n, _] _) => match blkAt H m 0, avInt n with
      | some (.map m l), some n => match mapSafe m l with
        | some l => some (l, n)
        | none => none
      | _, _ => none
    | _ => none
  | _ => none
def nilV : AV := .v (.slice none 0 0)
def isNilV : AV → Bool
  | .v (.slice none 0 0) => true
  | _ => false
def onH (b : Bool) (x : OnT) : Heap UU := [.one (.rc [.sl 1 0 0 x.2.2.1.length] 41), .one (.ro .int x.2.2.1), .one (.rc [.ptr 3 0 0 0] 86), .one (.rc [.map 4 0, .i x.2.1, .junk] 94), .one (.map .safe x.1), .one (.cells [uV x.2.2.2.2.1] 91), .one (.cells [match b with | true => nilV | false => .gs 7 0] 41), match b with | true => .none | false => .one (.row .int x.2.2.2.2.2 3), .one (.rc [.fn (.func 69) [] [.ptr 0 0 0 0, .ptr 2 0 0 0, .ptr 5 0 0 0, .ptr 6 0 0 0, .ptr 8 0 0 0]] 53)]
def onHL (x : OnT) : Heap UU := [.one (.rc [.sl 1 0 0 x.2.2.1.length] 41), .one (.ro .int x.2.2.1), .one (.rc [.ptr 3 0 0 0] 86), .one (.rc [.map 4 0, .i x.2.1, .junk] 94), .one (.map .safe x.1), .one (.cells [uV x.2.2.2.2.1] 91), .one (.cells [.gs 9 0] 41), .none, .one (.rc [.fn (.func 69) [] [.ptr 0 0 0 0, .ptr 2 0 0 0, .ptr 5 0 0 0, .ptr 6 0 0 0, .ptr 8 0 0 0]] 53), .one (.row .int x.2.2.2.2.2 3)]
def onS (n : Nat) : FSpec UU where
  X := Bool × OnT
  pick := fun args H => match args with
    | [i, a, b, c, d, _] => match avInt i, avCells H a, avCells H b, avCells H c, avCells H d with
      | some i, some [s], some [f], some [u], some [o] => match sliceAt .int H s, avField H f, avUi u, sliceAt .int H o with
        | some s, some f, some u, some l => some (isNilV o, f.1, f.2, s, i.toNat, u, l)
        | _, _, _, _ => none
      | _, _, _, _, _ => none
    | _ => none
  args := fun x => [.i (x.2.2.2.2.1 : Nat), .ptr 0 0 0 0, .ptr 2 0 0 0, .ptr 5 0 0 0, .ptr 6 0 0 0, .ptr 8 0 0 0]
  H := fun x => onH x.1 x.2
  R := fun x => .val ⟨.b (onM x.2.1 x.2.2.1 x.2.2.2.1 n x.2.2.2.2.1 x.2.2.2.2.2.1 x.2.2.2.2.2.2).1, [(4, 0, .map .safe x.2.1), (5, 0, .cells [uV (onM x.2.1 x.2.2.1 x.2.2.2.1 n x.2.2.2.2.1 x.2.2.2.2.2.1 x.2.2.2.2.2.2).2.1] 91), (6, 0, .cells [.gs 9 0] 41)], match x.1 with | true => [] | false => [(7, 0)], [.row .int (onM x.2.1 x.2.2.1 x.2.2.2.1 n x.2.2.2.2.1 x.2.2.2.2.2.1 x.2.2.2.2.2.2).2.2 3]⟩
  pre := fun x => (x.1 = true → x.2.2.2.2.2.2 = []) ∧ x.2.2.2.2.1 + n = x.2.2.2.1.length ∧ x.2.2.2.1.length ≤ 6 ∧ x.2.2.2.2.2.2.length = x.2.2.2.2.1 ∧ 0 ≤ x.2.2.2.2.2.1 ∧ x.2.2.2.2.2.1 < 64 ∧ 0 ≤ x.2.2.1 ∧ x.2.2.1 ≤ 6
set_option maxHeartbeats 0 in
set_option maxRecDepth 100000 in
theorem on_ok0f : ∀ x, (onS 0).pre (false, x) → FunOk Try.prog 69 ((onS 0).args (false, x)) ((onS 0).H (false, x)) ((onS 0).R (false, x)) := by
  rintro ⟨es, nt, ps, i, u, out⟩ ⟨hn, hx⟩
  refine fun_of (T := []) (L := fun _ => some (.inv { T := Empty, fr := fun _ => [], H := fun _ => [], mu := fun _ => 0 })) (hs := fun _ => []) hmix .nil Try.func69 (by kernel_rfl) (by kernel_rfl) ?_
  refine Eq.mp (α :=
      let Z0 := (69 : FuncId); let Z1 := nat_lit 0 = nat_lit 0 ∧ nat_lit 0 = nat_lit 0 ∧ nat_lit 0 = nat_lit 0; let Z5 := Prod.snd (onM es nt ps (nat_lit 0) i u out); let Z6 := (↑i : Int) == (↑(List.length ps) : Int); (Z6 = true → True ∧ (Value.bool (Prod.fst (onM es nt ps (nat_lit 0) i u out)) = Value.bool true ∧ True) ∧ True ∧ ((nat_lit 0 = nat_lit 0 ∧ nat_lit 0 = nat_lit 0 ∧ List.length ps = List.length ps) ∧ True) ∧ ps = ps ∧ (Z1 ∧ True) ∧ (nat_lit 0 = nat_lit 0 ∧ Value.int IntKind.i64 nt = Value.int IntKind.i64 nt ∧ True ∧ True) ∧ es = es ∧ (Value.int IntKind.u64 u = Value.int IntKind.u64 (Prod.fst Z5) ∧ True) ∧ (nat_lit 0 = nat_lit 0 ∧ True) ∧ True ∧ ((Fn.func Z0 = Fn.func Z0 ∧ True ∧ Z1 ∧ Z1 ∧ Z1 ∧ Z1 ∧ Z1 ∧ True) ∧ True) ∧ ((3 : TypeId) = (3 : TypeId) ∧ out = Prod.snd Z5) ∧ True) ∧ (Z6 = false → (∃ (x : Empty), False) ∧ ∀ (t : Empty), False))
    (by kernel_rfl) ?_
  simp only [eq_self, true_and, and_true, Int.toNat_natCast, Nat.zero_add, Nat.sub_zero, Value.int.injEq, Value.bool.injEq, decide_eq_true_eq, decide_eq_false_iff_not]
  have h1 : i + 0 = ps.length := hx.1
  refine ⟨fun _ => ⟨rfl, rfl, rfl⟩, fun h => ?_⟩
  rw [← h1] at h
  simp at h

set_option maxHeartbeats 0 in
set_option maxRecDepth 100000 in
theorem on_ok0t : ∀ x, (onS 0).pre (true, x) → FunOk Try.prog 69 ((onS 0).args (true, x)) ((onS 0).H (true, x)) ((onS 0).R (true, x)) := by
  rintro ⟨es, nt, ps, i, u, out⟩ ⟨hn, hx⟩
  refine fun_of (T := []) (L := fun _ => some (.inv { T := Empty, fr := fun _ => [], H := fun _ => [], mu := fun _ => 0 })) (hs := fun _ => []) hmix .nil Try.func69 (by kernel_rfl) (by kernel_rfl) ?_
  refine Eq.mp (α :=
      let Z0 := True ∧ True ∧ True ∧ True; let Z1 := (69 : FuncId); let Z3 := nat_lit 0 = nat_lit 0 ∧ nat_lit 0 = nat_lit 0 ∧ nat_lit 0 = nat_lit 0; let Z6 := Prod.snd (onM es nt ps (nat_lit 0) i u out); let Z7 := (↑i : Int) == (↑(List.length ps) : Int); (Z7 = true → True ∧ (True ∧ True) ∧ ((True ∧ True) ∧ True ∧ (True ∧ True) ∧ Z0 ∧ True ∧ (True ∧ True) ∧ (nat_lit 0 = nat_lit 0 ∧ True) ∧ True ∧ ((True ∧ True ∧ True ∧ Z0) ∧ True) ∧ Prod.snd Z6 = [] ∧ True) ∧ (Value.bool (Prod.fst (onM es nt ps (nat_lit 0) i u out)) = Value.bool true ∧ True) ∧ True ∧ ((nat_lit 0 = nat_lit 0 ∧ nat_lit 0 = nat_lit 0 ∧ List.length ps = List.length ps) ∧ True) ∧ ps = ps ∧ (Z3 ∧ True) ∧ (nat_lit 0 = nat_lit 0 ∧ Value.int IntKind.i64 nt = Value.int IntKind.i64 nt ∧ True ∧ True) ∧ es = es ∧ (Value.int IntKind.u64 u = Value.int IntKind.u64 (Prod.fst Z6) ∧ True) ∧ (Value.slice none (nat_lit 0) (nat_lit 0) = Value.slice none (nat_lit 0) (nat_lit 0) ∧ True) ∧ True ∧ ((Fn.func Z1 = Fn.func Z1 ∧ True ∧ Z3 ∧ Z3 ∧ Z3 ∧ Z3 ∧ Z3 ∧ True) ∧ True) ∧ True ∧ True) ∧ (Z7 = false → (∃ (x : Empty), False) ∧ ∀ (t : Empty), False))
    (by kernel_rfl) ?_
  simp only [eq_self, true_and, and_true, Int.toNat_natCast, Nat.zero_add, Nat.sub_zero, Value.int.injEq, Value.bool.injEq, decide_eq_true_eq, decide_eq_false_iff_not]
  have h1 : i + 0 = ps.length := hx.1
  have ho : out = [] := hn rfl
  refine ⟨fun _ => ⟨ho, rfl, rfl⟩, fun h => ?_⟩
  rw [← h1] at h
  simp at h

def onL (n : Nat) (x : OnT) : LSpec UU where
  T := { k : Nat // (k : Int) ≤ x.2.1 ∧ ∀ j, j < k → (freeBM x.2.2.2.2.1 j && sfAtM x.1 (x.2.2.1.getD x.2.2.2.1 0) (j : Int) && (onM x.1 x.2.1 x.2.2.1 n (x.2.2.2.1 + 1) (setBM x.2.2.2.2.1 j) (x.2.2.2.2.2 ++ [(j : Int)])).1) = false }
  fr := fun k => [(0, .i (x.2.2.2.1 : Nat)), (1, .ptr 0 0 0 0), (2, .ptr 2 0 0 0), (3, .ptr 5 0 0 0), (4, .ptr 6 0 0 0), (5, .ptr 8 0 0 0), (7, .b false), (16, .i x.2.1), (17, .i k.1)]
  H := fun _ => onHL x
  mu := fun k => (x.2.1 - k.1).toNat
def Ton (n : Nat) : Tab UU := [(69, (onS n).con)]
set_option maxHeartbeats 0 in
set_option maxRecDepth 100000 in
theorem on_okSf (n : Nat) (hT : (Ton n).Sound Try.prog) : ∀ x, (onS (n + 1)).pre (false, x) → FunOk Try.prog 69 ((onS (n + 1)).args (false, x)) ((onS (n + 1)).H (false, x)) ((onS (n + 1)).R (false, x)) := by
  rintro ⟨es, nt, ps, i, u, out⟩ ⟨hn, hx⟩
  refine fun_of (T := Ton n) (L := fun _ => some (.inv (onL n (es, nt, ps, i, u, out)))) (hs := fun _ => []) hmix hT Try.func69 (by kernel_rfl) (by kernel_rfl) ?_
  refine Eq.mp (α :=
      let Z0 := (69 : FuncId); let Z1 := Int.toNat (↑i : Int); let Z2 := List.length ps = List.length ps; let Z3 := (↑(List.length ps) : Int); let Z4 := nat_lit 0 = nat_lit 0 ∧ nat_lit 0 = nat_lit 0 ∧ nat_lit 0 = nat_lit 0; let Z5 := Fn.func Z0; let Z6 := BitVec.ofInt (nat_lit 64) (1 : Int); let Z7 := nat_lit 3 = (3 : TypeId); let Z8 := n + nat_lit 1; let Z9 := Value.int IntKind.i64 (↑i : Int); let Z10 := BitVec.ofInt (64 : Nat) u; let Z11 := Value.bool false = Value.bool false; let Z12 := Z4 ∧ True; let Z13 := fun (j : Nat) => [(↑j : Int)]; let Z14 := Value.int IntKind.i64 nt = Value.int IntKind.i64 nt; let Z15 := Value.int IntKind.u64 u = Value.int IntKind.u64 u; let Z16 := nat_lit 0 = nat_lit 0 ∧ Z2; let Z17 := (i, u, out); let Z18 := Z15 ∧ True; let Z19 := onM es nt ps Z8 i u out; let Z20 := Z14 ∧ True ∧ True; let Z21 := nat_lit 0 = nat_lit 0 ∧ Z16; let Z22 := (3 : TypeId) = (3 : TypeId); let Z23 := (0 : Int) ≤ (↑i : Int); let Z24 := nat_lit 0 + Z1; let Z25 := Z21 ∧ True; let Z26 := nat_lit 0 = nat_lit 0 ∧ Z20; let Z27 := Z5 = Z5; let Z28 := (↑i : Int) + (1 : Int); let Z29 := Z4 ∧ Z12; let Z30 := Prod.fst Z19; let Z31 := Prod.snd Z19; let Z32 := Z9 = Z9; let Z33 := (ps, Z17); let Z34 := Value.bool Z30; let Z35 := Z22 ∧ out = out; let Z36 := (↑i : Int) == Z3; let Z37 := IntKind.wrap IntKind.i64 Z28; let Z38 := Prod.fst Z31; let Z39 : List Int := Prod.snd Z31; let Z40 := Z35 ∧ True; let Z41 := Int.toNat Z37; let Z42 := Z34 = Value.bool true; let Z43 := List.getD ps Z24 (0 : Int); let Z44 := Value.int IntKind.u64 Z38; let Z45 := Z4 ∧ Z29; let Z46 := Z42 ∧ True; let Z47 := out = Z39; let Z48 := (nt, Z33); let Z49 := Value.int IntKind.u64 u = Z44; let Z50 := Z49 ∧ True; let Z51 := Z4 ∧ Z45; let Z52 := Z22 ∧ Z47; let Z53 := (es, Z48); let Z54 := Z4 ∧ Z51; let Z55 := Z52 ∧ True; let Z56 := True ∧ Z54; let Z57 := Prod.snd Z53; let Z58 : List EntT := Prod.fst Z53; let Z59 := Z27 ∧ Z56; let Z60 := Z59 ∧ True; let Z61 := Prod.fst Z57; let Z62 := Prod.snd Z57; let Z63 : List Int := Prod.fst Z62; let Z64 := Prod.snd Z62; let Z65 := fun (k : Nat) => (↑k : Int) ≤ Z61; let Z66 := Prod.snd Z64; let Z67 := Prod.fst Z64; let Z68 : List Int := Prod.snd Z66; let Z69 := Prod.fst Z66; let Z70 := fun (j : Nat) => setBM Z69 j; let Z71 := fun (j : Nat) => freeBM Z69 j; let Z72 := Z60 ∧ Z40; let Z73 := True ∧ Z72; let Z74 := Z67 + (1 : Nat); let Z75 := (nat_lit 0 = nat_lit 0 ∧ True) ∧ Z73; let Z76 := Z18 ∧ Z75; let Z77 := fun (j : Nat) => Z68 ++ Z13 j; let Z78 := Z60 ∧ Z55; let Z79 := True ∧ Z78; let Z80 := es = es ∧ Z76; let Z81 := (nat_lit 0 = nat_lit 0 ∧ True) ∧ Z79; let Z82 := Z26 ∧ Z80; let Z83 := Z12 ∧ Z82; let Z84 := ps = ps ∧ Z83; let Z85 := Z50 ∧ Z81; let Z86 := es = es ∧ Z85; let Z87 := List.getD Z63 Z67 (0 : Int); let Z88 := Z25 ∧ Z84; let Z89 := True ∧ Z88; let Z90 := Z26 ∧ Z86; let Z91 := Z12 ∧ Z90; let Z92 := ps = ps ∧ Z91; let Z93 := Z25 ∧ Z92; let Z94 := True ∧ Z93; let Z95 := fun (j : Nat) => sfAtM Z58 Z87 (↑j : Int); let Z96 := fun (j : Nat) => Z71 j && Z95 j; let Z97 := fun (j : Nat) => onM Z58 Z61 Z63 n Z74 (Z70 j) (Z77 j); let Z98 := fun (j : Nat) => Prod.fst (Z97 j); let Z99 := fun (j : Nat) => Z96 j && Z98 j; let Z100 := fun (j : Nat) => Z99 j = false; let Z101 := fun (j k : Nat) => j < k → Z100 j; let Z102 := fun (k : Nat) => ∀ (j : Nat), Z101 j k; let Z103 := fun (k : Nat) => Z65 k ∧ Z102 k; let Z104 : Type := { k : Nat // Z103 k }; let Z105 := fun (x : Z104) => Subtype.val x; let Z106 := fun (x : Z104) => (↑(Z105 x) : Int); let Z107 := fun (t : Z104) => Int.toNat (Z106 t); let Z108 := fun (x : Z104) => Value.int IntKind.i64 (Z106 x); let Z109 := fun (t : Z104) => Z106 t < nt; let Z110 := fun (t : Z104) => [Z106 t]; let Z111 := fun (t : Z104) => AV.v (Z108 t); let Z112 := fun (t : Z104) => min (Z107 t) (nat_lit 64); let Z113 := fun (x : Z104) => nt - Z106 x; let Z114 := fun (t : Z104) => (0 : Int) ≤ Z106 t; let Z115 := fun (x : Z104) => Int.toNat (Z113 x); let Z116 := fun (t : Z104) => [Z106 t]; let Z117 := fun (t : Z104) => min (Z107 t) (64 : Nat); let Z118 := fun (t : Z104) => Z106 t + (1 : Int); let Z119 := fun (t : Z104) => List.drop (nat_lit 0) (Z116 t); let Z120 := fun (t : Z104) => IntKind.wrap IntKind.i64 (Z118 t); let Z121 := fun (t : Z104) => Value.int IntKind.i64 (Z120 t); let Z122 := fun (t : Z104) => List.drop (0 : Nat) (Z116 t); let Z123 := fun (t : Z104) => List.take (nat_lit 1) (Z119 t); let Z124 := fun (t : Z104) => (2 : Int) ^ Z112 t; let Z125 := fun (t : Z104) => Int.fdiv u (Z124 t); let Z126 := fun (t : Z104) => BitVec.ofInt (nat_lit 64) (Z125 t); let Z127 := fun (t : Z104) => (2 : Int) ^ Z117 t; let Z128 := fun (t : Z104) => Z43 :: Z110 t; let Z129 := fun (t : Z104) => List.take (1 : Nat) (Z122 t); let Z130 := fun (t : Z104) => (1 : Int) * Z124 t; let Z131 := fun (t : Z104) => mhasM UU MM.safe (Z128 t) es; let Z132 := fun (t : Z104) => mgetM UU MM.safe (Z128 t) es; let Z133 := fun (t : Z104) => IntKind.wrap IntKind.u64 (Z130 t); let Z134 := fun (t : Z104) => (1 : Int) * Z127 t; let Z135 := fun (t : Z104) => Prod.snd (Z132 t); let Z136 := fun (t : Z104) => BitVec.ofInt (nat_lit 64) (Z133 t); let Z137 := fun (t : Z104) => Prod.snd (Z135 t); let Z138 := fun (t : Z104) => IntKind.wrap IntKind.u64 (Z134 t); let Z139 := fun (t : Z104) => BitVec.ofInt (64 : Nat) (Z138 t); let Z140 := fun (t : Z104) => out ++ Z123 t; let Z141 := fun (t : Z104) => out ++ Z129 t; let Z142 := fun (t : Z104) => Z126 t &&& Z6; let Z143 := fun (t : Z104) => BitVec.toNat (Z142 t); let Z144 := fun (t : Z104) => (↑(Z143 t) : Int); let Z145 := fun (t : Z104) => BitVec.ofInt (nat_lit 64) u ||| Z136 t; let Z146 := fun (t : Z104) => IntKind.wrap IntKind.u64 (Z144 t); let Z147 := fun (t : Z104) => BitVec.toNat (Z145 t); let Z148 := fun (t : Z104) => (↑(Z147 t) : Int); let Z149 := fun (t : Z104) => IntKind.wrap IntKind.u64 (Z148 t); let Z150 := fun (t : Z104) => Value.int IntKind.u64 (Z149 t); let Z151 := fun (t : Z104) => Z146 t == (1 : Int); let Z152 := fun (t : Z104) => Z10 ||| Z139 t; let Z153 := fun (t : Z104) => BitVec.toNat (Z152 t); let Z154 := fun (t : Z104) => (↑(Z153 t) : Int); let Z155 := fun (t : Z104) => IntKind.wrap IntKind.u64 (Z154 t); let Z156 := fun (x t : Z104) => Z115 x < Z115 t; let Z157 := fun (t x : Z104) => Z121 t = Z108 x; let Z158 := fun (t x : Z104) => Z157 t x ∧ True; let Z159 := fun (t x : Z104) => Z14 ∧ Z158 t x; let Z160 := fun (t x : Z104) => Z11 ∧ Z159 t x; let Z161 := fun (t x : Z104) => Z4 ∧ Z160 t x; let Z162 := fun (t x : Z104) => Z4 ∧ Z161 t x; let Z163 := fun (t x : Z104) => Z4 ∧ Z162 t x; let Z164 := fun (t : Z104) => decide (Z109 t); let Z165 := fun (t x : Z104) => Z4 ∧ Z163 t x; let Z166 := fun (t : Z104) => bif Z131 t then Z137 t else false; let Z167 := fun (t : Z104) => !Z166 t; let Z168 := fun (t x : Z104) => Z4 ∧ Z165 t x; let Z169 := fun (t x : Z104) => Z32 ∧ Z168 t x; let Z170 := fun (t : Z104) => onM es nt ps n Z41 (Z149 t) (Z141 t); let Z171 := fun (t : Z104) => Prod.fst (Z170 t); let Z172 := fun (t : Z104) => Prod.snd (Z170 t); let Z173 := fun (t : Z104) => Prod.fst (Z172 t); let Z174 := fun (t : Z104) => onM es nt ps n Z41 (Z155 t) (Z140 t); let Z175 := fun (t : Z104) => Prod.snd (Z174 t); let Z176 := fun (t : Z104) => Prod.snd (Z175 t); let Z179 := fun (t : Z104) => ∃ (x : Z104), (Z169 t x ∧ Z89) ∧ Z156 x t; (Z36 = true → True ∧ Z46 ∧ Z94) ∧ (Z36 = false → (∃ (x : Z104), (Z32 ∧ Z4 ∧ Z4 ∧ Z4 ∧ Z4 ∧ Z4 ∧ Z11 ∧ Z14 ∧ Value.int IntKind.i64 (0 : Int) = Z108 x ∧ True) ∧ Z89) ∧ ∀ (t : Z104), (Z164 t = true → Z114 t ∧ (Z151 t = true → True ∧ Z179 t) ∧ (Z151 t = false → (Z23 ∧ (↑i : Int) < Z3) ∧ Z24 < List.length ps ∧ (Z167 t = true → True ∧ Z179 t) ∧ (Z167 t = false → Z114 t ∧ (nat_lit 1 = nat_lit 1 ∧ Z111 t = Z111 t ∧ True) ∧ nat_lit 1 ≤ nat_lit 1 ∧ List.length out + nat_lit 1 ≤ nat_lit 1099511627776 ∧ ((false = true → Z141 t = []) ∧ Z41 + n = List.length ps ∧ List.length ps ≤ nat_lit 6 ∧ List.length (Z141 t) = Z41 ∧ (0 : Int) ≤ Z149 t ∧ Z149 t < (64 : Int) ∧ (0 : Int) ≤ nt ∧ nt ≤ (6 : Int)) ∧ (Value.int IntKind.i64 Z37 = Value.int IntKind.i64 (↑Z41 : Int) ∧ Z54) ∧ (Z25 ∧ ps = ps ∧ Z12 ∧ Z26 ∧ es = es ∧ (Z150 t = Z150 t ∧ True) ∧ (nat_lit 0 = nat_lit 0 ∧ True) ∧ (Z7 ∧ Z141 t = Z141 t) ∧ Z60 ∧ True) ∧ (Z171 t = true → True ∧ Z46 ∧ True ∧ Z25 ∧ ps = ps ∧ Z12 ∧ Z26 ∧ es = es ∧ (Value.int IntKind.u64 (Z173 t) = Z44 ∧ True) ∧ (nat_lit 0 = nat_lit 0 ∧ True) ∧ True ∧ Z60 ∧ (Z22 ∧ Z176 t = Z39) ∧ True) ∧ (Z171 t = false → Z114 t ∧ ((0 : Int) = (0 : Int) ∧ Z23 ∧ (↑i : Int) ≤ (↑(List.length (Prod.snd (Z172 t))) : Int)) ∧ True ∧ ∃ (x : Z104), (Z169 t x ∧ True ∧ Z25 ∧ ps = ps ∧ Z12 ∧ Z26 ∧ es = es ∧ (Value.int IntKind.u64 (IntKind.wrap IntKind.u64 (↑(BitVec.toNat (BitVec.ofInt (nat_lit 64) (Z173 t) &&& ~~~Z136 t)) : Int)) = Value.int IntKind.u64 u ∧ True) ∧ (nat_lit 0 = nat_lit 0 ∧ True) ∧ True ∧ Z60 ∧ (Z7 ∧ List.take Z1 (Z176 t) = out) ∧ True) ∧ Z156 x t)))) ∧ (Z164 t = false → True ∧ (Z34 = Value.bool false ∧ True) ∧ Z94)))
    (by kernel_rfl) ?_
  simp only [eq_self, true_and, and_true, Int.toNat_natCast, Nat.zero_add, Nat.sub_zero, Value.int.injEq, Value.bool.injEq, decide_eq_true_eq, decide_eq_false_iff_not]
  have x1 : i + (n + 1) = ps.length := hx.1
  have x2 : ps.length ≤ 6 := hx.2.1
  have x3 : out.length = i := hx.2.2.1
  have x4 : 0 ≤ u := hx.2.2.2.1
  have x5 : u < 64 := hx.2.2.2.2.1
  have x6 : 0 ≤ nt := hx.2.2.2.2.2.1
  have x7 : nt ≤ 6 := hx.2.2.2.2.2.2
  have hw : IntKind.i64.wrap ((i : Int) + 1) = ((i + 1 : Nat) : Int) := sucI i (by omega)
  refine ⟨fun h => ?_, fun h => ⟨⟨⟨0, x6, fun j hj => absurd hj (Nat.not_lt_zero j)⟩, rfl⟩, fun t => ⟨fun ht => ⟨Int.natCast_nonneg _, ?_⟩, fun ht => ?_⟩⟩⟩
  · have h' : (i : Int) = (ps.length : Int) := by simpa using h
    omega
  · obtain ⟨k, hk, h0⟩ := t
    have hlt : (k : Int) < nt := ht
    have hk6 : k < 6 := by omega
    have hsl := set_lt x4 x5 hk6
    have nxt : testM es nt ps n i u out k = false → ∃ x : { k : Nat // (k : Int) ≤ nt ∧ ∀ j, j < k → testM es nt ps n i u out j = false }, IntKind.i64.wrap ((k : Int) + 1) = (x.1 : Int) ∧ (nt - (x.1 : Int)).toNat < (nt - (k : Int)).toNat := fun hf =>
      ⟨⟨k + 1, by omega, below_succ h0 hf⟩, sucI k (by omega), by show (nt - ((k + 1 : Nat) : Int)).toNat < (nt - (k : Int)).toNat; omega⟩
    simp only [has_math x4 x5 hk6, set_math x4 x5 hk6, hw, Int.toNat_natCast, List.drop_zero, List.take_succ_cons, List.take_zero]
    refine ⟨fun hu => ?_, fun hu => ⟨⟨Int.natCast_nonneg _, by omega⟩, by omega, fun hs => ?_, fun hs => ⟨Int.natCast_nonneg _, Nat.le_refl _, by omega, ⟨fun h => absurd h (by decide), by omega, x2, by rw [List.length_append, x3]; rfl, hsl.1, hsl.2, x6, x7⟩, trivial, fun hr => ?_, fun hr => ?_⟩⟩⟩
    · refine nxt ?_
      have : freeBM u k = false := by simpa using hu
      unfold testM; rw [this]; rfl
    · refine nxt ?_
      have : sfAtM es (ps.getD i 0) (k : Int) = false := by
        unfold sfAtM
        cases hh : mhasM UU MM.safe [ps.getD i 0, (k : Int)] es with
        | true => rw [hh] at hs; simpa using hs
        | false => rfl
      unfold testM; rw [this, Bool.and_false]; rfl
    all_goals
      have hfr : freeBM u k = true := by simpa using hu
      have hsf : sfAtM es (ps.getD i 0) (k : Int) = true := by
        unfold sfAtM
        cases hh : mhasM UU MM.safe [ps.getD i 0, (k : Int)] es with
        | true => rw [hh] at hs; simpa using hs
        | false => rw [hh] at hs; simp at hs
    · have ht' : testM es nt ps n i u out k = true := by unfold testM; rw [hfr, hsf, hr]; rfl
      have e := on_some hlt ht' h0
      rw [e]
      exact ⟨hr, rfl, rfl⟩
    · have ht' : testM es nt ps n i u out k = false := by unfold testM; rw [hr, Bool.and_false]
      have e := onM_false _ _ _ _ hr
      rw [e]
      obtain ⟨y, hy1, hy2⟩ := nxt ht'
      refine ⟨Int.natCast_nonneg _, ⟨Int.natCast_nonneg _, by rw [List.length_append]; show (i : Int) ≤ ((out.length + 1 : Nat) : Int); omega⟩, y, ⟨hy1, clear_math x4 x5 hk6 hfr, ?_⟩, hy2⟩
      rw [← x3]; exact List.take_left
  · obtain ⟨k, hk, h0⟩ := t
    have hge : ¬ (k : Int) < nt := ht
    have e := on_none (es := es) (nt := nt) (ps := ps) (n := n) (i := i) (u := u) (out := out) (fun j hj => h0 j (by omega))
    rw [e]
    exact ⟨rfl, rfl, rfl⟩

set_option maxHeartbeats 0 in
set_option maxRecDepth 100000 in
theorem on_okSt (n : Nat) (hT : (Ton n).Sound Try.prog) : ∀ x, (onS (n + 1)).pre (true, x) → FunOk Try.prog 69 ((onS (n + 1)).args (true, x)) ((onS (n + 1)).H (true, x)) ((onS (n + 1)).R (true, x)) := by
  rintro ⟨es, nt, ps, i, u, out⟩ ⟨hn, hx⟩
  refine fun_of (T := Ton n) (L := fun _ => some (.inv (onL n (es, nt, ps, i, u, out)))) (hs := fun _ => []) hmix hT Try.func69 (by kernel_rfl) (by kernel_rfl) ?_
  refine Eq.mp (α :=
      let Z0 := True ∧ True ∧ True ∧ True; let Z1 := (69 : FuncId); let Z2 := Int.toNat (↑i : Int); let Z3 := True ∧ Z0; let Z4 := nat_lit 0 = nat_lit 0 ∧ nat_lit 0 = nat_lit 0 ∧ nat_lit 0 = nat_lit 0; let Z5 := List.length ps = List.length ps; let Z6 := (↑(List.length ps) : Int); let Z7 := Fn.func Z1; let Z8 := BitVec.ofInt (nat_lit 64) (1 : Int); let Z9 := nat_lit 3 = (3 : TypeId); let Z10 := n + nat_lit 1; let Z11 := Value.int IntKind.i64 (↑i : Int); let Z12 := BitVec.ofInt (64 : Nat) u; let Z13 := Value.bool false = Value.bool false; let Z14 := True ∧ Z3; let Z15 := Z4 ∧ True; let Z16 := fun (j : Nat) => [(↑j : Int)]; let Z17 := Value.int IntKind.i64 nt = Value.int IntKind.i64 nt; let Z18 := Value.int IntKind.u64 u = Value.int IntKind.u64 u; let Z19 := nat_lit 0 = nat_lit 0 ∧ Z5; let Z20 := (i, u, out); let Z21 := True ∧ Z14; let Z22 := Z18 ∧ True; let Z23 := Z21 ∧ True; let Z24 := onM es nt ps Z10 i u out; let Z25 := Value.slice none (nat_lit 0) (nat_lit 0) = Value.slice none (nat_lit 0) (nat_lit 0); let Z26 := Z17 ∧ True ∧ True; let Z27 := nat_lit 0 = nat_lit 0 ∧ Z19; let Z28 := (3 : TypeId) = (3 : TypeId); let Z29 := (0 : Int) ≤ (↑i : Int); let Z30 := Z25 ∧ True; let Z31 := nat_lit 0 + Z2; let Z32 := Z27 ∧ True; let Z33 := nat_lit 0 = nat_lit 0 ∧ Z26; let Z34 := Z7 = Z7; let Z35 := (↑i : Int) + (1 : Int); let Z36 := Z4 ∧ Z15; let Z37 := Prod.fst Z24; let Z38 := Prod.snd Z24; let Z39 := Z11 = Z11; let Z40 := (ps, Z20); let Z41 := Value.bool Z37; let Z42 := Z28 ∧ out = out; let Z43 := (↑i : Int) == Z6; let Z44 := IntKind.wrap IntKind.i64 Z35; let Z45 := Prod.fst Z38; let Z46 : List Int := Prod.snd Z38; let Z47 := Z42 ∧ True; let Z48 := Int.toNat Z44; let Z49 := Z41 = Value.bool true; let Z50 := List.getD ps Z31 (0 : Int); let Z51 := Value.int IntKind.u64 Z45; let Z52 := Z4 ∧ Z36; let Z53 := Z49 ∧ True; let Z54 := (nt, Z40); let Z55 := Value.int IntKind.u64 u = Z51; let Z56 := Z55 ∧ True; let Z57 := Z4 ∧ Z52; let Z58 := (es, Z54); let Z59 := Z4 ∧ Z57; let Z60 := True ∧ Z59; let Z61 := Prod.snd Z58; let Z62 : List EntT := Prod.fst Z58; let Z63 := Z34 ∧ Z60; let Z64 := Z63 ∧ True; let Z65 := Prod.snd Z61; let Z66 := Prod.fst Z61; let Z67 := Z64 ∧ True ∧ True; let Z68 := True ∧ Z67; let Z69 : List Int := Prod.fst Z65; let Z70 := Prod.snd Z65; let Z71 := fun (k : Nat) => (↑k : Int) ≤ Z66; let Z72 := Prod.fst Z70; let Z73 := Prod.snd Z70; let Z74 := Prod.fst Z73; let Z75 : List Int := Prod.snd Z73; let Z76 := Z30 ∧ Z68; let Z77 := fun (j : Nat) => setBM Z74 j; let Z78 := fun (j : Nat) => freeBM Z74 j; let Z79 := Z64 ∧ Z47; let Z80 := True ∧ Z79; let Z81 := Z72 + (1 : Nat); let Z82 := (nat_lit 0 = nat_lit 0 ∧ True) ∧ Z80; let Z83 := Z22 ∧ Z82; let Z84 := fun (j : Nat) => Z75 ++ Z16 j; let Z85 := es = es ∧ Z83; let Z86 := Z33 ∧ Z85; let Z87 := Z15 ∧ Z86; let Z88 := ps = ps ∧ Z87; let Z89 := List.getD Z69 Z72 (0 : Int); let Z90 := Z32 ∧ Z88; let Z91 := True ∧ Z90; let Z92 := fun (j : Nat) => sfAtM Z62 Z89 (↑j : Int); let Z93 := fun (j : Nat) => Z78 j && Z92 j; let Z94 := fun (j : Nat) => onM Z62 Z66 Z69 n Z81 (Z77 j) (Z84 j); let Z95 := fun (j : Nat) => Prod.fst (Z94 j); let Z96 := fun (j : Nat) => Z93 j && Z95 j; let Z97 := fun (j : Nat) => Z96 j = false; let Z98 := fun (j k : Nat) => j < k → Z97 j; let Z99 := fun (k : Nat) => ∀ (j : Nat), Z98 j k; let Z100 := fun (k : Nat) => Z71 k ∧ Z99 k; let Z101 : Type := { k : Nat // Z100 k }; let Z102 := fun (x : Z101) => Subtype.val x; let Z103 := fun (x : Z101) => (↑(Z102 x) : Int); let Z104 := fun (t : Z101) => Int.toNat (Z103 t); let Z105 := fun (x : Z101) => Value.int IntKind.i64 (Z103 x); let Z106 := fun (t : Z101) => Z103 t < nt; let Z107 := fun (t : Z101) => AV.v (Z105 t); let Z108 := fun (t : Z101) => [Z103 t]; let Z109 := fun (t : Z101) => min (Z104 t) (nat_lit 64); let Z110 := fun (x : Z101) => nt - Z103 x; let Z111 := fun (t : Z101) => (0 : Int) ≤ Z103 t; let Z112 := fun (x : Z101) => Int.toNat (Z110 x); let Z113 := fun (t : Z101) => [Z103 t]; let Z114 := fun (t : Z101) => min (Z104 t) (64 : Nat); let Z115 := fun (t : Z101) => Z103 t + (1 : Int); let Z116 := fun (t : Z101) => List.drop (nat_lit 0) (Z113 t); let Z117 := fun (t : Z101) => IntKind.wrap IntKind.i64 (Z115 t); let Z118 := fun (t : Z101) => Value.int IntKind.i64 (Z117 t); let Z119 := fun (t : Z101) => List.drop (0 : Nat) (Z113 t); let Z120 := fun (t : Z101) => List.take (nat_lit 1) (Z116 t); let Z121 := fun (t : Z101) => (2 : Int) ^ Z109 t; let Z122 := fun (t : Z101) => Int.fdiv u (Z121 t); let Z123 := fun (t : Z101) => BitVec.ofInt (nat_lit 64) (Z122 t); let Z124 := fun (t : Z101) => (2 : Int) ^ Z114 t; let Z125 := fun (t : Z101) => List.take (1 : Nat) (Z119 t); let Z126 := fun (t : Z101) => Z50 :: Z108 t; let Z127 := fun (t : Z101) => (1 : Int) * Z121 t; let Z128 := fun (t : Z101) => mgetM UU MM.safe (Z126 t) es; let Z129 := fun (t : Z101) => mhasM UU MM.safe (Z126 t) es; let Z130 := fun (t : Z101) => IntKind.wrap IntKind.u64 (Z127 t); let Z131 := fun (t : Z101) => (1 : Int) * Z124 t; let Z132 := fun (t : Z101) => Prod.snd (Z128 t); let Z133 := fun (t : Z101) => BitVec.ofInt (nat_lit 64) (Z130 t); let Z134 := fun (t : Z101) => Prod.snd (Z132 t); let Z135 := fun (t : Z101) => IntKind.wrap IntKind.u64 (Z131 t); let Z136 := fun (t : Z101) => BitVec.ofInt (64 : Nat) (Z135 t); let Z137 := fun (t : Z101) => out ++ Z120 t; let Z138 := fun (t : Z101) => out ++ Z125 t; let Z139 := fun (t : Z101) => Z123 t &&& Z8; let Z140 := fun (t : Z101) => BitVec.toNat (Z139 t); let Z141 := fun (t : Z101) => (↑(Z140 t) : Int); let Z142 := fun (t : Z101) => BitVec.ofInt (nat_lit 64) u ||| Z133 t; let Z143 := fun (t : Z101) => IntKind.wrap IntKind.u64 (Z141 t); let Z144 := fun (t : Z101) => BitVec.toNat (Z142 t); let Z145 := fun (t : Z101) => (↑(Z144 t) : Int); let Z146 := fun (t : Z101) => IntKind.wrap IntKind.u64 (Z145 t); let Z147 := fun (t : Z101) => Value.int IntKind.u64 (Z146 t); let Z148 := fun (t : Z101) => Z143 t == (1 : Int); let Z149 := fun (t : Z101) => Z12 ||| Z136 t; let Z150 := fun (t : Z101) => BitVec.toNat (Z149 t); let Z151 := fun (t : Z101) => (↑(Z150 t) : Int); let Z152 := fun (t : Z101) => IntKind.wrap IntKind.u64 (Z151 t); let Z153 := fun (x t : Z101) => Z112 x < Z112 t; let Z154 := fun (t x : Z101) => Z118 t = Z105 x; let Z155 := fun (t x : Z101) => Z154 t x ∧ True; let Z156 := fun (t x : Z101) => Z17 ∧ Z155 t x; let Z157 := fun (t x : Z101) => Z13 ∧ Z156 t x; let Z158 := fun (t x : Z101) => Z4 ∧ Z157 t x; let Z159 := fun (t x : Z101) => Z4 ∧ Z158 t x; let Z160 := fun (t x : Z101) => Z4 ∧ Z159 t x; let Z161 := fun (t : Z101) => decide (Z106 t); let Z162 := fun (t x : Z101) => Z4 ∧ Z160 t x; let Z163 := fun (t : Z101) => bif Z129 t then Z134 t else false; let Z164 := fun (t : Z101) => !Z163 t; let Z165 := fun (t x : Z101) => Z4 ∧ Z162 t x; let Z166 := fun (t x : Z101) => Z39 ∧ Z165 t x; let Z167 := fun (t : Z101) => onM es nt ps n Z48 (Z146 t) (Z138 t); let Z168 := fun (t : Z101) => Prod.snd (Z167 t); let Z169 := fun (t : Z101) => Prod.fst (Z167 t); let Z170 := fun (t : Z101) => Prod.fst (Z168 t); let Z171 := fun (t : Z101) => onM es nt ps n Z48 (Z152 t) (Z137 t); let Z172 := fun (t : Z101) => Prod.snd (Z171 t); let Z173 := fun (t : Z101) => Prod.snd (Z172 t); let Z176 := fun (t : Z101) => ∃ (x : Z101), (Z166 t x ∧ Z91) ∧ Z153 x t; (Z43 = true → True ∧ (True ∧ True) ∧ ((True ∧ True) ∧ True ∧ (True ∧ True) ∧ Z0 ∧ True ∧ (True ∧ True) ∧ (nat_lit 0 = nat_lit 0 ∧ True) ∧ True ∧ Z23 ∧ Z46 = [] ∧ True) ∧ Z53 ∧ True ∧ Z32 ∧ ps = ps ∧ Z15 ∧ Z33 ∧ es = es ∧ Z56 ∧ Z76) ∧ (Z43 = false → (∃ (x : Z101), (True ∧ True ∧ True ∧ Z21) ∧ ((True ∧ True) ∧ True ∧ (True ∧ True) ∧ Z0 ∧ True ∧ (True ∧ True) ∧ (nat_lit 0 = nat_lit 0 ∧ True) ∧ True ∧ Z23 ∧ out = [] ∧ True) ∧ (Z39 ∧ Z4 ∧ Z4 ∧ Z4 ∧ Z4 ∧ Z4 ∧ Z13 ∧ Z17 ∧ Value.int IntKind.i64 (0 : Int) = Z105 x ∧ True) ∧ True ∧ Z32 ∧ ps = ps ∧ Z15 ∧ Z33 ∧ es = es ∧ Z22 ∧ Z76) ∧ ∀ (t : Z101), (Z161 t = true → Z111 t ∧ (Z148 t = true → True ∧ Z176 t) ∧ (Z148 t = false → (Z29 ∧ (↑i : Int) < Z6) ∧ Z31 < List.length ps ∧ (Z164 t = true → True ∧ Z176 t) ∧ (Z164 t = false → Z111 t ∧ (nat_lit 1 = nat_lit 1 ∧ Z107 t = Z107 t ∧ True) ∧ nat_lit 1 ≤ nat_lit 1 ∧ List.length out + nat_lit 1 ≤ nat_lit 1099511627776 ∧ ((false = true → Z138 t = []) ∧ Z48 + n = List.length ps ∧ List.length ps ≤ nat_lit 6 ∧ List.length (Z138 t) = Z48 ∧ (0 : Int) ≤ Z146 t ∧ Z146 t < (64 : Int) ∧ (0 : Int) ≤ nt ∧ nt ≤ (6 : Int)) ∧ (Value.int IntKind.i64 Z44 = Value.int IntKind.i64 (↑Z48 : Int) ∧ Z59) ∧ (Z32 ∧ ps = ps ∧ Z15 ∧ Z33 ∧ es = es ∧ (Z147 t = Z147 t ∧ True) ∧ (nat_lit 0 = nat_lit 0 ∧ True) ∧ (Z9 ∧ Z138 t = Z138 t) ∧ Z64 ∧ True) ∧ (Z169 t = true → True ∧ Z53 ∧ True ∧ Z32 ∧ ps = ps ∧ Z15 ∧ Z33 ∧ es = es ∧ (Value.int IntKind.u64 (Z170 t) = Z51 ∧ True) ∧ (nat_lit 0 = nat_lit 0 ∧ True) ∧ True ∧ Z64 ∧ (Z28 ∧ Z173 t = Z46) ∧ True) ∧ (Z169 t = false → Z111 t ∧ ((0 : Int) = (0 : Int) ∧ Z29 ∧ (↑i : Int) ≤ (↑(List.length (Prod.snd (Z168 t))) : Int)) ∧ True ∧ ∃ (x : Z101), (Z166 t x ∧ True ∧ Z32 ∧ ps = ps ∧ Z15 ∧ Z33 ∧ es = es ∧ (Value.int IntKind.u64 (IntKind.wrap IntKind.u64 (↑(BitVec.toNat (BitVec.ofInt (nat_lit 64) (Z170 t) &&& ~~~Z133 t)) : Int)) = Value.int IntKind.u64 u ∧ True) ∧ (nat_lit 0 = nat_lit 0 ∧ True) ∧ True ∧ Z64 ∧ (Z9 ∧ List.take Z2 (Z173 t) = out) ∧ True) ∧ Z153 x t)))) ∧ (Z161 t = false → True ∧ (Z41 = Value.bool false ∧ True) ∧ True ∧ Z32 ∧ ps = ps ∧ Z15 ∧ Z33 ∧ es = es ∧ Z56 ∧ (nat_lit 0 = nat_lit 0 ∧ True) ∧ True ∧ Z64 ∧ (Z28 ∧ out = Z46) ∧ True)))
    (by kernel_rfl) ?_
  simp only [eq_self, true_and, and_true, Int.toNat_natCast, Nat.zero_add, Nat.sub_zero, Value.int.injEq, Value.bool.injEq, decide_eq_true_eq, decide_eq_false_iff_not]
  have x1 : i + (n + 1) = ps.length := hx.1
  have x2 : ps.length ≤ 6 := hx.2.1
  have x3 : out.length = i := hx.2.2.1
  have x4 : 0 ≤ u := hx.2.2.2.1
  have x5 : u < 64 := hx.2.2.2.2.1
  have x6 : 0 ≤ nt := hx.2.2.2.2.2.1
  have x7 : nt ≤ 6 := hx.2.2.2.2.2.2
  have hw : IntKind.i64.wrap ((i : Int) + 1) = ((i + 1 : Nat) : Int) := sucI i (by omega)
  refine ⟨fun h => ?_, fun h => ⟨⟨⟨0, x6, fun j hj => absurd hj (Nat.not_lt_zero j)⟩, hn rfl, rfl⟩, fun t => ⟨fun ht => ⟨Int.natCast_nonneg _, ?_⟩, fun ht => ?_⟩⟩⟩
  · have h' : (i : Int) = (ps.length : Int) := by simpa using h
    omega
  · obtain ⟨k, hk, h0⟩ := t
    have hlt : (k : Int) < nt := ht
    have hk6 : k < 6 := by omega
    have hsl := set_lt x4 x5 hk6
    have nxt : testM es nt ps n i u out k = false → ∃ x : { k : Nat // (k : Int) ≤ nt ∧ ∀ j, j < k → testM es nt ps n i u out j = false }, IntKind.i64.wrap ((k : Int) + 1) = (x.1 : Int) ∧ (nt - (x.1 : Int)).toNat < (nt - (k : Int)).toNat := fun hf =>
      ⟨⟨k + 1, by omega, below_succ h0 hf⟩, sucI k (by omega), by show (nt - ((k + 1 : Nat) : Int)).toNat < (nt - (k : Int)).toNat; omega⟩
    simp only [has_math x4 x5 hk6, set_math x4 x5 hk6, hw, Int.toNat_natCast, List.drop_zero, List.take_succ_cons, List.take_zero]
    refine ⟨fun hu => ?_, fun hu => ⟨⟨Int.natCast_nonneg _, by omega⟩, by omega, fun hs => ?_, fun hs => ⟨Int.natCast_nonneg _, Nat.le_refl _, by omega, ⟨fun h => absurd h (by decide), by omega, x2, by rw [List.length_append, x3]; rfl, hsl.1, hsl.2, x6, x7⟩, trivial, fun hr => ?_, fun hr => ?_⟩⟩⟩
    · refine nxt ?_
      have : freeBM u k = false := by simpa using hu
      unfold testM; rw [this]; rfl
    · refine nxt ?_
      have : sfAtM es (ps.getD i 0) (k : Int) = false := by
        unfold sfAtM
        cases hh : mhasM UU MM.safe [ps.getD i 0, (k : Int)] es with
        | true => rw [hh] at hs; simpa using hs
        | false => rfl
      unfold testM; rw [this, Bool.and_false]; rfl
    all_goals
      have hfr : freeBM u k = true := by simpa using hu
      have hsf : sfAtM es (ps.getD i 0) (k : Int) = true := by
        unfold sfAtM
        cases hh : mhasM UU MM.safe [ps.getD i 0, (k : Int)] es with
        | true => rw [hh] at hs; simpa using hs
        | false => rw [hh] at hs; simp at hs
    · have ht' : testM es nt ps n i u out k = true := by unfold testM; rw [hfr, hsf, hr]; rfl
      have e := on_some hlt ht' h0
      rw [e]
      exact ⟨hr, rfl, rfl⟩
    · have ht' : testM es nt ps n i u out k = false := by unfold testM; rw [hr, Bool.and_false]
      have e := onM_false _ _ _ _ hr
      rw [e]
      obtain ⟨y, hy1, hy2⟩ := nxt ht'
      refine ⟨Int.natCast_nonneg _, ⟨Int.natCast_nonneg _, by rw [List.length_append]; show (i : Int) ≤ ((out.length + 1 : Nat) : Int); omega⟩, y, ⟨hy1, clear_math x4 x5 hk6 hfr, ?_⟩, hy2⟩
      rw [← x3]; exact List.take_left
  · obtain ⟨k, hk, h0⟩ := t
    have hge : ¬ (k : Int) < nt := ht
    have e := on_none (es := es) (nt := nt) (ps := ps) (n := n) (i := i) (u := u) (out := out) (fun j hj => h0 j (by omega))
    rw [e]
    exact ⟨rfl, rfl, rfl⟩

theorem on_ok (n : Nat) (h : ∀ x, (onS n).pre (false, x) → FunOk Try.prog 69 ((onS n).args (false, x)) ((onS n).H (false, x)) ((onS n).R (false, x))) (h' : ∀ x, (onS n).pre (true, x) → FunOk Try.prog 69 ((onS n).args (true, x)) ((onS n).H (true, x)) ((onS n).R (true, x))) : Sound Try.prog 69 (onS n).con :=
  FSpec.sound _ (enter_of Try.func69 (by kernel_rfl) (by kernel_rfl)) fun x hx => match x, hx with
    | (false, x), hx => h x hx
    | (true, x), hx => h' x hx
theorem on_sound : ∀ n, Sound Try.prog 69 (onS n).con
  | 0 => on_ok 0 on_ok0f on_ok0t
  | n + 1 => on_ok (n + 1) (on_okSf n (.cons (on_sound n) .nil)) (on_okSt n (.cons (on_sound n) .nil))
end AE.Team

namespace AE.Team
open Go AE Go.Proofs AE.Soil

def popM (a : Int) : Int := ((List.range 6).filter fun i => a.toNat.testBit i).length
def popS : FSpec UU where
  X := Int
  pick := fun args _ => match args with
    | [a] => avUi a
    | _ => none
  args := fun (x : Int) => [uV x]
  H := fun _ => []
  R := fun (x : Int) => .val ⟨.i (popM x), [], [], []⟩
  pre := fun (x : Int) => 0 ≤ x ∧ x < 64
set_option maxRecDepth 100000 in
theorem ones64_ok : ∀ x, popS.pre x → FunOk Try.prog 71 (popS.args x) (popS.H x) (popS.R x) := by
  intro (x : Int) h
  refine fun_of (T := []) (L := fun _ => none) (hs := fun _ => []) hmix .nil Try.func71 (by kernel_rfl) (by kernel_rfl) ?_
  refine Eq.mp (α :=
      (0 : Int) ≤ (1 : Int) ∧ (0 : Int) ≤ (2 : Int) ∧ (0 : Int) ≤ (4 : Int) ∧ (0 : Int) ≤ (8 : Int) ∧ (0 : Int) ≤ (16 : Int) ∧ (0 : Int) ≤ (32 : Int) ∧ True ∧ (Value.int IntKind.i64 (IntKind.wrap IntKind.i64 (↑(BitVec.toNat (BitVec.ofInt (nat_lit 64) (IntKind.wrap IntKind.i64 (IntKind.wrap IntKind.u64 (IntKind.wrap IntKind.u64 (IntKind.wrap IntKind.u64 (IntKind.wrap IntKind.u64 (↑(BitVec.toNat (BitVec.ofInt (nat_lit 64) (IntKind.wrap IntKind.u64 (Int.fdiv (IntKind.wrap IntKind.u64 (IntKind.wrap IntKind.u64 (↑(BitVec.toNat (BitVec.ofInt (nat_lit 64) (Int.fdiv (IntKind.wrap IntKind.u64 (IntKind.wrap IntKind.u64 (↑(BitVec.toNat (BitVec.ofInt (nat_lit 64) (Int.fdiv x ((2 : Int) ^ nat_lit 1)) &&& BitVec.ofInt (nat_lit 64) (6148914691236517205 : Int))) : Int) + IntKind.wrap IntKind.u64 (↑(BitVec.toNat (BitVec.ofInt (nat_lit 64) x &&& BitVec.ofInt (nat_lit 64) (6148914691236517205 : Int))) : Int))) ((2 : Int) ^ nat_lit 2)) &&& BitVec.ofInt (nat_lit 64) (3689348814741910323 : Int))) : Int) + IntKind.wrap IntKind.u64 (↑(BitVec.toNat (BitVec.ofInt (nat_lit 64) (IntKind.wrap IntKind.u64 (IntKind.wrap IntKind.u64 (↑(BitVec.toNat (BitVec.ofInt (nat_lit 64) (Int.fdiv x ((2 : Int) ^ nat_lit 1)) &&& BitVec.ofInt (nat_lit 64) (6148914691236517205 : Int))) : Int) + IntKind.wrap IntKind.u64 (↑(BitVec.toNat (BitVec.ofInt (nat_lit 64) x &&& BitVec.ofInt (nat_lit 64) (6148914691236517205 : Int))) : Int))) &&& BitVec.ofInt (nat_lit 64) (3689348814741910323 : Int))) : Int))) ((2 : Int) ^ nat_lit 4) + IntKind.wrap IntKind.u64 (IntKind.wrap IntKind.u64 (↑(BitVec.toNat (BitVec.ofInt (nat_lit 64) (Int.fdiv (IntKind.wrap IntKind.u64 (IntKind.wrap IntKind.u64 (↑(BitVec.toNat (BitVec.ofInt (nat_lit 64) (Int.fdiv x ((2 : Int) ^ nat_lit 1)) &&& BitVec.ofInt (nat_lit 64) (6148914691236517205 : Int))) : Int) + IntKind.wrap IntKind.u64 (↑(BitVec.toNat (BitVec.ofInt (nat_lit 64) x &&& BitVec.ofInt (nat_lit 64) (6148914691236517205 : Int))) : Int))) ((2 : Int) ^ nat_lit 2)) &&& BitVec.ofInt (nat_lit 64) (3689348814741910323 : Int))) : Int) + IntKind.wrap IntKind.u64 (↑(BitVec.toNat (BitVec.ofInt (nat_lit 64) (IntKind.wrap IntKind.u64 (IntKind.wrap IntKind.u64 (↑(BitVec.toNat (BitVec.ofInt (nat_lit 64) (Int.fdiv x ((2 : Int) ^ nat_lit 1)) &&& BitVec.ofInt (nat_lit 64) (6148914691236517205 : Int))) : Int) + IntKind.wrap IntKind.u64 (↑(BitVec.toNat (BitVec.ofInt (nat_lit 64) x &&& BitVec.ofInt (nat_lit 64) (6148914691236517205 : Int))) : Int))) &&& BitVec.ofInt (nat_lit 64) (3689348814741910323 : Int))) : Int)))) &&& BitVec.ofInt (nat_lit 64) (1085102592571150095 : Int))) : Int) + Int.fdiv (IntKind.wrap IntKind.u64 (↑(BitVec.toNat (BitVec.ofInt (nat_lit 64) (IntKind.wrap IntKind.u64 (Int.fdiv (IntKind.wrap IntKind.u64 (IntKind.wrap IntKind.u64 (↑(BitVec.toNat (BitVec.ofInt (nat_lit 64) (Int.fdiv (IntKind.wrap IntKind.u64 (IntKind.wrap IntKind.u64 (↑(BitVec.toNat (BitVec.ofInt (nat_lit 64) (Int.fdiv x ((2 : Int) ^ nat_lit 1)) &&& BitVec.ofInt (nat_lit 64) (6148914691236517205 : Int))) : Int) + IntKind.wrap IntKind.u64 (↑(BitVec.toNat (BitVec.ofInt (nat_lit 64) x &&& BitVec.ofInt (nat_lit 64) (6148914691236517205 : Int))) : Int))) ((2 : Int) ^ nat_lit 2)) &&& BitVec.ofInt (nat_lit 64) (3689348814741910323 : Int))) : Int) + IntKind.wrap IntKind.u64 (↑(BitVec.toNat (BitVec.ofInt (nat_lit 64) (IntKind.wrap IntKind.u64 (IntKind.wrap IntKind.u64 (↑(BitVec.toNat (BitVec.ofInt (nat_lit 64) (Int.fdiv x ((2 : Int) ^ nat_lit 1)) &&& BitVec.ofInt (nat_lit 64) (6148914691236517205 : Int))) : Int) + IntKind.wrap IntKind.u64 (↑(BitVec.toNat (BitVec.ofInt (nat_lit 64) x &&& BitVec.ofInt (nat_lit 64) (6148914691236517205 : Int))) : Int))) &&& BitVec.ofInt (nat_lit 64) (3689348814741910323 : Int))) : Int))) ((2 : Int) ^ nat_lit 4) + IntKind.wrap IntKind.u64 (IntKind.wrap IntKind.u64 (↑(BitVec.toNat (BitVec.ofInt (nat_lit 64) (Int.fdiv (IntKind.wrap IntKind.u64 (IntKind.wrap IntKind.u64 (↑(BitVec.toNat (BitVec.ofInt (nat_lit 64) (Int.fdiv x ((2 : Int) ^ nat_lit 1)) &&& BitVec.ofInt (nat_lit 64) (6148914691236517205 : Int))) : Int) + IntKind.wrap IntKind.u64 (↑(BitVec.toNat (BitVec.ofInt (nat_lit 64) x &&& BitVec.ofInt (nat_lit 64) (6148914691236517205 : Int))) : Int))) ((2 : Int) ^ nat_lit 2)) &&& BitVec.ofInt (nat_lit 64) (3689348814741910323 : Int))) : Int) + IntKind.wrap IntKind.u64 (↑(BitVec.toNat (BitVec.ofInt (nat_lit 64) (IntKind.wrap IntKind.u64 (IntKind.wrap IntKind.u64 (↑(BitVec.toNat (BitVec.ofInt (nat_lit 64) (Int.fdiv x ((2 : Int) ^ nat_lit 1)) &&& BitVec.ofInt (nat_lit 64) (6148914691236517205 : Int))) : Int) + IntKind.wrap IntKind.u64 (↑(BitVec.toNat (BitVec.ofInt (nat_lit 64) x &&& BitVec.ofInt (nat_lit 64) (6148914691236517205 : Int))) : Int))) &&& BitVec.ofInt (nat_lit 64) (3689348814741910323 : Int))) : Int)))) &&& BitVec.ofInt (nat_lit 64) (1085102592571150095 : Int))) : Int)) ((2 : Int) ^ nat_lit 8)) + Int.fdiv (IntKind.wrap IntKind.u64 (IntKind.wrap IntKind.u64 (↑(BitVec.toNat (BitVec.ofInt (nat_lit 64) (IntKind.wrap IntKind.u64 (Int.fdiv (IntKind.wrap IntKind.u64 (IntKind.wrap IntKind.u64 (↑(BitVec.toNat (BitVec.ofInt (nat_lit 64) (Int.fdiv (IntKind.wrap IntKind.u64 (IntKind.wrap IntKind.u64 (↑(BitVec.toNat (BitVec.ofInt (nat_lit 64) (Int.fdiv x ((2 : Int) ^ nat_lit 1)) &&& BitVec.ofInt (nat_lit 64) (6148914691236517205 : Int))) : Int) + IntKind.wrap IntKind.u64 (↑(BitVec.toNat (BitVec.ofInt (nat_lit 64) x &&& BitVec.ofInt (nat_lit 64) (6148914691236517205 : Int))) : Int))) ((2 : Int) ^ nat_lit 2)) &&& BitVec.ofInt (nat_lit 64) (3689348814741910323 : Int))) : Int) + IntKind.wrap IntKind.u64 (↑(BitVec.toNat (BitVec.ofInt (nat_lit 64) (IntKind.wrap IntKind.u64 (IntKind.wrap IntKind.u64 (↑(BitVec.toNat (BitVec.ofInt (nat_lit 64) (Int.fdiv x ((2 : Int) ^ nat_lit 1)) &&& BitVec.ofInt (nat_lit 64) (6148914691236517205 : Int))) : Int) + IntKind.wrap IntKind.u64 (↑(BitVec.toNat (BitVec.ofInt (nat_lit 64) x &&& BitVec.ofInt (nat_lit 64) (6148914691236517205 : Int))) : Int))) &&& BitVec.ofInt (nat_lit 64) (3689348814741910323 : Int))) : Int))) ((2 : Int) ^ nat_lit 4) + IntKind.wrap IntKind.u64 (IntKind.wrap IntKind.u64 (↑(BitVec.toNat (BitVec.ofInt (nat_lit 64) (Int.fdiv (IntKind.wrap IntKind.u64 (IntKind.wrap IntKind.u64 (↑(BitVec.toNat (BitVec.ofInt (nat_lit 64) (Int.fdiv x ((2 : Int) ^ nat_lit 1)) &&& BitVec.ofInt (nat_lit 64) (6148914691236517205 : Int))) : Int) + IntKind.wrap IntKind.u64 (↑(BitVec.toNat (BitVec.ofInt (nat_lit 64) x &&& BitVec.ofInt (nat_lit 64) (6148914691236517205 : Int))) : Int))) ((2 : Int) ^ nat_lit 2)) &&& BitVec.ofInt (nat_lit 64) (3689348814741910323 : Int))) : Int) + IntKind.wrap IntKind.u64 (↑(BitVec.toNat (BitVec.ofInt (nat_lit 64) (IntKind.wrap IntKind.u64 (IntKind.wrap IntKind.u64 (↑(BitVec.toNat (BitVec.ofInt (nat_lit 64) (Int.fdiv x ((2 : Int) ^ nat_lit 1)) &&& BitVec.ofInt (nat_lit 64) (6148914691236517205 : Int))) : Int) + IntKind.wrap IntKind.u64 (↑(BitVec.toNat (BitVec.ofInt (nat_lit 64) x &&& BitVec.ofInt (nat_lit 64) (6148914691236517205 : Int))) : Int))) &&& BitVec.ofInt (nat_lit 64) (3689348814741910323 : Int))) : Int)))) &&& BitVec.ofInt (nat_lit 64) (1085102592571150095 : Int))) : Int) + Int.fdiv (IntKind.wrap IntKind.u64 (↑(BitVec.toNat (BitVec.ofInt (nat_lit 64) (IntKind.wrap IntKind.u64 (Int.fdiv (IntKind.wrap IntKind.u64 (IntKind.wrap IntKind.u64 (↑(BitVec.toNat (BitVec.ofInt (nat_lit 64) (Int.fdiv (IntKind.wrap IntKind.u64 (IntKind.wrap IntKind.u64 (↑(BitVec.toNat (BitVec.ofInt (nat_lit 64) (Int.fdiv x ((2 : Int) ^ nat_lit 1)) &&& BitVec.ofInt (nat_lit 64) (6148914691236517205 : Int))) : Int) + IntKind.wrap IntKind.u64 (↑(BitVec.toNat (BitVec.ofInt (nat_lit 64) x &&& BitVec.ofInt (nat_lit 64) (6148914691236517205 : Int))) : Int))) ((2 : Int) ^ nat_lit 2)) &&& BitVec.ofInt (nat_lit 64) (3689348814741910323 : Int))) : Int) + IntKind.wrap IntKind.u64 (↑(BitVec.toNat (BitVec.ofInt (nat_lit 64) (IntKind.wrap IntKind.u64 (IntKind.wrap IntKind.u64 (↑(BitVec.toNat (BitVec.ofInt (nat_lit 64) (Int.fdiv x ((2 : Int) ^ nat_lit 1)) &&& BitVec.ofInt (nat_lit 64) (6148914691236517205 : Int))) : Int) + IntKind.wrap IntKind.u64 (↑(BitVec.toNat (BitVec.ofInt (nat_lit 64) x &&& BitVec.ofInt (nat_lit 64) (6148914691236517205 : Int))) : Int))) &&& BitVec.ofInt (nat_lit 64) (3689348814741910323 : Int))) : Int))) ((2 : Int) ^ nat_lit 4) + IntKind.wrap IntKind.u64 (IntKind.wrap IntKind.u64 (↑(BitVec.toNat (BitVec.ofInt (nat_lit 64) (Int.fdiv (IntKind.wrap IntKind.u64 (IntKind.wrap IntKind.u64 (↑(BitVec.toNat (BitVec.ofInt (nat_lit 64) (Int.fdiv x ((2 : Int) ^ nat_lit 1)) &&& BitVec.ofInt (nat_lit 64) (6148914691236517205 : Int))) : Int) + IntKind.wrap IntKind.u64 (↑(BitVec.toNat (BitVec.ofInt (nat_lit 64) x &&& BitVec.ofInt (nat_lit 64) (6148914691236517205 : Int))) : Int))) ((2 : Int) ^ nat_lit 2)) &&& BitVec.ofInt (nat_lit 64) (3689348814741910323 : Int))) : Int) + IntKind.wrap IntKind.u64 (↑(BitVec.toNat (BitVec.ofInt (nat_lit 64) (IntKind.wrap IntKind.u64 (IntKind.wrap IntKind.u64 (↑(BitVec.toNat (BitVec.ofInt (nat_lit 64) (Int.fdiv x ((2 : Int) ^ nat_lit 1)) &&& BitVec.ofInt (nat_lit 64) (6148914691236517205 : Int))) : Int) + IntKind.wrap IntKind.u64 (↑(BitVec.toNat (BitVec.ofInt (nat_lit 64) x &&& BitVec.ofInt (nat_lit 64) (6148914691236517205 : Int))) : Int))) &&& BitVec.ofInt (nat_lit 64) (3689348814741910323 : Int))) : Int)))) &&& BitVec.ofInt (nat_lit 64) (1085102592571150095 : Int))) : Int)) ((2 : Int) ^ nat_lit 8))) ((2 : Int) ^ nat_lit 16)) + Int.fdiv (IntKind.wrap IntKind.u64 (IntKind.wrap IntKind.u64 (IntKind.wrap IntKind.u64 (↑(BitVec.toNat (BitVec.ofInt (nat_lit 64) (IntKind.wrap IntKind.u64 (Int.fdiv (IntKind.wrap IntKind.u64 (IntKind.wrap IntKind.u64 (↑(BitVec.toNat (BitVec.ofInt (nat_lit 64) (Int.fdiv (IntKind.wrap IntKind.u64 (IntKind.wrap IntKind.u64 (↑(BitVec.toNat (BitVec.ofInt (nat_lit 64) (Int.fdiv x ((2 : Int) ^ nat_lit 1)) &&& BitVec.ofInt (nat_lit 64) (6148914691236517205 : Int))) : Int) + IntKind.wrap IntKind.u64 (↑(BitVec.toNat (BitVec.ofInt (nat_lit 64) x &&& BitVec.ofInt (nat_lit 64) (6148914691236517205 : Int))) : Int))) ((2 : Int) ^ nat_lit 2)) &&& BitVec.ofInt (nat_lit 64) (3689348814741910323 : Int))) : Int) + IntKind.wrap IntKind.u64 (↑(BitVec.toNat (BitVec.ofInt (nat_lit 64) (IntKind.wrap IntKind.u64 (IntKind.wrap IntKind.u64 (↑(BitVec.toNat (BitVec.ofInt (nat_lit 64) (Int.fdiv x ((2 : Int) ^ nat_lit 1)) &&& BitVec.ofInt (nat_lit 64) (6148914691236517205 : Int))) : Int) + IntKind.wrap IntKind.u64 (↑(BitVec.toNat (BitVec.ofInt (nat_lit 64) x &&& BitVec.ofInt (nat_lit 64) (6148914691236517205 : Int))) : Int))) &&& BitVec.ofInt (nat_lit 64) (3689348814741910323 : Int))) : Int))) ((2 : Int) ^ nat_lit 4) + IntKind.wrap IntKind.u64 (IntKind.wrap IntKind.u64 (↑(BitVec.toNat (BitVec.ofInt (nat_lit 64) (Int.fdiv (IntKind.wrap IntKind.u64 (IntKind.wrap IntKind.u64 (↑(BitVec.toNat (BitVec.ofInt (nat_lit 64) (Int.fdiv x ((2 : Int) ^ nat_lit 1)) &&& BitVec.ofInt (nat_lit 64) (6148914691236517205 : Int))) : Int) + IntKind.wrap IntKind.u64 (↑(BitVec.toNat (BitVec.ofInt (nat_lit 64) x &&& BitVec.ofInt (nat_lit 64) (6148914691236517205 : Int))) : Int))) ((2 : Int) ^ nat_lit 2)) &&& BitVec.ofInt (nat_lit 64) (3689348814741910323 : Int))) : Int) + IntKind.wrap IntKind.u64 (↑(BitVec.toNat (BitVec.ofInt (nat_lit 64) (IntKind.wrap IntKind.u64 (IntKind.wrap IntKind.u64 (↑(BitVec.toNat (BitVec.ofInt (nat_lit 64) (Int.fdiv x ((2 : Int) ^ nat_lit 1)) &&& BitVec.ofInt (nat_lit 64) (6148914691236517205 : Int))) : Int) + IntKind.wrap IntKind.u64 (↑(BitVec.toNat (BitVec.ofInt (nat_lit 64) x &&& BitVec.ofInt (nat_lit 64) (6148914691236517205 : Int))) : Int))) &&& BitVec.ofInt (nat_lit 64) (3689348814741910323 : Int))) : Int)))) &&& BitVec.ofInt (nat_lit 64) (1085102592571150095 : Int))) : Int) + Int.fdiv (IntKind.wrap IntKind.u64 (↑(BitVec.toNat (BitVec.ofInt (nat_lit 64) (IntKind.wrap IntKind.u64 (Int.fdiv (IntKind.wrap IntKind.u64 (IntKind.wrap IntKind.u64 (↑(BitVec.toNat (BitVec.ofInt (nat_lit 64) (Int.fdiv (IntKind.wrap IntKind.u64 (IntKind.wrap IntKind.u64 (↑(BitVec.toNat (BitVec.ofInt (nat_lit 64) (Int.fdiv x ((2 : Int) ^ nat_lit 1)) &&& BitVec.ofInt (nat_lit 64) (6148914691236517205 : Int))) : Int) + IntKind.wrap IntKind.u64 (↑(BitVec.toNat (BitVec.ofInt (nat_lit 64) x &&& BitVec.ofInt (nat_lit 64) (6148914691236517205 : Int))) : Int))) ((2 : Int) ^ nat_lit 2)) &&& BitVec.ofInt (nat_lit 64) (3689348814741910323 : Int))) : Int) + IntKind.wrap IntKind.u64 (↑(BitVec.toNat (BitVec.ofInt (nat_lit 64) (IntKind.wrap IntKind.u64 (IntKind.wrap IntKind.u64 (↑(BitVec.toNat (BitVec.ofInt (nat_lit 64) (Int.fdiv x ((2 : Int) ^ nat_lit 1)) &&& BitVec.ofInt (nat_lit 64) (6148914691236517205 : Int))) : Int) + IntKind.wrap IntKind.u64 (↑(BitVec.toNat (BitVec.ofInt (nat_lit 64) x &&& BitVec.ofInt (nat_lit 64) (6148914691236517205 : Int))) : Int))) &&& BitVec.ofInt (nat_lit 64) (3689348814741910323 : Int))) : Int))) ((2 : Int) ^ nat_lit 4) + IntKind.wrap IntKind.u64 (IntKind.wrap IntKind.u64 (↑(BitVec.toNat (BitVec.ofInt (nat_lit 64) (Int.fdiv (IntKind.wrap IntKind.u64 (IntKind.wrap IntKind.u64 (↑(BitVec.toNat (BitVec.ofInt (nat_lit 64) (Int.fdiv x ((2 : Int) ^ nat_lit 1)) &&& BitVec.ofInt (nat_lit 64) (6148914691236517205 : Int))) : Int) + IntKind.wrap IntKind.u64 (↑(BitVec.toNat (BitVec.ofInt (nat_lit 64) x &&& BitVec.ofInt (nat_lit 64) (6148914691236517205 : Int))) : Int))) ((2 : Int) ^ nat_lit 2)) &&& BitVec.ofInt (nat_lit 64) (3689348814741910323 : Int))) : Int) + IntKind.wrap IntKind.u64 (↑(BitVec.toNat (BitVec.ofInt (nat_lit 64) (IntKind.wrap IntKind.u64 (IntKind.wrap IntKind.u64 (↑(BitVec.toNat (BitVec.ofInt (nat_lit 64) (Int.fdiv x ((2 : Int) ^ nat_lit 1)) &&& BitVec.ofInt (nat_lit 64) (6148914691236517205 : Int))) : Int) + IntKind.wrap IntKind.u64 (↑(BitVec.toNat (BitVec.ofInt (nat_lit 64) x &&& BitVec.ofInt (nat_lit 64) (6148914691236517205 : Int))) : Int))) &&& BitVec.ofInt (nat_lit 64) (3689348814741910323 : Int))) : Int)))) &&& BitVec.ofInt (nat_lit 64) (1085102592571150095 : Int))) : Int)) ((2 : Int) ^ nat_lit 8)) + Int.fdiv (IntKind.wrap IntKind.u64 (IntKind.wrap IntKind.u64 (↑(BitVec.toNat (BitVec.ofInt (nat_lit 64) (IntKind.wrap IntKind.u64 (Int.fdiv (IntKind.wrap IntKind.u64 (IntKind.wrap IntKind.u64 (↑(BitVec.toNat (BitVec.ofInt (nat_lit 64) (Int.fdiv (IntKind.wrap IntKind.u64 (IntKind.wrap IntKind.u64 (↑(BitVec.toNat (BitVec.ofInt (nat_lit 64) (Int.fdiv x ((2 : Int) ^ nat_lit 1)) &&& BitVec.ofInt (nat_lit 64) (6148914691236517205 : Int))) : Int) + IntKind.wrap IntKind.u64 (↑(BitVec.toNat (BitVec.ofInt (nat_lit 64) x &&& BitVec.ofInt (nat_lit 64) (6148914691236517205 : Int))) : Int))) ((2 : Int) ^ nat_lit 2)) &&& BitVec.ofInt (nat_lit 64) (3689348814741910323 : Int))) : Int) + IntKind.wrap IntKind.u64 (↑(BitVec.toNat (BitVec.ofInt (nat_lit 64) (IntKind.wrap IntKind.u64 (IntKind.wrap IntKind.u64 (↑(BitVec.toNat (BitVec.ofInt (nat_lit 64) (Int.fdiv x ((2 : Int) ^ nat_lit 1)) &&& BitVec.ofInt (nat_lit 64) (6148914691236517205 : Int))) : Int) + IntKind.wrap IntKind.u64 (↑(BitVec.toNat (BitVec.ofInt (nat_lit 64) x &&& BitVec.ofInt (nat_lit 64) (6148914691236517205 : Int))) : Int))) &&& BitVec.ofInt (nat_lit 64) (3689348814741910323 : Int))) : Int))) ((2 : Int) ^ nat_lit 4) + IntKind.wrap IntKind.u64 (IntKind.wrap IntKind.u64 (↑(BitVec.toNat (BitVec.ofInt (nat_lit 64) (Int.fdiv (IntKind.wrap IntKind.u64 (IntKind.wrap IntKind.u64 (↑(BitVec.toNat (BitVec.ofInt (nat_lit 64) (Int.fdiv x ((2 : Int) ^ nat_lit 1)) &&& BitVec.ofInt (nat_lit 64) (6148914691236517205 : Int))) : Int) + IntKind.wrap IntKind.u64 (↑(BitVec.toNat (BitVec.ofInt (nat_lit 64) x &&& BitVec.ofInt (nat_lit 64) (6148914691236517205 : Int))) : Int))) ((2 : Int) ^ nat_lit 2)) &&& BitVec.ofInt (nat_lit 64) (3689348814741910323 : Int))) : Int) + IntKind.wrap IntKind.u64 (↑(BitVec.toNat (BitVec.ofInt (nat_lit 64) (IntKind.wrap IntKind.u64 (IntKind.wrap IntKind.u64 (↑(BitVec.toNat (BitVec.ofInt (nat_lit 64) (Int.fdiv x ((2 : Int) ^ nat_lit 1)) &&& BitVec.ofInt (nat_lit 64) (6148914691236517205 : Int))) : Int) + IntKind.wrap IntKind.u64 (↑(BitVec.toNat (BitVec.ofInt (nat_lit 64) x &&& BitVec.ofInt (nat_lit 64) (6148914691236517205 : Int))) : Int))) &&& BitVec.ofInt (nat_lit 64) (3689348814741910323 : Int))) : Int)))) &&& BitVec.ofInt (nat_lit 64) (1085102592571150095 : Int))) : Int) + Int.fdiv (IntKind.wrap IntKind.u64 (↑(BitVec.toNat (BitVec.ofInt (nat_lit 64) (IntKind.wrap IntKind.u64 (Int.fdiv (IntKind.wrap IntKind.u64 (IntKind.wrap IntKind.u64 (↑(BitVec.toNat (BitVec.ofInt (nat_lit 64) (Int.fdiv (IntKind.wrap IntKind.u64 (IntKind.wrap IntKind.u64 (↑(BitVec.toNat (BitVec.ofInt (nat_lit 64) (Int.fdiv x ((2 : Int) ^ nat_lit 1)) &&& BitVec.ofInt (nat_lit 64) (6148914691236517205 : Int))) : Int) + IntKind.wrap IntKind.u64 (↑(BitVec.toNat (BitVec.ofInt (nat_lit 64) x &&& BitVec.ofInt (nat_lit 64) (6148914691236517205 : Int))) : Int))) ((2 : Int) ^ nat_lit 2)) &&& BitVec.ofInt (nat_lit 64) (3689348814741910323 : Int))) : Int) + IntKind.wrap IntKind.u64 (↑(BitVec.toNat (BitVec.ofInt (nat_lit 64) (IntKind.wrap IntKind.u64 (IntKind.wrap IntKind.u64 (↑(BitVec.toNat (BitVec.ofInt (nat_lit 64) (Int.fdiv x ((2 : Int) ^ nat_lit 1)) &&& BitVec.ofInt (nat_lit 64) (6148914691236517205 : Int))) : Int) + IntKind.wrap IntKind.u64 (↑(BitVec.toNat (BitVec.ofInt (nat_lit 64) x &&& BitVec.ofInt (nat_lit 64) (6148914691236517205 : Int))) : Int))) &&& BitVec.ofInt (nat_lit 64) (3689348814741910323 : Int))) : Int))) ((2 : Int) ^ nat_lit 4) + IntKind.wrap IntKind.u64 (IntKind.wrap IntKind.u64 (↑(BitVec.toNat (BitVec.ofInt (nat_lit 64) (Int.fdiv (IntKind.wrap IntKind.u64 (IntKind.wrap IntKind.u64 (↑(BitVec.toNat (BitVec.ofInt (nat_lit 64) (Int.fdiv x ((2 : Int) ^ nat_lit 1)) &&& BitVec.ofInt (nat_lit 64) (6148914691236517205 : Int))) : Int) + IntKind.wrap IntKind.u64 (↑(BitVec.toNat (BitVec.ofInt (nat_lit 64) x &&& BitVec.ofInt (nat_lit 64) (6148914691236517205 : Int))) : Int))) ((2 : Int) ^ nat_lit 2)) &&& BitVec.ofInt (nat_lit 64) (3689348814741910323 : Int))) : Int) + IntKind.wrap IntKind.u64 (↑(BitVec.toNat (BitVec.ofInt (nat_lit 64) (IntKind.wrap IntKind.u64 (IntKind.wrap IntKind.u64 (↑(BitVec.toNat (BitVec.ofInt (nat_lit 64) (Int.fdiv x ((2 : Int) ^ nat_lit 1)) &&& BitVec.ofInt (nat_lit 64) (6148914691236517205 : Int))) : Int) + IntKind.wrap IntKind.u64 (↑(BitVec.toNat (BitVec.ofInt (nat_lit 64) x &&& BitVec.ofInt (nat_lit 64) (6148914691236517205 : Int))) : Int))) &&& BitVec.ofInt (nat_lit 64) (3689348814741910323 : Int))) : Int)))) &&& BitVec.ofInt (nat_lit 64) (1085102592571150095 : Int))) : Int)) ((2 : Int) ^ nat_lit 8))) ((2 : Int) ^ nat_lit 16))) ((2 : Int) ^ nat_lit 32)))) &&& BitVec.ofInt (nat_lit 64) (127 : Int))) : Int)) = Value.int IntKind.i64 (popM x) ∧ True) ∧ True ∧ True)
    (by kernel_rfl) ?_
  simp only [popS] at h
  refine ⟨by decide, by decide, by decide, by decide, by decide, by decide, trivial, ⟨congrArg (Value.int .i64) ?_, trivial⟩, trivial, trivial⟩
  obtain ⟨m, rfl⟩ := Int.eq_ofNat_of_zero_le h.1
  have hm : m < 64 := by omega
  clear h
  revert m
  decide +kernel

theorem ones64_sound : Sound Try.prog 71 popS.con := FSpec.sound _ (enter_of Try.func71 (by kernel_rfl) (by kernel_rfl)) ones64_ok
def Tones : Tab UU := [(71, popS.con)]
theorem Tones_ok : Tones.Sound Try.prog := .cons ones64_sound .nil
set_option maxRecDepth 100000 in
theorem ones_ok : ∀ x, popS.pre x → FunOk Try.prog 44 (popS.args x) (popS.H x) (popS.R x) := by
  intro (x : Int) h
  refine fun_of (T := Tones) (L := fun _ => none) (hs := fun _ => []) hmix Tones_ok Try.func44 (by kernel_rfl) (by kernel_rfl) ?_
  refine Eq.mp (α :=
      ((0 : Int) ≤ x ∧ x < (64 : Int)) ∧ (Value.int IntKind.u64 x = Value.int IntKind.u64 x ∧ True) ∧ True ∧ True ∧ (Value.int IntKind.i64 (popM x) = Value.int IntKind.i64 (popM x) ∧ True) ∧ True ∧ True)
    (by kernel_rfl) ?_
  simp only [popS] at h
  have h1 : 0 ≤ x := h.1
  have h2 : x < 64 := h.2
  simp [h1, h2]

theorem ones_sound : Sound Try.prog 44 popS.con := FSpec.sound _ (enter_of Try.func44 (by kernel_rfl) (by kernel_rfl)) ones_ok
def upToM (s : Int) (n : Nat) : List Int := ((List.range n).filter fun i => s.toNat.testBit i).map fun (i : Nat) => (i : Int)
def membersM (s : Int) : List Int := upToM s 6
theorem upTo_len (s : Int) (n : Nat) : (upToM s n).length ≤ n := by
  unfold upToM
  rw [List.length_map]
  exact Nat.le_trans (List.length_filter_le _ _) (by simp)
theorem upTo_yes {s : Int} {n : Nat} (h : s.toNat.testBit n = true) : upToM s (n + 1) = upToM s n ++ [(n : Int)] := by
  unfold upToM
  rw [List.range_succ, List.filter_append, List.map_append, List.filter_cons_of_pos h]
  rfl
theorem upTo_no {s : Int} {n : Nat} (h : s.toNat.testBit n = false) : upToM s (n + 1) = upToM s n := by
  unfold upToM
  rw [List.range_succ, List.filter_append, List.map_append, List.filter_cons_of_neg (by rw [h]; decide)]
  simp
theorem members_lt {m k : Nat} (hm : m < 64) (hk : k ≤ 6) (h : (m : Int).fdiv (2 ^ min k 64) > 0) : k < 6 := by
  rcases Nat.lt_or_eq_of_le hk with h1 | rfl
  · exact h1
  · exfalso
    have : ∀ m : Fin 64, ¬ ((m.val : Nat) : Int).fdiv (2 ^ min 6 64) > 0 := by decide +kernel
    exact this ⟨m, hm⟩ h
theorem members_end {m k : Nat} (hm : m < 64) (hk : k ≤ 6) (h : ¬ (m : Int).fdiv (2 ^ min k 64) > 0) : upToM (m : Int) k = membersM (m : Int) := by
  have : ∀ m : Fin 64, ∀ k : Fin 7, ¬ ((m.val : Nat) : Int).fdiv (2 ^ min k.val 64) > 0 → upToM ((m.val : Nat) : Int) k.val = membersM ((m.val : Nat) : Int) := by decide +kernel
  exact this ⟨m, hm⟩ ⟨k, by omega⟩ h
def membersL (s : Int) : LSpec UU where
  T := { n : Nat // n ≤ 6 }
  fr := fun n => [(0, uV s), (2, .gs 0 0), (3, .i n.1)]
  H := fun n => [.one (.row .int (upToM s n.1) 3)]
  mu := fun n => 6 - n.1
def membersS : FSpec UU where
  X := Int
  pick := fun args _ => match args with
    | [a] => avUi a
    | _ => none
  args := fun (x : Int) => [uV x]
  H := fun _ => []
  R := fun (x : Int) => .val ⟨.gs 0 0, [], [], [.row .int (membersM x) 3]⟩
  pre := fun (x : Int) => 0 ≤ x ∧ x < 64
set_option maxHeartbeats 0 in
set_option maxRecDepth 100000 in
theorem members_ok : ∀ x, membersS.pre x → FunOk Try.prog 42 (membersS.args x) (membersS.H x) (membersS.R x) := by
  intro (x : Int) hx
  refine fun_of (T := []) (L := fun _ => some (.inv (membersL x))) (hs := fun _ => []) hmix .nil Try.func42 (by kernel_rfl) (by kernel_rfl) ?_
  refine Eq.mp (α :=
      (∃ (x_1 : { n : Nat // n ≤ (6 : Nat) }), (True ∧ nat_lit 0 = nat_lit 0 ∧ True ∧ True) ∧ (upToM x (Subtype.val x_1) = [] ∧ True) ∧ (Value.int IntKind.u64 x = Value.int IntKind.u64 x ∧ Value.slice none (nat_lit 0) (nat_lit 0) = Value.slice none (nat_lit 0) (nat_lit 0) ∧ Value.int IntKind.i64 (0 : Int) = Value.int IntKind.i64 (↑(Subtype.val x_1) : Int) ∧ True) ∧ True ∧ True ∧ True) ∧ ∀ (t : { n : Nat // n ≤ (6 : Nat) }), (0 : Int) ≤ (↑(Subtype.val t) : Int) ∧ (decide (Int.fdiv x ((2 : Int) ^ min (Int.toNat (↑(Subtype.val t) : Int)) (nat_lit 64)) > (0 : Int)) = true → (0 : Int) ≤ (↑(Subtype.val t) : Int) ∧ ((IntKind.wrap IntKind.u64 (↑(BitVec.toNat (BitVec.ofInt (nat_lit 64) (Int.fdiv x ((2 : Int) ^ min (Int.toNat (↑(Subtype.val t) : Int)) (nat_lit 64))) &&& BitVec.ofInt (nat_lit 64) (1 : Int))) : Int) == (1 : Int)) = true → (nat_lit 1 = nat_lit 1 ∧ AV.v (Value.int IntKind.i64 (↑(Subtype.val t) : Int)) = AV.v (Value.int IntKind.i64 (↑(Subtype.val t) : Int)) ∧ True) ∧ nat_lit 1 ≤ nat_lit 1 ∧ List.length (upToM x (Subtype.val t)) + nat_lit 1 ≤ nat_lit 1099511627776 ∧ True ∧ ∃ (x_1 : { n : Nat // n ≤ (6 : Nat) }), ((Value.int IntKind.u64 x = Value.int IntKind.u64 x ∧ nat_lit 0 = nat_lit 0 ∧ Value.int IntKind.i64 (IntKind.wrap IntKind.i64 ((↑(Subtype.val t) : Int) + (1 : Int))) = Value.int IntKind.i64 (↑(Subtype.val x_1) : Int) ∧ True) ∧ True ∧ (nat_lit 3 = (3 : TypeId) ∧ upToM x (Subtype.val t) ++ List.take (1 : Nat) (List.drop (0 : Nat) [(↑(Subtype.val t) : Int)]) = upToM x (Subtype.val x_1)) ∧ True) ∧ nat_lit 6 - Subtype.val x_1 < nat_lit 6 - Subtype.val t) ∧ ((IntKind.wrap IntKind.u64 (↑(BitVec.toNat (BitVec.ofInt (nat_lit 64) (Int.fdiv x ((2 : Int) ^ min (Int.toNat (↑(Subtype.val t) : Int)) (nat_lit 64))) &&& BitVec.ofInt (nat_lit 64) (1 : Int))) : Int) == (1 : Int)) = false → True ∧ ∃ (x_1 : { n : Nat // n ≤ (6 : Nat) }), ((Value.int IntKind.u64 x = Value.int IntKind.u64 x ∧ nat_lit 0 = nat_lit 0 ∧ Value.int IntKind.i64 (IntKind.wrap IntKind.i64 ((↑(Subtype.val t) : Int) + (1 : Int))) = Value.int IntKind.i64 (↑(Subtype.val x_1) : Int) ∧ True) ∧ True ∧ ((3 : TypeId) = (3 : TypeId) ∧ upToM x (Subtype.val t) = upToM x (Subtype.val x_1)) ∧ True) ∧ nat_lit 6 - Subtype.val x_1 < nat_lit 6 - Subtype.val t)) ∧ (decide (Int.fdiv x ((2 : Int) ^ min (Int.toNat (↑(Subtype.val t) : Int)) (nat_lit 64)) > (0 : Int)) = false → True ∧ (nat_lit 0 = nat_lit 0 ∧ True) ∧ True ∧ ((3 : TypeId) = (3 : TypeId) ∧ upToM x (Subtype.val t) = membersM x) ∧ True))
    (by kernel_rfl) ?_
  simp only [eq_self, true_and, and_true, Int.toNat_natCast, Nat.zero_add, Nat.sub_zero, Value.int.injEq, Value.bool.injEq, decide_eq_true_eq, decide_eq_false_iff_not]
  have x1 : 0 ≤ x := hx.1
  have x2 : x < 64 := hx.2
  obtain ⟨m, rfl⟩ := Int.eq_ofNat_of_zero_le x1
  have hm : m < 64 := by omega
  refine ⟨⟨⟨0, Nat.zero_le _⟩, rfl, rfl⟩, fun t => ⟨Int.natCast_nonneg _, fun ht => ⟨Int.natCast_nonneg _, fun hs => ?_, fun hs => ?_⟩, fun ht => ?_⟩⟩
  all_goals
    obtain ⟨k, hk⟩ := t
  · have hk6 : k < 6 := members_lt hm hk ht
    have hl : (upToM (m : Int) k).length ≤ k := upTo_len _ _
    refine ⟨Nat.le_refl _, by show (upToM (m : Int) k).length + 1 ≤ _; omega, ⟨k + 1, hk6⟩, ⟨sucI k (by omega), ?_⟩, by show 6 - (k + 1) < 6 - k; omega⟩
    have hb : (m : Int).toNat.testBit k = true := by
      have h := has_math (u := (m : Int)) x1 x2 hk6
      have hs' : (IntKind.u64.wrap ↑(BitVec.ofInt 64 ((m : Int).fdiv (2 ^ min k 64)) &&& BitVec.ofInt 64 1).toNat == 1) = true := hs
      rw [h] at hs'
      unfold freeBM at hs'
      simpa using hs'
    rw [show upToM (m : Int) (⟨k + 1, hk6⟩ : { n // n ≤ 6 }).1 = _ from upTo_yes hb]
    rfl
  · have hk6 : k < 6 := members_lt hm hk ht
    refine ⟨⟨k + 1, hk6⟩, ⟨sucI k (by omega), ?_⟩, by show 6 - (k + 1) < 6 - k; omega⟩
    have hb : (m : Int).toNat.testBit k = false := by
      have h := has_math (u := (m : Int)) x1 x2 hk6
      have hs' : (IntKind.u64.wrap ↑(BitVec.ofInt 64 ((m : Int).fdiv (2 ^ min k 64)) &&& BitVec.ofInt 64 1).toNat == 1) = false := hs
      rw [h] at hs'
      unfold freeBM at hs'
      simpa using hs'
    exact (upTo_no hb).symm
  · exact members_end hm hk ht

theorem members_sound : Sound Try.prog 42 membersS.con := FSpec.sound _ (enter_of Try.func42 (by kernel_rfl) (by kernel_rfl)) members_ok
def sendM (es : List EntT) (nt : Int) (ps : List Int) : List Int × Bool := ((onM es nt ps ps.length 0 0 []).2.2, (onM es nt ps ps.length 0 0 []).1)
def sendS : FSpec UU where
  X := List EntT × Int × List Int
  pick := fun args H => match args with
    | [f, l] => match avField H f, sliceAt .int H l with
      | some f, some l => some (f.1, f.2, l)
      | _, _ => none
    | _ => none
  args := fun x => [.ptr 0 0 0 0, .sl 2 0 0 x.2.2.length]
  H := fun x => [.one (.rc [.map 1 0, .i x.2.1, .junk] 94), .one (.map .safe x.1), .one (.ro .int x.2.2)]
  R := fun x => .val ⟨.tup [.gs 3 0, .b (sendM x.1 x.2.1 x.2.2).2], [(1, 0, .map .safe x.1)], [], [.row .int (sendM x.1 x.2.1 x.2.2).1 3]⟩
  pre := fun x => x.2.2.length ≤ 6 ∧ 0 ≤ x.2.1 ∧ x.2.1 ≤ 6
def Tsend (n : Nat) : Tab UU := [(69, (onS n).con)]
theorem Tsend_ok (n : Nat) : (Tsend n).Sound Try.prog := .cons (on_sound n) .nil
set_option maxHeartbeats 0 in
set_option maxRecDepth 100000 in
theorem send_ok : ∀ x, sendS.pre x → FunOk Try.prog 41 (sendS.args x) (sendS.H x) (sendS.R x) := by
  rintro ⟨es, nt, ps⟩ hx
  refine fun_of (T := Tsend ps.length) (L := fun _ => none) (hs := fun _ => []) hmix (Tsend_ok ps.length) Try.func41 (by kernel_rfl) (by kernel_rfl) ?_
  refine Eq.mp (α :=
      ((true = true → ([] : List Int) = []) ∧ nat_lit 0 + List.length ps = List.length ps ∧ List.length ps ≤ nat_lit 6 ∧ nat_lit 0 = nat_lit 0 ∧ (0 : Int) ≤ (0 : Int) ∧ (0 : Int) < (64 : Int) ∧ (0 : Int) ≤ nt ∧ nt ≤ (6 : Int)) ∧ (Value.int IntKind.i64 (0 : Int) = Value.int IntKind.i64 (↑(nat_lit 0) : Int) ∧ (nat_lit 0 = nat_lit 0 ∧ nat_lit 0 = nat_lit 0 ∧ nat_lit 0 = nat_lit 0) ∧ (nat_lit 0 = nat_lit 0 ∧ nat_lit 0 = nat_lit 0 ∧ nat_lit 0 = nat_lit 0) ∧ (nat_lit 0 = nat_lit 0 ∧ nat_lit 0 = nat_lit 0 ∧ nat_lit 0 = nat_lit 0) ∧ (nat_lit 0 = nat_lit 0 ∧ nat_lit 0 = nat_lit 0 ∧ nat_lit 0 = nat_lit 0) ∧ (nat_lit 0 = nat_lit 0 ∧ nat_lit 0 = nat_lit 0 ∧ nat_lit 0 = nat_lit 0) ∧ True) ∧ (((nat_lit 0 = nat_lit 0 ∧ nat_lit 0 = nat_lit 0 ∧ List.length ps = List.length ps) ∧ True) ∧ ps = ps ∧ ((nat_lit 0 = nat_lit 0 ∧ nat_lit 0 = nat_lit 0 ∧ nat_lit 0 = nat_lit 0) ∧ True) ∧ (nat_lit 0 = nat_lit 0 ∧ Value.int IntKind.i64 nt = Value.int IntKind.i64 nt ∧ True ∧ True) ∧ es = es ∧ (Value.int IntKind.u64 (0 : Int) = Value.int IntKind.u64 (0 : Int) ∧ True) ∧ (Value.slice none (nat_lit 0) (nat_lit 0) = Value.slice none (nat_lit 0) (nat_lit 0) ∧ True) ∧ True ∧ ((Fn.func (nat_lit 69) = Fn.func (69 : FuncId) ∧ True ∧ (nat_lit 0 = nat_lit 0 ∧ nat_lit 0 = nat_lit 0 ∧ nat_lit 0 = nat_lit 0) ∧ (nat_lit 0 = nat_lit 0 ∧ nat_lit 0 = nat_lit 0 ∧ nat_lit 0 = nat_lit 0) ∧ (nat_lit 0 = nat_lit 0 ∧ nat_lit 0 = nat_lit 0 ∧ nat_lit 0 = nat_lit 0) ∧ (nat_lit 0 = nat_lit 0 ∧ nat_lit 0 = nat_lit 0 ∧ nat_lit 0 = nat_lit 0) ∧ (nat_lit 0 = nat_lit 0 ∧ nat_lit 0 = nat_lit 0 ∧ nat_lit 0 = nat_lit 0) ∧ True) ∧ True) ∧ True) ∧ True ∧ ((nat_lit 0 = nat_lit 0 ∧ Value.bool (Prod.fst (onM es nt ps (List.length ps) (nat_lit 0) (0 : Int) [])) = Value.bool (Prod.snd (sendM es nt ps)) ∧ True) ∧ True) ∧ True ∧ (nat_lit 0 = nat_lit 0 ∧ Value.int IntKind.i64 nt = Value.int IntKind.i64 nt ∧ True ∧ True) ∧ es = es ∧ ps = ps ∧ ((3 : TypeId) = (3 : TypeId) ∧ Prod.snd (Prod.snd (onM es nt ps (List.length ps) (0 : Nat) (0 : Int) [])) = Prod.fst (sendM es nt ps)) ∧ True)
    (by kernel_rfl) ?_
  simp only [eq_self, true_and, and_true, Int.toNat_natCast, Nat.zero_add, Nat.sub_zero, Value.int.injEq, Value.bool.injEq, decide_eq_true_eq, decide_eq_false_iff_not]
  exact ⟨⟨fun _ => trivial, hx.1, by decide, by decide, hx.2.1, hx.2.2⟩, rfl, rfl, rfl⟩

theorem send_sound : Sound Try.prog 41 sendS.con := FSpec.sound _ (enter_of Try.func41 (by kernel_rfl) (by kernel_rfl)) send_ok
end AE.Team

namespace AE.Team
open Go AE Go.Proofs AE.Soil

theorem mErr_small {ts : List TeamT} {l : List PlotT} (h : (matchErrM ts l == 0) = true) : (ts.length : Int) ≤ 6 := by
  apply Decidable.byContradiction
  intro hn
  rw [mErr_len hn] at h
  cases h
theorem members1 : membersM 1 = [0] := by decide
theorem members3 : membersM 3 = [0, 1] := by decide
def entsOM (ts : List TeamT) (x : PlotsT) : List EntT := entsM ts (lPlots x) (nPlots x) 0
def sendFM (ts : List TeamT) (x : PlotsT) (s : Int) : List Int × Bool := sendM (entsOM ts x) ts.length (membersM s)
def wholeM (x : PlotsT) : Int := match x.2 with
  | none => 1
  | some _ => 3
def sendOM (ts : List TeamT) (x : PlotsT) : List Int × Int := if matchErrM ts (lPlots x) == 0 then (if (sendFM ts x (wholeM x)).2 then ((sendFM ts x (wholeM x)).1, 0) else ([], 11)) else ([], matchErrM ts (lPlots x))
def manyS (R : List TeamT × PlotsT → OOut UU) : FSpec UU where
  X := List TeamT × PlotsT
  pick := fun args H => match args with
    | [a, b] => match sliceAt .team H a, avPlots H b with
      | some a, some b => some (a, b)
      | _, _ => none
    | _ => none
  args := fun x => [.sl 0 0 0 x.1.length, .sl 1 0 0 (nPlots x.2)]
  H := fun x => .one (.ro .team x.1) :: hPlots 1 x.2
  R := R
  pre := fun x => x.1.length < 1000000 ∧ okPlots x.2
def hMany (x : PlotsT) : Nat := match x.2 with
  | none => 4
  | some _ => 6
def sendOS : FSpec2 UU where
  X := List TeamT × PlotsT
  pick := fun args H => match args with
    | [a, b] => match sliceAt .team H a, avPlots H b with
      | some a, some b => some (a, b)
      | _, _ => none
    | _ => none
  args := fun x => [.sl 0 0 0 x.1.length, .sl 1 0 0 (nPlots x.2)]
  H := fun x => .one (.ro .team x.1) :: hPlots 1 x.2
  c := fun x => (sendOM x.1 x.2).2 == 0
  R := fun x => .val ⟨.tup [.gs (hMany x.2) 0, .i 0], [], [], [.row .int (sendOM x.1 x.2).1 3]⟩
  R' := fun x => .val ⟨.tup [nilV, .i (sendOM x.1 x.2).2], [], [], []⟩
  pre := fun x => x.1.length < 1000000 ∧ okPlots x.2
def TsendO : Tab UU := [(40, matchS.con), (42, membersS.con), (41, sendS.con), (38, needS.con), (29, caughtS.con)]
theorem TsendO_ok : TsendO.Sound Try.prog := .cons match_sound (.cons members_sound (.cons send_sound (.cons need_sound (.cons caught_sound .nil))))
set_option maxHeartbeats 0 in
set_option maxRecDepth 100000 in
theorem sendO_ok1 (ts : List TeamT) (p : PlotT) (hx : sendOS.pre (ts, p, none)) : (sendOS.c (ts, p, none) = true → FunOk Try.prog 12 (sendOS.args (ts, p, none)) (sendOS.H (ts, p, none)) (sendOS.R (ts, p, none))) ∧ (sendOS.c (ts, p, none) = false → FunOk Try.prog 12 (sendOS.args (ts, p, none)) (sendOS.H (ts, p, none)) (sendOS.R' (ts, p, none))) := by
  obtain ⟨⟨long, rise, change, ps⟩, st⟩ := p
  refine fun_ofE (T := TsendO) (L := fun _ => none) (hs := fun _ => []) (sp := fun _ => none) hmix TsendO_ok (tl := toldL 39) (toldL_ok toldSend) (it := fun _ => none) (fun _ _ h => by cases h) Try.func12 (by kernel_rfl) (by kernel_rfl) ?_
  refine Eq.mp (α :=
      (List.length ts < nat_lit 1000000 ∧ List.length ps < nat_lit 1000000 ∧ List.length st < nat_lit 1000000) ∧ ((matchErrM ts [PlotT.mk (GroundT.mk long rise change ps) st] == (0 : Int)) = true → ((nat_lit 0 = nat_lit 0 ∧ nat_lit 0 = nat_lit 0 ∧ List.length ts = List.length ts) ∧ (nat_lit 0 = nat_lit 0 ∧ nat_lit 0 = nat_lit 0 ∧ nat_lit 1 = nat_lit 1) ∧ True) ∧ (ts = ts ∧ ((Value.int IntKind.i64 long = Value.int IntKind.i64 long ∧ Value.int IntKind.i64 rise = Value.int IntKind.i64 rise ∧ Value.int IntKind.i64 change = Value.int IntKind.i64 change ∧ (nat_lit 0 = nat_lit 0 ∧ nat_lit 0 = nat_lit 0 ∧ List.length ps = List.length ps) ∧ (nat_lit 0 = nat_lit 0 ∧ nat_lit 0 = nat_lit 0 ∧ List.length st = List.length st) ∧ True) ∧ True) ∧ ps = ps ∧ st = st ∧ True) ∧ (0 : Int) ≤ (↑(nat_lit 1) : Int) ∧ ((0 : Int) ≤ IntKind.wrap IntKind.u64 (IntKind.wrap IntKind.u64 ((1 : Int) * (2 : Int) ^ nat_lit 1) - (1 : Int)) ∧ IntKind.wrap IntKind.u64 (IntKind.wrap IntKind.u64 ((1 : Int) * (2 : Int) ^ nat_lit 1) - (1 : Int)) < (64 : Int)) ∧ (Value.int IntKind.u64 (IntKind.wrap IntKind.u64 (IntKind.wrap IntKind.u64 ((1 : Int) * (2 : Int) ^ nat_lit 1) - (1 : Int))) = Value.int IntKind.u64 (IntKind.wrap IntKind.u64 (IntKind.wrap IntKind.u64 ((1 : Int) * (2 : Int) ^ nat_lit 1) - (1 : Int))) ∧ True) ∧ True ∧ (nat_lit 1 ≤ nat_lit 6 ∧ (0 : Int) ≤ (↑(List.length ts) : Int) ∧ (↑(List.length ts) : Int) ≤ (6 : Int)) ∧ ((nat_lit 0 = nat_lit 0 ∧ nat_lit 0 = nat_lit 0 ∧ nat_lit 0 = nat_lit 0) ∧ (nat_lit 7 = nat_lit 7 ∧ nat_lit 0 = nat_lit 0 ∧ nat_lit 0 = nat_lit 0 ∧ nat_lit 1 = nat_lit 1) ∧ True) ∧ ((nat_lit 0 = nat_lit 0 ∧ Value.int IntKind.i64 (↑(List.length ts) : Int) = Value.int IntKind.i64 (↑(List.length ts) : Int) ∧ True ∧ True) ∧ entsM ts [PlotT.mk (GroundT.mk long rise change ps) st] (1 : Nat) (0 : Nat) = entsM ts [PlotT.mk (GroundT.mk long rise change ps) st] (nat_lit 1) (nat_lit 0) ∧ [(↑(0 : Nat) : Int)] = [(↑(0 : Nat) : Int)] ∧ True) ∧ True ∧ (Prod.snd (sendM (entsM ts [PlotT.mk (GroundT.mk long rise change ps) st] (nat_lit 1) (nat_lit 0)) (↑(List.length ts) : Int) [(↑(0 : Nat) : Int)]) = true → (Value.bool (Prod.snd (sendM (entsM ts [PlotT.mk (GroundT.mk long rise change ps) st] (nat_lit 1) (nat_lit 0)) (↑(List.length ts) : Int) [(↑(0 : Nat) : Int)])) = Value.bool (Prod.snd (sendM (entsM ts [PlotT.mk (GroundT.mk long rise change ps) st] (nat_lit 1) (nat_lit 0)) (↑(List.length ts) : Int) [(↑(0 : Nat) : Int)])) ∧ Value.int IntKind.i64 (11 : Int) = Value.int IntKind.i64 (11 : Int) ∧ True) ∧ True ∧ (Prod.snd (sendOM ts (PlotT.mk (GroundT.mk long rise change ps) st, none)) == (0 : Int)) = true ∧ True ∧ (Value.nilIface = Value.nilIface ∧ (nat_lit 0 = nat_lit 0 ∧ nat_lit 0 = nat_lit 0 ∧ nat_lit 0 = nat_lit 0) ∧ True) ∧ ((Value.int IntKind.i64 (0 : Int) = Value.int IntKind.i64 (0 : Int) ∧ True) ∧ True) ∧ True ∧ ((nat_lit 0 = nat_lit 0 ∧ Value.int IntKind.i64 (0 : Int) = Value.int IntKind.i64 (0 : Int) ∧ True) ∧ True) ∧ True ∧ ts = ts ∧ ((Value.int IntKind.i64 long = Value.int IntKind.i64 long ∧ Value.int IntKind.i64 rise = Value.int IntKind.i64 rise ∧ Value.int IntKind.i64 change = Value.int IntKind.i64 change ∧ (nat_lit 0 = nat_lit 0 ∧ nat_lit 0 = nat_lit 0 ∧ List.length ps = List.length ps) ∧ (nat_lit 0 = nat_lit 0 ∧ nat_lit 0 = nat_lit 0 ∧ List.length st = List.length st) ∧ True) ∧ True) ∧ ps = ps ∧ st = st ∧ ((3 : TypeId) = (3 : TypeId) ∧ Prod.fst (sendM (entsM ts [PlotT.mk (GroundT.mk long rise change ps) st] (1 : Nat) (0 : Nat)) (↑(List.length ts) : Int) [(↑(nat_lit 0) : Int)]) = Prod.fst (sendOM ts (PlotT.mk (GroundT.mk long rise change ps) st, none))) ∧ True) ∧ (Prod.snd (sendM (entsM ts [PlotT.mk (GroundT.mk long rise change ps) st] (nat_lit 1) (nat_lit 0)) (↑(List.length ts) : Int) [(↑(0 : Nat) : Int)]) = false → (Value.bool (Prod.snd (sendM (entsM ts [PlotT.mk (GroundT.mk long rise change ps) st] (nat_lit 1) (nat_lit 0)) (↑(List.length ts) : Int) [(↑(0 : Nat) : Int)])) = Value.bool (Prod.snd (sendM (entsM ts [PlotT.mk (GroundT.mk long rise change ps) st] (nat_lit 1) (nat_lit 0)) (↑(List.length ts) : Int) [(↑(0 : Nat) : Int)])) ∧ Value.int IntKind.i64 (11 : Int) = Value.int IntKind.i64 (11 : Int) ∧ True) ∧ True ∧ (Prod.snd (sendOM ts (PlotT.mk (GroundT.mk long rise change ps) st, none)) == (0 : Int)) = false ∧ True ∧ (((110 : TypeId) = (110 : TypeId) ∧ Value.int IntKind.i64 (11 : Int) = Value.int IntKind.i64 (11 : Int) ∧ True) ∧ (nat_lit 0 = nat_lit 0 ∧ nat_lit 0 = nat_lit 0 ∧ nat_lit 0 = nat_lit 0) ∧ True) ∧ ((Value.int IntKind.i64 (0 : Int) = Value.int IntKind.i64 (0 : Int) ∧ True) ∧ True) ∧ True ∧ ((Value.slice none (nat_lit 0) (nat_lit 0) = Value.slice none (nat_lit 0) (nat_lit 0) ∧ Value.int IntKind.i64 (11 : Int) = Value.int IntKind.i64 (Prod.snd (sendOM ts (PlotT.mk (GroundT.mk long rise change ps) st, none))) ∧ True) ∧ True) ∧ True ∧ ts = ts ∧ ((Value.int IntKind.i64 long = Value.int IntKind.i64 long ∧ Value.int IntKind.i64 rise = Value.int IntKind.i64 rise ∧ Value.int IntKind.i64 change = Value.int IntKind.i64 change ∧ (nat_lit 0 = nat_lit 0 ∧ nat_lit 0 = nat_lit 0 ∧ List.length ps = List.length ps) ∧ (nat_lit 0 = nat_lit 0 ∧ nat_lit 0 = nat_lit 0 ∧ List.length st = List.length st) ∧ True) ∧ True) ∧ ps = ps ∧ st = st ∧ True)) ∧ ((matchErrM ts [PlotT.mk (GroundT.mk long rise change ps) st] == (0 : Int)) = false → ((nat_lit 0 = nat_lit 0 ∧ nat_lit 0 = nat_lit 0 ∧ List.length ts = List.length ts) ∧ (nat_lit 0 = nat_lit 0 ∧ nat_lit 0 = nat_lit 0 ∧ nat_lit 1 = nat_lit 1) ∧ True) ∧ (ts = ts ∧ ((Value.int IntKind.i64 long = Value.int IntKind.i64 long ∧ Value.int IntKind.i64 rise = Value.int IntKind.i64 rise ∧ Value.int IntKind.i64 change = Value.int IntKind.i64 change ∧ (nat_lit 0 = nat_lit 0 ∧ nat_lit 0 = nat_lit 0 ∧ List.length ps = List.length ps) ∧ (nat_lit 0 = nat_lit 0 ∧ nat_lit 0 = nat_lit 0 ∧ List.length st = List.length st) ∧ True) ∧ True) ∧ ps = ps ∧ st = st ∧ True) ∧ (Prod.snd (sendOM ts (PlotT.mk (GroundT.mk long rise change ps) st, none)) == (0 : Int)) = false ∧ True ∧ (((110 : TypeId) = (110 : TypeId) ∧ Value.int IntKind.i64 (matchErrM ts [PlotT.mk (GroundT.mk long rise change ps) st]) = Value.int IntKind.i64 (matchErrM ts [PlotT.mk (GroundT.mk long rise change ps) st]) ∧ True) ∧ (nat_lit 0 = nat_lit 0 ∧ nat_lit 0 = nat_lit 0 ∧ nat_lit 0 = nat_lit 0) ∧ True) ∧ ((Value.int IntKind.i64 (0 : Int) = Value.int IntKind.i64 (0 : Int) ∧ True) ∧ True) ∧ True ∧ ((Value.slice none (nat_lit 0) (nat_lit 0) = Value.slice none (nat_lit 0) (nat_lit 0) ∧ Value.int IntKind.i64 (matchErrM ts [PlotT.mk (GroundT.mk long rise change ps) st]) = Value.int IntKind.i64 (Prod.snd (sendOM ts (PlotT.mk (GroundT.mk long rise change ps) st, none))) ∧ True) ∧ True) ∧ True ∧ ts = ts ∧ ((Value.int IntKind.i64 long = Value.int IntKind.i64 long ∧ Value.int IntKind.i64 rise = Value.int IntKind.i64 rise ∧ Value.int IntKind.i64 change = Value.int IntKind.i64 change ∧ (nat_lit 0 = nat_lit 0 ∧ nat_lit 0 = nat_lit 0 ∧ List.length ps = List.length ps) ∧ (nat_lit 0 = nat_lit 0 ∧ nat_lit 0 = nat_lit 0 ∧ List.length st = List.length st) ∧ True) ∧ True) ∧ ps = ps ∧ st = st ∧ True))
    (by kernel_rfl) ?_
  simp only [eq_self, true_and, and_true, Int.toNat_natCast, Nat.zero_add, Nat.sub_zero, Value.int.injEq, Value.bool.injEq, decide_eq_true_eq, decide_eq_false_iff_not]
  have hx' : ts.length < 1000000 ∧ ps.length < 1000000 ∧ st.length < 1000000 := hx
  have hm : sendFM ts (⟨⟨long, rise, change, ps⟩, st⟩, none) (wholeM (⟨⟨long, rise, change, ps⟩, st⟩, none)) = sendM (entsM ts [⟨⟨long, rise, change, ps⟩, st⟩] 1 0) (ts.length : Int) [0] := by
    show sendM _ _ (membersM 1) = _
    rw [members1]; rfl
  refine ⟨hx', fun h => ⟨by decide, by decide, ⟨by decide, Int.natCast_nonneg _, mErr_small h⟩, fun hs => ?_, fun hs => ?_⟩, fun h => ?_⟩
  · have e : sendOM ts (⟨⟨long, rise, change, ps⟩, st⟩, none) = ((sendM (entsM ts [⟨⟨long, rise, change, ps⟩, st⟩] 1 0) (ts.length : Int) [0]).1, 0) := by
      refine (if_pos h).trans ?_
      rw [hm]; exact if_pos hs
    rw [e]; exact ⟨rfl, rfl⟩
  · have e : sendOM ts (⟨⟨long, rise, change, ps⟩, st⟩, none) = ([], 11) := by
      refine (if_pos h).trans ?_
      rw [hm]; exact if_neg (by rw [show (sendM (entsM ts [⟨⟨long, rise, change, ps⟩, st⟩] 1 0) (ts.length : Int) [0]).2 = false from hs]; decide)
    rw [e]; exact ⟨rfl, rfl⟩
  · have e : sendOM ts (⟨⟨long, rise, change, ps⟩, st⟩, none) = ([], matchErrM ts [⟨⟨long, rise, change, ps⟩, st⟩]) := if_neg (by rw [show (matchErrM ts (lPlots (⟨⟨long, rise, change, ps⟩, st⟩, none)) == 0) = false from h]; decide)
    rw [e]; exact ⟨h, rfl⟩

set_option maxHeartbeats 0 in
set_option maxRecDepth 100000 in
theorem sendO_ok2 (ts : List TeamT) (p q : PlotT) (hx : sendOS.pre (ts, p, some q)) : (sendOS.c (ts, p, some q) = true → FunOk Try.prog 12 (sendOS.args (ts, p, some q)) (sendOS.H (ts, p, some q)) (sendOS.R (ts, p, some q))) ∧ (sendOS.c (ts, p, some q) = false → FunOk Try.prog 12 (sendOS.args (ts, p, some q)) (sendOS.H (ts, p, some q)) (sendOS.R' (ts, p, some q))) := by
  obtain ⟨⟨long, rise, change, ps⟩, st⟩ := p
  obtain ⟨⟨long2, rise2, change2, ps2⟩, st2⟩ := q
  refine fun_ofE (T := TsendO) (L := fun _ => none) (hs := fun _ => []) (sp := fun _ => none) hmix TsendO_ok (tl := toldL 39) (toldL_ok toldSend) (it := fun _ => none) (fun _ _ h => by cases h) Try.func12 (by kernel_rfl) (by kernel_rfl) ?_
  refine Eq.mp (α :=
      (List.length ts < nat_lit 1000000 ∧ (List.length ps < nat_lit 1000000 ∧ List.length st < nat_lit 1000000) ∧ List.length ps2 < nat_lit 1000000 ∧ List.length st2 < nat_lit 1000000) ∧ ((matchErrM ts [PlotT.mk (GroundT.mk long rise change ps) st, PlotT.mk (GroundT.mk long2 rise2 change2 ps2) st2] == (0 : Int)) = true → ((nat_lit 0 = nat_lit 0 ∧ nat_lit 0 = nat_lit 0 ∧ List.length ts = List.length ts) ∧ (nat_lit 0 = nat_lit 0 ∧ nat_lit 0 = nat_lit 0 ∧ nat_lit 2 = nat_lit 2) ∧ True) ∧ (ts = ts ∧ ((Value.int IntKind.i64 long = Value.int IntKind.i64 long ∧ Value.int IntKind.i64 rise = Value.int IntKind.i64 rise ∧ Value.int IntKind.i64 change = Value.int IntKind.i64 change ∧ (nat_lit 0 = nat_lit 0 ∧ nat_lit 0 = nat_lit 0 ∧ List.length ps = List.length ps) ∧ (nat_lit 0 = nat_lit 0 ∧ nat_lit 0 = nat_lit 0 ∧ List.length st = List.length st) ∧ True) ∧ (Value.int IntKind.i64 long2 = Value.int IntKind.i64 long2 ∧ Value.int IntKind.i64 rise2 = Value.int IntKind.i64 rise2 ∧ Value.int IntKind.i64 change2 = Value.int IntKind.i64 change2 ∧ (nat_lit 0 = nat_lit 0 ∧ nat_lit 0 = nat_lit 0 ∧ List.length ps2 = List.length ps2) ∧ (nat_lit 0 = nat_lit 0 ∧ nat_lit 0 = nat_lit 0 ∧ List.length st2 = List.length st2) ∧ True) ∧ True) ∧ ps = ps ∧ st = st ∧ ps2 = ps2 ∧ st2 = st2 ∧ True) ∧ (0 : Int) ≤ (↑(nat_lit 2) : Int) ∧ ((0 : Int) ≤ IntKind.wrap IntKind.u64 (IntKind.wrap IntKind.u64 ((1 : Int) * (2 : Int) ^ nat_lit 2) - (1 : Int)) ∧ IntKind.wrap IntKind.u64 (IntKind.wrap IntKind.u64 ((1 : Int) * (2 : Int) ^ nat_lit 2) - (1 : Int)) < (64 : Int)) ∧ (Value.int IntKind.u64 (IntKind.wrap IntKind.u64 (IntKind.wrap IntKind.u64 ((1 : Int) * (2 : Int) ^ nat_lit 2) - (1 : Int))) = Value.int IntKind.u64 (IntKind.wrap IntKind.u64 (IntKind.wrap IntKind.u64 ((1 : Int) * (2 : Int) ^ nat_lit 2) - (1 : Int))) ∧ True) ∧ True ∧ (nat_lit 2 ≤ nat_lit 6 ∧ (0 : Int) ≤ (↑(List.length ts) : Int) ∧ (↑(List.length ts) : Int) ≤ (6 : Int)) ∧ ((nat_lit 0 = nat_lit 0 ∧ nat_lit 0 = nat_lit 0 ∧ nat_lit 0 = nat_lit 0) ∧ (nat_lit 9 = nat_lit 9 ∧ nat_lit 0 = nat_lit 0 ∧ nat_lit 0 = nat_lit 0 ∧ nat_lit 2 = nat_lit 2) ∧ True) ∧ ((nat_lit 0 = nat_lit 0 ∧ Value.int IntKind.i64 (↑(List.length ts) : Int) = Value.int IntKind.i64 (↑(List.length ts) : Int) ∧ True ∧ True) ∧ entsM ts [PlotT.mk (GroundT.mk long rise change ps) st, PlotT.mk (GroundT.mk long2 rise2 change2 ps2) st2] (2 : Nat) (0 : Nat) = entsM ts [PlotT.mk (GroundT.mk long rise change ps) st, PlotT.mk (GroundT.mk long2 rise2 change2 ps2) st2] (nat_lit 2) (nat_lit 0) ∧ [(↑(0 : Nat) : Int), (↑(1 : Nat) : Int)] = [(↑(0 : Nat) : Int), (↑(1 : Nat) : Int)] ∧ True) ∧ True ∧ (Prod.snd (sendM (entsM ts [PlotT.mk (GroundT.mk long rise change ps) st, PlotT.mk (GroundT.mk long2 rise2 change2 ps2) st2] (nat_lit 2) (nat_lit 0)) (↑(List.length ts) : Int) [(↑(0 : Nat) : Int), (↑(1 : Nat) : Int)]) = true → (Value.bool (Prod.snd (sendM (entsM ts [PlotT.mk (GroundT.mk long rise change ps) st, PlotT.mk (GroundT.mk long2 rise2 change2 ps2) st2] (nat_lit 2) (nat_lit 0)) (↑(List.length ts) : Int) [(↑(0 : Nat) : Int), (↑(1 : Nat) : Int)])) = Value.bool (Prod.snd (sendM (entsM ts [PlotT.mk (GroundT.mk long rise change ps) st, PlotT.mk (GroundT.mk long2 rise2 change2 ps2) st2] (nat_lit 2) (nat_lit 0)) (↑(List.length ts) : Int) [(↑(0 : Nat) : Int), (↑(1 : Nat) : Int)])) ∧ Value.int IntKind.i64 (11 : Int) = Value.int IntKind.i64 (11 : Int) ∧ True) ∧ True ∧ (Prod.snd (sendOM ts (PlotT.mk (GroundT.mk long rise change ps) st, some (PlotT.mk (GroundT.mk long2 rise2 change2 ps2) st2))) == (0 : Int)) = true ∧ True ∧ (Value.nilIface = Value.nilIface ∧ (nat_lit 0 = nat_lit 0 ∧ nat_lit 0 = nat_lit 0 ∧ nat_lit 0 = nat_lit 0) ∧ True) ∧ ((Value.int IntKind.i64 (0 : Int) = Value.int IntKind.i64 (0 : Int) ∧ True) ∧ True) ∧ True ∧ ((nat_lit 0 = nat_lit 0 ∧ Value.int IntKind.i64 (0 : Int) = Value.int IntKind.i64 (0 : Int) ∧ True) ∧ True) ∧ True ∧ ts = ts ∧ ((Value.int IntKind.i64 long = Value.int IntKind.i64 long ∧ Value.int IntKind.i64 rise = Value.int IntKind.i64 rise ∧ Value.int IntKind.i64 change = Value.int IntKind.i64 change ∧ (nat_lit 0 = nat_lit 0 ∧ nat_lit 0 = nat_lit 0 ∧ List.length ps = List.length ps) ∧ (nat_lit 0 = nat_lit 0 ∧ nat_lit 0 = nat_lit 0 ∧ List.length st = List.length st) ∧ True) ∧ (Value.int IntKind.i64 long2 = Value.int IntKind.i64 long2 ∧ Value.int IntKind.i64 rise2 = Value.int IntKind.i64 rise2 ∧ Value.int IntKind.i64 change2 = Value.int IntKind.i64 change2 ∧ (nat_lit 0 = nat_lit 0 ∧ nat_lit 0 = nat_lit 0 ∧ List.length ps2 = List.length ps2) ∧ (nat_lit 0 = nat_lit 0 ∧ nat_lit 0 = nat_lit 0 ∧ List.length st2 = List.length st2) ∧ True) ∧ True) ∧ ps = ps ∧ st = st ∧ ps2 = ps2 ∧ st2 = st2 ∧ ((3 : TypeId) = (3 : TypeId) ∧ Prod.fst (sendM (entsM ts [PlotT.mk (GroundT.mk long rise change ps) st, PlotT.mk (GroundT.mk long2 rise2 change2 ps2) st2] (2 : Nat) (0 : Nat)) (↑(List.length ts) : Int) [(↑(nat_lit 0) : Int), (↑(nat_lit 1) : Int)]) = Prod.fst (sendOM ts (PlotT.mk (GroundT.mk long rise change ps) st, some (PlotT.mk (GroundT.mk long2 rise2 change2 ps2) st2)))) ∧ True) ∧ (Prod.snd (sendM (entsM ts [PlotT.mk (GroundT.mk long rise change ps) st, PlotT.mk (GroundT.mk long2 rise2 change2 ps2) st2] (nat_lit 2) (nat_lit 0)) (↑(List.length ts) : Int) [(↑(0 : Nat) : Int), (↑(1 : Nat) : Int)]) = false → (Value.bool (Prod.snd (sendM (entsM ts [PlotT.mk (GroundT.mk long rise change ps) st, PlotT.mk (GroundT.mk long2 rise2 change2 ps2) st2] (nat_lit 2) (nat_lit 0)) (↑(List.length ts) : Int) [(↑(0 : Nat) : Int), (↑(1 : Nat) : Int)])) = Value.bool (Prod.snd (sendM (entsM ts [PlotT.mk (GroundT.mk long rise change ps) st, PlotT.mk (GroundT.mk long2 rise2 change2 ps2) st2] (nat_lit 2) (nat_lit 0)) (↑(List.length ts) : Int) [(↑(0 : Nat) : Int), (↑(1 : Nat) : Int)])) ∧ Value.int IntKind.i64 (11 : Int) = Value.int IntKind.i64 (11 : Int) ∧ True) ∧ True ∧ (Prod.snd (sendOM ts (PlotT.mk (GroundT.mk long rise change ps) st, some (PlotT.mk (GroundT.mk long2 rise2 change2 ps2) st2))) == (0 : Int)) = false ∧ True ∧ (((110 : TypeId) = (110 : TypeId) ∧ Value.int IntKind.i64 (11 : Int) = Value.int IntKind.i64 (11 : Int) ∧ True) ∧ (nat_lit 0 = nat_lit 0 ∧ nat_lit 0 = nat_lit 0 ∧ nat_lit 0 = nat_lit 0) ∧ True) ∧ ((Value.int IntKind.i64 (0 : Int) = Value.int IntKind.i64 (0 : Int) ∧ True) ∧ True) ∧ True ∧ ((Value.slice none (nat_lit 0) (nat_lit 0) = Value.slice none (nat_lit 0) (nat_lit 0) ∧ Value.int IntKind.i64 (11 : Int) = Value.int IntKind.i64 (Prod.snd (sendOM ts (PlotT.mk (GroundT.mk long rise change ps) st, some (PlotT.mk (GroundT.mk long2 rise2 change2 ps2) st2)))) ∧ True) ∧ True) ∧ True ∧ ts = ts ∧ ((Value.int IntKind.i64 long = Value.int IntKind.i64 long ∧ Value.int IntKind.i64 rise = Value.int IntKind.i64 rise ∧ Value.int IntKind.i64 change = Value.int IntKind.i64 change ∧ (nat_lit 0 = nat_lit 0 ∧ nat_lit 0 = nat_lit 0 ∧ List.length ps = List.length ps) ∧ (nat_lit 0 = nat_lit 0 ∧ nat_lit 0 = nat_lit 0 ∧ List.length st = List.length st) ∧ True) ∧ (Value.int IntKind.i64 long2 = Value.int IntKind.i64 long2 ∧ Value.int IntKind.i64 rise2 = Value.int IntKind.i64 rise2 ∧ Value.int IntKind.i64 change2 = Value.int IntKind.i64 change2 ∧ (nat_lit 0 = nat_lit 0 ∧ nat_lit 0 = nat_lit 0 ∧ List.length ps2 = List.length ps2) ∧ (nat_lit 0 = nat_lit 0 ∧ nat_lit 0 = nat_lit 0 ∧ List.length st2 = List.length st2) ∧ True) ∧ True) ∧ ps = ps ∧ st = st ∧ ps2 = ps2 ∧ st2 = st2 ∧ True)) ∧ ((matchErrM ts [PlotT.mk (GroundT.mk long rise change ps) st, PlotT.mk (GroundT.mk long2 rise2 change2 ps2) st2] == (0 : Int)) = false → ((nat_lit 0 = nat_lit 0 ∧ nat_lit 0 = nat_lit 0 ∧ List.length ts = List.length ts) ∧ (nat_lit 0 = nat_lit 0 ∧ nat_lit 0 = nat_lit 0 ∧ nat_lit 2 = nat_lit 2) ∧ True) ∧ (ts = ts ∧ ((Value.int IntKind.i64 long = Value.int IntKind.i64 long ∧ Value.int IntKind.i64 rise = Value.int IntKind.i64 rise ∧ Value.int IntKind.i64 change = Value.int IntKind.i64 change ∧ (nat_lit 0 = nat_lit 0 ∧ nat_lit 0 = nat_lit 0 ∧ List.length ps = List.length ps) ∧ (nat_lit 0 = nat_lit 0 ∧ nat_lit 0 = nat_lit 0 ∧ List.length st = List.length st) ∧ True) ∧ (Value.int IntKind.i64 long2 = Value.int IntKind.i64 long2 ∧ Value.int IntKind.i64 rise2 = Value.int IntKind.i64 rise2 ∧ Value.int IntKind.i64 change2 = Value.int IntKind.i64 change2 ∧ (nat_lit 0 = nat_lit 0 ∧ nat_lit 0 = nat_lit 0 ∧ List.length ps2 = List.length ps2) ∧ (nat_lit 0 = nat_lit 0 ∧ nat_lit 0 = nat_lit 0 ∧ List.length st2 = List.length st2) ∧ True) ∧ True) ∧ ps = ps ∧ st = st ∧ ps2 = ps2 ∧ st2 = st2 ∧ True) ∧ (Prod.snd (sendOM ts (PlotT.mk (GroundT.mk long rise change ps) st, some (PlotT.mk (GroundT.mk long2 rise2 change2 ps2) st2))) == (0 : Int)) = false ∧ True ∧ (((110 : TypeId) = (110 : TypeId) ∧ Value.int IntKind.i64 (matchErrM ts [PlotT.mk (GroundT.mk long rise change ps) st, PlotT.mk (GroundT.mk long2 rise2 change2 ps2) st2]) = Value.int IntKind.i64 (matchErrM ts [PlotT.mk (GroundT.mk long rise change ps) st, PlotT.mk (GroundT.mk long2 rise2 change2 ps2) st2]) ∧ True) ∧ (nat_lit 0 = nat_lit 0 ∧ nat_lit 0 = nat_lit 0 ∧ nat_lit 0 = nat_lit 0) ∧ True) ∧ ((Value.int IntKind.i64 (0 : Int) = Value.int IntKind.i64 (0 : Int) ∧ True) ∧ True) ∧ True ∧ ((Value.slice none (nat_lit 0) (nat_lit 0) = Value.slice none (nat_lit 0) (nat_lit 0) ∧ Value.int IntKind.i64 (matchErrM ts [PlotT.mk (GroundT.mk long rise change ps) st, PlotT.mk (GroundT.mk long2 rise2 change2 ps2) st2]) = Value.int IntKind.i64 (Prod.snd (sendOM ts (PlotT.mk (GroundT.mk long rise change ps) st, some (PlotT.mk (GroundT.mk long2 rise2 change2 ps2) st2)))) ∧ True) ∧ True) ∧ True ∧ ts = ts ∧ ((Value.int IntKind.i64 long = Value.int IntKind.i64 long ∧ Value.int IntKind.i64 rise = Value.int IntKind.i64 rise ∧ Value.int IntKind.i64 change = Value.int IntKind.i64 change ∧ (nat_lit 0 = nat_lit 0 ∧ nat_lit 0 = nat_lit 0 ∧ List.length ps = List.length ps) ∧ (nat_lit 0 = nat_lit 0 ∧ nat_lit 0 = nat_lit 0 ∧ List.length st = List.length st) ∧ True) ∧ (Value.int IntKind.i64 long2 = Value.int IntKind.i64 long2 ∧ Value.int IntKind.i64 rise2 = Value.int IntKind.i64 rise2 ∧ Value.int IntKind.i64 change2 = Value.int IntKind.i64 change2 ∧ (nat_lit 0 = nat_lit 0 ∧ nat_lit 0 = nat_lit 0 ∧ List.length ps2 = List.length ps2) ∧ (nat_lit 0 = nat_lit 0 ∧ nat_lit 0 = nat_lit 0 ∧ List.length st2 = List.length st2) ∧ True) ∧ True) ∧ ps = ps ∧ st = st ∧ ps2 = ps2 ∧ st2 = st2 ∧ True))
    (by kernel_rfl) ?_
  simp only [eq_self, true_and, and_true, Int.toNat_natCast, Nat.zero_add, Nat.sub_zero, Value.int.injEq, Value.bool.injEq, decide_eq_true_eq, decide_eq_false_iff_not]
  have hx' : ts.length < 1000000 ∧ (ps.length < 1000000 ∧ st.length < 1000000) ∧ ps2.length < 1000000 ∧ st2.length < 1000000 := hx
  have hm : sendFM ts (⟨⟨long, rise, change, ps⟩, st⟩, some ⟨⟨long2, rise2, change2, ps2⟩, st2⟩) (wholeM (⟨⟨long, rise, change, ps⟩, st⟩, some ⟨⟨long2, rise2, change2, ps2⟩, st2⟩)) = sendM (entsM ts [⟨⟨long, rise, change, ps⟩, st⟩, ⟨⟨long2, rise2, change2, ps2⟩, st2⟩] 2 0) (ts.length : Int) [0, 1] := by
    show sendM _ _ (membersM 3) = _
    rw [members3]; rfl
  refine ⟨hx', fun h => ⟨by decide, by decide, ⟨by decide, Int.natCast_nonneg _, mErr_small h⟩, fun hs => ?_, fun hs => ?_⟩, fun h => ?_⟩
  · have e : sendOM ts (⟨⟨long, rise, change, ps⟩, st⟩, some ⟨⟨long2, rise2, change2, ps2⟩, st2⟩) = ((sendM (entsM ts [⟨⟨long, rise, change, ps⟩, st⟩, ⟨⟨long2, rise2, change2, ps2⟩, st2⟩] 2 0) (ts.length : Int) [0, 1]).1, 0) := by
      refine (if_pos h).trans ?_
      rw [hm]; exact if_pos hs
    rw [e]; exact ⟨rfl, rfl⟩
  · have e : sendOM ts (⟨⟨long, rise, change, ps⟩, st⟩, some ⟨⟨long2, rise2, change2, ps2⟩, st2⟩) = ([], 11) := by
      refine (if_pos h).trans ?_
      rw [hm]; exact if_neg (by rw [show (sendM (entsM ts [⟨⟨long, rise, change, ps⟩, st⟩, ⟨⟨long2, rise2, change2, ps2⟩, st2⟩] 2 0) (ts.length : Int) [0, 1]).2 = false from hs]; decide)
    rw [e]; exact ⟨rfl, rfl⟩
  · have e : sendOM ts (⟨⟨long, rise, change, ps⟩, st⟩, some ⟨⟨long2, rise2, change2, ps2⟩, st2⟩) = ([], matchErrM ts [⟨⟨long, rise, change, ps⟩, st⟩, ⟨⟨long2, rise2, change2, ps2⟩, st2⟩]) := if_neg (by rw [show (matchErrM ts (lPlots (⟨⟨long, rise, change, ps⟩, st⟩, some ⟨⟨long2, rise2, change2, ps2⟩, st2⟩)) == 0) = false from h]; decide)
    rw [e]; exact ⟨h, rfl⟩

theorem sendO_sound : Sound Try.prog 12 sendOS.con := FSpec2.sound _ (enter_of Try.func12 (by kernel_rfl) (by kernel_rfl)) fun x h => match x, h with
  | (ts, p, none), h => sendO_ok1 ts p h
  | (ts, p, some q), h => sendO_ok2 ts p q h
end AE.Team

namespace AE.Team
open Go AE Go.Proofs AE.Soil

def badSM (ts : List TeamT) (x : PlotsT) (z s : Nat) : Bool := popM (s : Int) == (z : Int) && !(sendFM ts x (s : Int)).2
def pairsM (x : PlotsT) : List (Nat × Nat) := (List.range (nPlots x + 1)).flatMap fun z => (List.range (2 ^ nPlots x)).map fun s => (z, s)
def shortM (ts : List TeamT) (x : PlotsT) : Int × Int := if matchErrM ts (lPlots x) == 0 then (match (pairsM x).find? fun p => badSM ts x p.1 p.2 with
  | some p => ((p.2 : Int), 0)
  | none => (0, 4)) else (0, matchErrM ts (lPlots x))
theorem suc64 (s : Nat) (h : s < 64) : IntKind.u64.wrap ((s : Int) + 1) = ((s + 1 : Nat) : Int) := by
  have : ∀ m : Fin 64, IntKind.u64.wrap (((m.val : Nat) : Int) + 1) = ((m.val + 1 : Nat) : Int) := by decide +kernel
  exact this ⟨s, h⟩
theorem find_pairs {f : Nat × Nat → Bool} {W : Nat} : ∀ {N z s : Nat}, z < N → s < W → (∀ a, a < z → ∀ b, b < W → f (a, b) = false) → (∀ b, b < s → f (z, b) = false) → f (z, s) = true → ((List.range N).flatMap fun z => (List.range W).map fun s => (z, s)).find? f = some (z, s)
  | 0, z, s, hz, _, _, _, _ => absurd hz (Nat.not_lt_zero _)
  | N + 1, z, s, hz, hs, ha, hb, h => by
    rw [List.range_succ, List.flatMap_append, List.find?_append]
    rcases Nat.lt_or_eq_of_le (Nat.le_of_lt_succ hz) with h1 | rfl
    · rw [find_pairs h1 hs ha hb h]; rfl
    · have e1 : ((List.range z).flatMap fun z => (List.range W).map fun s => (z, s)).find? f = none := by
        rw [List.find?_eq_none]
        intro p hp
        obtain ⟨a, ha', hp2⟩ := List.mem_flatMap.1 hp
        obtain ⟨b, hb', rfl⟩ := List.mem_map.1 hp2
        rw [ha a (List.mem_range.1 ha') b (List.mem_range.1 hb')]; decide
      rw [e1]
      simp only [List.flatMap_cons, List.flatMap_nil, List.append_nil, Option.none_or]
      rw [List.find?_map]
      have e2 : (List.range W).find? (f ∘ fun s => (z, s)) = some s := by
        rw [List.find?_range_eq_some]
        exact ⟨h, List.mem_range.2 hs, fun j hj => by show (!f (z, j)) = true; rw [hb j hj]; rfl⟩
      rw [e2]; rfl
theorem short_some {ts : List TeamT} {x : PlotsT} (h : (matchErrM ts (lPlots x) == 0) = true) {z s : Nat} (hz : z < nPlots x + 1) (hs : s < 2 ^ nPlots x) (ha : ∀ a, a < z → ∀ s, s < 2 ^ nPlots x → badSM ts x a s = false) (hb : ∀ s', s' < s → badSM ts x z s' = false) (hbt : badSM ts x z s = true) : shortM ts x = ((s : Int), 0) := by
  have e := find_pairs (f := fun p => badSM ts x p.1 p.2) hz hs ha hb hbt
  unfold shortM pairsM
  rw [if_pos h, e]
theorem short_none {ts : List TeamT} {x : PlotsT} (h : (matchErrM ts (lPlots x) == 0) = true) (ha : ∀ a, a < nPlots x + 1 → ∀ s, s < 2 ^ nPlots x → badSM ts x a s = false) : shortM ts x = (0, 4) := by
  have e : (pairsM x).find? (fun p => badSM ts x p.1 p.2) = none := by
    rw [List.find?_eq_none]
    intro p hp
    obtain ⟨a, ha', hp2⟩ := List.mem_flatMap.1 hp
    obtain ⟨b, hb', rfl⟩ := List.mem_map.1 hp2
    rw [ha a (List.mem_range.1 ha') b (List.mem_range.1 hb')]; decide
  unfold shortM
  rw [if_pos h, e]
theorem short_err {ts : List TeamT} {x : PlotsT} (h : (matchErrM ts (lPlots x) == 0) = false) : shortM ts x = (0, matchErrM ts (lPlots x)) := by
  unfold shortM
  exact if_neg (by rw [h]; decide)
theorem short_next {ts : List TeamT} {x : PlotsT} {z W : Nat} (ha : ∀ a, a < z → ∀ s, s < W → badSM ts x a s = false) (hb : ∀ s, s < W → badSM ts x z s = false) : ∀ a, a < z + 1 → ∀ s, s < W → badSM ts x a s = false := by
  intro a h s hs
  rcases Nat.lt_or_eq_of_le (Nat.le_of_lt_succ h) with h2 | rfl
  · exact ha a h2 s hs
  · exact hb s hs
def shortHc (ts : List TeamT) (x : PlotsT) : Heap UU := .one (.ro .team ts) :: hPlots 1 x ++ [.one (.cells [.i 0] 22), .one (.map .safe (entsOM ts x)), .one (.cells (cField (hMany x + 1) ts.length (nPlots x)) 94)]
def shortFr (x : PlotsT) (z : Nat) : Fr := [(4, .i 0), (5, .ptr (hMany x) 0 0 0), (6, .ptr (hMany x + 2) 0 0 0), (19, .i (nPlots x + 1 : Nat)), (20, .i z)]
def shortL (ts : List TeamT) (x : PlotsT) : LSpec UU where
  T := { z : Nat // z ≤ nPlots x + 1 ∧ ∀ a, a < z → ∀ s, s < 2 ^ nPlots x → badSM ts x a s = false }
  fr := fun z => shortFr x z.1
  H := fun _ => shortHc ts x
  mu := fun z => nPlots x + 1 - z.1
def shortL2 (ts : List TeamT) (x : PlotsT) : LSpec UU where
  T := { p : Nat × Nat // p.1 < nPlots x + 1 ∧ p.2 ≤ 2 ^ nPlots x ∧ (∀ a, a < p.1 → ∀ s, s < 2 ^ nPlots x → badSM ts x a s = false) ∧ ∀ s, s < p.2 → badSM ts x p.1 s = false }
  fr := fun p => shortFr x p.1.1 ++ [(7, .i p.1.1), (27, uV (2 ^ nPlots x : Nat)), (28, uV p.1.2)]
  H := fun _ => shortHc ts x
  mu := fun p => 2 ^ nPlots x - p.1.2
def shortS : FSpec UU := manyS fun x => .val ⟨.tup [.i (shortM x.1 x.2).1, .i (shortM x.1 x.2).2], [], [], []⟩
def Tshort : Tab UU := [(40, matchS.con), (44, popS.con), (42, membersS.con), (41, sendS.con), (29, caughtS.con)]
theorem Tshort_ok : Tshort.Sound Try.prog := .cons match_sound (.cons ones_sound (.cons members_sound (.cons send_sound (.cons caught_sound .nil))))
def shortRule (ts : List TeamT) (x : PlotsT) (k : Nat) : Option (LRule UU) := match Nat.beq k 4 with
  | true => some (.inv (shortL ts x))
  | false => some (.invR (shortL2 ts x) fun a b => b.1.1 = a.1.1)
set_option maxHeartbeats 0 in
set_option maxRecDepth 100000 in
theorem short_ok1 (ts : List TeamT) (p : PlotT) (hx : shortS.pre (ts, p, none)) : FunOk Try.prog 14 (shortS.args (ts, p, none)) (shortS.H (ts, p, none)) (shortS.R (ts, p, none)) := by
  obtain ⟨⟨long, rise, change, ps⟩, st⟩ := p
  refine fun_ofG (T := Tshort) (L := shortRule ts (⟨⟨long, rise, change, ps⟩, st⟩, none)) (hs := fun _ => []) (sp := fun _ => none) hmix Tshort_ok (tl := toldL 43) (toldL_ok toldShort) (it := fun _ => none) (fun _ _ h => by cases h) Try.func14 (by kernel_rfl) (by kernel_rfl) ?_
  refine Eq.mp (α :=
      let Z0 := (110 : TypeId); let Z1 := fun (s : Nat) (p : Nat × Nat) => s < Prod.snd p; let Z2 := fun (a : Nat) (p : Nat × Nat) => a < Prod.fst p; let Z3 := nat_lit 0 = nat_lit 0 ∧ nat_lit 0 = nat_lit 0 ∧ nat_lit 0 = nat_lit 0; let Z4 := nat_lit 0 = nat_lit 0 ∧ nat_lit 0 = nat_lit 0 ∧ nat_lit 1 = nat_lit 1; let Z5 := AV.ptr (4 : Nat) (nat_lit 0) (nat_lit 0) (nat_lit 0); let Z6 := st = st ∧ True; let Z7 := Value.int IntKind.i64 (↑(nat_lit 2) : Int); let Z8 := Value.int IntKind.u64 (↑(nat_lit 2) : Int); let Z9 := Value.int IntKind.i64 (↑(nat_lit 1) : Int); let Z10 := (↑(List.length ts) : Int); let Z11 := Value.int IntKind.i64 (4 : Int); let Z12 := Value.int IntKind.i64 (0 : Int); let Z13 := Z3 ∧ True; let Z14 := Z4 ∧ True; let Z15 := List.length ps = List.length ps; let Z16 := List.length st = List.length st; let Z17 := Value.int IntKind.i64 long = Value.int IntKind.i64 long; let Z18 := Value.int IntKind.i64 rise = Value.int IntKind.i64 rise; let Z19 := List.length ts = List.length ts; let Z20 := Value.int IntKind.i64 change = Value.int IntKind.i64 change; let Z21 : List AV := [Z5]; let Z22 := nat_lit 0 = nat_lit 0 ∧ Z15; let Z23 := Value.int IntKind.i64 Z10; let Z24 := Z13 ∧ True ∧ True; let Z25 : List PlotT := [PlotT.mk (GroundT.mk long rise change ps) st]; let Z26 := nat_lit 0 = nat_lit 0 ∧ Z16; let Z27 := nat_lit 0 = nat_lit 0 ∧ Z19; let Z28 := nat_lit 0 = nat_lit 0 ∧ Z22; let Z29 := nat_lit 0 = nat_lit 0 ∧ Z27; let Z30 := ps = ps ∧ Z6; let Z31 := nat_lit 0 = nat_lit 0 ∧ Z26; let Z32 := matchErrM ts Z25; let Z33 := (PlotT.mk (GroundT.mk long rise change ps) st, none); let Z34 := Value.nilIface = Value.nilIface ∧ Z13; let Z35 := Z31 ∧ True; let Z36 := DfE.call (Fn.func (nat_lit 43)) Z21 []; let Z37 := nPlots Z33; let Z38 := shortM ts Z33; let Z39 : List EntT := entsOM ts Z33; let Z40 := Z7 = Z7; let Z41 := Z8 = Z8; let Z42 := Z9 = Z9; let Z43 := fun (a s : Nat) => badSM ts Z33 a s; let Z44 := Z12 = Z12; let Z45 := Value.int IntKind.i64 Z32; let Z46 := Z42 ∧ True; let Z47 := Z44 ∧ True; let Z48 := Prod.snd Z38; let Z49 := Prod.fst Z38; let Z50 := fun (p : Nat × Nat) (s : Nat) => badSM ts Z33 (Prod.fst p) s; let Z51 := fun (a s : Nat) => Z43 a s = false; let Z52 := Z47 ∧ True; let Z53 : List DfE := [Z36]; let Z54 := Value.int IntKind.i64 Z49; let Z55 := Value.int IntKind.i64 Z48; let Z56 := fun (p : Nat × Nat) (s : Nat) => Z50 p s = false; let Z57 := Z29 ∧ Z14; let Z58 := Z23 = Z23; let Z59 := Z32 == (0 : Int); let Z60 := Z37 + (1 : Nat); let Z61 := fun (s : Nat) (p : Nat × Nat) => Z1 s p → Z56 p s; let Z62 := Z28 ∧ Z35; let Z63 := fun (p : Nat × Nat) => ∀ (s : Nat), Z61 s p; let Z64 := (2 : Nat) ^ Z37; let Z65 := fun (z : Nat) => z ≤ Z60; let Z66 := Z12 = Z54; let Z67 := fun (p : Nat × Nat) => Prod.fst p < Z60; let Z68 := fun (s : Nat) => s < Z64; let Z69 := fun (p : Nat × Nat) => Prod.snd p ≤ Z64; let Z70 := Z39 = Z39; let Z71 := Z20 ∧ Z62; let Z72 := Z53 = Z53; let Z73 := Z58 ∧ Z46; let Z74 := nat_lit 0 = nat_lit 0 ∧ Z73; let Z75 := Z74 ∧ True; let Z76 := Z18 ∧ Z71; let Z77 := fun (s a : Nat) => Z68 s → Z51 a s; let Z78 := fun (a : Nat) => ∀ (s : Nat), Z77 s a; let Z79 := Z17 ∧ Z76; let Z80 := Z79 ∧ True; let Z81 := fun (a z : Nat) => a < z → Z78 a; let Z82 := fun (z : Nat) => ∀ (a : Nat), Z81 a z; let Z83 := fun (a : Nat) (p : Nat × Nat) => Z2 a p → Z78 a; let Z84 := fun (p : Nat × Nat) => ∀ (a : Nat), Z83 a p; let Z85 := Z80 ∧ Z30; let Z86 := ts = ts ∧ Z85; let Z87 := True ∧ Z86; let Z88 := Z70 ∧ Z75; let Z89 := fun (z : Nat) => Z65 z ∧ Z82 z; let Z90 := fun (p : Nat × Nat) => Z84 p ∧ Z63 p; let Z91 : Type := { z : Nat // Z89 z }; let Z92 := fun (x : Z91) => Subtype.val x; let Z93 := fun (x : Z91) => (↑(Z92 x) : Int); let Z94 := fun (x : Z91) => nat_lit 2 - Z92 x; let Z95 := fun (x : Z91) => Value.int IntKind.i64 (Z93 x); let Z96 := Z47 ∧ Z88; let Z97 := fun (t : Z91) => Z93 t < (↑(nat_lit 2) : Int); let Z98 := st = st ∧ Z96; let Z99 := ps = ps ∧ Z98; let Z100 := fun (p : Nat × Nat) => Z69 p ∧ Z90 p; let Z101 := fun (p : Nat × Nat) => Z67 p ∧ Z100 p; let Z102 : Type := { p : Nat × Nat // Z101 p }; let Z103 := fun (x : Z102) => Subtype.val x; let Z104 := fun (x : Z102) => Prod.snd (Z103 x); let Z105 := fun (x : Z102) => Prod.fst (Z103 x); let Z106 := Z80 ∧ Z99; let Z107 := fun (x : Z102) => (↑(Z105 x) : Int); let Z108 := fun (x : Z102) => (↑(Z104 x) : Int); let Z109 := fun (t : Z102) => popM (Z108 t); let Z110 := fun (t : Z102) => membersM (Z108 t); let Z111 := fun (x : Z102) => nat_lit 2 - Z104 x; let Z112 := fun (x : Z102) => Value.int IntKind.i64 (Z107 x); let Z113 := fun (x : Z102) => Value.int IntKind.u64 (Z108 x); let Z114 := fun (t : Z102) => List.length (Z110 t); let Z115 := ts = ts ∧ Z106; let Z116 := fun (t : Z102) => Z108 t < (↑(nat_lit 2) : Int); let Z117 := fun (t : Z102) => (0 : Int) ≤ Z108 t; let Z118 := fun (t : Z102) => Z108 t < (64 : Int); let Z119 := fun (t : Z102) => Z108 t + (1 : Int); let Z120 := fun (t : Z102) => IntKind.wrap IntKind.u64 (Z119 t); let Z121 := Z24 ∧ Z115; let Z122 := fun (t : Z102) => Value.int IntKind.u64 (Z120 t); let Z123 := fun (t : Z102) => sendM Z39 Z10 (Z110 t); let Z124 := fun (t : Z102) => Prod.snd (Z123 t); let Z125 := fun (t : Z102) => !Z124 t; let Z126 := fun (t : Z91) => decide (Z97 t); let Z127 := fun (t : Z91) (x : Z102) => Z95 t = Z112 x; let Z128 := fun (t x : Z102) => Z105 t = Z105 x; let Z129 := fun (t x : Z102) => Z112 t = Z112 x; let Z130 := fun (t : Z102) => Z113 t = Z113 t; let Z131 := fun (x t : Z102) => Z111 x < Z111 t; let Z132 := fun (t : Z102) => Z109 t != Z107 t; let Z133 := fun (t : Z102) => Z130 t ∧ True; let Z134 := fun (t : Z102) => Z117 t ∧ Z118 t; let Z135 := fun (t x : Z102) => Z122 t = Z113 x; let Z136 := fun (t x : Z102) => Z135 t x ∧ True; let Z137 := fun (t x : Z102) => Z41 ∧ Z136 t x; let Z138 := fun (t : Z102) => decide (Z116 t); let Z139 := fun (x t x_1 : Z102) => Z131 x t ∧ Z128 x x_1; let Z140 := fun (t x : Z102) => Z129 t x ∧ Z137 t x; let Z141 := fun (t x : Z102) => Z129 t x ∧ Z140 t x; let Z142 := fun (t x : Z102) => Z40 ∧ Z141 t x; let Z143 := fun (t x : Z102) => Z3 ∧ Z142 t x; let Z144 := fun (t x : Z102) => Z3 ∧ Z143 t x; let Z145 := fun (t x : Z102) => Z44 ∧ Z144 t x; let Z148 := fun (t x : Z102) => ∃ (x_1 : Z102), (Z145 t x_1 ∧ Z121) ∧ Z139 x_1 t x; (List.length ts < nat_lit 1000000 ∧ List.length ps < nat_lit 1000000 ∧ List.length st < nat_lit 1000000) ∧ (Z59 = true → Z57 ∧ Z86 ∧ (∃ (x : Z91), (Z44 ∧ Z3 ∧ Z3 ∧ Value.int IntKind.i64 (IntKind.wrap IntKind.i64 ((↑(nat_lit 1) : Int) + (1 : Int))) = Z7 ∧ Z12 = Z95 x ∧ True) ∧ Z24 ∧ ts = ts ∧ Z80 ∧ ps = ps ∧ st = st ∧ Z47 ∧ entsM ts Z25 (1 : Nat) (0 : Nat) = Z39 ∧ Z75) ∧ ∀ (t : Z91), (Z126 t = true → (0 : Int) ≤ (↑(nat_lit 1) : Int) ∧ ∃ (x : Z102), ((Z44 ∧ Z3 ∧ Z3 ∧ Z40 ∧ Z127 t x ∧ Z127 t x ∧ Value.int IntKind.u64 (IntKind.wrap IntKind.u64 ((1 : Int) * (2 : Int) ^ nat_lit 1)) = Z8 ∧ Value.int IntKind.u64 (0 : Int) = Z113 x ∧ True) ∧ Z121) ∧ Z105 x = Z105 x ∧ ∀ (t_1 : Z102), Z128 t_1 x → (Z138 t_1 = true → Z134 t_1 ∧ Z133 t_1 ∧ True ∧ (Z132 t_1 = true → Z72 ∧ Z148 t_1 x) ∧ (Z132 t_1 = false → Z134 t_1 ∧ Z133 t_1 ∧ True ∧ (Z114 t_1 ≤ nat_lit 6 ∧ (0 : Int) ≤ Z10 ∧ Z10 ≤ (6 : Int)) ∧ (Z3 ∧ (nat_lit 7 = nat_lit 7 ∧ nat_lit 0 = nat_lit 0 ∧ nat_lit 0 = nat_lit 0 ∧ List.length (Z110 t_1) = Z114 t_1) ∧ True) ∧ ((nat_lit 0 = nat_lit 0 ∧ Z58 ∧ True ∧ True) ∧ Z70 ∧ Z110 t_1 = Z110 t_1 ∧ True) ∧ (Z125 t_1 = true → True ∧ Z34 ∧ Z52 ∧ True ∧ ((Value.int IntKind.i64 (IntKind.wrap IntKind.i64 (Z108 t_1)) = Z54 ∧ Z12 = Z55 ∧ True) ∧ True) ∧ Z87) ∧ (Z125 t_1 = false → Z72 ∧ Z148 t_1 x))) ∧ (Z138 t_1 = false → Z72 ∧ ∃ (x : Z91), ((Z44 ∧ Z3 ∧ Z3 ∧ Z40 ∧ Value.int IntKind.i64 (IntKind.wrap IntKind.i64 (Z107 t_1 + (1 : Int))) = Z95 x ∧ True) ∧ Z121) ∧ Z94 x < Z94 t)) ∧ (Z126 t = false → True ∧ Z34 ∧ ((Z11 = Z11 ∧ True) ∧ True) ∧ True ∧ ((Z66 ∧ Z11 = Z55 ∧ True) ∧ True) ∧ Z87)) ∧ (Z59 = false → Z57 ∧ Z86 ∧ True ∧ ((Z0 = Z0 ∧ Z45 = Z45 ∧ True) ∧ Z13) ∧ Z52 ∧ True ∧ ((Z66 ∧ Z45 = Z55 ∧ True) ∧ True) ∧ Z87))
    (by kernel_rfl) ?_
  simp only [eq_self, true_and, and_true, Int.toNat_natCast, Nat.zero_add, Nat.sub_zero, Value.int.injEq, Value.bool.injEq, decide_eq_true_eq, decide_eq_false_iff_not]
  have hx' : ts.length < 1000000 ∧ ps.length < 1000000 ∧ st.length < 1000000 := hx
  refine ⟨hx', fun h => ⟨⟨⟨0, Nat.zero_le _, fun a ha => absurd ha (Nat.not_lt_zero a)⟩, ⟨by decide, rfl⟩, rfl⟩, fun t => ⟨fun ht => ⟨by decide, ?_⟩, fun ht => ?_⟩⟩, fun h => ?_⟩
  · obtain ⟨z, hz, h0⟩ := t
    have hlt : z < 1 + 1 := by have h1 : (z : Int) < ((1 + 1 : Nat) : Int) := ht; omega
    refine ⟨⟨(z, 0), hlt, Nat.zero_le _, h0, fun s hs => absurd hs (Nat.not_lt_zero s)⟩, ⟨rfl, rfl, by decide, rfl⟩, ?_⟩
    rintro ⟨⟨z2, s⟩, hz2, hs2, ha, hb⟩ hr
    have hr' : z2 = z := hr
    subst hr'
    refine ⟨fun hs => ?_, fun hs => ?_⟩
    · have hsl : s < 2 := by have h1 : (s : Int) < ((2 : Nat) : Int) := hs; omega
      have hs64 : 0 ≤ (s : Int) ∧ (s : Int) < 64 := ⟨Int.natCast_nonneg _, by omega⟩
      have hsu : IntKind.u64.wrap ((s : Int) + 1) = ((s + 1 : Nat) : Int) := suc64 s (by omega)
      have nxt : badSM ts (⟨⟨long, rise, change, ps⟩, st⟩, none) z2 s = false → ∃ x : { p : Nat × Nat // p.1 < nPlots (⟨⟨long, rise, change, ps⟩, st⟩, none) + 1 ∧ p.2 ≤ 2 ^ nPlots (⟨⟨long, rise, change, ps⟩, st⟩, none) ∧ (∀ a, a < p.1 → ∀ s, s < 2 ^ nPlots (⟨⟨long, rise, change, ps⟩, st⟩, none) → badSM ts (⟨⟨long, rise, change, ps⟩, st⟩, none) a s = false) ∧ ∀ s, s < p.2 → badSM ts (⟨⟨long, rise, change, ps⟩, st⟩, none) p.1 s = false }, ((z2 : Int) = (x.1.1 : Int) ∧ (z2 : Int) = (x.1.1 : Int) ∧ IntKind.u64.wrap ((s : Int) + 1) = (x.1.2 : Int)) ∧ 2 - x.1.2 < 2 - s ∧ x.1.1 = z2 := fun hb2 =>
        ⟨⟨(z2, s + 1), hz2, hsl, ha, below_succ hb hb2⟩, ⟨rfl, rfl, hsu⟩, by show 2 - (s + 1) < 2 - s; omega, rfl⟩
      refine ⟨hs64, fun hp => nxt ?_, fun hp => ⟨hs64, ⟨upTo_len _ _, Int.natCast_nonneg _, mErr_small h⟩, fun hn => ?_, fun hn => nxt ?_⟩⟩
      · have hp' : (popM (s : Int) == (z2 : Int)) = false := by simpa [bne] using hp
        unfold badSM; rw [hp']; rfl
      · have hp' : (popM (s : Int) == (z2 : Int)) = true := by simpa [bne] using hp
        have hbt : badSM ts (⟨⟨long, rise, change, ps⟩, st⟩, none) z2 s = true := by
          unfold badSM; rw [hp']
          exact hn
        have e := short_some (x := (⟨⟨long, rise, change, ps⟩, st⟩, none)) h hz2 hsl ha hb hbt
        rw [e]
        exact ⟨by rw [wrap_id (by omega) (by omega)], rfl⟩
      · have hn' : (!(sendFM ts (⟨⟨long, rise, change, ps⟩, st⟩, none) (s : Int)).2) = false := hn
        unfold badSM; rw [hn', Bool.and_false]
    · have hse : s = 2 := by
        have h1 : ¬ (s : Int) < ((2 : Nat) : Int) := hs
        have h2 : s ≤ 2 := hs2
        omega
      subst hse
      exact ⟨⟨z2 + 1, hz2, short_next ha hb⟩, sucI z2 (by omega), by show 1 + 1 - (z2 + 1) < 1 + 1 - z2; omega⟩
  · obtain ⟨z, hz, h0⟩ := t
    have hze : z = 1 + 1 := by
      have h1 : ¬ (z : Int) < ((1 + 1 : Nat) : Int) := ht
      have h2 : z ≤ 1 + 1 := hz
      omega
    subst hze
    have e := short_none (x := (⟨⟨long, rise, change, ps⟩, st⟩, none)) h h0
    rw [e]; exact ⟨rfl, rfl⟩
  · have e := short_err (x := (⟨⟨long, rise, change, ps⟩, st⟩, none)) h
    rw [e]; exact ⟨rfl, rfl⟩

set_option maxHeartbeats 0 in
set_option maxRecDepth 100000 in
theorem short_ok2 (ts : List TeamT) (p q : PlotT) (hx : shortS.pre (ts, p, some q)) : FunOk Try.prog 14 (shortS.args (ts, p, some q)) (shortS.H (ts, p, some q)) (shortS.R (ts, p, some q)) := by
  obtain ⟨⟨long, rise, change, ps⟩, st⟩ := p
  obtain ⟨⟨long2, rise2, change2, ps2⟩, st2⟩ := q
  refine fun_ofG (T := Tshort) (L := shortRule ts (⟨⟨long, rise, change, ps⟩, st⟩, some ⟨⟨long2, rise2, change2, ps2⟩, st2⟩)) (hs := fun _ => []) (sp := fun _ => none) hmix Tshort_ok (tl := toldL 43) (toldL_ok toldShort) (it := fun _ => none) (fun _ _ h => by cases h) Try.func14 (by kernel_rfl) (by kernel_rfl) ?_
  refine Eq.mp (α :=
      let Z0 := (110 : TypeId); let Z1 := fun (s : Nat) (p : Nat × Nat) => s < Prod.snd p; let Z2 := fun (a : Nat) (p : Nat × Nat) => a < Prod.fst p; let Z3 := nat_lit 0 = nat_lit 0 ∧ nat_lit 0 = nat_lit 0 ∧ nat_lit 2 = nat_lit 2; let Z4 := nat_lit 0 = nat_lit 0 ∧ nat_lit 0 = nat_lit 0 ∧ nat_lit 0 = nat_lit 0; let Z5 := AV.ptr (6 : Nat) (nat_lit 0) (nat_lit 0) (nat_lit 0); let Z6 := st2 = st2 ∧ True; let Z7 := Value.int IntKind.i64 (↑(nat_lit 2) : Int); let Z8 := Value.int IntKind.u64 (↑(nat_lit 4) : Int); let Z9 := Value.int IntKind.i64 (↑(nat_lit 3) : Int); let Z10 := Value.int IntKind.i64 (0 : Int); let Z11 := (↑(List.length ts) : Int); let Z12 := Value.int IntKind.i64 (4 : Int); let Z13 := Z4 ∧ True; let Z14 := Z3 ∧ True; let Z15 := List.length ps = List.length ps; let Z16 := List.length ps2 = List.length ps2; let Z17 : Option PlotT := some (PlotT.mk (GroundT.mk long2 rise2 change2 ps2) st2); let Z18 := List.length st2 = List.length st2; let Z19 := Value.int IntKind.i64 rise2 = Value.int IntKind.i64 rise2; let Z20 := Value.int IntKind.i64 change = Value.int IntKind.i64 change; let Z21 := Value.int IntKind.i64 change2 = Value.int IntKind.i64 change2; let Z22 := List.length ts = List.length ts; let Z23 := Value.int IntKind.i64 long = Value.int IntKind.i64 long; let Z24 := Value.int IntKind.i64 rise = Value.int IntKind.i64 rise; let Z25 := Value.int IntKind.i64 long2 = Value.int IntKind.i64 long2; let Z26 := List.length st = List.length st; let Z27 : List AV := [Z5]; let Z28 := Value.int IntKind.i64 Z11; let Z29 := nat_lit 0 = nat_lit 0 ∧ Z16; let Z30 := nat_lit 0 = nat_lit 0 ∧ Z15; let Z31 : List PlotT := [PlotT.mk (GroundT.mk long2 rise2 change2 ps2) st2]; let Z32 := nat_lit 0 = nat_lit 0 ∧ Z18; let Z33 := nat_lit 0 = nat_lit 0 ∧ Z22; let Z34 := Z13 ∧ True ∧ True; let Z35 := nat_lit 0 = nat_lit 0 ∧ Z26; let Z36 := nat_lit 0 = nat_lit 0 ∧ Z30; let Z37 := nat_lit 0 = nat_lit 0 ∧ Z29; let Z38 := nat_lit 0 = nat_lit 0 ∧ Z33; let Z39 := nat_lit 0 = nat_lit 0 ∧ Z35; let Z40 := ps2 = ps2 ∧ Z6; let Z41 := nat_lit 0 = nat_lit 0 ∧ Z32; let Z42 := Value.nilIface = Value.nilIface ∧ Z13; let Z43 := Z41 ∧ True; let Z44 := Z39 ∧ True; let Z45 := DfE.call (Fn.func (nat_lit 43)) Z27 []; let Z46 := Z9 = Z9; let Z47 := Z8 = Z8; let Z48 := Z7 = Z7; let Z49 := Z10 = Z10; let Z50 := Z48 ∧ True; let Z51 := Z49 ∧ True; let Z52 := (PlotT.mk (GroundT.mk long rise change ps) st, Z17); let Z53 : List PlotT := PlotT.mk (GroundT.mk long rise change ps) st :: Z31; let Z54 := Z51 ∧ True; let Z55 : List DfE := [Z45]; let Z56 := st = st ∧ Z40; let Z57 := nPlots Z52; let Z58 := shortM ts Z52; let Z59 : List EntT := entsOM ts Z52; let Z60 := matchErrM ts Z53; let Z61 := fun (a s : Nat) => badSM ts Z52 a s; let Z62 := Z38 ∧ Z14; let Z63 := Z28 = Z28; let Z64 := Prod.fst Z58; let Z65 := Prod.snd Z58; let Z66 := fun (p : Nat × Nat) (s : Nat) => badSM ts Z52 (Prod.fst p) s; let Z67 := fun (a s : Nat) => Z61 a s = false; let Z68 := Value.int IntKind.i64 Z60; let Z69 := ps = ps ∧ Z56; let Z70 := Value.int IntKind.i64 Z65; let Z71 := Value.int IntKind.i64 Z64; let Z72 := fun (p : Nat × Nat) (s : Nat) => Z66 p s = false; let Z73 := Z37 ∧ Z43; let Z74 := Z36 ∧ Z44; let Z75 := Z57 + (1 : Nat); let Z76 := fun (s : Nat) (p : Nat × Nat) => Z1 s p → Z72 p s; let Z77 := Z60 == (0 : Int); let Z78 := fun (p : Nat × Nat) => ∀ (s : Nat), Z76 s p; let Z79 := (2 : Nat) ^ Z57; let Z80 := fun (z : Nat) => z ≤ Z75; let Z81 := Z10 = Z71; let Z82 := fun (p : Nat × Nat) => Prod.fst p < Z75; let Z83 := Z21 ∧ Z73; let Z84 := Z20 ∧ Z74; let Z85 := fun (s : Nat) => s < Z79; let Z86 := Z55 = Z55; let Z87 := fun (p : Nat × Nat) => Prod.snd p ≤ Z79; let Z88 := Z63 ∧ Z50; let Z89 := nat_lit 0 = nat_lit 0 ∧ Z88; let Z90 := Z89 ∧ True; let Z91 := Z59 = Z59; let Z92 := Z24 ∧ Z84; let Z93 := Z19 ∧ Z83; let Z94 := Z23 ∧ Z92; let Z95 := Z25 ∧ Z93; let Z96 := Z95 ∧ True; let Z97 := fun (s a : Nat) => Z85 s → Z67 a s; let Z98 := fun (a : Nat) => ∀ (s : Nat), Z97 s a; let Z99 := fun (a z : Nat) => a < z → Z98 a; let Z100 := fun (z : Nat) => ∀ (a : Nat), Z99 a z; let Z101 := fun (a : Nat) (p : Nat × Nat) => Z2 a p → Z98 a; let Z102 := fun (p : Nat × Nat) => ∀ (a : Nat), Z101 a p; let Z103 := Z91 ∧ Z90; let Z104 := fun (z : Nat) => Z80 z ∧ Z100 z; let Z105 := fun (p : Nat × Nat) => Z102 p ∧ Z78 p; let Z106 : Type := { z : Nat // Z104 z }; let Z107 := fun (x : Z106) => Subtype.val x; let Z108 := Z51 ∧ Z103; let Z109 := fun (x : Z106) => (↑(Z107 x) : Int); let Z110 := Z94 ∧ Z96; let Z111 := fun (x : Z106) => nat_lit 3 - Z107 x; let Z112 := fun (x : Z106) => Value.int IntKind.i64 (Z109 x); let Z113 := st2 = st2 ∧ Z108; let Z114 := fun (t : Z106) => Z109 t < (↑(nat_lit 3) : Int); let Z115 := ps2 = ps2 ∧ Z113; let Z116 := st = st ∧ Z115; let Z117 := ps = ps ∧ Z116; let Z118 := Z110 ∧ Z69; let Z119 := fun (p : Nat × Nat) => Z87 p ∧ Z105 p; let Z120 := ts = ts ∧ Z118; let Z121 := True ∧ Z120; let Z122 := fun (p : Nat × Nat) => Z82 p ∧ Z119 p; let Z123 : Type := { p : Nat × Nat // Z122 p }; let Z124 := fun (x : Z123) => Subtype.val x; let Z125 := fun (x : Z123) => Prod.fst (Z124 x); let Z126 := fun (x : Z123) => Prod.snd (Z124 x); let Z127 := fun (x : Z123) => (↑(Z125 x) : Int); let Z128 := fun (x : Z123) => (↑(Z126 x) : Int); let Z129 := fun (t : Z123) => popM (Z128 t); let Z130 := fun (t : Z123) => membersM (Z128 t); let Z131 := fun (x : Z123) => nat_lit 4 - Z126 x; let Z132 := fun (x : Z123) => Value.int IntKind.i64 (Z127 x); let Z133 := fun (x : Z123) => Value.int IntKind.u64 (Z128 x); let Z134 := fun (t : Z123) => List.length (Z130 t); let Z135 := fun (t : Z123) => Z128 t < (↑(nat_lit 4) : Int); let Z136 := fun (t : Z123) => (0 : Int) ≤ Z128 t; let Z137 := fun (t : Z123) => Z128 t < (64 : Int); let Z138 := fun (t : Z123) => Z128 t + (1 : Int); let Z139 := fun (t : Z123) => IntKind.wrap IntKind.u64 (Z138 t); let Z140 := fun (t : Z123) => Value.int IntKind.u64 (Z139 t); let Z141 := fun (t : Z123) => sendM Z59 Z11 (Z130 t); let Z142 := fun (t : Z123) => Prod.snd (Z141 t); let Z143 := fun (t : Z123) => !Z142 t; let Z144 := Z110 ∧ Z117; let Z145 := ts = ts ∧ Z144; let Z146 := Z34 ∧ Z145; let Z147 := fun (t : Z106) => decide (Z114 t); let Z148 := fun (t : Z106) (x : Z123) => Z112 t = Z132 x; let Z149 := fun (t x : Z123) => Z125 t = Z125 x; let Z150 := fun (t : Z123) => Z133 t = Z133 t; let Z151 := fun (t x : Z123) => Z132 t = Z132 x; let Z152 := fun (x t : Z123) => Z131 x < Z131 t; let Z153 := fun (t : Z123) => Z129 t != Z127 t; let Z154 := fun (t : Z123) => Z150 t ∧ True; let Z155 := fun (t : Z123) => Z136 t ∧ Z137 t; let Z156 := fun (t x : Z123) => Z140 t = Z133 x; let Z157 := fun (t x : Z123) => Z156 t x ∧ True; let Z158 := fun (t x : Z123) => Z47 ∧ Z157 t x; let Z159 := fun (t : Z123) => decide (Z135 t); let Z160 := fun (x t x_1 : Z123) => Z152 x t ∧ Z149 x x_1; let Z161 := fun (t x : Z123) => Z151 t x ∧ Z158 t x; let Z162 := fun (t x : Z123) => Z151 t x ∧ Z161 t x; let Z163 := fun (t x : Z123) => Z46 ∧ Z162 t x; let Z164 := fun (t x : Z123) => Z4 ∧ Z163 t x; let Z165 := fun (t x : Z123) => Z4 ∧ Z164 t x; let Z166 := fun (t x : Z123) => Z49 ∧ Z165 t x; let Z169 := fun (t x : Z123) => ∃ (x_1 : Z123), (Z166 t x_1 ∧ Z146) ∧ Z160 x_1 t x; (List.length ts < nat_lit 1000000 ∧ (List.length ps < nat_lit 1000000 ∧ List.length st < nat_lit 1000000) ∧ List.length ps2 < nat_lit 1000000 ∧ List.length st2 < nat_lit 1000000) ∧ (Z77 = true → Z62 ∧ Z120 ∧ (∃ (x : Z106), (Z49 ∧ Z4 ∧ Z4 ∧ Value.int IntKind.i64 (IntKind.wrap IntKind.i64 ((↑(nat_lit 2) : Int) + (1 : Int))) = Z9 ∧ Z10 = Z112 x ∧ True) ∧ Z34 ∧ ts = ts ∧ Z110 ∧ ps = ps ∧ st = st ∧ ps2 = ps2 ∧ st2 = st2 ∧ Z51 ∧ entsM ts Z53 (2 : Nat) (0 : Nat) = Z59 ∧ Z90) ∧ ∀ (t : Z106), (Z147 t = true → (0 : Int) ≤ (↑(nat_lit 2) : Int) ∧ ∃ (x : Z123), ((Z49 ∧ Z4 ∧ Z4 ∧ Z46 ∧ Z148 t x ∧ Z148 t x ∧ Value.int IntKind.u64 (IntKind.wrap IntKind.u64 ((1 : Int) * (2 : Int) ^ nat_lit 2)) = Z8 ∧ Value.int IntKind.u64 (0 : Int) = Z133 x ∧ True) ∧ Z146) ∧ Z125 x = Z125 x ∧ ∀ (t_1 : Z123), Z149 t_1 x → (Z159 t_1 = true → Z155 t_1 ∧ Z154 t_1 ∧ True ∧ (Z153 t_1 = true → Z86 ∧ Z169 t_1 x) ∧ (Z153 t_1 = false → Z155 t_1 ∧ Z154 t_1 ∧ True ∧ (Z134 t_1 ≤ nat_lit 6 ∧ (0 : Int) ≤ Z11 ∧ Z11 ≤ (6 : Int)) ∧ (Z4 ∧ (nat_lit 9 = nat_lit 9 ∧ nat_lit 0 = nat_lit 0 ∧ nat_lit 0 = nat_lit 0 ∧ List.length (Z130 t_1) = Z134 t_1) ∧ True) ∧ ((nat_lit 0 = nat_lit 0 ∧ Z63 ∧ True ∧ True) ∧ Z91 ∧ Z130 t_1 = Z130 t_1 ∧ True) ∧ (Z143 t_1 = true → True ∧ Z42 ∧ Z54 ∧ True ∧ ((Value.int IntKind.i64 (IntKind.wrap IntKind.i64 (Z128 t_1)) = Z71 ∧ Z10 = Z70 ∧ True) ∧ True) ∧ Z121) ∧ (Z143 t_1 = false → Z86 ∧ Z169 t_1 x))) ∧ (Z159 t_1 = false → Z86 ∧ ∃ (x : Z106), ((Z49 ∧ Z4 ∧ Z4 ∧ Z46 ∧ Value.int IntKind.i64 (IntKind.wrap IntKind.i64 (Z127 t_1 + (1 : Int))) = Z112 x ∧ True) ∧ Z146) ∧ Z111 x < Z111 t)) ∧ (Z147 t = false → True ∧ Z42 ∧ ((Z12 = Z12 ∧ True) ∧ True) ∧ True ∧ ((Z81 ∧ Z12 = Z70 ∧ True) ∧ True) ∧ Z121)) ∧ (Z77 = false → Z62 ∧ Z120 ∧ True ∧ ((Z0 = Z0 ∧ Z68 = Z68 ∧ True) ∧ Z13) ∧ Z54 ∧ True ∧ ((Z81 ∧ Z68 = Z70 ∧ True) ∧ True) ∧ Z121))
    (by kernel_rfl) ?_
  simp only [eq_self, true_and, and_true, Int.toNat_natCast, Nat.zero_add, Nat.sub_zero, Value.int.injEq, Value.bool.injEq, decide_eq_true_eq, decide_eq_false_iff_not]
  have hx' : ts.length < 1000000 ∧ (ps.length < 1000000 ∧ st.length < 1000000) ∧ ps2.length < 1000000 ∧ st2.length < 1000000 := hx
  refine ⟨hx', fun h => ⟨⟨⟨0, Nat.zero_le _, fun a ha => absurd ha (Nat.not_lt_zero a)⟩, ⟨by decide, rfl⟩, rfl⟩, fun t => ⟨fun ht => ⟨by decide, ?_⟩, fun ht => ?_⟩⟩, fun h => ?_⟩
  · obtain ⟨z, hz, h0⟩ := t
    have hlt : z < 2 + 1 := by have h1 : (z : Int) < ((2 + 1 : Nat) : Int) := ht; omega
    refine ⟨⟨(z, 0), hlt, Nat.zero_le _, h0, fun s hs => absurd hs (Nat.not_lt_zero s)⟩, ⟨rfl, rfl, by decide, rfl⟩, ?_⟩
    rintro ⟨⟨z2, s⟩, hz2, hs2, ha, hb⟩ hr
    have hr' : z2 = z := hr
    subst hr'
    refine ⟨fun hs => ?_, fun hs => ?_⟩
    · have hsl : s < 4 := by have h1 : (s : Int) < ((4 : Nat) : Int) := hs; omega
      have hs64 : 0 ≤ (s : Int) ∧ (s : Int) < 64 := ⟨Int.natCast_nonneg _, by omega⟩
      have hsu : IntKind.u64.wrap ((s : Int) + 1) = ((s + 1 : Nat) : Int) := suc64 s (by omega)
      have nxt : badSM ts (⟨⟨long, rise, change, ps⟩, st⟩, some ⟨⟨long2, rise2, change2, ps2⟩, st2⟩) z2 s = false → ∃ x : { p : Nat × Nat // p.1 < nPlots (⟨⟨long, rise, change, ps⟩, st⟩, some ⟨⟨long2, rise2, change2, ps2⟩, st2⟩) + 1 ∧ p.2 ≤ 2 ^ nPlots (⟨⟨long, rise, change, ps⟩, st⟩, some ⟨⟨long2, rise2, change2, ps2⟩, st2⟩) ∧ (∀ a, a < p.1 → ∀ s, s < 2 ^ nPlots (⟨⟨long, rise, change, ps⟩, st⟩, some ⟨⟨long2, rise2, change2, ps2⟩, st2⟩) → badSM ts (⟨⟨long, rise, change, ps⟩, st⟩, some ⟨⟨long2, rise2, change2, ps2⟩, st2⟩) a s = false) ∧ ∀ s, s < p.2 → badSM ts (⟨⟨long, rise, change, ps⟩, st⟩, some ⟨⟨long2, rise2, change2, ps2⟩, st2⟩) p.1 s = false }, ((z2 : Int) = (x.1.1 : Int) ∧ (z2 : Int) = (x.1.1 : Int) ∧ IntKind.u64.wrap ((s : Int) + 1) = (x.1.2 : Int)) ∧ 4 - x.1.2 < 4 - s ∧ x.1.1 = z2 := fun hb2 =>
        ⟨⟨(z2, s + 1), hz2, hsl, ha, below_succ hb hb2⟩, ⟨rfl, rfl, hsu⟩, by show 4 - (s + 1) < 4 - s; omega, rfl⟩
      refine ⟨hs64, fun hp => nxt ?_, fun hp => ⟨hs64, ⟨upTo_len _ _, Int.natCast_nonneg _, mErr_small h⟩, fun hn => ?_, fun hn => nxt ?_⟩⟩
      · have hp' : (popM (s : Int) == (z2 : Int)) = false := by simpa [bne] using hp
        unfold badSM; rw [hp']; rfl
      · have hp' : (popM (s : Int) == (z2 : Int)) = true := by simpa [bne] using hp
        have hbt : badSM ts (⟨⟨long, rise, change, ps⟩, st⟩, some ⟨⟨long2, rise2, change2, ps2⟩, st2⟩) z2 s = true := by
          unfold badSM; rw [hp']
          exact hn
        have e := short_some (x := (⟨⟨long, rise, change, ps⟩, st⟩, some ⟨⟨long2, rise2, change2, ps2⟩, st2⟩)) h hz2 hsl ha hb hbt
        rw [e]
        exact ⟨by rw [wrap_id (by omega) (by omega)], rfl⟩
      · have hn' : (!(sendFM ts (⟨⟨long, rise, change, ps⟩, st⟩, some ⟨⟨long2, rise2, change2, ps2⟩, st2⟩) (s : Int)).2) = false := hn
        unfold badSM; rw [hn', Bool.and_false]
    · have hse : s = 4 := by
        have h1 : ¬ (s : Int) < ((4 : Nat) : Int) := hs
        have h2 : s ≤ 4 := hs2
        omega
      subst hse
      exact ⟨⟨z2 + 1, hz2, short_next ha hb⟩, sucI z2 (by omega), by show 2 + 1 - (z2 + 1) < 2 + 1 - z2; omega⟩
  · obtain ⟨z, hz, h0⟩ := t
    have hze : z = 2 + 1 := by
      have h1 : ¬ (z : Int) < ((2 + 1 : Nat) : Int) := ht
      have h2 : z ≤ 2 + 1 := hz
      omega
    subst hze
    have e := short_none (x := (⟨⟨long, rise, change, ps⟩, st⟩, some ⟨⟨long2, rise2, change2, ps2⟩, st2⟩)) h h0
    rw [e]; exact ⟨rfl, rfl⟩
  · have e := short_err (x := (⟨⟨long, rise, change, ps⟩, st⟩, some ⟨⟨long2, rise2, change2, ps2⟩, st2⟩)) h
    rw [e]; exact ⟨rfl, rfl⟩

theorem short_sound : Sound Try.prog 14 shortS.con := FSpec.sound _ (enter_of Try.func14 (by kernel_rfl) (by kernel_rfl)) fun x h => match x, h with
  | (ts, p, none), h => short_ok1 ts p h
  | (ts, p, some q), h => short_ok2 ts p q h
end AE.Team

namespace AE.Team
open Go AE Go.Proofs AE.Soil

def Tcaught : Tab UU := [(29, caughtS.con)]
theorem Tcaught_ok : Tcaught.Sound Try.prog := .cons caught_sound .nil
theorem tdRests_ok : TdOk Try.prog 52 (tdOf2 (U := UU) Try.prog Tcaught Try.f52 (restOf (bodyOf Try.f52)) 29) :=
  tdOf2_ok hmix Tcaught_ok Try.func52 (enter_of Try.func52 (by kernel_rfl) (by kernel_rfl)) rfl rfl rfl rfl rfl rfl rfl rfl rfl
def trialM (l : List StepT) (w : List Span) (h : HorT) (i : Nat) (now : Int) : TrialT := ((l, w), stpM l i, h, now)
def tryM (l : List StepT) (w : List Span) (h : HorT) (i : Nat) (now : Int) : Int × Bool := firstM (fun m => suitM (.inr (trialM l w h i now)) m) h.2.2.2.1
def goM (l : List StepT) (w : List Span) (h : HorT) : Nat → List Int × Int
  | 0 => ([], h.1)
  | i + 1 => ((goM l w h i).1 ++ [(tryM l w h i (goM l w h i).2).1], stepM (trialM l w h i (goM l w h i).2) (restM h (tryM l w h i (goM l w h i).2).1 (goM l w h i).2))
def okAtM (l : List StepT) (w : List Span) (h : HorT) (i : Nat) : Bool := (tryM l w h i (goM l w h i).2).2
def restsErrM (t : TeamT) (p : PlotT) : Int := if p.steps.any (fun s => sfM none s) then 1 else if openErrM t p true == 0 then (if (List.range p.steps.length).all (fun i => okAtM p.steps (worksM p) (worstM t) i) then 0 else 11) else openErrM t p true
def restsM (t : TeamT) (p : PlotT) : List Int × Int := if restsErrM t p == 0 then ((goM p.steps (worksM p) (worstM t) p.steps.length).1, 0) else ([], restsErrM t p)
theorem go_len (l : List StepT) (w : List Span) (h : HorT) : ∀ i, (goM l w h i).1.length = i
  | 0 => rfl
  | i + 1 => by simp [goM, go_len l w h i]
theorem step_rest {l : List StepT} {w : List Span} {h : HorT} {i : Nat} {now m : Int} (hr : (stpM l i).1 = true) : stepM (trialM l w h i now) m = restM h (l.getD i (0, 0, 0)).2.2 m := by
  unfold stepM
  rw [if_pos (show (trialM l w h i now).2.1.1 = true from hr)]
  rfl
theorem step_furrow {l : List StepT} {w : List Span} {h : HorT} {i : Nat} {now m : Int} (hr : (stpM l i).1 = false) : stepM (trialM l w h i now) m = furrowM h (w.getD i (0, 0)) m := by
  unfold stepM
  rw [if_neg (show ¬ (trialM l w h i now).2.1.1 = true from by rw [show (trialM l w h i now).2.1.1 = false from hr]; decide)]
  rfl
theorem rests_any {t : TeamT} {p : PlotT} (h : (!p.steps.any fun s => sfM none s) = false) : restsM t p = ([], 1) := by
  have h' : (p.steps.any fun s => sfM none s) = true := by simpa using h
  have e : restsErrM t p = 1 := by unfold restsErrM; rw [if_pos h']
  unfold restsM; rw [e]; rfl
theorem rests_open {t : TeamT} {p : PlotT} (h : (!p.steps.any fun s => sfM none s) = true) (ho : (openErrM t p true == 0) = false) : restsM t p = ([], openErrM t p true) := by
  have h' : ¬ (p.steps.any fun s => sfM none s) = true := by simpa using h
  have e : restsErrM t p = openErrM t p true := by unfold restsErrM; rw [if_neg h', if_neg (by rw [ho]; decide)]
  unfold restsM; rw [e, if_neg (by rw [ho]; decide)]
theorem rests_bad {t : TeamT} {p : PlotT} (h : (!p.steps.any fun s => sfM none s) = true) (ho : (openErrM t p true == 0) = true) {i : Nat} (hi : i < p.steps.length) (hb : okAtM p.steps (worksM p) (worstM t) i = false) : restsM t p = ([], 11) := by
  have h' : ¬ (p.steps.any fun s => sfM none s) = true := by simpa using h
  have hall : ¬ ((List.range p.steps.length).all fun i => okAtM p.steps (worksM p) (worstM t) i) = true := by
    intro hh
    rw [List.all_eq_true] at hh
    have := hh i (List.mem_range.2 hi)
    rw [hb] at this; cases this
  have e : restsErrM t p = 11 := by unfold restsErrM; rw [if_neg h', if_pos ho, if_neg hall]
  unfold restsM; rw [e]; rfl
theorem rests_ok' {t : TeamT} {p : PlotT} (h : (!p.steps.any fun s => sfM none s) = true) (ho : (openErrM t p true == 0) = true) (hk : ∀ i, i < p.steps.length → okAtM p.steps (worksM p) (worstM t) i = true) : restsM t p = ((goM p.steps (worksM p) (worstM t) p.steps.length).1, 0) := by
  have h' : ¬ (p.steps.any fun s => sfM none s) = true := by simpa using h
  have hall : ((List.range p.steps.length).all fun i => okAtM p.steps (worksM p) (worstM t) i) = true := by
    rw [List.all_eq_true]
    intro i hi
    exact hk i (List.mem_range.1 hi)
  have e : restsErrM t p = 0 := by unfold restsErrM; rw [if_neg h', if_pos ho, if_pos hall]
  unfold restsM; rw [e]; rfl
def restsL (t : TeamT) (p : PlotT) : LSpec UU where
  T := { i : Nat // i ≤ p.steps.length ∧ ∀ j, j < i → okAtM p.steps (worksM p) (worstM t) j = true }
  fr := fun i => [(2, .ptr 2 0 0 0), (3, .ptr 3 0 0 0), (4, .ptr 4 0 0 0), (5, .ptr 5 0 0 0), (6, .ptr 7 0 0 0), (7, .ptr 8 0 0 0), (8, .ptr 9 0 0 0), (30, .gs 10 0), (31, .i p.steps.length), (32, .i i.1)]
  H := fun i => hPlot p ++ [.one (.cells [.i t.1.1, .i t.1.2, .i t.2.1.1, .i t.2.1.2, .i t.2.2.1.1, .i t.2.2.1.2, .i t.2.2.2] 28), .one (.cells (cPlot p 0 1) 35), .one (.cells [.gs 11 0] 41), .one (.cells [.i 0] 22), .one (.row .span (worksM p) 26), .one (.cells (cPlot p 0 1 ++ [.gs 6 0]) 125), .one (.cells (lHor (worstM t)) 74), .one (.cells [.i (goM p.steps (worksM p) (worstM t) i.1).2] 3), .one (.row (.stp 7) (stepsM p.steps) 107), .one (.row .int (goM p.steps (worksM p) (worstM t) i.1).1 3)]
  mu := fun i => p.steps.length - i.1
def restsS : FSpec UU := oneS fun x => .val ⟨.tup [.gs 2 0, .i (restsM x.1 x.2).2], [], [], [.row .int (restsM x.1 x.2).1 3]⟩
def Trests : Tab UU := [(53, anySr.con), (38, needS.con), (30, openTS.con), (31, casesS.con), (55, stepsS.con), (46, firstS.con), (56, restedS.con), (118, doRS.con), (119, doFS.con), (29, caughtS.con)]
theorem Trests_ok : Trests.Sound Try.prog := .cons anyS_sound (.cons need_sound (.cons openT_sound (.cons cases_sound (.cons steps_sound (.cons first_sound (.cons rested_sound (.cons doR_sound (.cons doF_sound (.cons caught_sound .nil)))))))))
set_option maxHeartbeats 0 in
set_option maxRecDepth 100000 in
theorem rests_ok : ∀ x, restsS.pre x → FunOk Try.prog 24 (restsS.args x) (restsS.H x) (restsS.R x) := by
  rintro ⟨⟨⟨s0, s1⟩, ⟨l0, l1⟩, ⟨g0, g1⟩, full⟩, ⟨⟨long, rise, change, ps⟩, st⟩⟩ hx
  refine fun_ofT (T := Trests) (L := fun _ => some (.inv (restsL ((s0, s1), (l0, l1), (g0, g1), full) ⟨⟨long, rise, change, ps⟩, st⟩))) (hs := fun _ => []) (sp := fun _ => none) hmix Trests_ok (tdAt_ok tdRests_ok) (it := fun _ => none) (fun _ _ h => by cases h) Try.func24 (by kernel_rfl) (by kernel_rfl) ?_
  refine Eq.mp (α :=
      let Z0 := True ∧ True ∧ True ∧ True; let Z1 := (61 : FuncId); let Z2 := (62 : FuncId); let Z3 := (26 : TypeId); let Z4 := (127 : TypeId); let Z5 := (107 : TypeId); let Z6 := (128 : TypeId); let Z7 := (110 : TypeId); let Z8 := (nat_lit 0 = nat_lit 0 ∧ True ∧ True) ∧ True; let Z9 := True ∧ Z0; let Z10 := ((g0, g1), full); let Z11 := nat_lit 0 = nat_lit 0 ∧ nat_lit 0 = nat_lit 0 ∧ nat_lit 0 = nat_lit 0; let Z12 := AV.ptr (4 : Nat) (nat_lit 0) (nat_lit 0) (nat_lit 0); let Z13 := Fn.func Z2; let Z14 := AV.ptr (5 : Nat) (nat_lit 0) (nat_lit 0) (nat_lit 0); let Z15 := Fn.func Z1; let Z16 := nat_lit 3 = (3 : TypeId); let Z17 := st = st ∧ True; let Z18 := List.length st < nat_lit 1000000; let Z19 := (↑(List.length st) : Int); let Z20 := Value.int IntKind.i64 (1 : Int); let Z21 := Value.int IntKind.i64 (0 : Int); let Z22 := True ∧ Z9; let Z23 := Value.int IntKind.i64 (11 : Int); let Z24 := Z11 ∧ True; let Z25 := List.length ps = List.length ps; let Z26 := (true, (0 : Int)); let Z27 := Value.int IntKind.i64 s0 = Value.int IntKind.i64 s0; let Z28 := List.length st = List.length st; let Z29 := Value.int IntKind.i64 g1 = Value.int IntKind.i64 g1; let Z30 := Value.int IntKind.i64 full = Value.int IntKind.i64 full; let Z31 := Value.int IntKind.i64 long = Value.int IntKind.i64 long; let Z32 := Value.int IntKind.i64 rise = Value.int IntKind.i64 rise; let Z33 := Value.int IntKind.i64 change = Value.int IntKind.i64 change; let Z34 := Value.int IntKind.i64 s1 = Value.int IntKind.i64 s1; let Z35 := Value.int IntKind.i64 g0 = Value.int IntKind.i64 g0; let Z36 := Value.int IntKind.i64 l1 = Value.int IntKind.i64 l1; let Z37 := Value.int IntKind.i64 l0 = Value.int IntKind.i64 l0; let Z38 := st = st ∧ True ∧ True; let Z39 := Value.bool true = Value.bool true ∧ True; let Z40 := True ∧ Z22; let Z41 := List.any st fun (y : StepT) => sfM none y; let Z42 := Z30 ∧ True; let Z43 := List.length (worksM (PlotT.mk (GroundT.mk long rise change ps) st)); let Z44 := List.length (PlotT.steps (PlotT.mk (GroundT.mk long rise change ps) st)); let Z45 : List AV := [Z12]; let Z46 := nat_lit 0 = nat_lit 0 ∧ Z25; let Z47 := True ∧ Z40; let Z48 := Value.int IntKind.i64 Z19; let Z49 := nat_lit 0 = nat_lit 0 ∧ Z28; let Z50 := Value.slice none (nat_lit 0) (nat_lit 0) = Value.slice none (nat_lit 0) (nat_lit 0); let Z51 := !Z41; let Z52 := ((0 : Int), (0 : Int)); let Z53 := List.length (worksM (PlotT.mk (GroundT.mk long rise change ps) st)); let Z54 := (3 : TypeId) = (3 : TypeId); let Z55 := List.length (stepsM st); let Z56 := Z3 = Z3; let Z57 := Value.bool Z51; let Z58 := Z7 = Z7; let Z59 := Z5 = Z5; let Z60 := nat_lit 0 = nat_lit 0 ∧ Z46; let Z61 := (st, worksM (PlotT.mk (GroundT.mk long rise change ps) st)); let Z62 := nat_lit 0 = nat_lit 0 ∧ Z49; let Z63 := fun (i : Nat) => i ≤ Z44; let Z64 := ps = ps ∧ Z17; let Z65 := Z15 = Z15; let Z66 := Z13 = Z13; let Z67 := Z62 ∧ True; let Z68 := ps = ps ∧ Z38; let Z69 := ((l0, l1), Z10); let Z70 := Z11 ∧ Z24; let Z71 := Z62 ∧ True ∧ True; let Z72 := (0 : Int) != (0 : Int); let Z73 := True ∧ Z68; let Z74 := (1 : Int) != (0 : Int); let Z75 := Z21 = Z21; let Z76 := (11 : Int) != (0 : Int); let Z77 := Z20 = Z20; let Z78 := Z23 = Z23; let Z79 := Z62 ∧ nat_lit 0 = nat_lit 0 ∧ True; let Z80 := Z66 ∧ True ∧ True; let Z81 := Z65 ∧ True ∧ True; let Z82 := True ∧ Z71; let Z83 := Z77 ∧ True; let Z84 := Z75 ∧ True; let Z85 := Z70 ∧ True ∧ True; let Z86 := Z78 ∧ True; let Z87 := worksM (PlotT.mk (GroundT.mk long rise change ps) st) = worksM (PlotT.mk (GroundT.mk long rise change ps) st); let Z88 := True ∧ Z82; let Z89 := Z29 ∧ Z42; let Z90 : List AV := Z14 :: Z45; let Z91 := Z84 ∧ True; let Z92 := True ∧ Z88; let Z93 := True ∧ Z92; let Z94 := Z48 = Z48; let Z95 := Z53 = Z43; let Z96 := DfE.call (Fn.func (nat_lit 52)) Z90 []; let Z97 := nat_lit 0 = nat_lit 0 ∧ Z95; let Z98 := ((s0, s1), Z69); let Z99 := Z57 = Z57; let Z100 := worstM Z98; let Z101 := nat_lit 0 = nat_lit 0 ∧ Z97; let Z102 : List DfE := [Z96]; let Z103 := Z35 ∧ Z89; let Z104 := Z60 ∧ Z67; let Z105 := Z93 ∧ Z17; let Z106 := nat_lit 6 = nat_lit 6 ∧ Z101; let Z107 := Z60 ∧ Z79; let Z108 := Z56 ∧ Z87; let Z109 := Z106 ∧ True; let Z110 := restsM Z98 (PlotT.mk (GroundT.mk long rise change ps) st); let Z111 := openErrM Z98 (PlotT.mk (GroundT.mk long rise change ps) st) true; let Z112 := Prod.fst Z100; let Z113 := Prod.snd Z100; let Z114 := Z80 ∧ Z81; let Z115 : List Int := Prod.fst Z110; let Z116 := Prod.snd Z110; let Z117 := Value.int IntKind.i64 Z111; let Z118 := Value.int IntKind.i64 Z112; let Z119 := Z36 ∧ Z103; let Z120 := Z33 ∧ Z104; let Z121 := Value.int IntKind.i64 Z116; let Z122 := Prod.fst Z113; let Z123 := Prod.snd Z113; let Z124 := Z33 ∧ Z107; let Z125 := Value.int IntKind.i64 Z122; let Z126 := fun (j : Nat) => okAtM (PlotT.steps (PlotT.mk (GroundT.mk long rise change ps) st)) (worksM (PlotT.mk (GroundT.mk long rise change ps) st)) Z100 j; let Z127 := Prod.snd Z123; let Z128 := Prod.fst Z123; let Z129 := Z115 = []; let Z130 := Z99 ∧ Z83; let Z131 := fun (j : Nat) => Z126 j = true; let Z132 := Z111 != (0 : Int); let Z133 := Prod.fst Z127; let Z134 := Z111 == (0 : Int); let Z135 := Prod.snd Z127; let Z136 := Z129 ∧ True; let Z137 := Z37 ∧ Z119; let Z138 := Value.int IntKind.i64 Z128; let Z139 := Z32 ∧ Z120; let Z140 := Z20 = Z121; let Z141 := Z21 = Z121; let Z142 := True ∧ Z136; let Z143 := Z23 = Z121; let Z144 := True ∧ Z142; let Z145 := Z140 ∧ True; let Z146 := Z141 ∧ True; let Z147 := Value.int IntKind.i64 Z133; let Z148 := Z32 ∧ Z124; let Z149 := Z143 ∧ True; let Z150 := fun (j i : Nat) => j < i → Z131 j; let Z151 := fun (i : Nat) => ∀ (j : Nat), Z150 j i; let Z152 := Z34 ∧ Z137; let Z153 := Z31 ∧ Z139; let Z154 := Z102 = Z102; let Z155 := Z31 ∧ Z148; let Z156 := Z50 ∧ Z145; let Z157 := Z156 ∧ True; let Z158 := fun (i : Nat) => Z63 i ∧ Z151 i; let Z159 := Z27 ∧ Z152; let Z160 := Z153 ∧ Z39; let Z161 : Type := { i : Nat // Z158 i }; let Z162 := fun (x : Z161) => Subtype.val x; let Z163 := fun (x : Z161) => (↑(Z162 x) : Int); let Z164 := fun (t : Z161) => Int.toNat (Z163 t); let Z165 := fun (x : Z161) => Value.int IntKind.i64 (Z163 x); let Z166 := Z118 = Z118; let Z167 := Z117 = Z121; let Z168 := Z167 ∧ True; let Z169 := fun (x : Z161) => List.length st - Z162 x; let Z170 := Z157 ∧ Z73; let Z171 := fun (t : Z161) => nat_lit 0 + Z164 t; let Z172 := fun (t : Z161) => Z163 t < Z19; let Z173 := fun (t : Z161) => Z163 t + (1 : Int); let Z174 := fun (t : Z161) => (0 : Nat) + Z164 t; let Z175 := Z125 = Z125; let Z176 := fun (t : Z161) => IntKind.wrap IntKind.i64 (Z173 t); let Z177 := fun (t : Z161) => Value.int IntKind.i64 (Z176 t); let Z178 := Z50 ∧ Z168; let Z179 := Z178 ∧ True; let Z180 := Z135 = Z135; let Z181 := Z138 = Z138; let Z182 := Z147 = Z147; let Z183 := fun (t : Z161) => List.getD (stepsM st) (Z171 t) Z26; let Z184 := fun (t : Z161) => Prod.fst (Z183 t); let Z185 := fun (t : Z161) => Prod.snd (Z183 t); let Z186 := fun (x : Z161) => goM st (worksM (PlotT.mk (GroundT.mk long rise change ps) st)) Z100 (Z162 x); let Z187 := fun (t : Z161) => Int.toNat (Z185 t); let Z188 := fun (t : Z161) => List.getD (stepsM st) (Z174 t) Z26; let Z189 := fun (t : Z161) => Value.int IntKind.i64 (Z185 t); let Z190 := fun (x : Z161) => Prod.snd (Z186 x); let Z191 := fun (x : Z161) => Prod.fst (Z186 x); let Z192 := Z179 ∧ Z73; let Z193 := fun (x : Z161) => Value.int IntKind.i64 (Z190 x); let Z194 := fun (t : Z161) => (0 : Int) ≤ Z185 t; let Z195 := fun (t : Z161) => Z185 t < Z19; let Z196 := Z144 ∧ Z170; let Z197 := Z180 ∧ Z114; let Z198 := Z159 ∧ Z160; let Z199 := Z197 ∧ True; let Z200 := Z8 ∧ Z196; let Z201 := True ∧ Z200; let Z202 := fun (t : Z161) => (Z100, Z190 t); let Z203 := True ∧ Z201; let Z204 := fun (t : Z161) => Z191 t = Z115; let Z205 := Z144 ∧ Z192; let Z206 := fun (x t : Z161) => Z169 x < Z169 t; let Z207 := fun (t : Z161) => Z54 ∧ Z204 t; let Z208 := fun (t : Z161) => Z207 t ∧ True; let Z209 := Z8 ∧ Z205; let Z210 := True ∧ Z209; let Z211 := fun (t x : Z161) => Z177 t = Z165 x; let Z212 := True ∧ Z210; let Z213 := fun (t x : Z161) => Z211 t x ∧ True; let Z214 := fun (t : Z161) => st = st ∧ Z208 t; let Z215 := fun (t : Z161) => decide (Z172 t); let Z216 := fun (t : Z161) => ps = ps ∧ Z214 t; let Z217 := fun (t : Z161) => True ∧ Z216 t; let Z218 := fun (t x : Z161) => Z94 ∧ Z213 t x; let Z219 := fun (t x : Z161) => nat_lit 0 = nat_lit 0 ∧ Z218 t x; let Z220 := fun (t x : Z161) => Z11 ∧ Z219 t x; let Z221 := fun (t x : Z161) => Z11 ∧ Z220 t x; let Z222 := fun (t : Z161) => Z189 t = Z189 t; let Z223 := fun (t : Z161) => Z222 t ∧ True; let Z224 := fun (t x : Z161) => Z11 ∧ Z221 t x; let Z225 := fun (t : Z161) => Z11 ∧ Z223 t; let Z226 := fun (t : Z161) => Z193 t = Z193 t; let Z227 := fun (t x : Z161) => Z11 ∧ Z224 t x; let Z228 := fun (t : Z161) => Z226 t ∧ True; let Z229 := fun (t : Z161) => Z194 t ∧ Z195 t; let Z230 := fun (t x : Z161) => Z11 ∧ Z227 t x; let Z231 := Z182 ∧ Z199; let Z232 := fun (t x : Z161) => Z11 ∧ Z230 t x; let Z233 := fun (t : Z161) => (Z183 t, Z202 t); let Z234 := fun (t x : Z161) => Z11 ∧ Z232 t x; let Z235 := fun (t : Z161) => (Z188 t, Z202 t); let Z236 := fun (t : Z161) => (Z61, Z233 t); let Z237 := fun (t : Z161) => Sum.inr (Z236 t); let Z238 := fun (t : Z161) => (Z61, Z235 t); let Z239 := fun (t : Z161) (n : Int) => suitM (Z237 t) n; let Z240 := fun (t : Z161) => Sum.inr (Z238 t); let Z241 := fun (t : Z161) => firstM (fun (n : Int) => Z239 t n) full; let Z242 := fun (t : Z161) (n : Int) => suitM (Z240 t) n; let Z243 := fun (t : Z161) => Prod.fst (Z241 t); let Z244 := fun (t : Z161) => Prod.snd (Z241 t); let Z245 := fun (t : Z161) => Value.bool (Z244 t); let Z246 := fun (t : Z161) => firstM (fun (n : Int) => Z242 t n) full; let Z247 := fun (t : Z161) => Value.int IntKind.i64 (Z243 t); let Z248 := fun (t : Z161) => AV.v (Z247 t); let Z249 := fun (t : Z161) => Prod.fst (Z246 t); let Z250 := fun (t : Z161) => [Z249 t]; let Z251 := fun (t : Z161) => List.drop (0 : Nat) (Z250 t); let Z252 := fun (t : Z161) => List.take (1 : Nat) (Z251 t); let Z253 := Z181 ∧ Z231; let Z254 := Z175 ∧ Z253; let Z255 := fun (t : Z161) => restM Z100 (Z243 t) (Z190 t); let Z256 := fun (t : Z161) => Value.int IntKind.i64 (Z255 t); let Z257 := fun (t : Z161) => Z191 t ++ Z252 t; let Z258 := Z166 ∧ Z254; let Z259 := fun (t x : Z161) => Z257 t = Z191 x; let Z260 := fun (t x : Z161) => Z16 ∧ Z259 t x; let Z261 := fun (t : Z161) => Z245 t = Z245 t; let Z262 := fun (t x : Z161) => Z260 t x ∧ True; let Z263 := fun (t : Z161) => Z261 t ∧ Z86; let Z264 := fun (t : Z161) => Z256 t = Z256 t; Z18 ∧ (Z62 ∧ (Fn.func (nat_lit 54) = Fn.func (54 : FuncId) ∧ True ∧ True) ∧ True) ∧ Z17 ∧ True ∧ (Z51 = true → Z130 ∧ True ∧ (List.length ps < nat_lit 1000000 ∧ Z18) ∧ (Z134 = true → Z198 ∧ Z64 ∧ True ∧ (Z159 ∧ True) ∧ True ∧ ((0 : Int) ≤ (0 : Int) ∧ (0 : Int) < (↑(nat_lit 2) : Int)) ∧ Z18 ∧ Z24 ∧ Z105 ∧ (∃ (x : Z161), (True ∧ True ∧ True ∧ Z47) ∧ (True ∧ True ∧ Z47 ∧ Z22 ∧ (nat_lit 0 = nat_lit 0 ∧ True) ∧ (True ∧ True) ∧ True ∧ Z40 ∧ Z22 ∧ (True ∧ True) ∧ True ∧ Z191 x = [] ∧ True) ∧ (Z11 ∧ Z11 ∧ Z11 ∧ Z11 ∧ Z11 ∧ Z11 ∧ Z11 ∧ nat_lit 0 = nat_lit 0 ∧ Value.int IntKind.i64 (↑(List.length (stepsM st)) : Int) = Z48 ∧ Z21 = Z165 x ∧ True) ∧ Z85 ∧ ps = ps ∧ st = st ∧ Z159 ∧ Z153 ∧ (Z50 ∧ True) ∧ Z84 ∧ Z108 ∧ Z155 ∧ (Value.int IntKind.i64 s0 = Z118 ∧ Value.int IntKind.i64 l1 = Z125 ∧ Value.int IntKind.i64 g0 = Z138 ∧ Value.int IntKind.i64 full = Z147 ∧ ((Z135 = true → Z80) ∧ (Z135 = false → Z13 = Z15 ∧ True ∧ True)) ∧ True) ∧ (Value.int IntKind.i64 s0 = Z193 x ∧ True) ∧ (Z59 ∧ stepsM st = stepsM st) ∧ True ∧ True) ∧ ∀ (t : Z161), (Z215 t = true → ((0 : Int) ≤ Z163 t ∧ Z163 t < (↑Z55 : Int)) ∧ Z171 t < Z55 ∧ ((Z43 = List.length st ∧ Z18 ∧ Z229 t) ∧ full < (1000000000000 : Int)) ∧ (Z75 ∧ Z30 ∧ (Fn.func (nat_lit 57) = Fn.func (57 : FuncId) ∧ True ∧ Z11 ∧ Z70) ∧ True) ∧ ((True ∧ True ∧ True ∧ True ∧ Z62 ∧ Z109) ∧ st = st ∧ Z87 ∧ ((Z184 t = Z184 t ∧ (Z4 = Z4 ∧ Z225 t) ∧ Z6 = Z6 ∧ Z225 t) ∧ True) ∧ Z258 ∧ Z228 t ∧ ((Fn.func (nat_lit 56) = Fn.func (56 : FuncId) ∧ True ∧ Z70) ∧ True) ∧ True) ∧ True ∧ (Z244 t = true → Z263 t ∧ True ∧ (nat_lit 1 = nat_lit 1 ∧ Z248 t = Z248 t ∧ True) ∧ nat_lit 1 ≤ nat_lit 1 ∧ List.length (Z191 t) + nat_lit 1 ≤ nat_lit 1099511627776 ∧ True ∧ (Z247 t = Z247 t ∧ Z70) ∧ (Z258 ∧ Z228 t ∧ True) ∧ (Z184 t = true → Z229 t ∧ (Z225 t ∧ Z258 ∧ Z264 t ∧ True) ∧ Z105 ∧ Z154 ∧ ∃ (x : Z161), (Z234 t x ∧ Z85 ∧ ps = ps ∧ st = st ∧ Z159 ∧ Z153 ∧ (nat_lit 0 = nat_lit 0 ∧ True) ∧ Z84 ∧ Z108 ∧ Z155 ∧ Z258 ∧ (Value.int IntKind.i64 (restM Z100 (Prod.snd (Prod.snd (List.getD st (Z187 t) ((0 : Int), Z52)))) (Z255 t)) = Z193 x ∧ True) ∧ (Z59 ∧ stepsM st = stepsM st) ∧ Z262 t x) ∧ Z206 x t) ∧ (Z184 t = false → (Z194 t ∧ Z185 t < (↑Z43 : Int)) ∧ (Z225 t ∧ Z258 ∧ Z264 t ∧ True) ∧ ((True ∧ True ∧ True ∧ True ∧ True ∧ Z109) ∧ Z87 ∧ True) ∧ Z154 ∧ ∃ (x : Z161), (Z234 t x ∧ Z85 ∧ ps = ps ∧ st = st ∧ Z159 ∧ Z153 ∧ (nat_lit 0 = nat_lit 0 ∧ True) ∧ Z84 ∧ Z108 ∧ Z155 ∧ Z258 ∧ (Value.int IntKind.i64 (furrowM Z100 (List.getD (worksM (PlotT.mk (GroundT.mk long rise change ps) st)) (Z187 t) Z52) (Z255 t)) = Z193 x ∧ True) ∧ (Z59 ∧ stepsM st = stepsM st) ∧ Z262 t x) ∧ Z206 x t)) ∧ (Z244 t = false → Z263 t ∧ True ∧ True ∧ ((Z58 ∧ Z86) ∧ Z24) ∧ Z91 ∧ (Z76 = true → True ∧ True ∧ Z8 ∧ Z144 ∧ ((Z50 ∧ Z149) ∧ True) ∧ Z73) ∧ (Z76 = false → True ∧ True ∧ ((nat_lit 0 = nat_lit 0 ∧ Z149) ∧ True) ∧ Z217 t))) ∧ (Z215 t = false → True ∧ (Value.nilIface = Value.nilIface ∧ Z24) ∧ Z91 ∧ (Z72 = true → True ∧ True ∧ Z8 ∧ Z144 ∧ ((Z50 ∧ Z146) ∧ True) ∧ Z73) ∧ (Z72 = false → True ∧ True ∧ ((nat_lit 0 = nat_lit 0 ∧ Z146) ∧ True) ∧ Z217 t))) ∧ (Z134 = false → Z198 ∧ Z64 ∧ True ∧ ((Z58 ∧ Z117 = Z117 ∧ True) ∧ Z24) ∧ Z91 ∧ (Z132 = true → Z212) ∧ (Z132 = false → Z212))) ∧ (Z51 = false → Z130 ∧ True ∧ True ∧ ((Z58 ∧ Z83) ∧ Z24) ∧ Z91 ∧ (Z74 = true → Z203) ∧ (Z74 = false → Z203)))
    (by kernel_rfl) ?_
  simp only [eq_self, true_and, and_true, Int.toNat_natCast, Nat.zero_add, Nat.sub_zero, Value.int.injEq, Value.bool.injEq, decide_eq_true_eq, decide_eq_false_iff_not]
  have h1 : ps.length < 1000000 := hx.1
  have h2 : st.length < 1000000 := hx.2
  have hw : (worksM ⟨⟨long, rise, change, ps⟩, st⟩).length = st.length := works_len _
  refine ⟨h2, fun hany => ⟨⟨h1, h2⟩, fun hop => ⟨⟨by decide, by decide⟩, h2, ⟨⟨0, Nat.zero_le _, fun j hj => absurd hj (Nat.not_lt_zero j)⟩, rfl, ⟨by rw [steps_len], rfl⟩, ⟨rfl, rfl, rfl, rfl, (fun _ => trivial), (fun h => nomatch (show true = false from h))⟩, rfl⟩, fun t => ⟨fun ht => ?_, fun ht => ?_⟩⟩, fun hop => ?_⟩, fun hany => ?_⟩
  · obtain ⟨i, hi, h0⟩ := t
    have hlt : i < st.length := by have h1 : (i : Int) < (st.length : Int) := ht; omega
    have hg' := steps_get st i hlt
    have hsl := steps_len st
    have hfull : full < 1000000000000 := by
      have := team_full (open_team hop)
      have h' : full ≤ 10000 := this
      omega
    have hgl := go_len st (worksM ⟨⟨long, rise, change, ps⟩, st⟩) (worstM ((s0, s1), (l0, l1), (g0, g1), full)) i
    simp only [hg', hsl]
    refine ⟨⟨Int.natCast_nonneg _, ht⟩, hlt, ⟨⟨hw, h2, Int.natCast_nonneg _, ht⟩, hfull⟩, fun hok => ⟨Nat.le_refl _, by show (goM st (worksM ⟨⟨long, rise, change, ps⟩, st⟩) (worstM ((s0, s1), (l0, l1), (g0, g1), full)) i).1.length + 1 ≤ _; omega, fun hr => ⟨⟨Int.natCast_nonneg _, ht⟩, ⟨i + 1, hlt, below_succ h0 hok⟩, ⟨sucI i (by omega), ?_, rfl⟩, dec1 hlt⟩, fun hr => ⟨⟨Int.natCast_nonneg _, by rw [hw]; exact ht⟩, ⟨i + 1, hlt, below_succ h0 hok⟩, ⟨sucI i (by omega), ?_, rfl⟩, dec1 hlt⟩⟩, fun hbad => ⟨fun _ => ?_, fun h => absurd h (by decide)⟩⟩
    · exact (step_rest hr).symm
    · exact (step_furrow hr).symm
    · have e := rests_bad (t := ((s0, s1), (l0, l1), (g0, g1), full)) (p := ⟨⟨long, rise, change, ps⟩, st⟩) hany hop hlt hbad
      rw [e]; exact ⟨rfl, rfl⟩
  · obtain ⟨i, hi, h0⟩ := t
    have hie : i = st.length := by have h1 : ¬ (i : Int) < (st.length : Int) := ht; omega
    have e := rests_ok' (t := ((s0, s1), (l0, l1), (g0, g1), full)) (p := ⟨⟨long, rise, change, ps⟩, st⟩) hany hop (fun j hj => h0 j (by rw [hie]; exact hj))
    rw [e]
    refine ⟨fun h => absurd h (by decide), fun _ => ⟨rfl, ?_⟩⟩
    subst hie; rfl
  · have e := rests_open (t := ((s0, s1), (l0, l1), (g0, g1), full)) (p := ⟨⟨long, rise, change, ps⟩, st⟩) hany hop
    rw [e]; exact ⟨fun _ => ⟨rfl, rfl⟩, fun _ => ⟨rfl, rfl⟩⟩
  · have e := rests_any (t := ((s0, s1), (l0, l1), (g0, g1), full)) (p := ⟨⟨long, rise, change, ps⟩, st⟩) hany
    rw [e]; exact ⟨fun _ => ⟨rfl, rfl⟩, fun _ => ⟨rfl, rfl⟩⟩

theorem rests_sound : Sound Try.prog 24 restsS.con := FSpec.sound _ (enter_of Try.func24 (by kernel_rfl) (by kernel_rfl)) rests_ok
end AE.Team

namespace AE.Team
open Go AE Go.Proofs AE.Soil

def horM (t : TeamT) (b : Bool) : HorT := if b then worstM t else bestM t
def endM (t : TeamT) (p : PlotT) (b : Bool) (n : Nat) : Int := nowM p.steps (worksM p) (horM t b) n
def leftHc (t : TeamT) (p : PlotT) (n : Int) (a b : Int) : Heap UU := hPlot p ++ [.one (.cells [.i t.1.1, .i t.1.2, .i t.2.1.1, .i t.2.1.2, .i t.2.2.1.1, .i t.2.2.1.2, .i t.2.2.2] 28), .one (.cells (cPlot p 0 1) 35), .one (.cells [.i n] 3), .one (.cells [.i 0, .i 0] 26), .one (.cells [.i 0] 22), .one (.row .span (worksM p) 26), .one (.cells (cPlot p 0 1 ++ [.gs 7 0]) 125), .one (.cells [.i a, .i b] 81)]
def leftFr (t : TeamT) (k : Int) : Fr := [(3, .ptr 2 0 0 0), (4, .ptr 3 0 0 0), (5, .ptr 4 0 0 0), (6, .ptr 5 0 0 0), (7, .ptr 6 0 0 0), (8, .ptr 8 0 0 0), (9, .ptr 9 0 0 0), (24, .agg [.i t.1.1, .i t.2.1.2, .i t.2.2.1.1, .i t.2.2.2, .fn (.func 62) [] [], .i t.1.2, .i t.2.1.1, .i t.2.2.1.2, .i t.2.2.2, .fn (.func 61) [] []]), (25, .i k)]
def leftIt (t : TeamT) (p : PlotT) (n : Int) (b : Bool) (y : Nat) (_ : Nat) : Option (LRule UU) := some (.inv {
  T := { i : Nat // i ≤ p.steps.length }
  fr := fun i => [(0, .fn (.yield y) [] []), (1, .ptr 13 0 0 0), (2, .ptr 12 0 0 0), (4, .i (endM t p b i.1)), (10, .gs 14 0), (11, .i p.steps.length), (12, .i i.1)]
  H := fun i => (match b with
    | true => leftHc t p n (endM t p true (min i.1 n.toNat)) 0 ++ [.one (.cells [.i 0] 3)]
    | false => leftHc t p n (endM t p true n.toNat) (endM t p false (min i.1 n.toNat)) ++ [.one (.cells [.i 1] 3)]) ++ [.one (.cells (lHor (horM t b)) 74), .one (.cells [.ptr 8 0 0 0] 69), .one (.cells (lHor (horM t b)) 74), .one (.row (.stp 8) (stepsM p.steps) 107)]
  mu := fun i => p.steps.length - i.1 })
def firstRound (H : Heap UU) : Bool := match blkAt H 10 0 with
  | some (.cells [.v (.int _ k)] _) => Nat.beq k.toNat 0
  | _ => false
def itSel (sel : Heap UU → Bool) (i j : ItW UU) : ItW UU where
  g := i.g
  fn := i.fn
  run := fun Y l m fr H K => match sel H with
    | true => i.run Y l m fr H K
    | false => j.run Y l m fr H K
theorem itSel_ok {P : Program} {sel : Heap UU → Bool} {i j : ItW UU} (hi : ItOk P i) (hj : ItOk P j) (hf : j.fn = i.fn) : ItOk P (itSel sel i j) where
  fn := hi.fn
  body := hi.body
  res := hi.res
  enters := hi.enters
  walk := fun Y l fr H K h => by
    simp only [itSel] at h ⊢
    split at h
    · exact hi.walk Y l fr H K h
    · have := hj.walk Y l fr H K h
      rw [hf] at this
      exact this
theorem open_is {t : TeamT} {p : PlotT} {is : Bool} (h : (openErrM t p is == 0) = true) : is = true := by
  unfold openErrM at h
  cases is with
  | true => rfl
  | false => split at h <;> simp at h
def leftM (t : TeamT) (p : PlotT) (n : Int) : Span × Int := if openErrM t p (inM n 0 p.steps.length) == 0 then ((endM t p true n.toNat, endM t p false n.toNat), 0) else ((0, 0), openErrM t p (inM n 0 p.steps.length))
def leftS : FSpec UU where
  X := TeamT × PlotT × Int
  pick := fun args H => match args with
    | [t, p, n] => match avTeam t, avPlot H p, avInt n with
      | some t, some p, some n => some (t, p, n)
      | _, _, _ => none
    | _ => none
  args := fun x => [vTeam x.1, vPlot x.2.1 0 1, .i x.2.2]
  H := fun x => hPlot x.2.1
  R := fun x => .val ⟨.tup [vSpan (leftM x.1 x.2.1 x.2.2).1, .i (leftM x.1 x.2.1 x.2.2).2], [], [], []⟩
  pre := fun x => x.2.1.g.pits.length < 1000000 ∧ x.2.1.steps.length < 1000000
def Tleft : Tab UU := [(30, openTS.con), (31, casesS.con), (36, behindS.con), (35, withinS.con), (29, caughtS.con)]
theorem Tleft_ok : Tleft.Sound Try.prog := .cons openT_sound (.cons cases_sound (.cons behind_sound (.cons twithin_sound (.cons caught_sound .nil))))
set_option maxHeartbeats 0 in
set_option maxRecDepth 100000 in
theorem left_ok : ∀ x, leftS.pre x → FunOk Try.prog 10 (leftS.args x) (leftS.H x) (leftS.R x) := by
  rintro ⟨⟨⟨s0, s1⟩, ⟨l0, l1⟩, ⟨g0, g1⟩, full⟩, ⟨⟨long, rise, change, ps⟩, st⟩, n⟩ hx
  refine fun_ofG (T := Tleft) (L := fun _ => some (.steps [(leftFr ((s0, s1), (l0, l1), (g0, g1), full) 0, leftHc ((s0, s1), (l0, l1), (g0, g1), full) ⟨⟨long, rise, change, ps⟩, st⟩ n 0 0), (leftFr ((s0, s1), (l0, l1), (g0, g1), full) 1, leftHc ((s0, s1), (l0, l1), (g0, g1), full) ⟨⟨long, rise, change, ps⟩, st⟩ n (endM ((s0, s1), (l0, l1), (g0, g1), full) ⟨⟨long, rise, change, ps⟩, st⟩ true n.toNat) 0), (leftFr ((s0, s1), (l0, l1), (g0, g1), full) 2, leftHc ((s0, s1), (l0, l1), (g0, g1), full) ⟨⟨long, rise, change, ps⟩, st⟩ n (endM ((s0, s1), (l0, l1), (g0, g1), full) ⟨⟨long, rise, change, ps⟩, st⟩ true n.toNat) (endM ((s0, s1), (l0, l1), (g0, g1), full) ⟨⟨long, rise, change, ps⟩, st⟩ false n.toNat))])) (hs := fun _ => []) (sp := fun _ => none) hmix Tleft_ok (tl := toldL 34) (toldL_ok toldLeft) (it := onlyAt 11 (itSel firstRound (itOf Try.prog Tit 63 Try.f63 (leftIt ((s0, s1), (l0, l1), (g0, g1), full) ⟨⟨long, rise, change, ps⟩, st⟩ n true) (fun _ => []) (fun _ => none)) (itOf Try.prog Tit 63 Try.f63 (leftIt ((s0, s1), (l0, l1), (g0, g1), full) ⟨⟨long, rise, change, ps⟩, st⟩ n false) (fun _ => []) (fun _ => none)))) (onlyAt_ok (itSel_ok itB_ok itB_ok rfl)) Try.func10 (by kernel_rfl) (by kernel_rfl) ?_
  refine Eq.mp (α :=
      let Z0 := True ∧ True ∧ True ∧ True; let Z1 := (26 : TypeId); let Z2 := (62 : FuncId); let Z3 := (61 : FuncId); let Z4 := (107 : TypeId); let Z5 := (110 : TypeId); let Z6 := True ∧ Z0; let Z7 := ((g0, g1), full); let Z8 := nat_lit 0 = nat_lit 0 ∧ nat_lit 0 = nat_lit 0 ∧ nat_lit 0 = nat_lit 0; let Z9 := Fn.func Z3; let Z10 := Fn.func Z2; let Z11 := st = st ∧ True; let Z12 := fun (l : Nat) => Fn.yield l = Fn.yield l ∧ True ∧ True; let Z13 := Value.int IntKind.i64 (0 : Int); let Z14 := (↑(List.length st) : Int); let Z15 := List.length st < nat_lit 1000000; let Z16 := Value.int IntKind.i64 (1 : Int); let Z17 := True ∧ Z6; let Z18 := Z8 ∧ True; let Z19 := List.length ps = List.length ps; let Z20 := (true, (0 : Int)); let Z21 := Value.int IntKind.i64 n = Value.int IntKind.i64 n; let Z22 := Value.int IntKind.i64 s0 = Value.int IntKind.i64 s0; let Z23 := Value.int IntKind.i64 s1 = Value.int IntKind.i64 s1; let Z24 := Value.int IntKind.i64 l0 = Value.int IntKind.i64 l0; let Z25 := Value.int IntKind.i64 l1 = Value.int IntKind.i64 l1; let Z26 := Value.int IntKind.i64 g0 = Value.int IntKind.i64 g0; let Z27 := Value.int IntKind.i64 long = Value.int IntKind.i64 long; let Z28 := Value.int IntKind.i64 g1 = Value.int IntKind.i64 g1; let Z29 := Value.int IntKind.i64 rise = Value.int IntKind.i64 rise; let Z30 := Value.int IntKind.i64 full = Value.int IntKind.i64 full; let Z31 := List.length st = List.length st; let Z32 := Value.int IntKind.i64 change = Value.int IntKind.i64 change; let Z33 := True ∧ Z17; let Z34 := Z21 ∧ True; let Z35 := Z30 ∧ True; let Z36 := List.length (worksM (PlotT.mk (GroundT.mk long rise change ps) st)); let Z37 := List.length (PlotT.steps (PlotT.mk (GroundT.mk long rise change ps) st)); let Z38 := nat_lit 0 = nat_lit 0 ∧ Z19; let Z39 := Value.int IntKind.i64 Z14; let Z40 := Z33 ∧ True; let Z41 := Z18 ∧ True ∧ True; let Z42 := nat_lit 0 = nat_lit 0 ∧ Z31; let Z43 := ((0 : Int), (0 : Int)); let Z44 := (0 : Int) < (↑(nat_lit 2) : Int); let Z45 := List.length (worksM (PlotT.mk (GroundT.mk long rise change ps) st)); let Z46 := (1 : Int) < (↑(nat_lit 2) : Int); let Z47 := (0 : Int) < (2 : Int); let Z48 := (0 : Int) ≤ (0 : Int); let Z49 := List.length (stepsM st); let Z50 := (2 : Int) < (2 : Int); let Z51 := (0 : Int) ≤ (1 : Int); let Z52 := (1 : Int) < (2 : Int); let Z53 := Z1 = Z1; let Z54 := Z4 = Z4; let Z55 := nat_lit 0 = nat_lit 0 ∧ Z38; let Z56 := ps = ps ∧ Z11; let Z57 := nat_lit 0 = nat_lit 0 ∧ Z42; let Z58 := fun (i : Nat) => i ≤ Z37; let Z59 := inM n (0 : Int) Z14; let Z60 := (↑Z36 : Int); let Z61 := Value.nilIface = Value.nilIface ∧ Z18; let Z62 := Z10 = Z9; let Z63 := Z10 = Z10; let Z64 := Z9 = Z10; let Z65 := Z9 = Z9; let Z66 := Z57 ∧ True; let Z67 := True ∧ Z56; let Z68 := ((l0, l1), Z7); let Z69 := Value.bool Z59; let Z70 := (↑Z49 : Int); let Z71 := Z57 ∧ True ∧ True; let Z72 := Z16 = Z16; let Z73 := Z13 = Z13; let Z74 : Type := { i : Nat // Z58 i }; let Z75 := Z57 ∧ nat_lit 0 = nat_lit 0 ∧ True; let Z76 := Z62 ∧ True ∧ True; let Z77 := Z65 ∧ True ∧ True; let Z78 := Z64 ∧ True ∧ True; let Z79 := Z63 ∧ True ∧ True; let Z80 := fun (x : Z74) => Subtype.val x; let Z81 := True ∧ Z71; let Z82 := Z73 ∧ True; let Z83 := Z72 ∧ True; let Z84 := worksM (PlotT.mk (GroundT.mk long rise change ps) st) = worksM (PlotT.mk (GroundT.mk long rise change ps) st); let Z85 := Z77 ∧ True; let Z86 := Z28 ∧ Z35; let Z87 := True ∧ Z81; let Z88 := ((0 : Int), Z43); let Z89 := Z82 ∧ True; let Z90 := Z84 ∧ True; let Z91 := True ∧ Z87; let Z92 := fun (x : Z74) => (↑(Z80 x) : Int); let Z93 := True ∧ Z91; let Z94 := fun (x : Z74) => min (Z80 x) (Int.toNat n); let Z95 := Z39 = Z39; let Z96 := fun (t : Z74) => Int.toNat (Z92 t); let Z97 := Z45 = Z36; let Z98 := fun (x : Z74) => Value.int IntKind.i64 (Z92 x); let Z99 := Z48 ∧ Z44; let Z100 := Z51 ∧ Z46; let Z101 := decide Z47; let Z102 := decide Z52; let Z103 := decide Z50; let Z104 := fun (t : Z74) => Z92 t < n; let Z105 := nat_lit 0 = nat_lit 0 ∧ Z97; let Z106 := ((s0, s1), Z68); let Z107 := fun (x : Z74) => List.length st - Z80 x; let Z108 := nat_lit 0 = nat_lit 0 ∧ Z105; let Z109 := Z30 ∧ Z85; let Z110 := Z26 ∧ Z86; let Z111 := horM Z106 true; let Z112 := Z55 ∧ Z66; let Z113 := horM Z106 false; let Z114 := fun (t : Z74) => (0 : Int) ≤ Z92 t; let Z115 := fun (t : Z74) => nat_lit 0 + Z96 t; let Z116 := Z93 ∧ Z11; let Z117 := nat_lit 7 = nat_lit 7 ∧ Z108; let Z118 := Z55 ∧ Z75; let Z119 := Z53 ∧ Z84; let Z120 := Z117 ∧ True; let Z121 := fun (t : Z74) => Z92 t < Z14; let Z122 := Z69 = Z69; let Z123 := fun (t : Z74) => Z92 t + (1 : Int); let Z124 := leftM Z106 (PlotT.mk (GroundT.mk long rise change ps) st) n; let Z125 := True ∧ Z120; let Z126 := fun (x : Z74) => Z13 = Z98 x; let Z127 := Z122 ∧ True; let Z128 := True ∧ Z125; let Z129 := fun (x : Z74) => Z126 x ∧ True; let Z130 := Z73 ∧ Z82; let Z131 := Prod.fst Z111; let Z132 := Prod.snd Z111; let Z133 := Prod.snd Z113; let Z134 := Prod.fst Z113; let Z135 := Z79 ∧ Z77; let Z136 := endM Z106 (PlotT.mk (GroundT.mk long rise change ps) st) true (Int.toNat n); let Z137 := endM Z106 (PlotT.mk (GroundT.mk long rise change ps) st) false (Int.toNat n); let Z138 := fun (t : Z74) => IntKind.wrap IntKind.i64 (Z123 t); let Z139 := Prod.snd Z124; let Z140 := Prod.fst Z124; let Z141 := True ∧ Z128; let Z142 := Z28 ∧ Z109; let Z143 := Z25 ∧ Z110; let Z144 := True ∧ Z141; let Z145 := Z32 ∧ Z112; let Z146 := Prod.snd Z140; let Z147 := Prod.fst Z140; let Z148 := Value.int IntKind.i64 Z131; let Z149 := Value.int IntKind.i64 Z134; let Z150 := Value.int IntKind.i64 Z136; let Z151 := Value.int IntKind.i64 Z137; let Z152 := True ∧ Z144; let Z153 := fun (t : Z74) => Value.int IntKind.i64 (Z138 t); let Z154 := Value.int IntKind.i64 Z139; let Z155 := Z32 ∧ Z118; let Z156 := fun (t : Z74) => Z92 t < Z70; let Z157 := Prod.snd Z132; let Z158 := Prod.fst Z132; let Z159 := Prod.snd Z133; let Z160 := Prod.fst Z133; let Z161 := Value.int IntKind.i64 Z146; let Z162 := Value.int IntKind.i64 Z147; let Z163 := Value.int IntKind.i64 s0 = Z148; let Z164 := Value.int IntKind.i64 s1 = Z149; let Z165 := Value.int IntKind.i64 Z158; let Z166 := Value.int IntKind.i64 Z160; let Z167 := fun (t : Z74) => Z115 t < Z49; let Z168 := Prod.snd Z157; let Z169 := Prod.fst Z157; let Z170 := Prod.snd Z159; let Z171 := Prod.fst Z159; let Z172 := Z24 ∧ Z142; let Z173 := openErrM Z106 (PlotT.mk (GroundT.mk long rise change ps) st) Z59; let Z174 := Z24 ∧ Z143; let Z175 := Z29 ∧ Z145; let Z176 := Prod.fst Z168; let Z177 := Prod.snd Z168; let Z178 := Prod.fst Z170; let Z179 := Prod.snd Z170; let Z180 := Value.int IntKind.i64 Z169; let Z181 := Value.int IntKind.i64 Z171; let Z182 := Z13 = Z154; let Z183 := Value.int IntKind.i64 l1 = Z165; let Z184 := Value.int IntKind.i64 l0 = Z166; let Z185 := Z182 ∧ True; let Z186 := Z29 ∧ Z155; let Z187 := Value.int IntKind.i64 Z173; let Z188 := fun (t : Z74) => List.getD (stepsM st) (Z115 t) Z20; let Z189 := Z13 = Z161; let Z190 := Value.int IntKind.i64 Z176; let Z191 := Z13 = Z162; let Z192 := Value.int IntKind.i64 Z178; let Z193 := fun (t : Z74) => decide (Z104 t); let Z194 := fun (x : Z74) => endM Z106 (PlotT.mk (GroundT.mk long rise change ps) st) true (Z80 x); let Z195 := fun (x : Z74) => endM Z106 (PlotT.mk (GroundT.mk long rise change ps) st) false (Z80 x); let Z196 := Z189 ∧ True; let Z197 := fun (t : Z74) => Prod.fst (Z188 t); let Z198 := fun (t : Z74) => Prod.snd (Z188 t); let Z199 := Value.int IntKind.i64 g0 = Z180; let Z200 := Value.int IntKind.i64 g1 = Z181; let Z201 := fun (t : Z74) => Z193 t = true; let Z202 := fun (t : Z74) => Z193 t = false; let Z203 := fun (t : Z74) => Int.toNat (Z198 t); let Z204 := fun (x : Z74) => Value.int IntKind.i64 (Z194 x); let Z205 := fun (x : Z74) => Value.int IntKind.i64 (Z195 x); let Z206 := fun (t : Z74) => Z197 t = true; let Z207 := fun (t : Z74) => Z197 t = false; let Z208 := fun (t : Z74) => Value.int IntKind.i64 (Z198 t); let Z209 := Value.int IntKind.i64 full = Z190; let Z210 := Value.int IntKind.i64 full = Z192; let Z211 := Z23 ∧ Z172; let Z212 := Z23 ∧ Z174; let Z213 := fun (x : Z74) => endM Z106 (PlotT.mk (GroundT.mk long rise change ps) st) true (Z94 x); let Z214 := Z27 ∧ Z175; let Z215 := fun (x : Z74) => endM Z106 (PlotT.mk (GroundT.mk long rise change ps) st) false (Z94 x); let Z216 := fun (x t : Z74) => Z107 x < Z107 t; let Z217 := Z27 ∧ Z186; let Z218 := Z173 == (0 : Int); let Z219 := fun (x : Z74) => Value.int IntKind.i64 (Z213 x); let Z220 := fun (x : Z74) => Value.int IntKind.i64 (Z215 x); let Z221 := Z152 ∧ Z90; let Z222 := fun (t : Z74) => (0 : Int) ≤ Z198 t; let Z223 := fun (t : Z74) => Z198 t < Z14; let Z224 := fun (t x : Z74) => Z153 t = Z98 x; let Z225 := Z22 ∧ Z212; let Z226 := fun (t x : Z74) => Z224 t x ∧ True; let Z227 := fun (t : Z74) => Z198 t < Z60; let Z228 := fun (t : Z74) => Z114 t ∧ Z156 t; let Z229 := fun (t : Z74) => decide (Z121 t); let Z230 := Z79 ∧ Z211; let Z231 := fun (t : Z74) => Z229 t = true; let Z232 := fun (t : Z74) => Z229 t = false; let Z233 := fun (t : Z74) => List.getD (worksM (PlotT.mk (GroundT.mk long rise change ps) st)) (Z203 t) Z43; let Z234 := fun (t : Z74) => List.getD st (Z203 t) Z88; let Z235 := Z148 = Z148; let Z236 := Z150 = Z150; let Z237 := Z149 = Z149; let Z238 := fun (t : Z74) => Prod.snd (Z234 t); let Z239 := Z150 = Z162; let Z240 := Z30 ∧ Z230; let Z241 := fun (t : Z74) => Prod.snd (Z238 t); let Z242 := Z165 = Z165; let Z243 := Z166 = Z166; let Z244 := fun (t x : Z74) => Z95 ∧ Z226 t x; let Z245 := Z214 ∧ Z127; let Z246 := Z26 ∧ Z240; let Z247 := fun (t x : Z74) => nat_lit 0 = nat_lit 0 ∧ Z244 t x; let Z248 := Z177 = Z177; let Z249 := Z179 = Z179; let Z250 := Z180 = Z180; let Z251 := Z181 = Z181; let Z252 := Z25 ∧ Z246; let Z253 := Z190 = Z190; let Z254 := Z192 = Z192; let Z255 := Z191 ∧ Z196; let Z256 := fun (t : Z74) => Z204 t = Z204 t; let Z257 := fun (t : Z74) => Z205 t = Z205 t; let Z258 := Z22 ∧ Z252; let Z259 := fun (t : Z74) => Z256 t ∧ True; let Z260 := fun (t : Z74) => Z257 t ∧ True; let Z261 := fun (t : Z74) => Z208 t = Z208 t; let Z262 := fun (t : Z74) => Z261 t ∧ True; let Z263 := fun (t x : Z74) => Z219 t = Z219 x; let Z264 := fun (t x : Z74) => Z220 t = Z220 x; let Z265 := fun (t : Z74) => Z8 ∧ Z262 t; let Z266 := fun (t x : Z74) => Z264 t x ∧ True; let Z267 := fun (t : Z74) => Z222 t ∧ Z223 t; let Z268 := fun (t : Z74) => Z222 t ∧ Z227 t; let Z269 := Z248 ∧ Z135; let Z270 := Z249 ∧ Z135; let Z271 := Z269 ∧ True; let Z272 := Z270 ∧ True; let Z273 := fun (t x : Z74) => Z263 t x ∧ Z82; let Z274 := fun (t : Z74) => furrowM Z111 (Z233 t) (Z194 t); let Z275 := fun (t : Z74) => furrowM Z113 (Z233 t) (Z195 t); let Z276 := Z225 ∧ Z245; let Z277 := fun (t : Z74) => Value.int IntKind.i64 (Z274 t); let Z278 := fun (t : Z74) => Value.int IntKind.i64 (Z275 t); let Z279 := fun (t : Z74) => restM Z111 (Z241 t) (Z194 t); let Z280 := fun (t : Z74) => restM Z113 (Z241 t) (Z195 t); let Z281 := fun (t : Z74) => Value.int IntKind.i64 (Z279 t); let Z282 := fun (t : Z74) => Value.int IntKind.i64 (Z280 t); let Z283 := fun (t x : Z74) => Z236 ∧ Z266 t x; let Z284 := fun (t x : Z74) => Z277 t = Z204 x; let Z285 := fun (t x : Z74) => Z278 t = Z205 x; let Z286 := fun (t x : Z74) => Z281 t = Z204 x; let Z287 := fun (t x : Z74) => Z282 t = Z205 x; let Z288 := Z253 ∧ Z271; let Z289 := Z254 ∧ Z272; let Z290 := fun (t x : Z74) => Z284 t x ∧ Z247 t x; let Z291 := fun (t x : Z74) => Z285 t x ∧ Z247 t x; let Z292 := fun (t x : Z74) => Z8 ∧ Z290 t x; let Z293 := fun (t x : Z74) => Z8 ∧ Z291 t x; let Z294 := fun (t x : Z74) => Z286 t x ∧ Z247 t x; let Z295 := fun (t x : Z74) => Z287 t x ∧ Z247 t x; let Z296 := fun (t x : Z74) => Z8 ∧ Z292 t x; let Z297 := fun (t x : Z74) => Z8 ∧ Z293 t x; let Z298 := fun (t x : Z74) => Z8 ∧ Z294 t x; let Z299 := fun (t x : Z74) => Z8 ∧ Z295 t x; let Z300 := fun (t x : Z74) => Z8 ∧ Z298 t x; let Z301 := fun (t x : Z74) => Z8 ∧ Z299 t x; let Z302 := fun (l : Nat) (t x : Z74) => Z12 l ∧ Z296 t x; let Z303 := fun (l : Nat) (t x : Z74) => Z12 l ∧ Z297 t x; let Z304 := Z250 ∧ Z288; let Z305 := Z251 ∧ Z289; let Z306 := fun (l : Nat) (t x : Z74) => Z12 l ∧ Z300 t x; let Z307 := fun (l : Nat) (t x : Z74) => Z12 l ∧ Z301 t x; let Z308 := Z242 ∧ Z304; let Z309 := Z243 ∧ Z305; let Z310 := Z235 ∧ Z308; let Z311 := Z237 ∧ Z309; let Z312 := fun (t : Z74) => Z310 ∧ Z259 t; True ∧ (Z21 ∧ Z73 ∧ Z95 ∧ True) ∧ True ∧ (List.length ps < nat_lit 1000000 ∧ Z15) ∧ (Z218 = true → Z276 ∧ Z56 ∧ True ∧ (Z225 ∧ True) ∧ True ∧ ((Z8 ∧ Z8 ∧ Z8 ∧ Z8 ∧ Z8 ∧ Z8 ∧ Z8 ∧ Z258 ∧ Z82) ∧ Z41 ∧ ps = ps ∧ st = st ∧ Z225 ∧ Z214 ∧ Z34 ∧ Z130 ∧ Z82 ∧ Z119 ∧ Z217 ∧ Z130 ∧ True) ∧ (Z101 = true → Z99 ∧ Z99 ∧ True ∧ (Z8 ∧ (Z22 ∧ Z25 ∧ Z26 ∧ Z30 ∧ ((true = true → Z79) ∧ (true = false → Z76)) ∧ True) ∧ True) ∧ Z40 ∧ ∀ (l : Nat), Z15 ∧ Z18 ∧ Z116 ∧ (∃ (x : Z74), (Z12 l ∧ Z8 ∧ Z8 ∧ Value.int IntKind.i64 s0 = Z204 x ∧ nat_lit 0 = nat_lit 0 ∧ Value.int IntKind.i64 (↑(List.length (stepsM st)) : Int) = Z39 ∧ Z129 x) ∧ True ∧ ps = ps ∧ st = st ∧ Z225 ∧ Z214 ∧ Z34 ∧ Z130 ∧ Z82 ∧ Z119 ∧ Z217 ∧ (Value.int IntKind.i64 s0 = Z219 x ∧ Z82) ∧ Z82 ∧ (Z163 ∧ Z183 ∧ Z199 ∧ Z209 ∧ ((Z177 = true → Z79) ∧ (Z177 = false → Z76)) ∧ True) ∧ Z18 ∧ (Z163 ∧ Z183 ∧ Z199 ∧ Z209 ∧ (true = Z177 ∧ Z135) ∧ True) ∧ (Z54 ∧ stepsM st = stepsM st) ∧ True) ∧ ∀ (t : Z74), (Z231 t → Z228 t ∧ Z167 t ∧ (Z206 t → Z267 t ∧ (Z265 t ∧ Z312 t) ∧ Z116 ∧ l = l ∧ True ∧ (Z201 t → Z99 ∧ True ∧ ∃ (x : Z74), (Z306 l t x ∧ True ∧ ps = ps ∧ st = st ∧ Z225 ∧ Z214 ∧ Z34 ∧ Z130 ∧ Z82 ∧ Z119 ∧ Z217 ∧ (Z281 t = Z219 x ∧ Z82) ∧ Z82 ∧ Z310 ∧ Z18 ∧ Z310 ∧ (Z54 ∧ stepsM st = stepsM st) ∧ True) ∧ Z216 x t) ∧ (Z202 t → True ∧ ∃ (x : Z74), (Z306 l t x ∧ True ∧ ps = ps ∧ st = st ∧ Z225 ∧ Z214 ∧ Z34 ∧ Z130 ∧ Z82 ∧ Z119 ∧ Z217 ∧ Z273 t x ∧ Z82 ∧ Z310 ∧ Z18 ∧ Z310 ∧ (Z54 ∧ stepsM st = stepsM st) ∧ True) ∧ Z216 x t)) ∧ (Z207 t → Z268 t ∧ (Z265 t ∧ Z312 t) ∧ Z221 ∧ l = l ∧ True ∧ (Z201 t → Z99 ∧ True ∧ ∃ (x : Z74), (Z302 l t x ∧ True ∧ ps = ps ∧ st = st ∧ Z225 ∧ Z214 ∧ Z34 ∧ Z130 ∧ Z82 ∧ Z119 ∧ Z217 ∧ (Z277 t = Z219 x ∧ Z82) ∧ Z82 ∧ Z310 ∧ Z18 ∧ Z310 ∧ (Z54 ∧ stepsM st = stepsM st) ∧ True) ∧ Z216 x t) ∧ (Z202 t → True ∧ ∃ (x : Z74), (Z302 l t x ∧ True ∧ ps = ps ∧ st = st ∧ Z225 ∧ Z214 ∧ Z34 ∧ Z130 ∧ Z82 ∧ Z119 ∧ Z217 ∧ Z273 t x ∧ Z82 ∧ Z310 ∧ Z18 ∧ Z310 ∧ (Z54 ∧ stepsM st = stepsM st) ∧ True) ∧ Z216 x t))) ∧ (Z232 t → ((Z8 ∧ Z8 ∧ Z8 ∧ Z8 ∧ Z8 ∧ Z8 ∧ Z8 ∧ Z258 ∧ Value.int IntKind.i64 (IntKind.wrap IntKind.i64 ((0 : Int) + (1 : Int))) = Z16 ∧ True) ∧ Z41 ∧ ps = ps ∧ st = st ∧ Z225 ∧ Z214 ∧ Z34 ∧ Z130 ∧ Z82 ∧ Z119 ∧ Z217 ∧ (Z219 t = Z150 ∧ Z82) ∧ True) ∧ (Z102 = true → Z100 ∧ Z100 ∧ True ∧ (Z8 ∧ (Z23 ∧ Z24 ∧ Z28 ∧ Z30 ∧ ((false = true → Z78) ∧ (false = false → Z77)) ∧ True) ∧ True) ∧ Z40 ∧ ∀ (l : Nat), Z15 ∧ Z18 ∧ Z116 ∧ (∃ (x : Z74), (Z12 l ∧ Z8 ∧ Z8 ∧ Value.int IntKind.i64 s1 = Z205 x ∧ nat_lit 0 = nat_lit 0 ∧ Value.int IntKind.i64 (↑(List.length (stepsM st)) : Int) = Z39 ∧ Z129 x) ∧ True ∧ ps = ps ∧ st = st ∧ Z225 ∧ Z214 ∧ Z34 ∧ Z130 ∧ Z82 ∧ Z119 ∧ Z217 ∧ (Z236 ∧ Value.int IntKind.i64 s1 = Z220 x ∧ True) ∧ Z83 ∧ (Z164 ∧ Z184 ∧ Z200 ∧ Z210 ∧ ((Z179 = true → Z78) ∧ (Z179 = false → Z77)) ∧ True) ∧ Z18 ∧ (Z164 ∧ Z184 ∧ Z200 ∧ Z210 ∧ (false = Z179 ∧ Z135) ∧ True) ∧ (Z54 ∧ stepsM st = stepsM st) ∧ True) ∧ ∀ (t : Z74), (Z231 t → Z228 t ∧ Z167 t ∧ (Z206 t → Z267 t ∧ (Z265 t ∧ Z311 ∧ Z260 t) ∧ Z116 ∧ l = l ∧ True ∧ (Z201 t → Z100 ∧ True ∧ ∃ (x : Z74), (Z307 l t x ∧ True ∧ ps = ps ∧ st = st ∧ Z225 ∧ Z214 ∧ Z34 ∧ Z130 ∧ Z82 ∧ Z119 ∧ Z217 ∧ (Z236 ∧ Z282 t = Z220 x ∧ True) ∧ Z83 ∧ Z311 ∧ Z18 ∧ Z311 ∧ (Z54 ∧ stepsM st = stepsM st) ∧ True) ∧ Z216 x t) ∧ (Z202 t → True ∧ ∃ (x : Z74), (Z307 l t x ∧ True ∧ ps = ps ∧ st = st ∧ Z225 ∧ Z214 ∧ Z34 ∧ Z130 ∧ Z82 ∧ Z119 ∧ Z217 ∧ Z283 t x ∧ Z83 ∧ Z311 ∧ Z18 ∧ Z311 ∧ (Z54 ∧ stepsM st = stepsM st) ∧ True) ∧ Z216 x t)) ∧ (Z207 t → Z268 t ∧ (Z265 t ∧ Z311 ∧ Z260 t) ∧ Z221 ∧ l = l ∧ True ∧ (Z201 t → Z100 ∧ True ∧ ∃ (x : Z74), (Z303 l t x ∧ True ∧ ps = ps ∧ st = st ∧ Z225 ∧ Z214 ∧ Z34 ∧ Z130 ∧ Z82 ∧ Z119 ∧ Z217 ∧ (Z236 ∧ Z278 t = Z220 x ∧ True) ∧ Z83 ∧ Z311 ∧ Z18 ∧ Z311 ∧ (Z54 ∧ stepsM st = stepsM st) ∧ True) ∧ Z216 x t) ∧ (Z202 t → True ∧ ∃ (x : Z74), (Z303 l t x ∧ True ∧ ps = ps ∧ st = st ∧ Z225 ∧ Z214 ∧ Z34 ∧ Z130 ∧ Z82 ∧ Z119 ∧ Z217 ∧ Z283 t x ∧ Z83 ∧ Z311 ∧ Z18 ∧ Z311 ∧ (Z54 ∧ stepsM st = stepsM st) ∧ True) ∧ Z216 x t))) ∧ (Z232 t → ((Z8 ∧ Z8 ∧ Z8 ∧ Z8 ∧ Z8 ∧ Z8 ∧ Z8 ∧ Z258 ∧ Value.int IntKind.i64 (IntKind.wrap IntKind.i64 ((1 : Int) + (1 : Int))) = Value.int IntKind.i64 (2 : Int) ∧ True) ∧ Z41 ∧ ps = ps ∧ st = st ∧ Z225 ∧ Z214 ∧ Z34 ∧ Z130 ∧ Z82 ∧ Z119 ∧ Z217 ∧ (Z236 ∧ Z220 t = Z151 ∧ True) ∧ True) ∧ (Z103 = true → ((0 : Int) ≤ (2 : Int) ∧ (2 : Int) < (↑(nat_lit 2) : Int)) ∧ False) ∧ (Z103 = false → Z99 ∧ Z100 ∧ True ∧ Z61 ∧ Z89 ∧ True ∧ (((Z239 ∧ Z151 = Z161 ∧ True) ∧ Z185) ∧ True) ∧ Z67))) ∧ (Z102 = false → Z99 ∧ Z100 ∧ True ∧ Z61 ∧ Z89 ∧ True ∧ (((Z239 ∧ Z196) ∧ Z185) ∧ True) ∧ Z67))) ∧ (Z101 = false → Z99 ∧ Z100 ∧ True ∧ Z61 ∧ Z89 ∧ True ∧ ((Z255 ∧ Z185) ∧ True) ∧ Z67)) ∧ (Z218 = false → Z276 ∧ Z56 ∧ True ∧ ((Z5 = Z5 ∧ Z187 = Z187 ∧ True) ∧ Z18) ∧ Z89 ∧ True ∧ ((Z255 ∧ Z187 = Z154 ∧ True) ∧ True) ∧ Z67))
    (by kernel_rfl) ?_
  simp only [eq_self, true_and, and_true, Int.toNat_natCast, Nat.zero_add, Nat.sub_zero, Value.int.injEq, Value.bool.injEq, decide_eq_true_eq, decide_eq_false_iff_not]
  have h1 : ps.length < 1000000 := hx.1
  have h2 : st.length < 1000000 := hx.2
  have hw : (worksM ⟨⟨long, rise, change, ps⟩, st⟩).length = st.length := works_len _
  refine ⟨⟨h1, h2⟩, fun h => ?_, fun h => ?_⟩
  · have hn := open_is h
    have hn1 : 0 ≤ n ∧ n ≤ (st.length : Int) := by
      have hn' : inM n 0 (st.length : Int) = true := hn
      unfold inM at hn'
      simp only [Bool.and_eq_true, decide_eq_true_eq] at hn'
      exact hn'
    have e : leftM ((s0, s1), (l0, l1), (g0, g1), full) ⟨⟨long, rise, change, ps⟩, st⟩ n = ((endM ((s0, s1), (l0, l1), (g0, g1), full) ⟨⟨long, rise, change, ps⟩, st⟩ true n.toNat, endM ((s0, s1), (l0, l1), (g0, g1), full) ⟨⟨long, rise, change, ps⟩, st⟩ false n.toNat), 0) := by
      unfold leftM
      exact if_pos h
    have hsl := steps_len st
    rw [e]
    refine ⟨fun _ => ⟨⟨by decide, by decide⟩, ⟨by decide, by decide⟩, ⟨fun _ => trivial, fun h => absurd h (by decide)⟩, fun _ => ⟨h2, ⟨⟨0, Nat.zero_le _⟩, ⟨rfl, by rw [hsl], rfl⟩, by simp only [Nat.zero_min]; rfl, ⟨rfl, rfl, rfl, rfl, fun _ => trivial, fun h => nomatch (show true = false from h)⟩, rfl, rfl, rfl, rfl, rfl⟩, fun t => ⟨fun ht => ?_, fun ht => ?_⟩⟩⟩, fun h => absurd (by decide) h⟩
    · obtain ⟨i, hi⟩ := t
      have hlt : i < st.length := by have h1 : (i : Int) < (st.length : Int) := ht; omega
      have hg' := steps_get st i hlt
      have hsl := steps_len st
      simp only [hg', hsl]
      refine ⟨⟨Int.natCast_nonneg _, ht⟩, hlt, fun hr => ?_, fun hr => ?_⟩
      · have e := now_rest (worksM ⟨⟨long, rise, change, ps⟩, st⟩) (horM ((s0, s1), (l0, l1), (g0, g1), full) true) hr
        refine ⟨⟨Int.natCast_nonneg _, ht⟩, fun h => ⟨⟨by decide, by decide⟩, ⟨i + 1, hlt⟩, ⟨⟨e.symm, sucI i (by omega)⟩, ?_⟩, dec1 hlt⟩, fun h => ⟨⟨i + 1, hlt⟩, ⟨⟨e.symm, sucI i (by omega)⟩, ?_⟩, dec1 hlt⟩⟩
        · have h' : (i : Int) < n := h
          have hm : min (i + 1) n.toNat = i + 1 := by omega
          rw [hm]; exact e.symm
        · have h' : ¬ (i : Int) < n := h
          have hm : min i n.toNat = min (i + 1) n.toNat := by omega
          rw [← hm]
      · have e := now_furrow (worksM ⟨⟨long, rise, change, ps⟩, st⟩) (horM ((s0, s1), (l0, l1), (g0, g1), full) true) hr
        refine ⟨⟨Int.natCast_nonneg _, by rw [hw]; exact ht⟩, fun h => ⟨⟨by decide, by decide⟩, ⟨i + 1, hlt⟩, ⟨⟨e.symm, sucI i (by omega)⟩, ?_⟩, dec1 hlt⟩, fun h => ⟨⟨i + 1, hlt⟩, ⟨⟨e.symm, sucI i (by omega)⟩, ?_⟩, dec1 hlt⟩⟩
        · have h' : (i : Int) < n := h
          have hm : min (i + 1) n.toNat = i + 1 := by omega
          rw [hm]; exact e.symm
        · have h' : ¬ (i : Int) < n := h
          have hm : min i n.toNat = min (i + 1) n.toNat := by omega
          rw [← hm]
    · obtain ⟨i, hi⟩ := t
      have hie : i = st.length := by have h1 : ¬ (i : Int) < (st.length : Int) := ht; omega
      have hm : min i n.toNat = n.toNat := by omega
      refine ⟨⟨by decide, by rw [hm]⟩, fun _ => ⟨⟨by decide, by decide⟩, ⟨by decide, by decide⟩, ⟨fun h => absurd h (by decide), fun _ => trivial⟩, fun _ => ⟨h2, ⟨⟨0, Nat.zero_le _⟩, ⟨rfl, by rw [hsl], rfl⟩, by simp only [Nat.zero_min]; rfl, ⟨rfl, rfl, rfl, rfl, (fun h => nomatch (show false = true from h)), fun _ => trivial⟩, rfl, rfl, rfl, rfl, rfl⟩, fun t => ⟨fun ht => ?_, fun ht => ?_⟩⟩⟩, fun h => absurd (by decide) h⟩
      · obtain ⟨i, hi⟩ := t
        have hlt : i < st.length := by have h1 : (i : Int) < (st.length : Int) := ht; omega
        have hg' := steps_get st i hlt
        have hsl := steps_len st
        simp only [hg', hsl]
        refine ⟨⟨Int.natCast_nonneg _, ht⟩, hlt, fun hr => ?_, fun hr => ?_⟩
        · have e := now_rest (worksM ⟨⟨long, rise, change, ps⟩, st⟩) (horM ((s0, s1), (l0, l1), (g0, g1), full) false) hr
          refine ⟨⟨Int.natCast_nonneg _, ht⟩, fun h => ⟨⟨by decide, by decide⟩, ⟨i + 1, hlt⟩, ⟨⟨e.symm, sucI i (by omega)⟩, ?_⟩, dec1 hlt⟩, fun h => ⟨⟨i + 1, hlt⟩, ⟨⟨e.symm, sucI i (by omega)⟩, ?_⟩, dec1 hlt⟩⟩
          · have h' : (i : Int) < n := h
            have hm : min (i + 1) n.toNat = i + 1 := by omega
            rw [hm]; exact e.symm
          · have h' : ¬ (i : Int) < n := h
            have hm : min i n.toNat = min (i + 1) n.toNat := by omega
            rw [← hm]
        · have e := now_furrow (worksM ⟨⟨long, rise, change, ps⟩, st⟩) (horM ((s0, s1), (l0, l1), (g0, g1), full) false) hr
          refine ⟨⟨Int.natCast_nonneg _, by rw [hw]; exact ht⟩, fun h => ⟨⟨by decide, by decide⟩, ⟨i + 1, hlt⟩, ⟨⟨e.symm, sucI i (by omega)⟩, ?_⟩, dec1 hlt⟩, fun h => ⟨⟨i + 1, hlt⟩, ⟨⟨e.symm, sucI i (by omega)⟩, ?_⟩, dec1 hlt⟩⟩
          · have h' : (i : Int) < n := h
            have hm : min (i + 1) n.toNat = i + 1 := by omega
            rw [hm]; exact e.symm
          · have h' : ¬ (i : Int) < n := h
            have hm : min i n.toNat = min (i + 1) n.toNat := by omega
            rw [← hm]
      · obtain ⟨i, hi⟩ := t
        have hie : i = st.length := by have h1 : ¬ (i : Int) < (st.length : Int) := ht; omega
        have hm : min i n.toNat = n.toNat := by omega
        refine ⟨⟨by decide, by rw [hm]⟩, fun h => absurd h (by decide), fun _ => ⟨⟨by decide, by decide⟩, ⟨by decide, by decide⟩, ⟨rfl, rfl⟩, rfl⟩⟩
  · have e : leftM ((s0, s1), (l0, l1), (g0, g1), full) ⟨⟨long, rise, change, ps⟩, st⟩ n = ((0, 0), openErrM ((s0, s1), (l0, l1), (g0, g1), full) ⟨⟨long, rise, change, ps⟩, st⟩ (inM n 0 (st.length : Int))) := by
      unfold leftM
      exact if_neg (by rw [h]; decide)
    rw [e]
    exact ⟨⟨rfl, rfl⟩, rfl⟩

theorem left_sound : Sound Try.prog 10 leftS.con := FSpec.sound _ (enter_of Try.func10 (by kernel_rfl) (by kernel_rfl)) left_ok
end AE.Team

namespace AE.Team
open Go AE Go.Proofs AE.Soil

def tspanS : FSpec UU where
  X := Span
  pick := fun args _ => match args with
    | [a, b] => match avInt a, avInt b with
      | some a, some b => some (a, b)
      | _, _ => none
    | _ => none
  args := fun (x : Span) => [.i x.1, .i x.2]
  H := fun _ => []
  R := fun (x : Span) => .val ⟨vSpan x, [], [], []⟩
set_option maxRecDepth 100000 in
theorem tspan_ok : ∀ x, tspanS.pre x → FunOk Try.prog 17 (tspanS.args x) (tspanS.H x) (tspanS.R x) := by
  rintro ⟨a, b⟩ _
  refine fun_of (T := []) (L := fun _ => none) (hs := fun _ => []) hmix .nil Try.func17 (by kernel_rfl) (by kernel_rfl) ?_
  refine Eq.mp (α :=
      True ∧ ((Value.int IntKind.i64 a = Value.int IntKind.i64 a ∧ Value.int IntKind.i64 b = Value.int IntKind.i64 b ∧ True) ∧ True) ∧ True ∧ True)
    (by kernel_rfl) ?_
  simp

theorem tspan_sound : Sound Try.prog 17 tspanS.con := FSpec.sound _ (enter_of Try.func17 (by kernel_rfl) (by kernel_rfl)) tspan_ok
abbrev pA : PitT := (2, (300, 320), (10, 12), (4, 6), 4, 5)
abbrev pB : PitT := (8, (500, 520), (5, 6), (3, 5), 9, 11)
def nullS (R : OOut UU) : FSpec UU where
  X := Unit
  pick := fun args _ => match args with
    | [] => some ()
    | _ => none
  args := fun _ => []
  H := fun _ => []
  R := fun _ => R
def groundTS : FSpec UU := nullS (.val ⟨.agg [.i 10, .i 50, .i 2, .gs 0 0], [], [], [.row .pit [pA, pB] 61]⟩)
def TexSpan : Tab UU := [(17, tspanS.con)]
theorem TexSpan_ok : TexSpan.Sound Try.prog := .cons tspan_sound .nil
set_option maxRecDepth 100000 in
theorem groundT_ok : ∀ x, groundTS.pre x → FunOk Try.prog 33 (groundTS.args x) (groundTS.H x) (groundTS.R x) := by
  intro x _
  refine fun_of (T := TexSpan) (L := fun _ => none) (hs := fun _ => []) hmix TexSpan_ok Try.func33 (by kernel_rfl) (by kernel_rfl) ?_
  refine Eq.mp (α :=
      True ∧ (Value.int IntKind.i64 (300 : Int) = Value.int IntKind.i64 (300 : Int) ∧ Value.int IntKind.i64 (320 : Int) = Value.int IntKind.i64 (320 : Int) ∧ True) ∧ True ∧ True ∧ (Value.int IntKind.i64 (10 : Int) = Value.int IntKind.i64 (10 : Int) ∧ Value.int IntKind.i64 (12 : Int) = Value.int IntKind.i64 (12 : Int) ∧ True) ∧ True ∧ True ∧ (Value.int IntKind.i64 (4 : Int) = Value.int IntKind.i64 (4 : Int) ∧ Value.int IntKind.i64 (6 : Int) = Value.int IntKind.i64 (6 : Int) ∧ True) ∧ True ∧ True ∧ (Value.int IntKind.i64 (4 : Int) = Value.int IntKind.i64 (4 : Int) ∧ Value.int IntKind.i64 (5 : Int) = Value.int IntKind.i64 (5 : Int) ∧ True) ∧ True ∧ True ∧ (Value.int IntKind.i64 (500 : Int) = Value.int IntKind.i64 (500 : Int) ∧ Value.int IntKind.i64 (520 : Int) = Value.int IntKind.i64 (520 : Int) ∧ True) ∧ True ∧ True ∧ (Value.int IntKind.i64 (5 : Int) = Value.int IntKind.i64 (5 : Int) ∧ Value.int IntKind.i64 (6 : Int) = Value.int IntKind.i64 (6 : Int) ∧ True) ∧ True ∧ True ∧ (Value.int IntKind.i64 (3 : Int) = Value.int IntKind.i64 (3 : Int) ∧ Value.int IntKind.i64 (5 : Int) = Value.int IntKind.i64 (5 : Int) ∧ True) ∧ True ∧ True ∧ (Value.int IntKind.i64 (9 : Int) = Value.int IntKind.i64 (9 : Int) ∧ Value.int IntKind.i64 (11 : Int) = Value.int IntKind.i64 (11 : Int) ∧ True) ∧ True ∧ (nat_lit 2 = nat_lit 2 ∧ AV.v (Value.int IntKind.i64 (2 : Int)) = AV.v (Value.int IntKind.i64 (2 : Int)) ∧ AV.v (Value.int IntKind.i64 (300 : Int)) = AV.v (Value.int IntKind.i64 (300 : Int)) ∧ AV.v (Value.int IntKind.i64 (320 : Int)) = AV.v (Value.int IntKind.i64 (320 : Int)) ∧ AV.v (Value.int IntKind.i64 (10 : Int)) = AV.v (Value.int IntKind.i64 (10 : Int)) ∧ AV.v (Value.int IntKind.i64 (12 : Int)) = AV.v (Value.int IntKind.i64 (12 : Int)) ∧ AV.v (Value.int IntKind.i64 (4 : Int)) = AV.v (Value.int IntKind.i64 (4 : Int)) ∧ AV.v (Value.int IntKind.i64 (6 : Int)) = AV.v (Value.int IntKind.i64 (6 : Int)) ∧ AV.v (Value.int IntKind.i64 (4 : Int)) = AV.v (Value.int IntKind.i64 (4 : Int)) ∧ AV.v (Value.int IntKind.i64 (5 : Int)) = AV.v (Value.int IntKind.i64 (5 : Int)) ∧ AV.v (Value.int IntKind.i64 (8 : Int)) = AV.v (Value.int IntKind.i64 (8 : Int)) ∧ AV.v (Value.int IntKind.i64 (500 : Int)) = AV.v (Value.int IntKind.i64 (500 : Int)) ∧ AV.v (Value.int IntKind.i64 (520 : Int)) = AV.v (Value.int IntKind.i64 (520 : Int)) ∧ AV.v (Value.int IntKind.i64 (5 : Int)) = AV.v (Value.int IntKind.i64 (5 : Int)) ∧ AV.v (Value.int IntKind.i64 (6 : Int)) = AV.v (Value.int IntKind.i64 (6 : Int)) ∧ AV.v (Value.int IntKind.i64 (3 : Int)) = AV.v (Value.int IntKind.i64 (3 : Int)) ∧ AV.v (Value.int IntKind.i64 (5 : Int)) = AV.v (Value.int IntKind.i64 (5 : Int)) ∧ AV.v (Value.int IntKind.i64 (9 : Int)) = AV.v (Value.int IntKind.i64 (9 : Int)) ∧ AV.v (Value.int IntKind.i64 (11 : Int)) = AV.v (Value.int IntKind.i64 (11 : Int)) ∧ True) ∧ True ∧ ((Value.int IntKind.i64 (10 : Int) = Value.int IntKind.i64 (10 : Int) ∧ Value.int IntKind.i64 (50 : Int) = Value.int IntKind.i64 (50 : Int) ∧ Value.int IntKind.i64 (2 : Int) = Value.int IntKind.i64 (2 : Int) ∧ nat_lit 0 = nat_lit 0 ∧ True) ∧ True) ∧ True ∧ (nat_lit 61 = (61 : TypeId) ∧ [((2 : Int), ((300 : Int), (320 : Int)), ((10 : Int), (12 : Int)), ((4 : Int), (6 : Int)), (4 : Int), (5 : Int)), ((8 : Int), ((500 : Int), (520 : Int)), ((5 : Int), (6 : Int)), ((3 : Int), (5 : Int)), (9 : Int), (11 : Int))] = [((2 : Int), ((300 : Int), (320 : Int)), ((10 : Int), (12 : Int)), ((4 : Int), (6 : Int)), (4 : Int), (5 : Int)), ((8 : Int), ((500 : Int), (520 : Int)), ((5 : Int), (6 : Int)), ((3 : Int), (5 : Int)), (9 : Int), (11 : Int))]) ∧ True)
    (by kernel_rfl) ?_
  simp

theorem groundT_sound : Sound Try.prog 33 groundTS.con := FSpec.sound _ (enter_of Try.func33 (by kernel_rfl) (by kernel_rfl)) groundT_ok
def stepsTM (b : Bool) : List StepT := match b with
  | true => [(4, 6, 0), (0, 0, 2), (5, 5, 0)]
  | false => [(4, 6, 0), (5, 5, 0)]
def plotTS : FSpec UU where
  X := Bool
  pick := fun args _ => match args with
    | [a] => avBool a
    | _ => none
  args := fun b => [.v (.bool b)]
  H := fun _ => []
  R := fun b => .val ⟨.agg [.i 10, .i 50, .i 2, .gs 0 0, .gs 1 0], [], [], [.row .pit [pA, pB] 61, .row .tstep (stepsTM b) 55]⟩
def TexGround : Tab UU := [(33, groundTS.con)]
theorem TexGround_ok : TexGround.Sound Try.prog := .cons groundT_sound .nil
set_option maxRecDepth 100000 in
theorem plotT_ok1 : FunOk Try.prog 9 (plotTS.args true) (plotTS.H true) (plotTS.R true) := by
  refine fun_of (T := TexGround) (L := fun _ => none) (hs := fun _ => []) hmix TexGround_ok Try.func9 (by kernel_rfl) (by kernel_rfl) ?_
  refine Eq.mp (α :=
      True ∧ True ∧ True ∧ (nat_lit 1 = nat_lit 1 ∧ AV.v (Value.int IntKind.i64 (4 : Int)) = AV.v (Value.int IntKind.i64 (4 : Int)) ∧ AV.v (Value.int IntKind.i64 (6 : Int)) = AV.v (Value.int IntKind.i64 (6 : Int)) ∧ AV.v (Value.int IntKind.i64 (0 : Int)) = AV.v (Value.int IntKind.i64 (0 : Int)) ∧ True) ∧ (true = true → (nat_lit 1 = nat_lit 1 ∧ AV.v (Value.int IntKind.i64 (0 : Int)) = AV.v (Value.int IntKind.i64 (0 : Int)) ∧ AV.v (Value.int IntKind.i64 (0 : Int)) = AV.v (Value.int IntKind.i64 (0 : Int)) ∧ AV.v (Value.int IntKind.i64 (2 : Int)) = AV.v (Value.int IntKind.i64 (2 : Int)) ∧ True) ∧ nat_lit 1 ≤ nat_lit 1 ∧ nat_lit 2 ≤ nat_lit 1099511627776 ∧ (nat_lit 1 = nat_lit 1 ∧ AV.v (Value.int IntKind.i64 (5 : Int)) = AV.v (Value.int IntKind.i64 (5 : Int)) ∧ AV.v (Value.int IntKind.i64 (5 : Int)) = AV.v (Value.int IntKind.i64 (5 : Int)) ∧ AV.v (Value.int IntKind.i64 (0 : Int)) = AV.v (Value.int IntKind.i64 (0 : Int)) ∧ True) ∧ nat_lit 1 ≤ nat_lit 1 ∧ nat_lit 3 ≤ nat_lit 1099511627776 ∧ True ∧ ((Value.int IntKind.i64 (10 : Int) = Value.int IntKind.i64 (10 : Int) ∧ Value.int IntKind.i64 (50 : Int) = Value.int IntKind.i64 (50 : Int) ∧ Value.int IntKind.i64 (2 : Int) = Value.int IntKind.i64 (2 : Int) ∧ nat_lit 0 = nat_lit 0 ∧ nat_lit 0 = nat_lit 0 ∧ True) ∧ True) ∧ True ∧ ((61 : TypeId) = (61 : TypeId) ∧ [((2 : Int), ((300 : Int), (320 : Int)), ((10 : Int), (12 : Int)), ((4 : Int), (6 : Int)), (4 : Int), (5 : Int)), ((8 : Int), ((500 : Int), (520 : Int)), ((5 : Int), (6 : Int)), ((3 : Int), (5 : Int)), (9 : Int), (11 : Int))] = [((2 : Int), ((300 : Int), (320 : Int)), ((10 : Int), (12 : Int)), ((4 : Int), (6 : Int)), (4 : Int), (5 : Int)), ((8 : Int), ((500 : Int), (520 : Int)), ((5 : Int), (6 : Int)), ((3 : Int), (5 : Int)), (9 : Int), (11 : Int))]) ∧ (nat_lit 55 = (55 : TypeId) ∧ [((4 : Int), (6 : Int), (0 : Int)), ((0 : Int), (0 : Int), (2 : Int)), ((5 : Int), (5 : Int), (0 : Int))] = stepsTM true) ∧ True) ∧ (true = false → (nat_lit 1 = nat_lit 1 ∧ AV.v (Value.int IntKind.i64 (5 : Int)) = AV.v (Value.int IntKind.i64 (5 : Int)) ∧ AV.v (Value.int IntKind.i64 (5 : Int)) = AV.v (Value.int IntKind.i64 (5 : Int)) ∧ AV.v (Value.int IntKind.i64 (0 : Int)) = AV.v (Value.int IntKind.i64 (0 : Int)) ∧ True) ∧ nat_lit 1 ≤ nat_lit 1 ∧ nat_lit 2 ≤ nat_lit 1099511627776 ∧ True ∧ ((Value.int IntKind.i64 (10 : Int) = Value.int IntKind.i64 (10 : Int) ∧ Value.int IntKind.i64 (50 : Int) = Value.int IntKind.i64 (50 : Int) ∧ Value.int IntKind.i64 (2 : Int) = Value.int IntKind.i64 (2 : Int) ∧ nat_lit 0 = nat_lit 0 ∧ nat_lit 0 = nat_lit 0 ∧ True) ∧ True) ∧ True ∧ ((61 : TypeId) = (61 : TypeId) ∧ [((2 : Int), ((300 : Int), (320 : Int)), ((10 : Int), (12 : Int)), ((4 : Int), (6 : Int)), (4 : Int), (5 : Int)), ((8 : Int), ((500 : Int), (520 : Int)), ((5 : Int), (6 : Int)), ((3 : Int), (5 : Int)), (9 : Int), (11 : Int))] = [((2 : Int), ((300 : Int), (320 : Int)), ((10 : Int), (12 : Int)), ((4 : Int), (6 : Int)), (4 : Int), (5 : Int)), ((8 : Int), ((500 : Int), (520 : Int)), ((5 : Int), (6 : Int)), ((3 : Int), (5 : Int)), (9 : Int), (11 : Int))]) ∧ (nat_lit 55 = (55 : TypeId) ∧ [((4 : Int), (6 : Int), (0 : Int)), ((5 : Int), (5 : Int), (0 : Int))] = stepsTM true) ∧ True))
    (by kernel_rfl) ?_
  simp [stepsTM]

set_option maxRecDepth 100000 in
theorem plotT_ok2 : FunOk Try.prog 9 (plotTS.args false) (plotTS.H false) (plotTS.R false) := by
  refine fun_of (T := TexGround) (L := fun _ => none) (hs := fun _ => []) hmix TexGround_ok Try.func9 (by kernel_rfl) (by kernel_rfl) ?_
  refine Eq.mp (α :=
      True ∧ True ∧ True ∧ (nat_lit 1 = nat_lit 1 ∧ AV.v (Value.int IntKind.i64 (4 : Int)) = AV.v (Value.int IntKind.i64 (4 : Int)) ∧ AV.v (Value.int IntKind.i64 (6 : Int)) = AV.v (Value.int IntKind.i64 (6 : Int)) ∧ AV.v (Value.int IntKind.i64 (0 : Int)) = AV.v (Value.int IntKind.i64 (0 : Int)) ∧ True) ∧ (false = true → (nat_lit 1 = nat_lit 1 ∧ AV.v (Value.int IntKind.i64 (0 : Int)) = AV.v (Value.int IntKind.i64 (0 : Int)) ∧ AV.v (Value.int IntKind.i64 (0 : Int)) = AV.v (Value.int IntKind.i64 (0 : Int)) ∧ AV.v (Value.int IntKind.i64 (2 : Int)) = AV.v (Value.int IntKind.i64 (2 : Int)) ∧ True) ∧ nat_lit 1 ≤ nat_lit 1 ∧ nat_lit 2 ≤ nat_lit 1099511627776 ∧ (nat_lit 1 = nat_lit 1 ∧ AV.v (Value.int IntKind.i64 (5 : Int)) = AV.v (Value.int IntKind.i64 (5 : Int)) ∧ AV.v (Value.int IntKind.i64 (5 : Int)) = AV.v (Value.int IntKind.i64 (5 : Int)) ∧ AV.v (Value.int IntKind.i64 (0 : Int)) = AV.v (Value.int IntKind.i64 (0 : Int)) ∧ True) ∧ nat_lit 1 ≤ nat_lit 1 ∧ nat_lit 3 ≤ nat_lit 1099511627776 ∧ True ∧ ((Value.int IntKind.i64 (10 : Int) = Value.int IntKind.i64 (10 : Int) ∧ Value.int IntKind.i64 (50 : Int) = Value.int IntKind.i64 (50 : Int) ∧ Value.int IntKind.i64 (2 : Int) = Value.int IntKind.i64 (2 : Int) ∧ nat_lit 0 = nat_lit 0 ∧ nat_lit 0 = nat_lit 0 ∧ True) ∧ True) ∧ True ∧ ((61 : TypeId) = (61 : TypeId) ∧ [((2 : Int), ((300 : Int), (320 : Int)), ((10 : Int), (12 : Int)), ((4 : Int), (6 : Int)), (4 : Int), (5 : Int)), ((8 : Int), ((500 : Int), (520 : Int)), ((5 : Int), (6 : Int)), ((3 : Int), (5 : Int)), (9 : Int), (11 : Int))] = [((2 : Int), ((300 : Int), (320 : Int)), ((10 : Int), (12 : Int)), ((4 : Int), (6 : Int)), (4 : Int), (5 : Int)), ((8 : Int), ((500 : Int), (520 : Int)), ((5 : Int), (6 : Int)), ((3 : Int), (5 : Int)), (9 : Int), (11 : Int))]) ∧ (nat_lit 55 = (55 : TypeId) ∧ [((4 : Int), (6 : Int), (0 : Int)), ((0 : Int), (0 : Int), (2 : Int)), ((5 : Int), (5 : Int), (0 : Int))] = stepsTM false) ∧ True) ∧ (false = false → (nat_lit 1 = nat_lit 1 ∧ AV.v (Value.int IntKind.i64 (5 : Int)) = AV.v (Value.int IntKind.i64 (5 : Int)) ∧ AV.v (Value.int IntKind.i64 (5 : Int)) = AV.v (Value.int IntKind.i64 (5 : Int)) ∧ AV.v (Value.int IntKind.i64 (0 : Int)) = AV.v (Value.int IntKind.i64 (0 : Int)) ∧ True) ∧ nat_lit 1 ≤ nat_lit 1 ∧ nat_lit 2 ≤ nat_lit 1099511627776 ∧ True ∧ ((Value.int IntKind.i64 (10 : Int) = Value.int IntKind.i64 (10 : Int) ∧ Value.int IntKind.i64 (50 : Int) = Value.int IntKind.i64 (50 : Int) ∧ Value.int IntKind.i64 (2 : Int) = Value.int IntKind.i64 (2 : Int) ∧ nat_lit 0 = nat_lit 0 ∧ nat_lit 0 = nat_lit 0 ∧ True) ∧ True) ∧ True ∧ ((61 : TypeId) = (61 : TypeId) ∧ [((2 : Int), ((300 : Int), (320 : Int)), ((10 : Int), (12 : Int)), ((4 : Int), (6 : Int)), (4 : Int), (5 : Int)), ((8 : Int), ((500 : Int), (520 : Int)), ((5 : Int), (6 : Int)), ((3 : Int), (5 : Int)), (9 : Int), (11 : Int))] = [((2 : Int), ((300 : Int), (320 : Int)), ((10 : Int), (12 : Int)), ((4 : Int), (6 : Int)), (4 : Int), (5 : Int)), ((8 : Int), ((500 : Int), (520 : Int)), ((5 : Int), (6 : Int)), ((3 : Int), (5 : Int)), (9 : Int), (11 : Int))]) ∧ (nat_lit 55 = (55 : TypeId) ∧ [((4 : Int), (6 : Int), (0 : Int)), ((5 : Int), (5 : Int), (0 : Int))] = stepsTM false) ∧ True))
    (by kernel_rfl) ?_
  simp [stepsTM]

theorem plotT_sound : Sound Try.prog 9 plotTS.con := FSpec.sound _ (enter_of Try.func9 (by kernel_rfl) (by kernel_rfl)) fun x _ => match x with
  | true => plotT_ok1
  | false => plotT_ok2
def otherTS : FSpec UU := nullS (.val ⟨.agg [.i 10, .i 50, .i 2, .gs 0 0, .gs 1 0], [], [], [.row .pit [pA, pB] 61, .row .tstep [(5, 5, 0)] 55]⟩)
set_option maxRecDepth 100000 in
theorem otherT_ok : ∀ x, otherTS.pre x → FunOk Try.prog 15 (otherTS.args x) (otherTS.H x) (otherTS.R x) := by
  intro x _
  refine fun_of (T := TexGround) (L := fun _ => none) (hs := fun _ => []) hmix TexGround_ok Try.func15 (by kernel_rfl) (by kernel_rfl) ?_
  refine Eq.mp (α :=
      True ∧ True ∧ True ∧ (nat_lit 1 = nat_lit 1 ∧ AV.v (Value.int IntKind.i64 (5 : Int)) = AV.v (Value.int IntKind.i64 (5 : Int)) ∧ AV.v (Value.int IntKind.i64 (5 : Int)) = AV.v (Value.int IntKind.i64 (5 : Int)) ∧ AV.v (Value.int IntKind.i64 (0 : Int)) = AV.v (Value.int IntKind.i64 (0 : Int)) ∧ True) ∧ True ∧ ((Value.int IntKind.i64 (10 : Int) = Value.int IntKind.i64 (10 : Int) ∧ Value.int IntKind.i64 (50 : Int) = Value.int IntKind.i64 (50 : Int) ∧ Value.int IntKind.i64 (2 : Int) = Value.int IntKind.i64 (2 : Int) ∧ nat_lit 0 = nat_lit 0 ∧ nat_lit 0 = nat_lit 0 ∧ True) ∧ True) ∧ True ∧ ((61 : TypeId) = (61 : TypeId) ∧ [((2 : Int), ((300 : Int), (320 : Int)), ((10 : Int), (12 : Int)), ((4 : Int), (6 : Int)), (4 : Int), (5 : Int)), ((8 : Int), ((500 : Int), (520 : Int)), ((5 : Int), (6 : Int)), ((3 : Int), (5 : Int)), (9 : Int), (11 : Int))] = [((2 : Int), ((300 : Int), (320 : Int)), ((10 : Int), (12 : Int)), ((4 : Int), (6 : Int)), (4 : Int), (5 : Int)), ((8 : Int), ((500 : Int), (520 : Int)), ((5 : Int), (6 : Int)), ((3 : Int), (5 : Int)), (9 : Int), (11 : Int))]) ∧ (nat_lit 55 = (55 : TypeId) ∧ [((5 : Int), (5 : Int), (0 : Int))] = [((5 : Int), (5 : Int), (0 : Int))]) ∧ True)
    (by kernel_rfl) ?_
  simp

theorem otherT_sound : Sound Try.prog 15 otherTS.con := FSpec.sound _ (enter_of Try.func15 (by kernel_rfl) (by kernel_rfl)) otherT_ok
def horsesTS : FSpec UU := nullS (.val ⟨.agg [.i 100, .i 110, .i 5, .i 6, .i 10, .i 12, .i 120], [], [], []⟩)
def weakTS : FSpec UU := nullS (.val ⟨.agg [.i 90, .i 95, .i 5, .i 6, .i 10, .i 12, .i 120], [], [], []⟩)
set_option maxRecDepth 100000 in
theorem horsesT_ok : ∀ x, horsesTS.pre x → FunOk Try.prog 8 (horsesTS.args x) (horsesTS.H x) (horsesTS.R x) := by
  intro x _
  refine fun_of (T := TexSpan) (L := fun _ => none) (hs := fun _ => []) hmix TexSpan_ok Try.func8 (by kernel_rfl) (by kernel_rfl) ?_
  refine Eq.mp (α :=
      True ∧ (Value.int IntKind.i64 (100 : Int) = Value.int IntKind.i64 (100 : Int) ∧ Value.int IntKind.i64 (110 : Int) = Value.int IntKind.i64 (110 : Int) ∧ True) ∧ True ∧ True ∧ (Value.int IntKind.i64 (5 : Int) = Value.int IntKind.i64 (5 : Int) ∧ Value.int IntKind.i64 (6 : Int) = Value.int IntKind.i64 (6 : Int) ∧ True) ∧ True ∧ True ∧ (Value.int IntKind.i64 (10 : Int) = Value.int IntKind.i64 (10 : Int) ∧ Value.int IntKind.i64 (12 : Int) = Value.int IntKind.i64 (12 : Int) ∧ True) ∧ True ∧ True ∧ ((Value.int IntKind.i64 (100 : Int) = Value.int IntKind.i64 (100 : Int) ∧ Value.int IntKind.i64 (110 : Int) = Value.int IntKind.i64 (110 : Int) ∧ Value.int IntKind.i64 (5 : Int) = Value.int IntKind.i64 (5 : Int) ∧ Value.int IntKind.i64 (6 : Int) = Value.int IntKind.i64 (6 : Int) ∧ Value.int IntKind.i64 (10 : Int) = Value.int IntKind.i64 (10 : Int) ∧ Value.int IntKind.i64 (12 : Int) = Value.int IntKind.i64 (12 : Int) ∧ Value.int IntKind.i64 (120 : Int) = Value.int IntKind.i64 (120 : Int) ∧ True) ∧ True) ∧ True ∧ True)
    (by kernel_rfl) ?_
  simp

theorem horsesT_sound : Sound Try.prog 8 horsesTS.con := FSpec.sound _ (enter_of Try.func8 (by kernel_rfl) (by kernel_rfl)) horsesT_ok
def TexWeak : Tab UU := [(17, tspanS.con), (8, horsesTS.con)]
theorem TexWeak_ok : TexWeak.Sound Try.prog := .cons tspan_sound (.cons horsesT_sound .nil)
set_option maxRecDepth 100000 in
theorem weakT_ok : ∀ x, weakTS.pre x → FunOk Try.prog 13 (weakTS.args x) (weakTS.H x) (weakTS.R x) := by
  intro x _
  refine fun_of (T := TexWeak) (L := fun _ => none) (hs := fun _ => []) hmix TexWeak_ok Try.func13 (by kernel_rfl) (by kernel_rfl) ?_
  refine Eq.mp (α :=
      True ∧ True ∧ True ∧ True ∧ (Value.int IntKind.i64 (90 : Int) = Value.int IntKind.i64 (90 : Int) ∧ Value.int IntKind.i64 (95 : Int) = Value.int IntKind.i64 (95 : Int) ∧ True) ∧ True ∧ True ∧ ((Value.int IntKind.i64 (90 : Int) = Value.int IntKind.i64 (90 : Int) ∧ Value.int IntKind.i64 (95 : Int) = Value.int IntKind.i64 (95 : Int) ∧ Value.int IntKind.i64 (5 : Int) = Value.int IntKind.i64 (5 : Int) ∧ Value.int IntKind.i64 (6 : Int) = Value.int IntKind.i64 (6 : Int) ∧ Value.int IntKind.i64 (10 : Int) = Value.int IntKind.i64 (10 : Int) ∧ Value.int IntKind.i64 (12 : Int) = Value.int IntKind.i64 (12 : Int) ∧ Value.int IntKind.i64 (120 : Int) = Value.int IntKind.i64 (120 : Int) ∧ True) ∧ True) ∧ True ∧ True)
    (by kernel_rfl) ?_
  simp

theorem weakT_sound : Sound Try.prog 13 weakTS.con := FSpec.sound _ (enter_of Try.func13 (by kernel_rfl) (by kernel_rfl)) weakT_ok
def sameM (a b : List Int) : Bool := decide (a = b)
def intsL (a b : List Int) : LSpec UU where
  T := { i : Nat // i ≤ a.length ∧ ∀ j, j < i → a.getD j 0 = b.getD j 0 }
  fr := fun i => [(0, .sl 0 0 0 a.length), (1, .sl 1 0 0 b.length), (4, .b false), (5, .i i.1)]
  H := fun _ => [.one (.ro .int a), .one (.ro .int b)]
  mu := fun i => a.length - i.1
def intsS : FSpec UU where
  X := List Int × List Int
  pick := fun args H => match args with
    | [a, b] => match sliceAt .int H a, sliceAt .int H b with
      | some a, some b => some (a, b)
      | _, _ => none
    | _ => none
  args := fun x => [.sl 0 0 0 x.1.length, .sl 1 0 0 x.2.length]
  H := fun x => [.one (.ro .int x.1), .one (.ro .int x.2)]
  R := fun x => .val ⟨.b (sameM x.1 x.2), [], [], []⟩
  pre := fun x => x.1.length < 1000000
set_option maxRecDepth 100000 in
theorem ints_ok : ∀ x, intsS.pre x → FunOk Try.prog 27 (intsS.args x) (intsS.H x) (intsS.R x) := by
  rintro ⟨a, b⟩ hx
  refine fun_of (T := []) (L := fun _ => some (.inv (intsL a b))) (hs := fun _ => []) hmix .nil Try.func27 (by kernel_rfl) (by kernel_rfl) ?_
  refine Eq.mp (α :=
      (((↑(List.length a) : Int) != (↑(List.length b) : Int)) = true → True ∧ (Value.bool (sameM a b) = Value.bool false ∧ True) ∧ True ∧ a = a ∧ b = b ∧ True) ∧ (((↑(List.length a) : Int) != (↑(List.length b) : Int)) = false → (∃ (x : { i : Nat // i ≤ List.length a ∧ ∀ (j : Nat), j < i → List.getD a j (0 : Int) = List.getD b j (0 : Int) }), ((nat_lit 0 = nat_lit 0 ∧ nat_lit 0 = nat_lit 0 ∧ List.length a = List.length a) ∧ (nat_lit 0 = nat_lit 0 ∧ nat_lit 0 = nat_lit 0 ∧ List.length b = List.length b) ∧ Value.bool false = Value.bool false ∧ Value.int IntKind.i64 (0 : Int) = Value.int IntKind.i64 (↑(Subtype.val x) : Int) ∧ True) ∧ True ∧ a = a ∧ b = b ∧ True) ∧ ∀ (t : { i : Nat // i ≤ List.length a ∧ ∀ (j : Nat), j < i → List.getD a j (0 : Int) = List.getD b j (0 : Int) }), (decide ((↑(Subtype.val t) : Int) < (↑(List.length a) : Int)) = true → ((0 : Int) ≤ (↑(Subtype.val t) : Int) ∧ (↑(Subtype.val t) : Int) < (↑(List.length a) : Int)) ∧ nat_lit 0 + Int.toNat (↑(Subtype.val t) : Int) < List.length a ∧ ((0 : Int) ≤ (↑(Subtype.val t) : Int) ∧ (↑(Subtype.val t) : Int) < (↑(List.length b) : Int)) ∧ nat_lit 0 + Int.toNat (↑(Subtype.val t) : Int) < List.length b ∧ ((List.getD a (nat_lit 0 + Int.toNat (↑(Subtype.val t) : Int)) (0 : Int) != List.getD b (nat_lit 0 + Int.toNat (↑(Subtype.val t) : Int)) (0 : Int)) = true → True ∧ (Value.bool (sameM a b) = Value.bool false ∧ True) ∧ True ∧ a = a ∧ b = b ∧ True) ∧ ((List.getD a (nat_lit 0 + Int.toNat (↑(Subtype.val t) : Int)) (0 : Int) != List.getD b (nat_lit 0 + Int.toNat (↑(Subtype.val t) : Int)) (0 : Int)) = false → True ∧ ∃ (x : { i : Nat // i ≤ List.length a ∧ ∀ (j : Nat), j < i → List.getD a j (0 : Int) = List.getD b j (0 : Int) }), (((nat_lit 0 = nat_lit 0 ∧ nat_lit 0 = nat_lit 0 ∧ List.length a = List.length a) ∧ (nat_lit 0 = nat_lit 0 ∧ nat_lit 0 = nat_lit 0 ∧ List.length b = List.length b) ∧ Value.bool false = Value.bool false ∧ Value.int IntKind.i64 (IntKind.wrap IntKind.i64 ((↑(Subtype.val t) : Int) + (1 : Int))) = Value.int IntKind.i64 (↑(Subtype.val x) : Int) ∧ True) ∧ True ∧ a = a ∧ b = b ∧ True) ∧ List.length a - Subtype.val x < List.length a - Subtype.val t)) ∧ (decide ((↑(Subtype.val t) : Int) < (↑(List.length a) : Int)) = false → True ∧ (Value.bool (sameM a b) = Value.bool true ∧ True) ∧ True ∧ a = a ∧ b = b ∧ True)))
    (by kernel_rfl) ?_
  simp only [eq_self, true_and, and_true, Int.toNat_natCast, Nat.zero_add, Nat.sub_zero, Value.int.injEq, Value.bool.injEq, decide_eq_true_eq, decide_eq_false_iff_not]
  have hx' : a.length < 1000000 := hx
  refine ⟨fun h => ?_, fun h => ⟨⟨⟨0, Nat.zero_le _, fun j hj => absurd hj (Nat.not_lt_zero j)⟩, rfl⟩, fun t => ⟨fun ht => ?_, fun ht => ?_⟩⟩⟩
  · have h' : ¬ (a.length : Int) = (b.length : Int) := by simpa [bne] using h
    exact decide_eq_false fun e => h' (by rw [e])
  · obtain ⟨i, hi, h0⟩ := t
    have hlt : i < a.length := by have h1 : (i : Int) < (a.length : Int) := ht; omega
    have hl : (a.length : Int) = (b.length : Int) := by simpa [bne] using h
    refine ⟨⟨Int.natCast_nonneg _, ht⟩, hlt, ⟨Int.natCast_nonneg _, by rw [← hl]; exact ht⟩, by show i < b.length; omega, fun hd => ?_, fun hd => ?_⟩
    · have hd' : ¬ a.getD i 0 = b.getD i 0 := by simpa [bne] using hd
      exact decide_eq_false fun e => hd' (by rw [e])
    · have hd' : a.getD i 0 = b.getD i 0 := by simpa [bne] using hd
      exact ⟨⟨i + 1, hlt, below_succ h0 hd'⟩, sucI i (by omega), dec1 hlt⟩
  · obtain ⟨i, hi, h0⟩ := t
    have hie : i = a.length := by have h1 : ¬ (i : Int) < (a.length : Int) := ht; omega
    have hl : (a.length : Int) = (b.length : Int) := by simpa [bne] using h
    refine decide_eq_true (List.ext_getElem (by omega) fun j h1 h2 => ?_)
    have := h0 j (by omega)
    simpa [List.getD_eq_getElem?_getD, h1, h2] using this

theorem ints_sound : Sound Try.prog 27 intsS.con := FSpec.sound _ (enter_of Try.func27 (by kernel_rfl) (by kernel_rfl)) ints_ok
end AE.Team

namespace AE.Team
open Go AE Go.Proofs AE.Soil

theorem v1 : comesM ((90, 95), (5, 6), (10, 12), 120) ⟨⟨10, 50, 2, [pA, pB]⟩, [(4, 6, 0), (0, 0, 2), (5, 5, 0)]⟩ = (1, 0) := by decide +kernel
theorem v2 : leftM ((100, 110), (5, 6), (10, 12), 120) ⟨⟨10, 50, 2, [pA, pB]⟩, [(4, 6, 0), (0, 0, 2), (5, 5, 0)]⟩ 3 = ((6, 63), 0) := by decide +kernel
theorem v3 : failsM ((90, 95), (5, 6), (10, 12), 120) ⟨⟨10, 50, 2, [pA, pB]⟩, [(4, 6, 0), (0, 0, 2), (5, 5, 0)]⟩ = (2, false, 0) := by decide +kernel
theorem v4 : restsM ((100, 110), (5, 6), (10, 12), 120) ⟨⟨10, 50, 2, [pA, pB]⟩, [(4, 6, 0), (5, 5, 0)]⟩ = ([0, 2], 0) := by decide +kernel
theorem v5 : leastM ((100, 110), (5, 6), (10, 12), 120) ⟨⟨10, 50, 2, [pA, pB]⟩, [(4, 6, 0), (0, 0, 2), (5, 5, 0)]⟩ = (94, 0) := by decide +kernel
theorem v6 : sendOM [((90, 95), (5, 6), (10, 12), 120), ((100, 110), (5, 6), (10, 12), 120)] (⟨⟨10, 50, 2, [pA, pB]⟩, [(4, 6, 0), (0, 0, 2), (5, 5, 0)]⟩, some ⟨⟨10, 50, 2, [pA, pB]⟩, [(5, 5, 0)]⟩) = ([1, 0], 0) := by decide +kernel
theorem v7 : shortM [((90, 95), (5, 6), (10, 12), 120)] (⟨⟨10, 50, 2, [pA, pB]⟩, [(5, 5, 0)]⟩, some ⟨⟨10, 50, 2, [pA, pB]⟩, [(4, 6, 0), (0, 0, 2), (5, 5, 0)]⟩) = (2, 0) := by decide +kernel
theorem w1 : comesM ((100, 110), (5, 6), (10, 12), 120) ⟨⟨10, 50, 2, [pA, pB]⟩, [(4, 6, 0), (0, 0, 2), (5, 5, 0)]⟩ = (2, 0) := by decide +kernel
theorem w2 : leftM ((100, 110), (5, 6), (10, 12), 120) ⟨⟨10, 50, 2, [pA, pB]⟩, [(4, 6, 0), (0, 0, 2), (5, 5, 0)]⟩ 0 = ((100, 110), 0) := by decide +kernel
theorem w3 : leftM ((100, 110), (5, 6), (10, 12), 120) ⟨⟨10, 50, 2, [pA, pB]⟩, [(4, 6, 0), (0, 0, 2), (5, 5, 0)]⟩ 1 = ((15, 57), 0) := by decide +kernel
theorem w4 : leftM ((100, 110), (5, 6), (10, 12), 120) ⟨⟨10, 50, 2, [pA, pB]⟩, [(4, 6, 0), (0, 0, 2), (5, 5, 0)]⟩ 2 = ((35, 81), 0) := by decide +kernel
def aliveS : FSpec UU := nullS (.val ⟨.b true, [], [], []⟩)
def Talive : Tab UU := [(13, weakTS.con), (8, horsesTS.con), (9, plotTS.con), (15, otherTS.con), (17, tspanS.con), (27, intsS.con), (7, comesS.con), (10, leftS.con), (11, failsS.con), (24, restsS.con), (19, leastS.con), (12, sendOS.con), (14, shortS.con)]
theorem Talive_ok : Talive.Sound Try.prog := .cons weakT_sound (.cons horsesT_sound (.cons plotT_sound (.cons otherT_sound (.cons tspan_sound (.cons ints_sound (.cons comes_sound (.cons left_sound (.cons fails_sound (.cons rests_sound (.cons least_sound (.cons sendO_sound (.cons short_sound .nil))))))))))))
set_option maxHeartbeats 0 in
set_option maxRecDepth 100000 in
theorem alive_ok : ∀ x, aliveS.pre x → FunOk Try.prog 16 (aliveS.args x) (aliveS.H x) (aliveS.R x) := by
  intro x _
  refine fun_of (T := Talive) (L := fun _ => none) (hs := fun _ => []) hmix Talive_ok Try.func16 (by kernel_rfl) (by kernel_rfl) ?_
  refine Eq.mp (α :=
      let Z0 := nat_lit 0 = nat_lit 0 ∧ nat_lit 0 = nat_lit 0 ∧ nat_lit 2 = nat_lit 2; let Z1 := nat_lit 0 = nat_lit 0 ∧ nat_lit 0 = nat_lit 0 ∧ nat_lit 3 = nat_lit 3; let Z2 := nat_lit 0 = nat_lit 0 ∧ nat_lit 0 = nat_lit 0 ∧ nat_lit 1 = nat_lit 1; let Z3 := Value.int IntKind.i64 (2 : Int); let Z4 := Value.int IntKind.i64 (5 : Int); let Z5 := Value.int IntKind.i64 (6 : Int); let Z6 := Value.int IntKind.i64 (3 : Int); let Z7 := Value.int IntKind.i64 (0 : Int); let Z8 := Value.int IntKind.i64 (1 : Int); let Z9 := Value.int IntKind.i64 (90 : Int); let Z10 := Value.int IntKind.i64 (10 : Int); let Z11 := Value.int IntKind.i64 (12 : Int); let Z12 := Value.int IntKind.i64 (50 : Int); let Z13 := Value.int IntKind.i64 (63 : Int); let Z14 := Value.int IntKind.i64 (95 : Int); let Z15 := Value.int IntKind.i64 (100 : Int); let Z16 := Value.int IntKind.i64 (120 : Int); let Z17 := Value.int IntKind.i64 (110 : Int); let Z18 := AV.v Z5; let Z19 := AV.v Z3; let Z20 := AV.v Z7; let Z21 := AV.v Z8; let Z22 := AV.v Z4; let Z23 := AV.v Z9; let Z24 := AV.v Z10; let Z25 := AV.v Z11; let Z26 := AV.v Z12; let Z27 := AV.v Z14; let Z28 := (↑(1 : Nat) : Int); let Z29 := (↑(0 : Nat) : Int); let Z30 := Value.bool true = Value.bool true ∧ True; let Z31 := AV.v Z17; let Z32 := AV.v Z15; let Z33 := AV.v Z16; let Z34 := Value.bool true = Value.bool false ∧ True; let Z35 := nat_lit 2 < nat_lit 1000000 ∧ nat_lit 1 < nat_lit 1000000; let Z36 := nat_lit 2 < nat_lit 1000000 ∧ nat_lit 3 < nat_lit 1000000; let Z37 := nat_lit 9 = nat_lit 9 ∧ Z0; let Z38 := nat_lit 13 = nat_lit 13 ∧ Z0; let Z39 := nat_lit 15 = nat_lit 15 ∧ Z0; let Z40 := nat_lit 16 = nat_lit 16 ∧ Z2; let Z41 := nat_lit 14 = nat_lit 14 ∧ Z1; let Z42 := Z41 ∧ True; let Z43 := Z40 ∧ True; let Z44 := ((6 : Int), (0 : Int)); let Z45 := ((4 : Int), (6 : Int)); let Z46 := ((5 : Int), (0 : Int)); let Z47 := ((4 : Int), (5 : Int)); let Z48 := ((0 : Int), (2 : Int)); let Z49 := ((5 : Int), (6 : Int)); let Z50 := ((3 : Int), (5 : Int)); let Z51 := (12 : Nat) = (12 : Nat); let Z52 := (17 : Nat) = (17 : Nat); let Z53 := (25 : Nat) = (25 : Nat); let Z54 := (24 : Nat) = (24 : Nat); let Z55 := ((9 : Int), (11 : Int)); let Z56 := ((90 : Int), (95 : Int)); let Z57 := ((10 : Int), (12 : Int)); let Z58 := Z34 ∧ True ∧ True; let Z59 := ((300 : Int), (320 : Int)); let Z60 := ((500 : Int), (520 : Int)); let Z61 := ((100 : Int), (110 : Int)); let Z62 : List Int := [Z29]; let Z63 := True ∧ Z58; let Z64 : List Int := [(0 : Int)]; let Z65 : List Int := [(2 : Int)]; let Z66 := Z4 = Z4; let Z67 := Z5 = Z5; let Z68 := Z3 = Z3; let Z69 := (0 : Int) == (0 : Int); let Z70 := Z13 = Z13; let Z71 := Z12 = Z12; let Z72 := Z9 = Z9; let Z73 := Z10 = Z10; let Z74 := Z11 = Z11; let Z75 := Z14 = Z14; let Z76 := Z15 = Z15; let Z77 := Z17 = Z17; let Z78 := Z16 = Z16; let Z79 := Z19 = Z19; let Z80 := Z21 = Z21; let Z81 := Z22 = Z22; let Z82 := Z20 = Z20; let Z83 := Z18 = Z18; let Z84 := Z26 = Z26; let Z85 := Z27 = Z27; let Z86 := Z23 = Z23; let Z87 := Z70 ∧ True; let Z88 := Z24 = Z24; let Z89 := Z25 = Z25; let Z90 := Z53 ∧ Z0; let Z91 := Z54 ∧ Z0; let Z92 := Z51 ∧ Z0; let Z93 := Z52 ∧ Z0; let Z94 := Z78 ∧ True; let Z95 := Z35 ∧ Z36; let Z96 := Z33 = Z33; let Z97 := Z79 ∧ True; let Z98 := Z82 ∧ True; let Z99 := ((5 : Int), Z46); let Z100 := ((0 : Int), Z48); let Z101 := ((4 : Int), Z44); let Z102 := (Z57, (120 : Int)); let Z103 := Z90 ∧ True; let Z104 := Z93 ∧ True; let Z105 := Z91 ∧ True; let Z106 := Z96 ∧ True; let Z107 := Z39 ∧ Z43; let Z108 := Z38 ∧ Z42; let Z109 : List Int := (1 : Int) :: Z64; let Z110 : List Int := (0 : Int) :: Z65; let Z111 : List Int := Z28 :: Z62; let Z112 := nat_lit 1 < nat_lit 1000000 ∧ Z95; let Z113 : List StepT := [Z99]; let Z114 := (Z45, Z47); let Z115 := (Z50, Z55); let Z116 := sameM [] Z109; let Z117 : List (Int × Int × Int) := [Z99]; let Z118 := Z67 ∧ Z87; let Z119 := (Z49, Z102); let Z120 := Z74 ∧ Z94; let Z121 := Z82 ∧ Z97; let Z122 := Z80 ∧ Z98; let Z123 := Z68 ∧ Z107; let Z124 := Z68 ∧ Z108; let Z125 := Z92 ∧ Z104; let Z126 := Z89 ∧ Z106; let Z127 := nat_lit 2 = nat_lit 2 ∧ Z121; let Z128 := nat_lit 2 = nat_lit 2 ∧ Z122; let Z129 := (Z49, Z115); let Z130 := (Z57, Z114); let Z131 : List StepT := Z101 :: Z113; let Z132 : List StepT := Z100 :: Z113; let Z133 := sameM Z111 Z109; let Z134 := Z109 = Z109; let Z135 := Z110 = Z110; let Z136 := Z134 ∧ True; let Z137 := Z135 ∧ True; let Z138 := Z73 ∧ Z120; let Z139 := (Z56, Z119); let Z140 := Z71 ∧ Z123; let Z141 := (Z61, Z119); let Z142 := Z71 ∧ Z124; let Z143 := worstM Z141; let Z144 := Z88 ∧ Z126; let Z145 := Z117 = Z117; let Z146 := (Z60, Z129); let Z147 := (Z59, Z130); let Z148 := Z145 ∧ True; let Z149 := Prod.fst Z143; let Z150 : List (Span × Span × Span × Int) := [Z139]; let Z151 : List (Span × Span × Span × Int) := [Z141]; let Z152 : List StepT := Z101 :: Z132; let Z153 := Z67 ∧ Z138; let Z154 := Z73 ∧ Z142; let Z155 := Z73 ∧ Z140; let Z156 := Z155 ∧ True; let Z157 := Z83 ∧ Z144; let Z158 := ((8 : Int), Z146); let Z159 := ((2 : Int), Z147); let Z160 : List (Int × Span × Span × Span × Span) := [Z158]; let Z161 := Z66 ∧ Z153; let Z162 := Z81 ∧ Z157; let Z163 := Z75 ∧ Z161; let Z164 := Z77 ∧ Z161; let Z165 := Z85 ∧ Z162; let Z166 := Z72 ∧ Z163; let Z167 := Z76 ∧ Z164; let Z168 : List (Span × Span × Span × Int) := Z139 :: Z151; let Z169 := Z150 = Z150; let Z170 := Z86 ∧ Z165; let Z171 := nat_lit 1 = nat_lit 1 ∧ Z170; let Z172 := Z152 = Z152; let Z173 := Z172 ∧ True; let Z174 := Z154 ∧ Z156; let Z175 : List (Int × Span × Span × Span × Span) := Z159 :: Z160; let Z176 := GroundT.mk (10 : Int) (50 : Int) (2 : Int) Z175; let Z177 := PlotT.mk Z176 Z117; let Z178 : Option PlotT := some Z177; let Z179 := PlotT.mk Z176 Z131; let Z180 : List Span := worksM Z179; let Z181 := Z168 = Z168; let Z182 := PlotT.mk Z176 Z152; let Z183 : Option PlotT := some Z182; let Z184 := restsM Z141 Z179; let Z185 := Prod.snd Z184; let Z186 := Z185 == (0 : Int); let Z187 := Z186 = true; let Z188 := Z186 = false; let Z189 := failsM Z139 Z182; let Z190 := comesM Z139 Z182; let Z191 := leastM Z141 Z182; let Z192 := Prod.fst Z190; let Z193 := Prod.snd Z190; let Z194 := Prod.snd Z191; let Z195 := Prod.fst Z191; let Z196 := Prod.snd Z189; let Z197 := Prod.fst Z189; let Z198 := leftM Z141 Z182 (3 : Int); let Z199 := Prod.snd Z196; let Z200 := Prod.fst Z196; let Z201 := Prod.snd Z198; let Z202 := Prod.fst Z198; let Z203 := !Z200; let Z204 := Z188 → Z63; let Z205 := Prod.snd Z202; let Z206 := Prod.fst Z202; let Z207 := Z203 = true; let Z208 := Z203 = false; let Z209 := Z192 == (1 : Int); let Z210 := Z193 == (0 : Int); let Z211 := Z194 == (0 : Int); let Z212 := Z195 == (94 : Int); let Z213 := Z197 == (2 : Int); let Z214 := Z209 = true; let Z215 := Z210 = true; let Z216 := Z209 = false; let Z217 := Z210 = false; let Z218 := Z211 = true; let Z219 := Z211 = false; let Z220 := Z212 = true; let Z221 := Z212 = false; let Z222 := Z213 = true; let Z223 := Z199 == (0 : Int); let Z224 := Z213 = false; let Z225 := Z201 == (0 : Int); let Z226 := Z223 = true; let Z227 := Z223 = false; let Z228 := Z206 == (6 : Int); let Z229 := Z225 = true; let Z230 := Z205 == (63 : Int); let Z231 := Z225 = false; let Z232 := Z208 → Z63; let Z233 := Z230 && true; let Z234 := Z217 → Z63; let Z235 := Z216 → Z63; let Z236 := Z175 = Z175; let Z237 := Z219 → Z63; let Z238 := Z221 → Z63; let Z239 := Z224 → Z63; let Z240 := Z227 → Z63; let Z241 := Z231 → Z63; let Z242 := Z236 ∧ Z148; let Z243 := tryM Z131 Z180 Z143 (0 : Nat) Z149; let Z244 := trialM Z131 Z180 Z143 (0 : Nat) Z149; let Z245 := Prod.fst Z243; let Z246 := (Z177, Z183); let Z247 := (Z182, Z178); let Z248 := Z236 ∧ Z173; let Z249 := restM Z143 Z245 Z149; let Z250 := shortM Z150 Z246; let Z251 := Prod.snd Z250; let Z252 := Prod.fst Z250; let Z253 := Z145 ∧ Z248; let Z254 := Z172 ∧ Z242; let Z255 := Z251 == (0 : Int); let Z256 := Z252 == (2 : Int); let Z257 := Value.bool Z255; let Z258 := Z256 = true; let Z259 := Z256 = false; let Z260 := Z257 = Value.bool true; let Z261 := Z260 ∧ True; let Z262 := Z261 ∧ True ∧ True; let Z263 := True ∧ Z262; let Z264 := Z259 → Z63; let Z265 := sendOM Z168 Z247; let Z266 := Prod.snd Z265; let Z267 := Z266 == (0 : Int); let Z268 := Z228 && Z233; let Z269 := Z268 = true; let Z270 := Z268 = false; let Z271 := Z270 → Z63; let Z272 := Z236 ∧ Z254; let Z273 := Z236 ∧ Z253; let Z274 := stepM Z244 Z249; let Z275 := Z174 ∧ Z272; let Z276 := Z258 → Z263; let Z277 := tryM Z131 Z180 Z143 (1 : Nat) Z274; let Z278 := Prod.fst Z277; let Z279 : List Int := [Z278]; let Z280 := Z181 ∧ Z275; let Z281 := Z276 ∧ Z264; let Z282 : List Int := Z245 :: Z279; let Z283 := sameM Z282 Z110; let Z285 := Z283 = false; let Z287 := Z282 = Z282; True ∧ True ∧ True ∧ True ∧ Z30 ∧ True ∧ Z36 ∧ (Z166 ∧ (Z73 ∧ Z71 ∧ Z68 ∧ (nat_lit 0 = nat_lit 0 ∧ Z0) ∧ (nat_lit 1 = nat_lit 1 ∧ Z1) ∧ True) ∧ True) ∧ Z248 ∧ True ∧ True ∧ True ∧ True ∧ Z30 ∧ True ∧ Z36 ∧ (Z167 ∧ (Z73 ∧ Z71 ∧ Z68 ∧ (nat_lit 2 = nat_lit 2 ∧ Z0) ∧ (nat_lit 3 = nat_lit 3 ∧ Z1) ∧ True) ∧ Z6 = Z6 ∧ True) ∧ Z248 ∧ True ∧ True ∧ True ∧ True ∧ Z30 ∧ True ∧ Z36 ∧ (Z166 ∧ (Z73 ∧ Z71 ∧ Z68 ∧ (nat_lit 5 = nat_lit 5 ∧ Z0) ∧ (nat_lit 6 = nat_lit 6 ∧ Z1) ∧ True) ∧ True) ∧ Z248 ∧ True ∧ True ∧ True ∧ True ∧ (Value.bool false = Value.bool false ∧ True) ∧ True ∧ (nat_lit 2 < nat_lit 1000000 ∧ nat_lit 2 < nat_lit 1000000) ∧ (Z167 ∧ (Z73 ∧ Z71 ∧ Z68 ∧ (nat_lit 7 = nat_lit 7 ∧ Z0) ∧ (nat_lit 8 = nat_lit 8 ∧ Z0) ∧ True) ∧ True) ∧ (Z236 ∧ Z131 = Z131 ∧ True) ∧ True ∧ True ∧ True ∧ True ∧ Z30 ∧ True ∧ Z36 ∧ (Z167 ∧ (Z73 ∧ Z71 ∧ Z68 ∧ (nat_lit 10 = nat_lit 10 ∧ Z0) ∧ (nat_lit 11 = nat_lit 11 ∧ Z1) ∧ True) ∧ True) ∧ Z248 ∧ True ∧ True ∧ True ∧ True ∧ True ∧ True ∧ (nat_lit 2 = nat_lit 2 ∧ Z86 ∧ Z85 ∧ Z81 ∧ Z83 ∧ Z88 ∧ Z89 ∧ Z96 ∧ Z32 = Z32 ∧ Z31 = Z31 ∧ Z162) ∧ True ∧ Z30 ∧ True ∧ True ∧ True ∧ True ∧ (nat_lit 2 = nat_lit 2 ∧ Z88 ∧ Z84 ∧ Z79 ∧ AV.gs (nat_lit 13) (nat_lit 0) = AV.gs (nat_lit 13) (nat_lit 0) ∧ AV.gs (nat_lit 14) (nat_lit 0) = AV.gs (nat_lit 14) (nat_lit 0) ∧ Z88 ∧ Z84 ∧ Z79 ∧ AV.gs (nat_lit 15) (nat_lit 0) = AV.gs (nat_lit 15) (nat_lit 0) ∧ AV.gs (nat_lit 16) (nat_lit 0) = AV.gs (nat_lit 16) (nat_lit 0) ∧ True) ∧ (nat_lit 2 < nat_lit 1000000 ∧ Z36 ∧ Z35) ∧ (true = true → Z125 ∧ Z280 ∧ True ∧ True ∧ True ∧ Z171 ∧ True ∧ True ∧ True ∧ True ∧ Z30 ∧ True ∧ (nat_lit 2 = nat_lit 2 ∧ Z88 ∧ Z84 ∧ Z79 ∧ AV.gs (nat_lit 20) (nat_lit 0) = AV.gs (nat_lit 20) (nat_lit 0) ∧ AV.gs (nat_lit 21) (nat_lit 0) = AV.gs (nat_lit 21) (nat_lit 0) ∧ Z88 ∧ Z84 ∧ Z79 ∧ AV.gs (nat_lit 22) (nat_lit 0) = AV.gs (nat_lit 22) (nat_lit 0) ∧ AV.gs (nat_lit 23) (nat_lit 0) = AV.gs (nat_lit 23) (nat_lit 0) ∧ True) ∧ Z112 ∧ (((19 : Nat) = (19 : Nat) ∧ Z2) ∧ Z105) ∧ (Z169 ∧ ((Z73 ∧ Z71 ∧ Z68 ∧ (nat_lit 20 = nat_lit 20 ∧ Z0) ∧ (nat_lit 21 = nat_lit 21 ∧ Z2) ∧ True) ∧ (Z73 ∧ Z71 ∧ Z68 ∧ (nat_lit 22 = nat_lit 22 ∧ Z0) ∧ (nat_lit 23 = nat_lit 23 ∧ Z1) ∧ True) ∧ True) ∧ Z273) ∧ (Z214 → (Z215 → True ∧ Z118 ∧ True ∧ (Z269 → (Z229 → (Z222 → (Z207 → (Z226 → Z127 ∧ nat_lit 2 < nat_lit 1000000 ∧ (Z37 ∧ Z103) ∧ (Z287 ∧ Z137) ∧ (Z283 = true → (Z187 → (Z220 → (Z218 → Z128 ∧ nat_lit 2 < nat_lit 1000000 ∧ ((nat_lit 18 = nat_lit 18 ∧ Z0) ∧ ((26 : Nat) = (26 : Nat) ∧ Z0) ∧ True) ∧ (Z111 = Z111 ∧ Z136) ∧ (Z133 = true → (Z69 = true → Z281) ∧ (Z69 = false → Z63)) ∧ (Z133 = false → Z63)) ∧ Z237) ∧ Z238) ∧ Z204) ∧ (Z285 → Z63)) ∧ Z240) ∧ Z232) ∧ Z239) ∧ Z241) ∧ Z271) ∧ Z234) ∧ Z235) ∧ (true = false → Z125 ∧ Z280 ∧ True ∧ True ∧ True ∧ Z171 ∧ True ∧ True ∧ True ∧ True ∧ Z30 ∧ True ∧ (nat_lit 2 = nat_lit 2 ∧ Z88 ∧ Z84 ∧ Z79 ∧ AV.gs (nat_lit 19) (nat_lit 0) = AV.gs (nat_lit 19) (nat_lit 0) ∧ AV.gs (nat_lit 20) (nat_lit 0) = AV.gs (nat_lit 20) (nat_lit 0) ∧ Z88 ∧ Z84 ∧ Z79 ∧ AV.gs (nat_lit 21) (nat_lit 0) = AV.gs (nat_lit 21) (nat_lit 0) ∧ AV.gs (nat_lit 22) (nat_lit 0) = AV.gs (nat_lit 22) (nat_lit 0) ∧ True) ∧ Z112 ∧ (((18 : Nat) = (18 : Nat) ∧ Z2) ∧ ((23 : Nat) = (23 : Nat) ∧ Z0) ∧ True) ∧ (Z169 ∧ ((Z73 ∧ Z71 ∧ Z68 ∧ (nat_lit 19 = nat_lit 19 ∧ Z0) ∧ (nat_lit 20 = nat_lit 20 ∧ Z2) ∧ True) ∧ (Z73 ∧ Z71 ∧ Z68 ∧ (nat_lit 21 = nat_lit 21 ∧ Z0) ∧ (nat_lit 22 = nat_lit 22 ∧ Z1) ∧ True) ∧ True) ∧ Z273) ∧ (Z214 → (Z215 → True ∧ Z118 ∧ True ∧ (Z269 → (Z229 → (Z222 → (Z207 → (Z226 → Z127 ∧ nat_lit 2 < nat_lit 1000000 ∧ (Z37 ∧ Z105) ∧ (Z287 ∧ Z137) ∧ (Z283 = true → (Z187 → (Z220 → (Z218 → Z128 ∧ nat_lit 0 < nat_lit 1000000 ∧ (nat_lit 0 = nat_lit 0 ∧ True ∧ True) ∧ (([] : List Int) = [] ∧ True ∧ True) ∧ (nat_lit 0 = nat_lit 0 ∧ Z103) ∧ (True ∧ Z136) ∧ (Z116 = true → (Z267 = true → Z281) ∧ (Z267 = false → Z63)) ∧ (Z116 = false → Z63)) ∧ Z237) ∧ Z238) ∧ Z204) ∧ (Z285 → Z63)) ∧ Z240) ∧ Z232) ∧ Z239) ∧ Z241) ∧ Z271) ∧ Z234) ∧ Z235))
    (by kernel_rfl) ?_
  simp only [eq_self, true_and, and_true, Int.toNat_natCast, Nat.zero_add, Nat.sub_zero, Value.int.injEq, Value.bool.injEq, decide_eq_true_eq, decide_eq_false_iff_not]
  simp only [v1, v2, v3, v5, v7, Nat.reduceLT, Int.reduceBEq, beq_self_eq_true, Bool.and_self, Bool.not_false, forall_const, true_and, and_true]
  simp only [v4, v6, Bool.true_eq_false, Bool.false_eq_true, beq_self_eq_true, forall_const, imp_false, imp_self, and_self, and_true, true_and, implies_true, false_implies, not_true_eq_false]
  decide +kernel

theorem alive_sound : Sound Try.prog 16 aliveS.con := FSpec.sound _ (enter_of Try.func16 (by kernel_rfl) (by kernel_rfl)) alive_ok
end AE.Team

namespace AE.Team
open Go AE Go.Proofs AE.Soil

theorem fin_ok : ∀ x, withinS.pre x → FunOk Try.prog 48 (withinS.args x) (withinS.H x) (withinS.R x) := by
  rintro ⟨n, lo, hi⟩ _
  refine fun_of (T := []) (L := fun _ => none) (hs := fun _ => []) hmix .nil Try.func48 (by kernel_rfl) (by kernel_rfl) ?_
  refine Eq.mp (α :=
      let Z0 := decide (lo ≤ n); (Z0 = true → True ∧ (Value.bool (decide (n ≤ hi)) = Value.bool (inM n lo hi) ∧ True) ∧ True ∧ True) ∧ (Z0 = false → True ∧ (Value.bool (inM n lo hi) = Value.bool false ∧ True) ∧ True ∧ True))
    (by kernel_rfl) ?_
  simp only [eq_self, true_and, and_true, Int.toNat_natCast, Nat.zero_add, Nat.sub_zero, Value.int.injEq, Value.bool.injEq, decide_eq_true_eq, decide_eq_false_iff_not]
  simp only [inM]
  simp +contextual
  omega

theorem fin_sound : Sound Try.prog 48 withinS.con := FSpec.sound _ (enter_of Try.func48 (by kernel_rfl) (by kernel_rfl)) fin_ok
def fspanM (s : Span) (lo hi : Int) : Bool := decide (lo ≤ s.1) && decide (s.1 ≤ s.2) && decide (s.2 ≤ hi)
def fspanS : FSpec UU where
  X := Span × Int × Int
  pick := fun args _ => match args with
    | [s, a, b] => match avSpan s, avInt a, avInt b with
      | some s, some a, some b => some (s, a, b)
      | _, _, _ => none
    | _ => none
  args := fun x => [vSpan x.1, .i x.2.1, .i x.2.2]
  H := fun _ => []
  R := fun x => .val ⟨.b (fspanM x.1 x.2.1 x.2.2), [], [], []⟩
set_option maxRecDepth 100000 in
theorem fspan_ok : ∀ x, fspanS.pre x → FunOk Try.prog 49 (fspanS.args x) (fspanS.H x) (fspanS.R x) := by
  rintro ⟨⟨s0, s1⟩, lo, hi⟩ _
  refine fun_of (T := []) (L := fun _ => none) (hs := fun _ => []) hmix .nil Try.func49 (by kernel_rfl) (by kernel_rfl) ?_
  refine Eq.mp (α :=
      let Z0 := Value.bool (fspanM (s0, s1) lo hi); let Z3 := (Z0 = Value.bool false ∧ True) ∧ True ∧ True; let Z5 := decide (s0 ≤ s1); let Z6 := decide (lo ≤ s0); (Z6 = true → (Z5 = true → True ∧ (Value.bool (decide (s1 ≤ hi)) = Z0 ∧ True) ∧ True ∧ True) ∧ (Z5 = false → True ∧ Z3)) ∧ (Z6 = false → True ∧ Z3))
    (by kernel_rfl) ?_
  simp only [eq_self, true_and, and_true, Int.toNat_natCast, Nat.zero_add, Nat.sub_zero, Value.int.injEq, Value.bool.injEq, decide_eq_true_eq, decide_eq_false_iff_not]
  simp only [fspanM]
  simp +contextual
  omega

theorem fspan_sound : Sound Try.prog 49 fspanS.con := FSpec.sound _ (enter_of Try.func49 (by kernel_rfl) (by kernel_rfl)) fspan_ok
theorem fspan_eq (s : Span) (hi : Int) : fspanM s 0 hi = spanM s hi := by
  unfold fspanM spanM
  simp [Bool.and_assoc]
def Tfteam : Tab UU := [(48, withinS.con), (49, fspanS.con)]
theorem Tfteam_ok : Tfteam.Sound Try.prog := .cons fin_sound (.cons fspan_sound .nil)
set_option maxRecDepth 100000 in
theorem fTeam_ok : ∀ x, isTeamS.pre x → FunOk Try.prog 20 (isTeamS.args x) (isTeamS.H x) (isTeamS.R x) := by
  rintro ⟨⟨s0, s1⟩, ⟨l0, l1⟩, ⟨g0, g1⟩, full⟩ _
  refine fun_of (T := Tfteam) (L := fun _ => none) (hs := fun _ => []) hmix Tfteam_ok Try.func20 (by kernel_rfl) (by kernel_rfl) ?_
  refine Eq.mp (α :=
      let Z0 := (10000 : Int); let Z1 := ((g0, g1), full); let Z2 := Value.int IntKind.i64 (0 : Int); let Z3 := Value.int IntKind.i64 (100 : Int); let Z4 := Value.int IntKind.i64 (1000 : Int); let Z5 := Value.int IntKind.i64 full = Value.int IntKind.i64 full; let Z6 := Value.int IntKind.i64 Z0; let Z7 := fspanM (s0, s1) (0 : Int) full; let Z8 := inM full (0 : Int) Z0; let Z9 := fspanM (l0, l1) (0 : Int) (100 : Int); let Z10 := ((l0, l1), Z1); let Z11 := Z2 = Z2; let Z12 := ((s0, s1), Z10); let Z13 := teamM Z12; let Z14 := Value.bool Z13; let Z17 := (Z14 = Value.bool false ∧ True) ∧ True ∧ True; True ∧ (Z5 ∧ Z11 ∧ Z6 = Z6 ∧ True) ∧ True ∧ (Z8 = true → True ∧ ((Value.int IntKind.i64 s0 = Value.int IntKind.i64 s0 ∧ Value.int IntKind.i64 s1 = Value.int IntKind.i64 s1 ∧ True) ∧ Z11 ∧ Z5 ∧ True) ∧ True ∧ (Z7 = true → True ∧ ((Value.int IntKind.i64 l0 = Value.int IntKind.i64 l0 ∧ Value.int IntKind.i64 l1 = Value.int IntKind.i64 l1 ∧ True) ∧ Z11 ∧ Z3 = Z3 ∧ True) ∧ True ∧ (Z9 = true → True ∧ ((Value.int IntKind.i64 g0 = Value.int IntKind.i64 g0 ∧ Value.int IntKind.i64 g1 = Value.int IntKind.i64 g1 ∧ True) ∧ Z11 ∧ Z4 = Z4 ∧ True) ∧ True ∧ True ∧ (Value.bool (fspanM (g0, g1) (0 : Int) (1000 : Int)) = Z14 ∧ True) ∧ True ∧ True) ∧ (Z9 = false → True ∧ Z17)) ∧ (Z7 = false → True ∧ Z17)) ∧ (Z8 = false → True ∧ Z17))
    (by kernel_rfl) ?_
  simp only [eq_self, true_and, and_true, Int.toNat_natCast, Nat.zero_add, Nat.sub_zero, Value.int.injEq, Value.bool.injEq, decide_eq_true_eq, decide_eq_false_iff_not]
  simp only [fspan_eq]
  unfold teamM
  dsimp only
  generalize inM full 0 10000 = q1
  generalize spanM (s0, s1) full = q2
  generalize spanM (l0, l1) 100 = q3
  generalize spanM (g0, g1) 1000 = q4
  revert q1 q2 q3 q4
  decide

theorem fTeam_sound : Sound Try.prog 20 isTeamS.con := FSpec.sound _ (enter_of Try.func20 (by kernel_rfl) (by kernel_rfl)) fTeam_ok

def largeM (p : PlotT) : Bool := decide (max (p.steps.length : Int) (p.g.pits.length : Int) > 40)
def largeS : FSpec UU where
  X := PlotT
  pick := fun args H => match args with
    | [a] => avPlot H a
    | _ => none
  args := fun (x : PlotT) => [vPlot x 0 1]
  H := fun (x : PlotT) => hPlot x
  R := fun (x : PlotT) => .val ⟨.b (largeM x), [], [], []⟩
set_option maxRecDepth 100000 in
theorem large_ok : ∀ x, largeS.pre x → FunOk Try.prog 18 (largeS.args x) (largeS.H x) (largeS.R x) := by
  rintro ⟨⟨long, rise, change, ps⟩, st⟩ _
  refine fun_of (T := []) (L := fun _ => none) (hs := fun _ => []) hmix .nil Try.func18 (by kernel_rfl) (by kernel_rfl) ?_
  refine Eq.mp (α :=
      True ∧ (Value.bool (decide (max (↑(List.length st) : Int) (↑(List.length ps) : Int) > (40 : Int))) = Value.bool (largeM (PlotT.mk (GroundT.mk long rise change ps) st)) ∧ True) ∧ True ∧ ps = ps ∧ st = st ∧ True)
    (by kernel_rfl) ?_
  simp only [eq_self, true_and, and_true, Int.toNat_natCast, Nat.zero_add, Nat.sub_zero, Value.int.injEq, Value.bool.injEq, decide_eq_true_eq, decide_eq_false_iff_not]
  rfl

theorem large_sound : Sound Try.prog 18 largeS.con := FSpec.sound _ (enter_of Try.func18 (by kernel_rfl) (by kernel_rfl)) large_ok
def fAtS : FSpec UU where
  X := GroundT × Int
  pick := fun args H => match args with
    | [a, b] => match avGround H a, avInt b with
      | some a, some b => some (a, b)
      | _, _ => none
    | _ => none
  args := fun x => [vGround x.1 0, .i x.2]
  H := fun x => [.one (.ro .pit x.1.pits)]
  R := fun x => .val ⟨.b (inM x.2 0 x.1.long), [], [], []⟩
def TfAt : Tab UU := [(72, withinS.con)]
theorem TfAt_ok : TfAt.Sound Try.prog := .cons rin_sound .nil
set_option maxRecDepth 100000 in
theorem fAt_ok : ∀ x, fAtS.pre x → FunOk Try.prog 51 (fAtS.args x) (fAtS.H x) (fAtS.R x) := by
  rintro ⟨⟨long, rise, change, ps⟩, n⟩ _
  refine fun_of (T := TfAt) (L := fun _ => none) (hs := fun _ => []) hmix TfAt_ok Try.func51 (by kernel_rfl) (by kernel_rfl) ?_
  refine Eq.mp (α :=
      let Z0 := inM n (0 : Int) long; let Z1 := Value.int IntKind.i64 (0 : Int); True ∧ (Value.int IntKind.i64 n = Value.int IntKind.i64 n ∧ Z1 = Z1 ∧ Value.int IntKind.i64 long = Value.int IntKind.i64 long ∧ True) ∧ True ∧ True ∧ (Value.bool Z0 = Value.bool Z0 ∧ True) ∧ True ∧ ps = ps ∧ True)
    (by kernel_rfl) ?_
  simp

theorem fAt_sound : Sound Try.prog 51 fAtS.con := FSpec.sound _ (enter_of Try.func51 (by kernel_rfl) (by kernel_rfl)) fAt_ok
theorem hard_arg (g : GroundT) : ((hardOM g 0).2 == 1) = !groundM g := by
  unfold hardOM Soil.openErrM
  cases groundM g with
  | false => rfl
  | true =>
    cases [(0 : Int)].all (askM .place g.long) with
    | false => rfl
    | true => cases lookM g <;> rfl
theorem plot_eq (p : PlotT) : isPlotM p = (groundM p.g && decide ((p.steps.length : Int) ≤ 12) && !(p.steps.any fun s => sfM (some p.g.long) s)) := by
  unfold isPlotM
  rw [hard_arg]
  congr 1
  cases groundM p.g with
  | false => rfl
  | true =>
    by_cases h : (p.steps.length : Int) > 12
    · rw [decide_eq_true h, decide_eq_false (show ¬ (p.steps.length : Int) ≤ 12 by omega)]; rfl
    · rw [decide_eq_false h, decide_eq_true (show (p.steps.length : Int) ≤ 12 by omega)]; rfl
theorem plot_no {p : PlotT} {i : Nat} (hi : i < p.steps.length) (h : sfM (some p.g.long) (p.steps.getD i (0, 0, 0)) = true) : isPlotM p = false := by
  have : (p.steps.any fun s => sfM (some p.g.long) s) = true := by
    rw [List.any_eq_true]
    refine ⟨p.steps.getD i (0, 0, 0), ?_, h⟩
    rw [List.getD_eq_getElem?_getD, List.getElem?_eq_getElem hi]
    exact List.getElem_mem hi
  rw [plot_eq, this, Bool.not_true, Bool.and_false]
def fPlotL (p : PlotT) : LSpec UU where
  T := { i : Nat // i ≤ p.steps.length ∧ ∀ j, j < i → sfM (some p.g.long) (p.steps.getD j (0, 0, 0)) = false }
  fr := fun i => [(1, .ptr 2 0 0 0), (2, .b false), (3, .i i.1)]
  H := fun _ => hPlot p ++ [.one (.cells (cPlot p 0 1) 35)]
  mu := fun i => p.steps.length - i.1
def TfPlot : Tab UU := [(50, isGroundS.con), (51, fAtS.con), (48, withinS.con)]
theorem TfPlot_ok : TfPlot.Sound Try.prog := .cons rGround_sound (.cons fAt_sound (.cons fin_sound .nil))
set_option maxHeartbeats 0 in
set_option maxRecDepth 100000 in
theorem fPlot_ok : ∀ x, isPlotS.pre x → FunOk Try.prog 21 (isPlotS.args x) (isPlotS.H x) (isPlotS.R x) := by
  rintro ⟨⟨long, rise, change, ps⟩, st⟩ hx
  refine fun_of (T := TfPlot) (L := fun _ => some (.inv (fPlotL ⟨⟨long, rise, change, ps⟩, st⟩))) (hs := fun _ => []) hmix TfPlot_ok Try.func21 (by kernel_rfl) (by kernel_rfl) ?_
  refine Eq.mp (α :=
      let Z0 := nat_lit 0 = nat_lit 0 ∧ nat_lit 0 = nat_lit 0 ∧ nat_lit 0 = nat_lit 0; let Z1 := ps = ps ∧ True; let Z2 := st = st ∧ True; let Z3 := (↑(List.length st) : Int); let Z4 := Value.int IntKind.i64 (0 : Int); let Z5 := Value.bool false = Value.bool false; let Z6 := Value.int IntKind.i64 (600 : Int); let Z7 := List.length ps = List.length ps; let Z8 := Value.int IntKind.i64 rise = Value.int IntKind.i64 rise; let Z9 := List.length st = List.length st; let Z10 := Value.int IntKind.i64 long = Value.int IntKind.i64 long; let Z11 := Value.int IntKind.i64 change = Value.int IntKind.i64 change; let Z12 := Value.bool (isPlotM (PlotT.mk (GroundT.mk long rise change ps) st)); let Z13 := List.length (PlotT.steps (PlotT.mk (GroundT.mk long rise change ps) st)); let Z14 : Option Int := some (GroundT.long (PlotT.g (PlotT.mk (GroundT.mk long rise change ps) st))); let Z15 := nat_lit 0 = nat_lit 0 ∧ Z7; let Z16 := nat_lit 0 = nat_lit 0 ∧ Z9; let Z17 := ((0 : Int), (0 : Int)); let Z18 := nat_lit 0 = nat_lit 0 ∧ Z15; let Z19 := Z12 = Value.bool false; let Z20 := fun (i : Nat) => i ≤ Z13; let Z21 := ps = ps ∧ Z2; let Z22 := nat_lit 0 = nat_lit 0 ∧ Z16; let Z23 := Z18 ∧ True; let Z24 := Z19 ∧ True; let Z25 := Z22 ∧ True; let Z26 := True ∧ Z21; let Z27 := Z3 > (12 : Int); let Z28 := ((0 : Int), Z17); let Z29 := Z11 ∧ Z23; let Z30 := Z18 ∧ Z25; let Z31 := fun (j : Nat) => List.getD (PlotT.steps (PlotT.mk (GroundT.mk long rise change ps) st)) j Z28; let Z32 := Z24 ∧ Z26; let Z33 := True ∧ Z32; let Z34 := Z8 ∧ Z29; let Z35 := Z11 ∧ Z30; let Z36 := decide Z27; let Z37 := fun (j : Nat) => sfM Z14 (Z31 j); let Z38 := Z10 ∧ Z34; let Z39 := fun (j : Nat) => Z37 j = false; let Z40 := Z8 ∧ Z35; let Z41 := fun (j i : Nat) => j < i → Z39 j; let Z42 := fun (i : Nat) => ∀ (j : Nat), Z41 j i; let Z43 := Z10 ∧ Z40; let Z44 := Z43 ∧ True; let Z45 := fun (i : Nat) => Z20 i ∧ Z42 i; let Z46 := st = st ∧ Z44; let Z47 : Type := { i : Nat // Z45 i }; let Z48 := fun (x : Z47) => Subtype.val x; let Z49 := ps = ps ∧ Z46; let Z50 := fun (x : Z47) => (↑(Z48 x) : Int); let Z51 := True ∧ Z49; let Z52 := fun (t : Z47) => Int.toNat (Z50 t); let Z53 := fun (x : Z47) => Value.int IntKind.i64 (Z50 x); let Z54 := fun (x : Z47) => List.length st - Z48 x; let Z55 := fun (t : Z47) => nat_lit 0 + Z52 t; let Z56 := fun (t : Z47) => Z50 t < Z3; let Z57 := fun (t : Z47) => Z50 t + (1 : Int); let Z58 := fun (t : Z47) => IntKind.wrap IntKind.i64 (Z57 t); let Z59 := fun (t : Z47) => Value.int IntKind.i64 (Z58 t); let Z60 := fun (t : Z47) => List.getD st (Z55 t) Z28; let Z61 := fun (t : Z47) => Prod.snd (Z60 t); let Z62 := fun (t : Z47) => Prod.fst (Z60 t); let Z63 := fun (t : Z47) => Prod.fst (Z61 t); let Z64 := fun (t : Z47) => Prod.snd (Z61 t); let Z65 := fun (t : Z47) => Value.int IntKind.i64 (Z62 t); let Z66 := fun (t : Z47) => Value.int IntKind.i64 (Z64 t); let Z67 := fun (t : Z47) => Value.int IntKind.i64 (Z63 t); let Z68 := fun (t : Z47) => inM (Z62 t) (0 : Int) long; let Z69 := fun (t : Z47) => !Z68 t; let Z70 := fun (t : Z47) => inM (Z63 t) (0 : Int) long; let Z71 := fun (t : Z47) => !Z70 t; let Z72 := fun (t : Z47) => inM (Z64 t) (0 : Int) (600 : Int); let Z73 := fun (t : Z47) => !Z72 t; let Z74 := fun (t : Z47) => Z64 t == (0 : Int); let Z75 := fun (x t : Z47) => Z54 x < Z54 t; let Z76 := fun (t x : Z47) => Z59 t = Z53 x; let Z77 := fun (t x : Z47) => Z76 t x ∧ True; let Z78 := fun (t : Z47) => decide (Z56 t); let Z79 := fun (t x : Z47) => Z5 ∧ Z77 t x; let Z80 := fun (t x : Z47) => Z0 ∧ Z79 t x; let Z81 := fun (t : Z47) => Z62 t > Z63 t; let Z84 := fun (t : Z47) => decide (Z81 t); let Z85 := fun (t : Z47) => ∃ (x : Z47), (Z80 t x ∧ Z51) ∧ Z75 x t; List.length ps < nat_lit 1000000 ∧ (Z38 ∧ True) ∧ Z1 ∧ ((!groundM (GroundT.mk long rise change ps)) = true → Z33) ∧ ((!groundM (GroundT.mk long rise change ps)) = false → (Z36 = true → Z33) ∧ (Z36 = false → (∃ (x : Z47), (Z0 ∧ Z5 ∧ Z4 = Z53 x ∧ True) ∧ Z51) ∧ ∀ (t : Z47), (Z78 t = true → ((0 : Int) ≤ Z50 t ∧ Z56 t) ∧ Z55 t < List.length st ∧ True ∧ (Z66 t = Z66 t ∧ Z4 = Z4 ∧ Z6 = Z6 ∧ True) ∧ True ∧ (Z73 t = true → Z33) ∧ (Z73 t = false → (Z74 t = true → (Z84 t = true → Z33) ∧ (Z84 t = false → True ∧ (Z38 ∧ Z65 t = Z65 t ∧ True) ∧ Z1 ∧ (Z69 t = true → Z33) ∧ (Z69 t = false → True ∧ (Z38 ∧ Z67 t = Z67 t ∧ True) ∧ Z1 ∧ (Z71 t = true → Z33) ∧ (Z71 t = false → True ∧ Z85 t)))) ∧ (Z74 t = false → True ∧ Z85 t))) ∧ (Z78 t = false → True ∧ (Z12 = Value.bool true ∧ True) ∧ Z26))))
    (by kernel_rfl) ?_
  simp only [eq_self, true_and, and_true, Int.toNat_natCast, Nat.zero_add, Nat.sub_zero, Value.int.injEq, Value.bool.injEq, decide_eq_true_eq, decide_eq_false_iff_not]
  have h1 : ps.length < 1000000 := hx.1
  have h2 : st.length < 9223372036854775808 := hx.2
  refine ⟨h1, fun hg => ?_, fun hg => ⟨fun hl => ?_, fun hl => ⟨⟨⟨0, Nat.zero_le _, fun j hj => absurd hj (Nat.not_lt_zero j)⟩, rfl⟩, fun t => ⟨fun ht => ?_, fun ht => ?_⟩⟩⟩⟩
  · rw [plot_eq, show groundM ⟨long, rise, change, ps⟩ = false by simpa using hg]; rfl
  · rw [plot_eq, show decide ((st.length : Int) ≤ 12) = false from decide_eq_false (by omega), Bool.and_false]; rfl
  · obtain ⟨i, hi, h0⟩ := t
    have hlt : i < st.length := by have h1 : (i : Int) < (st.length : Int) := ht; omega
    have hno := plot_no (p := ⟨⟨long, rise, change, ps⟩, st⟩) hlt
    have nxt : sfM (some long) (st.getD i (0, 0, 0)) = false → ∃ x : { i : Nat // i ≤ st.length ∧ ∀ j, j < i → sfM (some long) (st.getD j (0, 0, 0)) = false }, IntKind.i64.wrap ((i : Int) + 1) = (x.1 : Int) ∧ st.length - x.1 < st.length - i := fun hf =>
      ⟨⟨i + 1, hlt, below_succ h0 hf⟩, sucI i (by omega), dec1 hlt⟩
    simp only
    revert hno nxt
    generalize st.getD i (0, 0, 0) = s
    obtain ⟨a, b, c⟩ := s
    intro hno nxt
    simp only [sfM, okStepM] at hno nxt
    refine ⟨⟨Int.natCast_nonneg _, ht⟩, hlt, fun hc => hno ?_, fun hc => ⟨fun h0 => ⟨fun hab => hno ?_, fun hab => ⟨fun ha => hno ?_, fun ha => ⟨fun hb => hno ?_, fun hb => nxt ?_⟩⟩⟩, fun h0 => nxt ?_⟩⟩
    all_goals simp only [inM, Bool.not_eq_true', Bool.not_eq_false', Bool.and_eq_true, decide_eq_true_eq, Bool.and_eq_false_iff, decide_eq_false_iff_not, beq_iff_eq, Bool.or_eq_true, Bool.or_eq_false_iff, Bool.not_eq_false, beq_eq_false_iff_ne, ne_eq] at *
    all_goals omega
  · obtain ⟨i, hi, h0⟩ := t
    have hie : i = st.length := by have h1 : ¬ (i : Int) < (st.length : Int) := ht; omega
    rw [plot_eq, show groundM ⟨long, rise, change, ps⟩ = true by simpa using hg, show decide ((st.length : Int) ≤ 12) = true from decide_eq_true (by omega)]
    have : (st.any fun s => sfM (some long) s) = false := by
      rw [List.any_eq_false]
      intro x hx
      obtain ⟨j, hj, rfl⟩ := List.getElem_of_mem hx
      have := h0 j (by omega)
      simpa [List.getD_eq_getElem?_getD, hj] using this
    rw [this]; rfl

theorem fPlot_sound : Sound Try.prog 21 isPlotS.con := FSpec.sound _ (enter_of Try.func21 (by kernel_rfl) (by kernel_rfl)) fPlot_ok
end AE.Team

namespace AE.Team
open Go AE Go.Proofs AE.Soil

def cTeam (t : TeamT) : List AV := [.i t.1.1, .i t.1.2, .i t.2.1.1, .i t.2.1.2, .i t.2.2.1.1, .i t.2.2.1.2, .i t.2.2.2]


end AE.Team

namespace AE.Soil
open Go AE Go.Proofs

end AE.Soil

namespace AE.Soil
open Go AE Go.Proofs

def strStepM (c n : Int) (k : Int) (p : Int × Int × Int) : Int × Int × Int := if c = W (1 * 2 ^ n.toNat) then (if W (k - p.2.2) > W (p.2.1 - p.1) then (p.2.2, k, p.2.2) else p) else (p.1, p.2.1, W (k + 1))
def strAtM (l : List Mix3) (n : Int) : Nat → Int × Int × Int
  | 0 => (0, -1, 0)
  | k + 1 => strStepM (classesM (l.getD k m0)) n k (strAtM l n k)
def strErrM (g : GroundT) (n : Int) : Int := openErrM g .cls [n]
def strEndM (l : List Mix3) (n : Int) (k : Nat) : Int × Int × Int := if (strAtM l n k).2.1 ≥ 0 then ((strAtM l n k).1, (strAtM l n k).2.1, 0) else (0, 0, 4)
def strOM (g : GroundT) (n : Int) : Int × Int × Int := if strErrM g n == 0 then strEndM (boxesM g) n (nM g) else (0, 0, strErrM g n)
end AE.Soil

namespace AE.Soil
open Go AE Go.Proofs

end AE.Soil

namespace AE.Soil
open Go AE Go.Proofs

abbrev pA : PitT := (2, (300, 320), (10, 12), (4, 6), 4, 5)
abbrev pB : PitT := (8, (500, 520), (5, 6), (3, 5), 9, 11)
theorem c1 : hardOM ⟨10, 50, 2, [pA, pB]⟩ 5 = ((350, 470), 0) := by decide +kernel
theorem c2 : partsOM ⟨10, 50, 2, [pA, pB]⟩ 5 = (((4, 12), (0, 11), 3, 11), 0) := by decide +kernel
theorem c3 : classOM ⟨10, 50, 2, [pA, pB]⟩ 3 = (3, 0) := by decide +kernel
theorem c4 : strOM ⟨10, 50, 2, [pA, pB]⟩ 3 = (8, 8, 0) := by decide +kernel
end AE.Soil

namespace AE.Soil
open Go AE Go.Proofs

def D (p k : Int) : Int := max (k - p) (p - k)
theorem D_nonneg (p k : Int) : 0 ≤ D p k := by unfold D; omega
theorem D_self (p : Int) : D p p = 0 := by unfold D; omega
theorem D_tri (p j k : Int) : D p k ≤ D p j + D j k := by unfold D; omega
theorem D_le {p k n : Int} (h1 : 0 ≤ p) (h2 : p ≤ n) (h3 : 0 ≤ k) (h4 : k ≤ n) : D p k ≤ n := by unfold D; omega
theorem D_suc (k : Int) : D k (k + 1) = 1 := by unfold D; omega
theorem D_pre (k : Int) : D (k + 1) k = 1 := by unfold D; omega
theorem DR_tri (p j k r : Int) (hr : 0 ≤ r) : D p k * r ≤ D p j * r + D j k * r := by
  rw [← Int.add_mul]; exact Int.mul_le_mul_of_nonneg_right (D_tri p j k) hr
theorem DR_nonneg (p k r : Int) (hr : 0 ≤ r) : 0 ≤ D p k * r := Int.mul_nonneg (D_nonneg p k) hr
theorem DR_le {p k n r m : Int} (h : D p k ≤ n) (hr : 0 ≤ r) (hm : r ≤ m) (hn : 0 ≤ n) : D p k * r ≤ n * m := Int.mul_le_mul h hm hr hn

def Pl (g : GroundT) (k : Int) : Prop := 0 ≤ k ∧ k ≤ g.long
theorem far_eq {g : GroundT} (hg : GOk g) {p : PitT} (hp : PitOk g.long p) {k : Int} (hk : Pl g k) : farM p k g.rise = D p.1 k * g.rise ∧ 0 ≤ D p.1 k * g.rise ∧ D p.1 k * g.rise ≤ 40000 := by
  have h1 := hp.at_
  have h2 := hg.long
  have h3 := hg.rise
  have h4 : D p.1 k ≤ 40 := D_le h1.1 (by omega) hk.1 (by have := hk.2; omega)
  have h5 := DR_nonneg p.1 k g.rise h3.1
  have h6 : D p.1 k * g.rise ≤ 40000 := DR_le h4 h3.1 h3.2 (by omega)
  have hk1 := hk.1
  have hk2 := hk.2
  refine ⟨?_, h5, h6⟩
  unfold farM
  rw [show W (k - p.1) = k - p.1 from wrap_id (by omega) (by omega), show W (p.1 - k) = p.1 - k from wrap_id (by omega) (by omega)]
  exact wrap_id (by show _ ≤ D p.1 k * g.rise; omega) (by show D p.1 k * g.rise ≤ _; omega)
theorem dug_eq {g : GroundT} (hg : GOk g) {p : PitT} (hp : PitOk g.long p) {k : Int} (hk : Pl g k) : dugM p k g.rise = (p.2.1.1 - D p.1 k * g.rise, p.2.1.2 + D p.1 k * g.rise) := by
  obtain ⟨h1, h2, h3⟩ := far_eq hg hp hk
  have h4 : 0 ≤ p.2.1.1 ∧ p.2.1.1 ≤ p.2.1.2 ∧ p.2.1.2 ≤ 1000 := hp.hard
  unfold dugM
  rw [h1]
  rw [show W (p.2.1.1 - D p.1 k * g.rise) = p.2.1.1 - D p.1 k * g.rise from wrap_id (by omega) (by omega), show W (p.2.1.2 + D p.1 k * g.rise) = p.2.1.2 + D p.1 k * g.rise from wrap_id (by omega) (by omega)]
theorem fold_lo {α : Type} (f : α → Span) (v : Int) : ∀ (l : List α) (s : Span), (l.foldl (fun s t => bothM s (f t)) s).1 ≤ v ↔ s.1 ≤ v ∧ ∀ t ∈ l, (f t).1 ≤ v
  | [], s => by simp
  | x :: l, s => by
    rw [List.foldl_cons, fold_lo f v l]
    simp only [bothM, List.forall_mem_cons]
    constructor
    · rintro ⟨h1, h2⟩; exact ⟨by omega, by omega, h2⟩
    · rintro ⟨h1, h2, h3⟩; exact ⟨by omega, h3⟩
theorem fold_hi {α : Type} (f : α → Span) (v : Int) : ∀ (l : List α) (s : Span), v ≤ (l.foldl (fun s t => bothM s (f t)) s).2 ↔ v ≤ s.2 ∧ ∀ t ∈ l, v ≤ (f t).2
  | [], s => by simp
  | x :: l, s => by
    rw [List.foldl_cons, fold_hi f v l]
    simp only [bothM, List.forall_mem_cons]
    constructor
    · rintro ⟨h1, h2⟩; exact ⟨by omega, by omega, h2⟩
    · rintro ⟨h1, h2, h3⟩; exact ⟨by omega, h3⟩
theorem hard_lo {g : GroundT} (hg : GOk g) {k : Int} (hk : Pl g k) (v : Int) : (hardM g k).1 ≤ v ↔ 0 ≤ v ∧ ∀ p ∈ g.pits, p.2.1.1 - D p.1 k * g.rise ≤ v := by
  unfold hardM hardTM
  rw [fold_lo (fun t => tellM t k g.rise), tells_eq]
  simp only [List.forall_mem_cons, List.forall_mem_map, tellM, if_true]
  constructor
  · rintro ⟨h1, _, h3⟩
    refine ⟨h1, fun p hp => ?_⟩
    have := h3 p hp
    simp only [Bool.false_eq_true, if_false] at this
    rw [dug_eq hg (hg.pits p hp) hk] at this; exact this
  · rintro ⟨h1, h3⟩
    refine ⟨h1, h1, fun p hp => ?_⟩
    simp only [Bool.false_eq_true, if_false]
    rw [dug_eq hg (hg.pits p hp) hk]; exact h3 p hp
theorem hard_hi {g : GroundT} (hg : GOk g) {k : Int} (hk : Pl g k) (v : Int) : v ≤ (hardM g k).2 ↔ v ≤ 1000 ∧ ∀ p ∈ g.pits, v ≤ p.2.1.2 + D p.1 k * g.rise := by
  unfold hardM hardTM
  rw [fold_hi (fun t => tellM t k g.rise), tells_eq]
  simp only [List.forall_mem_cons, List.forall_mem_map, tellM, if_true]
  constructor
  · rintro ⟨h1, _, h3⟩
    refine ⟨h1, fun p hp => ?_⟩
    have := h3 p hp
    simp only [Bool.false_eq_true, if_false] at this
    rw [dug_eq hg (hg.pits p hp) hk] at this; exact this
  · rintro ⟨h1, h3⟩
    refine ⟨h1, h1, fun p hp => ?_⟩
    simp only [Bool.false_eq_true, if_false]
    rw [dug_eq hg (hg.pits p hp) hk]; exact h3 p hp
theorem hard_ge0 {g : GroundT} (hg : GOk g) {k : Int} (hk : Pl g k) : 0 ≤ (hardM g k).1 := ((hard_lo hg hk _).1 (Int.le_refl _)).1
theorem hard_le1000 {g : GroundT} (hg : GOk g) {k : Int} (hk : Pl g k) : (hardM g k).2 ≤ 1000 := ((hard_hi hg hk _).1 (Int.le_refl _)).1
theorem lip_lo {g : GroundT} (hg : GOk g) {j k : Int} (hj : Pl g j) (hk : Pl g k) : (hardM g j).1 ≤ (hardM g k).1 + D j k * g.rise := by
  obtain ⟨h1, h2⟩ := (hard_lo hg hk _).1 (Int.le_refl _)
  refine (hard_lo hg hj _).2 ⟨by have := DR_nonneg j k g.rise hg.rise.1; omega, fun p hp => ?_⟩
  have := h2 p hp
  have := DR_tri p.1 j k g.rise hg.rise.1
  omega
structure HTr (g : GroundT) (h : Int → Int) : Prop where
  bound : ∀ k, Pl g k → 0 ≤ h k ∧ h k ≤ 1000
  step : ∀ k, Pl g k → Pl g (k + 1) → h (k + 1) ≤ h k + g.rise ∧ h k ≤ h (k + 1) + g.rise
  pits : ∀ p ∈ g.pits, p.2.1.1 ≤ h p.1 ∧ h p.1 ≤ p.2.1.2
theorem HTr.up {g : GroundT} {h : Int → Int} (t : HTr g h) {k : Int} (hk : Pl g k) : ∀ n : Nat, Pl g (k + n) → h (k + n) ≤ h k + n * g.rise ∧ h k ≤ h (k + n) + n * g.rise
  | 0, _ => by simp
  | n + 1, hn => by
    have hk1 := hk.1
    have hk2 := hk.2
    have hn1 : 0 ≤ k + ((n + 1 : Nat) : Int) := hn.1
    have hn2 : k + ((n + 1 : Nat) : Int) ≤ g.long := hn.2
    have hp : Pl g (k + n) := ⟨by omega, by omega⟩
    obtain ⟨i1, i2⟩ := t.up hk n hp
    have he : k + ((n + 1 : Nat) : Int) = k + n + 1 := by omega
    obtain ⟨s1, s2⟩ := t.step (k + n) hp (by rw [← he]; exact hn)
    have hm : ((n + 1 : Nat) : Int) * g.rise = n * g.rise + g.rise := by rw [Int.natCast_succ, Int.add_mul, Int.one_mul]
    rw [he, hm]
    exact ⟨by omega, by omega⟩
theorem HTr.lip {g : GroundT} {h : Int → Int} (t : HTr g h) {j k : Int} (hj : Pl g j) (hk : Pl g k) : h j ≤ h k + D j k * g.rise ∧ h k ≤ h j + D j k * g.rise := by
  rcases Int.le_total j k with hl | hl
  · obtain ⟨n, hn⟩ := Int.eq_ofNat_of_zero_le (show 0 ≤ k - j by omega)
    have he : k = j + n := by omega
    subst he
    have := t.up hj n hk
    have hd : D j (j + n) = n := by unfold D; omega
    rw [hd]; omega
  · obtain ⟨n, hn⟩ := Int.eq_ofNat_of_zero_le (show 0 ≤ j - k by omega)
    have he : j = k + n := by omega
    subst he
    have := t.up hk n hj
    have hd : D (k + n) k = n := by unfold D; omega
    rw [hd]; omega
theorem HTr.inside {g : GroundT} (hg : GOk g) {h : Int → Int} (t : HTr g h) {k : Int} (hk : Pl g k) : (hardM g k).1 ≤ h k ∧ h k ≤ (hardM g k).2 := by
  obtain ⟨b1, b2⟩ := t.bound k hk
  refine ⟨(hard_lo hg hk _).2 ⟨b1, fun p hp => ?_⟩, (hard_hi hg hk _).2 ⟨b2, fun p hp => ?_⟩⟩
  · have := t.lip (hg.pits p hp).at_ hk
    have := t.pits p hp
    omega
  · have := t.lip (hg.pits p hp).at_ hk
    have := t.pits p hp
    omega
def HOk (g : GroundT) : Prop := ∀ k, Pl g k → (hardM g k).1 ≤ (hardM g k).2
theorem hard_pit {g : GroundT} (hg : GOk g) {p : PitT} (hp : p ∈ g.pits) : p.2.1.1 ≤ (hardM g p.1).1 ∧ (hardM g p.1).2 ≤ p.2.1.2 := by
  have hk : Pl g p.1 := (hg.pits p hp).at_
  have h1 := ((hard_lo hg hk _).1 (Int.le_refl _)).2 p hp
  have h2 := ((hard_hi hg hk _).1 (Int.le_refl _)).2 p hp
  rw [D_self] at h1 h2
  omega
theorem HOk.low {g : GroundT} (hg : GOk g) (h : HOk g) : HTr g fun k => (hardM g k).1 where
  bound := fun k hk => ⟨hard_ge0 hg hk, Int.le_trans (h k hk) (hard_le1000 hg hk)⟩
  step := fun k hk hk1 => by
    have h1 := lip_lo hg hk1 hk
    have h2 := lip_lo hg hk hk1
    rw [D_pre, Int.one_mul] at h1
    rw [D_suc, Int.one_mul] at h2
    exact ⟨h1, h2⟩
  pits := fun p hp => by
    have h1 := hard_pit hg hp
    have h2 := h p.1 (hg.pits p hp).at_
    exact ⟨h1.1, by omega⟩
theorem HTr.ok {g : GroundT} (hg : GOk g) {h : Int → Int} (t : HTr g h) : HOk g := fun k hk => by
  have := t.inside hg hk
  omega
theorem hok_iff {g : GroundT} (hg : GOk g) : HOk g ↔ ∃ h, HTr g h := ⟨fun h => ⟨_, h.low hg⟩, fun ⟨_, t⟩ => t.ok hg⟩

theorem place_of {g : GroundT} (hg : GOk g) {k : Int} (hk : Pl g k) : ∃ j : Nat, k = (j : Int) ∧ j < nM g := by
  obtain ⟨h0, h1, h2⟩ := n_ok hg
  obtain ⟨j, rfl⟩ := Int.eq_ofNat_of_zero_le hk.1
  exact ⟨j, rfl, by have := hk.2; omega⟩
theorem pl_of {g : GroundT} (hg : GOk g) {j : Nat} (h : j < nM g) : Pl g (j : Int) := by
  obtain ⟨h0, h1, h2⟩ := n_ok hg
  exact ⟨by omega, by omega⟩
theorem look_iff (g : GroundT) : lookM g = true ↔ ∀ j, j < nM g → (hardM g (j : Int)).1 ≤ (hardM g (j : Int)).2 ∧ noneM ((boxesM g).getD j m0) = false := by
  unfold lookM
  rw [List.all_eq_true]
  simp only [List.mem_range]
  constructor
  · intro h j hj
    have h' := h j hj
    unfold badM at h'
    simp only [Bool.not_or, Bool.and_eq_true, Bool.not_eq_true', decide_eq_false_iff_not] at h'
    exact ⟨by omega, h'.2⟩
  · intro h j hj
    have h' := h j hj
    unfold badM
    simp only [Bool.not_or, Bool.and_eq_true, Bool.not_eq_true', decide_eq_false_iff_not]
    exact ⟨by omega, h'.2⟩
theorem look_hok {g : GroundT} (hg : GOk g) (h : lookM g = true) : HOk g := fun k hk => by
  obtain ⟨j, rfl, hj⟩ := place_of hg hk
  exact ((look_iff g).1 h j hj).1
theorem err_of {g : GroundT} (hg : groundM g = true) {a : Ask} {l : List Int} (ha : l.all (askM a g.long) = true) : openErrM g a l = if lookM g then 0 else 10 := open_look hg ha
theorem hard_told {g : GroundT} (hg : groundM g = true) {k : Int} (hk : Pl g k) : hardOM g k = if lookM g then (hardM g k, 0) else ((0, 0), 10) := by
  have ha : [k].all (askM .place g.long) = true := by simp [askM, inM]; exact hk
  unfold hardOM
  rw [err_of hg ha]
  cases lookM g <;> rfl
def sumM (g : GroundT) (a : Nat) : Nat → Span
  | 0 => (0, 0)
  | i + 1 => ((sumM g a i).1 + (hardM g ((a + i : Nat) : Int)).1, (sumM g a i).2 + (hardM g ((a + i : Nat) : Int)).2)
theorem sum_bound {g : GroundT} (hg : GOk g) (h : HOk g) (a : Nat) : ∀ i, a + i ≤ nM g → 0 ≤ (sumM g a i).1 ∧ (sumM g a i).1 ≤ (sumM g a i).2 ∧ (sumM g a i).2 ≤ 1000 * i
  | 0, _ => by simp [sumM]
  | i + 1, hi => by
    obtain ⟨h1, h2, h3⟩ := sum_bound hg h a i (by omega)
    have hk := pl_of hg (show a + i < nM g by omega)
    have := hard_ge0 hg hk
    have := h _ hk
    have := hard_le1000 hg hk
    simp only [sumM]
    omega
theorem workAt_eq {g : GroundT} (hg : GOk g) (h : HOk g) (a : Int) : ∀ i, a.toNat + i ≤ nM g → workAtM g a i = sumM g a.toNat i
  | 0, _ => rfl
  | i + 1, hi => by
    have e := workAt_eq hg h a i (by omega)
    obtain ⟨h1, h2, h3⟩ := sum_bound hg h a.toNat i (by omega)
    have hn := (n_ok hg).2.2
    have hk := pl_of hg (show a.toNat + i < nM g by omega)
    have := hard_ge0 hg hk
    have := h _ hk
    have := hard_le1000 hg hk
    rw [workAtM, e, hards_get (by omega), sumM, show W ((sumM g a.toNat i).1 + (hardM g ((a.toNat + i : Nat) : Int)).1) = _ from wrap_id (by omega) (by omega), show W ((sumM g a.toNat i).2 + (hardM g ((a.toNat + i : Nat) : Int)).2) = _ from wrap_id (by omega) (by omega)]
theorem work_told {g : GroundT} (hg : groundM g = true) {a b : Int} (ha : Pl g a) (hb : Pl g b) (hab : a ≤ b) : workOM g a b = if lookM g then (sumM g a.toNat (b.toNat + 1 - a.toNat), 0) else ((0, 0), 10) := by
  have hs : [a, b].all (askM (.span (spanOkM a b)) g.long) = true := by simp [askM, inM, spanOkM]; exact ⟨⟨ha, hab⟩, hb, hab⟩
  have hok := ground_ok hg
  have hn := n_ok hok
  have hb2 := hb.2
  have hb1 := hb.1
  have ha1 := ha.1
  unfold workOM workErrM
  rw [err_of hg hs]
  cases hl : lookM g with
  | false => rfl
  | true =>
    have hw : W (b + 1) = b + 1 := wrap_id (by omega) (by omega)
    have e : workNM a b = b.toNat + 1 - a.toNat := by unfold workNM; rw [hw]; omega
    show (workAtM g a (workNM a b), (0 : Int)) = _
    rw [e, workAt_eq hok (look_hok hok hl) a _ (by omega)]; rfl
end AE.Soil

namespace AE.Team
open Go AE Go.Proofs AE.Soil

structure HorOk (h : HorT) : Prop where
  l0 : 0 ≤ h.2.1
  l1 : h.2.1 ≤ 100
  g0 : 0 ≤ h.2.2.1
  g1 : h.2.2.1 ≤ 1000
  f0 : 0 ≤ h.2.2.2.1
  f1 : h.2.2.2.1 ≤ 10000
def WOk (w : Span) : Prop := 0 ≤ w.1 ∧ w.1 ≤ w.2 ∧ w.2 ≤ 41000
theorem of_bound {w : Span} (hw : WOk w) (h : HorT) : 0 ≤ ofM h w ∧ ofM h w ≤ 41000 := by
  obtain ⟨h1, h2, h3⟩ := hw
  unfold ofM
  split <;> omega
def costM (h : HorT) (w : Span) : Int := (h.2.1 * ofM h w + 99) / 100
theorem mul_bound {a b m n : Int} (h1 : 0 ≤ a) (h2 : a ≤ m) (h3 : 0 ≤ b) (h4 : b ≤ n) : 0 ≤ a * b ∧ a * b ≤ m * n :=
  ⟨Int.mul_nonneg h1 h3, Int.mul_le_mul h2 h4 h3 (Int.le_trans h1 h2)⟩
theorem cost_bound {h : HorT} (hh : HorOk h) {w : Span} (hw : WOk w) : 0 ≤ costM h w ∧ costM h w ≤ 41001 := by
  have ho := of_bound hw h
  have hm := mul_bound hh.l0 hh.l1 ho.1 ho.2
  unfold costM
  omega
theorem furrow_eq {h : HorT} (hh : HorOk h) {w : Span} (hw : WOk w) {now : Int} (h1 : -1000000000 ≤ now) (h2 : now ≤ 1000000000) : furrowM h w now = now - costM h w := by
  have ho := of_bound hw h
  have hm := mul_bound hh.l0 hh.l1 ho.1 ho.2
  have hc := cost_bound hh hw
  unfold furrowM
  unfold costM at hc ⊢
  have e1 : W (h.2.1 * ofM h w) = h.2.1 * ofM h w := wrap_id (by omega) (by omega)
  rw [e1]
  have e2 : W (h.2.1 * ofM h w + 99) = h.2.1 * ofM h w + 99 := wrap_id (by omega) (by omega)
  rw [e2]
  have e3 : (h.2.1 * ofM h w + 99).tdiv 100 = (h.2.1 * ofM h w + 99) / 100 := Int.tdiv_eq_ediv_of_nonneg (by omega)
  rw [e3]
  have e4 : W ((h.2.1 * ofM h w + 99) / 100) = (h.2.1 * ofM h w + 99) / 100 := wrap_id (by omega) (by omega)
  rw [e4]
  exact wrap_id (by omega) (by omega)
theorem rest_eq {h : HorT} (hh : HorOk h) {r now : Int} (r0 : 0 ≤ r) (r1 : r ≤ 10000) (h1 : -1000000000 ≤ now) (h2 : now ≤ 1000000000) : restM h r now = min h.2.2.2.1 (now + h.2.2.1 * r) := by
  have hm := mul_bound hh.g0 hh.g1 r0 r1
  unfold restM
  have e1 : W (h.2.2.1 * r) = h.2.2.1 * r := wrap_id (by omega) (by omega)
  rw [e1]
  have e2 : W (now + h.2.2.1 * r) = now + h.2.2.1 * r := wrap_id (by omega) (by omega)
  rw [e2]
structure StepsOk (l : List StepT) (w : List Span) : Prop where
  len : l.length ≤ 1000
  rest : ∀ i, i < l.length → 0 ≤ (l.getD i (0, 0, 0)).2.2 ∧ (l.getD i (0, 0, 0)).2.2 ≤ 10000
  work : ∀ i, i < l.length → WOk (w.getD i (0, 0))
theorem do_bound {h : HorT} (hh : HorOk h) {s : StepT} {w : Span} (hw : WOk w) (r0 : 0 ≤ s.2.2) (r1 : s.2.2 ≤ 10000) {now : Int} (h1 : -1000000000 ≤ now) (h2 : now ≤ h.2.2.2.1) : now - 41001 ≤ doM h s w now ∧ doM h s w now ≤ h.2.2.2.1 := by
  have hf1 := hh.f1
  have hf0 := hh.f0
  unfold doM
  split
  · rw [rest_eq hh r0 r1 h1 (by omega)]
    have hm := mul_bound hh.g0 hh.g1 r0 r1
    omega
  · rw [furrow_eq hh hw h1 (by omega)]
    have hc := cost_bound hh hw
    omega
theorem now_bound {l : List StepT} {w : List Span} {h : HorT} (hs : StepsOk l w) (hh : HorOk h) (h0 : 0 ≤ h.1) (h1 : h.1 ≤ h.2.2.2.1) : ∀ i, i ≤ l.length → -(41001 * (i : Int)) ≤ nowM l w h i ∧ nowM l w h i ≤ h.2.2.2.1
  | 0, _ => ⟨by show -(41001 * ((0 : Nat) : Int)) ≤ h.1; omega, h1⟩
  | i + 1, hi => by
    have ih := now_bound hs hh h0 h1 i (by omega)
    have hl := hs.len
    have hr := hs.rest i (by omega)
    have hb := do_bound hh (hs.work i (by omega)) hr.1 hr.2 (now := nowM l w h i) (by omega) ih.2
    show -(41001 * ((i + 1 : Nat) : Int)) ≤ doM h (l.getD i (0, 0, 0)) (w.getD i (0, 0)) (nowM l w h i) ∧ doM h (l.getD i (0, 0, 0)) (w.getD i (0, 0)) (nowM l w h i) ≤ h.2.2.2.1
    omega
structure Less (h h' : HorT) : Prop where
  full : h.2.2.2.1 ≤ h'.2.2.2.1
  loss : h'.2.1 ≤ h.2.1
  gain : h.2.2.1 ≤ h'.2.2.1
theorem do_mono {h h' : HorT} (hh : HorOk h) (hh' : HorOk h') (hL : Less h h') {s : StepT} {w w' : Span} (hw : WOk w) (hw' : WOk w') (ho : ofM h' w' ≤ ofM h w) (r0 : 0 ≤ s.2.2) (r1 : s.2.2 ≤ 10000) {now now' : Int} (h1 : -1000000000 ≤ now) (h2 : now' ≤ 1000000000) (hn : now ≤ now') : doM h s w now ≤ doM h' s w' now' := by
  unfold doM
  split
  · rw [rest_eq hh r0 r1 h1 (by omega), rest_eq hh' r0 r1 (by omega) h2]
    have hm : h.2.2.1 * s.2.2 ≤ h'.2.2.1 * s.2.2 := Int.mul_le_mul_of_nonneg_right hL.gain r0
    have := hL.full
    omega
  · rw [furrow_eq hh hw h1 (by omega), furrow_eq hh' hw' (by omega) h2]
    have hb := of_bound hw' h'
    have hm : h'.2.1 * ofM h' w' ≤ h.2.1 * ofM h w := Int.mul_le_mul hL.loss ho hb.1 hh.l0
    unfold costM
    omega
theorem now_mono {l : List StepT} {w w' : List Span} {h h' : HorT} (hs : StepsOk l w) (hs' : StepsOk l w') (hh : HorOk h) (hh' : HorOk h') (hL : Less h h') (h0 : 0 ≤ h.1) (h1 : h.1 ≤ h.2.2.2.1) (h0' : 0 ≤ h'.1) (h1' : h'.1 ≤ h'.2.2.2.1) (hn : h.1 ≤ h'.1)
    (ho : ∀ i, i < l.length → ofM h' (w'.getD i (0, 0)) ≤ ofM h (w.getD i (0, 0))) : ∀ i, i ≤ l.length → nowM l w h i ≤ nowM l w' h' i
  | 0, _ => hn
  | i + 1, hi => by
    have ih := now_mono hs hs' hh hh' hL h0 h1 h0' h1' hn ho i (by omega)
    have hb := now_bound hs hh h0 h1 i (by omega)
    have hb' := now_bound hs' hh' h0' h1' i (by omega)
    have hl := hs.len
    have hr := hs.rest i (by omega)
    have hf := hh'.f1
    exact do_mono hh hh' hL (hs.work i (by omega)) (hs'.work i (by omega)) (ho i (by omega)) hr.1 hr.2 (by omega) (by omega) ih
theorem fail_iff (l : List StepT) (w : List Span) (h : HorT) : (failedM l w h).2 = true ↔ ∃ i, i < l.length ∧ nowM l w h (i + 1) < 0 := by
  unfold failedM
  split
  · rename_i i hi
    rw [List.find?_range_eq_some] at hi
    exact ⟨fun _ => ⟨i, List.mem_range.1 hi.2.1, of_decide_eq_true hi.1⟩, fun _ => rfl⟩
  · rename_i hi
    rw [List.find?_range_eq_none] at hi
    refine ⟨(fun h => nomatch h), fun ⟨i, h1, h2⟩ => ?_⟩
    have := hi i h1
    simp only [Bool.not_eq_true', decide_eq_false_iff_not] at this
    exact absurd h2 this
theorem fail_mono {l : List StepT} {w w' : List Span} {h h' : HorT} (hm : ∀ i, i ≤ l.length → nowM l w h i ≤ nowM l w' h' i) (hf : (failedM l w h).2 = false) : (failedM l w' h').2 = false := by
  cases e : (failedM l w' h').2 with
  | false => rfl
  | true =>
    obtain ⟨i, hi, hlt⟩ := (fail_iff _ _ _).1 e
    have := hm (i + 1) (by omega)
    have : (failedM l w h).2 = true := (fail_iff _ _ _).2 ⟨i, hi, by omega⟩
    rw [hf] at this; cases this
end AE.Team

namespace AE.Team
open Go AE Go.Proofs AE.Soil

theorem comes_err {t : TeamT} {p : PlotT} (h : (openErrM t p true == 0) = false) : comesM t p = (0, openErrM t p true) := by
  unfold comesM; exact if_neg (by rw [h]; decide)
theorem open_hard {t : TeamT} {p : PlotT} {is : Bool} (h : (openErrM t p is == 0) = true) : ((hardOM p.g 0).2 == 0) = true := by
  have h1 := open_team h
  have h2 := open_plot h
  have h3 := open_is h
  unfold openErrM at h
  cases hh : (hardOM p.g 0).2 == 0 with
  | true => rfl
  | false => rw [hh, h1, h2, h3] at h; simp at h
theorem open_all {t : TeamT} {p : PlotT} (h1 : teamM t = true) (h2 : isPlotM p = true) (h3 : ((hardOM p.g 0).2 == 0) = true) : (openErrM t p true == 0) = true := by
  unfold openErrM; rw [h1, h2, h3]; rfl
theorem comes_told {t : TeamT} {p : PlotT} (h : (openErrM t p true == 0) = true) : comesM t p = (ansM (fallM t p true).2 (fallM t p false).2, 0) := by
  unfold comesM; exact if_pos h
theorem team_ok {t : TeamT} (h : teamM t = true) : (0 ≤ t.2.2.2 ∧ t.2.2.2 ≤ 10000) ∧ (0 ≤ t.1.1 ∧ t.1.1 ≤ t.1.2 ∧ t.1.2 ≤ t.2.2.2) ∧ (0 ≤ t.2.1.1 ∧ t.2.1.1 ≤ t.2.1.2 ∧ t.2.1.2 ≤ 100) ∧ (0 ≤ t.2.2.1.1 ∧ t.2.2.1.1 ≤ t.2.2.1.2 ∧ t.2.2.1.2 ≤ 1000) := by
  unfold teamM inM spanM at h
  simp only [Bool.and_eq_true, decide_eq_true_eq] at h
  omega
theorem hor_ok {t : TeamT} (h : teamM t = true) (b : Bool) : HorOk (horM t b) ∧ 0 ≤ (horM t b).1 ∧ (horM t b).1 ≤ (horM t b).2.2.2.1 := by
  have := team_ok h
  cases b with
  | true => exact ⟨⟨by show 0 ≤ t.2.1.2; omega, by show t.2.1.2 ≤ 100; omega, by show 0 ≤ t.2.2.1.1; omega, by show t.2.2.1.1 ≤ 1000; omega, by show 0 ≤ t.2.2.2; omega, by show t.2.2.2 ≤ 10000; omega⟩, by show 0 ≤ t.1.1; omega, by show t.1.1 ≤ t.2.2.2; omega⟩
  | false => exact ⟨⟨by show 0 ≤ t.2.1.1; omega, by show t.2.1.1 ≤ 100; omega, by show 0 ≤ t.2.2.1.2; omega, by show t.2.2.1.2 ≤ 1000; omega, by show 0 ≤ t.2.2.2; omega, by show t.2.2.2 ≤ 10000; omega⟩, by show 0 ≤ t.1.2; omega, by show t.1.2 ≤ t.2.2.2; omega⟩
theorem plot_ok {p : PlotT} (h : isPlotM p = true) : groundM p.g = true ∧ p.steps.length ≤ 12 ∧ ∀ i, i < p.steps.length → okStepM p.g.long (p.steps.getD i (0, 0, 0)) = true := by
  have h0 := h
  rw [plot_eq] at h
  simp only [Bool.and_eq_true, decide_eq_true_eq] at h
  refine ⟨h.1.1, by omega, fun i hi => ?_⟩
  cases e : okStepM p.g.long (p.steps.getD i (0, 0, 0)) with
  | true => rfl
  | false =>
    have := plot_no (p := p) hi (by show (!okStepM p.g.long (p.steps.getD i (0, 0, 0))) = true; rw [e]; rfl)
    rw [h0] at this; cases this
theorem step_rest_ok {long : Int} {s : StepT} (h : okStepM long s = true) : 0 ≤ s.2.2 ∧ s.2.2 ≤ 600 := by
  unfold okStepM inM at h
  simp only [Bool.and_eq_true, decide_eq_true_eq] at h
  exact h.1
theorem look_of {p : PlotT} (hg : groundM p.g = true) (h : ((hardOM p.g 0).2 == 0) = true) : lookM p.g = true := by
  have hok := ground_ok hg
  have h0 : Pl p.g 0 := ⟨Int.le_refl _, by have := hok.long.1; omega⟩
  rw [hard_told hg h0] at h
  cases hl : lookM p.g with
  | true => rfl
  | false => rw [hl] at h; simp at h
theorem works_ok {p : PlotT} (hp : isPlotM p = true) (hh : ((hardOM p.g 0).2 == 0) = true) : StepsOk p.steps (worksM p) := by
  obtain ⟨hg, hl, hs⟩ := plot_ok hp
  refine ⟨by omega, fun i hi => ?_, fun i hi => ?_⟩
  · have := step_rest_ok (hs i hi); omega
  · rw [works_get p i hi]
    have hsi := hs i hi
    revert hsi
    generalize p.steps.getD i (0, 0, 0) = s
    intro hsi
    unfold wM
    cases hr : s.2.2 == 0 with
    | false => exact ⟨by show (0 : Int) ≤ 0; omega, by show (0 : Int) ≤ 0; omega, by show (0 : Int) ≤ 41000; omega⟩
    | true =>
      unfold okStepM inM at hsi
      rw [hr] at hsi
      simp only [Bool.not_true, Bool.false_or, Bool.and_eq_true, decide_eq_true_eq] at hsi
      have hok := ground_ok hg
      have hlook := look_of hg hh
      have hn := n_ok hok
      have ha : Pl p.g s.1 := ⟨hsi.2.1.1, by omega⟩
      have hb : Pl p.g s.2.1 := ⟨by omega, hsi.2.2.2⟩
      have hb2 := hb.2
      have e := work_told hg ha hb hsi.2.1.2
      rw [hlook] at e
      simp only [if_true] at e ⊢
      rw [e]
      have hs := sum_bound hok (look_hok hok hlook) s.1.toNat (s.2.1.toNat + 1 - s.1.toNat) (by omega)
      have hl2 := hok.long.2
      exact ⟨hs.1, hs.2.1, by show (sumM p.g s.1.toNat (s.2.1.toNat + 1 - s.1.toNat)).2 ≤ 41000; omega⟩
theorem of_le {w : Span} (hw : WOk w) (t t' : TeamT) : ofM (horM t' false) w ≤ ofM (horM t true) w := hw.2.1
theorem less_case {t : TeamT} (h : teamM t = true) : Less (horM t true) (horM t false) := by
  have := team_ok h
  exact ⟨Int.le_refl _, by show t.2.1.1 ≤ t.2.1.2; omega, by show t.2.2.1.1 ≤ t.2.2.1.2; omega⟩
theorem case_mono {t : TeamT} {l : List StepT} {w : List Span} (h : teamM t = true) (hs : StepsOk l w) : ∀ i, i ≤ l.length → nowM l w (horM t true) i ≤ nowM l w (horM t false) i := by
  obtain ⟨a1, a2, a3⟩ := hor_ok h true
  obtain ⟨b1, b2, b3⟩ := hor_ok h false
  have := team_ok h
  exact now_mono hs hs a1 b1 (less_case h) a2 a3 b2 b3 (by show t.1.1 ≤ t.1.2; omega) fun i hi => of_le (hs.work i hi) t t
theorem ans_two {t : TeamT} {p : PlotT} (h : (openErrM t p true == 0) = true) : ((comesM t p).1 == 2) = safeM p.steps (worksM p) t := by
  rw [comes_told h]
  have hs := works_ok (open_plot h) (open_hard h)
  have hm := fail_mono (case_mono (open_team h) hs)
  show (ansM (failedM p.steps (worksM p) (horM t true)).2 (failedM p.steps (worksM p) (horM t false)).2 == 2) = !(failedM p.steps (worksM p) (horM t true)).2
  revert hm
  generalize (failedM p.steps (worksM p) (horM t true)).2 = a
  generalize (failedM p.steps (worksM p) (horM t false)).2 = b
  cases a <;> cases b <;> decide
theorem first_true {p : Int → Bool} {to : Int} (h : (firstM p to).2 = true) : 0 ≤ (firstM p to).1 ∧ (firstM p to).1 ≤ to ∧ p (firstM p to).1 = true ∧ ∀ j, 0 ≤ j → j < (firstM p to).1 → p j = false := by
  unfold firstM at h ⊢
  split at h
  · rename_i i hi
    rw [List.find?_range_eq_some] at hi
    have hlt := List.mem_range.1 hi.2.1
    refine ⟨Int.natCast_nonneg _, by show (i : Int) ≤ to; omega, hi.1, fun j h0 h1 => ?_⟩
    have := hi.2.2 j.toNat (by have h1' : j < (i : Int) := h1; omega)
    rw [show ((j.toNat : Nat) : Int) = j by omega] at this
    simpa using this
  · cases h
theorem first_false {p : Int → Bool} {to : Int} (h : (firstM p to).2 = false) : (firstM p to).1 = 0 ∧ ∀ j, 0 ≤ j → j ≤ to → p j = false := by
  unfold firstM at h ⊢
  split at h
  · cases h
  · rename_i hi
    rw [List.find?_range_eq_none] at hi
    refine ⟨rfl, fun j h0 h1 => ?_⟩
    have := hi j.toNat (by omega)
    rw [show ((j.toNat : Nat) : Int) = j by omega] at this
    simpa using this
end AE.Team

namespace AE.Team
open Go AE Go.Proofs AE.Soil

theorem getD_app_left {α : Type} {a b : List α} {i : Nat} (d : α) (h : i < a.length) : (a ++ b).getD i d = a.getD i d := by
  simp [List.getD_eq_getElem?_getD, List.getElem?_append_left h]
theorem getD_app_at {α : Type} {a b : List α} {i : Nat} (d : α) : (a ++ b).getD (a.length + i) d = b.getD i d := by
  rw [List.getD_eq_getElem?_getD, List.getD_eq_getElem?_getD, List.getElem?_append_right (Nat.le_add_right _ _), Nat.add_sub_cancel_left]
section
variable {g : GroundT} {st : List StepT} {h : HorT} {r : List Int}
end
end AE.Team

namespace AE.Team
open Go AE Go.Proofs AE.Soil

section
variable {l : List StepT} {w : List Span} {h : HorT}
def minM (l : List StepT) (w : List Span) (h : HorT) (i : Nat) : Int := (tryM l w h i (goM l w h i).2).1
theorem go_get : ∀ (n i : Nat), i < n → (goM l w h n).1.getD i 0 = minM l w h i
  | 0, i, hi => absurd hi (Nat.not_lt_zero i)
  | n + 1, i, hi => by
    show ((goM l w h n).1 ++ [minM l w h n]).getD i 0 = _
    have hl := go_len l w h n
    by_cases h1 : i < n
    · rw [getD_app_left _ (by omega)]; exact go_get n i h1
    · have e : i = (goM l w h n).1.length + 0 := by omega
      rw [e, getD_app_at, hl]; rfl
structure FOk (l : List StepT) (w : List Span) (h : HorT) : Prop where
  hor : HorOk h
  s0 : 0 ≤ h.1
  s1 : h.1 ≤ h.2.2.2.1
  st : StepsOk l w
  z : ∀ i, i < l.length → (l.getD i (0, 0, 0)).2.2 = 0
theorem FOk.no (f : FOk l w h) {i : Nat} (hi : i < l.length) : (stpM l i).1 = false := by
  unfold stpM
  exact decide_eq_false (by rw [f.z i hi]; decide)
theorem suit_eq (f : FOk l w h) {i : Nat} (hi : i < l.length) (now m : Int) : suitM (.inr (trialM l w h i now)) m = decide (furrowM h (w.getD i (0, 0)) (restM h m now) ≥ 0) := by
  show decide (stepM (trialM l w h i now) (restM h m now) ≥ 0) = _
  rw [step_furrow (f.no hi)]
theorem go_suc (f : FOk l w h) {i : Nat} (hi : i < l.length) : (goM l w h (i + 1)).2 = furrowM h (w.getD i (0, 0)) (restM h (minM l w h i) (goM l w h i).2) := by
  show stepM (trialM l w h i (goM l w h i).2) (restM h (minM l w h i) (goM l w h i).2) = _
  rw [step_furrow (f.no hi)]
theorem min_ok (f : FOk l w h) {i : Nat} (hi : i < l.length) (hok : okAtM l w h i = true) : 0 ≤ minM l w h i ∧ minM l w h i ≤ h.2.2.2.1 ∧ 0 ≤ (goM l w h (i + 1)).2 ∧ ∀ j, 0 ≤ j → j < minM l w h i → furrowM h (w.getD i (0, 0)) (restM h j (goM l w h i).2) < 0 := by
  obtain ⟨a1, a2, a3, a4⟩ := first_true (p := fun m => suitM (.inr (trialM l w h i (goM l w h i).2)) m) (to := h.2.2.2.1) hok
  refine ⟨a1, a2, ?_, fun j h0 h1 => ?_⟩
  · rw [go_suc f hi]
    have a3' : suitM (.inr (trialM l w h i (goM l w h i).2)) (minM l w h i) = true := a3
    rw [suit_eq f hi] at a3'
    exact of_decide_eq_true a3'
  · have := a4 j h0 h1
    have this' : suitM (.inr (trialM l w h i (goM l w h i).2)) j = false := this
    rw [suit_eq f hi] at this'
    have := of_decide_eq_false this'
    omega
theorem go_bound (f : FOk l w h) : ∀ i, i ≤ l.length → (∀ j, j < i → okAtM l w h j = true) → 0 ≤ (goM l w h i).2 ∧ (goM l w h i).2 ≤ h.2.2.2.1
  | 0, _, _ => ⟨f.s0, f.s1⟩
  | i + 1, hi, hok => by
    have ih := go_bound f i (by omega) fun j hj => hok j (by omega)
    have hm := min_ok f (by omega) (hok i (by omega))
    refine ⟨hm.2.2.1, ?_⟩
    rw [go_suc f (by omega)]
    have hf1 := f.hor.f1
    have hf0 := f.hor.f0
    have hmb := mul_bound f.hor.g0 f.hor.g1 hm.1 (show minM l w h i ≤ 10000 by omega)
    have er := rest_eq f.hor hm.1 (show minM l w h i ≤ 10000 by omega) (show -1000000000 ≤ (goM l w h i).2 by omega) (by omega)
    rw [er, furrow_eq f.hor (f.st.work i (by omega)) (by omega) (by omega)]
    have := cost_bound f.hor (f.st.work i (by omega))
    omega
theorem rest_zero (f : FOk l w h) {now : Int} (h0 : 0 ≤ now) (h1 : now ≤ h.2.2.2.1) : restM h 0 now = now := by
  have hf1 := f.hor.f1
  rw [rest_eq f.hor (Int.le_refl _) (by decide) (by omega) (by omega)]
  omega
theorem go_safe (f : FOk l w h) (hs : (failedM l w h).2 = false) : ∀ i, i ≤ l.length → (goM l w h i).2 = nowM l w h i ∧ ∀ j, j < i → okAtM l w h j = true ∧ minM l w h j = 0
  | 0, _ => ⟨rfl, fun j hj => absurd hj (Nat.not_lt_zero j)⟩
  | i + 1, hi => by
    obtain ⟨e, hj⟩ := go_safe f hs i (by omega)
    have hb := go_bound f i (by omega) fun j h => (hj j h).1
    have hnow : 0 ≤ nowM l w h (i + 1) := by
      by_cases h0 : 0 ≤ nowM l w h (i + 1)
      · exact h0
      · have : (failedM l w h).2 = true := (fail_iff _ _ _).2 ⟨i, by omega, by omega⟩
        rw [hs] at this; cases this
    have en : nowM l w h (i + 1) = furrowM h (w.getD i (0, 0)) (nowM l w h i) := now_furrow w h (f.no (by omega))
    have h0 : suitM (.inr (trialM l w h i (goM l w h i).2)) 0 = true := by
      rw [suit_eq f (by omega), rest_zero f hb.1 hb.2, e, ← en]
      exact decide_eq_true hnow
    have hok : okAtM l w h i = true := by
      cases hh : okAtM l w h i with
      | true => rfl
      | false =>
        have := (first_false (p := fun m => suitM (.inr (trialM l w h i (goM l w h i).2)) m) (to := h.2.2.2.1) hh).2 0 (Int.le_refl _) f.hor.f0
        have this' : suitM (.inr (trialM l w h i (goM l w h i).2)) 0 = false := this
        rw [h0] at this'; cases this'
    have hmz : minM l w h i = 0 := by
      obtain ⟨a1, a2, a3, a4⟩ := first_true (p := fun m => suitM (.inr (trialM l w h i (goM l w h i).2)) m) (to := h.2.2.2.1) hok
      have a1' : 0 ≤ minM l w h i := a1
      by_cases hp : 0 < minM l w h i
      · have := a4 0 (Int.le_refl _) hp
        have this' : suitM (.inr (trialM l w h i (goM l w h i).2)) 0 = false := this
        rw [h0] at this'; cases this'
      · omega
    refine ⟨?_, fun j hj2 => ?_⟩
    · rw [go_suc f (by omega), hmz, rest_zero f hb.1 hb.2, e, ← en]
    · rcases Nat.lt_or_eq_of_le (Nat.le_of_lt_succ hj2) with h2 | rfl
      · exact hj j h2
      · exact ⟨hok, hmz⟩
theorem safe_go (f : FOk l w h) (hok : ∀ j, j < l.length → okAtM l w h j = true ∧ minM l w h j = 0) : (failedM l w h).2 = false := by
  have key : ∀ i, i ≤ l.length → (goM l w h i).2 = nowM l w h i := by
    intro i
    induction i with
    | zero => intro _; rfl
    | succ i ih =>
      intro hi
      have hb := go_bound f i (by omega) fun j hj => (hok j (by omega)).1
      rw [go_suc f (by omega), (hok i (by omega)).2, rest_zero f hb.1 hb.2, ih (by omega)]
      exact (now_furrow w h (f.no (by omega))).symm
  cases hh : (failedM l w h).2 with
  | false => rfl
  | true =>
    obtain ⟨i, hi, hlt⟩ := (fail_iff _ _ _).1 hh
    have := (go_bound f (i + 1) (by omega) fun j hj => (hok j (by omega)).1).1
    rw [key (i + 1) (by omega)] at this
    omega
end
end AE.Team
