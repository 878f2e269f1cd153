/- An own symbolic executor for the model's code, and what the functions beneath the law compute, joined out of: TmP, TmQ, TmR, TmS, TmM, TmL, TmT, TmV, TmX, SoS, SoT, SoV, SoW, SoTA, SoRA, SoRB, SoX. No condition. -/
import Derived.Test.YtlhpkhpgjccbpaaGreatM4

set_option linter.unusedSimpArgs false
set_option linter.unusedVariables false
set_option maxHeartbeats 0
set_option maxRecDepth 100000
namespace AE.Team
open Go AE Go.Proofs AE.Soil

def uV (n : Int) : AV := .v (.int .u64 n)
def avUi : AV → Option Int
  | .v (.int .u64 n) => some n
  | _ => none
abbrev EntT := Int × Int × Bool
def sfAtM (es : List EntT) (p k : Int) : Bool := mhasM UU MM.safe [p, k] es && (mgetM UU MM.safe [p, k] es).2.2
def setBM (u : Int) (k : Nat) : Int := ((u.toNat ||| 2 ^ k : Nat) : Int)
def freeBM (u : Int) (k : Nat) : Bool := !u.toNat.testBit k
def onM (es : List EntT) (nt : Int) (ps : List Int) : Nat → Nat → Int → List Int → Bool × Int × List Int
  | 0, _, u, out => (true, u, out)
  | n + 1, i, u, out => match (List.range nt.toNat).find? fun k => freeBM u k && sfAtM es (ps.getD i 0) (k : Int) && (onM es nt ps n (i + 1) (setBM u k) (out ++ [(k : Int)])).1 with
    | some k => onM es nt ps n (i + 1) (setBM u k) (out ++ [(k : Int)])
    | none => (false, u, out)
def testM (es : List EntT) (nt : Int) (ps : List Int) (n i : Nat) (u : Int) (out : List Int) (k : Nat) : Bool := freeBM u k && sfAtM es (ps.getD i 0) (k : Int) && (onM es nt ps n (i + 1) (setBM u k) (out ++ [(k : Int)])).1
theorem onM_false {es : List EntT} {nt : Int} {ps : List Int} : ∀ (n i : Nat) (u : Int) (out : List Int), (onM es nt ps n i u out).1 = false → onM es nt ps n i u out = (false, u, out)
  | 0, i, u, out, h => by simp [onM] at h
  | n + 1, i, u, out, h => by
    rw [onM] at h ⊢
    split at h
    · rename_i k hk
      have := List.find?_some hk
      simp only [Bool.and_eq_true] at this
      rw [this.2] at h
      cases h
    · rename_i hk
      rfl
theorem on_some {es : List EntT} {nt : Int} {ps : List Int} {n i : Nat} {u : Int} {out : List Int} {k : Nat} (hk : (k : Int) < nt) (h : testM es nt ps n i u out k = true) (h0 : ∀ j, j < k → testM es nt ps n i u out j = false) : onM es nt ps (n + 1) i u out = onM es nt ps n (i + 1) (setBM u k) (out ++ [(k : Int)]) := by
  have : (List.range nt.toNat).find? (fun k => testM es nt ps n i u out k) = some k := by
    rw [List.find?_range_eq_some]
    refine ⟨h, List.mem_range.2 (by omega), fun j hj => ?_⟩
    rw [h0 j hj]; rfl
  rw [onM]
  simp only [testM] at this
  rw [this]
theorem on_none {es : List EntT} {nt : Int} {ps : List Int} {n i : Nat} {u : Int} {out : List Int} (h0 : ∀ j : Nat, (j : Int) < nt → testM es nt ps n i u out j = false) : onM es nt ps (n + 1) i u out = (false, u, out) := by
  have : (List.range nt.toNat).find? (fun k => testM es nt ps n i u out k) = none := by
    rw [List.find?_range_eq_none]
    intro j hj
    rw [h0 j (by omega)]; rfl
  rw [onM]
  simp only [testM] at this
  rw [this]
theorem has_math {u : Int} {k : Nat} (h1 : 0 ≤ u) (h2 : u < 64) (h3 : k < 6) : (IntKind.u64.wrap (BitVec.ofInt 64 (u.fdiv (2 ^ min k 64)) &&& BitVec.ofInt 64 1).toNat == 1) = !freeBM u k := by
  obtain ⟨m, rfl⟩ := Int.eq_ofNat_of_zero_le h1
  have hm : m < 64 := by omega
  have : ∀ m : Fin 64, ∀ k : Fin 6, (IntKind.u64.wrap (BitVec.ofInt 64 (((m.val : Nat) : Int).fdiv (2 ^ min k.val 64)) &&& BitVec.ofInt 64 1).toNat == 1) = !freeBM ((m.val : Nat) : Int) k.val := by decide +kernel
  exact this ⟨m, hm⟩ ⟨k, h3⟩
theorem set_math {u : Int} {k : Nat} (h1 : 0 ≤ u) (h2 : u < 64) (h3 : k < 6) : IntKind.u64.wrap (BitVec.ofInt 64 u ||| BitVec.ofInt 64 (IntKind.u64.wrap (1 * 2 ^ min k 64))).toNat = setBM u k := by
  obtain ⟨m, rfl⟩ := Int.eq_ofNat_of_zero_le h1
  have hm : m < 64 := by omega
  have : ∀ m : Fin 64, ∀ k : Fin 6, IntKind.u64.wrap (BitVec.ofInt 64 ((m.val : Nat) : Int) ||| BitVec.ofInt 64 (IntKind.u64.wrap (1 * 2 ^ min k.val 64))).toNat = setBM ((m.val : Nat) : Int) k.val := by decide +kernel
  exact this ⟨m, hm⟩ ⟨k, h3⟩
theorem set_lt {u : Int} {k : Nat} (h1 : 0 ≤ u) (h2 : u < 64) (h3 : k < 6) : 0 ≤ setBM u k ∧ setBM u k < 64 := by
  obtain ⟨m, rfl⟩ := Int.eq_ofNat_of_zero_le h1
  have hm : m < 64 := by omega
  have : ∀ m : Fin 64, ∀ k : Fin 6, 0 ≤ setBM ((m.val : Nat) : Int) k.val ∧ setBM ((m.val : Nat) : Int) k.val < 64 := by decide +kernel
  exact this ⟨m, hm⟩ ⟨k, h3⟩
theorem clear_math {u : Int} {k : Nat} (h1 : 0 ≤ u) (h2 : u < 64) (h3 : k < 6) (hf : freeBM u k = true) : IntKind.u64.wrap (BitVec.ofInt 64 (setBM u k) &&& ~~~BitVec.ofInt 64 (IntKind.u64.wrap (1 * 2 ^ min k 64))).toNat = u := by
  obtain ⟨m, rfl⟩ := Int.eq_ofNat_of_zero_le h1
  have hm : m < 64 := by omega
  have : ∀ m : Fin 64, ∀ k : Fin 6, freeBM ((m.val : Nat) : Int) k.val = true → IntKind.u64.wrap (BitVec.ofInt 64 (setBM ((m.val : Nat) : Int) k.val) &&& ~~~BitVec.ofInt 64 (IntKind.u64.wrap (1 * 2 ^ min k.val 64))).toNat = ((m.val : Nat) : Int) := by decide +kernel
  exact this ⟨m, hm⟩ ⟨k, h3⟩ hf
abbrev OnT := List EntT × Int × List Int × Nat × Int × List Int
def mapSafe : (m : MM) → List (MM.ty m) → Option (List EntT)
  | .safe, l => some l
  | _, _ => none
def avField (H : Heap UU) : AV → Option (List EntT × Int)
  | .ptr i 0 0 0 => match blkAt H i 0 with
    | some (.cells [.map m 0, n, _] _) => match blkAt H m 0, avInt n with
      | some (.map m l), some n => match mapSafe m l with
        | some l => some (l, n)
        | none => none
      | _, _ => none
    | some (.rc [.map m 0, n, _] _) => match blkAt H m 0, avInt n with
      | some (.map m l), some n => match mapSafe m l with
        | some l => some (l, n)
        | none => none
      | _, _ => none
    | _ => none
  | _ => none
def nilV : AV := .v (.slice none 0 0)
def isNilV : AV → Bool
  | .v (.slice none 0 0) => true
  | _ => false
def onH (b : Bool) (x : OnT) : Heap UU := [.one (.rc [.sl 1 0 0 x.2.2.1.length] 43), .one (.ro .int x.2.2.1), .one (.rc [.ptr 3 0 0 0] 108), .one (.rc [.map 4 0, .i x.2.1, .junk] 115), .one (.map .safe x.1), .one (.cells [uV x.2.2.2.2.1] 112), .one (.cells [match b with | true => nilV | false => .gs 7 0] 43), match b with | true => .none | false => .one (.row .int x.2.2.2.2.2 3), .one (.rc [.fn (.func 97) [] [.ptr 0 0 0 0, .ptr 2 0 0 0, .ptr 5 0 0 0, .ptr 6 0 0 0, .ptr 8 0 0 0]] 61)]
def onHL (x : OnT) : Heap UU := [.one (.rc [.sl 1 0 0 x.2.2.1.length] 43), .one (.ro .int x.2.2.1), .one (.rc [.ptr 3 0 0 0] 108), .one (.rc [.map 4 0, .i x.2.1, .junk] 115), .one (.map .safe x.1), .one (.cells [uV x.2.2.2.2.1] 112), .one (.cells [.gs 9 0] 43), .none, .one (.rc [.fn (.func 97) [] [.ptr 0 0 0 0, .ptr 2 0 0 0, .ptr 5 0 0 0, .ptr 6 0 0 0, .ptr 8 0 0 0]] 61), .one (.row .int x.2.2.2.2.2 3)]
def onS (n : Nat) : FSpec UU where
  X := Bool × OnT
  pick := fun args H => match args with
    | [i, a, b, c, d, _] => match avInt i, avCells H a, avCells H b, avCells H c, avCells H d with
      | some i, some [s], some [f], some [u], some [o] => match sliceAt .int H s, avField H f, avUi u, sliceAt .int H o with
        | some s, some f, some u, some l => some (isNilV o, f.1, f.2, s, i.toNat, u, l)
        | _, _, _, _ => none
      | _, _, _, _, _ => none
    | _ => none
  args := fun x => [.i (x.2.2.2.2.1 : Nat), .ptr 0 0 0 0, .ptr 2 0 0 0, .ptr 5 0 0 0, .ptr 6 0 0 0, .ptr 8 0 0 0]
  H := fun x => onH x.1 x.2
  R := fun x => .val ⟨.b (onM x.2.1 x.2.2.1 x.2.2.2.1 n x.2.2.2.2.1 x.2.2.2.2.2.1 x.2.2.2.2.2.2).1, [(4, 0, .map .safe x.2.1), (5, 0, .cells [uV (onM x.2.1 x.2.2.1 x.2.2.2.1 n x.2.2.2.2.1 x.2.2.2.2.2.1 x.2.2.2.2.2.2).2.1] 112), (6, 0, .cells [.gs 9 0] 43)], match x.1 with | true => [] | false => [(7, 0)], [.row .int (onM x.2.1 x.2.2.1 x.2.2.2.1 n x.2.2.2.2.1 x.2.2.2.2.2.1 x.2.2.2.2.2.2).2.2 3]⟩
  pre := fun x => (x.1 = true → x.2.2.2.2.2.2 = []) ∧ x.2.2.2.2.1 + n = x.2.2.2.1.length ∧ x.2.2.2.1.length ≤ 6 ∧ x.2.2.2.2.2.2.length = x.2.2.2.2.1 ∧ 0 ≤ x.2.2.2.2.2.1 ∧ x.2.2.2.2.2.1 < 64 ∧ 0 ≤ x.2.2.1 ∧ x.2.2.1 ≤ 6
theorem on_ok0f : ∀ x, (onS 0).pre (false, x) → FunOk Tryz.prog 97 ((onS 0).args (false, x)) ((onS 0).H (false, x)) ((onS 0).R (false, x)) := by
  rintro ⟨es, nt, ps, i, u, out⟩ ⟨hn, hx⟩
  refine fun_of (T := []) (L := fun _ => some (.inv { T := Empty, fr := fun _ => [], H := fun _ => [], mu := fun _ => 0 })) (hs := fun _ => []) hmix .nil Tryz.func97 (by kernel_rfl) (by kernel_rfl) ?_
  refine Eq.mp (α :=
      let A1 := (97 : FuncId); let A0 := nat_lit 0 = nat_lit 0 ∧ nat_lit 0 = nat_lit 0 ∧ nat_lit 0 = nat_lit 0; let A2 := Prod.snd (onM es nt ps (nat_lit 0) i u out); let A3 := (↑i : Int) == (↑(List.length ps) : Int); (A3 = true → True ∧ (Value.bool (Prod.fst (onM es nt ps (nat_lit 0) i u out)) = Value.bool true ∧ True) ∧ True ∧ ((nat_lit 0 = nat_lit 0 ∧ nat_lit 0 = nat_lit 0 ∧ List.length ps = List.length ps) ∧ True) ∧ ps = ps ∧ (A0 ∧ True) ∧ (nat_lit 0 = nat_lit 0 ∧ Value.int IntKind.i64 nt = Value.int IntKind.i64 nt ∧ True ∧ True) ∧ es = es ∧ (Value.int IntKind.u64 u = Value.int IntKind.u64 (Prod.fst A2) ∧ True) ∧ (nat_lit 0 = nat_lit 0 ∧ True) ∧ True ∧ ((Fn.func A1 = Fn.func A1 ∧ True ∧ A0 ∧ A0 ∧ A0 ∧ A0 ∧ A0 ∧ True) ∧ True) ∧ ((3 : TypeId) = (3 : TypeId) ∧ out = Prod.snd A2) ∧ True) ∧ (A3 = false → (∃ (x : Empty), False) ∧ ∀ (t : Empty), False))
    (by kernel_rfl) ?_
  simp only [eq_self, AE.goS]
  have h1 : i + 0 = ps.length := hx.1
  refine ⟨fun _ => ⟨rfl, rfl, rfl⟩, fun h => ?_⟩
  rw [← h1] at h
  simp at h

theorem on_ok0t : ∀ x, (onS 0).pre (true, x) → FunOk Tryz.prog 97 ((onS 0).args (true, x)) ((onS 0).H (true, x)) ((onS 0).R (true, x)) := by
  rintro ⟨es, nt, ps, i, u, out⟩ ⟨hn, hx⟩
  refine fun_of (T := []) (L := fun _ => some (.inv { T := Empty, fr := fun _ => [], H := fun _ => [], mu := fun _ => 0 })) (hs := fun _ => []) hmix .nil Tryz.func97 (by kernel_rfl) (by kernel_rfl) ?_
  refine Eq.mp (α :=
      let A1 := True ∧ True ∧ True ∧ True; let A2 := (97 : FuncId); let A0 := nat_lit 0 = nat_lit 0 ∧ nat_lit 0 = nat_lit 0 ∧ nat_lit 0 = nat_lit 0; let A3 := Prod.snd (onM es nt ps (nat_lit 0) i u out); let A4 := (↑i : Int) == (↑(List.length ps) : Int); (A4 = true → True ∧ (True ∧ True) ∧ ((True ∧ True) ∧ True ∧ (True ∧ True) ∧ A1 ∧ True ∧ (True ∧ True) ∧ (nat_lit 0 = nat_lit 0 ∧ True) ∧ True ∧ ((True ∧ True ∧ True ∧ A1) ∧ True) ∧ Prod.snd A3 = [] ∧ True) ∧ (Value.bool (Prod.fst (onM es nt ps (nat_lit 0) i u out)) = Value.bool true ∧ True) ∧ True ∧ ((nat_lit 0 = nat_lit 0 ∧ nat_lit 0 = nat_lit 0 ∧ List.length ps = List.length ps) ∧ True) ∧ ps = ps ∧ (A0 ∧ True) ∧ (nat_lit 0 = nat_lit 0 ∧ Value.int IntKind.i64 nt = Value.int IntKind.i64 nt ∧ True ∧ True) ∧ es = es ∧ (Value.int IntKind.u64 u = Value.int IntKind.u64 (Prod.fst A3) ∧ True) ∧ (Value.slice none (nat_lit 0) (nat_lit 0) = Value.slice none (nat_lit 0) (nat_lit 0) ∧ True) ∧ True ∧ ((Fn.func A2 = Fn.func A2 ∧ True ∧ A0 ∧ A0 ∧ A0 ∧ A0 ∧ A0 ∧ True) ∧ True) ∧ True ∧ True) ∧ (A4 = false → (∃ (x : Empty), False) ∧ ∀ (t : Empty), False))
    (by kernel_rfl) ?_
  simp only [eq_self, AE.goS]
  have h1 : i + 0 = ps.length := hx.1
  have ho : out = [] := hn rfl
  refine ⟨fun _ => ⟨ho, rfl, rfl⟩, fun h => ?_⟩
  rw [← h1] at h
  simp at h

def onL (n : Nat) (x : OnT) : LSpec UU where
  T := { k : Nat // (k : Int) ≤ x.2.1 ∧ ∀ j, j < k → (freeBM x.2.2.2.2.1 j && sfAtM x.1 (x.2.2.1.getD x.2.2.2.1 0) (j : Int) && (onM x.1 x.2.1 x.2.2.1 n (x.2.2.2.1 + 1) (setBM x.2.2.2.2.1 j) (x.2.2.2.2.2 ++ [(j : Int)])).1) = false }
  fr := fun k => [(0, .i (x.2.2.2.1 : Nat)), (1, .ptr 0 0 0 0), (2, .ptr 2 0 0 0), (3, .ptr 5 0 0 0), (4, .ptr 6 0 0 0), (5, .ptr 8 0 0 0), (7, .b false), (16, .i x.2.1), (17, .i k.1)]
  H := fun _ => onHL x
  mu := fun k => (x.2.1 - k.1).toNat
def Ton (n : Nat) : Tab UU := [(97, (onS n).con)]
theorem on_okSf (n : Nat) (hT : (Ton n).Sound Tryz.prog) : ∀ x, (onS (n + 1)).pre (false, x) → FunOk Tryz.prog 97 ((onS (n + 1)).args (false, x)) ((onS (n + 1)).H (false, x)) ((onS (n + 1)).R (false, x)) := by
  rintro ⟨es, nt, ps, i, u, out⟩ ⟨hn, hx⟩
  refine fun_of (T := Ton n) (L := fun _ => some (.inv (onL n (es, nt, ps, i, u, out)))) (hs := fun _ => []) hmix hT Tryz.func97 (by kernel_rfl) (by kernel_rfl) ?_
  refine Eq.mp (α :=
      let Ae := Int.toNat (↑i : Int); let Af := (↑(List.length ps) : Int); let A1 := nat_lit 0 = nat_lit 0 ∧ nat_lit 0 = nat_lit 0 ∧ nat_lit 0 = nat_lit 0; let Ag := Fn.func ((97 : FuncId)); let Ah := nat_lit 3 = (3 : TypeId); let Ai := Value.int IntKind.i64 (↑i : Int); let Aj := Value.bool false = Value.bool false; let A3 := A1 ∧ True; let Aa := Value.int IntKind.i64 nt = Value.int IntKind.i64 nt; let Ak := onM es nt ps (n + nat_lit 1) i u out; let Ab := (3 : TypeId) = (3 : TypeId); let Al := (0 : Int) ≤ (↑i : Int); let Am := nat_lit 0 + Ae; let A4 := (nat_lit 0 = nat_lit 0 ∧ nat_lit 0 = nat_lit 0 ∧ List.length ps = List.length ps) ∧ True; let A5 := nat_lit 0 = nat_lit 0 ∧ Aa ∧ True ∧ True; let An := Prod.snd Ak; let Ao := Ai = Ai; let Ap := Value.bool (Prod.fst Ak); let Aq := (↑i : Int) == Af; let Ar := IntKind.wrap IntKind.i64 ((↑i : Int) + (1 : Int)); let As : List Int := Prod.snd An; let A6 := Int.toNat Ar; let At := Value.int IntKind.u64 (Prod.fst An); let Au := (Ap = Value.bool true) ∧ True; let Av := (es, ((nt, ((ps, ((i, u, out))))))); let Aw := A1 ∧ A1 ∧ A1 ∧ A1 ∧ A3; let Ax := Prod.snd Av; let Ay : List EntT := Prod.fst Av; let A7 := ((Ag = Ag) ∧ True ∧ Aw) ∧ True; let Az := Prod.fst Ax; let AA := Prod.snd Ax; let AB : List Int := Prod.fst AA; let AC := Prod.snd AA; let AD := Prod.snd AC; let AE := Prod.fst AC; let AF := Prod.fst AD; let AG := True ∧ A4 ∧ ps = ps ∧ A3 ∧ A5 ∧ es = es ∧ ((Value.int IntKind.u64 u = Value.int IntKind.u64 u) ∧ True) ∧ (nat_lit 0 = nat_lit 0 ∧ True) ∧ True ∧ A7 ∧ (Ab ∧ out = out) ∧ True; let AH := True ∧ A4 ∧ ps = ps ∧ A3 ∧ A5 ∧ es = es ∧ ((Value.int IntKind.u64 u = At) ∧ True) ∧ (nat_lit 0 = nat_lit 0 ∧ True) ∧ True ∧ A7 ∧ (Ab ∧ out = As) ∧ True; let B2 := fun (k : Nat) => ∀ (j : Nat), (j < k → ((((freeBM AF j) && (sfAtM Ay (List.getD AB AE (0 : Int)) (↑j : Int))) && (Prod.fst ((onM Ay Az AB n (AE + (1 : Nat)) ((setBM AF j)) (((Prod.snd AD) ++ ([(↑j : Int)]))))))) = false)); let A0 : Type := { k : Nat // (((↑k : Int) ≤ Az) ∧ B2 k) }; let A2 := fun (x : A0) => (↑((Subtype.val x)) : Int); let AI := fun (t : A0) => Int.toNat (A2 t); let Ac := fun (x : A0) => Value.int IntKind.i64 (A2 x); let AJ := fun (t : A0) => AV.v (Ac t); let Ad := fun (t : A0) => (0 : Int) ≤ A2 t; let AK := fun (x : A0) => Int.toNat ((nt - A2 x)); let AL := fun (t : A0) => [A2 t]; let AM := fun (t : A0) => (2 : Int) ^ (min (AI t) (nat_lit 64)); let AN := fun (t : A0) => (List.getD ps Am (0 : Int)) :: ([A2 t]); let AO := fun (t : A0) => BitVec.ofInt (nat_lit 64) ((IntKind.wrap IntKind.u64 (((1 : Int) * AM t)))); let A8 := fun (t : A0) => out ++ (List.take (1 : Nat) ((List.drop (0 : Nat) (AL t)))); let A9 := fun (t : A0) => IntKind.wrap IntKind.u64 (((↑((BitVec.toNat ((BitVec.ofInt (nat_lit 64) u ||| AO t)))) : Int))); let AP := fun (t : A0) => Value.int IntKind.u64 (A9 t); let AQ := fun (t : A0) => (IntKind.wrap IntKind.u64 (((↑((BitVec.toNat (((BitVec.ofInt (nat_lit 64) ((Int.fdiv u (AM t)))) &&& (BitVec.ofInt (nat_lit 64) (1 : Int)))))) : Int)))) == (1 : Int); let AR := fun (x t : A0) => AK x < AK t; let AS := fun (t : A0) => decide ((A2 t < nt)); let AT := fun (t : A0) => !(bif (mhasM UU MM.safe (AN t) es) then (Prod.snd ((Prod.snd ((mgetM UU MM.safe (AN t) es))))) else false); let AU := fun (t x : A0) => Ao ∧ (A1 ∧ (A1 ∧ (A1 ∧ (A1 ∧ (A1 ∧ (Aj ∧ (Aa ∧ (((Value.int IntKind.i64 ((IntKind.wrap IntKind.i64 ((A2 t + (1 : Int)))))) = Ac x) ∧ True)))))))); let AW := fun (t : A0) => onM es nt ps n A6 (A9 t) (A8 t); let AX := fun (t : A0) => Prod.fst (AW t); let AY := fun (t : A0) => Prod.snd (AW t); let AZ := fun (t : A0) => Prod.fst (AY t); let B0 := fun (t : A0) => Prod.snd ((Prod.snd ((onM es nt ps n A6 ((IntKind.wrap IntKind.u64 (((↑((BitVec.toNat (((BitVec.ofInt (64 : Nat) u) ||| (BitVec.ofInt (64 : Nat) ((IntKind.wrap IntKind.u64 (((1 : Int) * ((2 : Int) ^ (min (AI t) (64 : Nat)))))))))))) : Int))))) ((out ++ (List.take (nat_lit 1) ((List.drop (nat_lit 0) (AL t)))))))))); let B1 := fun (t : A0) => ∃ (x : A0), (AU t x ∧ AG) ∧ AR x t; (Aq = true → True ∧ Au ∧ AH) ∧ (Aq = false → (∃ (x : A0), (Ao ∧ A1 ∧ A1 ∧ A1 ∧ A1 ∧ A1 ∧ Aj ∧ Aa ∧ Value.int IntKind.i64 (0 : Int) = Ac x ∧ True) ∧ AG) ∧ ∀ (t : A0), (AS t = true → Ad t ∧ (AQ t = true → True ∧ B1 t) ∧ (AQ t = false → (Al ∧ (↑i : Int) < Af) ∧ Am < List.length ps ∧ (AT t = true → True ∧ B1 t) ∧ (AT t = false → Ad t ∧ (nat_lit 1 = nat_lit 1 ∧ AJ t = AJ t ∧ True) ∧ nat_lit 1 ≤ nat_lit 1 ∧ List.length out + nat_lit 1 ≤ nat_lit 1099511627776 ∧ ((false = true → A8 t = []) ∧ A6 + n = List.length ps ∧ List.length ps ≤ nat_lit 6 ∧ List.length (A8 t) = A6 ∧ (0 : Int) ≤ A9 t ∧ A9 t < (64 : Int) ∧ (0 : Int) ≤ nt ∧ nt ≤ (6 : Int)) ∧ (Value.int IntKind.i64 Ar = Value.int IntKind.i64 (↑A6 : Int) ∧ Aw) ∧ (A4 ∧ ps = ps ∧ A3 ∧ A5 ∧ es = es ∧ (AP t = AP t ∧ True) ∧ (nat_lit 0 = nat_lit 0 ∧ True) ∧ (Ah ∧ A8 t = A8 t) ∧ A7 ∧ True) ∧ (AX t = true → True ∧ Au ∧ True ∧ A4 ∧ ps = ps ∧ A3 ∧ A5 ∧ es = es ∧ (Value.int IntKind.u64 (AZ t) = At ∧ True) ∧ (nat_lit 0 = nat_lit 0 ∧ True) ∧ True ∧ A7 ∧ (Ab ∧ B0 t = As) ∧ True) ∧ (AX t = false → Ad t ∧ ((0 : Int) = (0 : Int) ∧ Al ∧ (↑i : Int) ≤ (↑(List.length (Prod.snd (AY t))) : Int)) ∧ True ∧ ∃ (x : A0), (AU t x ∧ True ∧ A4 ∧ ps = ps ∧ A3 ∧ A5 ∧ es = es ∧ (Value.int IntKind.u64 (IntKind.wrap IntKind.u64 (↑(BitVec.toNat (BitVec.ofInt (nat_lit 64) (AZ t) &&& ~~~AO t)) : Int)) = Value.int IntKind.u64 u ∧ True) ∧ (nat_lit 0 = nat_lit 0 ∧ True) ∧ True ∧ A7 ∧ (Ah ∧ List.take Ae (B0 t) = out) ∧ True) ∧ AR x t)))) ∧ (AS t = false → True ∧ (Ap = Value.bool false ∧ True) ∧ AH)))
    (by kernel_rfl) ?_
  simp only [eq_self, AE.goS]
  have x1 : i + (n + 1) = ps.length := hx.1
  have x2 : ps.length ≤ 6 := hx.2.1
  have x3 : out.length = i := hx.2.2.1
  have x4 : 0 ≤ u := hx.2.2.2.1
  have x5 : u < 64 := hx.2.2.2.2.1
  have x6 : 0 ≤ nt := hx.2.2.2.2.2.1
  have x7 : nt ≤ 6 := hx.2.2.2.2.2.2
  have hw : IntKind.i64.wrap ((i : Int) + 1) = ((i + 1 : Nat) : Int) := sucI i (by omega)
  refine ⟨fun h => ?_, fun h => ⟨⟨⟨0, x6, fun j hj => absurd hj (Nat.not_lt_zero j)⟩, rfl⟩, fun t => ⟨fun ht => ⟨Int.natCast_nonneg _, ?_⟩, fun ht => ?_⟩⟩⟩
  · have h' : (i : Int) = (ps.length : Int) := by simpa using h
    omega
  · obtain ⟨k, hk, h0⟩ := t
    have hlt : (k : Int) < nt := ht
    have hk6 : k < 6 := by omega
    have hsl := set_lt x4 x5 hk6
    have nxt : testM es nt ps n i u out k = false → ∃ x : { k : Nat // (k : Int) ≤ nt ∧ ∀ j, j < k → testM es nt ps n i u out j = false }, IntKind.i64.wrap ((k : Int) + 1) = (x.1 : Int) ∧ (nt - (x.1 : Int)).toNat < (nt - (k : Int)).toNat := fun hf =>
      ⟨⟨k + 1, by omega, below_succ h0 hf⟩, sucI k (by omega), by show (nt - ((k + 1 : Nat) : Int)).toNat < (nt - (k : Int)).toNat; omega⟩
    simp only [has_math x4 x5 hk6, set_math x4 x5 hk6, hw, Int.toNat_natCast, List.drop_zero, List.take_succ_cons, List.take_zero]
    refine ⟨fun hu => ?_, fun hu => ⟨⟨Int.natCast_nonneg _, by omega⟩, by omega, fun hs => ?_, fun hs => ⟨Int.natCast_nonneg _, Nat.le_refl _, by omega, ⟨fun h => absurd h (by decide), by omega, x2, by rw [List.length_append, x3]; rfl, hsl.1, hsl.2, x6, x7⟩, trivial, fun hr => ?_, fun hr => ?_⟩⟩⟩
    · refine nxt ?_
      have : freeBM u k = false := by simpa using hu
      unfold testM; rw [this]; rfl
    · refine nxt ?_
      have : sfAtM es (ps.getD i 0) (k : Int) = false := by
        unfold sfAtM
        cases hh : mhasM UU MM.safe [ps.getD i 0, (k : Int)] es with
        | true => rw [hh] at hs; simpa using hs
        | false => rfl
      unfold testM; rw [this, Bool.and_false]; rfl
    all_goals
      have hfr : freeBM u k = true := by simpa using hu
      have hsf : sfAtM es (ps.getD i 0) (k : Int) = true := by
        unfold sfAtM
        cases hh : mhasM UU MM.safe [ps.getD i 0, (k : Int)] es with
        | true => rw [hh] at hs; simpa using hs
        | false => rw [hh] at hs; simp at hs
    · have ht' : testM es nt ps n i u out k = true := by unfold testM; rw [hfr, hsf, hr]; rfl
      have e := on_some hlt ht' h0
      rw [e]
      exact ⟨hr, rfl, rfl⟩
    · have ht' : testM es nt ps n i u out k = false := by unfold testM; rw [hr, Bool.and_false]
      have e := onM_false _ _ _ _ hr
      rw [e]
      obtain ⟨y, hy1, hy2⟩ := nxt ht'
      refine ⟨Int.natCast_nonneg _, ⟨Int.natCast_nonneg _, by rw [List.length_append]; show (i : Int) ≤ ((out.length + 1 : Nat) : Int); omega⟩, y, ⟨hy1, clear_math x4 x5 hk6 hfr, ?_⟩, hy2⟩
      rw [← x3]; exact List.take_left
  · obtain ⟨k, hk, h0⟩ := t
    have hge : ¬ (k : Int) < nt := ht
    have e := on_none (es := es) (nt := nt) (ps := ps) (n := n) (i := i) (u := u) (out := out) (fun j hj => h0 j (by omega))
    rw [e]
    exact ⟨rfl, rfl, rfl⟩

theorem on_okSt (n : Nat) (hT : (Ton n).Sound Tryz.prog) : ∀ x, (onS (n + 1)).pre (true, x) → FunOk Tryz.prog 97 ((onS (n + 1)).args (true, x)) ((onS (n + 1)).H (true, x)) ((onS (n + 1)).R (true, x)) := by
  rintro ⟨es, nt, ps, i, u, out⟩ ⟨hn, hx⟩
  refine fun_of (T := Ton n) (L := fun _ => some (.inv (onL n (es, nt, ps, i, u, out)))) (hs := fun _ => []) hmix hT Tryz.func97 (by kernel_rfl) (by kernel_rfl) ?_
  refine Eq.mp (α :=
      let Aa := True ∧ True ∧ True ∧ True; let Ag := Int.toNat (↑i : Int); let A1 := nat_lit 0 = nat_lit 0 ∧ nat_lit 0 = nat_lit 0 ∧ nat_lit 0 = nat_lit 0; let Ah := (↑(List.length ps) : Int); let Ai := Fn.func ((97 : FuncId)); let Aj := nat_lit 3 = (3 : TypeId); let Ak := Value.int IntKind.i64 (↑i : Int); let Al := Value.bool false = Value.bool false; let A2 := A1 ∧ True; let Ab := Value.int IntKind.i64 nt = Value.int IntKind.i64 nt; let Am := True ∧ True ∧ True ∧ Aa; let An := (Value.int IntKind.u64 u = Value.int IntKind.u64 u) ∧ True; let Ao := Am ∧ True; let Ap := onM es nt ps (n + nat_lit 1) i u out; let Ac := (3 : TypeId) = (3 : TypeId); let Aq := (0 : Int) ≤ (↑i : Int); let Ar := nat_lit 0 + Ag; let A4 := (nat_lit 0 = nat_lit 0 ∧ nat_lit 0 = nat_lit 0 ∧ List.length ps = List.length ps) ∧ True; let A5 := nat_lit 0 = nat_lit 0 ∧ Ab ∧ True ∧ True; let As := Prod.snd Ap; let At := Ak = Ak; let Au := Value.bool (Prod.fst Ap); let Av := (↑i : Int) == Ah; let Aw := IntKind.wrap IntKind.i64 ((↑i : Int) + (1 : Int)); let Ad : List Int := Prod.snd As; let A7 := Int.toNat Aw; let Ax := Value.int IntKind.u64 (Prod.fst As); let Ay := (Au = Value.bool true) ∧ True; let Az := (Value.int IntKind.u64 u = Ax) ∧ True; let AA := (es, ((nt, ((ps, ((i, u, out))))))); let AB := A1 ∧ A1 ∧ A1 ∧ A1 ∧ A2; let AC := Prod.snd AA; let AD : List EntT := Prod.fst AA; let A6 := ((Ai = Ai) ∧ True ∧ AB) ∧ True; let AE := Prod.snd AC; let AF := Prod.fst AC; let AG : List Int := Prod.fst AE; let AH := Prod.snd AE; let AI := Prod.fst AH; let AJ := Prod.snd AH; let AK := Prod.fst AJ; let AL := ((Value.slice none (nat_lit 0) (nat_lit 0) = Value.slice none (nat_lit 0) (nat_lit 0)) ∧ True) ∧ True ∧ A6 ∧ True ∧ True; let B6 := fun (k : Nat) => ∀ (j : Nat), (j < k → ((((freeBM AK j) && (sfAtM AD (List.getD AG AI (0 : Int)) (↑j : Int))) && (Prod.fst ((onM AD AF AG n (AI + (1 : Nat)) ((setBM AK j)) (((Prod.snd AJ) ++ ([(↑j : Int)]))))))) = false)); let A0 : Type := { k : Nat // (((↑k : Int) ≤ AF) ∧ B6 k) }; let A3 := fun (x : A0) => (↑((Subtype.val x)) : Int); let AM := fun (t : A0) => Int.toNat (A3 t); let Ae := fun (x : A0) => Value.int IntKind.i64 (A3 x); let AN := fun (t : A0) => AV.v (Ae t); let Af := fun (t : A0) => (0 : Int) ≤ A3 t; let AO := fun (x : A0) => Int.toNat ((nt - A3 x)); let AP := fun (t : A0) => [A3 t]; let AQ := fun (t : A0) => (2 : Int) ^ (min (AM t) (nat_lit 64)); let AR := fun (t : A0) => (List.getD ps Ar (0 : Int)) :: ([A3 t]); let AS := fun (t : A0) => BitVec.ofInt (nat_lit 64) ((IntKind.wrap IntKind.u64 (((1 : Int) * AQ t)))); let A8 := fun (t : A0) => out ++ (List.take (1 : Nat) ((List.drop (0 : Nat) (AP t)))); let A9 := fun (t : A0) => IntKind.wrap IntKind.u64 (((↑((BitVec.toNat ((BitVec.ofInt (nat_lit 64) u ||| AS t)))) : Int))); let AT := fun (t : A0) => Value.int IntKind.u64 (A9 t); let AU := fun (t : A0) => (IntKind.wrap IntKind.u64 (((↑((BitVec.toNat (((BitVec.ofInt (nat_lit 64) ((Int.fdiv u (AQ t)))) &&& (BitVec.ofInt (nat_lit 64) (1 : Int)))))) : Int)))) == (1 : Int); let AW := fun (x t : A0) => AO x < AO t; let AX := fun (t : A0) => decide ((A3 t < nt)); let AY := fun (t : A0) => !(bif (mhasM UU MM.safe (AR t) es) then (Prod.snd ((Prod.snd ((mgetM UU MM.safe (AR t) es))))) else false); let AZ := fun (t x : A0) => At ∧ (A1 ∧ (A1 ∧ (A1 ∧ (A1 ∧ (A1 ∧ (Al ∧ (Ab ∧ (((Value.int IntKind.i64 ((IntKind.wrap IntKind.i64 ((A3 t + (1 : Int)))))) = Ae x) ∧ True)))))))); let B0 := fun (t : A0) => onM es nt ps n A7 (A9 t) (A8 t); let B1 := fun (t : A0) => Prod.snd (B0 t); let B2 := fun (t : A0) => Prod.fst (B0 t); let B3 := fun (t : A0) => Prod.fst (B1 t); let B4 := fun (t : A0) => Prod.snd ((Prod.snd ((onM es nt ps n A7 ((IntKind.wrap IntKind.u64 (((↑((BitVec.toNat (((BitVec.ofInt (64 : Nat) u) ||| (BitVec.ofInt (64 : Nat) ((IntKind.wrap IntKind.u64 (((1 : Int) * ((2 : Int) ^ (min (AM t) (64 : Nat)))))))))))) : Int))))) ((out ++ (List.take (nat_lit 1) ((List.drop (nat_lit 0) (AP t)))))))))); let B5 := fun (t : A0) => ∃ (x : A0), (AZ t x ∧ True ∧ A4 ∧ ps = ps ∧ A2 ∧ A5 ∧ es = es ∧ An ∧ (nat_lit 0 = nat_lit 0 ∧ True) ∧ True ∧ A6 ∧ (Ac ∧ out = out) ∧ True) ∧ AW x t; (Av = true → True ∧ (True ∧ True) ∧ ((True ∧ True) ∧ True ∧ (True ∧ True) ∧ Aa ∧ True ∧ (True ∧ True) ∧ (nat_lit 0 = nat_lit 0 ∧ True) ∧ True ∧ Ao ∧ Ad = [] ∧ True) ∧ Ay ∧ True ∧ A4 ∧ ps = ps ∧ A2 ∧ A5 ∧ es = es ∧ Az ∧ AL) ∧ (Av = false → (∃ (x : A0), (True ∧ True ∧ True ∧ Am) ∧ ((True ∧ True) ∧ True ∧ (True ∧ True) ∧ Aa ∧ True ∧ (True ∧ True) ∧ (nat_lit 0 = nat_lit 0 ∧ True) ∧ True ∧ Ao ∧ out = [] ∧ True) ∧ (At ∧ A1 ∧ A1 ∧ A1 ∧ A1 ∧ A1 ∧ Al ∧ Ab ∧ Value.int IntKind.i64 (0 : Int) = Ae x ∧ True) ∧ True ∧ A4 ∧ ps = ps ∧ A2 ∧ A5 ∧ es = es ∧ An ∧ AL) ∧ ∀ (t : A0), (AX t = true → Af t ∧ (AU t = true → True ∧ B5 t) ∧ (AU t = false → (Aq ∧ (↑i : Int) < Ah) ∧ Ar < List.length ps ∧ (AY t = true → True ∧ B5 t) ∧ (AY t = false → Af t ∧ (nat_lit 1 = nat_lit 1 ∧ AN t = AN t ∧ True) ∧ nat_lit 1 ≤ nat_lit 1 ∧ List.length out + nat_lit 1 ≤ nat_lit 1099511627776 ∧ ((false = true → A8 t = []) ∧ A7 + n = List.length ps ∧ List.length ps ≤ nat_lit 6 ∧ List.length (A8 t) = A7 ∧ (0 : Int) ≤ A9 t ∧ A9 t < (64 : Int) ∧ (0 : Int) ≤ nt ∧ nt ≤ (6 : Int)) ∧ (Value.int IntKind.i64 Aw = Value.int IntKind.i64 (↑A7 : Int) ∧ AB) ∧ (A4 ∧ ps = ps ∧ A2 ∧ A5 ∧ es = es ∧ (AT t = AT t ∧ True) ∧ (nat_lit 0 = nat_lit 0 ∧ True) ∧ (Aj ∧ A8 t = A8 t) ∧ A6 ∧ True) ∧ (B2 t = true → True ∧ Ay ∧ True ∧ A4 ∧ ps = ps ∧ A2 ∧ A5 ∧ es = es ∧ (Value.int IntKind.u64 (B3 t) = Ax ∧ True) ∧ (nat_lit 0 = nat_lit 0 ∧ True) ∧ True ∧ A6 ∧ (Ac ∧ B4 t = Ad) ∧ True) ∧ (B2 t = false → Af t ∧ ((0 : Int) = (0 : Int) ∧ Aq ∧ (↑i : Int) ≤ (↑(List.length (Prod.snd (B1 t))) : Int)) ∧ True ∧ ∃ (x : A0), (AZ t x ∧ True ∧ A4 ∧ ps = ps ∧ A2 ∧ A5 ∧ es = es ∧ (Value.int IntKind.u64 (IntKind.wrap IntKind.u64 (↑(BitVec.toNat (BitVec.ofInt (nat_lit 64) (B3 t) &&& ~~~AS t)) : Int)) = Value.int IntKind.u64 u ∧ True) ∧ (nat_lit 0 = nat_lit 0 ∧ True) ∧ True ∧ A6 ∧ (Aj ∧ List.take Ag (B4 t) = out) ∧ True) ∧ AW x t)))) ∧ (AX t = false → True ∧ (Au = Value.bool false ∧ True) ∧ True ∧ A4 ∧ ps = ps ∧ A2 ∧ A5 ∧ es = es ∧ Az ∧ (nat_lit 0 = nat_lit 0 ∧ True) ∧ True ∧ A6 ∧ (Ac ∧ out = Ad) ∧ True)))
    (by kernel_rfl) ?_
  simp only [eq_self, AE.goS]
  have x1 : i + (n + 1) = ps.length := hx.1
  have x2 : ps.length ≤ 6 := hx.2.1
  have x3 : out.length = i := hx.2.2.1
  have x4 : 0 ≤ u := hx.2.2.2.1
  have x5 : u < 64 := hx.2.2.2.2.1
  have x6 : 0 ≤ nt := hx.2.2.2.2.2.1
  have x7 : nt ≤ 6 := hx.2.2.2.2.2.2
  have hw : IntKind.i64.wrap ((i : Int) + 1) = ((i + 1 : Nat) : Int) := sucI i (by omega)
  refine ⟨fun h => ?_, fun h => ⟨⟨⟨0, x6, fun j hj => absurd hj (Nat.not_lt_zero j)⟩, hn rfl, rfl⟩, fun t => ⟨fun ht => ⟨Int.natCast_nonneg _, ?_⟩, fun ht => ?_⟩⟩⟩
  · have h' : (i : Int) = (ps.length : Int) := by simpa using h
    omega
  · obtain ⟨k, hk, h0⟩ := t
    have hlt : (k : Int) < nt := ht
    have hk6 : k < 6 := by omega
    have hsl := set_lt x4 x5 hk6
    have nxt : testM es nt ps n i u out k = false → ∃ x : { k : Nat // (k : Int) ≤ nt ∧ ∀ j, j < k → testM es nt ps n i u out j = false }, IntKind.i64.wrap ((k : Int) + 1) = (x.1 : Int) ∧ (nt - (x.1 : Int)).toNat < (nt - (k : Int)).toNat := fun hf =>
      ⟨⟨k + 1, by omega, below_succ h0 hf⟩, sucI k (by omega), by show (nt - ((k + 1 : Nat) : Int)).toNat < (nt - (k : Int)).toNat; omega⟩
    simp only [has_math x4 x5 hk6, set_math x4 x5 hk6, hw, Int.toNat_natCast, List.drop_zero, List.take_succ_cons, List.take_zero]
    refine ⟨fun hu => ?_, fun hu => ⟨⟨Int.natCast_nonneg _, by omega⟩, by omega, fun hs => ?_, fun hs => ⟨Int.natCast_nonneg _, Nat.le_refl _, by omega, ⟨fun h => absurd h (by decide), by omega, x2, by rw [List.length_append, x3]; rfl, hsl.1, hsl.2, x6, x7⟩, trivial, fun hr => ?_, fun hr => ?_⟩⟩⟩
    · refine nxt ?_
      have : freeBM u k = false := by simpa using hu
      unfold testM; rw [this]; rfl
    · refine nxt ?_
      have : sfAtM es (ps.getD i 0) (k : Int) = false := by
        unfold sfAtM
        cases hh : mhasM UU MM.safe [ps.getD i 0, (k : Int)] es with
        | true => rw [hh] at hs; simpa using hs
        | false => rfl
      unfold testM; rw [this, Bool.and_false]; rfl
    all_goals
      have hfr : freeBM u k = true := by simpa using hu
      have hsf : sfAtM es (ps.getD i 0) (k : Int) = true := by
        unfold sfAtM
        cases hh : mhasM UU MM.safe [ps.getD i 0, (k : Int)] es with
        | true => rw [hh] at hs; simpa using hs
        | false => rw [hh] at hs; simp at hs
    · have ht' : testM es nt ps n i u out k = true := by unfold testM; rw [hfr, hsf, hr]; rfl
      have e := on_some hlt ht' h0
      rw [e]
      exact ⟨hr, rfl, rfl⟩
    · have ht' : testM es nt ps n i u out k = false := by unfold testM; rw [hr, Bool.and_false]
      have e := onM_false _ _ _ _ hr
      rw [e]
      obtain ⟨y, hy1, hy2⟩ := nxt ht'
      refine ⟨Int.natCast_nonneg _, ⟨Int.natCast_nonneg _, by rw [List.length_append]; show (i : Int) ≤ ((out.length + 1 : Nat) : Int); omega⟩, y, ⟨hy1, clear_math x4 x5 hk6 hfr, ?_⟩, hy2⟩
      rw [← x3]; exact List.take_left
  · obtain ⟨k, hk, h0⟩ := t
    have hge : ¬ (k : Int) < nt := ht
    have e := on_none (es := es) (nt := nt) (ps := ps) (n := n) (i := i) (u := u) (out := out) (fun j hj => h0 j (by omega))
    rw [e]
    exact ⟨rfl, rfl, rfl⟩

theorem on_ok (n : Nat) (h : ∀ x, (onS n).pre (false, x) → FunOk Tryz.prog 97 ((onS n).args (false, x)) ((onS n).H (false, x)) ((onS n).R (false, x))) (h' : ∀ x, (onS n).pre (true, x) → FunOk Tryz.prog 97 ((onS n).args (true, x)) ((onS n).H (true, x)) ((onS n).R (true, x))) : Sound Tryz.prog 97 (onS n).con :=
  FSpec.sound _ (enter_of Tryz.func97 (by kernel_rfl) (by kernel_rfl)) fun x hx => match x, hx with
    | (false, x), hx => h x hx
    | (true, x), hx => h' x hx
theorem on_sound : ∀ n, Sound Tryz.prog 97 (onS n).con
  | 0 => on_ok 0 on_ok0f on_ok0t
  | n + 1 => on_ok (n + 1) (on_okSf n (.cons (on_sound n) .nil)) (on_okSt n (.cons (on_sound n) .nil))
end AE.Team

namespace AE.Team
open Go AE Go.Proofs AE.Soil

def popM (a : Int) : Int := ((List.range 6).filter fun i => a.toNat.testBit i).length
def popS : FSpec UU where
  X := Int
  pick := fun args _ => match args with
    | [a] => avUi a
    | _ => none
  args := fun (x : Int) => [uV x]
  H := fun _ => []
  R := fun (x : Int) => .val ⟨.i (popM x), [], [], []⟩
  pre := fun (x : Int) => 0 ≤ x ∧ x < 64
theorem ones64_ok : ∀ x, popS.pre x → FunOk Tryz.prog 101 (popS.args x) (popS.H x) (popS.R x) := by
  intro (x : Int) h
  refine fun_of (T := []) (L := fun _ => none) (hs := fun _ => []) hmix .nil Tryz.func101 (by kernel_rfl) (by kernel_rfl) ?_
  refine Eq.mp (α :=
      let A0 := BitVec.ofInt (nat_lit 64) ((3689348814741910323 : Int)); let A1 := BitVec.ofInt (nat_lit 64) ((6148914691236517205 : Int)); let A2 := IntKind.wrap IntKind.u64 ((IntKind.wrap IntKind.u64 ((↑(BitVec.toNat ((BitVec.ofInt (nat_lit 64) (Int.fdiv x ((2 : Int) ^ nat_lit 1))) &&& A1)) : Int))) + (IntKind.wrap IntKind.u64 ((↑(BitVec.toNat (BitVec.ofInt (nat_lit 64) x &&& A1)) : Int)))); let A3 := IntKind.wrap IntKind.u64 ((IntKind.wrap IntKind.u64 ((↑(BitVec.toNat ((BitVec.ofInt (nat_lit 64) (Int.fdiv A2 ((2 : Int) ^ nat_lit 2))) &&& A0)) : Int))) + (IntKind.wrap IntKind.u64 ((↑(BitVec.toNat ((BitVec.ofInt (nat_lit 64) A2) &&& A0)) : Int)))); let A4 := IntKind.wrap IntKind.u64 ((↑(BitVec.toNat ((BitVec.ofInt (nat_lit 64) (IntKind.wrap IntKind.u64 ((Int.fdiv A3 ((2 : Int) ^ nat_lit 4)) + A3))) &&& (BitVec.ofInt (nat_lit 64) ((1085102592571150095 : Int))))) : Int)); let A5 := IntKind.wrap IntKind.u64 (A4 + (Int.fdiv A4 ((2 : Int) ^ nat_lit 8))); let A6 := IntKind.wrap IntKind.u64 (A5 + Int.fdiv A5 ((2 : Int) ^ nat_lit 16)); (0 : Int) ≤ (1 : Int) ∧ (0 : Int) ≤ (2 : Int) ∧ (0 : Int) ≤ (4 : Int) ∧ (0 : Int) ≤ (8 : Int) ∧ (0 : Int) ≤ (16 : Int) ∧ (0 : Int) ≤ (32 : Int) ∧ True ∧ (Value.int IntKind.i64 (IntKind.wrap IntKind.i64 (↑(BitVec.toNat (BitVec.ofInt (nat_lit 64) (IntKind.wrap IntKind.i64 (IntKind.wrap IntKind.u64 (A6 + Int.fdiv A6 ((2 : Int) ^ nat_lit 32)))) &&& BitVec.ofInt (nat_lit 64) (127 : Int))) : Int)) = Value.int IntKind.i64 (popM x) ∧ True) ∧ True ∧ True)
    (by kernel_rfl) ?_
  simp only [popS] at h
  refine ⟨by decide, by decide, by decide, by decide, by decide, by decide, trivial, ⟨congrArg (Value.int .i64) ?_, trivial⟩, trivial, trivial⟩
  obtain ⟨m, rfl⟩ := Int.eq_ofNat_of_zero_le h.1
  have hm : m < 64 := by omega
  clear h
  revert m
  decide +kernel

theorem ones64_sound : Sound Tryz.prog 101 popS.con := FSpec.sound _ (enter_of Tryz.func101 (by kernel_rfl) (by kernel_rfl)) ones64_ok
def Tones : Tab UU := [(101, popS.con)]
theorem Tones_ok : Tones.Sound Tryz.prog := .cons ones64_sound .nil
theorem ones_ok : ∀ x, popS.pre x → FunOk Tryz.prog 77 (popS.args x) (popS.H x) (popS.R x) := by
  intro (x : Int) h
  refine fun_of (T := Tones) (L := fun _ => none) (hs := fun _ => []) hmix Tones_ok Tryz.func77 (by kernel_rfl) (by kernel_rfl) ?_
  refine Eq.mp (α :=
      ((0 : Int) ≤ x ∧ x < (64 : Int)) ∧ (Value.int IntKind.u64 x = Value.int IntKind.u64 x ∧ True) ∧ True ∧ True ∧ (Value.int IntKind.i64 (popM x) = Value.int IntKind.i64 (popM x) ∧ True) ∧ True ∧ True)
    (by kernel_rfl) ?_
  simp only [popS] at h
  have h1 : 0 ≤ x := h.1
  have h2 : x < 64 := h.2
  simp [h1, h2]

theorem ones_sound : Sound Tryz.prog 77 popS.con := FSpec.sound _ (enter_of Tryz.func77 (by kernel_rfl) (by kernel_rfl)) ones_ok
def upToM (s : Int) (n : Nat) : List Int := ((List.range n).filter fun i => s.toNat.testBit i).map fun (i : Nat) => (i : Int)
def membersM (s : Int) : List Int := upToM s 6
theorem upTo_len (s : Int) (n : Nat) : (upToM s n).length ≤ n := by
  unfold upToM
  rw [List.length_map]
  exact Nat.le_trans (List.length_filter_le _ _) (by simp)
theorem upTo_yes {s : Int} {n : Nat} (h : s.toNat.testBit n = true) : upToM s (n + 1) = upToM s n ++ [(n : Int)] := by
  unfold upToM
  rw [List.range_succ, List.filter_append, List.map_append, List.filter_cons_of_pos h]
  rfl
theorem upTo_no {s : Int} {n : Nat} (h : s.toNat.testBit n = false) : upToM s (n + 1) = upToM s n := by
  unfold upToM
  rw [List.range_succ, List.filter_append, List.map_append, List.filter_cons_of_neg (by rw [h]; decide)]
  simp
theorem members_lt {m k : Nat} (hm : m < 64) (hk : k ≤ 6) (h : (m : Int).fdiv (2 ^ min k 64) > 0) : k < 6 := by
  rcases Nat.lt_or_eq_of_le hk with h1 | rfl
  · exact h1
  · exfalso
    have : ∀ m : Fin 64, ¬ ((m.val : Nat) : Int).fdiv (2 ^ min 6 64) > 0 := by decide +kernel
    exact this ⟨m, hm⟩ h
theorem members_end {m k : Nat} (hm : m < 64) (hk : k ≤ 6) (h : ¬ (m : Int).fdiv (2 ^ min k 64) > 0) : upToM (m : Int) k = membersM (m : Int) := by
  have : ∀ m : Fin 64, ∀ k : Fin 7, ¬ ((m.val : Nat) : Int).fdiv (2 ^ min k.val 64) > 0 → upToM ((m.val : Nat) : Int) k.val = membersM ((m.val : Nat) : Int) := by decide +kernel
  exact this ⟨m, hm⟩ ⟨k, by omega⟩ h
def membersL (s : Int) : LSpec UU where
  T := { n : Nat // n ≤ 6 }
  fr := fun n => [(0, uV s), (2, .gs 0 0), (3, .i n.1)]
  H := fun n => [.one (.row .int (upToM s n.1) 3)]
  mu := fun n => 6 - n.1
def membersS : FSpec UU where
  X := Int
  pick := fun args _ => match args with
    | [a] => avUi a
    | _ => none
  args := fun (x : Int) => [uV x]
  H := fun _ => []
  R := fun (x : Int) => .val ⟨.gs 0 0, [], [], [.row .int (membersM x) 3]⟩
  pre := fun (x : Int) => 0 ≤ x ∧ x < 64
theorem members_ok : ∀ x, membersS.pre x → FunOk Tryz.prog 71 (membersS.args x) (membersS.H x) (membersS.R x) := by
  intro (x : Int) hx
  refine fun_of (T := []) (L := fun _ => some (.inv (membersL x))) (hs := fun _ => []) hmix .nil Tryz.func71 (by kernel_rfl) (by kernel_rfl) ?_
  refine Eq.mp (α :=
      let A5 := Value.int IntKind.u64 x = Value.int IntKind.u64 x; let A0 : Type := { n : Nat // (n ≤ (6 : Nat)) }; let A6 := (3 : TypeId) = (3 : TypeId); let A3 := fun (x : A0) => Subtype.val x; let A1 := fun (x_1 : A0) => upToM x (A3 x_1); let A2 := fun (x : A0) => (↑(A3 x) : Int); let A7 := fun (x : A0) => nat_lit 6 - A3 x; let A4 := fun (x : A0) => Value.int IntKind.i64 (A2 x); let A8 := fun (t : A0) => AV.v (A4 t); let A9 := fun (t : A0) => (0 : Int) ≤ A2 t; let Aa := fun (t : A0) => Int.fdiv x (((2 : Int) ^ (min ((Int.toNat (A2 t))) (nat_lit 64)))); let Ab := fun (x t : A0) => A7 x < A7 t; let Ac := fun (t x : A0) => A5 ∧ (nat_lit 0 = nat_lit 0 ∧ (((Value.int IntKind.i64 ((IntKind.wrap IntKind.i64 ((A2 t + (1 : Int)))))) = A4 x) ∧ True)); let Ad := fun (t : A0) => decide ((Aa t > (0 : Int))); let Ae := fun (t : A0) => IntKind.wrap IntKind.u64 (↑(BitVec.toNat (((BitVec.ofInt (nat_lit 64) (Aa t)) &&& (BitVec.ofInt (nat_lit 64) (1 : Int))))) : Int) == (1 : Int); (∃ (x : A0), (True ∧ nat_lit 0 = nat_lit 0 ∧ True ∧ True) ∧ (A1 x = [] ∧ True) ∧ (A5 ∧ Value.slice none (nat_lit 0) (nat_lit 0) = Value.slice none (nat_lit 0) (nat_lit 0) ∧ Value.int IntKind.i64 (0 : Int) = A4 x ∧ True) ∧ True ∧ True ∧ True) ∧ ∀ (t : A0), A9 t ∧ (Ad t = true → A9 t ∧ (Ae t = true → (nat_lit 1 = nat_lit 1 ∧ A8 t = A8 t ∧ True) ∧ nat_lit 1 ≤ nat_lit 1 ∧ List.length (A1 t) + nat_lit 1 ≤ nat_lit 1099511627776 ∧ True ∧ ∃ (x : A0), (Ac t x ∧ True ∧ (nat_lit 3 = (3 : TypeId) ∧ A1 t ++ List.take (1 : Nat) (List.drop (0 : Nat) [A2 t]) = A1 x) ∧ True) ∧ Ab x t) ∧ (Ae t = false → True ∧ ∃ (x : A0), (Ac t x ∧ True ∧ (A6 ∧ A1 t = A1 x) ∧ True) ∧ Ab x t)) ∧ (Ad t = false → True ∧ (nat_lit 0 = nat_lit 0 ∧ True) ∧ True ∧ (A6 ∧ A1 t = membersM x) ∧ True))
    (by kernel_rfl) ?_
  simp only [eq_self, AE.goS]
  have x1 : 0 ≤ x := hx.1
  have x2 : x < 64 := hx.2
  obtain ⟨m, rfl⟩ := Int.eq_ofNat_of_zero_le x1
  have hm : m < 64 := by omega
  refine ⟨⟨⟨0, Nat.zero_le _⟩, rfl, rfl⟩, fun t => ⟨Int.natCast_nonneg _, fun ht => ⟨Int.natCast_nonneg _, fun hs => ?_, fun hs => ?_⟩, fun ht => ?_⟩⟩
  all_goals
    obtain ⟨k, hk⟩ := t
  · have hk6 : k < 6 := members_lt hm hk ht
    have hl : (upToM (m : Int) k).length ≤ k := upTo_len _ _
    refine ⟨Nat.le_refl _, by show (upToM (m : Int) k).length + 1 ≤ _; omega, ⟨k + 1, hk6⟩, ⟨sucI k (by omega), ?_⟩, by show 6 - (k + 1) < 6 - k; omega⟩
    have hb : (m : Int).toNat.testBit k = true := by
      have h := has_math (u := (m : Int)) x1 x2 hk6
      have hs' : (IntKind.u64.wrap ↑(BitVec.ofInt 64 ((m : Int).fdiv (2 ^ min k 64)) &&& BitVec.ofInt 64 1).toNat == 1) = true := hs
      rw [h] at hs'
      unfold freeBM at hs'
      simpa using hs'
    rw [show upToM (m : Int) (⟨k + 1, hk6⟩ : { n // n ≤ 6 }).1 = _ from upTo_yes hb]
    rfl
  · have hk6 : k < 6 := members_lt hm hk ht
    refine ⟨⟨k + 1, hk6⟩, ⟨sucI k (by omega), ?_⟩, by show 6 - (k + 1) < 6 - k; omega⟩
    have hb : (m : Int).toNat.testBit k = false := by
      have h := has_math (u := (m : Int)) x1 x2 hk6
      have hs' : (IntKind.u64.wrap ↑(BitVec.ofInt 64 ((m : Int).fdiv (2 ^ min k 64)) &&& BitVec.ofInt 64 1).toNat == 1) = false := hs
      rw [h] at hs'
      unfold freeBM at hs'
      simpa using hs'
    exact (upTo_no hb).symm
  · exact members_end hm hk ht

theorem members_sound : Sound Tryz.prog 71 membersS.con := FSpec.sound _ (enter_of Tryz.func71 (by kernel_rfl) (by kernel_rfl)) members_ok
def sendM (es : List EntT) (nt : Int) (ps : List Int) : List Int × Bool := ((onM es nt ps ps.length 0 0 []).2.2, (onM es nt ps ps.length 0 0 []).1)
def sendS : FSpec UU where
  X := List EntT × Int × List Int
  pick := fun args H => match args with
    | [f, l] => match avField H f, sliceAt .int H l with
      | some f, some l => some (f.1, f.2, l)
      | _, _ => none
    | _ => none
  args := fun x => [.ptr 0 0 0 0, .sl 2 0 0 x.2.2.length]
  H := fun x => [.one (.rc [.map 1 0, .i x.2.1, .junk] 115), .one (.map .safe x.1), .one (.ro .int x.2.2)]
  R := fun x => .val ⟨.tup [.gs 3 0, .b (sendM x.1 x.2.1 x.2.2).2], [(1, 0, .map .safe x.1)], [], [.row .int (sendM x.1 x.2.1 x.2.2).1 3]⟩
  pre := fun x => x.2.2.length ≤ 6 ∧ 0 ≤ x.2.1 ∧ x.2.1 ≤ 6
def Tsend (n : Nat) : Tab UU := [(97, (onS n).con)]
theorem Tsend_ok (n : Nat) : (Tsend n).Sound Tryz.prog := .cons (on_sound n) .nil
theorem send_ok : ∀ x, sendS.pre x → FunOk Tryz.prog 70 (sendS.args x) (sendS.H x) (sendS.R x) := by
  rintro ⟨es, nt, ps⟩ hx
  refine fun_of (T := Tsend ps.length) (L := fun _ => none) (hs := fun _ => []) hmix (Tsend_ok ps.length) Tryz.func70 (by kernel_rfl) (by kernel_rfl) ?_
  refine Eq.mp (α :=
      let A0 := nat_lit 0 = nat_lit 0 ∧ nat_lit 0 = nat_lit 0 ∧ nat_lit 0 = nat_lit 0; let A1 := Value.int IntKind.u64 (0 : Int); let A2 := A0 ∧ True; let A3 := nat_lit 0 = nat_lit 0 ∧ (Value.int IntKind.i64 nt = Value.int IntKind.i64 nt) ∧ True ∧ True; let A4 := A0 ∧ A2; ((true = true → ([] : List Int) = []) ∧ nat_lit 0 + List.length ps = List.length ps ∧ List.length ps ≤ nat_lit 6 ∧ nat_lit 0 = nat_lit 0 ∧ (0 : Int) ≤ (0 : Int) ∧ (0 : Int) < (64 : Int) ∧ (0 : Int) ≤ nt ∧ nt ≤ (6 : Int)) ∧ (Value.int IntKind.i64 (0 : Int) = Value.int IntKind.i64 (↑(nat_lit 0) : Int) ∧ A0 ∧ A0 ∧ A0 ∧ A4) ∧ (((nat_lit 0 = nat_lit 0 ∧ nat_lit 0 = nat_lit 0 ∧ List.length ps = List.length ps) ∧ True) ∧ ps = ps ∧ A2 ∧ A3 ∧ es = es ∧ (A1 = A1 ∧ True) ∧ (Value.slice none (nat_lit 0) (nat_lit 0) = Value.slice none (nat_lit 0) (nat_lit 0) ∧ True) ∧ True ∧ ((Fn.func (nat_lit 97) = Fn.func (97 : FuncId) ∧ True ∧ A0 ∧ A0 ∧ A0 ∧ A4) ∧ True) ∧ True) ∧ True ∧ ((nat_lit 0 = nat_lit 0 ∧ Value.bool (Prod.fst (onM es nt ps (List.length ps) (nat_lit 0) (0 : Int) [])) = Value.bool (Prod.snd (sendM es nt ps)) ∧ True) ∧ True) ∧ True ∧ A3 ∧ es = es ∧ ps = ps ∧ ((3 : TypeId) = (3 : TypeId) ∧ Prod.snd (Prod.snd (onM es nt ps (List.length ps) (0 : Nat) (0 : Int) [])) = Prod.fst (sendM es nt ps)) ∧ True)
    (by kernel_rfl) ?_
  simp only [eq_self, AE.goS]
  exact ⟨⟨fun _ => trivial, hx.1, by decide, by decide, hx.2.1, hx.2.2⟩, rfl, rfl, rfl⟩

theorem send_sound : Sound Tryz.prog 70 sendS.con := FSpec.sound _ (enter_of Tryz.func70 (by kernel_rfl) (by kernel_rfl)) send_ok
end AE.Team

namespace AE.Team
open Go AE Go.Proofs AE.Soil

theorem mErr_small {ts : List TeamT} {l : List PlotT} (h : (matchErrM ts l == 0) = true) : (ts.length : Int) ≤ 6 := by
  apply Decidable.byContradiction
  intro hn
  rw [mErr_len hn] at h
  cases h
theorem members1 : membersM 1 = [0] := by decide
theorem members3 : membersM 3 = [0, 1] := by decide
def entsOM (ts : List TeamT) (x : PlotsT) : List EntT := entsM ts (lPlots x) (nPlots x) 0
def sendFM (ts : List TeamT) (x : PlotsT) (s : Int) : List Int × Bool := sendM (entsOM ts x) ts.length (membersM s)
def wholeM (x : PlotsT) : Int := match x.2 with
  | none => 1
  | some _ => 3
def sendOM (ts : List TeamT) (x : PlotsT) : List Int × Int := if matchErrM ts (lPlots x) == 0 then (if (sendFM ts x (wholeM x)).2 then ((sendFM ts x (wholeM x)).1, 0) else ([], 11)) else ([], matchErrM ts (lPlots x))
def manyS (R : List TeamT × PlotsT → OOut UU) : FSpec UU where
  X := List TeamT × PlotsT
  pick := fun args H => match args with
    | [a, b] => match sliceAt .team H a, avPlots H b with
      | some a, some b => some (a, b)
      | _, _ => none
    | _ => none
  args := fun x => [.sl 0 0 0 x.1.length, .sl 1 0 0 (nPlots x.2)]
  H := fun x => .one (.ro .team x.1) :: hPlots 1 x.2
  R := R
  pre := fun x => x.1.length < 1000000 ∧ okPlots x.2
def hMany (x : PlotsT) : Nat := match x.2 with
  | none => 4
  | some _ => 6
def sendOS : FSpec2 UU where
  X := List TeamT × PlotsT
  pick := fun args H => match args with
    | [a, b] => match sliceAt .team H a, avPlots H b with
      | some a, some b => some (a, b)
      | _, _ => none
    | _ => none
  args := fun x => [.sl 0 0 0 x.1.length, .sl 1 0 0 (nPlots x.2)]
  H := fun x => .one (.ro .team x.1) :: hPlots 1 x.2
  c := fun x => (sendOM x.1 x.2).2 == 0
  R := fun x => .val ⟨.tup [.gs (hMany x.2) 0, .i 0], [], [], [.row .int (sendOM x.1 x.2).1 3]⟩
  R' := fun x => .val ⟨.tup [nilV, .i (sendOM x.1 x.2).2], [], [], []⟩
  pre := fun x => x.1.length < 1000000 ∧ okPlots x.2
def TsendO : Tab UU := [(69, matchS.con), (71, membersS.con), (70, sendS.con), (53, needS.con), (40, caughtS.con)]
theorem TsendO_ok : TsendO.Sound Tryz.prog := .cons match_sound (.cons members_sound (.cons send_sound (.cons need_sound (.cons caught_sound .nil))))
theorem sendO_ok1 (ts : List TeamT) (p : PlotT) (hx : sendOS.pre (ts, p, none)) : (sendOS.c (ts, p, none) = true → FunOk Tryz.prog 21 (sendOS.args (ts, p, none)) (sendOS.H (ts, p, none)) (sendOS.R (ts, p, none))) ∧ (sendOS.c (ts, p, none) = false → FunOk Tryz.prog 21 (sendOS.args (ts, p, none)) (sendOS.H (ts, p, none)) (sendOS.R' (ts, p, none))) := by
  obtain ⟨⟨long, rise, change, ps⟩, st⟩ := p
  refine fun_ofE (T := TsendO) (L := fun _ => none) (hs := fun _ => []) (sp := fun _ => none) hmix TsendO_ok (tl := toldL 68) (toldL_ok toldSend) (it := fun _ => none) (fun _ _ h => by cases h) Tryz.func21 (by kernel_rfl) (by kernel_rfl) ?_
  refine Eq.mp (α :=
      let Ac := (130 : TypeId); let Ad := nat_lit 0 = nat_lit 0 ∧ nat_lit 0 = nat_lit 0 ∧ nat_lit 1 = nat_lit 1; let Ae := nat_lit 0 = nat_lit 0 ∧ nat_lit 0 = nat_lit 0 ∧ nat_lit 0 = nat_lit 0; let Af := Value.int IntKind.i64 (0 : Int); let A0 := (↑(List.length ts) : Int); let A3 := Value.int IntKind.i64 (11 : Int); let A4 := Ae ∧ True; let Ag := Value.int IntKind.i64 A0; let A5 : List PlotT := [PlotT.mk (GroundT.mk long rise change ps) st]; let Ah := Value.slice none (nat_lit 0) (nat_lit 0) = Value.slice none (nat_lit 0) (nat_lit 0); let A6 : List Int := [((↑(0 : Nat) : Int))]; let Ai := Ac = Ac; let Aj := matchErrM ts A5; let Ak : List (Int × Int × Bool) := entsM ts A5 (nat_lit 1) (nat_lit 0); let Al := sendOM ts ((PlotT.mk (GroundT.mk long rise change ps) st, none)); let A7 := Value.int IntKind.i64 Aj; let Am := (Af = Af) ∧ True; let A8 := (A3 = A3) ∧ True; let An := Prod.snd Al; let A9 := Am ∧ True; let Ao := (nat_lit 0 = nat_lit 0 ∧ nat_lit 0 = nat_lit 0 ∧ List.length ts = List.length ts) ∧ Ad ∧ True; let Ap := Value.int IntKind.i64 An; let Aq : List (Int × Int × Bool) := entsM ts A5 (1 : Nat) (0 : Nat); let Ar := Aj == (0 : Int); let As := An == (0 : Int); let At := As = false; let Aa := Prod.snd (sendM Ak A0 A6); let A1 := Value.bool Aa; let Ab := IntKind.wrap IntKind.u64 ((IntKind.wrap IntKind.u64 ((1 : Int) * ((2 : Int) ^ nat_lit 1))) - (1 : Int)); let Au := Value.int IntKind.u64 Ab; let Av := ((Value.int IntKind.i64 long = Value.int IntKind.i64 long) ∧ (Value.int IntKind.i64 rise = Value.int IntKind.i64 rise) ∧ (Value.int IntKind.i64 change = Value.int IntKind.i64 change) ∧ (nat_lit 0 = nat_lit 0 ∧ nat_lit 0 = nat_lit 0 ∧ List.length ps = List.length ps) ∧ (nat_lit 0 = nat_lit 0 ∧ nat_lit 0 = nat_lit 0 ∧ List.length st = List.length st) ∧ True) ∧ True; let A2 := ts = ts ∧ Av ∧ ps = ps ∧ st = st ∧ True; (List.length ts < nat_lit 1000000 ∧ List.length ps < nat_lit 1000000 ∧ List.length st < nat_lit 1000000) ∧ (Ar = true → Ao ∧ A2 ∧ (0 : Int) ≤ (↑(nat_lit 1) : Int) ∧ ((0 : Int) ≤ Ab ∧ Ab < (64 : Int)) ∧ (Au = Au ∧ True) ∧ True ∧ (nat_lit 1 ≤ nat_lit 6 ∧ (0 : Int) ≤ A0 ∧ A0 ≤ (6 : Int)) ∧ (Ae ∧ (nat_lit 7 = nat_lit 7 ∧ Ad) ∧ True) ∧ ((nat_lit 0 = nat_lit 0 ∧ Ag = Ag ∧ True ∧ True) ∧ Aq = Ak ∧ A6 = A6 ∧ True) ∧ True ∧ (Aa = true → (A1 = A1 ∧ A8) ∧ True ∧ As = true ∧ True ∧ (Value.nilIface = Value.nilIface ∧ A4) ∧ A9 ∧ True ∧ ((nat_lit 0 = nat_lit 0 ∧ Am) ∧ True) ∧ True ∧ ts = ts ∧ Av ∧ ps = ps ∧ st = st ∧ ((3 : TypeId) = (3 : TypeId) ∧ Prod.fst (sendM Aq A0 [(↑(nat_lit 0) : Int)]) = Prod.fst Al) ∧ True) ∧ (Aa = false → (A1 = A1 ∧ A8) ∧ True ∧ At ∧ True ∧ ((Ai ∧ A8) ∧ A4) ∧ A9 ∧ True ∧ ((Ah ∧ A3 = Ap ∧ True) ∧ True) ∧ True ∧ A2)) ∧ (Ar = false → Ao ∧ A2 ∧ At ∧ True ∧ ((Ai ∧ A7 = A7 ∧ True) ∧ A4) ∧ A9 ∧ True ∧ ((Ah ∧ A7 = Ap ∧ True) ∧ True) ∧ True ∧ A2))
    (by kernel_rfl) ?_
  simp only [eq_self, AE.goS]
  have hx' : ts.length < 1000000 ∧ ps.length < 1000000 ∧ st.length < 1000000 := hx
  have hm : sendFM ts (⟨⟨long, rise, change, ps⟩, st⟩, none) (wholeM (⟨⟨long, rise, change, ps⟩, st⟩, none)) = sendM (entsM ts [⟨⟨long, rise, change, ps⟩, st⟩] 1 0) (ts.length : Int) [0] := by
    show sendM _ _ (membersM 1) = _
    rw [members1]; rfl
  refine ⟨hx', fun h => ⟨by decide, by decide, ⟨by decide, Int.natCast_nonneg _, mErr_small h⟩, fun hs => ?_, fun hs => ?_⟩, fun h => ?_⟩
  · have e : sendOM ts (⟨⟨long, rise, change, ps⟩, st⟩, none) = ((sendM (entsM ts [⟨⟨long, rise, change, ps⟩, st⟩] 1 0) (ts.length : Int) [0]).1, 0) := by
      refine (if_pos h).trans ?_
      rw [hm]; exact if_pos hs
    rw [e]; exact ⟨rfl, rfl⟩
  · have e : sendOM ts (⟨⟨long, rise, change, ps⟩, st⟩, none) = ([], 11) := by
      refine (if_pos h).trans ?_
      rw [hm]; exact if_neg (by rw [show (sendM (entsM ts [⟨⟨long, rise, change, ps⟩, st⟩] 1 0) (ts.length : Int) [0]).2 = false from hs]; decide)
    rw [e]; exact ⟨rfl, rfl⟩
  · have e : sendOM ts (⟨⟨long, rise, change, ps⟩, st⟩, none) = ([], matchErrM ts [⟨⟨long, rise, change, ps⟩, st⟩]) := if_neg (by rw [show (matchErrM ts (lPlots (⟨⟨long, rise, change, ps⟩, st⟩, none)) == 0) = false from h]; decide)
    rw [e]; exact ⟨h, rfl⟩

theorem sendO_ok2 (ts : List TeamT) (p q : PlotT) (hx : sendOS.pre (ts, p, some q)) : (sendOS.c (ts, p, some q) = true → FunOk Tryz.prog 21 (sendOS.args (ts, p, some q)) (sendOS.H (ts, p, some q)) (sendOS.R (ts, p, some q))) ∧ (sendOS.c (ts, p, some q) = false → FunOk Tryz.prog 21 (sendOS.args (ts, p, some q)) (sendOS.H (ts, p, some q)) (sendOS.R' (ts, p, some q))) := by
  obtain ⟨⟨long, rise, change, ps⟩, st⟩ := p
  obtain ⟨⟨long2, rise2, change2, ps2⟩, st2⟩ := q
  refine fun_ofE (T := TsendO) (L := fun _ => none) (hs := fun _ => []) (sp := fun _ => none) hmix TsendO_ok (tl := toldL 68) (toldL_ok toldSend) (it := fun _ => none) (fun _ _ h => by cases h) Tryz.func21 (by kernel_rfl) (by kernel_rfl) ?_
  refine Eq.mp (α :=
      let Ab := (130 : TypeId); let Ac := nat_lit 0 = nat_lit 0 ∧ nat_lit 0 = nat_lit 0 ∧ nat_lit 2 = nat_lit 2; let Ad := nat_lit 0 = nat_lit 0 ∧ nat_lit 0 = nat_lit 0 ∧ nat_lit 0 = nat_lit 0; let A0 := (↑(List.length ts) : Int); let Ae := Value.int IntKind.i64 (0 : Int); let A2 := Value.int IntKind.i64 (11 : Int); let A3 := Ad ∧ True; let Af := Value.int IntKind.i64 A0; let Ag := Value.slice none (nat_lit 0) (nat_lit 0) = Value.slice none (nat_lit 0) (nat_lit 0); let Ah := Ab = Ab; let Ai := (Ae = Ae) ∧ True; let A4 := (A2 = A2) ∧ True; let A5 : List PlotT := PlotT.mk (GroundT.mk long rise change ps) st :: ([PlotT.mk (GroundT.mk long2 rise2 change2 ps2) st2] : List PlotT); let A6 := Ai ∧ True; let Aj := sendOM ts ((PlotT.mk (GroundT.mk long rise change ps) st, (some (PlotT.mk (GroundT.mk long2 rise2 change2 ps2) st2)))); let Ak : List (Int × Int × Bool) := entsM ts A5 (nat_lit 2) (nat_lit 0); let Al := matchErrM ts A5; let Am := (nat_lit 0 = nat_lit 0 ∧ nat_lit 0 = nat_lit 0 ∧ List.length ts = List.length ts) ∧ Ac ∧ True; let A7 : List Int := ((↑(0 : Nat) : Int)) :: ([((↑(1 : Nat) : Int))] : List Int); let An := Prod.snd Aj; let A8 := Value.int IntKind.i64 Al; let Ao := Value.int IntKind.i64 An; let Ap : List (Int × Int × Bool) := entsM ts A5 (2 : Nat) (0 : Nat); let Aq := Al == (0 : Int); let Ar := An == (0 : Int); let As := Ar = false; let A9 := IntKind.wrap IntKind.u64 ((IntKind.wrap IntKind.u64 ((1 : Int) * ((2 : Int) ^ nat_lit 2))) - (1 : Int)); let At := Value.int IntKind.u64 A9; let Aa := Prod.snd (sendM Ak A0 A7); let Au := Value.bool Aa; let Av := ((Value.int IntKind.i64 long = Value.int IntKind.i64 long) ∧ (Value.int IntKind.i64 rise = Value.int IntKind.i64 rise) ∧ (Value.int IntKind.i64 change = Value.int IntKind.i64 change) ∧ (nat_lit 0 = nat_lit 0 ∧ nat_lit 0 = nat_lit 0 ∧ List.length ps = List.length ps) ∧ (nat_lit 0 = nat_lit 0 ∧ nat_lit 0 = nat_lit 0 ∧ List.length st = List.length st) ∧ True) ∧ ((Value.int IntKind.i64 long2 = Value.int IntKind.i64 long2) ∧ (Value.int IntKind.i64 rise2 = Value.int IntKind.i64 rise2) ∧ (Value.int IntKind.i64 change2 = Value.int IntKind.i64 change2) ∧ (nat_lit 0 = nat_lit 0 ∧ nat_lit 0 = nat_lit 0 ∧ List.length ps2 = List.length ps2) ∧ (nat_lit 0 = nat_lit 0 ∧ nat_lit 0 = nat_lit 0 ∧ List.length st2 = List.length st2) ∧ True) ∧ True; let Aw := Au = Au; let A1 := ts = ts ∧ Av ∧ ps = ps ∧ st = st ∧ ps2 = ps2 ∧ st2 = st2 ∧ True; (List.length ts < nat_lit 1000000 ∧ (List.length ps < nat_lit 1000000 ∧ List.length st < nat_lit 1000000) ∧ List.length ps2 < nat_lit 1000000 ∧ List.length st2 < nat_lit 1000000) ∧ (Aq = true → Am ∧ A1 ∧ (0 : Int) ≤ (↑(nat_lit 2) : Int) ∧ ((0 : Int) ≤ A9 ∧ A9 < (64 : Int)) ∧ (At = At ∧ True) ∧ True ∧ (nat_lit 2 ≤ nat_lit 6 ∧ (0 : Int) ≤ A0 ∧ A0 ≤ (6 : Int)) ∧ (Ad ∧ (nat_lit 9 = nat_lit 9 ∧ Ac) ∧ True) ∧ ((nat_lit 0 = nat_lit 0 ∧ Af = Af ∧ True ∧ True) ∧ Ap = Ak ∧ A7 = A7 ∧ True) ∧ True ∧ (Aa = true → (Aw ∧ A4) ∧ True ∧ Ar = true ∧ True ∧ (Value.nilIface = Value.nilIface ∧ A3) ∧ A6 ∧ True ∧ ((nat_lit 0 = nat_lit 0 ∧ Ai) ∧ True) ∧ True ∧ ts = ts ∧ Av ∧ ps = ps ∧ st = st ∧ ps2 = ps2 ∧ st2 = st2 ∧ ((3 : TypeId) = (3 : TypeId) ∧ Prod.fst (sendM Ap A0 [(↑(nat_lit 0) : Int), (↑(nat_lit 1) : Int)]) = Prod.fst Aj) ∧ True) ∧ (Aa = false → (Aw ∧ A4) ∧ True ∧ As ∧ True ∧ ((Ah ∧ A4) ∧ A3) ∧ A6 ∧ True ∧ ((Ag ∧ A2 = Ao ∧ True) ∧ True) ∧ True ∧ A1)) ∧ (Aq = false → Am ∧ A1 ∧ As ∧ True ∧ ((Ah ∧ A8 = A8 ∧ True) ∧ A3) ∧ A6 ∧ True ∧ ((Ag ∧ A8 = Ao ∧ True) ∧ True) ∧ True ∧ A1))
    (by kernel_rfl) ?_
  simp only [eq_self, AE.goS]
  have hx' : ts.length < 1000000 ∧ (ps.length < 1000000 ∧ st.length < 1000000) ∧ ps2.length < 1000000 ∧ st2.length < 1000000 := hx
  have hm : sendFM ts (⟨⟨long, rise, change, ps⟩, st⟩, some ⟨⟨long2, rise2, change2, ps2⟩, st2⟩) (wholeM (⟨⟨long, rise, change, ps⟩, st⟩, some ⟨⟨long2, rise2, change2, ps2⟩, st2⟩)) = sendM (entsM ts [⟨⟨long, rise, change, ps⟩, st⟩, ⟨⟨long2, rise2, change2, ps2⟩, st2⟩] 2 0) (ts.length : Int) [0, 1] := by
    show sendM _ _ (membersM 3) = _
    rw [members3]; rfl
  refine ⟨hx', fun h => ⟨by decide, by decide, ⟨by decide, Int.natCast_nonneg _, mErr_small h⟩, fun hs => ?_, fun hs => ?_⟩, fun h => ?_⟩
  · have e : sendOM ts (⟨⟨long, rise, change, ps⟩, st⟩, some ⟨⟨long2, rise2, change2, ps2⟩, st2⟩) = ((sendM (entsM ts [⟨⟨long, rise, change, ps⟩, st⟩, ⟨⟨long2, rise2, change2, ps2⟩, st2⟩] 2 0) (ts.length : Int) [0, 1]).1, 0) := by
      refine (if_pos h).trans ?_
      rw [hm]; exact if_pos hs
    rw [e]; exact ⟨rfl, rfl⟩
  · have e : sendOM ts (⟨⟨long, rise, change, ps⟩, st⟩, some ⟨⟨long2, rise2, change2, ps2⟩, st2⟩) = ([], 11) := by
      refine (if_pos h).trans ?_
      rw [hm]; exact if_neg (by rw [show (sendM (entsM ts [⟨⟨long, rise, change, ps⟩, st⟩, ⟨⟨long2, rise2, change2, ps2⟩, st2⟩] 2 0) (ts.length : Int) [0, 1]).2 = false from hs]; decide)
    rw [e]; exact ⟨rfl, rfl⟩
  · have e : sendOM ts (⟨⟨long, rise, change, ps⟩, st⟩, some ⟨⟨long2, rise2, change2, ps2⟩, st2⟩) = ([], matchErrM ts [⟨⟨long, rise, change, ps⟩, st⟩, ⟨⟨long2, rise2, change2, ps2⟩, st2⟩]) := if_neg (by rw [show (matchErrM ts (lPlots (⟨⟨long, rise, change, ps⟩, st⟩, some ⟨⟨long2, rise2, change2, ps2⟩, st2⟩)) == 0) = false from h]; decide)
    rw [e]; exact ⟨h, rfl⟩

theorem sendO_sound : Sound Tryz.prog 21 sendOS.con := FSpec2.sound _ (enter_of Tryz.func21 (by kernel_rfl) (by kernel_rfl)) fun x h => match x, h with
  | (ts, p, none), h => sendO_ok1 ts p h
  | (ts, p, some q), h => sendO_ok2 ts p q h
end AE.Team

namespace AE.Team
open Go AE Go.Proofs AE.Soil

def badSM (ts : List TeamT) (x : PlotsT) (z s : Nat) : Bool := popM (s : Int) == (z : Int) && !(sendFM ts x (s : Int)).2
def pairsM (x : PlotsT) : List (Nat × Nat) := (List.range (nPlots x + 1)).flatMap fun z => (List.range (2 ^ nPlots x)).map fun s => (z, s)
def shortM (ts : List TeamT) (x : PlotsT) : Int × Int := if matchErrM ts (lPlots x) == 0 then (match (pairsM x).find? fun p => badSM ts x p.1 p.2 with
  | some p => ((p.2 : Int), 0)
  | none => (0, 4)) else (0, matchErrM ts (lPlots x))
theorem suc64 (s : Nat) (h : s < 64) : IntKind.u64.wrap ((s : Int) + 1) = ((s + 1 : Nat) : Int) := by
  have : ∀ m : Fin 64, IntKind.u64.wrap (((m.val : Nat) : Int) + 1) = ((m.val + 1 : Nat) : Int) := by decide +kernel
  exact this ⟨s, h⟩
theorem find_pairs {f : Nat × Nat → Bool} {W : Nat} : ∀ {N z s : Nat}, z < N → s < W → (∀ a, a < z → ∀ b, b < W → f (a, b) = false) → (∀ b, b < s → f (z, b) = false) → f (z, s) = true → ((List.range N).flatMap fun z => (List.range W).map fun s => (z, s)).find? f = some (z, s)
  | 0, z, s, hz, _, _, _, _ => absurd hz (Nat.not_lt_zero _)
  | N + 1, z, s, hz, hs, ha, hb, h => by
    rw [List.range_succ, List.flatMap_append, List.find?_append]
    rcases Nat.lt_or_eq_of_le (Nat.le_of_lt_succ hz) with h1 | rfl
    · rw [find_pairs h1 hs ha hb h]; rfl
    · have e1 : ((List.range z).flatMap fun z => (List.range W).map fun s => (z, s)).find? f = none := by
        rw [List.find?_eq_none]
        intro p hp
        obtain ⟨a, ha', hp2⟩ := List.mem_flatMap.1 hp
        obtain ⟨b, hb', rfl⟩ := List.mem_map.1 hp2
        rw [ha a (List.mem_range.1 ha') b (List.mem_range.1 hb')]; decide
      rw [e1]
      simp only [List.flatMap_cons, List.flatMap_nil, List.append_nil, Option.none_or]
      rw [List.find?_map]
      have e2 : (List.range W).find? (f ∘ fun s => (z, s)) = some s := by
        rw [List.find?_range_eq_some]
        exact ⟨h, List.mem_range.2 hs, fun j hj => by show (!f (z, j)) = true; rw [hb j hj]; rfl⟩
      rw [e2]; rfl
theorem short_some {ts : List TeamT} {x : PlotsT} (h : (matchErrM ts (lPlots x) == 0) = true) {z s : Nat} (hz : z < nPlots x + 1) (hs : s < 2 ^ nPlots x) (ha : ∀ a, a < z → ∀ s, s < 2 ^ nPlots x → badSM ts x a s = false) (hb : ∀ s', s' < s → badSM ts x z s' = false) (hbt : badSM ts x z s = true) : shortM ts x = ((s : Int), 0) := by
  have e := find_pairs (f := fun p => badSM ts x p.1 p.2) hz hs ha hb hbt
  unfold shortM pairsM
  rw [if_pos h, e]
theorem short_none {ts : List TeamT} {x : PlotsT} (h : (matchErrM ts (lPlots x) == 0) = true) (ha : ∀ a, a < nPlots x + 1 → ∀ s, s < 2 ^ nPlots x → badSM ts x a s = false) : shortM ts x = (0, 4) := by
  have e : (pairsM x).find? (fun p => badSM ts x p.1 p.2) = none := by
    rw [List.find?_eq_none]
    intro p hp
    obtain ⟨a, ha', hp2⟩ := List.mem_flatMap.1 hp
    obtain ⟨b, hb', rfl⟩ := List.mem_map.1 hp2
    rw [ha a (List.mem_range.1 ha') b (List.mem_range.1 hb')]; decide
  unfold shortM
  rw [if_pos h, e]
theorem short_err {ts : List TeamT} {x : PlotsT} (h : (matchErrM ts (lPlots x) == 0) = false) : shortM ts x = (0, matchErrM ts (lPlots x)) := by
  unfold shortM
  exact if_neg (by rw [h]; decide)
theorem short_next {ts : List TeamT} {x : PlotsT} {z W : Nat} (ha : ∀ a, a < z → ∀ s, s < W → badSM ts x a s = false) (hb : ∀ s, s < W → badSM ts x z s = false) : ∀ a, a < z + 1 → ∀ s, s < W → badSM ts x a s = false := by
  intro a h s hs
  rcases Nat.lt_or_eq_of_le (Nat.le_of_lt_succ h) with h2 | rfl
  · exact ha a h2 s hs
  · exact hb s hs
def shortHc (ts : List TeamT) (x : PlotsT) : Heap UU := .one (.ro .team ts) :: hPlots 1 x ++ [.one (.cells [.i 0] 35), .one (.map .safe (entsOM ts x)), .one (.cells (cField (hMany x + 1) ts.length (nPlots x)) 115)]
def shortFr (x : PlotsT) (z : Nat) : Fr := [(4, .i 0), (5, .ptr (hMany x) 0 0 0), (6, .ptr (hMany x + 2) 0 0 0), (19, .i (nPlots x + 1 : Nat)), (20, .i z)]
def shortL (ts : List TeamT) (x : PlotsT) : LSpec UU where
  T := { z : Nat // z ≤ nPlots x + 1 ∧ ∀ a, a < z → ∀ s, s < 2 ^ nPlots x → badSM ts x a s = false }
  fr := fun z => shortFr x z.1
  H := fun _ => shortHc ts x
  mu := fun z => nPlots x + 1 - z.1
def shortL2 (ts : List TeamT) (x : PlotsT) : LSpec UU where
  T := { p : Nat × Nat // p.1 < nPlots x + 1 ∧ p.2 ≤ 2 ^ nPlots x ∧ (∀ a, a < p.1 → ∀ s, s < 2 ^ nPlots x → badSM ts x a s = false) ∧ ∀ s, s < p.2 → badSM ts x p.1 s = false }
  fr := fun p => shortFr x p.1.1 ++ [(7, .i p.1.1), (27, uV (2 ^ nPlots x : Nat)), (28, uV p.1.2)]
  H := fun _ => shortHc ts x
  mu := fun p => 2 ^ nPlots x - p.1.2
def shortS : FSpec UU := manyS fun x => .val ⟨.tup [.i (shortM x.1 x.2).1, .i (shortM x.1 x.2).2], [], [], []⟩
def Tshort : Tab UU := [(69, matchS.con), (77, popS.con), (71, membersS.con), (70, sendS.con), (40, caughtS.con)]
theorem Tshort_ok : Tshort.Sound Tryz.prog := .cons match_sound (.cons ones_sound (.cons members_sound (.cons send_sound (.cons caught_sound .nil))))
def shortRule (ts : List TeamT) (x : PlotsT) (k : Nat) : Option (LRule UU) := match Nat.beq k 4 with
  | true => some (.inv (shortL ts x))
  | false => some (.invR (shortL2 ts x) fun a b => b.1.1 = a.1.1)
theorem short_ok1 (ts : List TeamT) (p : PlotT) (hx : shortS.pre (ts, p, none)) : FunOk Tryz.prog 23 (shortS.args (ts, p, none)) (shortS.H (ts, p, none)) (shortS.R (ts, p, none)) := by
  obtain ⟨⟨long, rise, change, ps⟩, st⟩ := p
  refine fun_ofG (T := Tshort) (L := shortRule ts (⟨⟨long, rise, change, ps⟩, st⟩, none)) (hs := fun _ => []) (sp := fun _ => none) hmix Tshort_ok (tl := toldL 76) (toldL_ok toldShort) (it := fun _ => none) (fun _ _ h => by cases h) Tryz.func23 (by kernel_rfl) (by kernel_rfl) ?_
  refine Eq.mp (α :=
      let As := (130 : TypeId); let A1 := nat_lit 0 = nat_lit 0 ∧ nat_lit 0 = nat_lit 0 ∧ nat_lit 0 = nat_lit 0; let Ac := Value.int IntKind.i64 (↑(nat_lit 2) : Int); let Ad := Value.int IntKind.u64 (↑(nat_lit 2) : Int); let At := Value.int IntKind.i64 (↑(nat_lit 1) : Int); let A9 := (↑(List.length ts) : Int); let Ae := Value.int IntKind.i64 (4 : Int); let A4 := Value.int IntKind.i64 (0 : Int); let Af := A1 ∧ True; let Au := Value.int IntKind.i64 A9; let Av := Af ∧ True ∧ True; let Aw : List PlotT := [PlotT.mk (GroundT.mk long rise change ps) st]; let Ax := matchErrM ts Aw; let A5 := (PlotT.mk (GroundT.mk long rise change ps) st, none); let Ay := Value.nilIface = Value.nilIface ∧ Af; let B5 := DfE.call (Fn.func (nat_lit 76)) ([(AV.ptr (4 : Nat) (nat_lit 0) (nat_lit 0) (nat_lit 0))] : List AV) []; let Az := nPlots A5; let AA := shortM ts A5; let Aa : List EntT := entsOM ts A5; let Ag := Ac = Ac; let A6 := A4 = A4; let Ah := Value.int IntKind.i64 Ax; let Ai := A6 ∧ True; let AB := Ai ∧ True; let AC : List DfE := [B5]; let AD := Value.int IntKind.i64 (Prod.fst AA); let Aj := Value.int IntKind.i64 (Prod.snd AA); let AE := (nat_lit 0 = nat_lit 0 ∧ nat_lit 0 = nat_lit 0 ∧ List.length ts = List.length ts) ∧ (nat_lit 0 = nat_lit 0 ∧ nat_lit 0 = nat_lit 0 ∧ nat_lit 1 = nat_lit 1) ∧ True; let AF := Au = Au; let AG := Ax == (0 : Int); let AH := Az + (1 : Nat); let B6 := fun (p : Nat × Nat) => ∀ (s : Nat), ((s < Prod.snd p) → ((badSM ts A5 (Prod.fst p) s) = false)); let AI := (2 : Nat) ^ Az; let AJ := A4 = AD; let AK := Aa = Aa; let Ak := AC = AC; let AL := (nat_lit 0 = nat_lit 0 ∧ AF ∧ (At = At) ∧ True) ∧ True; let AM := fun (a : Nat) => ∀ (s : Nat), ((s < AI) → ((badSM ts A5 a s) = false)); let Al := ((Value.int IntKind.i64 long = Value.int IntKind.i64 long) ∧ (Value.int IntKind.i64 rise = Value.int IntKind.i64 rise) ∧ (Value.int IntKind.i64 change = Value.int IntKind.i64 change) ∧ (nat_lit 0 = nat_lit 0 ∧ nat_lit 0 = nat_lit 0 ∧ List.length ps = List.length ps) ∧ (nat_lit 0 = nat_lit 0 ∧ nat_lit 0 = nat_lit 0 ∧ List.length st = List.length st) ∧ True) ∧ True; let B7 := fun (z : Nat) => ∀ (a : Nat), (a < z → AM a); let B8 := fun (p : Nat × Nat) => ∀ (a : Nat), ((a < Prod.fst p) → AM a); let Am := ts = ts ∧ Al ∧ ps = ps ∧ st = st ∧ True; let An := True ∧ Am; let A2 : Type := { z : Nat // ((z ≤ AH) ∧ B7 z) }; let AN := fun (x : A2) => Subtype.val x; let AO := fun (x : A2) => (↑(AN x) : Int); let AP := fun (x : A2) => nat_lit 2 - AN x; let Ao := fun (x : A2) => Value.int IntKind.i64 (AO x); let A0 : Type := { p : Nat × Nat // ((Prod.fst p < AH) ∧ (Prod.snd p ≤ AI) ∧ B8 p ∧ B6 p) }; let AQ := fun (x : A0) => Subtype.val x; let AR := fun (x : A0) => Prod.snd (AQ x); let A7 := fun (x : A0) => Prod.fst (AQ x); let Ap := fun (x : A0) => (↑(A7 x) : Int); let A3 := fun (x : A0) => (↑(AR x) : Int); let A8 := fun (t : A0) => membersM (A3 t); let AS := fun (x : A0) => nat_lit 2 - AR x; let Aq := fun (x : A0) => Value.int IntKind.i64 (Ap x); let Ab := fun (x : A0) => Value.int IntKind.u64 (A3 x); let AT := fun (t : A0) => List.length (A8 t); let Ar := Av ∧ ts = ts ∧ Al ∧ ps = ps ∧ st = st ∧ Ai ∧ AK ∧ AL; let AU := fun (t : A0) => !(Prod.snd ((sendM Aa A9 (A8 t)))); let AW := fun (t : A2) => decide ((AO t < (↑(nat_lit 2) : Int))); let AX := fun (t : A2) (x : A0) => Ao t = Aq x; let AY := fun (t x : A0) => A7 t = A7 x; let AZ := fun (t x : A0) => Aq t = Aq x; let B0 := fun (t : A0) => (popM (A3 t)) != Ap t; let B1 := fun (t : A0) => (Ab t = Ab t) ∧ True; let B2 := fun (t : A0) => ((0 : Int) ≤ A3 t) ∧ (A3 t < (64 : Int)); let B3 := fun (t : A0) => decide ((A3 t < (↑(nat_lit 2) : Int))); let B4 := fun (t x : A0) => ∃ (x_1 : A0), ((A6 ∧ (A1 ∧ (A1 ∧ (Ag ∧ (AZ t x_1 ∧ (AZ t x_1 ∧ ((Ad = Ad) ∧ (((Value.int IntKind.u64 ((IntKind.wrap IntKind.u64 ((A3 t + (1 : Int)))))) = Ab x_1) ∧ True)))))))) ∧ Ar) ∧ (AS x_1 < AS t) ∧ AY x_1 x; (List.length ts < nat_lit 1000000 ∧ List.length ps < nat_lit 1000000 ∧ List.length st < nat_lit 1000000) ∧ (AG = true → AE ∧ Am ∧ (∃ (x : A2), (A6 ∧ A1 ∧ A1 ∧ Value.int IntKind.i64 (IntKind.wrap IntKind.i64 ((↑(nat_lit 1) : Int) + (1 : Int))) = Ac ∧ A4 = Ao x ∧ True) ∧ Av ∧ ts = ts ∧ Al ∧ ps = ps ∧ st = st ∧ Ai ∧ entsM ts Aw (1 : Nat) (0 : Nat) = Aa ∧ AL) ∧ ∀ (t : A2), (AW t = true → (0 : Int) ≤ (↑(nat_lit 1) : Int) ∧ ∃ (x : A0), ((A6 ∧ A1 ∧ A1 ∧ Ag ∧ AX t x ∧ AX t x ∧ Value.int IntKind.u64 (IntKind.wrap IntKind.u64 ((1 : Int) * (2 : Int) ^ nat_lit 1)) = Ad ∧ Value.int IntKind.u64 (0 : Int) = Ab x ∧ True) ∧ Ar) ∧ A7 x = A7 x ∧ ∀ (t_1 : A0), AY t_1 x → (B3 t_1 = true → B2 t_1 ∧ B1 t_1 ∧ True ∧ (B0 t_1 = true → Ak ∧ B4 t_1 x) ∧ (B0 t_1 = false → B2 t_1 ∧ B1 t_1 ∧ True ∧ (AT t_1 ≤ nat_lit 6 ∧ (0 : Int) ≤ A9 ∧ A9 ≤ (6 : Int)) ∧ (A1 ∧ (nat_lit 7 = nat_lit 7 ∧ nat_lit 0 = nat_lit 0 ∧ nat_lit 0 = nat_lit 0 ∧ List.length (A8 t_1) = AT t_1) ∧ True) ∧ ((nat_lit 0 = nat_lit 0 ∧ AF ∧ True ∧ True) ∧ AK ∧ A8 t_1 = A8 t_1 ∧ True) ∧ (AU t_1 = true → True ∧ Ay ∧ AB ∧ True ∧ ((Value.int IntKind.i64 (IntKind.wrap IntKind.i64 (A3 t_1)) = AD ∧ A4 = Aj ∧ True) ∧ True) ∧ An) ∧ (AU t_1 = false → Ak ∧ B4 t_1 x))) ∧ (B3 t_1 = false → Ak ∧ ∃ (x : A2), ((A6 ∧ A1 ∧ A1 ∧ Ag ∧ Value.int IntKind.i64 (IntKind.wrap IntKind.i64 (Ap t_1 + (1 : Int))) = Ao x ∧ True) ∧ Ar) ∧ AP x < AP t)) ∧ (AW t = false → True ∧ Ay ∧ ((Ae = Ae ∧ True) ∧ True) ∧ True ∧ ((AJ ∧ Ae = Aj ∧ True) ∧ True) ∧ An)) ∧ (AG = false → AE ∧ Am ∧ True ∧ ((As = As ∧ Ah = Ah ∧ True) ∧ Af) ∧ AB ∧ True ∧ ((AJ ∧ Ah = Aj ∧ True) ∧ True) ∧ An))
    (by kernel_rfl) ?_
  simp only [eq_self, AE.goS]
  have hx' : ts.length < 1000000 ∧ ps.length < 1000000 ∧ st.length < 1000000 := hx
  refine ⟨hx', fun h => ⟨⟨⟨0, Nat.zero_le _, fun a ha => absurd ha (Nat.not_lt_zero a)⟩, ⟨by decide, rfl⟩, rfl⟩, fun t => ⟨fun ht => ⟨by decide, ?_⟩, fun ht => ?_⟩⟩, fun h => ?_⟩
  · obtain ⟨z, hz, h0⟩ := t
    have hlt : z < 1 + 1 := by have h1 : (z : Int) < ((1 + 1 : Nat) : Int) := ht; omega
    refine ⟨⟨(z, 0), hlt, Nat.zero_le _, h0, fun s hs => absurd hs (Nat.not_lt_zero s)⟩, ⟨rfl, rfl, by decide, rfl⟩, ?_⟩
    rintro ⟨⟨z2, s⟩, hz2, hs2, ha, hb⟩ hr
    have hr' : z2 = z := hr
    subst hr'
    refine ⟨fun hs => ?_, fun hs => ?_⟩
    · have hsl : s < 2 := by have h1 : (s : Int) < ((2 : Nat) : Int) := hs; omega
      have hs64 : 0 ≤ (s : Int) ∧ (s : Int) < 64 := ⟨Int.natCast_nonneg _, by omega⟩
      have hsu : IntKind.u64.wrap ((s : Int) + 1) = ((s + 1 : Nat) : Int) := suc64 s (by omega)
      have nxt : badSM ts (⟨⟨long, rise, change, ps⟩, st⟩, none) z2 s = false → ∃ x : { p : Nat × Nat // p.1 < nPlots (⟨⟨long, rise, change, ps⟩, st⟩, none) + 1 ∧ p.2 ≤ 2 ^ nPlots (⟨⟨long, rise, change, ps⟩, st⟩, none) ∧ (∀ a, a < p.1 → ∀ s, s < 2 ^ nPlots (⟨⟨long, rise, change, ps⟩, st⟩, none) → badSM ts (⟨⟨long, rise, change, ps⟩, st⟩, none) a s = false) ∧ ∀ s, s < p.2 → badSM ts (⟨⟨long, rise, change, ps⟩, st⟩, none) p.1 s = false }, ((z2 : Int) = (x.1.1 : Int) ∧ (z2 : Int) = (x.1.1 : Int) ∧ IntKind.u64.wrap ((s : Int) + 1) = (x.1.2 : Int)) ∧ 2 - x.1.2 < 2 - s ∧ x.1.1 = z2 := fun hb2 =>
        ⟨⟨(z2, s + 1), hz2, hsl, ha, below_succ hb hb2⟩, ⟨rfl, rfl, hsu⟩, by show 2 - (s + 1) < 2 - s; omega, rfl⟩
      refine ⟨hs64, fun hp => nxt ?_, fun hp => ⟨hs64, ⟨upTo_len _ _, Int.natCast_nonneg _, mErr_small h⟩, fun hn => ?_, fun hn => nxt ?_⟩⟩
      · have hp' : (popM (s : Int) == (z2 : Int)) = false := by simpa [bne] using hp
        unfold badSM; rw [hp']; rfl
      · have hp' : (popM (s : Int) == (z2 : Int)) = true := by simpa [bne] using hp
        have hbt : badSM ts (⟨⟨long, rise, change, ps⟩, st⟩, none) z2 s = true := by
          unfold badSM; rw [hp']
          exact hn
        have e := short_some (x := (⟨⟨long, rise, change, ps⟩, st⟩, none)) h hz2 hsl ha hb hbt
        rw [e]
        exact ⟨by rw [wrap_id (by omega) (by omega)], rfl⟩
      · have hn' : (!(sendFM ts (⟨⟨long, rise, change, ps⟩, st⟩, none) (s : Int)).2) = false := hn
        unfold badSM; rw [hn', Bool.and_false]
    · have hse : s = 2 := by
        have h1 : ¬ (s : Int) < ((2 : Nat) : Int) := hs
        have h2 : s ≤ 2 := hs2
        omega
      subst hse
      exact ⟨⟨z2 + 1, hz2, short_next ha hb⟩, sucI z2 (by omega), by show 1 + 1 - (z2 + 1) < 1 + 1 - z2; omega⟩
  · obtain ⟨z, hz, h0⟩ := t
    have hze : z = 1 + 1 := by
      have h1 : ¬ (z : Int) < ((1 + 1 : Nat) : Int) := ht
      have h2 : z ≤ 1 + 1 := hz
      omega
    subst hze
    have e := short_none (x := (⟨⟨long, rise, change, ps⟩, st⟩, none)) h h0
    rw [e]; exact ⟨rfl, rfl⟩
  · have e := short_err (x := (⟨⟨long, rise, change, ps⟩, st⟩, none)) h
    rw [e]; exact ⟨rfl, rfl⟩

theorem short_ok2 (ts : List TeamT) (p q : PlotT) (hx : shortS.pre (ts, p, some q)) : FunOk Tryz.prog 23 (shortS.args (ts, p, some q)) (shortS.H (ts, p, some q)) (shortS.R (ts, p, some q)) := by
  obtain ⟨⟨long, rise, change, ps⟩, st⟩ := p
  obtain ⟨⟨long2, rise2, change2, ps2⟩, st2⟩ := q
  refine fun_ofG (T := Tshort) (L := shortRule ts (⟨⟨long, rise, change, ps⟩, st⟩, some ⟨⟨long2, rise2, change2, ps2⟩, st2⟩)) (hs := fun _ => []) (sp := fun _ => none) hmix Tshort_ok (tl := toldL 76) (toldL_ok toldShort) (it := fun _ => none) (fun _ _ h => by cases h) Tryz.func23 (by kernel_rfl) (by kernel_rfl) ?_
  refine Eq.mp (α :=
      let As := (130 : TypeId); let A1 := nat_lit 0 = nat_lit 0 ∧ nat_lit 0 = nat_lit 0 ∧ nat_lit 0 = nat_lit 0; let At := Value.int IntKind.i64 (↑(nat_lit 2) : Int); let Ac := Value.int IntKind.u64 (↑(nat_lit 4) : Int); let Ad := Value.int IntKind.i64 (↑(nat_lit 3) : Int); let A4 := Value.int IntKind.i64 (0 : Int); let A9 := (↑(List.length ts) : Int); let Ae := Value.int IntKind.i64 (4 : Int); let Af := A1 ∧ True; let Au := Value.int IntKind.i64 A9; let Av := Af ∧ True ∧ True; let Aw := Value.nilIface = Value.nilIface ∧ Af; let B5 := DfE.call (Fn.func (nat_lit 76)) ([(AV.ptr (6 : Nat) (nat_lit 0) (nat_lit 0) (nat_lit 0))] : List AV) []; let Ag := Ad = Ad; let A5 := A4 = A4; let Ah := A5 ∧ True; let A6 := (PlotT.mk (GroundT.mk long rise change ps) st, (some (PlotT.mk (GroundT.mk long2 rise2 change2 ps2) st2))); let Ax : List PlotT := PlotT.mk (GroundT.mk long rise change ps) st :: ([PlotT.mk (GroundT.mk long2 rise2 change2 ps2) st2] : List PlotT); let Ay := Ah ∧ True; let Az : List DfE := [B5]; let AA := nPlots A6; let AB := shortM ts A6; let Aa : List EntT := entsOM ts A6; let AC := matchErrM ts Ax; let AD := (nat_lit 0 = nat_lit 0 ∧ nat_lit 0 = nat_lit 0 ∧ List.length ts = List.length ts) ∧ (nat_lit 0 = nat_lit 0 ∧ nat_lit 0 = nat_lit 0 ∧ nat_lit 2 = nat_lit 2) ∧ True; let AE := Au = Au; let Ai := Value.int IntKind.i64 AC; let Aj := Value.int IntKind.i64 (Prod.snd AB); let AF := Value.int IntKind.i64 (Prod.fst AB); let AG := AA + (1 : Nat); let AH := AC == (0 : Int); let B6 := fun (p : Nat × Nat) => ∀ (s : Nat), ((s < Prod.snd p) → ((badSM ts A6 (Prod.fst p) s) = false)); let AI := (2 : Nat) ^ AA; let AJ := A4 = AF; let Ak := Az = Az; let AK := (nat_lit 0 = nat_lit 0 ∧ AE ∧ (At = At) ∧ True) ∧ True; let AL := Aa = Aa; let AM := fun (a : Nat) => ∀ (s : Nat), ((s < AI) → ((badSM ts A6 a s) = false)); let B7 := fun (z : Nat) => ∀ (a : Nat), (a < z → AM a); let B8 := fun (p : Nat × Nat) => ∀ (a : Nat), ((a < Prod.fst p) → AM a); let A2 : Type := { z : Nat // ((z ≤ AG) ∧ B7 z) }; let AN := fun (x : A2) => Subtype.val x; let AO := fun (x : A2) => (↑(AN x) : Int); let Al := ((Value.int IntKind.i64 long = Value.int IntKind.i64 long) ∧ (Value.int IntKind.i64 rise = Value.int IntKind.i64 rise) ∧ (Value.int IntKind.i64 change = Value.int IntKind.i64 change) ∧ (nat_lit 0 = nat_lit 0 ∧ nat_lit 0 = nat_lit 0 ∧ List.length ps = List.length ps) ∧ (nat_lit 0 = nat_lit 0 ∧ nat_lit 0 = nat_lit 0 ∧ List.length st = List.length st) ∧ True) ∧ ((Value.int IntKind.i64 long2 = Value.int IntKind.i64 long2) ∧ (Value.int IntKind.i64 rise2 = Value.int IntKind.i64 rise2) ∧ (Value.int IntKind.i64 change2 = Value.int IntKind.i64 change2) ∧ (nat_lit 0 = nat_lit 0 ∧ nat_lit 0 = nat_lit 0 ∧ List.length ps2 = List.length ps2) ∧ (nat_lit 0 = nat_lit 0 ∧ nat_lit 0 = nat_lit 0 ∧ List.length st2 = List.length st2) ∧ True) ∧ True; let AP := fun (x : A2) => nat_lit 3 - AN x; let Am := fun (x : A2) => Value.int IntKind.i64 (AO x); let An := ts = ts ∧ Al ∧ ps = ps ∧ st = st ∧ ps2 = ps2 ∧ st2 = st2 ∧ True; let Ao := True ∧ An; let A0 : Type := { p : Nat × Nat // ((Prod.fst p < AG) ∧ (Prod.snd p ≤ AI) ∧ B8 p ∧ B6 p) }; let AQ := fun (x : A0) => Subtype.val x; let A7 := fun (x : A0) => Prod.fst (AQ x); let AR := fun (x : A0) => Prod.snd (AQ x); let Ap := fun (x : A0) => (↑(A7 x) : Int); let A3 := fun (x : A0) => (↑(AR x) : Int); let A8 := fun (t : A0) => membersM (A3 t); let AS := fun (x : A0) => nat_lit 4 - AR x; let Aq := fun (x : A0) => Value.int IntKind.i64 (Ap x); let Ab := fun (x : A0) => Value.int IntKind.u64 (A3 x); let AT := fun (t : A0) => List.length (A8 t); let AU := fun (t : A0) => !(Prod.snd ((sendM Aa A9 (A8 t)))); let Ar := Av ∧ ts = ts ∧ Al ∧ ps = ps ∧ st = st ∧ ps2 = ps2 ∧ st2 = st2 ∧ Ah ∧ AL ∧ AK; let AW := fun (t : A2) => decide ((AO t < (↑(nat_lit 3) : Int))); let AX := fun (t : A2) (x : A0) => Am t = Aq x; let AY := fun (t x : A0) => A7 t = A7 x; let AZ := fun (t x : A0) => Aq t = Aq x; let B0 := fun (t : A0) => (popM (A3 t)) != Ap t; let B1 := fun (t : A0) => (Ab t = Ab t) ∧ True; let B2 := fun (t : A0) => ((0 : Int) ≤ A3 t) ∧ (A3 t < (64 : Int)); let B3 := fun (t : A0) => decide ((A3 t < (↑(nat_lit 4) : Int))); let B4 := fun (t x : A0) => ∃ (x_1 : A0), ((A5 ∧ (A1 ∧ (A1 ∧ (Ag ∧ (AZ t x_1 ∧ (AZ t x_1 ∧ ((Ac = Ac) ∧ (((Value.int IntKind.u64 ((IntKind.wrap IntKind.u64 ((A3 t + (1 : Int)))))) = Ab x_1) ∧ True)))))))) ∧ Ar) ∧ (AS x_1 < AS t) ∧ AY x_1 x; (List.length ts < nat_lit 1000000 ∧ (List.length ps < nat_lit 1000000 ∧ List.length st < nat_lit 1000000) ∧ List.length ps2 < nat_lit 1000000 ∧ List.length st2 < nat_lit 1000000) ∧ (AH = true → AD ∧ An ∧ (∃ (x : A2), (A5 ∧ A1 ∧ A1 ∧ Value.int IntKind.i64 (IntKind.wrap IntKind.i64 ((↑(nat_lit 2) : Int) + (1 : Int))) = Ad ∧ A4 = Am x ∧ True) ∧ Av ∧ ts = ts ∧ Al ∧ ps = ps ∧ st = st ∧ ps2 = ps2 ∧ st2 = st2 ∧ Ah ∧ entsM ts Ax (2 : Nat) (0 : Nat) = Aa ∧ AK) ∧ ∀ (t : A2), (AW t = true → (0 : Int) ≤ (↑(nat_lit 2) : Int) ∧ ∃ (x : A0), ((A5 ∧ A1 ∧ A1 ∧ Ag ∧ AX t x ∧ AX t x ∧ Value.int IntKind.u64 (IntKind.wrap IntKind.u64 ((1 : Int) * (2 : Int) ^ nat_lit 2)) = Ac ∧ Value.int IntKind.u64 (0 : Int) = Ab x ∧ True) ∧ Ar) ∧ A7 x = A7 x ∧ ∀ (t_1 : A0), AY t_1 x → (B3 t_1 = true → B2 t_1 ∧ B1 t_1 ∧ True ∧ (B0 t_1 = true → Ak ∧ B4 t_1 x) ∧ (B0 t_1 = false → B2 t_1 ∧ B1 t_1 ∧ True ∧ (AT t_1 ≤ nat_lit 6 ∧ (0 : Int) ≤ A9 ∧ A9 ≤ (6 : Int)) ∧ (A1 ∧ (nat_lit 9 = nat_lit 9 ∧ nat_lit 0 = nat_lit 0 ∧ nat_lit 0 = nat_lit 0 ∧ List.length (A8 t_1) = AT t_1) ∧ True) ∧ ((nat_lit 0 = nat_lit 0 ∧ AE ∧ True ∧ True) ∧ AL ∧ A8 t_1 = A8 t_1 ∧ True) ∧ (AU t_1 = true → True ∧ Aw ∧ Ay ∧ True ∧ ((Value.int IntKind.i64 (IntKind.wrap IntKind.i64 (A3 t_1)) = AF ∧ A4 = Aj ∧ True) ∧ True) ∧ Ao) ∧ (AU t_1 = false → Ak ∧ B4 t_1 x))) ∧ (B3 t_1 = false → Ak ∧ ∃ (x : A2), ((A5 ∧ A1 ∧ A1 ∧ Ag ∧ Value.int IntKind.i64 (IntKind.wrap IntKind.i64 (Ap t_1 + (1 : Int))) = Am x ∧ True) ∧ Ar) ∧ AP x < AP t)) ∧ (AW t = false → True ∧ Aw ∧ ((Ae = Ae ∧ True) ∧ True) ∧ True ∧ ((AJ ∧ Ae = Aj ∧ True) ∧ True) ∧ Ao)) ∧ (AH = false → AD ∧ An ∧ True ∧ ((As = As ∧ Ai = Ai ∧ True) ∧ Af) ∧ Ay ∧ True ∧ ((AJ ∧ Ai = Aj ∧ True) ∧ True) ∧ Ao))
    (by kernel_rfl) ?_
  simp only [eq_self, AE.goS]
  have hx' : ts.length < 1000000 ∧ (ps.length < 1000000 ∧ st.length < 1000000) ∧ ps2.length < 1000000 ∧ st2.length < 1000000 := hx
  refine ⟨hx', fun h => ⟨⟨⟨0, Nat.zero_le _, fun a ha => absurd ha (Nat.not_lt_zero a)⟩, ⟨by decide, rfl⟩, rfl⟩, fun t => ⟨fun ht => ⟨by decide, ?_⟩, fun ht => ?_⟩⟩, fun h => ?_⟩
  · obtain ⟨z, hz, h0⟩ := t
    have hlt : z < 2 + 1 := by have h1 : (z : Int) < ((2 + 1 : Nat) : Int) := ht; omega
    refine ⟨⟨(z, 0), hlt, Nat.zero_le _, h0, fun s hs => absurd hs (Nat.not_lt_zero s)⟩, ⟨rfl, rfl, by decide, rfl⟩, ?_⟩
    rintro ⟨⟨z2, s⟩, hz2, hs2, ha, hb⟩ hr
    have hr' : z2 = z := hr
    subst hr'
    refine ⟨fun hs => ?_, fun hs => ?_⟩
    · have hsl : s < 4 := by have h1 : (s : Int) < ((4 : Nat) : Int) := hs; omega
      have hs64 : 0 ≤ (s : Int) ∧ (s : Int) < 64 := ⟨Int.natCast_nonneg _, by omega⟩
      have hsu : IntKind.u64.wrap ((s : Int) + 1) = ((s + 1 : Nat) : Int) := suc64 s (by omega)
      have nxt : badSM ts (⟨⟨long, rise, change, ps⟩, st⟩, some ⟨⟨long2, rise2, change2, ps2⟩, st2⟩) z2 s = false → ∃ x : { p : Nat × Nat // p.1 < nPlots (⟨⟨long, rise, change, ps⟩, st⟩, some ⟨⟨long2, rise2, change2, ps2⟩, st2⟩) + 1 ∧ p.2 ≤ 2 ^ nPlots (⟨⟨long, rise, change, ps⟩, st⟩, some ⟨⟨long2, rise2, change2, ps2⟩, st2⟩) ∧ (∀ a, a < p.1 → ∀ s, s < 2 ^ nPlots (⟨⟨long, rise, change, ps⟩, st⟩, some ⟨⟨long2, rise2, change2, ps2⟩, st2⟩) → badSM ts (⟨⟨long, rise, change, ps⟩, st⟩, some ⟨⟨long2, rise2, change2, ps2⟩, st2⟩) a s = false) ∧ ∀ s, s < p.2 → badSM ts (⟨⟨long, rise, change, ps⟩, st⟩, some ⟨⟨long2, rise2, change2, ps2⟩, st2⟩) p.1 s = false }, ((z2 : Int) = (x.1.1 : Int) ∧ (z2 : Int) = (x.1.1 : Int) ∧ IntKind.u64.wrap ((s : Int) + 1) = (x.1.2 : Int)) ∧ 4 - x.1.2 < 4 - s ∧ x.1.1 = z2 := fun hb2 =>
        ⟨⟨(z2, s + 1), hz2, hsl, ha, below_succ hb hb2⟩, ⟨rfl, rfl, hsu⟩, by show 4 - (s + 1) < 4 - s; omega, rfl⟩
      refine ⟨hs64, fun hp => nxt ?_, fun hp => ⟨hs64, ⟨upTo_len _ _, Int.natCast_nonneg _, mErr_small h⟩, fun hn => ?_, fun hn => nxt ?_⟩⟩
      · have hp' : (popM (s : Int) == (z2 : Int)) = false := by simpa [bne] using hp
        unfold badSM; rw [hp']; rfl
      · have hp' : (popM (s : Int) == (z2 : Int)) = true := by simpa [bne] using hp
        have hbt : badSM ts (⟨⟨long, rise, change, ps⟩, st⟩, some ⟨⟨long2, rise2, change2, ps2⟩, st2⟩) z2 s = true := by
          unfold badSM; rw [hp']
          exact hn
        have e := short_some (x := (⟨⟨long, rise, change, ps⟩, st⟩, some ⟨⟨long2, rise2, change2, ps2⟩, st2⟩)) h hz2 hsl ha hb hbt
        rw [e]
        exact ⟨by rw [wrap_id (by omega) (by omega)], rfl⟩
      · have hn' : (!(sendFM ts (⟨⟨long, rise, change, ps⟩, st⟩, some ⟨⟨long2, rise2, change2, ps2⟩, st2⟩) (s : Int)).2) = false := hn
        unfold badSM; rw [hn', Bool.and_false]
    · have hse : s = 4 := by
        have h1 : ¬ (s : Int) < ((4 : Nat) : Int) := hs
        have h2 : s ≤ 4 := hs2
        omega
      subst hse
      exact ⟨⟨z2 + 1, hz2, short_next ha hb⟩, sucI z2 (by omega), by show 2 + 1 - (z2 + 1) < 2 + 1 - z2; omega⟩
  · obtain ⟨z, hz, h0⟩ := t
    have hze : z = 2 + 1 := by
      have h1 : ¬ (z : Int) < ((2 + 1 : Nat) : Int) := ht
      have h2 : z ≤ 2 + 1 := hz
      omega
    subst hze
    have e := short_none (x := (⟨⟨long, rise, change, ps⟩, st⟩, some ⟨⟨long2, rise2, change2, ps2⟩, st2⟩)) h h0
    rw [e]; exact ⟨rfl, rfl⟩
  · have e := short_err (x := (⟨⟨long, rise, change, ps⟩, st⟩, some ⟨⟨long2, rise2, change2, ps2⟩, st2⟩)) h
    rw [e]; exact ⟨rfl, rfl⟩

theorem short_sound : Sound Tryz.prog 23 shortS.con := FSpec.sound _ (enter_of Tryz.func23 (by kernel_rfl) (by kernel_rfl)) fun x h => match x, h with
  | (ts, p, none), h => short_ok1 ts p h
  | (ts, p, some q), h => short_ok2 ts p q h
end AE.Team

namespace AE.Team
open Go AE Go.Proofs AE.Soil

def Tcaught : Tab UU := [(40, caughtS.con)]
theorem Tcaught_ok : Tcaught.Sound Tryz.prog := .cons caught_sound .nil
theorem tdRests_ok : TdOk Tryz.prog 54 (tdOf2 (U := UU) Tryz.prog Tcaught Tryz.f54 (restOf (bodyOf Tryz.f54)) 40) :=
  tdOf2_ok hmix Tcaught_ok Tryz.func54 (enter_of Tryz.func54 (by kernel_rfl) (by kernel_rfl)) rfl rfl rfl rfl rfl rfl rfl rfl rfl
def trialM (l : List StepT) (w : List Span) (h : HorT) (i : Nat) (now : Int) : TrialT := ((l, w), stpM l i, h, now)
def tryM (l : List StepT) (w : List Span) (h : HorT) (i : Nat) (now : Int) : Int × Bool := firstM (fun m => suitM (.inr (trialM l w h i now)) m) h.2.2.2.1
def goM (l : List StepT) (w : List Span) (h : HorT) : Nat → List Int × Int
  | 0 => ([], h.1)
  | i + 1 => ((goM l w h i).1 ++ [(tryM l w h i (goM l w h i).2).1], stepM (trialM l w h i (goM l w h i).2) (restM h (tryM l w h i (goM l w h i).2).1 (goM l w h i).2))
def okAtM (l : List StepT) (w : List Span) (h : HorT) (i : Nat) : Bool := (tryM l w h i (goM l w h i).2).2
def restsErrM (t : TeamT) (p : PlotT) : Int := if p.steps.any (fun s => sfM none s) then 1 else if openErrM t p true == 0 then (if (List.range p.steps.length).all (fun i => okAtM p.steps (worksM p) (worstM t) i) then 0 else 11) else openErrM t p true
def restsM (t : TeamT) (p : PlotT) : List Int × Int := if restsErrM t p == 0 then ((goM p.steps (worksM p) (worstM t) p.steps.length).1, 0) else ([], restsErrM t p)
theorem go_len (l : List StepT) (w : List Span) (h : HorT) : ∀ i, (goM l w h i).1.length = i
  | 0 => rfl
  | i + 1 => by simp [goM, go_len l w h i]
theorem step_rest {l : List StepT} {w : List Span} {h : HorT} {i : Nat} {now m : Int} (hr : (stpM l i).1 = true) : stepM (trialM l w h i now) m = restM h (l.getD i (0, 0, 0)).2.2 m := by
  unfold stepM
  rw [if_pos (show (trialM l w h i now).2.1.1 = true from hr)]
  rfl
theorem step_furrow {l : List StepT} {w : List Span} {h : HorT} {i : Nat} {now m : Int} (hr : (stpM l i).1 = false) : stepM (trialM l w h i now) m = furrowM h (w.getD i (0, 0)) m := by
  unfold stepM
  rw [if_neg (show ¬ (trialM l w h i now).2.1.1 = true from by rw [show (trialM l w h i now).2.1.1 = false from hr]; decide)]
  rfl
theorem rests_any {t : TeamT} {p : PlotT} (h : (!p.steps.any fun s => sfM none s) = false) : restsM t p = ([], 1) := by
  have h' : (p.steps.any fun s => sfM none s) = true := by simpa using h
  have e : restsErrM t p = 1 := by unfold restsErrM; rw [if_pos h']
  unfold restsM; rw [e]; rfl
theorem rests_open {t : TeamT} {p : PlotT} (h : (!p.steps.any fun s => sfM none s) = true) (ho : (openErrM t p true == 0) = false) : restsM t p = ([], openErrM t p true) := by
  have h' : ¬ (p.steps.any fun s => sfM none s) = true := by simpa using h
  have e : restsErrM t p = openErrM t p true := by unfold restsErrM; rw [if_neg h', if_neg (by rw [ho]; decide)]
  unfold restsM; rw [e, if_neg (by rw [ho]; decide)]
theorem rests_bad {t : TeamT} {p : PlotT} (h : (!p.steps.any fun s => sfM none s) = true) (ho : (openErrM t p true == 0) = true) {i : Nat} (hi : i < p.steps.length) (hb : okAtM p.steps (worksM p) (worstM t) i = false) : restsM t p = ([], 11) := by
  have h' : ¬ (p.steps.any fun s => sfM none s) = true := by simpa using h
  have hall : ¬ ((List.range p.steps.length).all fun i => okAtM p.steps (worksM p) (worstM t) i) = true := by
    intro hh
    rw [List.all_eq_true] at hh
    have := hh i (List.mem_range.2 hi)
    rw [hb] at this; cases this
  have e : restsErrM t p = 11 := by unfold restsErrM; rw [if_neg h', if_pos ho, if_neg hall]
  unfold restsM; rw [e]; rfl
theorem rests_ok' {t : TeamT} {p : PlotT} (h : (!p.steps.any fun s => sfM none s) = true) (ho : (openErrM t p true == 0) = true) (hk : ∀ i, i < p.steps.length → okAtM p.steps (worksM p) (worstM t) i = true) : restsM t p = ((goM p.steps (worksM p) (worstM t) p.steps.length).1, 0) := by
  have h' : ¬ (p.steps.any fun s => sfM none s) = true := by simpa using h
  have hall : ((List.range p.steps.length).all fun i => okAtM p.steps (worksM p) (worstM t) i) = true := by
    rw [List.all_eq_true]
    intro i hi
    exact hk i (List.mem_range.1 hi)
  have e : restsErrM t p = 0 := by unfold restsErrM; rw [if_neg h', if_pos ho, if_pos hall]
  unfold restsM; rw [e]; rfl
def restsL (t : TeamT) (p : PlotT) : LSpec UU where
  T := { i : Nat // i ≤ p.steps.length ∧ ∀ j, j < i → okAtM p.steps (worksM p) (worstM t) j = true }
  fr := fun i => [(2, .ptr 2 0 0 0), (3, .ptr 3 0 0 0), (4, .ptr 4 0 0 0), (5, .ptr 5 0 0 0), (6, .ptr 7 0 0 0), (7, .ptr 8 0 0 0), (8, .ptr 9 0 0 0), (30, .gs 10 0), (31, .i p.steps.length), (32, .i i.1)]
  H := fun i => hPlot p ++ [.one (.cells [.i t.1.1, .i t.1.2, .i t.2.1.1, .i t.2.1.2, .i t.2.2.1.1, .i t.2.2.1.2, .i t.2.2.2] 25), .one (.cells (cPlot p 0 1) 31), .one (.cells [.gs 11 0] 43), .one (.cells [.i 0] 35), .one (.row .span (worksM p) 23), .one (.cells (cPlot p 0 1 ++ [.gs 6 0]) 136), .one (.cells (lHor (worstM t)) 75), .one (.cells [.i (goM p.steps (worksM p) (worstM t) i.1).2] 3), .one (.row (.stp 7) (stepsM p.steps) 99), .one (.row .int (goM p.steps (worksM p) (worstM t) i.1).1 3)]
  mu := fun i => p.steps.length - i.1
def restsS : FSpec UU := oneS fun x => .val ⟨.tup [.gs 2 0, .i (restsM x.1 x.2).2], [], [], [.row .int (restsM x.1 x.2).1 3]⟩
def Trests : Tab UU := [(55, anySr.con), (53, needS.con), (41, openTS.con), (42, casesS.con), (57, stepsS.con), (60, firstS.con), (58, restedS.con), (152, doRS.con), (153, doFS.con), (40, caughtS.con)]
theorem Trests_ok : Trests.Sound Tryz.prog := .cons anyS_sound (.cons need_sound (.cons openT_sound (.cons cases_sound (.cons steps_sound (.cons first_sound (.cons rested_sound (.cons doR_sound (.cons doF_sound (.cons caught_sound .nil)))))))))
theorem rests_ok : ∀ x, restsS.pre x → FunOk Tryz.prog 16 (restsS.args x) (restsS.H x) (restsS.R x) := by
  rintro ⟨⟨⟨s0, s1⟩, ⟨l0, l1⟩, ⟨g0, g1⟩, full⟩, ⟨⟨long, rise, change, ps⟩, st⟩⟩ hx
  refine fun_ofT (T := Trests) (L := fun _ => some (.inv (restsL ((s0, s1), (l0, l1), (g0, g1), full) ⟨⟨long, rise, change, ps⟩, st⟩))) (hs := fun _ => []) (sp := fun _ => none) hmix Trests_ok (tdAt_ok tdRests_ok) (it := fun _ => none) (fun _ _ h => by cases h) Tryz.func16 (by kernel_rfl) (by kernel_rfl) ?_
  refine Eq.mp (α :=
      let AS := (23 : TypeId); let AT := (99 : TypeId); let AU := (138 : TypeId); let AW := (139 : TypeId); let AX := (130 : TypeId); let Ac := (nat_lit 0 = nat_lit 0 ∧ True ∧ True) ∧ True; let A1 := nat_lit 0 = nat_lit 0 ∧ nat_lit 0 = nat_lit 0 ∧ nat_lit 0 = nat_lit 0; let Ap := Fn.func ((88 : FuncId)); let Aq := Fn.func ((87 : FuncId)); let Ar := st = st ∧ True; let Ad := List.length st < nat_lit 1000000; let As := (↑(List.length st) : Int); let At := Value.int IntKind.i64 (1 : Int); let Ae := Value.int IntKind.i64 (0 : Int); let Au := True ∧ True ∧ True ∧ True ∧ True ∧ True; let Av := Value.int IntKind.i64 (11 : Int); let A3 := A1 ∧ True; let AY := (true, (0 : Int)); let AZ := Value.int IntKind.i64 full = Value.int IntKind.i64 full; let B0 := Value.int IntKind.i64 long = Value.int IntKind.i64 long; let B1 := Value.int IntKind.i64 rise = Value.int IntKind.i64 rise; let B2 := Value.int IntKind.i64 change = Value.int IntKind.i64 change; let B3 := True ∧ Au; let BW := List.any st fun (y : StepT) => sfM none y; let Aw := List.length (worksM (PlotT.mk (GroundT.mk long rise change ps) st)); let B4 := True ∧ B3; let Ax := Value.int IntKind.i64 As; let A6 := Value.slice none (nat_lit 0) (nat_lit 0) = Value.slice none (nat_lit 0) (nat_lit 0); let Ay := !BW; let B5 := ((0 : Int), (0 : Int)); let B6 := List.length (stepsM st); let Az := AT = AT; let B7 := Value.bool Ay; let AA := AX = AX; let B8 := nat_lit 0 = nat_lit 0 ∧ nat_lit 0 = nat_lit 0 ∧ List.length ps = List.length ps; let B9 := (st, worksM (PlotT.mk (GroundT.mk long rise change ps) st)); let A7 := nat_lit 0 = nat_lit 0 ∧ nat_lit 0 = nat_lit 0 ∧ List.length st = List.length st; let Ba := ps = ps ∧ Ar; let Af := A1 ∧ A3; let Bb := (0 : Int) != (0 : Int); let Ag := True ∧ ps = ps ∧ st = st ∧ True ∧ True; let Bc := (1 : Int) != (0 : Int); let Bd := (11 : Int) != (0 : Int); let Be := Ae = Ae; let Bf := (Ap = Ap) ∧ True ∧ True; let Bg := (At = At) ∧ True; let Ah := Be ∧ True; let AB := Af ∧ True ∧ True; let Bh := (Av = Av) ∧ True; let AC := worksM (PlotT.mk (GroundT.mk long rise change ps) st) = worksM (PlotT.mk (GroundT.mk long rise change ps) st); let Ai := Ah ∧ True; let BX := DfE.call (Fn.func (nat_lit 54)) ((AV.ptr (5 : Nat) (nat_lit 0) (nat_lit 0) (nat_lit 0)) :: ([(AV.ptr (4 : Nat) (nat_lit 0) (nat_lit 0) (nat_lit 0))] : List AV) : List AV) []; let AD := ((s0, s1), (((l0, l1), (((g0, g1), full))))); let A2 := worstM AD; let Bi : List DfE := [BX]; let Bj := (True ∧ True ∧ True ∧ True ∧ A7 ∧ True ∧ True) ∧ Ar; let AE := (AS = AS) ∧ AC; let Bk := (nat_lit 6 = nat_lit 6 ∧ nat_lit 0 = nat_lit 0 ∧ nat_lit 0 = nat_lit 0 ∧ (List.length (worksM (PlotT.mk (GroundT.mk long rise change ps) st))) = Aw) ∧ True; let Bl := restsM AD (PlotT.mk (GroundT.mk long rise change ps) st); let AF := openErrM AD (PlotT.mk (GroundT.mk long rise change ps) st) true; let Bm := Prod.snd A2; let Bn : List Int := Prod.fst Bl; let AG := Value.int IntKind.i64 AF; let AH := Value.int IntKind.i64 (Prod.fst A2); let Aj := Value.int IntKind.i64 (Prod.snd Bl); let Bo := Prod.snd Bm; let AI := Value.int IntKind.i64 (Prod.fst Bm); let Bp := Prod.snd Bo; let Bq := (B7 = B7) ∧ Bg; let Br := AF != (0 : Int); let Bs := AF == (0 : Int); let Ak := Prod.snd Bp; let AJ := Value.int IntKind.i64 (Prod.fst Bo); let Al := True ∧ True ∧ (Bn = []) ∧ True; let Bt := (Ae = Aj) ∧ True; let AK := Value.int IntKind.i64 (Prod.fst Bp); let Bu := (Av = Aj) ∧ True; let BY := fun (i : Nat) => ∀ (j : Nat), (j < i → ((okAtM (PlotT.steps (PlotT.mk (GroundT.mk long rise change ps) st)) (worksM (PlotT.mk (GroundT.mk long rise change ps) st)) A2 j) = true)); let Am := B0 ∧ B1 ∧ B2 ∧ B8 ∧ A7 ∧ True; let Bv := Bi = Bi; let AL := B0 ∧ B1 ∧ B2 ∧ B8 ∧ A7 ∧ nat_lit 0 = nat_lit 0 ∧ True; let A8 := (Value.int IntKind.i64 s0 = Value.int IntKind.i64 s0) ∧ (Value.int IntKind.i64 s1 = Value.int IntKind.i64 s1) ∧ (Value.int IntKind.i64 l0 = Value.int IntKind.i64 l0) ∧ (Value.int IntKind.i64 l1 = Value.int IntKind.i64 l1) ∧ (Value.int IntKind.i64 g0 = Value.int IntKind.i64 g0) ∧ (Value.int IntKind.i64 g1 = Value.int IntKind.i64 g1) ∧ AZ ∧ True; let A0 : Type := { i : Nat // ((i ≤ (List.length (PlotT.steps (PlotT.mk (GroundT.mk long rise change ps) st)))) ∧ BY i) }; let AM := fun (x : A0) => Subtype.val x; let A4 := fun (x : A0) => (↑(AM x) : Int); let Bw := fun (t : A0) => Int.toNat (A4 t); let Bx := fun (x : A0) => Value.int IntKind.i64 (A4 x); let By := fun (x : A0) => List.length st - AM x; let Bz := fun (t : A0) => nat_lit 0 + Bw t; let AN := fun (t : A0) => List.getD (stepsM st) (Bz t) AY; let An := fun (t : A0) => Prod.fst (AN t); let A9 := fun (t : A0) => Prod.snd (AN t); let BA := fun (x : A0) => goM st (worksM (PlotT.mk (GroundT.mk long rise change ps) st)) A2 (AM x); let BB := fun (t : A0) => Int.toNat (A9 t); let BC := fun (t : A0) => Value.int IntKind.i64 (A9 t); let AO := fun (x : A0) => Prod.snd (BA x); let Aa := fun (x : A0) => Prod.fst (BA x); let Ab := fun (x : A0) => Value.int IntKind.i64 (AO x); let BD := fun (t : A0) => (0 : Int) ≤ A9 t; let BE := A8 ∧ Am ∧ Value.bool true = Value.bool true ∧ True; let BF := fun (t : A0) => (A2, AO t); let BG := True ∧ True ∧ Ac ∧ Al ∧ ((A6 ∧ (At = Aj) ∧ True) ∧ True) ∧ Ag; let BH := fun (x t : A0) => By x < By t; let BI := True ∧ True ∧ Ac ∧ Al ∧ ((A6 ∧ (AG = Aj) ∧ True) ∧ True) ∧ Ag; let BJ := fun (t : A0) => decide ((A4 t < As)); let BK := fun (t : A0) => True ∧ (ps = ps ∧ (st = st ∧ ((((3 : TypeId) = (3 : TypeId)) ∧ Aa t = Bn) ∧ True))); let Ao := fun (t : A0) => A1 ∧ (BC t = BC t) ∧ True; let BL := fun (t : A0) => (Ab t = Ab t) ∧ True; let BM := fun (t : A0) => BD t ∧ A9 t < As; let BN := fun (t x : A0) => A1 ∧ (A1 ∧ (A1 ∧ (A1 ∧ (A1 ∧ (A1 ∧ (A1 ∧ (nat_lit 0 = nat_lit 0 ∧ ((Ax = Ax) ∧ (((Value.int IntKind.i64 ((IntKind.wrap IntKind.i64 ((A4 t + (1 : Int)))))) = Bx x) ∧ True))))))))); let BO := fun (t : A0) => firstM (fun (n : Int) => (suitM ((Sum.inr (((B9, ((AN t, BF t))))))) n)) full; let BP := fun (t : A0) => Prod.fst (BO t); let AP := fun (t : A0) => Prod.snd (BO t); let BQ := fun (t : A0) => Value.bool (AP t); let BZ := fun (t : A0) => firstM (fun (n : Int) => (suitM ((Sum.inr (((B9, (((List.getD (stepsM st) (((0 : Nat) + Bw t)) AY), BF t))))))) n)) full; let AQ := fun (t : A0) => Value.int IntKind.i64 (BP t); let BR := fun (t : A0) => AV.v (AQ t); let AR := fun (t : A0) => restM A2 (BP t) (AO t); let BS := fun (t : A0) => Value.int IntKind.i64 (AR t); let A5 := (AH = AH) ∧ (AI = AI) ∧ (AJ = AJ) ∧ (AK = AK) ∧ ((Ak = Ak) ∧ Bf ∧ (Aq = Aq) ∧ True ∧ True) ∧ True; let BT := fun (t x : A0) => ((nat_lit 3 = (3 : TypeId)) ∧ ((Aa t ++ (List.take (1 : Nat) ((List.drop (0 : Nat) (([(Prod.fst (BZ t))])))))) = Aa x)) ∧ True; let BU := fun (t : A0) => (BQ t = BQ t) ∧ Bh; let BV := fun (t : A0) => BS t = BS t; Ad ∧ (A7 ∧ (Fn.func (nat_lit 56) = Fn.func (56 : FuncId) ∧ True ∧ True) ∧ True) ∧ Ar ∧ True ∧ (Ay = true → Bq ∧ True ∧ (List.length ps < nat_lit 1000000 ∧ Ad) ∧ (Bs = true → BE ∧ Ba ∧ True ∧ (A8 ∧ True) ∧ True ∧ ((0 : Int) ≤ (0 : Int) ∧ (0 : Int) < (↑(nat_lit 2) : Int)) ∧ Ad ∧ A3 ∧ Bj ∧ (∃ (x : A0), (True ∧ True ∧ True ∧ B4) ∧ (True ∧ True ∧ B4 ∧ Au ∧ (nat_lit 0 = nat_lit 0 ∧ True) ∧ (True ∧ True) ∧ True ∧ B3 ∧ Au ∧ (True ∧ True) ∧ True ∧ Aa x = [] ∧ True) ∧ (A1 ∧ A1 ∧ A1 ∧ A1 ∧ A1 ∧ A1 ∧ A1 ∧ nat_lit 0 = nat_lit 0 ∧ Value.int IntKind.i64 (↑(List.length (stepsM st)) : Int) = Ax ∧ Ae = Bx x ∧ True) ∧ AB ∧ ps = ps ∧ st = st ∧ A8 ∧ Am ∧ (A6 ∧ True) ∧ Ah ∧ AE ∧ AL ∧ (Value.int IntKind.i64 s0 = AH ∧ Value.int IntKind.i64 l1 = AI ∧ Value.int IntKind.i64 g0 = AJ ∧ Value.int IntKind.i64 full = AK ∧ ((Ak = true → Bf) ∧ (Ak = false → Ap = Aq ∧ True ∧ True)) ∧ True) ∧ (Value.int IntKind.i64 s0 = Ab x ∧ True) ∧ (Az ∧ stepsM st = stepsM st) ∧ True ∧ True) ∧ ∀ (t : A0), (BJ t = true → ((0 : Int) ≤ A4 t ∧ A4 t < (↑B6 : Int)) ∧ Bz t < B6 ∧ ((Aw = List.length st ∧ Ad ∧ BM t) ∧ full < (1000000000000 : Int)) ∧ (Be ∧ AZ ∧ (Fn.func (nat_lit 59) = Fn.func (59 : FuncId) ∧ True ∧ A1 ∧ Af) ∧ True) ∧ ((True ∧ True ∧ True ∧ True ∧ A7 ∧ Bk) ∧ st = st ∧ AC ∧ ((An t = An t ∧ (AU = AU ∧ Ao t) ∧ AW = AW ∧ Ao t) ∧ True) ∧ A5 ∧ BL t ∧ ((Fn.func (nat_lit 58) = Fn.func (58 : FuncId) ∧ True ∧ Af) ∧ True) ∧ True) ∧ True ∧ (AP t = true → BU t ∧ True ∧ (nat_lit 1 = nat_lit 1 ∧ BR t = BR t ∧ True) ∧ nat_lit 1 ≤ nat_lit 1 ∧ List.length (Aa t) + nat_lit 1 ≤ nat_lit 1099511627776 ∧ True ∧ (AQ t = AQ t ∧ Af) ∧ (A5 ∧ BL t ∧ True) ∧ (An t = true → BM t ∧ (Ao t ∧ A5 ∧ BV t ∧ True) ∧ Bj ∧ Bv ∧ ∃ (x : A0), (BN t x ∧ AB ∧ ps = ps ∧ st = st ∧ A8 ∧ Am ∧ (nat_lit 0 = nat_lit 0 ∧ True) ∧ Ah ∧ AE ∧ AL ∧ A5 ∧ (Value.int IntKind.i64 (restM A2 (Prod.snd (Prod.snd (List.getD st (BB t) ((0 : Int), B5)))) (AR t)) = Ab x ∧ True) ∧ (Az ∧ stepsM st = stepsM st) ∧ BT t x) ∧ BH x t) ∧ (An t = false → (BD t ∧ A9 t < (↑Aw : Int)) ∧ (Ao t ∧ A5 ∧ BV t ∧ True) ∧ ((True ∧ True ∧ True ∧ True ∧ True ∧ Bk) ∧ AC ∧ True) ∧ Bv ∧ ∃ (x : A0), (BN t x ∧ AB ∧ ps = ps ∧ st = st ∧ A8 ∧ Am ∧ (nat_lit 0 = nat_lit 0 ∧ True) ∧ Ah ∧ AE ∧ AL ∧ A5 ∧ (Value.int IntKind.i64 (furrowM A2 (List.getD (worksM (PlotT.mk (GroundT.mk long rise change ps) st)) (BB t) B5) (AR t)) = Ab x ∧ True) ∧ (Az ∧ stepsM st = stepsM st) ∧ BT t x) ∧ BH x t)) ∧ (AP t = false → BU t ∧ True ∧ True ∧ ((AA ∧ Bh) ∧ A3) ∧ Ai ∧ (Bd = true → True ∧ True ∧ Ac ∧ Al ∧ ((A6 ∧ Bu) ∧ True) ∧ Ag) ∧ (Bd = false → True ∧ True ∧ ((nat_lit 0 = nat_lit 0 ∧ Bu) ∧ True) ∧ BK t))) ∧ (BJ t = false → True ∧ (Value.nilIface = Value.nilIface ∧ A3) ∧ Ai ∧ (Bb = true → True ∧ True ∧ Ac ∧ Al ∧ ((A6 ∧ Bt) ∧ True) ∧ Ag) ∧ (Bb = false → True ∧ True ∧ ((nat_lit 0 = nat_lit 0 ∧ Bt) ∧ True) ∧ BK t))) ∧ (Bs = false → BE ∧ Ba ∧ True ∧ ((AA ∧ AG = AG ∧ True) ∧ A3) ∧ Ai ∧ (Br = true → BI) ∧ (Br = false → BI))) ∧ (Ay = false → Bq ∧ True ∧ True ∧ ((AA ∧ Bg) ∧ A3) ∧ Ai ∧ (Bc = true → BG) ∧ (Bc = false → BG)))
    (by kernel_rfl) ?_
  simp only [eq_self, AE.goS]
  have h1 : ps.length < 1000000 := hx.1
  have h2 : st.length < 1000000 := hx.2
  have hw : (worksM ⟨⟨long, rise, change, ps⟩, st⟩).length = st.length := works_len _
  refine ⟨h2, fun hany => ⟨⟨h1, h2⟩, fun hop => ⟨⟨by decide, by decide⟩, h2, ⟨⟨0, Nat.zero_le _, fun j hj => absurd hj (Nat.not_lt_zero j)⟩, rfl, ⟨by rw [steps_len], rfl⟩, ⟨rfl, rfl, rfl, rfl, (fun _ => trivial), (fun h => nomatch (show true = false from h))⟩, rfl⟩, fun t => ⟨fun ht => ?_, fun ht => ?_⟩⟩, fun hop => ?_⟩, fun hany => ?_⟩
  · obtain ⟨i, hi, h0⟩ := t
    have hlt : i < st.length := by have h1 : (i : Int) < (st.length : Int) := ht; omega
    have hg' := steps_get st i hlt
    have hsl := steps_len st
    have hfull : full < 1000000000000 := by
      have := team_full (open_team hop)
      have h' : full ≤ 10000 := this
      omega
    have hgl := go_len st (worksM ⟨⟨long, rise, change, ps⟩, st⟩) (worstM ((s0, s1), (l0, l1), (g0, g1), full)) i
    simp only [hg', hsl]
    refine ⟨⟨Int.natCast_nonneg _, ht⟩, hlt, ⟨⟨hw, h2, Int.natCast_nonneg _, ht⟩, hfull⟩, fun hok => ⟨Nat.le_refl _, by show (goM st (worksM ⟨⟨long, rise, change, ps⟩, st⟩) (worstM ((s0, s1), (l0, l1), (g0, g1), full)) i).1.length + 1 ≤ _; omega, fun hr => ⟨⟨Int.natCast_nonneg _, ht⟩, ⟨i + 1, hlt, below_succ h0 hok⟩, ⟨sucI i (by omega), ?_, rfl⟩, dec1 hlt⟩, fun hr => ⟨⟨Int.natCast_nonneg _, by rw [hw]; exact ht⟩, ⟨i + 1, hlt, below_succ h0 hok⟩, ⟨sucI i (by omega), ?_, rfl⟩, dec1 hlt⟩⟩, fun hbad => ⟨fun _ => ?_, fun h => absurd h (by decide)⟩⟩
    · exact (step_rest hr).symm
    · exact (step_furrow hr).symm
    · have e := rests_bad (t := ((s0, s1), (l0, l1), (g0, g1), full)) (p := ⟨⟨long, rise, change, ps⟩, st⟩) hany hop hlt hbad
      rw [e]; exact ⟨rfl, rfl⟩
  · obtain ⟨i, hi, h0⟩ := t
    have hie : i = st.length := by have h1 : ¬ (i : Int) < (st.length : Int) := ht; omega
    have e := rests_ok' (t := ((s0, s1), (l0, l1), (g0, g1), full)) (p := ⟨⟨long, rise, change, ps⟩, st⟩) hany hop (fun j hj => h0 j (by rw [hie]; exact hj))
    rw [e]
    refine ⟨fun h => absurd h (by decide), fun _ => ⟨rfl, ?_⟩⟩
    subst hie; rfl
  · have e := rests_open (t := ((s0, s1), (l0, l1), (g0, g1), full)) (p := ⟨⟨long, rise, change, ps⟩, st⟩) hany hop
    rw [e]; exact ⟨fun _ => ⟨rfl, rfl⟩, fun _ => ⟨rfl, rfl⟩⟩
  · have e := rests_any (t := ((s0, s1), (l0, l1), (g0, g1), full)) (p := ⟨⟨long, rise, change, ps⟩, st⟩) hany
    rw [e]; exact ⟨fun _ => ⟨rfl, rfl⟩, fun _ => ⟨rfl, rfl⟩⟩

theorem rests_sound : Sound Tryz.prog 16 restsS.con := FSpec.sound _ (enter_of Tryz.func16 (by kernel_rfl) (by kernel_rfl)) rests_ok
end AE.Team

namespace AE.Team
open Go AE Go.Proofs AE.Soil

def horM (t : TeamT) (b : Bool) : HorT := if b then worstM t else bestM t
def endM (t : TeamT) (p : PlotT) (b : Bool) (n : Nat) : Int := nowM p.steps (worksM p) (horM t b) n
def leftHc (t : TeamT) (p : PlotT) (n : Int) (a b : Int) : Heap UU := hPlot p ++ [.one (.cells [.i t.1.1, .i t.1.2, .i t.2.1.1, .i t.2.1.2, .i t.2.2.1.1, .i t.2.2.1.2, .i t.2.2.2] 25), .one (.cells (cPlot p 0 1) 31), .one (.cells [.i n] 3), .one (.cells [.i 0, .i 0] 23), .one (.cells [.i 0] 35), .one (.row .span (worksM p) 23), .one (.cells (cPlot p 0 1 ++ [.gs 7 0]) 136), .one (.cells [.i a, .i b] 58)]
def leftFr (t : TeamT) (k : Int) : Fr := [(3, .ptr 2 0 0 0), (4, .ptr 3 0 0 0), (5, .ptr 4 0 0 0), (6, .ptr 5 0 0 0), (7, .ptr 6 0 0 0), (8, .ptr 8 0 0 0), (9, .ptr 9 0 0 0), (24, .agg [.i t.1.1, .i t.2.1.2, .i t.2.2.1.1, .i t.2.2.2, .fn (.func 88) [] [], .i t.1.2, .i t.2.1.1, .i t.2.2.1.2, .i t.2.2.2, .fn (.func 87) [] []]), (25, .i k)]
def leftIt (t : TeamT) (p : PlotT) (n : Int) (b : Bool) (y : Nat) (_ : Nat) : Option (LRule UU) := some (.inv {
  T := { i : Nat // i ≤ p.steps.length }
  fr := fun i => [(0, .fn (.yield y) [] []), (1, .ptr 13 0 0 0), (2, .ptr 12 0 0 0), (4, .i (endM t p b i.1)), (10, .gs 14 0), (11, .i p.steps.length), (12, .i i.1)]
  H := fun i => (match b with
    | true => leftHc t p n (endM t p true (min i.1 n.toNat)) 0 ++ [.one (.cells [.i 0] 3)]
    | false => leftHc t p n (endM t p true n.toNat) (endM t p false (min i.1 n.toNat)) ++ [.one (.cells [.i 1] 3)]) ++ [.one (.cells (lHor (horM t b)) 75), .one (.cells [.ptr 8 0 0 0] 71), .one (.cells (lHor (horM t b)) 75), .one (.row (.stp 8) (stepsM p.steps) 99)]
  mu := fun i => p.steps.length - i.1 })
def firstRound (H : Heap UU) : Bool := match blkAt H 10 0 with
  | some (.cells [.v (.int _ k)] _) => Nat.beq k.toNat 0
  | _ => false
def itSel (sel : Heap UU → Bool) (i j : ItW UU) : ItW UU where
  g := i.g
  fn := i.fn
  run := fun Y l m fr H K => match sel H with
    | true => i.run Y l m fr H K
    | false => j.run Y l m fr H K
theorem itSel_ok {P : Program} {sel : Heap UU → Bool} {i j : ItW UU} (hi : ItOk P i) (hj : ItOk P j) (hf : j.fn = i.fn) : ItOk P (itSel sel i j) where
  fn := hi.fn
  body := hi.body
  res := hi.res
  enters := hi.enters
  walk := fun Y l fr H K h => by
    simp only [itSel] at h ⊢
    split at h
    · exact hi.walk Y l fr H K h
    · have := hj.walk Y l fr H K h
      rw [hf] at this
      exact this
theorem open_is {t : TeamT} {p : PlotT} {is : Bool} (h : (openErrM t p is == 0) = true) : is = true := by
  unfold openErrM at h
  cases is with
  | true => rfl
  | false => split at h <;> simp at h
def leftM (t : TeamT) (p : PlotT) (n : Int) : Span × Int := if openErrM t p (inM n 0 p.steps.length) == 0 then ((endM t p true n.toNat, endM t p false n.toNat), 0) else ((0, 0), openErrM t p (inM n 0 p.steps.length))
def leftS : FSpec UU where
  X := TeamT × PlotT × Int
  pick := fun args H => match args with
    | [t, p, n] => match avTeam t, avPlot H p, avInt n with
      | some t, some p, some n => some (t, p, n)
      | _, _, _ => none
    | _ => none
  args := fun x => [vTeam x.1, vPlot x.2.1 0 1, .i x.2.2]
  H := fun x => hPlot x.2.1
  R := fun x => .val ⟨.tup [vSpan (leftM x.1 x.2.1 x.2.2).1, .i (leftM x.1 x.2.1 x.2.2).2], [], [], []⟩
  pre := fun x => x.2.1.g.pits.length < 1000000 ∧ x.2.1.steps.length < 1000000
def Tleft : Tab UU := [(41, openTS.con), (42, casesS.con), (49, behindS.con), (48, withinS.con), (40, caughtS.con)]
theorem Tleft_ok : Tleft.Sound Tryz.prog := .cons openT_sound (.cons cases_sound (.cons behind_sound (.cons twithin_sound (.cons caught_sound .nil))))
theorem left_ok : ∀ x, leftS.pre x → FunOk Tryz.prog 12 (leftS.args x) (leftS.H x) (leftS.R x) := by
  rintro ⟨⟨⟨s0, s1⟩, ⟨l0, l1⟩, ⟨g0, g1⟩, full⟩, ⟨⟨long, rise, change, ps⟩, st⟩, n⟩ hx
  refine fun_ofG (T := Tleft) (L := fun _ => some (.steps [(leftFr ((s0, s1), (l0, l1), (g0, g1), full) 0, leftHc ((s0, s1), (l0, l1), (g0, g1), full) ⟨⟨long, rise, change, ps⟩, st⟩ n 0 0), (leftFr ((s0, s1), (l0, l1), (g0, g1), full) 1, leftHc ((s0, s1), (l0, l1), (g0, g1), full) ⟨⟨long, rise, change, ps⟩, st⟩ n (endM ((s0, s1), (l0, l1), (g0, g1), full) ⟨⟨long, rise, change, ps⟩, st⟩ true n.toNat) 0), (leftFr ((s0, s1), (l0, l1), (g0, g1), full) 2, leftHc ((s0, s1), (l0, l1), (g0, g1), full) ⟨⟨long, rise, change, ps⟩, st⟩ n (endM ((s0, s1), (l0, l1), (g0, g1), full) ⟨⟨long, rise, change, ps⟩, st⟩ true n.toNat) (endM ((s0, s1), (l0, l1), (g0, g1), full) ⟨⟨long, rise, change, ps⟩, st⟩ false n.toNat))])) (hs := fun _ => []) (sp := fun _ => none) hmix Tleft_ok (tl := toldL 47) (toldL_ok toldLeft) (it := onlyAt 11 (itSel firstRound (itOf Tryz.prog Tit 89 Tryz.f89 (leftIt ((s0, s1), (l0, l1), (g0, g1), full) ⟨⟨long, rise, change, ps⟩, st⟩ n true) (fun _ => []) (fun _ => none)) (itOf Tryz.prog Tit 89 Tryz.f89 (leftIt ((s0, s1), (l0, l1), (g0, g1), full) ⟨⟨long, rise, change, ps⟩, st⟩ n false) (fun _ => []) (fun _ => none)))) (onlyAt_ok (itSel_ok itB_ok itB_ok rfl)) Tryz.func12 (by kernel_rfl) (by kernel_rfl) ?_
  refine Eq.mp (α :=
      let Bc := (23 : TypeId); let Bd := (99 : TypeId); let Be := (130 : TypeId); let A1 := nat_lit 0 = nat_lit 0 ∧ nat_lit 0 = nat_lit 0 ∧ nat_lit 0 = nat_lit 0; let Av := Fn.func ((87 : FuncId)); let Aw := Fn.func ((88 : FuncId)); let Bf := st = st ∧ True; let Ai := fun (l : Nat) => Fn.yield l = Fn.yield l ∧ True ∧ True; let Aj := Value.int IntKind.i64 (0 : Int); let Ax := (↑(List.length st) : Int); let AM := List.length st < nat_lit 1000000; let AN := Value.int IntKind.i64 (1 : Int); let A3 := A1 ∧ True; let Bg := Value.int IntKind.i64 n = Value.int IntKind.i64 n; let AO := Value.int IntKind.i64 s0 = Value.int IntKind.i64 s0; let AP := Value.int IntKind.i64 s1 = Value.int IntKind.i64 s1; let AQ := Value.int IntKind.i64 l0 = Value.int IntKind.i64 l0; let AR := Value.int IntKind.i64 l1 = Value.int IntKind.i64 l1; let AS := Value.int IntKind.i64 g0 = Value.int IntKind.i64 g0; let Bh := Value.int IntKind.i64 long = Value.int IntKind.i64 long; let AT := Value.int IntKind.i64 g1 = Value.int IntKind.i64 g1; let Bi := Value.int IntKind.i64 rise = Value.int IntKind.i64 rise; let Am := Value.int IntKind.i64 full = Value.int IntKind.i64 full; let Bj := Value.int IntKind.i64 change = Value.int IntKind.i64 change; let A7 := Bg ∧ True; let Bk := List.length (worksM (PlotT.mk (GroundT.mk long rise change ps) st)); let Ay := Value.int IntKind.i64 Ax; let Bl := (True ∧ True ∧ True ∧ True ∧ True ∧ True ∧ True) ∧ True; let AU := A3 ∧ True ∧ True; let Bm := ((0 : Int), (0 : Int)); let Bn := List.length (stepsM st); let Aa := Bd = Bd; let Bo := nat_lit 0 = nat_lit 0 ∧ nat_lit 0 = nat_lit 0 ∧ List.length ps = List.length ps; let AV := ps = ps ∧ Bf; let AW := nat_lit 0 = nat_lit 0 ∧ nat_lit 0 = nat_lit 0 ∧ List.length st = List.length st; let Bp := inM n (0 : Int) Ax; let AX := Value.nilIface = Value.nilIface ∧ A3; let Az := True ∧ AV; let Bq := Value.bool Bp; let AY := Aj = Aj; let A0 : Type := { i : Nat // (i ≤ (List.length (PlotT.steps (PlotT.mk (GroundT.mk long rise change ps) st)))) }; let Br := (Aw = Av) ∧ True ∧ True; let AA := (Av = Av) ∧ True ∧ True; let Bs := (Av = Aw) ∧ True ∧ True; let AB := (Aw = Aw) ∧ True ∧ True; let An := fun (x : A0) => Subtype.val x; let A2 := AY ∧ True; let Ao := (AN = AN) ∧ True; let Bt := worksM (PlotT.mk (GroundT.mk long rise change ps) st) = worksM (PlotT.mk (GroundT.mk long rise change ps) st); let AC := A2 ∧ True; let Af := fun (x : A0) => (↑(An x) : Int); let Bu := fun (x : A0) => min (An x) (Int.toNat n); let Bv := Ay = Ay; let Bw := fun (x : A0) => Value.int IntKind.i64 (Af x); let Ag := ((0 : Int) ≤ (0 : Int)) ∧ ((0 : Int) < (↑(nat_lit 2) : Int)); let Ah := ((0 : Int) ≤ (1 : Int)) ∧ ((1 : Int) < (↑(nat_lit 2) : Int)); let Bx := decide ((0 : Int) < (2 : Int)); let By := decide ((1 : Int) < (2 : Int)); let Bz := decide ((2 : Int) < (2 : Int)); let Ab := ((s0, s1), (((l0, l1), (((g0, g1), full))))); let BA := fun (x : A0) => List.length st - An x; let AD := horM Ab true; let AE := horM Ab false; let BB := fun (t : A0) => nat_lit 0 + (Int.toNat (Af t)); let AF := (True ∧ True ∧ True ∧ True ∧ AW ∧ True ∧ True) ∧ Bf; let A8 := (Bc = Bc) ∧ Bt; let BC := leftM Ab (PlotT.mk (GroundT.mk long rise change ps) st) n; let BD := fun (x : A0) => (Aj = Bw x) ∧ True; let A5 := AY ∧ A2; let BE := Prod.snd AD; let BF := Prod.snd AE; let AG := AB ∧ AA; let BG := Prod.fst BC; let AZ := Value.int IntKind.i64 (Prod.fst AD); let B0 := Value.int IntKind.i64 (Prod.fst AE); let AH := Value.int IntKind.i64 (endM Ab (PlotT.mk (GroundT.mk long rise change ps) st) true (Int.toNat n)); let BH := Value.int IntKind.i64 (endM Ab (PlotT.mk (GroundT.mk long rise change ps) st) false (Int.toNat n)); let BI := Value.int IntKind.i64 (Prod.snd BC); let BJ := Prod.snd BE; let BK := Prod.snd BF; let BL := Value.int IntKind.i64 (Prod.snd BG); let BM := Value.int IntKind.i64 (Prod.fst BG); let BN := Value.int IntKind.i64 s0 = AZ; let BO := Value.int IntKind.i64 s1 = B0; let B1 := Value.int IntKind.i64 (Prod.fst BE); let B2 := Value.int IntKind.i64 (Prod.fst BF); let BP := fun (t : A0) => BB t < Bn; let BQ := Prod.snd BJ; let BR := Prod.snd BK; let BS := openErrM Ab (PlotT.mk (GroundT.mk long rise change ps) st) Bp; let Ap := Prod.snd BQ; let Aq := Prod.snd BR; let B3 := Value.int IntKind.i64 (Prod.fst BJ); let B4 := Value.int IntKind.i64 (Prod.fst BK); let BT := Value.int IntKind.i64 l1 = B1; let BU := Value.int IntKind.i64 l0 = B2; let B5 := (Aj = BI) ∧ True; let B6 := Value.int IntKind.i64 BS; let BV := fun (t : A0) => List.getD (stepsM st) (BB t) ((true, (0 : Int))); let B7 := Value.int IntKind.i64 (Prod.fst BQ); let B8 := Value.int IntKind.i64 (Prod.fst BR); let BW := fun (t : A0) => decide ((Af t < n)); let B9 := fun (x : A0) => endM Ab (PlotT.mk (GroundT.mk long rise change ps) st) true (An x); let Ba := fun (x : A0) => endM Ab (PlotT.mk (GroundT.mk long rise change ps) st) false (An x); let BX := (Aj = BL) ∧ True; let BY := fun (t : A0) => Prod.fst (BV t); let Ar := fun (t : A0) => Prod.snd (BV t); let BZ := Value.int IntKind.i64 g0 = B3; let C0 := Value.int IntKind.i64 g1 = B4; let AI := fun (t : A0) => BW t = true; let AJ := fun (t : A0) => BW t = false; let C1 := fun (t : A0) => Int.toNat (Ar t); let As := fun (x : A0) => Value.int IntKind.i64 (B9 x); let At := fun (x : A0) => Value.int IntKind.i64 (Ba x); let C2 := fun (t : A0) => BY t = true; let C3 := fun (t : A0) => BY t = false; let C4 := fun (t : A0) => Value.int IntKind.i64 (Ar t); let C5 := Value.int IntKind.i64 full = B7; let C6 := Value.int IntKind.i64 full = B8; let A6 := Bh ∧ Bi ∧ Bj ∧ Bo ∧ AW ∧ True; let Ae := fun (x t : A0) => BA x < BA t; let A9 := Bh ∧ Bi ∧ Bj ∧ Bo ∧ AW ∧ nat_lit 0 = nat_lit 0 ∧ True; let C7 := BS == (0 : Int); let Ak := fun (x : A0) => Value.int IntKind.i64 ((endM Ab (PlotT.mk (GroundT.mk long rise change ps) st) true (Bu x))); let Al := fun (x : A0) => Value.int IntKind.i64 ((endM Ab (PlotT.mk (GroundT.mk long rise change ps) st) false (Bu x))); let C8 := (True ∧ True ∧ True ∧ True ∧ True ∧ (nat_lit 7 = nat_lit 7 ∧ nat_lit 0 = nat_lit 0 ∧ nat_lit 0 = nat_lit 0 ∧ (List.length (worksM (PlotT.mk (GroundT.mk long rise change ps) st))) = Bk) ∧ True) ∧ Bt ∧ True; let C9 := fun (t : A0) => (0 : Int) ≤ Ar t; let A4 := AO ∧ AP ∧ AQ ∧ AR ∧ AS ∧ AT ∧ Am ∧ True; let Ca := fun (t : A0) => ((0 : Int) ≤ Af t) ∧ (Af t < ((↑Bn : Int))); let Cb := fun (t : A0) => decide ((Af t < Ax)); let Cc := fun (t : A0) => Cb t = true; let Cd := fun (t : A0) => Cb t = false; let Ce := fun (t : A0) => List.getD (worksM (PlotT.mk (GroundT.mk long rise change ps) st)) (C1 t) Bm; let Au := AH = AH; let Cf := AH = BM; let Cg := fun (t : A0) => Prod.snd ((Prod.snd ((List.getD st (C1 t) (((0 : Int), Bm)))))); let AK := fun (t x : A0) => nat_lit 0 = nat_lit 0 ∧ (Bv ∧ (((Value.int IntKind.i64 ((IntKind.wrap IntKind.i64 ((Af t + (1 : Int)))))) = Bw x) ∧ True)); let Ch := (Aj = BM) ∧ BX; let Bb := AO ∧ AR ∧ AS ∧ Am ∧ AB ∧ AP ∧ AQ ∧ AT ∧ Am ∧ AA ∧ True; let Ci := fun (t : A0) => (At t = At t) ∧ True; let AL := fun (t : A0) => A1 ∧ (C4 t = C4 t) ∧ True; let Cj := fun (t : A0) => C9 t ∧ Ar t < Ax; let Ck := fun (t : A0) => C9 t ∧ (Ar t < ((↑Bk : Int))); let Cl := fun (t x : A0) => (Ak t = Ak x) ∧ A2; let Cm := A4 ∧ A6 ∧ (Bq = Bq) ∧ True; let Cn := fun (t : A0) => Value.int IntKind.i64 ((furrowM AD (Ce t) (B9 t))); let Co := fun (t : A0) => Value.int IntKind.i64 ((furrowM AE (Ce t) (Ba t))); let Cp := fun (t : A0) => Value.int IntKind.i64 ((restM AD (Cg t) (B9 t))); let Cq := fun (t : A0) => Value.int IntKind.i64 ((restM AE (Cg t) (Ba t))); let Cr := fun (t x : A0) => Au ∧ (Al t = Al x) ∧ True; let Cs := fun (l : Nat) (t x : A0) => Ai l ∧ A1 ∧ A1 ∧ (Cn t = As x) ∧ AK t x; let Ct := fun (l : Nat) (t x : A0) => Ai l ∧ A1 ∧ A1 ∧ (Co t = At x) ∧ AK t x; let Cu := fun (l : Nat) (t x : A0) => Ai l ∧ A1 ∧ A1 ∧ (Cp t = As x) ∧ AK t x; let Cv := fun (l : Nat) (t x : A0) => Ai l ∧ A1 ∧ A1 ∧ (Cq t = At x) ∧ AK t x; let Ad := (AZ = AZ) ∧ (B1 = B1) ∧ (B3 = B3) ∧ (B7 = B7) ∧ ((Ap = Ap) ∧ AG) ∧ True; let Ac := (B0 = B0) ∧ (B2 = B2) ∧ (B4 = B4) ∧ (B8 = B8) ∧ ((Aq = Aq) ∧ AG) ∧ True; let Cw := fun (t : A0) => Ad ∧ (As t = As t) ∧ True; True ∧ (Bg ∧ AY ∧ Bv ∧ True) ∧ True ∧ (List.length ps < nat_lit 1000000 ∧ AM) ∧ (C7 = true → Cm ∧ AV ∧ True ∧ (A4 ∧ True) ∧ True ∧ ((A1 ∧ A1 ∧ A1 ∧ A1 ∧ A1 ∧ A1 ∧ A1 ∧ Bb ∧ A2) ∧ AU ∧ ps = ps ∧ st = st ∧ A4 ∧ A6 ∧ A7 ∧ A5 ∧ A2 ∧ A8 ∧ A9 ∧ A5 ∧ True) ∧ (Bx = true → Ag ∧ Ag ∧ True ∧ (A1 ∧ (AO ∧ AR ∧ AS ∧ Am ∧ ((true = true → AB) ∧ (true = false → Br)) ∧ True) ∧ True) ∧ Bl ∧ ∀ (l : Nat), AM ∧ A3 ∧ AF ∧ (∃ (x : A0), (Ai l ∧ A1 ∧ A1 ∧ Value.int IntKind.i64 s0 = As x ∧ nat_lit 0 = nat_lit 0 ∧ Value.int IntKind.i64 (↑(List.length (stepsM st)) : Int) = Ay ∧ BD x) ∧ True ∧ ps = ps ∧ st = st ∧ A4 ∧ A6 ∧ A7 ∧ A5 ∧ A2 ∧ A8 ∧ A9 ∧ (Value.int IntKind.i64 s0 = Ak x ∧ A2) ∧ A2 ∧ (BN ∧ BT ∧ BZ ∧ C5 ∧ ((Ap = true → AB) ∧ (Ap = false → Br)) ∧ True) ∧ A3 ∧ (BN ∧ BT ∧ BZ ∧ C5 ∧ (true = Ap ∧ AG) ∧ True) ∧ (Aa ∧ stepsM st = stepsM st) ∧ True) ∧ ∀ (t : A0), (Cc t → Ca t ∧ BP t ∧ (C2 t → Cj t ∧ (AL t ∧ Cw t) ∧ AF ∧ l = l ∧ True ∧ (AI t → Ag ∧ True ∧ ∃ (x : A0), (Cu l t x ∧ True ∧ ps = ps ∧ st = st ∧ A4 ∧ A6 ∧ A7 ∧ A5 ∧ A2 ∧ A8 ∧ A9 ∧ (Cp t = Ak x ∧ A2) ∧ A2 ∧ Ad ∧ A3 ∧ Ad ∧ (Aa ∧ stepsM st = stepsM st) ∧ True) ∧ Ae x t) ∧ (AJ t → True ∧ ∃ (x : A0), (Cu l t x ∧ True ∧ ps = ps ∧ st = st ∧ A4 ∧ A6 ∧ A7 ∧ A5 ∧ A2 ∧ A8 ∧ A9 ∧ Cl t x ∧ A2 ∧ Ad ∧ A3 ∧ Ad ∧ (Aa ∧ stepsM st = stepsM st) ∧ True) ∧ Ae x t)) ∧ (C3 t → Ck t ∧ (AL t ∧ Cw t) ∧ C8 ∧ l = l ∧ True ∧ (AI t → Ag ∧ True ∧ ∃ (x : A0), (Cs l t x ∧ True ∧ ps = ps ∧ st = st ∧ A4 ∧ A6 ∧ A7 ∧ A5 ∧ A2 ∧ A8 ∧ A9 ∧ (Cn t = Ak x ∧ A2) ∧ A2 ∧ Ad ∧ A3 ∧ Ad ∧ (Aa ∧ stepsM st = stepsM st) ∧ True) ∧ Ae x t) ∧ (AJ t → True ∧ ∃ (x : A0), (Cs l t x ∧ True ∧ ps = ps ∧ st = st ∧ A4 ∧ A6 ∧ A7 ∧ A5 ∧ A2 ∧ A8 ∧ A9 ∧ Cl t x ∧ A2 ∧ Ad ∧ A3 ∧ Ad ∧ (Aa ∧ stepsM st = stepsM st) ∧ True) ∧ Ae x t))) ∧ (Cd t → ((A1 ∧ A1 ∧ A1 ∧ A1 ∧ A1 ∧ A1 ∧ A1 ∧ Bb ∧ Value.int IntKind.i64 (IntKind.wrap IntKind.i64 ((0 : Int) + (1 : Int))) = AN ∧ True) ∧ AU ∧ ps = ps ∧ st = st ∧ A4 ∧ A6 ∧ A7 ∧ A5 ∧ A2 ∧ A8 ∧ A9 ∧ (Ak t = AH ∧ A2) ∧ True) ∧ (By = true → Ah ∧ Ah ∧ True ∧ (A1 ∧ (AP ∧ AQ ∧ AT ∧ Am ∧ ((false = true → Bs) ∧ (false = false → AA)) ∧ True) ∧ True) ∧ Bl ∧ ∀ (l : Nat), AM ∧ A3 ∧ AF ∧ (∃ (x : A0), (Ai l ∧ A1 ∧ A1 ∧ Value.int IntKind.i64 s1 = At x ∧ nat_lit 0 = nat_lit 0 ∧ Value.int IntKind.i64 (↑(List.length (stepsM st)) : Int) = Ay ∧ BD x) ∧ True ∧ ps = ps ∧ st = st ∧ A4 ∧ A6 ∧ A7 ∧ A5 ∧ A2 ∧ A8 ∧ A9 ∧ (Au ∧ Value.int IntKind.i64 s1 = Al x ∧ True) ∧ Ao ∧ (BO ∧ BU ∧ C0 ∧ C6 ∧ ((Aq = true → Bs) ∧ (Aq = false → AA)) ∧ True) ∧ A3 ∧ (BO ∧ BU ∧ C0 ∧ C6 ∧ (false = Aq ∧ AG) ∧ True) ∧ (Aa ∧ stepsM st = stepsM st) ∧ True) ∧ ∀ (t : A0), (Cc t → Ca t ∧ BP t ∧ (C2 t → Cj t ∧ (AL t ∧ Ac ∧ Ci t) ∧ AF ∧ l = l ∧ True ∧ (AI t → Ah ∧ True ∧ ∃ (x : A0), (Cv l t x ∧ True ∧ ps = ps ∧ st = st ∧ A4 ∧ A6 ∧ A7 ∧ A5 ∧ A2 ∧ A8 ∧ A9 ∧ (Au ∧ Cq t = Al x ∧ True) ∧ Ao ∧ Ac ∧ A3 ∧ Ac ∧ (Aa ∧ stepsM st = stepsM st) ∧ True) ∧ Ae x t) ∧ (AJ t → True ∧ ∃ (x : A0), (Cv l t x ∧ True ∧ ps = ps ∧ st = st ∧ A4 ∧ A6 ∧ A7 ∧ A5 ∧ A2 ∧ A8 ∧ A9 ∧ Cr t x ∧ Ao ∧ Ac ∧ A3 ∧ Ac ∧ (Aa ∧ stepsM st = stepsM st) ∧ True) ∧ Ae x t)) ∧ (C3 t → Ck t ∧ (AL t ∧ Ac ∧ Ci t) ∧ C8 ∧ l = l ∧ True ∧ (AI t → Ah ∧ True ∧ ∃ (x : A0), (Ct l t x ∧ True ∧ ps = ps ∧ st = st ∧ A4 ∧ A6 ∧ A7 ∧ A5 ∧ A2 ∧ A8 ∧ A9 ∧ (Au ∧ Co t = Al x ∧ True) ∧ Ao ∧ Ac ∧ A3 ∧ Ac ∧ (Aa ∧ stepsM st = stepsM st) ∧ True) ∧ Ae x t) ∧ (AJ t → True ∧ ∃ (x : A0), (Ct l t x ∧ True ∧ ps = ps ∧ st = st ∧ A4 ∧ A6 ∧ A7 ∧ A5 ∧ A2 ∧ A8 ∧ A9 ∧ Cr t x ∧ Ao ∧ Ac ∧ A3 ∧ Ac ∧ (Aa ∧ stepsM st = stepsM st) ∧ True) ∧ Ae x t))) ∧ (Cd t → ((A1 ∧ A1 ∧ A1 ∧ A1 ∧ A1 ∧ A1 ∧ A1 ∧ Bb ∧ Value.int IntKind.i64 (IntKind.wrap IntKind.i64 ((1 : Int) + (1 : Int))) = Value.int IntKind.i64 (2 : Int) ∧ True) ∧ AU ∧ ps = ps ∧ st = st ∧ A4 ∧ A6 ∧ A7 ∧ A5 ∧ A2 ∧ A8 ∧ A9 ∧ (Au ∧ Al t = BH ∧ True) ∧ True) ∧ (Bz = true → ((0 : Int) ≤ (2 : Int) ∧ (2 : Int) < (↑(nat_lit 2) : Int)) ∧ False) ∧ (Bz = false → Ag ∧ Ah ∧ True ∧ AX ∧ AC ∧ True ∧ (((Cf ∧ BH = BL ∧ True) ∧ B5) ∧ True) ∧ Az))) ∧ (By = false → Ag ∧ Ah ∧ True ∧ AX ∧ AC ∧ True ∧ (((Cf ∧ BX) ∧ B5) ∧ True) ∧ Az))) ∧ (Bx = false → Ag ∧ Ah ∧ True ∧ AX ∧ AC ∧ True ∧ ((Ch ∧ B5) ∧ True) ∧ Az)) ∧ (C7 = false → Cm ∧ AV ∧ True ∧ ((Be = Be ∧ B6 = B6 ∧ True) ∧ A3) ∧ AC ∧ True ∧ ((Ch ∧ B6 = BI ∧ True) ∧ True) ∧ Az))
    (by kernel_rfl) ?_
  simp only [eq_self, AE.goS]
  have h1 : ps.length < 1000000 := hx.1
  have h2 : st.length < 1000000 := hx.2
  have hw : (worksM ⟨⟨long, rise, change, ps⟩, st⟩).length = st.length := works_len _
  refine ⟨⟨h1, h2⟩, fun h => ?_, fun h => ?_⟩
  · have hn := open_is h
    have hn1 : 0 ≤ n ∧ n ≤ (st.length : Int) := by
      have hn' : inM n 0 (st.length : Int) = true := hn
      unfold inM at hn'
      simp only [Bool.and_eq_true, decide_eq_true_eq] at hn'
      exact hn'
    have e : leftM ((s0, s1), (l0, l1), (g0, g1), full) ⟨⟨long, rise, change, ps⟩, st⟩ n = ((endM ((s0, s1), (l0, l1), (g0, g1), full) ⟨⟨long, rise, change, ps⟩, st⟩ true n.toNat, endM ((s0, s1), (l0, l1), (g0, g1), full) ⟨⟨long, rise, change, ps⟩, st⟩ false n.toNat), 0) := by
      unfold leftM
      exact if_pos h
    have hsl := steps_len st
    rw [e]
    refine ⟨fun _ => ⟨⟨by decide, by decide⟩, ⟨by decide, by decide⟩, ⟨fun _ => trivial, fun h => absurd h (by decide)⟩, fun _ => ⟨h2, ⟨⟨0, Nat.zero_le _⟩, ⟨rfl, by rw [hsl], rfl⟩, by simp only [Nat.zero_min]; rfl, ⟨rfl, rfl, rfl, rfl, fun _ => trivial, fun h => nomatch (show true = false from h)⟩, rfl, rfl, rfl, rfl, rfl⟩, fun t => ⟨fun ht => ?_, fun ht => ?_⟩⟩⟩, fun h => absurd (by decide) h⟩
    · obtain ⟨i, hi⟩ := t
      have hlt : i < st.length := by have h1 : (i : Int) < (st.length : Int) := ht; omega
      have hg' := steps_get st i hlt
      have hsl := steps_len st
      simp only [hg', hsl]
      refine ⟨⟨Int.natCast_nonneg _, ht⟩, hlt, fun hr => ?_, fun hr => ?_⟩
      · have e := now_rest (worksM ⟨⟨long, rise, change, ps⟩, st⟩) (horM ((s0, s1), (l0, l1), (g0, g1), full) true) hr
        refine ⟨⟨Int.natCast_nonneg _, ht⟩, fun h => ⟨⟨by decide, by decide⟩, ⟨i + 1, hlt⟩, ⟨⟨e.symm, sucI i (by omega)⟩, ?_⟩, dec1 hlt⟩, fun h => ⟨⟨i + 1, hlt⟩, ⟨⟨e.symm, sucI i (by omega)⟩, ?_⟩, dec1 hlt⟩⟩
        · have h' : (i : Int) < n := h
          have hm : min (i + 1) n.toNat = i + 1 := by omega
          rw [hm]; exact e.symm
        · have h' : ¬ (i : Int) < n := h
          have hm : min i n.toNat = min (i + 1) n.toNat := by omega
          rw [← hm]
      · have e := now_furrow (worksM ⟨⟨long, rise, change, ps⟩, st⟩) (horM ((s0, s1), (l0, l1), (g0, g1), full) true) hr
        refine ⟨⟨Int.natCast_nonneg _, by rw [hw]; exact ht⟩, fun h => ⟨⟨by decide, by decide⟩, ⟨i + 1, hlt⟩, ⟨⟨e.symm, sucI i (by omega)⟩, ?_⟩, dec1 hlt⟩, fun h => ⟨⟨i + 1, hlt⟩, ⟨⟨e.symm, sucI i (by omega)⟩, ?_⟩, dec1 hlt⟩⟩
        · have h' : (i : Int) < n := h
          have hm : min (i + 1) n.toNat = i + 1 := by omega
          rw [hm]; exact e.symm
        · have h' : ¬ (i : Int) < n := h
          have hm : min i n.toNat = min (i + 1) n.toNat := by omega
          rw [← hm]
    · obtain ⟨i, hi⟩ := t
      have hie : i = st.length := by have h1 : ¬ (i : Int) < (st.length : Int) := ht; omega
      have hm : min i n.toNat = n.toNat := by omega
      refine ⟨⟨by decide, by rw [hm]⟩, fun _ => ⟨⟨by decide, by decide⟩, ⟨by decide, by decide⟩, ⟨fun h => absurd h (by decide), fun _ => trivial⟩, fun _ => ⟨h2, ⟨⟨0, Nat.zero_le _⟩, ⟨rfl, by rw [hsl], rfl⟩, by simp only [Nat.zero_min]; rfl, ⟨rfl, rfl, rfl, rfl, (fun h => nomatch (show false = true from h)), fun _ => trivial⟩, rfl, rfl, rfl, rfl, rfl⟩, fun t => ⟨fun ht => ?_, fun ht => ?_⟩⟩⟩, fun h => absurd (by decide) h⟩
      · obtain ⟨i, hi⟩ := t
        have hlt : i < st.length := by have h1 : (i : Int) < (st.length : Int) := ht; omega
        have hg' := steps_get st i hlt
        have hsl := steps_len st
        simp only [hg', hsl]
        refine ⟨⟨Int.natCast_nonneg _, ht⟩, hlt, fun hr => ?_, fun hr => ?_⟩
        · have e := now_rest (worksM ⟨⟨long, rise, change, ps⟩, st⟩) (horM ((s0, s1), (l0, l1), (g0, g1), full) false) hr
          refine ⟨⟨Int.natCast_nonneg _, ht⟩, fun h => ⟨⟨by decide, by decide⟩, ⟨i + 1, hlt⟩, ⟨⟨e.symm, sucI i (by omega)⟩, ?_⟩, dec1 hlt⟩, fun h => ⟨⟨i + 1, hlt⟩, ⟨⟨e.symm, sucI i (by omega)⟩, ?_⟩, dec1 hlt⟩⟩
          · have h' : (i : Int) < n := h
            have hm : min (i + 1) n.toNat = i + 1 := by omega
            rw [hm]; exact e.symm
          · have h' : ¬ (i : Int) < n := h
            have hm : min i n.toNat = min (i + 1) n.toNat := by omega
            rw [← hm]
        · have e := now_furrow (worksM ⟨⟨long, rise, change, ps⟩, st⟩) (horM ((s0, s1), (l0, l1), (g0, g1), full) false) hr
          refine ⟨⟨Int.natCast_nonneg _, by rw [hw]; exact ht⟩, fun h => ⟨⟨by decide, by decide⟩, ⟨i + 1, hlt⟩, ⟨⟨e.symm, sucI i (by omega)⟩, ?_⟩, dec1 hlt⟩, fun h => ⟨⟨i + 1, hlt⟩, ⟨⟨e.symm, sucI i (by omega)⟩, ?_⟩, dec1 hlt⟩⟩
          · have h' : (i : Int) < n := h
            have hm : min (i + 1) n.toNat = i + 1 := by omega
            rw [hm]; exact e.symm
          · have h' : ¬ (i : Int) < n := h
            have hm : min i n.toNat = min (i + 1) n.toNat := by omega
            rw [← hm]
      · obtain ⟨i, hi⟩ := t
        have hie : i = st.length := by have h1 : ¬ (i : Int) < (st.length : Int) := ht; omega
        have hm : min i n.toNat = n.toNat := by omega
        refine ⟨⟨by decide, by rw [hm]⟩, fun h => absurd h (by decide), fun _ => ⟨⟨by decide, by decide⟩, ⟨by decide, by decide⟩, ⟨rfl, rfl⟩, rfl⟩⟩
  · have e : leftM ((s0, s1), (l0, l1), (g0, g1), full) ⟨⟨long, rise, change, ps⟩, st⟩ n = ((0, 0), openErrM ((s0, s1), (l0, l1), (g0, g1), full) ⟨⟨long, rise, change, ps⟩, st⟩ (inM n 0 (st.length : Int))) := by
      unfold leftM
      exact if_neg (by rw [h]; decide)
    rw [e]
    exact ⟨⟨rfl, rfl⟩, rfl⟩

theorem left_sound : Sound Tryz.prog 12 leftS.con := FSpec.sound _ (enter_of Tryz.func12 (by kernel_rfl) (by kernel_rfl)) left_ok
end AE.Team

namespace AE.Team
open Go AE Go.Proofs AE.Soil

def tspanS : FSpec UU where
  X := Span
  pick := fun args _ => match args with
    | [a, b] => match avInt a, avInt b with
      | some a, some b => some (a, b)
      | _, _ => none
    | _ => none
  args := fun (x : Span) => [.i x.1, .i x.2]
  H := fun _ => []
  R := fun (x : Span) => .val ⟨vSpan x, [], [], []⟩
theorem tspan_ok : ∀ x, tspanS.pre x → FunOk Tryz.prog 38 (tspanS.args x) (tspanS.H x) (tspanS.R x) := by
  rintro ⟨a, b⟩ _
  refine fun_of (T := []) (L := fun _ => none) (hs := fun _ => []) hmix .nil Tryz.func38 (by kernel_rfl) (by kernel_rfl) ?_
  refine Eq.mp (α :=
      True ∧ ((Value.int IntKind.i64 a = Value.int IntKind.i64 a ∧ Value.int IntKind.i64 b = Value.int IntKind.i64 b ∧ True) ∧ True) ∧ True ∧ True)
    (by kernel_rfl) ?_
  simp

theorem tspan_sound : Sound Tryz.prog 38 tspanS.con := FSpec.sound _ (enter_of Tryz.func38 (by kernel_rfl) (by kernel_rfl)) tspan_ok
abbrev pA : PitT := (2, (300, 320), (10, 12), (4, 6), 4, 5)
abbrev pB : PitT := (8, (500, 520), (5, 6), (3, 5), 9, 11)
def nullS (R : OOut UU) : FSpec UU where
  X := Unit
  pick := fun args _ => match args with
    | [] => some ()
    | _ => none
  args := fun _ => []
  H := fun _ => []
  R := fun _ => R
def groundTS : FSpec UU := nullS (.val ⟨.agg [.i 10, .i 50, .i 2, .gs 0 0], [], [], [.row .pit [pA, pB] 151]⟩)
def TexSpan : Tab UU := [(38, tspanS.con)]
theorem TexSpan_ok : TexSpan.Sound Tryz.prog := .cons tspan_sound .nil
theorem groundT_ok : ∀ x, groundTS.pre x → FunOk Tryz.prog 83 (groundTS.args x) (groundTS.H x) (groundTS.R x) := by
  intro x _
  refine fun_of (T := TexSpan) (L := fun _ => none) (hs := fun _ => []) hmix TexSpan_ok Tryz.func83 (by kernel_rfl) (by kernel_rfl) ?_
  refine Eq.mp (α :=
      let A0 := Value.int IntKind.i64 (5 : Int); let A1 := Value.int IntKind.i64 (3 : Int); let A2 := Value.int IntKind.i64 (4 : Int); let A3 := Value.int IntKind.i64 (6 : Int); let A4 := Value.int IntKind.i64 (2 : Int); let A5 := Value.int IntKind.i64 (9 : Int); let A6 := Value.int IntKind.i64 (10 : Int); let A7 := Value.int IntKind.i64 (11 : Int); let A8 := Value.int IntKind.i64 (12 : Int); let Ae := Value.int IntKind.i64 (50 : Int); let A9 := Value.int IntKind.i64 (500 : Int); let Aa := Value.int IntKind.i64 (320 : Int); let Ab := Value.int IntKind.i64 (520 : Int); let Ac := Value.int IntKind.i64 (300 : Int); let Af := AV.v A3; let Ag := AV.v A2; let Ah := AV.v A5; let Ai := AV.v A4; let Aj := AV.v A0; let Ak := AV.v A1; let Al := AV.v (Value.int IntKind.i64 (8 : Int)); let Am := AV.v A8; let An := AV.v A7; let Ao := AV.v A6; let Ap := AV.v A9; let Aq := AV.v Ab; let Ar := AV.v Ac; let As := AV.v Aa; let At := A2 = A2; let Au := A0 = A0; let Av := A6 = A6; let Aw := Af = Af; let Ax := Au ∧ True; let Ad := Aj = Aj; let Ay := Ag = Ag; let Az := (A3 = A3) ∧ True; let AA : List (Int × Span × Span × Span × Span) := [((2 : Int), (((((300 : Int), (320 : Int))), (((((10 : Int), (12 : Int))), (((((4 : Int), (6 : Int))), (((4 : Int), (5 : Int)))))))))), ((8 : Int), (((((500 : Int), (520 : Int))), (((((5 : Int), (6 : Int))), (((((3 : Int), (5 : Int))), (((9 : Int), (11 : Int))))))))))]; True ∧ (Ac = Ac ∧ Aa = Aa ∧ True) ∧ True ∧ True ∧ (Av ∧ A8 = A8 ∧ True) ∧ True ∧ True ∧ (At ∧ Az) ∧ True ∧ True ∧ (At ∧ Ax) ∧ True ∧ True ∧ (A9 = A9 ∧ Ab = Ab ∧ True) ∧ True ∧ True ∧ (Au ∧ Az) ∧ True ∧ True ∧ (A1 = A1 ∧ Ax) ∧ True ∧ True ∧ (A5 = A5 ∧ A7 = A7 ∧ True) ∧ True ∧ (nat_lit 2 = nat_lit 2 ∧ Ai = Ai ∧ Ar = Ar ∧ As = As ∧ Ao = Ao ∧ Am = Am ∧ Ay ∧ Aw ∧ Ay ∧ Ad ∧ Al = Al ∧ Ap = Ap ∧ Aq = Aq ∧ Ad ∧ Aw ∧ Ak = Ak ∧ Ad ∧ Ah = Ah ∧ An = An ∧ True) ∧ True ∧ ((Av ∧ Ae = Ae ∧ A4 = A4 ∧ nat_lit 0 = nat_lit 0 ∧ True) ∧ True) ∧ True ∧ (nat_lit 151 = (151 : TypeId) ∧ AA = AA) ∧ True)
    (by kernel_rfl) ?_
  simp

theorem groundT_sound : Sound Tryz.prog 83 groundTS.con := FSpec.sound _ (enter_of Tryz.func83 (by kernel_rfl) (by kernel_rfl)) groundT_ok
def stepsTM (b : Bool) : List StepT := match b with
  | true => [(4, 6, 0), (0, 0, 2), (5, 5, 0)]
  | false => [(4, 6, 0), (5, 5, 0)]
def plotTS : FSpec UU where
  X := Bool
  pick := fun args _ => match args with
    | [a] => avBool a
    | _ => none
  args := fun b => [.v (.bool b)]
  H := fun _ => []
  R := fun b => .val ⟨.agg [.i 10, .i 50, .i 2, .gs 0 0, .gs 1 0], [], [], [.row .pit [pA, pB] 151, .row .tstep (stepsTM b) 92]⟩
def TexGround : Tab UU := [(83, groundTS.con)]
theorem TexGround_ok : TexGround.Sound Tryz.prog := .cons groundT_sound .nil
theorem plotT_ok1 : FunOk Tryz.prog 35 (plotTS.args true) (plotTS.H true) (plotTS.R true) := by
  refine fun_of (T := TexGround) (L := fun _ => none) (hs := fun _ => []) hmix TexGround_ok Tryz.func35 (by kernel_rfl) (by kernel_rfl) ?_
  refine Eq.mp (α :=
      let A2 := nat_lit 2 ≤ nat_lit 1099511627776; let A3 := (151 : TypeId); let A4 := nat_lit 92 = ((92 : TypeId)); let A0 := Value.int IntKind.i64 (2 : Int); let A5 := Value.int IntKind.i64 (10 : Int); let A6 := Value.int IntKind.i64 (50 : Int); let A7 := AV.v (Value.int IntKind.i64 (4 : Int)); let A8 := AV.v (Value.int IntKind.i64 (0 : Int)); let A9 := AV.v (Value.int IntKind.i64 (6 : Int)); let Aa := AV.v (Value.int IntKind.i64 (5 : Int)); let Ab := AV.v A0; let Ac := A3 = A3; let Ad := Aa = Aa; let A1 := A8 = A8; let Ae := A1 ∧ True; let Af := ((4 : Int), (((6 : Int), (0 : Int)))); let Ag : List (Int × Int × Int) := [(((5 : Int), (((5 : Int), (0 : Int)))))]; let Ah := nat_lit 1 = nat_lit 1 ∧ Ad ∧ Ad ∧ Ae; let Ai := ((A5 = A5) ∧ (A6 = A6) ∧ (A0 = A0) ∧ nat_lit 0 = nat_lit 0 ∧ nat_lit 0 = nat_lit 0 ∧ True) ∧ True; let Aj : List (Int × Span × Span × Span × Span) := [((2 : Int), (((((300 : Int), (320 : Int))), (((((10 : Int), (12 : Int))), (((((4 : Int), (6 : Int))), (((4 : Int), (5 : Int)))))))))), (((8 : Int), (((((500 : Int), (520 : Int))), (((((5 : Int), (6 : Int))), (((((3 : Int), (5 : Int))), (((9 : Int), (11 : Int)))))))))))]; let Ak := Aj = Aj; True ∧ True ∧ True ∧ (nat_lit 1 = nat_lit 1 ∧ A7 = A7 ∧ A9 = A9 ∧ Ae) ∧ (true = true → (nat_lit 1 = nat_lit 1 ∧ A1 ∧ A1 ∧ Ab = Ab ∧ True) ∧ nat_lit 1 ≤ nat_lit 1 ∧ A2 ∧ Ah ∧ nat_lit 1 ≤ nat_lit 1 ∧ nat_lit 3 ≤ nat_lit 1099511627776 ∧ True ∧ Ai ∧ True ∧ (Ac ∧ Ak) ∧ (A4 ∧ Af :: ((0 : Int), (0 : Int), (2 : Int)) :: Ag = stepsTM true) ∧ True) ∧ (true = false → Ah ∧ nat_lit 1 ≤ nat_lit 1 ∧ A2 ∧ True ∧ Ai ∧ True ∧ (Ac ∧ Ak) ∧ (A4 ∧ Af :: Ag = stepsTM true) ∧ True))
    (by kernel_rfl) ?_
  simp [stepsTM]

theorem plotT_ok2 : FunOk Tryz.prog 35 (plotTS.args false) (plotTS.H false) (plotTS.R false) := by
  refine fun_of (T := TexGround) (L := fun _ => none) (hs := fun _ => []) hmix TexGround_ok Tryz.func35 (by kernel_rfl) (by kernel_rfl) ?_
  refine Eq.mp (α :=
      let A2 := nat_lit 2 ≤ nat_lit 1099511627776; let A3 := (151 : TypeId); let A4 := nat_lit 92 = ((92 : TypeId)); let A0 := Value.int IntKind.i64 (2 : Int); let A5 := Value.int IntKind.i64 (10 : Int); let A6 := Value.int IntKind.i64 (50 : Int); let A7 := AV.v (Value.int IntKind.i64 (4 : Int)); let A8 := AV.v (Value.int IntKind.i64 (0 : Int)); let A9 := AV.v (Value.int IntKind.i64 (6 : Int)); let Aa := AV.v (Value.int IntKind.i64 (5 : Int)); let Ab := AV.v A0; let Ac := A3 = A3; let Ad := Aa = Aa; let A1 := A8 = A8; let Ae := A1 ∧ True; let Af := ((4 : Int), (((6 : Int), (0 : Int)))); let Ag : List (Int × Int × Int) := [(((5 : Int), (((5 : Int), (0 : Int)))))]; let Ah := nat_lit 1 = nat_lit 1 ∧ Ad ∧ Ad ∧ Ae; let Ai := ((A5 = A5) ∧ (A6 = A6) ∧ (A0 = A0) ∧ nat_lit 0 = nat_lit 0 ∧ nat_lit 0 = nat_lit 0 ∧ True) ∧ True; let Aj : List (Int × Span × Span × Span × Span) := [((2 : Int), (((((300 : Int), (320 : Int))), (((((10 : Int), (12 : Int))), (((((4 : Int), (6 : Int))), (((4 : Int), (5 : Int)))))))))), (((8 : Int), (((((500 : Int), (520 : Int))), (((((5 : Int), (6 : Int))), (((((3 : Int), (5 : Int))), (((9 : Int), (11 : Int)))))))))))]; let Ak := Aj = Aj; True ∧ True ∧ True ∧ (nat_lit 1 = nat_lit 1 ∧ A7 = A7 ∧ A9 = A9 ∧ Ae) ∧ (false = true → (nat_lit 1 = nat_lit 1 ∧ A1 ∧ A1 ∧ Ab = Ab ∧ True) ∧ nat_lit 1 ≤ nat_lit 1 ∧ A2 ∧ Ah ∧ nat_lit 1 ≤ nat_lit 1 ∧ nat_lit 3 ≤ nat_lit 1099511627776 ∧ True ∧ Ai ∧ True ∧ (Ac ∧ Ak) ∧ (A4 ∧ Af :: ((0 : Int), (0 : Int), (2 : Int)) :: Ag = stepsTM false) ∧ True) ∧ (false = false → Ah ∧ nat_lit 1 ≤ nat_lit 1 ∧ A2 ∧ True ∧ Ai ∧ True ∧ (Ac ∧ Ak) ∧ (A4 ∧ Af :: Ag = stepsTM false) ∧ True))
    (by kernel_rfl) ?_
  simp [stepsTM]

theorem plotT_sound : Sound Tryz.prog 35 plotTS.con := FSpec.sound _ (enter_of Tryz.func35 (by kernel_rfl) (by kernel_rfl)) fun x _ => match x with
  | true => plotT_ok1
  | false => plotT_ok2
def otherTS : FSpec UU := nullS (.val ⟨.agg [.i 10, .i 50, .i 2, .gs 0 0, .gs 1 0], [], [], [.row .pit [pA, pB] 151, .row .tstep [(5, 5, 0)] 92]⟩)
theorem otherT_ok : ∀ x, otherTS.pre x → FunOk Tryz.prog 37 (otherTS.args x) (otherTS.H x) (otherTS.R x) := by
  intro x _
  refine fun_of (T := TexGround) (L := fun _ => none) (hs := fun _ => []) hmix TexGround_ok Tryz.func37 (by kernel_rfl) (by kernel_rfl) ?_
  refine Eq.mp (α :=
      let A0 := (151 : TypeId); let A1 := Value.int IntKind.i64 (2 : Int); let A2 := Value.int IntKind.i64 (10 : Int); let A3 := Value.int IntKind.i64 (50 : Int); let A4 := AV.v (Value.int IntKind.i64 (5 : Int)); let A5 := AV.v (Value.int IntKind.i64 (0 : Int)); let A6 := A4 = A4; let A7 : List (Int × Int × Int) := [(((5 : Int), (((5 : Int), (0 : Int)))))]; let A8 : List (Int × Span × Span × Span × Span) := [((2 : Int), (((((300 : Int), (320 : Int))), (((((10 : Int), (12 : Int))), (((((4 : Int), (6 : Int))), (((4 : Int), (5 : Int)))))))))), ((8 : Int), (((((500 : Int), (520 : Int))), (((((5 : Int), (6 : Int))), (((((3 : Int), (5 : Int))), (((9 : Int), (11 : Int))))))))))]; True ∧ True ∧ True ∧ (nat_lit 1 = nat_lit 1 ∧ A6 ∧ A6 ∧ A5 = A5 ∧ True) ∧ True ∧ ((A2 = A2 ∧ A3 = A3 ∧ A1 = A1 ∧ nat_lit 0 = nat_lit 0 ∧ nat_lit 0 = nat_lit 0 ∧ True) ∧ True) ∧ True ∧ (A0 = A0 ∧ A8 = A8) ∧ (nat_lit 92 = (92 : TypeId) ∧ A7 = A7) ∧ True)
    (by kernel_rfl) ?_
  simp

theorem otherT_sound : Sound Tryz.prog 37 otherTS.con := FSpec.sound _ (enter_of Tryz.func37 (by kernel_rfl) (by kernel_rfl)) otherT_ok
def horsesTS : FSpec UU := nullS (.val ⟨.agg [.i 100, .i 110, .i 5, .i 6, .i 10, .i 12, .i 120], [], [], []⟩)
def weakTS : FSpec UU := nullS (.val ⟨.agg [.i 90, .i 95, .i 5, .i 6, .i 10, .i 12, .i 120], [], [], []⟩)
theorem horsesT_ok : ∀ x, horsesTS.pre x → FunOk Tryz.prog 36 (horsesTS.args x) (horsesTS.H x) (horsesTS.R x) := by
  intro x _
  refine fun_of (T := TexSpan) (L := fun _ => none) (hs := fun _ => []) hmix TexSpan_ok Tryz.func36 (by kernel_rfl) (by kernel_rfl) ?_
  refine Eq.mp (α :=
      let A3 := Value.int IntKind.i64 (6 : Int); let A4 := Value.int IntKind.i64 (5 : Int); let A5 := Value.int IntKind.i64 (10 : Int); let A0 := Value.int IntKind.i64 (12 : Int); let A6 := Value.int IntKind.i64 (120 : Int); let A1 := Value.int IntKind.i64 (100 : Int); let A2 := Value.int IntKind.i64 (110 : Int); let A7 := A3 = A3; let A8 := A4 = A4; let A9 := A5 = A5; True ∧ (A1 = A1 ∧ A2 = A2 ∧ True) ∧ True ∧ True ∧ (A8 ∧ A7 ∧ True) ∧ True ∧ True ∧ (A9 ∧ A0 = A0 ∧ True) ∧ True ∧ True ∧ ((A1 = A1 ∧ A2 = A2 ∧ A8 ∧ A7 ∧ A9 ∧ A0 = A0 ∧ A6 = A6 ∧ True) ∧ True) ∧ True ∧ True)
    (by kernel_rfl) ?_
  simp

theorem horsesT_sound : Sound Tryz.prog 36 horsesTS.con := FSpec.sound _ (enter_of Tryz.func36 (by kernel_rfl) (by kernel_rfl)) horsesT_ok
def TexWeak : Tab UU := [(38, tspanS.con), (36, horsesTS.con)]
theorem TexWeak_ok : TexWeak.Sound Tryz.prog := .cons tspan_sound (.cons horsesT_sound .nil)
theorem weakT_ok : ∀ x, weakTS.pre x → FunOk Tryz.prog 34 (weakTS.args x) (weakTS.H x) (weakTS.R x) := by
  intro x _
  refine fun_of (T := TexWeak) (L := fun _ => none) (hs := fun _ => []) hmix TexWeak_ok Tryz.func34 (by kernel_rfl) (by kernel_rfl) ?_
  refine Eq.mp (α :=
      let A2 := Value.int IntKind.i64 (6 : Int); let A3 := Value.int IntKind.i64 (5 : Int); let A0 := Value.int IntKind.i64 (90 : Int); let A1 := Value.int IntKind.i64 (95 : Int); let A4 := Value.int IntKind.i64 (10 : Int); let A5 := Value.int IntKind.i64 (12 : Int); let A6 := Value.int IntKind.i64 (120 : Int); True ∧ True ∧ True ∧ True ∧ (A0 = A0 ∧ A1 = A1 ∧ True) ∧ True ∧ True ∧ ((A0 = A0 ∧ A1 = A1 ∧ A3 = A3 ∧ A2 = A2 ∧ A4 = A4 ∧ A5 = A5 ∧ A6 = A6 ∧ True) ∧ True) ∧ True ∧ True)
    (by kernel_rfl) ?_
  simp

theorem weakT_sound : Sound Tryz.prog 34 weakTS.con := FSpec.sound _ (enter_of Tryz.func34 (by kernel_rfl) (by kernel_rfl)) weakT_ok
def sameM (a b : List Int) : Bool := decide (a = b)
def intsL (a b : List Int) : LSpec UU where
  T := { i : Nat // i ≤ a.length ∧ ∀ j, j < i → a.getD j 0 = b.getD j 0 }
  fr := fun i => [(0, .sl 0 0 0 a.length), (1, .sl 1 0 0 b.length), (4, .b false), (5, .i i.1)]
  H := fun _ => [.one (.ro .int a), .one (.ro .int b)]
  mu := fun i => a.length - i.1
def intsS : FSpec UU where
  X := List Int × List Int
  pick := fun args H => match args with
    | [a, b] => match sliceAt .int H a, sliceAt .int H b with
      | some a, some b => some (a, b)
      | _, _ => none
    | _ => none
  args := fun x => [.sl 0 0 0 x.1.length, .sl 1 0 0 x.2.length]
  H := fun x => [.one (.ro .int x.1), .one (.ro .int x.2)]
  R := fun x => .val ⟨.b (sameM x.1 x.2), [], [], []⟩
  pre := fun x => x.1.length < 1000000
theorem ints_ok : ∀ x, intsS.pre x → FunOk Tryz.prog 20 (intsS.args x) (intsS.H x) (intsS.R x) := by
  rintro ⟨a, b⟩ hx
  refine fun_of (T := []) (L := fun _ => some (.inv (intsL a b))) (hs := fun _ => []) hmix .nil Tryz.func20 (by kernel_rfl) (by kernel_rfl) ?_
  refine Eq.mp (α :=
      let A5 := (↑(List.length b) : Int); let A4 := (↑(List.length a) : Int); let A6 := Value.bool false = Value.bool false; let A7 := nat_lit 0 = nat_lit 0 ∧ nat_lit 0 = nat_lit 0 ∧ List.length a = List.length a; let A8 := nat_lit 0 = nat_lit 0 ∧ nat_lit 0 = nat_lit 0 ∧ List.length b = List.length b; let A2 := True ∧ a = a ∧ b = b ∧ True; let A9 := A4 != A5; let Ah := fun (i : Nat) => ∀ (j : Nat), (j < i → ((List.getD a j (0 : Int)) = (List.getD b j (0 : Int)))); let Aa := True ∧ ((Value.bool (sameM a b) = Value.bool false) ∧ True) ∧ A2; let A0 : Type := { i : Nat // ((i ≤ List.length a) ∧ Ah i) }; let Ab := fun (x : A0) => Subtype.val x; let A1 := fun (x : A0) => (↑(Ab x) : Int); let Ac := fun (x : A0) => Value.int IntKind.i64 (A1 x); let Ad := fun (x : A0) => List.length a - Ab x; let Ae := fun (t : A0) => (0 : Int) ≤ A1 t; let A3 := fun (t : A0) => nat_lit 0 + (Int.toNat (A1 t)); let Af := fun (t : A0) => decide (A1 t < A4); let Ag := fun (t : A0) => List.getD a (A3 t) (0 : Int) != List.getD b (A3 t) (0 : Int); (A9 = true → Aa) ∧ (A9 = false → (∃ (x : A0), (A7 ∧ A8 ∧ A6 ∧ Value.int IntKind.i64 (0 : Int) = Ac x ∧ True) ∧ A2) ∧ ∀ (t : A0), (Af t = true → (Ae t ∧ A1 t < A4) ∧ A3 t < List.length a ∧ (Ae t ∧ A1 t < A5) ∧ A3 t < List.length b ∧ (Ag t = true → Aa) ∧ (Ag t = false → True ∧ ∃ (x : A0), ((A7 ∧ A8 ∧ A6 ∧ Value.int IntKind.i64 (IntKind.wrap IntKind.i64 (A1 t + (1 : Int))) = Ac x ∧ True) ∧ A2) ∧ Ad x < Ad t)) ∧ (Af t = false → True ∧ (Value.bool (sameM a b) = Value.bool true ∧ True) ∧ A2)))
    (by kernel_rfl) ?_
  simp only [eq_self, AE.goS]
  have hx' : a.length < 1000000 := hx
  refine ⟨fun h => ?_, fun h => ⟨⟨⟨0, Nat.zero_le _, fun j hj => absurd hj (Nat.not_lt_zero j)⟩, rfl⟩, fun t => ⟨fun ht => ?_, fun ht => ?_⟩⟩⟩
  · have h' : ¬ (a.length : Int) = (b.length : Int) := by simpa [bne] using h
    exact decide_eq_false fun e => h' (by rw [e])
  · obtain ⟨i, hi, h0⟩ := t
    have hlt : i < a.length := by have h1 : (i : Int) < (a.length : Int) := ht; omega
    have hl : (a.length : Int) = (b.length : Int) := by simpa [bne] using h
    refine ⟨⟨Int.natCast_nonneg _, ht⟩, hlt, ⟨Int.natCast_nonneg _, by rw [← hl]; exact ht⟩, by show i < b.length; omega, fun hd => ?_, fun hd => ?_⟩
    · have hd' : ¬ a.getD i 0 = b.getD i 0 := by simpa [bne] using hd
      exact decide_eq_false fun e => hd' (by rw [e])
    · have hd' : a.getD i 0 = b.getD i 0 := by simpa [bne] using hd
      exact ⟨⟨i + 1, hlt, below_succ h0 hd'⟩, sucI i (by omega), dec1 hlt⟩
  · obtain ⟨i, hi, h0⟩ := t
    have hie : i = a.length := by have h1 : ¬ (i : Int) < (a.length : Int) := ht; omega
    have hl : (a.length : Int) = (b.length : Int) := by simpa [bne] using h
    refine decide_eq_true (List.ext_getElem (by omega) fun j h1 h2 => ?_)
    have := h0 j (by omega)
    simpa [List.getD_eq_getElem?_getD, h1, h2] using this

theorem ints_sound : Sound Tryz.prog 20 intsS.con := FSpec.sound _ (enter_of Tryz.func20 (by kernel_rfl) (by kernel_rfl)) ints_ok
end AE.Team

namespace AE.Team
open Go AE Go.Proofs AE.Soil

theorem v1 : comesM ((90, 95), (5, 6), (10, 12), 120) ⟨⟨10, 50, 2, [pA, pB]⟩, [(4, 6, 0), (0, 0, 2), (5, 5, 0)]⟩ = (1, 0) := by decide +kernel
theorem v2 : leftM ((100, 110), (5, 6), (10, 12), 120) ⟨⟨10, 50, 2, [pA, pB]⟩, [(4, 6, 0), (0, 0, 2), (5, 5, 0)]⟩ 3 = ((6, 63), 0) := by decide +kernel
theorem v3 : failsM ((90, 95), (5, 6), (10, 12), 120) ⟨⟨10, 50, 2, [pA, pB]⟩, [(4, 6, 0), (0, 0, 2), (5, 5, 0)]⟩ = (2, false, 0) := by decide +kernel
theorem v4 : restsM ((100, 110), (5, 6), (10, 12), 120) ⟨⟨10, 50, 2, [pA, pB]⟩, [(4, 6, 0), (5, 5, 0)]⟩ = ([0, 2], 0) := by decide +kernel
theorem v5 : leastM ((100, 110), (5, 6), (10, 12), 120) ⟨⟨10, 50, 2, [pA, pB]⟩, [(4, 6, 0), (0, 0, 2), (5, 5, 0)]⟩ = (94, 0) := by decide +kernel
theorem v6 : sendOM [((90, 95), (5, 6), (10, 12), 120), ((100, 110), (5, 6), (10, 12), 120)] (⟨⟨10, 50, 2, [pA, pB]⟩, [(4, 6, 0), (0, 0, 2), (5, 5, 0)]⟩, some ⟨⟨10, 50, 2, [pA, pB]⟩, [(5, 5, 0)]⟩) = ([1, 0], 0) := by decide +kernel
theorem v7 : shortM [((90, 95), (5, 6), (10, 12), 120)] (⟨⟨10, 50, 2, [pA, pB]⟩, [(5, 5, 0)]⟩, some ⟨⟨10, 50, 2, [pA, pB]⟩, [(4, 6, 0), (0, 0, 2), (5, 5, 0)]⟩) = (2, 0) := by decide +kernel
theorem w1 : comesM ((100, 110), (5, 6), (10, 12), 120) ⟨⟨10, 50, 2, [pA, pB]⟩, [(4, 6, 0), (0, 0, 2), (5, 5, 0)]⟩ = (2, 0) := by decide +kernel
theorem w2 : leftM ((100, 110), (5, 6), (10, 12), 120) ⟨⟨10, 50, 2, [pA, pB]⟩, [(4, 6, 0), (0, 0, 2), (5, 5, 0)]⟩ 0 = ((100, 110), 0) := by decide +kernel
theorem w3 : leftM ((100, 110), (5, 6), (10, 12), 120) ⟨⟨10, 50, 2, [pA, pB]⟩, [(4, 6, 0), (0, 0, 2), (5, 5, 0)]⟩ 1 = ((15, 57), 0) := by decide +kernel
theorem w4 : leftM ((100, 110), (5, 6), (10, 12), 120) ⟨⟨10, 50, 2, [pA, pB]⟩, [(4, 6, 0), (0, 0, 2), (5, 5, 0)]⟩ 2 = ((35, 81), 0) := by decide +kernel
def aliveS : FSpec UU := nullS (.val ⟨.b true, [], [], []⟩)
def Talive : Tab UU := [(34, weakTS.con), (36, horsesTS.con), (35, plotTS.con), (37, otherTS.con), (38, tspanS.con), (20, intsS.con), (10, comesS.con), (12, leftS.con), (14, failsS.con), (16, restsS.con), (18, leastS.con), (21, sendOS.con), (23, shortS.con)]
theorem Talive_ok : Talive.Sound Tryz.prog := .cons weakT_sound (.cons horsesT_sound (.cons plotT_sound (.cons otherT_sound (.cons tspan_sound (.cons ints_sound (.cons comes_sound (.cons left_sound (.cons fails_sound (.cons rests_sound (.cons least_sound (.cons sendO_sound (.cons short_sound .nil))))))))))))
theorem alive_ok : ∀ x, aliveS.pre x → FunOk Tryz.prog 9 (aliveS.args x) (aliveS.H x) (aliveS.R x) := by
  intro x _
  refine fun_of (T := Talive) (L := fun _ => none) (hs := fun _ => []) hmix Talive_ok Tryz.func9 (by kernel_rfl) (by kernel_rfl) ?_
  refine Eq.mp (α :=
      let A0 := nat_lit 0 = nat_lit 0 ∧ nat_lit 0 = nat_lit 0 ∧ nat_lit 2 = nat_lit 2; let A6 := nat_lit 0 = nat_lit 0 ∧ nat_lit 0 = nat_lit 0 ∧ nat_lit 3 = nat_lit 3; let Ad := nat_lit 0 = nat_lit 0 ∧ nat_lit 0 = nat_lit 0 ∧ nat_lit 1 = nat_lit 1; let Ak := Value.int IntKind.i64 (2 : Int); let Al := Value.int IntKind.i64 (5 : Int); let Am := Value.int IntKind.i64 (6 : Int); let AI := Value.int IntKind.i64 (3 : Int); let An := Value.int IntKind.i64 (90 : Int); let Ao := Value.int IntKind.i64 (10 : Int); let Ap := Value.int IntKind.i64 (12 : Int); let Aq := Value.int IntKind.i64 (50 : Int); let AJ := Value.int IntKind.i64 (63 : Int); let Ar := Value.int IntKind.i64 (95 : Int); let As := Value.int IntKind.i64 (100 : Int); let At := Value.int IntKind.i64 (120 : Int); let Au := Value.int IntKind.i64 (110 : Int); let AK := AV.v Am; let AL := AV.v Ak; let AM := AV.v (Value.int IntKind.i64 (0 : Int)); let AN := AV.v (Value.int IntKind.i64 (1 : Int)); let AO := AV.v Al; let AP := AV.v An; let AQ := AV.v Ao; let AR := AV.v Ap; let AS := AV.v Aq; let AT := AV.v Ar; let A7 := Value.bool true = Value.bool true ∧ True; let AU := AV.v Au; let AW := AV.v As; let AX := AV.v At; let AY := nat_lit 2 < nat_lit 1000000 ∧ nat_lit 1 < nat_lit 1000000; let A9 := nat_lit 2 < nat_lit 1000000 ∧ nat_lit 3 < nat_lit 1000000; let AZ := nat_lit 9 = nat_lit 9 ∧ A0; let B0 := ((5 : Int), (6 : Int)); let B1 := ((10 : Int), (12 : Int)); let A1 := True ∧ (Value.bool true = Value.bool false ∧ True) ∧ True ∧ True; let B2 := Am = Am; let A3 := Ak = Ak; let B3 := (0 : Int) == (0 : Int); let A4 := Aq = Aq; let A2 := Ao = Ao; let A8 := AL = AL; let B4 := AO = AO; let B5 := AM = AM; let B6 := AK = AK; let Aa := AS = AS; let B7 := AT = AT; let B8 := AP = AP; let A5 := AQ = AQ; let B9 := AR = AR; let Ba := AX = AX; let Bb := ((5 : Int), (((5 : Int), (0 : Int)))); let Bc := ((4 : Int), (((6 : Int), (0 : Int)))); let Bd := (((25 : Nat) = (25 : Nat)) ∧ A0) ∧ True; let Be := (((24 : Nat) = (24 : Nat)) ∧ A0) ∧ True; let Ai : List Int := (1 : Int) :: ([(0 : Int)] : List Int); let Av : List Int := (0 : Int) :: ([(2 : Int)] : List Int); let Aw : List Int := ((↑(1 : Nat) : Int)) :: ([((↑(0 : Nat) : Int))] : List Int); let Bf := nat_lit 1 < nat_lit 1000000 ∧ AY ∧ A9; let Bg : List StepT := [Bb]; let Bh := sameM [] Ai; let Ax : List (Int × Int × Int) := [Bb]; let Bi := B2 ∧ (AJ = AJ) ∧ True; let Bj := (B0, ((B1, (120 : Int)))); let Bk := (((12 : Nat) = (12 : Nat)) ∧ A0) ∧ ((((17 : Nat) = (17 : Nat)) ∧ A0) ∧ True); let Bl := nat_lit 2 = nat_lit 2 ∧ B5 ∧ A8 ∧ True; let Bm := nat_lit 2 = nat_lit 2 ∧ (AN = AN) ∧ B5 ∧ True; let Ab : List StepT := Bc :: Bg; let Bn := sameM Aw Ai; let Bo := (Ai = Ai) ∧ True; let Bp := (Av = Av) ∧ True; let Aj := ((((90 : Int), (95 : Int))), Bj); let Ae := ((((100 : Int), (110 : Int))), Bj); let Af := worstM Ae; let Bq := Ax = Ax; let Ay := Prod.fst Af; let Az : List (Span × Span × Span × Int) := [Aj]; let AA : List StepT := Bc :: ((((0 : Int), (((0 : Int), (2 : Int))))) :: Bg : List StepT); let Br := (Al = Al) ∧ B2 ∧ A2 ∧ (Ap = Ap) ∧ (At = At) ∧ True; let Bs := B4 ∧ B6 ∧ A5 ∧ B9 ∧ Ba ∧ True; let Bt := (An = An) ∧ (Ar = Ar) ∧ Br; let AB := (As = As) ∧ (Au = Au) ∧ Br; let AC : List (Span × Span × Span × Int) := Aj :: ([Ae] : List (Span × Span × Span × Int)); let Bu := Az = Az; let Bv := nat_lit 1 = nat_lit 1 ∧ B8 ∧ B7 ∧ Bs; let Bw := AA = AA; let AD : List (Int × Span × Span × Span × Span) := (((2 : Int), (((((300 : Int), (320 : Int))), ((B1, (((((4 : Int), (6 : Int))), (((4 : Int), (5 : Int))))))))))) :: ([(((8 : Int), (((((500 : Int), (520 : Int))), ((B0, (((((3 : Int), (5 : Int))), (((9 : Int), (11 : Int)))))))))))] : List (Int × Span × Span × Span × Span)); let AE := GroundT.mk (10 : Int) (50 : Int) (2 : Int) AD; let Bx := PlotT.mk AE Ax; let By := PlotT.mk AE Ab; let AF : List Span := worksM By; let Ac := PlotT.mk AE AA; let Bz := (Prod.snd (restsM Ae By)) == (0 : Int); let BA := Bz = true; let BB := failsM Aj Ac; let BC := comesM Aj Ac; let BD := leastM Ae Ac; let BE := Prod.snd BB; let BF := leftM Ae Ac (3 : Int); let BG := Prod.fst BF; let BH := !(Prod.fst BE); let BI := (Bz = false) → A1; let BJ := BH = true; let BK := (Prod.fst BC) == (1 : Int); let BL := (Prod.snd BC) == (0 : Int); let BM := (Prod.snd BD) == (0 : Int); let BN := (Prod.fst BD) == (94 : Int); let BO := (Prod.fst BB) == (2 : Int); let BP := BK = true; let BQ := BL = true; let BR := BM = true; let BS := BN = true; let BT := BO = true; let BU := (Prod.snd BE) == (0 : Int); let BV := (Prod.snd BF) == (0 : Int); let BW := BU = true; let BX := BV = true; let BY := (BH = false) → A1; let BZ := (BL = false) → A1; let C0 := (BK = false) → A1; let Ag := AD = AD; let C1 := (BM = false) → A1; let C2 := (BN = false) → A1; let C3 := (BO = false) → A1; let C4 := (BU = false) → A1; let C5 := (BV = false) → A1; let C6 := Prod.fst (tryM Ab AF Af (0 : Nat) Ay); let Ah := Ag ∧ Bw ∧ True; let C7 := shortM Az ((Bx, (some Ac))); let C8 := (Prod.fst C7) == (2 : Int); let C9 := (Prod.snd (sendOM AC ((Ac, (some Bx))))) == (0 : Int); let Ca := ((Prod.fst BG) == (6 : Int)) && (((Prod.snd BG) == (63 : Int)) && true); let Cb := Ca = true; let Cc := (Ca = false) → A1; let Cd := Ag ∧ Bq ∧ Ah; let Ce := (AC = AC) ∧ ((A2 ∧ A4 ∧ A3 ∧ (nat_lit 13 = nat_lit 13 ∧ A0) ∧ (nat_lit 14 = nat_lit 14 ∧ A6) ∧ True) ∧ (A2 ∧ A4 ∧ A3 ∧ (nat_lit 15 = nat_lit 15 ∧ A0) ∧ (nat_lit 16 = nat_lit 16 ∧ Ad) ∧ True) ∧ True) ∧ Ag ∧ Bw ∧ Ag ∧ Bq ∧ True; let Cf := ((C8 = true) → (True ∧ ((((Value.bool ((Prod.snd C7) == (0 : Int))) = Value.bool true) ∧ True) ∧ True ∧ True))) ∧ ((C8 = false) → A1); let AG : List Int := C6 :: ([(Prod.fst (tryM Ab AF Af (1 : Nat) (stepM (trialM Ab AF Af (0 : Nat) Ay) (restM Af C6 Ay))))] : List Int); let AH := sameM AG Av; let Cg := AH = false; let Ch := AG = AG; True ∧ True ∧ True ∧ True ∧ A7 ∧ True ∧ A9 ∧ (Bt ∧ (A2 ∧ A4 ∧ A3 ∧ (nat_lit 0 = nat_lit 0 ∧ A0) ∧ (nat_lit 1 = nat_lit 1 ∧ A6) ∧ True) ∧ True) ∧ Ah ∧ True ∧ True ∧ True ∧ True ∧ A7 ∧ True ∧ A9 ∧ (AB ∧ (A2 ∧ A4 ∧ A3 ∧ (nat_lit 2 = nat_lit 2 ∧ A0) ∧ (nat_lit 3 = nat_lit 3 ∧ A6) ∧ True) ∧ AI = AI ∧ True) ∧ Ah ∧ True ∧ True ∧ True ∧ True ∧ A7 ∧ True ∧ A9 ∧ (Bt ∧ (A2 ∧ A4 ∧ A3 ∧ (nat_lit 5 = nat_lit 5 ∧ A0) ∧ (nat_lit 6 = nat_lit 6 ∧ A6) ∧ True) ∧ True) ∧ Ah ∧ True ∧ True ∧ True ∧ True ∧ (Value.bool false = Value.bool false ∧ True) ∧ True ∧ (nat_lit 2 < nat_lit 1000000 ∧ nat_lit 2 < nat_lit 1000000) ∧ (AB ∧ (A2 ∧ A4 ∧ A3 ∧ (nat_lit 7 = nat_lit 7 ∧ A0) ∧ (nat_lit 8 = nat_lit 8 ∧ A0) ∧ True) ∧ True) ∧ (Ag ∧ Ab = Ab ∧ True) ∧ True ∧ True ∧ True ∧ True ∧ A7 ∧ True ∧ A9 ∧ (AB ∧ (A2 ∧ A4 ∧ A3 ∧ (nat_lit 10 = nat_lit 10 ∧ A0) ∧ (nat_lit 11 = nat_lit 11 ∧ A6) ∧ True) ∧ True) ∧ Ah ∧ True ∧ True ∧ True ∧ True ∧ True ∧ True ∧ (nat_lit 2 = nat_lit 2 ∧ B8 ∧ B7 ∧ B4 ∧ B6 ∧ A5 ∧ B9 ∧ Ba ∧ AW = AW ∧ AU = AU ∧ Bs) ∧ True ∧ A7 ∧ True ∧ True ∧ True ∧ True ∧ (nat_lit 2 = nat_lit 2 ∧ A5 ∧ Aa ∧ A8 ∧ AV.gs (nat_lit 13) (nat_lit 0) = AV.gs (nat_lit 13) (nat_lit 0) ∧ AV.gs (nat_lit 14) (nat_lit 0) = AV.gs (nat_lit 14) (nat_lit 0) ∧ A5 ∧ Aa ∧ A8 ∧ AV.gs (nat_lit 15) (nat_lit 0) = AV.gs (nat_lit 15) (nat_lit 0) ∧ AV.gs (nat_lit 16) (nat_lit 0) = AV.gs (nat_lit 16) (nat_lit 0) ∧ True) ∧ (nat_lit 2 < nat_lit 1000000 ∧ A9 ∧ AY) ∧ (true = true → Bk ∧ Ce ∧ True ∧ True ∧ True ∧ Bv ∧ True ∧ True ∧ True ∧ True ∧ A7 ∧ True ∧ (nat_lit 2 = nat_lit 2 ∧ A5 ∧ Aa ∧ A8 ∧ AV.gs (nat_lit 20) (nat_lit 0) = AV.gs (nat_lit 20) (nat_lit 0) ∧ AV.gs (nat_lit 21) (nat_lit 0) = AV.gs (nat_lit 21) (nat_lit 0) ∧ A5 ∧ Aa ∧ A8 ∧ AV.gs (nat_lit 22) (nat_lit 0) = AV.gs (nat_lit 22) (nat_lit 0) ∧ AV.gs (nat_lit 23) (nat_lit 0) = AV.gs (nat_lit 23) (nat_lit 0) ∧ True) ∧ Bf ∧ (((19 : Nat) = (19 : Nat) ∧ Ad) ∧ Be) ∧ (Bu ∧ ((A2 ∧ A4 ∧ A3 ∧ (nat_lit 20 = nat_lit 20 ∧ A0) ∧ (nat_lit 21 = nat_lit 21 ∧ Ad) ∧ True) ∧ (A2 ∧ A4 ∧ A3 ∧ (nat_lit 22 = nat_lit 22 ∧ A0) ∧ (nat_lit 23 = nat_lit 23 ∧ A6) ∧ True) ∧ True) ∧ Cd) ∧ (BP → (BQ → True ∧ Bi ∧ True ∧ (Cb → (BX → (BT → (BJ → (BW → Bl ∧ nat_lit 2 < nat_lit 1000000 ∧ (AZ ∧ Bd) ∧ (Ch ∧ Bp) ∧ (AH = true → (BA → (BS → (BR → Bm ∧ nat_lit 2 < nat_lit 1000000 ∧ ((nat_lit 18 = nat_lit 18 ∧ A0) ∧ ((26 : Nat) = (26 : Nat) ∧ A0) ∧ True) ∧ (Aw = Aw ∧ Bo) ∧ (Bn = true → (B3 = true → Cf) ∧ (B3 = false → A1)) ∧ (Bn = false → A1)) ∧ C1) ∧ C2) ∧ BI) ∧ (Cg → A1)) ∧ C4) ∧ BY) ∧ C3) ∧ C5) ∧ Cc) ∧ BZ) ∧ C0) ∧ (true = false → Bk ∧ Ce ∧ True ∧ True ∧ True ∧ Bv ∧ True ∧ True ∧ True ∧ True ∧ A7 ∧ True ∧ (nat_lit 2 = nat_lit 2 ∧ A5 ∧ Aa ∧ A8 ∧ AV.gs (nat_lit 19) (nat_lit 0) = AV.gs (nat_lit 19) (nat_lit 0) ∧ AV.gs (nat_lit 20) (nat_lit 0) = AV.gs (nat_lit 20) (nat_lit 0) ∧ A5 ∧ Aa ∧ A8 ∧ AV.gs (nat_lit 21) (nat_lit 0) = AV.gs (nat_lit 21) (nat_lit 0) ∧ AV.gs (nat_lit 22) (nat_lit 0) = AV.gs (nat_lit 22) (nat_lit 0) ∧ True) ∧ Bf ∧ (((18 : Nat) = (18 : Nat) ∧ Ad) ∧ ((23 : Nat) = (23 : Nat) ∧ A0) ∧ True) ∧ (Bu ∧ ((A2 ∧ A4 ∧ A3 ∧ (nat_lit 19 = nat_lit 19 ∧ A0) ∧ (nat_lit 20 = nat_lit 20 ∧ Ad) ∧ True) ∧ (A2 ∧ A4 ∧ A3 ∧ (nat_lit 21 = nat_lit 21 ∧ A0) ∧ (nat_lit 22 = nat_lit 22 ∧ A6) ∧ True) ∧ True) ∧ Cd) ∧ (BP → (BQ → True ∧ Bi ∧ True ∧ (Cb → (BX → (BT → (BJ → (BW → Bl ∧ nat_lit 2 < nat_lit 1000000 ∧ (AZ ∧ Be) ∧ (Ch ∧ Bp) ∧ (AH = true → (BA → (BS → (BR → Bm ∧ nat_lit 0 < nat_lit 1000000 ∧ (nat_lit 0 = nat_lit 0 ∧ True ∧ True) ∧ (([] : List Int) = [] ∧ True ∧ True) ∧ (nat_lit 0 = nat_lit 0 ∧ Bd) ∧ (True ∧ Bo) ∧ (Bh = true → (C9 = true → Cf) ∧ (C9 = false → A1)) ∧ (Bh = false → A1)) ∧ C1) ∧ C2) ∧ BI) ∧ (Cg → A1)) ∧ C4) ∧ BY) ∧ C3) ∧ C5) ∧ Cc) ∧ BZ) ∧ C0))
    (by kernel_rfl) ?_
  simp only [eq_self, AE.goS]
  simp only [v1, v2, v3, v5, v7, Nat.reduceLT, Int.reduceBEq, beq_self_eq_true, Bool.and_self, Bool.not_false, forall_const, true_and, and_true]
  simp only [v4, v6, Bool.true_eq_false, Bool.false_eq_true, beq_self_eq_true, forall_const, imp_false, imp_self, and_self, and_true, true_and, implies_true, false_implies, not_true_eq_false]
  decide +kernel

theorem alive_sound : Sound Tryz.prog 9 aliveS.con := FSpec.sound _ (enter_of Tryz.func9 (by kernel_rfl) (by kernel_rfl)) alive_ok
end AE.Team

namespace AE.Team
open Go AE Go.Proofs AE.Soil

theorem fin_ok : ∀ x, withinS.pre x → FunOk Tryz.prog 50 (withinS.args x) (withinS.H x) (withinS.R x) := by
  rintro ⟨n, lo, hi⟩ _
  refine fun_of (T := []) (L := fun _ => none) (hs := fun _ => []) hmix .nil Tryz.func50 (by kernel_rfl) (by kernel_rfl) ?_
  refine Eq.mp (α :=
      let A0 := decide (lo ≤ n); (A0 = true → True ∧ (Value.bool (decide (n ≤ hi)) = Value.bool (inM n lo hi) ∧ True) ∧ True ∧ True) ∧ (A0 = false → True ∧ (Value.bool (inM n lo hi) = Value.bool false ∧ True) ∧ True ∧ True))
    (by kernel_rfl) ?_
  simp only [eq_self, AE.goS]
  simp only [inM]
  simp +contextual
  omega

theorem fin_sound : Sound Tryz.prog 50 withinS.con := FSpec.sound _ (enter_of Tryz.func50 (by kernel_rfl) (by kernel_rfl)) fin_ok
def fspanM (s : Span) (lo hi : Int) : Bool := decide (lo ≤ s.1) && decide (s.1 ≤ s.2) && decide (s.2 ≤ hi)
def fspanS : FSpec UU where
  X := Span × Int × Int
  pick := fun args _ => match args with
    | [s, a, b] => match avSpan s, avInt a, avInt b with
      | some s, some a, some b => some (s, a, b)
      | _, _, _ => none
    | _ => none
  args := fun x => [vSpan x.1, .i x.2.1, .i x.2.2]
  H := fun _ => []
  R := fun x => .val ⟨.b (fspanM x.1 x.2.1 x.2.2), [], [], []⟩
theorem fspan_ok : ∀ x, fspanS.pre x → FunOk Tryz.prog 78 (fspanS.args x) (fspanS.H x) (fspanS.R x) := by
  rintro ⟨⟨s0, s1⟩, lo, hi⟩ _
  refine fun_of (T := []) (L := fun _ => none) (hs := fun _ => []) hmix .nil Tryz.func78 (by kernel_rfl) (by kernel_rfl) ?_
  refine Eq.mp (α :=
      let A0 := Value.bool (fspanM (s0, s1) lo hi); let A1 := (A0 = Value.bool false ∧ True) ∧ True ∧ True; let A2 := decide (s0 ≤ s1); let A3 := decide (lo ≤ s0); (A3 = true → (A2 = true → True ∧ (Value.bool (decide (s1 ≤ hi)) = A0 ∧ True) ∧ True ∧ True) ∧ (A2 = false → True ∧ A1)) ∧ (A3 = false → True ∧ A1))
    (by kernel_rfl) ?_
  simp only [eq_self, AE.goS]
  simp only [fspanM]
  simp +contextual
  omega

theorem fspan_sound : Sound Tryz.prog 78 fspanS.con := FSpec.sound _ (enter_of Tryz.func78 (by kernel_rfl) (by kernel_rfl)) fspan_ok
theorem fspan_eq (s : Span) (hi : Int) : fspanM s 0 hi = spanM s hi := by
  unfold fspanM spanM
  simp [Bool.and_assoc]
def Tfteam : Tab UU := [(50, withinS.con), (78, fspanS.con)]
theorem Tfteam_ok : Tfteam.Sound Tryz.prog := .cons fin_sound (.cons fspan_sound .nil)
theorem fTeam_ok : ∀ x, isTeamS.pre x → FunOk Tryz.prog 25 (isTeamS.args x) (isTeamS.H x) (isTeamS.R x) := by
  rintro ⟨⟨s0, s1⟩, ⟨l0, l1⟩, ⟨g0, g1⟩, full⟩ _
  refine fun_of (T := Tfteam) (L := fun _ => none) (hs := fun _ => []) hmix Tfteam_ok Tryz.func25 (by kernel_rfl) (by kernel_rfl) ?_
  refine Eq.mp (α :=
      let A2 := (10000 : Int); let A3 := Value.int IntKind.i64 (0 : Int); let A4 := Value.int IntKind.i64 (100 : Int); let A5 := Value.int IntKind.i64 (1000 : Int); let A6 := Value.int IntKind.i64 full = Value.int IntKind.i64 full; let A7 := Value.int IntKind.i64 A2; let A8 := fspanM (s0, s1) (0 : Int) full; let A9 := inM full (0 : Int) A2; let Aa := fspanM (l0, l1) (0 : Int) (100 : Int); let A0 := A3 = A3; let Ab := Value.bool (teamM (((s0, s1), (((l0, l1), (((g0, g1), full))))))); let A1 := (Ab = Value.bool false ∧ True) ∧ True ∧ True; True ∧ (A6 ∧ A0 ∧ A7 = A7 ∧ True) ∧ True ∧ (A9 = true → True ∧ ((Value.int IntKind.i64 s0 = Value.int IntKind.i64 s0 ∧ Value.int IntKind.i64 s1 = Value.int IntKind.i64 s1 ∧ True) ∧ A0 ∧ A6 ∧ True) ∧ True ∧ (A8 = true → True ∧ ((Value.int IntKind.i64 l0 = Value.int IntKind.i64 l0 ∧ Value.int IntKind.i64 l1 = Value.int IntKind.i64 l1 ∧ True) ∧ A0 ∧ A4 = A4 ∧ True) ∧ True ∧ (Aa = true → True ∧ ((Value.int IntKind.i64 g0 = Value.int IntKind.i64 g0 ∧ Value.int IntKind.i64 g1 = Value.int IntKind.i64 g1 ∧ True) ∧ A0 ∧ A5 = A5 ∧ True) ∧ True ∧ True ∧ (Value.bool (fspanM (g0, g1) (0 : Int) (1000 : Int)) = Ab ∧ True) ∧ True ∧ True) ∧ (Aa = false → True ∧ A1)) ∧ (A8 = false → True ∧ A1)) ∧ (A9 = false → True ∧ A1))
    (by kernel_rfl) ?_
  simp only [eq_self, AE.goS]
  simp only [fspan_eq]
  unfold teamM
  dsimp only
  generalize inM full 0 10000 = q1
  generalize spanM (s0, s1) full = q2
  generalize spanM (l0, l1) 100 = q3
  generalize spanM (g0, g1) 1000 = q4
  revert q1 q2 q3 q4
  decide

theorem fTeam_sound : Sound Tryz.prog 25 isTeamS.con := FSpec.sound _ (enter_of Tryz.func25 (by kernel_rfl) (by kernel_rfl)) fTeam_ok

def largeM (p : PlotT) : Bool := decide (max (p.steps.length : Int) (p.g.pits.length : Int) > 40)
def largeS : FSpec UU where
  X := PlotT
  pick := fun args H => match args with
    | [a] => avPlot H a
    | _ => none
  args := fun (x : PlotT) => [vPlot x 0 1]
  H := fun (x : PlotT) => hPlot x
  R := fun (x : PlotT) => .val ⟨.b (largeM x), [], [], []⟩
theorem large_ok : ∀ x, largeS.pre x → FunOk Tryz.prog 7 (largeS.args x) (largeS.H x) (largeS.R x) := by
  rintro ⟨⟨long, rise, change, ps⟩, st⟩ _
  refine fun_of (T := []) (L := fun _ => none) (hs := fun _ => []) hmix .nil Tryz.func7 (by kernel_rfl) (by kernel_rfl) ?_
  refine Eq.mp (α :=
      True ∧ (Value.bool (decide (max (↑(List.length st) : Int) (↑(List.length ps) : Int) > (40 : Int))) = Value.bool (largeM (PlotT.mk (GroundT.mk long rise change ps) st)) ∧ True) ∧ True ∧ ps = ps ∧ st = st ∧ True)
    (by kernel_rfl) ?_
  simp only [eq_self, AE.goS]
  rfl

theorem large_sound : Sound Tryz.prog 7 largeS.con := FSpec.sound _ (enter_of Tryz.func7 (by kernel_rfl) (by kernel_rfl)) large_ok
def fAtS : FSpec UU where
  X := GroundT × Int
  pick := fun args H => match args with
    | [a, b] => match avGround H a, avInt b with
      | some a, some b => some (a, b)
      | _, _ => none
    | _ => none
  args := fun x => [vGround x.1 0, .i x.2]
  H := fun x => [.one (.ro .pit x.1.pits)]
  R := fun x => .val ⟨.b (inM x.2 0 x.1.long), [], [], []⟩
def TfAt : Tab UU := [(102, withinS.con)]
theorem TfAt_ok : TfAt.Sound Tryz.prog := .cons rin_sound .nil
theorem fAt_ok : ∀ x, fAtS.pre x → FunOk Tryz.prog 80 (fAtS.args x) (fAtS.H x) (fAtS.R x) := by
  rintro ⟨⟨long, rise, change, ps⟩, n⟩ _
  refine fun_of (T := TfAt) (L := fun _ => none) (hs := fun _ => []) hmix TfAt_ok Tryz.func80 (by kernel_rfl) (by kernel_rfl) ?_
  refine Eq.mp (α :=
      let A0 := inM n (0 : Int) long; let A1 := Value.int IntKind.i64 (0 : Int); True ∧ (Value.int IntKind.i64 n = Value.int IntKind.i64 n ∧ A1 = A1 ∧ Value.int IntKind.i64 long = Value.int IntKind.i64 long ∧ True) ∧ True ∧ True ∧ (Value.bool A0 = Value.bool A0 ∧ True) ∧ True ∧ ps = ps ∧ True)
    (by kernel_rfl) ?_
  simp

theorem fAt_sound : Sound Tryz.prog 80 fAtS.con := FSpec.sound _ (enter_of Tryz.func80 (by kernel_rfl) (by kernel_rfl)) fAt_ok
theorem hard_arg (g : GroundT) : ((hardOM g 0).2 == 1) = !groundM g := by
  unfold hardOM Soil.openErrM
  cases groundM g with
  | false => rfl
  | true =>
    cases [(0 : Int)].all (askM .place g.long) with
    | false => rfl
    | true => cases lookM g <;> rfl
theorem plot_eq (p : PlotT) : isPlotM p = (groundM p.g && decide ((p.steps.length : Int) ≤ 12) && !(p.steps.any fun s => sfM (some p.g.long) s)) := by
  unfold isPlotM
  rw [hard_arg]
  congr 1
  cases groundM p.g with
  | false => rfl
  | true =>
    by_cases h : (p.steps.length : Int) > 12
    · rw [decide_eq_true h, decide_eq_false (show ¬ (p.steps.length : Int) ≤ 12 by omega)]; rfl
    · rw [decide_eq_false h, decide_eq_true (show (p.steps.length : Int) ≤ 12 by omega)]; rfl
theorem plot_no {p : PlotT} {i : Nat} (hi : i < p.steps.length) (h : sfM (some p.g.long) (p.steps.getD i (0, 0, 0)) = true) : isPlotM p = false := by
  have : (p.steps.any fun s => sfM (some p.g.long) s) = true := by
    rw [List.any_eq_true]
    refine ⟨p.steps.getD i (0, 0, 0), ?_, h⟩
    rw [List.getD_eq_getElem?_getD, List.getElem?_eq_getElem hi]
    exact List.getElem_mem hi
  rw [plot_eq, this, Bool.not_true, Bool.and_false]
def fPlotL (p : PlotT) : LSpec UU where
  T := { i : Nat // i ≤ p.steps.length ∧ ∀ j, j < i → sfM (some p.g.long) (p.steps.getD j (0, 0, 0)) = false }
  fr := fun i => [(1, .ptr 2 0 0 0), (2, .b false), (3, .i i.1)]
  H := fun _ => hPlot p ++ [.one (.cells (cPlot p 0 1) 31)]
  mu := fun i => p.steps.length - i.1
def TfPlot : Tab UU := [(79, isGroundS.con), (80, fAtS.con), (50, withinS.con)]
theorem TfPlot_ok : TfPlot.Sound Tryz.prog := .cons rGround_sound (.cons fAt_sound (.cons fin_sound .nil))
theorem fPlot_ok : ∀ x, isPlotS.pre x → FunOk Tryz.prog 26 (isPlotS.args x) (isPlotS.H x) (isPlotS.R x) := by
  rintro ⟨⟨long, rise, change, ps⟩, st⟩ hx
  refine fun_of (T := TfPlot) (L := fun _ => some (.inv (fPlotL ⟨⟨long, rise, change, ps⟩, st⟩))) (hs := fun _ => []) hmix TfPlot_ok Tryz.func26 (by kernel_rfl) (by kernel_rfl) ?_
  refine Eq.mp (α :=
      let A9 := nat_lit 0 = nat_lit 0 ∧ nat_lit 0 = nat_lit 0 ∧ nat_lit 0 = nat_lit 0; let A3 := ps = ps ∧ True; let Aa := (↑(List.length st) : Int); let A4 := Value.int IntKind.i64 (0 : Int); let Ab := Value.bool false = Value.bool false; let Ac := Value.int IntKind.i64 (600 : Int); let Ad := Value.int IntKind.i64 rise = Value.int IntKind.i64 rise; let Ae := Value.int IntKind.i64 long = Value.int IntKind.i64 long; let Af := Value.int IntKind.i64 change = Value.int IntKind.i64 change; let Ag := Value.bool (isPlotM (PlotT.mk (GroundT.mk long rise change ps) st)); let Ah := nat_lit 0 = nat_lit 0 ∧ nat_lit 0 = nat_lit 0 ∧ List.length ps = List.length ps; let Ai := True ∧ ps = ps ∧ st = st ∧ True; let Aj := ((0 : Int), (((0 : Int), (0 : Int)))); let A1 := True ∧ ((Ag = Value.bool false) ∧ True) ∧ Ai; let Ak := decide (Aa > (12 : Int)); let A5 := Ae ∧ Ad ∧ Af ∧ Ah ∧ True; let AD := fun (i : Nat) => ∀ (j : Nat), (j < i → ((sfM (some (GroundT.long (PlotT.g (PlotT.mk (GroundT.mk long rise change ps) st)))) ((List.getD (PlotT.steps (PlotT.mk (GroundT.mk long rise change ps) st)) j Aj))) = false)); let A0 : Type := { i : Nat // ((i ≤ (List.length (PlotT.steps (PlotT.mk (GroundT.mk long rise change ps) st)))) ∧ AD i) }; let Al := fun (x : A0) => Subtype.val x; let A2 := fun (x : A0) => (↑(Al x) : Int); let Am := True ∧ ps = ps ∧ st = st ∧ (Ae ∧ Ad ∧ Af ∧ Ah ∧ (nat_lit 0 = nat_lit 0 ∧ nat_lit 0 = nat_lit 0 ∧ List.length st = List.length st) ∧ True) ∧ True; let An := fun (x : A0) => Value.int IntKind.i64 (A2 x); let Ao := fun (x : A0) => List.length st - Al x; let Ap := fun (t : A0) => nat_lit 0 + (Int.toNat (A2 t)); let Aq := fun (t : A0) => A2 t < Aa; let Ar := fun (t : A0) => List.getD st (Ap t) Aj; let As := fun (t : A0) => Prod.snd (Ar t); let A6 := fun (t : A0) => Prod.fst (Ar t); let A7 := fun (t : A0) => Prod.fst (As t); let A8 := fun (t : A0) => Prod.snd (As t); let At := fun (t : A0) => Value.int IntKind.i64 (A6 t); let Au := fun (t : A0) => Value.int IntKind.i64 (A8 t); let Av := fun (t : A0) => Value.int IntKind.i64 (A7 t); let Aw := fun (t : A0) => !(inM (A6 t) (0 : Int) long); let Ax := fun (t : A0) => !(inM (A7 t) (0 : Int) long); let Ay := fun (t : A0) => !(inM (A8 t) (0 : Int) (600 : Int)); let Az := fun (t : A0) => A8 t == (0 : Int); let AA := fun (t : A0) => decide (Aq t); let AB := fun (t : A0) => decide ((A6 t > A7 t)); let AC := fun (t : A0) => ∃ (x : A0), ((A9 ∧ (Ab ∧ (((Value.int IntKind.i64 ((IntKind.wrap IntKind.i64 ((A2 t + (1 : Int)))))) = An x) ∧ True))) ∧ Am) ∧ Ao x < Ao t; List.length ps < nat_lit 1000000 ∧ (A5 ∧ True) ∧ A3 ∧ ((!groundM (GroundT.mk long rise change ps)) = true → A1) ∧ ((!groundM (GroundT.mk long rise change ps)) = false → (Ak = true → A1) ∧ (Ak = false → (∃ (x : A0), (A9 ∧ Ab ∧ A4 = An x ∧ True) ∧ Am) ∧ ∀ (t : A0), (AA t = true → ((0 : Int) ≤ A2 t ∧ Aq t) ∧ Ap t < List.length st ∧ True ∧ (Au t = Au t ∧ A4 = A4 ∧ Ac = Ac ∧ True) ∧ True ∧ (Ay t = true → A1) ∧ (Ay t = false → (Az t = true → (AB t = true → A1) ∧ (AB t = false → True ∧ (A5 ∧ At t = At t ∧ True) ∧ A3 ∧ (Aw t = true → A1) ∧ (Aw t = false → True ∧ (A5 ∧ Av t = Av t ∧ True) ∧ A3 ∧ (Ax t = true → A1) ∧ (Ax t = false → True ∧ AC t)))) ∧ (Az t = false → True ∧ AC t))) ∧ (AA t = false → True ∧ (Ag = Value.bool true ∧ True) ∧ Ai))))
    (by kernel_rfl) ?_
  simp only [eq_self, AE.goS]
  have h1 : ps.length < 1000000 := hx.1
  have h2 : st.length < 9223372036854775808 := hx.2
  refine ⟨h1, fun hg => ?_, fun hg => ⟨fun hl => ?_, fun hl => ⟨⟨⟨0, Nat.zero_le _, fun j hj => absurd hj (Nat.not_lt_zero j)⟩, rfl⟩, fun t => ⟨fun ht => ?_, fun ht => ?_⟩⟩⟩⟩
  · rw [plot_eq, show groundM ⟨long, rise, change, ps⟩ = false by simpa using hg]; rfl
  · rw [plot_eq, show decide ((st.length : Int) ≤ 12) = false from decide_eq_false (by omega), Bool.and_false]; rfl
  · obtain ⟨i, hi, h0⟩ := t
    have hlt : i < st.length := by have h1 : (i : Int) < (st.length : Int) := ht; omega
    have hno := plot_no (p := ⟨⟨long, rise, change, ps⟩, st⟩) hlt
    have nxt : sfM (some long) (st.getD i (0, 0, 0)) = false → ∃ x : { i : Nat // i ≤ st.length ∧ ∀ j, j < i → sfM (some long) (st.getD j (0, 0, 0)) = false }, IntKind.i64.wrap ((i : Int) + 1) = (x.1 : Int) ∧ st.length - x.1 < st.length - i := fun hf =>
      ⟨⟨i + 1, hlt, below_succ h0 hf⟩, sucI i (by omega), dec1 hlt⟩
    simp only
    revert hno nxt
    generalize st.getD i (0, 0, 0) = s
    obtain ⟨a, b, c⟩ := s
    intro hno nxt
    simp only [sfM, okStepM] at hno nxt
    refine ⟨⟨Int.natCast_nonneg _, ht⟩, hlt, fun hc => hno ?_, fun hc => ⟨fun h0 => ⟨fun hab => hno ?_, fun hab => ⟨fun ha => hno ?_, fun ha => ⟨fun hb => hno ?_, fun hb => nxt ?_⟩⟩⟩, fun h0 => nxt ?_⟩⟩
    all_goals simp only [inM, Bool.not_eq_true', Bool.not_eq_false', Bool.and_eq_true, decide_eq_true_eq, Bool.and_eq_false_iff, decide_eq_false_iff_not, beq_iff_eq, Bool.or_eq_true, Bool.or_eq_false_iff, Bool.not_eq_false, beq_eq_false_iff_ne, ne_eq] at *
    all_goals omega
  · obtain ⟨i, hi, h0⟩ := t
    have hie : i = st.length := by have h1 : ¬ (i : Int) < (st.length : Int) := ht; omega
    rw [plot_eq, show groundM ⟨long, rise, change, ps⟩ = true by simpa using hg, show decide ((st.length : Int) ≤ 12) = true from decide_eq_true (by omega)]
    have : (st.any fun s => sfM (some long) s) = false := by
      rw [List.any_eq_false]
      intro x hx
      obtain ⟨j, hj, rfl⟩ := List.getElem_of_mem hx
      have := h0 j (by omega)
      simpa [List.getD_eq_getElem?_getD, hj] using this
    rw [this]; rfl

theorem fPlot_sound : Sound Tryz.prog 26 isPlotS.con := FSpec.sound _ (enter_of Tryz.func26 (by kernel_rfl) (by kernel_rfl)) fPlot_ok
end AE.Team

namespace AE.Soil
open Go AE Go.Proofs

end AE.Soil

namespace AE.Soil
open Go AE Go.Proofs

def strStepM (c n : Int) (k : Int) (p : Int × Int × Int) : Int × Int × Int := if c = W (1 * 2 ^ n.toNat) then (if W (k - p.2.2) > W (p.2.1 - p.1) then (p.2.2, k, p.2.2) else p) else (p.1, p.2.1, W (k + 1))
def strAtM (l : List Mix3) (n : Int) : Nat → Int × Int × Int
  | 0 => (0, -1, 0)
  | k + 1 => strStepM (classesM (l.getD k m0)) n k (strAtM l n k)
def strErrM (g : GroundT) (n : Int) : Int := openErrM g .cls [n]
def strEndM (l : List Mix3) (n : Int) (k : Nat) : Int × Int × Int := if (strAtM l n k).2.1 ≥ 0 then ((strAtM l n k).1, (strAtM l n k).2.1, 0) else (0, 0, 4)
def strOM (g : GroundT) (n : Int) : Int × Int × Int := if strErrM g n == 0 then strEndM (boxesM g) n (nM g) else (0, 0, strErrM g n)
end AE.Soil

namespace AE.Soil
open Go AE Go.Proofs

end AE.Soil

namespace AE.Soil
open Go AE Go.Proofs

abbrev pA : PitT := (2, (300, 320), (10, 12), (4, 6), 4, 5)
abbrev pB : PitT := (8, (500, 520), (5, 6), (3, 5), 9, 11)
theorem c1 : hardOM ⟨10, 50, 2, [pA, pB]⟩ 5 = ((350, 470), 0) := by decide +kernel
theorem c2 : partsOM ⟨10, 50, 2, [pA, pB]⟩ 5 = (((4, 12), (0, 11), 3, 11), 0) := by decide +kernel
theorem c3 : classOM ⟨10, 50, 2, [pA, pB]⟩ 3 = (3, 0) := by decide +kernel
theorem c4 : strOM ⟨10, 50, 2, [pA, pB]⟩ 3 = (8, 8, 0) := by decide +kernel
end AE.Soil

namespace AE.Soil
open Go AE Go.Proofs

theorem getD_mem {α : Type} {l : List α} {i : Nat} (d : α) (h : i < l.length) : l.getD i d ∈ l := by
  rw [List.getD_eq_getElem?_getD, List.getElem?_eq_getElem h]; exact List.getElem_mem h
structure AQ where
  n : Int
  wide : Int
  high : Int
  a : Int
  l : List Int
def rclayM (m : Int × Int) : Int := W (W (20 - m.1) - m.2)
def rclayS : FSpec UU where
  X := Int × Int
  pick := fun args _ => match args with
    | [.agg [a, b]] => match avInt a, avInt b with
      | some a, some b => some (a, b)
      | _, _ => none
    | _ => none
  args := fun x => [.agg [.i x.1, .i x.2]]
  H := fun _ => []
  R := fun x => .val ⟨.i (rclayM x), [], [], []⟩
theorem rclay_ok : ∀ x, rclayS.pre x → FunOk Tryz.prog 118 (rclayS.args x) (rclayS.H x) (rclayS.R x) := by
  rintro ⟨a, b⟩ _
  refine fun_of (T := []) (L := fun _ => none) (hs := fun _ => []) hmix .nil Tryz.func118 (by kernel_rfl) (by kernel_rfl) ?_
  refine Eq.mp (α :=
      True ∧ (Value.int IntKind.i64 (IntKind.wrap IntKind.i64 (IntKind.wrap IntKind.i64 ((20 : Int) - a) - b)) = Value.int IntKind.i64 (rclayM (a, b)) ∧ True) ∧ True ∧ True)
    (by kernel_rfl) ?_
  simp [rclayM]

theorem rclay_sound : Sound Tryz.prog 118 rclayS.con := FSpec.sound _ (enter_of Tryz.func118 (by kernel_rfl) (by kernel_rfl)) rclay_ok
end AE.Soil

namespace AE.Soil
open Go AE Go.Proofs

def avGr2 (H : Heap UU) : List AV → Option (GroundT × Int)
  | [a, b] => match avGround H a, avInt b with
    | some a, some b => some (a, b)
    | _, _ => none
  | _ => none

abbrev M2 := Int × Int
def rnearM (c : Int) (a b : M2) : Bool := inM (W (a.1 - b.1)) (W (0 - c)) c && inM (W (a.2 - b.2)) (W (0 - c)) c && inM (W (rclayM a - rclayM b)) (W (0 - c)) c
structure NQ where
  g : GroundT
  a : M2
  b : M2
def rnearS : FSpec UU where
  X := NQ
  pick := fun args H => match args with
    | [g, .agg [a, b], .agg [c, d]] => match avGround H g, avInt a, avInt b, avInt c, avInt d with
      | some g, some a, some b, some c, some d => some ⟨g, (a, b), (c, d)⟩
      | _, _, _, _, _ => none
    | _ => none
  args := fun x => [vGround x.g 0, .agg [.i x.a.1, .i x.a.2], .agg [.i x.b.1, .i x.b.2]]
  H := fun x => [.one (.ro .pit x.g.pits)]
  R := fun x => .val ⟨.b (rnearM x.g.change x.a x.b), [], [], []⟩
def Trnear : Tab UU := [(102, withinS.con), (118, rclayS.con)]
theorem Trnear_ok : Trnear.Sound Tryz.prog := .cons rin_sound (.cons rclay_sound .nil)
theorem rnear_ok : ∀ x, rnearS.pre x → FunOk Tryz.prog 112 (rnearS.args x) (rnearS.H x) (rnearS.R x) := by
  rintro ⟨⟨long, rise, change, ps⟩, ⟨a, b⟩, ⟨c, d⟩⟩ _
  refine fun_of (T := Trnear) (L := fun _ => none) (hs := fun _ => []) hmix Trnear_ok Tryz.func112 (by kernel_rfl) (by kernel_rfl) ?_
  refine Eq.mp (α :=
      let A5 := True ∧ ps = ps ∧ True; let A1 := (Value.int IntKind.i64 change = Value.int IntKind.i64 change) ∧ True; let A6 := Value.bool (rnearM change (a, b) (c, d)); let A2 := IntKind.wrap IntKind.i64 (b - d); let A3 := IntKind.wrap IntKind.i64 (a - c); let A7 := Value.int IntKind.i64 A3; let A8 := Value.int IntKind.i64 A2; let A0 := IntKind.wrap IntKind.i64 ((0 : Int) - change); let A9 := Value.int IntKind.i64 A0; let Aa := IntKind.wrap IntKind.i64 (rclayM (a, b) - rclayM (c, d)); let Ab := Value.int IntKind.i64 Aa; let Ac := True ∧ ((A6 = Value.bool false) ∧ True) ∧ A5; let A4 := A9 = A9; True ∧ (A7 = A7 ∧ A4 ∧ A1) ∧ True ∧ (inM A3 A0 change = true → True ∧ (A8 = A8 ∧ A4 ∧ A1) ∧ True ∧ (inM A2 A0 change = true → True ∧ ((Value.int IntKind.i64 a = Value.int IntKind.i64 a ∧ Value.int IntKind.i64 b = Value.int IntKind.i64 b ∧ True) ∧ True) ∧ True ∧ True ∧ ((Value.int IntKind.i64 c = Value.int IntKind.i64 c ∧ Value.int IntKind.i64 d = Value.int IntKind.i64 d ∧ True) ∧ True) ∧ True ∧ True ∧ (Ab = Ab ∧ A4 ∧ A1) ∧ True ∧ True ∧ (Value.bool (inM Aa A0 change) = A6 ∧ True) ∧ A5) ∧ (inM A2 A0 change = false → Ac)) ∧ (inM A3 A0 change = false → Ac))
    (by kernel_rfl) ?_
  simp only [eq_self, AE.goS]
  unfold rnearM
  dsimp only
  generalize inM (W (a - c)) (W (0 - change)) change = x
  generalize inM (W (b - d)) (W (0 - change)) change = y
  generalize inM (W (rclayM (a, b) - rclayM (c, d))) (W (0 - change)) change = z
  revert x y z; decide

theorem rnear_sound : Sound Tryz.prog 112 rnearS.con := FSpec.sound _ (enter_of Tryz.func112 (by kernel_rfl) (by kernel_rfl)) rnear_ok
def rfit1M (k : Int) (m : M2) (p : PitT) : Bool := !(p.1 == k) || (inM m.1 p.2.2.1.1 p.2.2.1.2 && inM m.2 p.2.2.2.1.1 p.2.2.2.1.2 && inM (rclayM m) p.2.2.2.2.1 p.2.2.2.2.2)
def rfitM (l : List PitT) (k : Int) (m : M2) : Bool := l.all (rfit1M k m)
def rfitL (g : GroundT) (k : Int) (m : M2) : LSpec UU where
  T := { i : Nat // i ≤ g.pits.length ∧ (g.pits.take i).all (rfit1M k m) = true }
  fr := fun i => [(1, .i k), (3, .ptr 1 0 0 0), (5, .ptr 2 0 0 0), (7, .i i.1)]
  H := fun _ => [.one (.ro .pit g.pits), .one (.cells (cGround g 0) 28), .one (.cells [.i m.1, .i m.2] 154)]
  mu := fun i => g.pits.length - i.1
structure FQ where
  g : GroundT
  k : Int
  m : M2
def rfitS : FSpec UU where
  X := FQ
  pick := fun args H => match args with
    | [g, k, .agg [a, b]] => match avGround H g, avInt k, avInt a, avInt b with
      | some g, some k, some a, some b => some ⟨g, k, (a, b)⟩
      | _, _, _, _ => none
    | _ => none
  args := fun x => [vGround x.g 0, .i x.k, .agg [.i x.m.1, .i x.m.2]]
  H := fun x => [.one (.ro .pit x.g.pits)]
  R := fun x => .val ⟨.b (rfitM x.g.pits x.k x.m), [], [], []⟩
  pre := fun x => x.g.pits.length < 1000
theorem rfit_ok : ∀ x, rfitS.pre x → FunOk Tryz.prog 113 (rfitS.args x) (rfitS.H x) (rfitS.R x) := by
  rintro ⟨⟨long, rise, change, ps⟩, k, ⟨a, b⟩⟩ hx
  refine fun_of (T := Trnear) (L := fun _ => some (.inv (rfitL ⟨long, rise, change, ps⟩ k (a, b)))) (hs := fun _ => []) hmix Trnear_ok Tryz.func113 (by kernel_rfl) (by kernel_rfl) ?_
  refine Eq.mp (α :=
      let A2 := nat_lit 0 = nat_lit 0 ∧ nat_lit 0 = nat_lit 0 ∧ nat_lit 0 = nat_lit 0; let A5 := Value.bool (rfitM ps k (a, b)); let A6 := Value.int IntKind.i64 (rclayM (a, b)); let A7 := True ∧ ps = ps ∧ True; let A8 := Value.int IntKind.i64 a = Value.int IntKind.i64 a; let A9 := Value.int IntKind.i64 b = Value.int IntKind.i64 b; let Aa := Value.int IntKind.i64 k = Value.int IntKind.i64 k; let A3 := ((0 : Int), (0 : Int)); let Ab := (A8 ∧ A9 ∧ True) ∧ True; let A4 := True ∧ ((A5 = Value.bool false) ∧ True) ∧ A7; let A0 : Type := { i : Nat // ((i ≤ (List.length (GroundT.pits (GroundT.mk long rise change ps)))) ∧ ((List.all ((List.take i (GroundT.pits (GroundT.mk long rise change ps)))) (rfit1M k (a, b))) = true)) }; let Ac := fun (x : A0) => Subtype.val x; let A1 := fun (x : A0) => (↑(Ac x) : Int); let Ad := fun (x : A0) => Value.int IntKind.i64 (A1 x); let Ae := fun (x : A0) => List.length ps - Ac x; let Af := fun (t : A0) => nat_lit 0 + (Int.toNat (A1 t)); let Ag := fun (t : A0) => A1 t < ((↑(List.length ps) : Int)); let Ah := True ∧ ps = ps ∧ ((Value.int IntKind.i64 long = Value.int IntKind.i64 long) ∧ (Value.int IntKind.i64 rise = Value.int IntKind.i64 rise) ∧ (Value.int IntKind.i64 change = Value.int IntKind.i64 change) ∧ (nat_lit 0 = nat_lit 0 ∧ nat_lit 0 = nat_lit 0 ∧ List.length ps = List.length ps) ∧ True) ∧ Ab; let Ai := fun (t : A0) => decide (Ag t); let Aj := fun (t : A0) => List.getD ps (Af t) (((0 : Int), ((A3, ((A3, ((A3, A3)))))))); let Ak := fun (t : A0) => (Prod.fst (Aj t)) == k; let Al := fun (t : A0) => Prod.snd ((Prod.snd (Aj t))); let Am := fun (t : A0) => Prod.fst (Al t); let An := fun (t : A0) => Prod.snd (Al t); let Ao := fun (t : A0) => Prod.snd (Am t); let Ap := fun (t : A0) => Prod.fst (Am t); let Aq := fun (t : A0) => Prod.fst (An t); let Ar := fun (t : A0) => Prod.snd (An t); let As := fun (t : A0) => Value.int IntKind.i64 (Ao t); let At := fun (t : A0) => Value.int IntKind.i64 (Ap t); let Au := fun (t : A0) => Prod.snd (Aq t); let Av := fun (t : A0) => Prod.snd (Ar t); let Aw := fun (t : A0) => Prod.fst (Aq t); let Ax := fun (t : A0) => Prod.fst (Ar t); let Ay := fun (t : A0) => Value.int IntKind.i64 (Au t); let Az := fun (t : A0) => Value.int IntKind.i64 (Ax t); let AA := fun (t : A0) => Value.int IntKind.i64 (Av t); let AB := fun (t : A0) => Value.int IntKind.i64 (Aw t); let AC := fun (t : A0) => !(inM a (Ap t) (Ao t)); let AD := fun (t : A0) => inM b (Aw t) (Au t); let AE := fun (t : A0) => inM (rclayM (a, b)) (Ax t) (Av t); let AF := fun (t : A0) => ∃ (x : A0), (((Aa ∧ (A2 ∧ (A2 ∧ (((Value.int IntKind.i64 ((IntKind.wrap IntKind.i64 ((A1 t + (1 : Int)))))) = Ad x) ∧ True)))) ∧ Ah) ∧ Ae x < Ae t); (∃ (x : A0), (Aa ∧ A2 ∧ A2 ∧ Value.int IntKind.i64 (0 : Int) = Ad x ∧ True) ∧ Ah) ∧ ∀ (t : A0), (Ai t = true → ((0 : Int) ≤ A1 t ∧ Ag t) ∧ Af t < List.length ps ∧ (Ak t = true → True ∧ (A8 ∧ At t = At t ∧ As t = As t ∧ True) ∧ True ∧ (AC t = true → A4) ∧ (AC t = false → True ∧ (A9 ∧ AB t = AB t ∧ Ay t = Ay t ∧ True) ∧ True ∧ ((!AD t) = true → A4) ∧ ((!AD t) = false → True ∧ Ab ∧ True ∧ True ∧ (A6 = A6 ∧ Az t = Az t ∧ AA t = AA t ∧ True) ∧ True ∧ ((!AE t) = true → A4) ∧ ((!AE t) = false → True ∧ AF t)))) ∧ (Ak t = false → True ∧ AF t)) ∧ (Ai t = false → True ∧ (A5 = Value.bool true ∧ True) ∧ A7))
    (by kernel_rfl) ?_
  simp only [eq_self, AE.goS]
  have hxl : ps.length < 1000 := hx
  refine ⟨⟨⟨0, Nat.zero_le _, rfl⟩, rfl⟩, fun t => ⟨fun ht => ?_, fun ht => ?_⟩⟩
  · obtain ⟨i, hi, ha⟩ := t
    have hlt : i < ps.length := by have h0 : (i : Int) < (ps.length : Int) := ht; omega
    have bad : rfit1M k (a, b) (ps.getD i pit0) = false → rfitM ps k (a, b) = false := fun h => by
      unfold rfitM
      rw [List.all_eq_false]
      exact ⟨_, getD_mem pit0 hlt, by rw [h]; decide⟩
    have good : rfit1M k (a, b) (ps.getD i pit0) = true → ∃ x : { i // i ≤ ps.length ∧ (ps.take i).all (rfit1M k (a, b)) = true }, IntKind.i64.wrap ((i : Int) + 1) = (x.1 : Int) ∧ ps.length - x.1 < ps.length - i := fun h =>
      ⟨⟨i + 1, hlt, by rw [take_snoc ps i hlt pit0, List.all_append, ha, List.all_cons, h]; rfl⟩, sucI i (by omega), dec1 hlt⟩
    have e : rfit1M k (a, b) (ps.getD i pit0) = (!((ps.getD i pit0).1 == k) || (inM a (ps.getD i pit0).2.2.1.1 (ps.getD i pit0).2.2.1.2 && inM b (ps.getD i pit0).2.2.2.1.1 (ps.getD i pit0).2.2.2.1.2 && inM (rclayM (a, b)) (ps.getD i pit0).2.2.2.2.1 (ps.getD i pit0).2.2.2.2.2)) := rfl
    refine ⟨⟨Int.natCast_nonneg _, ht⟩, hlt, ?_⟩
    rw [e] at bad good
    revert bad good
    generalize (∃ x : { i // i ≤ ps.length ∧ (ps.take i).all (rfit1M k (a, b)) = true }, IntKind.i64.wrap ((i : Int) + 1) = (x.1 : Int) ∧ ps.length - x.1 < ps.length - i) = Q
    generalize (rfitM ps k (a, b) = false) = F
    generalize ((ps.getD i pit0).1 == k) = q0
    generalize inM a (ps.getD i pit0).2.2.1.1 (ps.getD i pit0).2.2.1.2 = q1
    generalize inM b (ps.getD i pit0).2.2.2.1.1 (ps.getD i pit0).2.2.2.1.2 = q2
    generalize inM (rclayM (a, b)) (ps.getD i pit0).2.2.2.2.1 (ps.getD i pit0).2.2.2.2.2 = q3
    intro bad good
    cases q0 <;> cases q1 <;> cases q2 <;> cases q3 <;> simp at bad good ⊢ <;> first | exact bad | exact good
  · obtain ⟨i, hi, ha⟩ := t
    have hie : i = ps.length := by have h0 : ¬ (i : Int) < (ps.length : Int) := ht; omega
    subst hie
    rw [List.take_length] at ha
    exact ha

theorem rfit_sound : Sound Tryz.prog 113 rfitS.con := FSpec.sound _ (enter_of Tryz.func113 (by kernel_rfl) (by kernel_rfl)) rfit_ok
def rowM (s : Nat) (t : Nat) : List M2 := (List.range t).map fun (b : Nat) => ((s : Int), (b : Int))
def rowsM : Nat → List M2
  | 0 => []
  | s + 1 => rowsM s ++ rowM s (21 - s)
def allM (l : List PitT) : List M2 := rowsM (21 + 0 * l.length)
theorem all_rows (l : List PitT) : allM l = rowsM 21 := by unfold allM; rw [Nat.zero_mul]
def mixL1 : LSpec UU where
  T := { s : Nat // s ≤ 21 }
  fr := fun s => [(1, .gs 0 0), (2, .i s.1)]
  H := fun s => [.one (.row .rmix (rowsM s.1) 154)]
  mu := fun s => 21 - s.1
def mixL2 : LSpec UU where
  T := { p : Nat × Nat // p.1 < 21 ∧ p.2 ≤ 21 - p.1 }
  fr := fun p => [(1, .gs 0 0), (2, .i p.1.1), (3, .i p.1.2)]
  H := fun p => [.one (.row .rmix (rowsM p.1.1 ++ rowM p.1.1 p.1.2) 154)]
  mu := fun p => 21 - p.1.2
def mixLs (k : Nat) : Option (LRule UU) :=
  match k with
  | 3 => some (.inv mixL1)
  | 6 => some (.invR mixL2 fun x y => y.1.1 = x.1.1)
  | _ => none
def mixesS : FSpec UU where
  X := List PitT
  pick := fun args H => match args with
    | [] => sliceAt .pit H (.sl 0 0 0 0)
    | _ => none
  args := fun _ => []
  H := fun _ => []
  R := fun (x : List PitT) => .val ⟨.gs 0 0, [], [], [.row .rmix (allM x) 154]⟩
theorem mixes_ok : ∀ x, mixesS.pre x → FunOk Tryz.prog 111 (mixesS.args x) (mixesS.H x) (mixesS.R x) := by
  intro (x : List PitT) _
  refine fun_of (T := []) (L := mixLs) (hs := fun _ => []) hmix .nil Tryz.func111 (by kernel_rfl) (by kernel_rfl) ?_
  refine Eq.mp (α :=
      let A8 := (154 : TypeId); let Ae := Value.int IntKind.i64 (0 : Int); let A1 : Type := { s : Nat // (s ≤ (21 : Nat)) }; let A9 := fun (x : A1) => Subtype.val x; let Aa := A8 = A8; let A4 := fun (x : A1) => rowsM (A9 x); let Af := fun (x : A1) => (↑(A9 x) : Int); let Ag := fun (x : A1) => nat_lit 21 - A9 x; let Ab := fun (x : A1) => Value.int IntKind.i64 (Af x); let A0 : Type := { p : Nat × Nat // ((Prod.fst p < (21 : Nat)) ∧ (Prod.snd p ≤ ((21 : Nat) - Prod.fst p))) }; let Ah := fun (x : A0) => Subtype.val x; let Ac := fun (x : A0) => Prod.snd (Ah x); let A2 := fun (x : A0) => Prod.fst (Ah x); let A5 := fun (x : A0) => (↑(A2 x) : Int); let A6 := fun (x : A0) => (↑(Ac x) : Int); let Ai := fun (x : A0) => nat_lit 21 - Ac x; let A7 := fun (x : A0) => Value.int IntKind.i64 (A5 x); let Ad := fun (x : A0) => Value.int IntKind.i64 (A6 x); let Aj := fun (t : A0) => AV.v (A7 t); let Ak := fun (t : A0) => AV.v (Ad t); let Al := fun (t : A1) => decide ((Af t ≤ (20 : Int))); let Am := fun (t x : A0) => A2 t = A2 x; let A3 := fun (x : A0) => (rowsM (A2 x)) ++ (rowM (A2 x) (Ac x)); let An := fun (t : A0) => decide (IntKind.wrap IntKind.i64 (A5 t + A6 t) ≤ (20 : Int)); (∃ (x : A1), (nat_lit 0 = nat_lit 0 ∧ True ∧ True) ∧ (A4 x = [] ∧ True) ∧ (Value.slice none (nat_lit 0) (nat_lit 0) = Value.slice none (nat_lit 0) (nat_lit 0) ∧ Ae = Ab x ∧ True) ∧ True ∧ True ∧ True) ∧ ∀ (t : A1), (Al t = true → ∃ (x : A0), ((nat_lit 0 = nat_lit 0 ∧ Ab t = A7 x ∧ Ae = Ad x ∧ True) ∧ True ∧ (Aa ∧ A4 t = A3 x) ∧ True) ∧ A2 x = A2 x ∧ ∀ (t_1 : A0), Am t_1 x → (An t_1 = true → (nat_lit 1 = nat_lit 1 ∧ Aj t_1 = Aj t_1 ∧ Ak t_1 = Ak t_1 ∧ True) ∧ nat_lit 1 ≤ nat_lit 1 ∧ List.length (A3 t_1) + nat_lit 1 ≤ nat_lit 1099511627776 ∧ True ∧ ∃ (x_1 : A0), ((nat_lit 0 = nat_lit 0 ∧ A7 t_1 = A7 x_1 ∧ Value.int IntKind.i64 (IntKind.wrap IntKind.i64 (A6 t_1 + (1 : Int))) = Ad x_1 ∧ True) ∧ True ∧ (nat_lit 154 = A8 ∧ A3 t_1 ++ List.take (1 : Nat) (List.drop (0 : Nat) [(A5 t_1, A6 t_1)]) = A3 x_1) ∧ True) ∧ Ai x_1 < Ai t_1 ∧ Am x_1 x) ∧ (An t_1 = false → True ∧ ∃ (x : A1), ((nat_lit 0 = nat_lit 0 ∧ Value.int IntKind.i64 (IntKind.wrap IntKind.i64 (A5 t_1 + (1 : Int))) = Ab x ∧ True) ∧ True ∧ (Aa ∧ A3 t_1 = A4 x) ∧ True) ∧ Ag x < Ag t)) ∧ (Al t = false → True ∧ (nat_lit 0 = nat_lit 0 ∧ True) ∧ True ∧ (Aa ∧ A4 t = allM x) ∧ True))
    (by kernel_rfl) ?_
  simp only [eq_self, AE.goS]
  refine ⟨⟨⟨0, Nat.zero_le _⟩, rfl, rfl⟩, fun t => ⟨fun ht => ?_, fun ht => ?_⟩⟩
  · obtain ⟨s, hs⟩ := t
    have hs' : (s : Int) ≤ 20 := ht
    refine ⟨⟨(s, 0), by show s < 21; omega, Nat.zero_le _⟩, ⟨⟨rfl, rfl⟩, (List.append_nil _).symm⟩, fun p hp => ?_⟩
    obtain ⟨⟨s', j⟩, h1, h2⟩ := p
    have hp' : s' = s := hp
    subst hp'
    have h2' : j ≤ 21 - s' := h2
    have hw : IntKind.i64.wrap ((s' : Int) + (j : Int)) = (s' : Int) + (j : Int) := wrap_id (by omega) (by omega)
    have hlen : (rowsM s' ++ rowM s' j).length + 1 ≤ 1099511627776 := by
      have hr : ∀ s, (rowsM s).length ≤ 21 * s := fun s => by
        induction s with
        | zero => exact Nat.le_refl _
        | succ s ih => unfold rowsM; rw [List.length_append]; simp only [rowM, List.length_map, List.length_range]; omega
      have := hr s'
      rw [List.length_append]
      simp only [rowM, List.length_map, List.length_range]
      omega
    show (IntKind.i64.wrap ((s' : Int) + (j : Int)) ≤ 20 → _) ∧ _
    refine ⟨fun hj => ⟨Nat.le_refl _, hlen, ⟨(s', j + 1), h1, ?_⟩, ⟨⟨rfl, sucI j (by omega)⟩, ?_⟩, ?_, rfl⟩, fun hj => ⟨⟨s' + 1, by omega⟩, ⟨sucI s' (by omega), ?_⟩, ?_⟩⟩
    · rw [hw] at hj
      show j + 1 ≤ 21 - s'; omega
    · show rowsM s' ++ rowM s' j ++ [((s' : Int), (j : Int))] = rowsM s' ++ rowM s' (j + 1)
      rw [List.append_assoc]
      unfold rowM
      rw [List.range_succ, List.map_append]; rfl
    · rw [hw] at hj
      show 21 - (j + 1) < 21 - j; omega
    · have hj' : ¬ IntKind.i64.wrap ((s' : Int) + (j : Int)) ≤ 20 := hj
      rw [hw] at hj'
      have : j = 21 - s' := by omega
      subst this
      rfl
    · show 21 - (s' + 1) < 21 - s'; omega
  · obtain ⟨s, hs⟩ := t
    have : s = 21 := by have h0 : ¬ (s : Int) ≤ 20 := ht; omega
    subst this
    exact (all_rows x).symm

theorem mixes_sound : Sound Tryz.prog 111 mixesS.con := FSpec.sound _ (enter_of Tryz.func111 (by kernel_rfl) (by kernel_rfl)) mixes_ok
end AE.Soil

namespace AE.Soil
open Go AE Go.Proofs

def canPM (c : Int) (first : Bool) (prev : List M2) (m : M2) : Bool := first || prev.any fun a => rnearM c a m
def takesM (g : GroundT) (x : Int) (first : Bool) (prev : List M2) (m : M2) : Bool := canPM g.change first prev m && rfitM g.pits x m
def stepLM (g : GroundT) (x : Int) (first : Bool) (prev : List M2) : List M2 := (allM g.pits).filter (takesM g x first prev)
def chM (g : GroundT) (e st : Int) : Nat → List M2
  | 0 => stepLM g e true []
  | k + 1 => stepLM g (e + st * ((k + 1 : Nat) : Int)) false (chM g e st k)
def prM (g : GroundT) (e st : Int) : Nat → List M2
  | 0 => []
  | k + 1 => chM g e st k
def firstM (k : Nat) : Bool := k == 0
def xAtM (e st : Int) (k : Nat) : Int := e + st * (k : Int)
theorem ch_step (g : GroundT) (e st : Int) : ∀ k, chM g e st k = stepLM g (xAtM e st k) (firstM k) (prM g e st k)
  | 0 => by unfold xAtM; simp [chM, firstM, prM]
  | k + 1 => rfl
structure AlQ where
  g : GroundT
  at_ : Int
  e : Int
  st : Int
def alN (x : AlQ) : Nat := ((x.at_ - x.e) * x.st).toNat
def someM (x : AlQ) (k i : Nat) : List M2 := ((allM x.g.pits).take i).filter (takesM x.g (xAtM x.e x.st k) (firstM k) (prM x.g x.e x.st k))
def mAtM (l : List PitT) (i : Nat) : M2 := (allM l).getD i (0, 0)
def canAtM (x : AlQ) (k i j : Nat) : Bool := canPM x.g.change (firstM k) ((prM x.g x.e x.st k).take j) (mAtM x.g.pits i)
theorem all_len (l : List PitT) : (allM l).length = 231 := by rw [all_rows]; rfl
theorem some_len (x : AlQ) (k i : Nat) : (someM x k i).length ≤ 231 := by
  have h1 : (someM x k i).length ≤ ((allM x.g.pits).take i).length := List.length_filter_le _ _
  rw [List.length_take, all_len] at h1
  omega
theorem some_yes (x : AlQ) {k i : Nat} (hi : i < (allM x.g.pits).length) (h : takesM x.g (xAtM x.e x.st k) (firstM k) (prM x.g x.e x.st k) (mAtM x.g.pits i) = true) : someM x k (i + 1) = someM x k i ++ [mAtM x.g.pits i] := by
  unfold someM
  rw [take_snoc _ i hi (0, 0), List.filter_append]
  congr 1
  exact List.filter_cons_of_pos h
theorem some_no (x : AlQ) {k i : Nat} (hi : i < (allM x.g.pits).length) (h : takesM x.g (xAtM x.e x.st k) (firstM k) (prM x.g x.e x.st k) (mAtM x.g.pits i) = false) : someM x k (i + 1) = someM x k i := by
  unfold someM
  rw [take_snoc _ i hi (0, 0), List.filter_append]
  have e : List.filter (takesM x.g (xAtM x.e x.st k) (firstM k) (prM x.g x.e x.st k)) [(allM x.g.pits).getD i (0, 0)] = [] := by
    refine List.filter_cons_of_neg ?_
    have h' : takesM x.g (xAtM x.e x.st k) (firstM k) (prM x.g x.e x.st k) ((allM x.g.pits).getD i (0, 0)) = false := h
    rw [h']; decide
  rw [e, List.append_nil]
theorem al_tail (x : AlQ) (hps : x.g.pits.length < 1000) {k i : Nat} (hk : k ≤ alN x) (hi : i < (allM x.g.pits).length) {c : Bool} (hc : c = canPM x.g.change (firstM k) (prM x.g x.e x.st k) (mAtM x.g.pits i)) :
    (c = true → (0 ≤ (i : Int) ∧ (i : Int) < ((allM x.g.pits).length : Int)) ∧ i < (allM x.g.pits).length ∧ x.g.pits.length < 1000 ∧
      (rfitM x.g.pits (xAtM x.e x.st k) ((allM x.g.pits).getD i (0, 0)) = true → (0 ≤ (i : Int) ∧ (i : Int) < ((allM x.g.pits).length : Int)) ∧ i < (allM x.g.pits).length ∧ 1 ≤ 1 ∧ (someM x k i).length + 1 ≤ 1099511627776 ∧
        ∃ y : { p : Nat × Nat // p.1 ≤ alN x ∧ p.2 ≤ (allM x.g.pits).length }, ((xAtM x.e x.st k = xAtM x.e x.st y.1.1 ∧ IntKind.i64.wrap ((i : Int) + 1) = (y.1.2 : Int)) ∧ prM x.g x.e x.st k = prM x.g x.e x.st y.1.1 ∧ someM x k i ++ List.take 1 (List.drop 0 [(((allM x.g.pits).getD i (0, 0)).1, ((allM x.g.pits).getD i (0, 0)).2)]) = someM x y.1.1 y.1.2) ∧ (allM x.g.pits).length - y.1.2 < (allM x.g.pits).length - i ∧ y.1.1 = k) ∧
      (rfitM x.g.pits (xAtM x.e x.st k) ((allM x.g.pits).getD i (0, 0)) = false → ∃ y : { p : Nat × Nat // p.1 ≤ alN x ∧ p.2 ≤ (allM x.g.pits).length }, ((xAtM x.e x.st k = xAtM x.e x.st y.1.1 ∧ IntKind.i64.wrap ((i : Int) + 1) = (y.1.2 : Int)) ∧ prM x.g x.e x.st k = prM x.g x.e x.st y.1.1 ∧ someM x k i = someM x y.1.1 y.1.2) ∧ (allM x.g.pits).length - y.1.2 < (allM x.g.pits).length - i ∧ y.1.1 = k)) ∧
    (c = false → ∃ y : { p : Nat × Nat // p.1 ≤ alN x ∧ p.2 ≤ (allM x.g.pits).length }, ((xAtM x.e x.st k = xAtM x.e x.st y.1.1 ∧ IntKind.i64.wrap ((i : Int) + 1) = (y.1.2 : Int)) ∧ prM x.g x.e x.st k = prM x.g x.e x.st y.1.1 ∧ someM x k i = someM x y.1.1 y.1.2) ∧ (allM x.g.pits).length - y.1.2 < (allM x.g.pits).length - i ∧ y.1.1 = k) := by
  have hl := all_len x.g.pits
  have hsl := some_len x k i
  have hsu := sucI i (by omega)
  refine ⟨fun h => ⟨⟨Int.natCast_nonneg _, by omega⟩, hi, hps, fun hf => ⟨⟨Int.natCast_nonneg _, by omega⟩, hi, Nat.le_refl _, by omega, ⟨(k, i + 1), hk, hi⟩, ⟨⟨rfl, hsu⟩, rfl, ?_⟩, dec1 hi, rfl⟩, fun hf => ⟨⟨(k, i + 1), hk, hi⟩, ⟨⟨rfl, hsu⟩, rfl, ?_⟩, dec1 hi, rfl⟩⟩, fun h => ⟨⟨(k, i + 1), hk, hi⟩, ⟨⟨rfl, hsu⟩, rfl, ?_⟩, dec1 hi, rfl⟩⟩
  · refine (some_yes x hi ?_).symm
    unfold takesM
    rw [← hc, h]; exact hf
  · refine (some_no x hi ?_).symm
    unfold takesM
    rw [← hc, h]; exact hf
  · refine (some_no x hi ?_).symm
    unfold takesM
    rw [← hc, h]; rfl
def alF (x : AlQ) (k : Nat) : Fr := [(1, .i x.at_), (2, .i x.e), (3, .i x.st), (4, .ptr 1 0 0 0), (9, .gs 2 0), (10, .gs 3 0), (11, .i (xAtM x.e x.st k))]
def alH (x : AlQ) (k : Nat) : Heap UU := [.one (.ro .pit x.g.pits), .one (.cells (cGround x.g 0) 28), .one (.row .rmix (allM x.g.pits) 154), .one (.row .rmix (prM x.g x.e x.st k) 154)]
def alL1 (x : AlQ) : LSpec UU where
  T := { k : Nat // k ≤ alN x }
  fr := fun k => alF x k.1
  H := fun k => alH x k.1
  mu := fun k => alN x - k.1
def alL2 (x : AlQ) : LSpec UU where
  T := { p : Nat × Nat // p.1 ≤ alN x ∧ p.2 ≤ (allM x.g.pits).length }
  fr := fun p => alF x p.1.1 ++ [(12, .gs 4 0), (13, .i p.1.2)]
  H := fun p => alH x p.1.1 ++ [.one (.row .rmix (someM x p.1.1 p.1.2) 154)]
  mu := fun p => (allM x.g.pits).length - p.1.2
def alL3 (x : AlQ) : LSpec UU where
  T := { p : Nat × Nat × Nat // p.1 ≤ alN x ∧ p.2.1 < (allM x.g.pits).length ∧ p.2.2 ≤ (prM x.g x.e x.st p.1).length }
  fr := fun p => alF x p.1.1 ++ [(12, .gs 4 0), (13, .i p.1.2.1), (14, .b (canAtM x p.1.1 p.1.2.1 p.1.2.2)), (15, .i p.1.2.2)]
  H := fun p => alH x p.1.1 ++ [.one (.row .rmix (someM x p.1.1 p.1.2.1) 154)]
  mu := fun p => (prM x.g x.e x.st p.1.1).length - p.1.2.2
def alLs (x : AlQ) (k : Nat) : Option (LRule UU) :=
  match k with
  | 5 => some (.inv (alL1 x))
  | 7 => some (.invR (alL2 x) fun a b => b.1.1 = a.1.1)
  | 11 => some (.invR (alL3 x) fun a b => b.1.1 = a.1.1 ∧ b.1.2.1 = a.1.2.1)
  | _ => none
def Talong : Tab UU := [(111, mixesS.con), (112, rnearS.con), (113, rfitS.con)]
theorem Talong_ok : Talong.Sound Tryz.prog := .cons mixes_sound (.cons rnear_sound (.cons rfit_sound .nil))
def alongS : FSpec UU where
  X := AlQ
  pick := fun args H => match args with
    | [g, a, b, c] => match avGround H g, avInt a, avInt b, avInt c with
      | some g, some a, some b, some c => some ⟨g, a, b, c⟩
      | _, _, _, _ => none
    | _ => none
  args := fun x => [vGround x.g 0, .i x.at_, .i x.e, .i x.st]
  H := fun x => [.one (.ro .pit x.g.pits)]
  R := fun x => .val ⟨.gs 1 0, [], [], [.row .rmix (chM x.g x.e x.st (alN x)) 154]⟩
  pre := fun x => x.g.pits.length < 1000 ∧ (0 ≤ x.e ∧ x.e ≤ 40) ∧ (0 ≤ x.at_ ∧ x.at_ ≤ 40) ∧ ((x.st = 1 ∧ x.e ≤ x.at_) ∨ (x.st = -1 ∧ x.at_ ≤ x.e))
theorem along_ok : ∀ x, alongS.pre x → FunOk Tryz.prog 104 (alongS.args x) (alongS.H x) (alongS.R x) := by
  rintro ⟨⟨long, rise, change, ps⟩, a, e, st⟩ hx
  refine fun_of (T := Talong) (L := alLs ⟨⟨long, rise, change, ps⟩, a, e, st⟩) (hs := fun _ => []) hmix Talong_ok Tryz.func104 (by kernel_rfl) (by kernel_rfl) ?_
  refine Eq.mp (α :=
      let An := (154 : TypeId); let AD := True ∧ True ∧ True ∧ True ∧ True; let Aa := nat_lit 0 = nat_lit 0 ∧ nat_lit 0 = nat_lit 0 ∧ nat_lit 0 = nat_lit 0; let AE := ps = ps ∧ True; let Ao := alN (AlQ.mk (GroundT.mk long rise change ps) a e st); let AF := Value.int IntKind.i64 (0 : Int); let Ab := Value.int IntKind.i64 a = Value.int IntKind.i64 a; let Ac := Value.int IntKind.i64 st = Value.int IntKind.i64 st; let Ad := Value.int IntKind.i64 e = Value.int IntKind.i64 e; let AG := (↑(List.length (allM ps)) : Int); let AH := Value.slice none (nat_lit 0) (nat_lit 0) = Value.slice none (nat_lit 0) (nat_lit 0); let Ap := ((0 : Int), (0 : Int)); let AI := True ∧ True ∧ True ∧ True ∧ True ∧ nat_lit 0 = nat_lit 0 ∧ True ∧ True; let AJ := List.length (allM (GroundT.pits (AlQ.g (AlQ.mk (GroundT.mk long rise change ps) a e st)))); let A2 := An = An; let A5 : Type := { k : Nat // (k ≤ Ao) }; let Aq := fun (x : A5) => Subtype.val x; let AK := Int.toNat ((a - e) * st); let Ar := fun (x : A5) => prM (GroundT.mk long rise change ps) e st (Aq x); let As := fun (x : A5) => Value.int IntKind.i64 ((xAtM e st (Aq x))); let A6 := A2 ∧ allM ps = allM ps; let AL := fun (x : A5) => AK - Aq x; let A1 : Type := { p : Nat × Nat // ((Prod.fst p ≤ Ao) ∧ Prod.snd p ≤ AJ) }; let AM := fun (x : A1) => Subtype.val x; let A7 := fun (x : A1) => Prod.fst (AM x); let At := fun (x : A1) => Prod.snd (AM x); let A3 := (Value.int IntKind.i64 long = Value.int IntKind.i64 long) ∧ (Value.int IntKind.i64 rise = Value.int IntKind.i64 rise) ∧ (Value.int IntKind.i64 change = Value.int IntKind.i64 change) ∧ (nat_lit 0 = nat_lit 0 ∧ nat_lit 0 = nat_lit 0 ∧ List.length ps = List.length ps) ∧ True; let Aj := fun (x : A1) => xAtM e st (A7 x); let AN := fun (x : A1) => (↑(At x) : Int); let Au := fun (x : A1) => prM (GroundT.mk long rise change ps) e st (A7 x); let Av := fun (x : A1) => Value.int IntKind.i64 (Aj x); let Aw := fun (x : A1) => Value.int IntKind.i64 (AN x); let AO := fun (t : A1) => Aj t == a; let AP := fun (x : A1) => List.length (allM ps) - At x; let AQ := fun (t x : A1) => A7 t = A7 x; let A0 : Type := { p : Nat × Nat × Nat // ((Prod.fst p ≤ Ao) ∧ ((Prod.fst (Prod.snd p)) < AJ) ∧ (Prod.snd (Prod.snd p)) ≤ (List.length ((prM (AlQ.g (AlQ.mk (GroundT.mk long rise change ps) a e st)) (AlQ.e (AlQ.mk (GroundT.mk long rise change ps) a e st)) (AlQ.st (AlQ.mk (GroundT.mk long rise change ps) a e st)) (Prod.fst p))))) }; let AR := fun (x : A0) => Subtype.val x; let A4 := fun (x : A0) => Prod.fst (AR x); let AS := fun (x : A0) => Prod.snd (AR x); let Ae := fun (x : A1) => someM (AlQ.mk (GroundT.mk long rise change ps) a e st) (A7 x) (At x); let AT := fun (x : A0) => xAtM e st (A4 x); let Ax := fun (x : A0) => Prod.snd (AS x); let A8 := fun (x : A0) => Prod.fst (AS x); let Af := fun (x : A0) => Value.int IntKind.i64 (AT x); let A9 := fun (x : A0) => prM (GroundT.mk long rise change ps) e st (A4 x); let Ah := fun (x : A0) => (↑(Ax x) : Int); let Ai := fun (x : A0) => (↑(A8 x) : Int); let AU := fun (t : A0) => Int.toNat (Ai t); let AW := fun (x : A0) => Value.int IntKind.i64 (Ah x); let Ay := fun (x : A0) => Value.int IntKind.i64 (Ai x); let AX := fun (t : A0) => List.length (A9 t); let AY := fun (t : A0) => nat_lit 0 + (Int.toNat (Ah t)); let AZ := fun (t : A0) => nat_lit 0 + AU t; let Az := fun (t : A0) => AZ t < List.length (allM ps); let Ak := fun (t : A0) => List.getD (allM ps) (AZ t) Ap; let B0 := fun (t : A0) => Prod.fst (Ak t); let B1 := fun (t : A0) => List.getD (allM ps) (((0 : Nat) + AU t)) Ap; let B2 := fun (t : A1) => decide ((AN t < AG)); let AA := fun (t : A0) => Value.int IntKind.i64 ((Prod.snd (Ak t))); let AB := fun (t : A0) => Value.int IntKind.i64 (B0 t); let B3 := fun (t : A0) => AV.v (AA t); let B4 := fun (t : A0) (x : A1) => A2 ∧ A9 t = Au x; let Ag := fun (x : A0) => someM (AlQ.mk (GroundT.mk long rise change ps) a e st) (A4 x) (A8 x); let B5 := fun (x t x_1 : A1) => (AP x < AP t) ∧ AQ x x_1; let B6 := fun (x : A0) => (List.length (A9 x)) - Ax x; let B7 := fun (t : A0) => Ah t < ((↑(AX t) : Int)); let Al := fun (t : A0) => ((0 : Int) ≤ Ai t) ∧ Ai t < AG; let AC := fun (t : A0) => List.getD (A9 t) (AY t) Ap; let B8 := fun (t : A0) => rfitM ps (AT t) (Ak t); let B9 := fun (t : A0) => Value.int IntKind.i64 ((Prod.fst (AC t))); let Ba := fun (t : A0) => Value.int IntKind.i64 ((Prod.snd (AC t))); let Am := fun (x : A0) => canAtM (AlQ.mk (GroundT.mk long rise change ps) a e st) (A4 x) (A8 x) (Ax x); let Bb := fun (t : A0) => !Am t; let Bc := fun (x : A0) => Value.bool (Am x); let Bd := fun (t : A0) => Am t = true; let Be := fun (t : A0) (x : A1) => Ab ∧ (Ad ∧ (Ac ∧ (Aa ∧ (nat_lit 0 = nat_lit 0 ∧ (nat_lit 0 = nat_lit 0 ∧ ((Af t = Av x) ∧ (nat_lit 0 = nat_lit 0 ∧ (((Value.int IntKind.i64 ((IntKind.wrap IntKind.i64 ((Ai t + (1 : Int)))))) = Aw x) ∧ True)))))))); let Bf := fun (t x : A0) => (A4 t = A4 x) ∧ A8 t = A8 x; let Bg := fun (t : A0) => decide (B7 t); let Bh := fun (t : A0) => ((AB t = AB t) ∧ (AA t = AA t) ∧ True) ∧ True; let Bl := fun (t : A0) (t_1 x : A1) => ∃ (x_1 : A1), ((Be t x_1 ∧ True ∧ ps = ps ∧ A3 ∧ A6 ∧ B4 t x_1 ∧ (A2 ∧ Ag t = Ae x_1) ∧ True) ∧ B5 x_1 t_1 x); let Bi := fun (t : A0) (t_1 x : A1) => True ∧ Bl t t_1 x; let Bj := fun (t : A0) (t_1 x : A1) => (Am t = false) → Bi t t_1 x; let Bm := fun (t : A0) (t_1 x : A1) => ∃ (x_1 : A1), ((Be t x_1 ∧ (True ∧ (ps = ps ∧ (A3 ∧ (A6 ∧ (B4 t x_1 ∧ (((nat_lit 154 = An) ∧ ((Ag t ++ (List.take (1 : Nat) ((List.drop (0 : Nat) (([((B0 t, (Prod.snd (B1 t))))])))))) = Ae x_1)) ∧ True))))))) ∧ B5 x_1 t_1 x); let Bk := fun (t : A0) (t_1 x : A1) => Az t ∧ ((List.length ps < nat_lit 1000) ∧ ((A3 ∧ (Af t = Af t) ∧ Bh t) ∧ (AE ∧ (((B8 t = true) → (Al t ∧ Az t ∧ (nat_lit 1 = nat_lit 1 ∧ ((AV.v (AB t)) = (AV.v ((Value.int IntKind.i64 ((Prod.fst (B1 t))))))) ∧ (B3 t = B3 t) ∧ True) ∧ nat_lit 1 ≤ nat_lit 1 ∧ (((List.length (Ag t)) + nat_lit 1) ≤ nat_lit 1099511627776) ∧ True ∧ Bm t t_1 x)) ∧ ((B8 t = false) → Bi t t_1 x))))); True ∧ True ∧ True ∧ (∃ (x : A5), AI ∧ (True ∧ AD ∧ True ∧ Ar x = [] ∧ True) ∧ (Ab ∧ Ad ∧ Ac ∧ Aa ∧ nat_lit 0 = nat_lit 0 ∧ AH ∧ Value.int IntKind.i64 e = As x ∧ True) ∧ True ∧ ps = ps ∧ A3 ∧ A6 ∧ True ∧ True) ∧ ∀ (t : A5), ∃ (x : A1), ((True ∧ True ∧ AI) ∧ (True ∧ AD ∧ True ∧ True ∧ Ae x = [] ∧ True) ∧ (Ab ∧ Ad ∧ Ac ∧ Aa ∧ nat_lit 0 = nat_lit 0 ∧ nat_lit 0 = nat_lit 0 ∧ As t = Av x ∧ AH ∧ AF = Aw x ∧ True) ∧ True ∧ ps = ps ∧ A3 ∧ A6 ∧ (A2 ∧ Ar t = Au x) ∧ True ∧ True) ∧ A7 x = A7 x ∧ ∀ (t_1 : A1), AQ t_1 x → (B2 t_1 = true → ∃ (x_1 : A0), ((Ab ∧ Ad ∧ Ac ∧ Aa ∧ nat_lit 0 = nat_lit 0 ∧ nat_lit 0 = nat_lit 0 ∧ Av t_1 = Af x_1 ∧ nat_lit 0 = nat_lit 0 ∧ Aw t_1 = Ay x_1 ∧ Value.bool (Aj t_1 == e) = Bc x_1 ∧ AF = AW x_1 ∧ True) ∧ True ∧ ps = ps ∧ A3 ∧ A6 ∧ (A2 ∧ Au t_1 = A9 x_1) ∧ (A2 ∧ Ae t_1 = Ag x_1) ∧ True) ∧ (A4 x_1 = A4 x_1 ∧ A8 x_1 = A8 x_1) ∧ ∀ (t : A0), Bf t x_1 → (Bg t = true → (Bb t = true → ((0 : Int) ≤ Ah t ∧ B7 t) ∧ AY t < AX t ∧ Al t ∧ Az t ∧ True ∧ (A3 ∧ (B9 t = B9 t ∧ Ba t = Ba t ∧ True) ∧ Bh t) ∧ AE ∧ True ∧ ∃ (x : A0), ((Ab ∧ Ad ∧ Ac ∧ Aa ∧ nat_lit 0 = nat_lit 0 ∧ nat_lit 0 = nat_lit 0 ∧ Af t = Af x ∧ nat_lit 0 = nat_lit 0 ∧ Ay t = Ay x ∧ Value.bool (rnearM change (AC t) (Ak t)) = Bc x ∧ Value.int IntKind.i64 (IntKind.wrap IntKind.i64 (Ah t + (1 : Int))) = AW x ∧ True) ∧ True ∧ ps = ps ∧ A3 ∧ A6 ∧ (A2 ∧ A9 t = A9 x) ∧ (A2 ∧ Ag t = Ag x) ∧ True) ∧ B6 x < B6 t ∧ Bf x x_1) ∧ (Bb t = false → (Bd t → Al t ∧ Bk t t_1 x) ∧ Bj t t_1 x)) ∧ (Bg t = false → (Bd t → Al t ∧ Bk t t_1 x) ∧ Bj t t_1 x)) ∧ (B2 t_1 = false → (AO t_1 = true → True ∧ (nat_lit 0 = nat_lit 0 ∧ True) ∧ True ∧ ps = ps ∧ (A2 ∧ Ae t_1 = chM (GroundT.mk long rise change ps) e st AK) ∧ True) ∧ (AO t_1 = false → True ∧ ∃ (x : A5), ((Ab ∧ Ad ∧ Ac ∧ Aa ∧ nat_lit 0 = nat_lit 0 ∧ nat_lit 0 = nat_lit 0 ∧ Value.int IntKind.i64 (IntKind.wrap IntKind.i64 (Aj t_1 + st)) = As x ∧ True) ∧ True ∧ ps = ps ∧ A3 ∧ A6 ∧ (A2 ∧ Ae t_1 = Ar x) ∧ True) ∧ AL x < AL t)))
    (by kernel_rfl) ?_
  simp only [eq_self, AE.goS]
  obtain ⟨h1, ⟨he0, he1⟩, ⟨ha0, ha1⟩, hst⟩ := hx
  have hps : ps.length < 1000 := h1
  have he0' : 0 ≤ e := he0
  have he1' : e ≤ 40 := he1
  have ha0' : 0 ≤ a := ha0
  have ha1' : a ≤ 40 := ha1
  have hst' : (st = 1 ∧ e ≤ a) ∨ (st = -1 ∧ a ≤ e) := hst
  obtain ⟨Q, hQ⟩ : ∃ Q : AlQ, Q = ⟨⟨long, rise, change, ps⟩, a, e, st⟩ := ⟨_, rfl⟩
  have hal := all_len ps
  have hn : (alN Q : Int) = (a - e) * st := by
    rw [hQ]
    show (((a - e) * st).toNat : Int) = _
    rcases hst' with ⟨h, h'⟩ | ⟨h, h'⟩ <;> subst h <;> omega
  have hxk : ∀ k : Nat, xAtM e st k = e + st * (k : Int) := fun _ => rfl
  have hfirst : ∀ k : Nat, (xAtM e st k == e) = firstM k := fun k => by
    rw [hxk]
    unfold firstM
    rcases hst' with ⟨h, _⟩ | ⟨h, _⟩ <;> subst h
    · cases k with
      | zero => simp
      | succ k => rw [beq_eq_false_iff_ne.2 (by omega), beq_eq_false_iff_ne.2 (by omega)]
    · cases k with
      | zero => simp
      | succ k => rw [beq_eq_false_iff_ne.2 (by omega), beq_eq_false_iff_ne.2 (by omega)]
  have hn40 : alN Q ≤ 40 := by rcases hst' with ⟨h, _⟩ | ⟨h, _⟩ <;> subst h <;> omega
  have hend : ∀ k : Nat, k ≤ alN Q → ((xAtM e st k == a) = true ↔ k = alN Q) := fun k hk => by
    rw [hxk, beq_iff_eq]
    rcases hst' with ⟨h, _⟩ | ⟨h, _⟩ <;> subst h <;> omega
  have hnext : ∀ k : Nat, k ≤ 40 → IntKind.i64.wrap (xAtM e st k + st) = xAtM e st (k + 1) := fun k hk => by
    rw [hxk, hxk]
    rcases hst' with ⟨h, _⟩ | ⟨h, _⟩ <;> subst h <;> (rw [wrap_id (by omega) (by omega)]; omega)
  rw [show ((a - e) * st).toNat = alN Q by rw [hQ]; rfl]
  rw [← hQ]
  refine ⟨⟨⟨0, Nat.zero_le _⟩, rfl, by show e = e + st * ((0 : Nat) : Int); simp⟩, fun t => ?_⟩
  obtain ⟨k, hk⟩ := t
  refine ⟨⟨(k, 0), hk, Nat.zero_le _⟩, ⟨rfl, ⟨rfl, rfl⟩, rfl⟩, fun p hp => ?_⟩
  obtain ⟨⟨k', i⟩, p1, p2⟩ := p
  have hp' : k' = k := hp
  subst hp'
  refine ⟨fun hi => ?_, fun hi => ?_⟩
  · have hlt : i < (allM ps).length := by have h0 : (i : Int) < ((allM ps).length : Int) := hi; omega
    refine ⟨⟨(k', i, 0), p1, hlt, Nat.zero_le _⟩, ⟨⟨rfl, rfl, ?_, rfl⟩, rfl, rfl⟩, fun q hq => ?_⟩
    · show (xAtM e st k' == e) = (firstM k' || List.any [] _)
      rw [hfirst, List.any_nil, Bool.or_false]
    obtain ⟨⟨k2, i2, j⟩, q1, q2, q3⟩ := q
    have hq1 : k2 = k' := hq.1
    have hq2 : i2 = i := hq.2
    subst hq1 hq2
    have hcan : ∀ j, canAtM Q k2 i2 j = (firstM k2 || ((prM ⟨long, rise, change, ps⟩ e st k2).take j).any fun a => rnearM change a (mAtM ps i2)) := fun j => by rw [hQ]; rfl
    have hfull : canPM change (firstM k2) (prM ⟨long, rise, change, ps⟩ e st k2) (mAtM ps i2) = (firstM k2 || (prM ⟨long, rise, change, ps⟩ e st k2).any fun a => rnearM change a (mAtM ps i2)) := rfl
    have tail := fun (c : Bool) (hc : c = canPM change (firstM k2) (prM ⟨long, rise, change, ps⟩ e st k2) (mAtM ps i2)) => al_tail Q (by rw [hQ]; exact hps) (k := k2) (i := i2) p1 (by rw [hQ]; exact hlt) (c := c) (by rw [hQ]; exact hc)
    have hmono : canAtM Q k2 i2 j = true → canAtM Q k2 i2 j = canPM change (firstM k2) (prM ⟨long, rise, change, ps⟩ e st k2) (mAtM ps i2) := fun h => by
      rw [h, hfull]
      rw [hcan] at h
      rcases Bool.or_eq_true _ _ ▸ h with h | h
      · rw [h]; rfl
      · obtain ⟨z, hz, hn⟩ := List.any_eq_true.1 h
        have : (prM ⟨long, rise, change, ps⟩ e st k2).any (fun a => rnearM change a (mAtM ps i2)) = true := List.any_eq_true.2 ⟨z, List.mem_of_mem_take hz, hn⟩
        rw [this, Bool.or_true]
    have hle : j ≤ (prM ⟨long, rise, change, ps⟩ e st k2).length := q3
    refine ⟨fun hj => ⟨fun hc => ?_, fun hc => ?_⟩, fun hj => ?_⟩
    · have hlj : j < (prM ⟨long, rise, change, ps⟩ e st k2).length := by have h0 : (j : Int) < ((prM ⟨long, rise, change, ps⟩ e st k2).length : Int) := hj; omega
      have hc' : canAtM Q k2 i2 j = false := by
        have h0 : (!canAtM Q k2 i2 j) = true := hc
        simpa using h0
      have hj1000 : j < 1000 := by
        have : (prM ⟨long, rise, change, ps⟩ e st k2).length ≤ 231 := by
          cases k2 with
          | zero => exact Nat.zero_le _
          | succ k => 
            show (chM _ _ _ k).length ≤ 231
            rw [ch_step]
            have := List.length_filter_le (takesM ⟨long, rise, change, ps⟩ (xAtM e st k) (firstM k) (prM ⟨long, rise, change, ps⟩ e st k)) (allM ps)
            rw [hal] at this
            exact this
        omega
      refine ⟨⟨Int.natCast_nonneg _, hj⟩, hlj, ⟨Int.natCast_nonneg _, hi⟩, hlt, ⟨(k2, i2, j + 1), p1, hlt, hlj⟩, ⟨⟨rfl, rfl, ?_, sucI j (by omega)⟩, rfl, rfl⟩, ?_, rfl, rfl⟩
      · show rnearM change ((prM ⟨long, rise, change, ps⟩ e st k2).getD j (0, 0)) ((allM ps).getD i2 (0, 0)) = canAtM Q k2 i2 (j + 1)
        rw [hcan, take_snoc _ j hlj (0, 0), List.any_append, ← Bool.or_assoc, ← hcan, hc', Bool.false_or]
        simp [mAtM]
      · show (prM ⟨long, rise, change, ps⟩ e st k2).length - (j + 1) < (prM ⟨long, rise, change, ps⟩ e st k2).length - j; omega
    · have hc' : canAtM Q k2 i2 j = true := by
        have h0 : (!canAtM Q k2 i2 j) = false := hc
        simpa using h0
      have h := tail (canAtM Q k2 i2 j) (hmono hc')
      subst hQ
      exact h
    · have hlj : j = (prM ⟨long, rise, change, ps⟩ e st k2).length := by have h0 : ¬ (j : Int) < ((prM ⟨long, rise, change, ps⟩ e st k2).length : Int) := hj; omega
      have h := tail (canAtM Q k2 i2 j) (by rw [hcan, hfull, hlj, List.take_length])
      subst hQ
      exact h
  · have hie : i = (allM ps).length := by have h0 : ¬ (i : Int) < ((allM ps).length : Int) := hi; have h1 : i ≤ (allM ps).length := p2; omega
    subst hie
    have hdone : someM Q k' (allM ps).length = chM ⟨long, rise, change, ps⟩ e st k' := by
      rw [ch_step, hQ]
      show ((allM ps).take (allM ps).length).filter _ = _
      rw [List.take_length]; rfl
    refine ⟨fun h => ?_, fun h => ⟨⟨k' + 1, ?_⟩, ⟨hnext k' (by have : k' ≤ alN Q := hk; omega), hdone⟩, ?_⟩⟩
    · have := (hend k' hk).1 h
      show someM Q k' (allM ps).length = _
      rw [hdone, ← this]
    · have hne : k' ≠ alN Q := fun hc => by
        have := (hend k' hk).2 hc
        rw [show (xAtM e st k' == a) = false from h] at this; cases this
      have : k' ≤ alN Q := hk
      omega
    · have hne : k' ≠ alN Q := fun hc => by
        have := (hend k' hk).2 hc
        rw [show (xAtM e st k' == a) = false from h] at this; cases this
      have : k' ≤ alN Q := hk
      show alN Q - (k' + 1) < alN Q - k'; omega

theorem along_sound : Sound Tryz.prog 104 alongS.con := FSpec.sound _ (enter_of Tryz.func104 (by kernel_rfl) (by kernel_rfl)) along_ok
end AE.Soil

namespace AE.Soil
open Go AE Go.Proofs

def D (p k : Int) : Int := max (k - p) (p - k)
theorem D_nonneg (p k : Int) : 0 ≤ D p k := by unfold D; omega
theorem D_self (p : Int) : D p p = 0 := by unfold D; omega
theorem D_tri (p j k : Int) : D p k ≤ D p j + D j k := by unfold D; omega
theorem D_le {p k n : Int} (h1 : 0 ≤ p) (h2 : p ≤ n) (h3 : 0 ≤ k) (h4 : k ≤ n) : D p k ≤ n := by unfold D; omega
theorem D_suc (k : Int) : D k (k + 1) = 1 := by unfold D; omega
theorem D_pre (k : Int) : D (k + 1) k = 1 := by unfold D; omega
theorem DR_tri (p j k r : Int) (hr : 0 ≤ r) : D p k * r ≤ D p j * r + D j k * r := by
  rw [← Int.add_mul]; exact Int.mul_le_mul_of_nonneg_right (D_tri p j k) hr
theorem DR_nonneg (p k r : Int) (hr : 0 ≤ r) : 0 ≤ D p k * r := Int.mul_nonneg (D_nonneg p k) hr
theorem DR_le {p k n r m : Int} (h : D p k ≤ n) (hr : 0 ≤ r) (hm : r ≤ m) (hn : 0 ≤ n) : D p k * r ≤ n * m := Int.mul_le_mul h hm hr hn

def Pl (g : GroundT) (k : Int) : Prop := 0 ≤ k ∧ k ≤ g.long
theorem far_eq {g : GroundT} (hg : GOk g) {p : PitT} (hp : PitOk g.long p) {k : Int} (hk : Pl g k) : farM p k g.rise = D p.1 k * g.rise ∧ 0 ≤ D p.1 k * g.rise ∧ D p.1 k * g.rise ≤ 40000 := by
  have h1 := hp.at_
  have h2 := hg.long
  have h3 := hg.rise
  have h4 : D p.1 k ≤ 40 := D_le h1.1 (by omega) hk.1 (by have := hk.2; omega)
  have h5 := DR_nonneg p.1 k g.rise h3.1
  have h6 : D p.1 k * g.rise ≤ 40000 := DR_le h4 h3.1 h3.2 (by omega)
  have hk1 := hk.1
  have hk2 := hk.2
  refine ⟨?_, h5, h6⟩
  unfold farM
  rw [show W (k - p.1) = k - p.1 from wrap_id (by omega) (by omega), show W (p.1 - k) = p.1 - k from wrap_id (by omega) (by omega)]
  exact wrap_id (by show _ ≤ D p.1 k * g.rise; omega) (by show D p.1 k * g.rise ≤ _; omega)
theorem dug_eq {g : GroundT} (hg : GOk g) {p : PitT} (hp : PitOk g.long p) {k : Int} (hk : Pl g k) : dugM p k g.rise = (p.2.1.1 - D p.1 k * g.rise, p.2.1.2 + D p.1 k * g.rise) := by
  obtain ⟨h1, h2, h3⟩ := far_eq hg hp hk
  have h4 : 0 ≤ p.2.1.1 ∧ p.2.1.1 ≤ p.2.1.2 ∧ p.2.1.2 ≤ 1000 := hp.hard
  unfold dugM
  rw [h1]
  rw [show W (p.2.1.1 - D p.1 k * g.rise) = p.2.1.1 - D p.1 k * g.rise from wrap_id (by omega) (by omega), show W (p.2.1.2 + D p.1 k * g.rise) = p.2.1.2 + D p.1 k * g.rise from wrap_id (by omega) (by omega)]
theorem fold_lo {α : Type} (f : α → Span) (v : Int) : ∀ (l : List α) (s : Span), (l.foldl (fun s t => bothM s (f t)) s).1 ≤ v ↔ s.1 ≤ v ∧ ∀ t ∈ l, (f t).1 ≤ v
  | [], s => by simp
  | x :: l, s => by
    rw [List.foldl_cons, fold_lo f v l]
    simp only [bothM, List.forall_mem_cons]
    constructor
    · rintro ⟨h1, h2⟩; exact ⟨by omega, by omega, h2⟩
    · rintro ⟨h1, h2, h3⟩; exact ⟨by omega, h3⟩
theorem fold_hi {α : Type} (f : α → Span) (v : Int) : ∀ (l : List α) (s : Span), v ≤ (l.foldl (fun s t => bothM s (f t)) s).2 ↔ v ≤ s.2 ∧ ∀ t ∈ l, v ≤ (f t).2
  | [], s => by simp
  | x :: l, s => by
    rw [List.foldl_cons, fold_hi f v l]
    simp only [bothM, List.forall_mem_cons]
    constructor
    · rintro ⟨h1, h2⟩; exact ⟨by omega, by omega, h2⟩
    · rintro ⟨h1, h2, h3⟩; exact ⟨by omega, h3⟩
theorem hard_lo {g : GroundT} (hg : GOk g) {k : Int} (hk : Pl g k) (v : Int) : (hardM g k).1 ≤ v ↔ 0 ≤ v ∧ ∀ p ∈ g.pits, p.2.1.1 - D p.1 k * g.rise ≤ v := by
  unfold hardM hardTM
  rw [fold_lo (fun t => tellM t k g.rise), tells_eq]
  simp only [List.forall_mem_cons, List.forall_mem_map, tellM, if_true]
  constructor
  · rintro ⟨h1, _, h3⟩
    refine ⟨h1, fun p hp => ?_⟩
    have := h3 p hp
    simp only [Bool.false_eq_true, if_false] at this
    rw [dug_eq hg (hg.pits p hp) hk] at this; exact this
  · rintro ⟨h1, h3⟩
    refine ⟨h1, h1, fun p hp => ?_⟩
    simp only [Bool.false_eq_true, if_false]
    rw [dug_eq hg (hg.pits p hp) hk]; exact h3 p hp
theorem hard_hi {g : GroundT} (hg : GOk g) {k : Int} (hk : Pl g k) (v : Int) : v ≤ (hardM g k).2 ↔ v ≤ 1000 ∧ ∀ p ∈ g.pits, v ≤ p.2.1.2 + D p.1 k * g.rise := by
  unfold hardM hardTM
  rw [fold_hi (fun t => tellM t k g.rise), tells_eq]
  simp only [List.forall_mem_cons, List.forall_mem_map, tellM, if_true]
  constructor
  · rintro ⟨h1, _, h3⟩
    refine ⟨h1, fun p hp => ?_⟩
    have := h3 p hp
    simp only [Bool.false_eq_true, if_false] at this
    rw [dug_eq hg (hg.pits p hp) hk] at this; exact this
  · rintro ⟨h1, h3⟩
    refine ⟨h1, h1, fun p hp => ?_⟩
    simp only [Bool.false_eq_true, if_false]
    rw [dug_eq hg (hg.pits p hp) hk]; exact h3 p hp
theorem hard_ge0 {g : GroundT} (hg : GOk g) {k : Int} (hk : Pl g k) : 0 ≤ (hardM g k).1 := ((hard_lo hg hk _).1 (Int.le_refl _)).1
theorem hard_le1000 {g : GroundT} (hg : GOk g) {k : Int} (hk : Pl g k) : (hardM g k).2 ≤ 1000 := ((hard_hi hg hk _).1 (Int.le_refl _)).1
theorem lip_lo {g : GroundT} (hg : GOk g) {j k : Int} (hj : Pl g j) (hk : Pl g k) : (hardM g j).1 ≤ (hardM g k).1 + D j k * g.rise := by
  obtain ⟨h1, h2⟩ := (hard_lo hg hk _).1 (Int.le_refl _)
  refine (hard_lo hg hj _).2 ⟨by have := DR_nonneg j k g.rise hg.rise.1; omega, fun p hp => ?_⟩
  have := h2 p hp
  have := DR_tri p.1 j k g.rise hg.rise.1
  omega
theorem lip_hi {g : GroundT} (hg : GOk g) {j k : Int} (hj : Pl g j) (hk : Pl g k) : (hardM g k).2 ≤ (hardM g j).2 + D j k * g.rise := by
  obtain ⟨h1, h2⟩ := (hard_hi hg hk _).1 (Int.le_refl _)
  have : (hardM g k).2 - D j k * g.rise ≤ (hardM g j).2 := by
    refine (hard_hi hg hj _).2 ⟨by have := DR_nonneg j k g.rise hg.rise.1; omega, fun p hp => ?_⟩
    have := h2 p hp
    have := DR_tri p.1 j k g.rise hg.rise.1
    omega
  omega
structure HTr (g : GroundT) (h : Int → Int) : Prop where
  bound : ∀ k, Pl g k → 0 ≤ h k ∧ h k ≤ 1000
  step : ∀ k, Pl g k → Pl g (k + 1) → h (k + 1) ≤ h k + g.rise ∧ h k ≤ h (k + 1) + g.rise
  pits : ∀ p ∈ g.pits, p.2.1.1 ≤ h p.1 ∧ h p.1 ≤ p.2.1.2
theorem HTr.up {g : GroundT} {h : Int → Int} (t : HTr g h) {k : Int} (hk : Pl g k) : ∀ n : Nat, Pl g (k + n) → h (k + n) ≤ h k + n * g.rise ∧ h k ≤ h (k + n) + n * g.rise
  | 0, _ => by simp
  | n + 1, hn => by
    have hk1 := hk.1
    have hk2 := hk.2
    have hn1 : 0 ≤ k + ((n + 1 : Nat) : Int) := hn.1
    have hn2 : k + ((n + 1 : Nat) : Int) ≤ g.long := hn.2
    have hp : Pl g (k + n) := ⟨by omega, by omega⟩
    obtain ⟨i1, i2⟩ := t.up hk n hp
    have he : k + ((n + 1 : Nat) : Int) = k + n + 1 := by omega
    obtain ⟨s1, s2⟩ := t.step (k + n) hp (by rw [← he]; exact hn)
    have hm : ((n + 1 : Nat) : Int) * g.rise = n * g.rise + g.rise := by rw [Int.natCast_succ, Int.add_mul, Int.one_mul]
    rw [he, hm]
    exact ⟨by omega, by omega⟩
theorem HTr.lip {g : GroundT} {h : Int → Int} (t : HTr g h) {j k : Int} (hj : Pl g j) (hk : Pl g k) : h j ≤ h k + D j k * g.rise ∧ h k ≤ h j + D j k * g.rise := by
  rcases Int.le_total j k with hl | hl
  · obtain ⟨n, hn⟩ := Int.eq_ofNat_of_zero_le (show 0 ≤ k - j by omega)
    have he : k = j + n := by omega
    subst he
    have := t.up hj n hk
    have hd : D j (j + n) = n := by unfold D; omega
    rw [hd]; omega
  · obtain ⟨n, hn⟩ := Int.eq_ofNat_of_zero_le (show 0 ≤ j - k by omega)
    have he : j = k + n := by omega
    subst he
    have := t.up hk n hj
    have hd : D (k + n) k = n := by unfold D; omega
    rw [hd]; omega
theorem HTr.inside {g : GroundT} (hg : GOk g) {h : Int → Int} (t : HTr g h) {k : Int} (hk : Pl g k) : (hardM g k).1 ≤ h k ∧ h k ≤ (hardM g k).2 := by
  obtain ⟨b1, b2⟩ := t.bound k hk
  refine ⟨(hard_lo hg hk _).2 ⟨b1, fun p hp => ?_⟩, (hard_hi hg hk _).2 ⟨b2, fun p hp => ?_⟩⟩
  · have := t.lip (hg.pits p hp).at_ hk
    have := t.pits p hp
    omega
  · have := t.lip (hg.pits p hp).at_ hk
    have := t.pits p hp
    omega
def HOk (g : GroundT) : Prop := ∀ k, Pl g k → (hardM g k).1 ≤ (hardM g k).2
theorem hard_pit {g : GroundT} (hg : GOk g) {p : PitT} (hp : p ∈ g.pits) : p.2.1.1 ≤ (hardM g p.1).1 ∧ (hardM g p.1).2 ≤ p.2.1.2 := by
  have hk : Pl g p.1 := (hg.pits p hp).at_
  have h1 := ((hard_lo hg hk _).1 (Int.le_refl _)).2 p hp
  have h2 := ((hard_hi hg hk _).1 (Int.le_refl _)).2 p hp
  rw [D_self] at h1 h2
  omega
theorem HOk.low {g : GroundT} (hg : GOk g) (h : HOk g) : HTr g fun k => (hardM g k).1 where
  bound := fun k hk => ⟨hard_ge0 hg hk, Int.le_trans (h k hk) (hard_le1000 hg hk)⟩
  step := fun k hk hk1 => by
    have h1 := lip_lo hg hk1 hk
    have h2 := lip_lo hg hk hk1
    rw [D_pre, Int.one_mul] at h1
    rw [D_suc, Int.one_mul] at h2
    exact ⟨h1, h2⟩
  pits := fun p hp => by
    have h1 := hard_pit hg hp
    have h2 := h p.1 (hg.pits p hp).at_
    exact ⟨h1.1, by omega⟩
theorem HTr.ok {g : GroundT} (hg : GOk g) {h : Int → Int} (t : HTr g h) : HOk g := fun k hk => by
  have := t.inside hg hk
  omega
theorem hok_iff {g : GroundT} (hg : GOk g) : HOk g ↔ ∃ h, HTr g h := ⟨fun h => ⟨_, h.low hg⟩, fun ⟨_, t⟩ => t.ok hg⟩

theorem place_of {g : GroundT} (hg : GOk g) {k : Int} (hk : Pl g k) : ∃ j : Nat, k = (j : Int) ∧ j < nM g := by
  obtain ⟨h0, h1, h2⟩ := n_ok hg
  obtain ⟨j, rfl⟩ := Int.eq_ofNat_of_zero_le hk.1
  exact ⟨j, rfl, by have := hk.2; omega⟩
theorem pl_of {g : GroundT} (hg : GOk g) {j : Nat} (h : j < nM g) : Pl g (j : Int) := by
  obtain ⟨h0, h1, h2⟩ := n_ok hg
  exact ⟨by omega, by omega⟩
theorem look_iff (g : GroundT) : lookM g = true ↔ ∀ j, j < nM g → (hardM g (j : Int)).1 ≤ (hardM g (j : Int)).2 ∧ noneM ((boxesM g).getD j m0) = false := by
  unfold lookM
  rw [List.all_eq_true]
  simp only [List.mem_range]
  constructor
  · intro h j hj
    have h' := h j hj
    unfold badM at h'
    simp only [Bool.not_or, Bool.and_eq_true, Bool.not_eq_true', decide_eq_false_iff_not] at h'
    exact ⟨by omega, h'.2⟩
  · intro h j hj
    have h' := h j hj
    unfold badM
    simp only [Bool.not_or, Bool.and_eq_true, Bool.not_eq_true', decide_eq_false_iff_not]
    exact ⟨by omega, h'.2⟩
theorem look_hok {g : GroundT} (hg : GOk g) (h : lookM g = true) : HOk g := fun k hk => by
  obtain ⟨j, rfl, hj⟩ := place_of hg hk
  exact ((look_iff g).1 h j hj).1
theorem err_of {g : GroundT} (hg : groundM g = true) {a : Ask} {l : List Int} (ha : l.all (askM a g.long) = true) : openErrM g a l = if lookM g then 0 else 10 := open_look hg ha
theorem hard_told {g : GroundT} (hg : groundM g = true) {k : Int} (hk : Pl g k) : hardOM g k = if lookM g then (hardM g k, 0) else ((0, 0), 10) := by
  have ha : [k].all (askM .place g.long) = true := by simp [askM, inM]; exact hk
  unfold hardOM
  rw [err_of hg ha]
  cases lookM g <;> rfl
def sumM (g : GroundT) (a : Nat) : Nat → Span
  | 0 => (0, 0)
  | i + 1 => ((sumM g a i).1 + (hardM g ((a + i : Nat) : Int)).1, (sumM g a i).2 + (hardM g ((a + i : Nat) : Int)).2)
theorem sum_bound {g : GroundT} (hg : GOk g) (h : HOk g) (a : Nat) : ∀ i, a + i ≤ nM g → 0 ≤ (sumM g a i).1 ∧ (sumM g a i).1 ≤ (sumM g a i).2 ∧ (sumM g a i).2 ≤ 1000 * i
  | 0, _ => by simp [sumM]
  | i + 1, hi => by
    obtain ⟨h1, h2, h3⟩ := sum_bound hg h a i (by omega)
    have hk := pl_of hg (show a + i < nM g by omega)
    have := hard_ge0 hg hk
    have := h _ hk
    have := hard_le1000 hg hk
    simp only [sumM]
    omega
theorem workAt_eq {g : GroundT} (hg : GOk g) (h : HOk g) (a : Int) : ∀ i, a.toNat + i ≤ nM g → workAtM g a i = sumM g a.toNat i
  | 0, _ => rfl
  | i + 1, hi => by
    have e := workAt_eq hg h a i (by omega)
    obtain ⟨h1, h2, h3⟩ := sum_bound hg h a.toNat i (by omega)
    have hn := (n_ok hg).2.2
    have hk := pl_of hg (show a.toNat + i < nM g by omega)
    have := hard_ge0 hg hk
    have := h _ hk
    have := hard_le1000 hg hk
    rw [workAtM, e, hards_get (by omega), sumM, show W ((sumM g a.toNat i).1 + (hardM g ((a.toNat + i : Nat) : Int)).1) = _ from wrap_id (by omega) (by omega), show W ((sumM g a.toNat i).2 + (hardM g ((a.toNat + i : Nat) : Int)).2) = _ from wrap_id (by omega) (by omega)]
theorem work_told {g : GroundT} (hg : groundM g = true) {a b : Int} (ha : Pl g a) (hb : Pl g b) (hab : a ≤ b) : workOM g a b = if lookM g then (sumM g a.toNat (b.toNat + 1 - a.toNat), 0) else ((0, 0), 10) := by
  have hs : [a, b].all (askM (.span (spanOkM a b)) g.long) = true := by simp [askM, inM, spanOkM]; exact ⟨⟨ha, hab⟩, hb, hab⟩
  have hok := ground_ok hg
  have hn := n_ok hok
  have hb2 := hb.2
  have hb1 := hb.1
  have ha1 := ha.1
  unfold workOM workErrM
  rw [err_of hg hs]
  cases hl : lookM g with
  | false => rfl
  | true =>
    have hw : W (b + 1) = b + 1 := wrap_id (by omega) (by omega)
    have e : workNM a b = b.toNat + 1 - a.toNat := by unfold workNM; rw [hw]; omega
    show (workAtM g a (workNM a b), (0 : Int)) = _
    rw [e, workAt_eq hok (look_hok hok hl) a _ (by omega)]; rfl
end AE.Soil
