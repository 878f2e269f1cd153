/- The layer 'protest': Rule, Fact, Told, Liars. No condition. -/
import Derived.Test.YtfhpdgmhdppggaaPrE0
namespace AE.Pr
open Go AE Go.Proofs

/-! ### Rule's closure -/
def avWBox (H : Heap UU) (id : Nat) : Option W3 := match blkAt H id 0 with
  | some (.cells [a, b, c] _) => avW (.agg [a, b, c])
  | some (.rc [a, b, c] _) => avW (.agg [a, b, c])
  | _ => none
def seeS : FSpec UU where
  X := (Int × Int) × W3 × Bool × Bool
  pick := fun args H => match args with
    | [t, .ptr i 0 0 0, .ptr j 0 0 0] => match avT t, avWBox H i, blkAt H j 0 with
      | some t, some w, some (.cells [a, b] _) => match avBool a, avBool b with
        | some a, some b => some (t, w, a, b)
        | _, _ => none
      | _, _, _ => none
    | _ => none
  args := fun x => [vT x.1, .ptr 0 0 0 0, .ptr 1 0 0 0]
  H := fun x => [.one (.rc [.b x.2.1.1, .i x.2.1.2.1, .b x.2.1.2.2] 27), .one (.cells [.b x.2.2.1, .b x.2.2.2] 82)]
  R := fun x => .val ⟨.tup [], [(1, 0, .cells [.b (x.2.2.1 || !rightM x.1 x.2.1), .b (x.2.2.2 || rightM x.1 x.2.1)] 82)], [], []⟩
  pre := fun x => okT x.1 ∧ okW x.2.1
set_option maxRecDepth 100000 in
theorem see_ok : ∀ x, seeS.pre x → FunOk Try.prog 55 (seeS.args x) (seeS.H x) (seeS.R x) := by
  rintro ⟨⟨f, l⟩, ⟨p, n, x⟩, a, b⟩ h
  refine fun_of (T := Tright) (L := fun _ => none) (hs := fun _ => []) hmix Tright_ok Try.func55 (by kernel_rfl) (by kernel_rfl) ?_
  refine Eq.mp (α :=
      ((((0 : Int) ≤ f ∧ f < (64 : Int)) ∧ (0 : Int) ≤ l ∧ l < (64 : Int)) ∧ (0 : Int) ≤ n ∧ n < (6 : Int)) ∧ ((Value.int IntKind.u64 f = Value.int IntKind.u64 f ∧ Value.int IntKind.u64 l = Value.int IntKind.u64 l ∧ True) ∧ (Value.bool p = Value.bool p ∧ Value.int IntKind.i64 n = Value.int IntKind.i64 n ∧ Value.bool x = Value.bool x ∧ True) ∧ True) ∧ True ∧ (rightM (f, l) (p, n, x) = true → ((0 : Int) ≤ (1 : Int) ∧ (1 : Int) < (↑(nat_lit 2) : Int)) ∧ True ∧ (True ∧ True) ∧ True ∧ (Value.bool p = Value.bool p ∧ Value.int IntKind.i64 n = Value.int IntKind.i64 n ∧ Value.bool x = Value.bool x ∧ True) ∧ (Value.bool a = Value.bool (a || !rightM (f, l) (p, n, x)) ∧ Value.bool (b || rightM (f, l) (p, n, x)) = Value.bool true ∧ True) ∧ True) ∧ (rightM (f, l) (p, n, x) = false → ((0 : Int) ≤ (0 : Int) ∧ (0 : Int) < (↑(nat_lit 2) : Int)) ∧ True ∧ (True ∧ True) ∧ True ∧ (Value.bool p = Value.bool p ∧ Value.int IntKind.i64 n = Value.int IntKind.i64 n ∧ Value.bool x = Value.bool x ∧ True) ∧ (Value.bool (a || !rightM (f, l) (p, n, x)) = Value.bool true ∧ Value.bool b = Value.bool (b || rightM (f, l) (p, n, x)) ∧ True) ∧ True))
    (by kernel_rfl) ?_
  refine ⟨h, by simp, trivial, fun hr => ?_, fun hr => ?_⟩ <;> simp [hr]

theorem see_sound : Sound Try.prog 55 seeS.con := FSpec.sound _ (enter_of Try.func55 (by kernel_rfl) (by kernel_rfl)) see_ok

/-! ### Rule -/
def wBox (w : W3) : AB UU := .one (.cells [.b w.1, .i w.2.1, .b w.2.2] 27)
def ruleL (x : HT) (w : W3) (l : List (Int × Int)) : LSpec UU where
  T := { i : Nat // i ≤ l.length }
  fr := fun i => [(4, .i 0), (5, .ptr 4 0 0 0), (7, .ptr 13 0 0 0), (8, .fn (.func 55) [] [.ptr 3 0 0 0, .ptr 13 0 0 0]), (19, .gs 14 0), (20, .i l.length), (21, .i i.1)]
  H := fun i => hH x ++ [.none, wBox w, .one (.cells [.i 0] 30), .none, .none, .none, .none, .none, .none, .none, .none, .one (.cells [.b (wrongsM (l.take i.1) w), .b (rightsM (l.take i.1) w)] 82), .one (.row .truth l 85)]
  mu := fun i => l.length - i.1
def ruleS : FSpec UU where
  X := HT × W3
  pick := fun args H => match args with
    | [a, b] => match avH H a, avW b with
      | some a, some b => some (a, b)
      | _, _ => none
    | _ => none
  args := fun x => [vH x.1, vW x.2]
  H := fun x => hH x.1
  R := fun x => .val ⟨.tup [.i (ruleM x.1 x.2).1, .i (ruleM x.1 x.2).2], [], [], []⟩
  pre := fun x => okH x.1
def Trule : Tab UU := [(54, isWordS.con), (49, openS.con), (57, allS.con), (55, seeS.con), (48, caughtS.con)]
theorem Trule_ok : Trule.Sound Try.prog := .cons isWord_sound (.cons open_sound (.cons all_sound (.cons see_sound (.cons caught_sound .nil))))
set_option maxHeartbeats 0 in
set_option maxRecDepth 100000 in
theorem rule_ok : ∀ x, ruleS.pre x → FunOk Try.prog 20 (ruleS.args x) (ruleS.H x) (ruleS.R x) := by
  rintro ⟨⟨⟨f, w, li⟩, cs, ks⟩, ⟨p, n, q⟩⟩ hl
  refine fun_ofG (T := Trule) (L := fun _ => some (.inv (ruleL ((f, w, li), cs, ks) (p, n, q) (allH ((f, w, li), cs, ks))))) (hs := fun _ => []) (sp := fun _ => none) hmix Trule_ok (tl := toldL 53) (toldL_ok told53) (it := fun _ => none) (fun _ _ h => by cases h) Try.func20 (by kernel_rfl) (by kernel_rfl) ?_
  refine Eq.mp (α :=
      True ∧ ((Value.int IntKind.i64 f = Value.int IntKind.i64 f ∧ Value.int IntKind.i64 w = Value.int IntKind.i64 w ∧ True ∧ True ∧ True ∧ True) ∧ (Value.bool p = Value.bool p ∧ Value.int IntKind.i64 n = Value.int IntKind.i64 n ∧ Value.bool q = Value.bool q ∧ True) ∧ True) ∧ True ∧ (List.length cs < nat_lit 1000 ∧ List.length ks < nat_lit 1000) ∧ ((hearM ((f, w, li), cs, ks) && wordM f w (p, n, q)) = true → ((Value.int IntKind.i64 f = Value.int IntKind.i64 f ∧ Value.int IntKind.i64 w = Value.int IntKind.i64 w ∧ Value.int IntKind.i64 li = Value.int IntKind.i64 li ∧ (nat_lit 0 = nat_lit 0 ∧ nat_lit 0 = nat_lit 0 ∧ List.length cs = List.length cs) ∧ (nat_lit 0 = nat_lit 0 ∧ nat_lit 0 = nat_lit 0 ∧ List.length ks = List.length ks) ∧ True) ∧ Value.bool (wordM f w (p, n, q)) = Value.bool (wordM f w (p, n, q)) ∧ True) ∧ (cs = cs ∧ ks = ks ∧ True) ∧ RtOk ((f, w, li), ks, saysM cs (0 : Int), saysM cs (1 : Int), saysM cs (2 : Int), saysM cs (3 : Int), saysM cs (4 : Int), saysM cs (5 : Int)) ∧ (decide ((↑(List.length (allM ((f, w, li), ks, saysM cs (0 : Int), saysM cs (1 : Int), saysM cs (2 : Int), saysM cs (3 : Int), saysM cs (4 : Int), saysM cs (5 : Int)) (everyM (Int.toNat w)))) : Int) > (0 : Int)) = true → ((nat_lit 0 = nat_lit 0 ∧ nat_lit 0 = nat_lit 0 ∧ nat_lit 0 = nat_lit 0) ∧ True) ∧ ((Value.int IntKind.i64 f = Value.int IntKind.i64 f ∧ Value.int IntKind.i64 w = Value.int IntKind.i64 w ∧ Value.int IntKind.i64 li = Value.int IntKind.i64 li ∧ True ∧ (nat_lit 0 = nat_lit 0 ∧ nat_lit 0 = nat_lit 0 ∧ List.length ks = List.length ks) ∧ nat_lit 0 = nat_lit 0 ∧ True) ∧ ks = ks ∧ ((nat_lit 7 = nat_lit 7 ∧ nat_lit 0 = nat_lit 0 ∧ nat_lit 0 = nat_lit 0 ∧ List.length (saysM cs (0 : Int)) = List.length (saysM cs (0 : Int))) ∧ (nat_lit 8 = nat_lit 8 ∧ nat_lit 0 = nat_lit 0 ∧ nat_lit 0 = nat_lit 0 ∧ List.length (saysM cs (1 : Int)) = List.length (saysM cs (1 : Int))) ∧ (nat_lit 9 = nat_lit 9 ∧ nat_lit 0 = nat_lit 0 ∧ nat_lit 0 = nat_lit 0 ∧ List.length (saysM cs (2 : Int)) = List.length (saysM cs (2 : Int))) ∧ (nat_lit 10 = nat_lit 10 ∧ nat_lit 0 = nat_lit 0 ∧ nat_lit 0 = nat_lit 0 ∧ List.length (saysM cs (3 : Int)) = List.length (saysM cs (3 : Int))) ∧ (nat_lit 11 = nat_lit 11 ∧ nat_lit 0 = nat_lit 0 ∧ nat_lit 0 = nat_lit 0 ∧ List.length (saysM cs (4 : Int)) = List.length (saysM cs (4 : Int))) ∧ (nat_lit 12 = nat_lit 12 ∧ nat_lit 0 = nat_lit 0 ∧ nat_lit 0 = nat_lit 0 ∧ List.length (saysM cs (5 : Int)) = List.length (saysM cs (5 : Int))) ∧ True) ∧ saysM cs (0 : Int) = saysM cs (0 : Int) ∧ saysM cs (1 : Int) = saysM cs (1 : Int) ∧ saysM cs (2 : Int) = saysM cs (2 : Int) ∧ saysM cs (3 : Int) = saysM cs (3 : Int) ∧ saysM cs (4 : Int) = saysM cs (4 : Int) ∧ saysM cs (5 : Int) = saysM cs (5 : Int) ∧ True) ∧ (∃ (x : { i : Nat // i ≤ List.length (allH ((f, w, li), cs, ks)) }), (Value.int IntKind.i64 (0 : Int) = Value.int IntKind.i64 (0 : Int) ∧ (nat_lit 0 = nat_lit 0 ∧ nat_lit 0 = nat_lit 0 ∧ nat_lit 0 = nat_lit 0) ∧ (nat_lit 0 = nat_lit 0 ∧ nat_lit 0 = nat_lit 0 ∧ nat_lit 0 = nat_lit 0) ∧ (Fn.func (nat_lit 55) = Fn.func (55 : FuncId) ∧ True ∧ (nat_lit 0 = nat_lit 0 ∧ nat_lit 0 = nat_lit 0 ∧ nat_lit 0 = nat_lit 0) ∧ (nat_lit 0 = nat_lit 0 ∧ nat_lit 0 = nat_lit 0 ∧ nat_lit 0 = nat_lit 0) ∧ True) ∧ nat_lit 0 = nat_lit 0 ∧ Value.int IntKind.i64 (↑(List.length (allM ((f, w, li), ks, saysM cs (0 : Int), saysM cs (1 : Int), saysM cs (2 : Int), saysM cs (3 : Int), saysM cs (4 : Int), saysM cs (5 : Int)) (everyM (Int.toNat w)))) : Int) = Value.int IntKind.i64 (↑(List.length (truthsM ((f, w, li), cs, ks) (everyM (Int.toNat w)))) : Int) ∧ Value.int IntKind.i64 (0 : Int) = Value.int IntKind.i64 (↑(Subtype.val x) : Int) ∧ True) ∧ (((nat_lit 0 = nat_lit 0 ∧ nat_lit 0 = nat_lit 0 ∧ nat_lit 0 = nat_lit 0) ∧ True) ∧ True ∧ True) ∧ cs = cs ∧ ks = ks ∧ True ∧ (Value.bool p = Value.bool p ∧ Value.int IntKind.i64 n = Value.int IntKind.i64 n ∧ Value.bool q = Value.bool q ∧ True) ∧ (Value.int IntKind.i64 (0 : Int) = Value.int IntKind.i64 (0 : Int) ∧ True) ∧ True ∧ True ∧ True ∧ True ∧ True ∧ True ∧ True ∧ True ∧ (Value.bool false = Value.bool (wrongsM (List.take (Subtype.val x) (truthsM ((f, w, li), cs, ks) (everyM (Int.toNat w)))) (p, n, q)) ∧ Value.bool false = Value.bool (rightsM (List.take (Subtype.val x) (truthsM ((f, w, li), cs, ks) (everyM (Int.toNat w)))) (p, n, q)) ∧ True) ∧ ((85 : TypeId) = (85 : TypeId) ∧ allM ((f, w, li), ks, saysM cs (0 : Int), saysM cs (1 : Int), saysM cs (2 : Int), saysM cs (3 : Int), saysM cs (4 : Int), saysM cs (5 : Int)) (everyM (Int.toNat w)) = truthsM ((f, w, li), cs, ks) (everyM (Int.toNat w))) ∧ True) ∧ ∀ (t : { i : Nat // i ≤ List.length (allH ((f, w, li), cs, ks)) }), (decide ((↑(Subtype.val t) : Int) < (↑(List.length (truthsM ((f, w, li), cs, ks) (everyM (Int.toNat w)))) : Int)) = true → ((0 : Int) ≤ (↑(Subtype.val t) : Int) ∧ (↑(Subtype.val t) : Int) < (↑(List.length (truthsM ((f, w, li), cs, ks) (everyM (Int.toNat w)))) : Int)) ∧ nat_lit 0 + Int.toNat (↑(Subtype.val t) : Int) < List.length (truthsM ((f, w, li), cs, ks) (everyM (Int.toNat w))) ∧ ((((0 : Int) ≤ Prod.fst (List.getD (truthsM ((f, w, li), cs, ks) (everyM (Int.toNat w))) (nat_lit 0 + Int.toNat (↑(Subtype.val t) : Int)) ((0 : Int), (0 : Int))) ∧ Prod.fst (List.getD (truthsM ((f, w, li), cs, ks) (everyM (Int.toNat w))) (nat_lit 0 + Int.toNat (↑(Subtype.val t) : Int)) ((0 : Int), (0 : Int))) < (64 : Int)) ∧ (0 : Int) ≤ Prod.snd (List.getD (truthsM ((f, w, li), cs, ks) (everyM (Int.toNat w))) (nat_lit 0 + Int.toNat (↑(Subtype.val t) : Int)) ((0 : Int), (0 : Int))) ∧ Prod.snd (List.getD (truthsM ((f, w, li), cs, ks) (everyM (Int.toNat w))) (nat_lit 0 + Int.toNat (↑(Subtype.val t) : Int)) ((0 : Int), (0 : Int))) < (64 : Int)) ∧ (0 : Int) ≤ n ∧ n < (6 : Int)) ∧ ((Value.int IntKind.u64 (Prod.fst (List.getD (truthsM ((f, w, li), cs, ks) (everyM (Int.toNat w))) (nat_lit 0 + Int.toNat (↑(Subtype.val t) : Int)) ((0 : Int), (0 : Int)))) = Value.int IntKind.u64 (Prod.fst (List.getD (truthsM ((f, w, li), cs, ks) (everyM (Int.toNat w))) (nat_lit 0 + Int.toNat (↑(Subtype.val t) : Int)) ((0 : Int), (0 : Int)))) ∧ Value.int IntKind.u64 (Prod.snd (List.getD (truthsM ((f, w, li), cs, ks) (everyM (Int.toNat w))) (nat_lit 0 + Int.toNat (↑(Subtype.val t) : Int)) ((0 : Int), (0 : Int)))) = Value.int IntKind.u64 (Prod.snd (List.getD (truthsM ((f, w, li), cs, ks) (everyM (Int.toNat w))) (nat_lit 0 + Int.toNat (↑(Subtype.val t) : Int)) ((0 : Int), (0 : Int)))) ∧ True) ∧ (nat_lit 0 = nat_lit 0 ∧ nat_lit 0 = nat_lit 0 ∧ nat_lit 0 = nat_lit 0) ∧ (nat_lit 0 = nat_lit 0 ∧ nat_lit 0 = nat_lit 0 ∧ nat_lit 0 = nat_lit 0) ∧ True) ∧ ((Value.bool p = Value.bool p ∧ Value.int IntKind.i64 n = Value.int IntKind.i64 n ∧ Value.bool q = Value.bool q ∧ True) ∧ (Value.bool (wrongsM (List.take (Subtype.val t) (truthsM ((f, w, li), cs, ks) (everyM (Int.toNat w)))) (p, n, q)) = Value.bool (wrongsM (List.take (Subtype.val t) (truthsM ((f, w, li), cs, ks) (everyM (Int.toNat w)))) (p, n, q)) ∧ Value.bool (rightsM (List.take (Subtype.val t) (truthsM ((f, w, li), cs, ks) (everyM (Int.toNat w)))) (p, n, q)) = Value.bool (rightsM (List.take (Subtype.val t) (truthsM ((f, w, li), cs, ks) (everyM (Int.toNat w)))) (p, n, q)) ∧ True) ∧ True) ∧ [DfE.call (Fn.func (nat_lit 53)) [AV.ptr (4 : Nat) (nat_lit 0) (nat_lit 0) (nat_lit 0)] []] = [DfE.call (Fn.func (nat_lit 53)) [AV.ptr (4 : Nat) (nat_lit 0) (nat_lit 0) (nat_lit 0)] []] ∧ ∃ (x : { i : Nat // i ≤ List.length (allH ((f, w, li), cs, ks)) }), ((Value.int IntKind.i64 (0 : Int) = Value.int IntKind.i64 (0 : Int) ∧ (nat_lit 0 = nat_lit 0 ∧ nat_lit 0 = nat_lit 0 ∧ nat_lit 0 = nat_lit 0) ∧ (nat_lit 0 = nat_lit 0 ∧ nat_lit 0 = nat_lit 0 ∧ nat_lit 0 = nat_lit 0) ∧ (Fn.func (55 : FuncId) = Fn.func (55 : FuncId) ∧ True ∧ (nat_lit 0 = nat_lit 0 ∧ nat_lit 0 = nat_lit 0 ∧ nat_lit 0 = nat_lit 0) ∧ (nat_lit 0 = nat_lit 0 ∧ nat_lit 0 = nat_lit 0 ∧ nat_lit 0 = nat_lit 0) ∧ True) ∧ nat_lit 0 = nat_lit 0 ∧ Value.int IntKind.i64 (↑(List.length (truthsM ((f, w, li), cs, ks) (everyM (Int.toNat w)))) : Int) = Value.int IntKind.i64 (↑(List.length (truthsM ((f, w, li), cs, ks) (everyM (Int.toNat w)))) : Int) ∧ Value.int IntKind.i64 (IntKind.wrap IntKind.i64 ((↑(Subtype.val t) : Int) + (1 : Int))) = Value.int IntKind.i64 (↑(Subtype.val x) : Int) ∧ True) ∧ (((nat_lit 0 = nat_lit 0 ∧ nat_lit 0 = nat_lit 0 ∧ nat_lit 0 = nat_lit 0) ∧ True) ∧ True ∧ True) ∧ cs = cs ∧ ks = ks ∧ True ∧ (Value.bool p = Value.bool p ∧ Value.int IntKind.i64 n = Value.int IntKind.i64 n ∧ Value.bool q = Value.bool q ∧ True) ∧ (Value.int IntKind.i64 (0 : Int) = Value.int IntKind.i64 (0 : Int) ∧ True) ∧ True ∧ True ∧ True ∧ True ∧ True ∧ True ∧ True ∧ True ∧ (Value.bool (wrongsM (List.take (Subtype.val t) (truthsM ((f, w, li), cs, ks) (everyM (Int.toNat w)))) (p, n, q) || !rightM (List.getD (truthsM ((f, w, li), cs, ks) (everyM (Int.toNat w))) (nat_lit 0 + Int.toNat (↑(Subtype.val t) : Int)) ((0 : Int), (0 : Int))) (p, n, q)) = Value.bool (wrongsM (List.take (Subtype.val x) (truthsM ((f, w, li), cs, ks) (everyM (Int.toNat w)))) (p, n, q)) ∧ Value.bool (rightsM (List.take (Subtype.val t) (truthsM ((f, w, li), cs, ks) (everyM (Int.toNat w)))) (p, n, q) || rightM (List.getD (truthsM ((f, w, li), cs, ks) (everyM (Int.toNat w))) (nat_lit 0 + Int.toNat (↑(Subtype.val t) : Int)) ((0 : Int), (0 : Int))) (p, n, q)) = Value.bool (rightsM (List.take (Subtype.val x) (truthsM ((f, w, li), cs, ks) (everyM (Int.toNat w)))) (p, n, q)) ∧ True) ∧ ((85 : TypeId) = (85 : TypeId) ∧ truthsM ((f, w, li), cs, ks) (everyM (Int.toNat w)) = truthsM ((f, w, li), cs, ks) (everyM (Int.toNat w))) ∧ True) ∧ List.length (truthsM ((f, w, li), cs, ks) (everyM (Int.toNat w))) - Subtype.val x < List.length (truthsM ((f, w, li), cs, ks) (everyM (Int.toNat w))) - Subtype.val t) ∧ (decide ((↑(Subtype.val t) : Int) < (↑(List.length (truthsM ((f, w, li), cs, ks) (everyM (Int.toNat w)))) : Int)) = false → ((wrongsM (List.take (Subtype.val t) (truthsM ((f, w, li), cs, ks) (everyM (Int.toNat w)))) (p, n, q) == false && rightsM (List.take (Subtype.val t) (truthsM ((f, w, li), cs, ks) (everyM (Int.toNat w)))) (p, n, q) == true) = true → True ∧ (Value.nilIface = Value.nilIface ∧ (nat_lit 0 = nat_lit 0 ∧ nat_lit 0 = nat_lit 0 ∧ nat_lit 0 = nat_lit 0) ∧ True) ∧ ((Value.int IntKind.i64 (0 : Int) = Value.int IntKind.i64 (0 : Int) ∧ True) ∧ True) ∧ True ∧ ((Value.int IntKind.i64 (2 : Int) = Value.int IntKind.i64 (Prod.fst (ruleM ((f, w, li), cs, ks) (p, n, q))) ∧ Value.int IntKind.i64 (0 : Int) = Value.int IntKind.i64 (Prod.snd (ruleM ((f, w, li), cs, ks) (p, n, q))) ∧ True) ∧ True) ∧ True ∧ cs = cs ∧ ks = ks ∧ True) ∧ ((wrongsM (List.take (Subtype.val t) (truthsM ((f, w, li), cs, ks) (everyM (Int.toNat w)))) (p, n, q) == false && rightsM (List.take (Subtype.val t) (truthsM ((f, w, li), cs, ks) (everyM (Int.toNat w)))) (p, n, q) == true) = false → ((wrongsM (List.take (Subtype.val t) (truthsM ((f, w, li), cs, ks) (everyM (Int.toNat w)))) (p, n, q) == true && rightsM (List.take (Subtype.val t) (truthsM ((f, w, li), cs, ks) (everyM (Int.toNat w)))) (p, n, q) == false) = true → True ∧ (Value.nilIface = Value.nilIface ∧ (nat_lit 0 = nat_lit 0 ∧ nat_lit 0 = nat_lit 0 ∧ nat_lit 0 = nat_lit 0) ∧ True) ∧ ((Value.int IntKind.i64 (0 : Int) = Value.int IntKind.i64 (0 : Int) ∧ True) ∧ True) ∧ True ∧ ((Value.int IntKind.i64 (0 : Int) = Value.int IntKind.i64 (Prod.fst (ruleM ((f, w, li), cs, ks) (p, n, q))) ∧ Value.int IntKind.i64 (0 : Int) = Value.int IntKind.i64 (Prod.snd (ruleM ((f, w, li), cs, ks) (p, n, q))) ∧ True) ∧ True) ∧ True ∧ cs = cs ∧ ks = ks ∧ True) ∧ ((wrongsM (List.take (Subtype.val t) (truthsM ((f, w, li), cs, ks) (everyM (Int.toNat w)))) (p, n, q) == true && rightsM (List.take (Subtype.val t) (truthsM ((f, w, li), cs, ks) (everyM (Int.toNat w)))) (p, n, q) == false) = false → True ∧ (Value.nilIface = Value.nilIface ∧ (nat_lit 0 = nat_lit 0 ∧ nat_lit 0 = nat_lit 0 ∧ nat_lit 0 = nat_lit 0) ∧ True) ∧ ((Value.int IntKind.i64 (0 : Int) = Value.int IntKind.i64 (0 : Int) ∧ True) ∧ True) ∧ True ∧ ((Value.int IntKind.i64 (1 : Int) = Value.int IntKind.i64 (Prod.fst (ruleM ((f, w, li), cs, ks) (p, n, q))) ∧ Value.int IntKind.i64 (0 : Int) = Value.int IntKind.i64 (Prod.snd (ruleM ((f, w, li), cs, ks) (p, n, q))) ∧ True) ∧ True) ∧ True ∧ cs = cs ∧ ks = ks ∧ True)))) ∧ (decide ((↑(List.length (allM ((f, w, li), ks, saysM cs (0 : Int), saysM cs (1 : Int), saysM cs (2 : Int), saysM cs (3 : Int), saysM cs (4 : Int), saysM cs (5 : Int)) (everyM (Int.toNat w)))) : Int) > (0 : Int)) = false → ((nat_lit 0 = nat_lit 0 ∧ nat_lit 0 = nat_lit 0 ∧ nat_lit 0 = nat_lit 0) ∧ True) ∧ ((Value.int IntKind.i64 f = Value.int IntKind.i64 f ∧ Value.int IntKind.i64 w = Value.int IntKind.i64 w ∧ Value.int IntKind.i64 li = Value.int IntKind.i64 li ∧ True ∧ (nat_lit 0 = nat_lit 0 ∧ nat_lit 0 = nat_lit 0 ∧ List.length ks = List.length ks) ∧ nat_lit 0 = nat_lit 0 ∧ True) ∧ ks = ks ∧ ((nat_lit 7 = nat_lit 7 ∧ nat_lit 0 = nat_lit 0 ∧ nat_lit 0 = nat_lit 0 ∧ List.length (saysM cs (0 : Int)) = List.length (saysM cs (0 : Int))) ∧ (nat_lit 8 = nat_lit 8 ∧ nat_lit 0 = nat_lit 0 ∧ nat_lit 0 = nat_lit 0 ∧ List.length (saysM cs (1 : Int)) = List.length (saysM cs (1 : Int))) ∧ (nat_lit 9 = nat_lit 9 ∧ nat_lit 0 = nat_lit 0 ∧ nat_lit 0 = nat_lit 0 ∧ List.length (saysM cs (2 : Int)) = List.length (saysM cs (2 : Int))) ∧ (nat_lit 10 = nat_lit 10 ∧ nat_lit 0 = nat_lit 0 ∧ nat_lit 0 = nat_lit 0 ∧ List.length (saysM cs (3 : Int)) = List.length (saysM cs (3 : Int))) ∧ (nat_lit 11 = nat_lit 11 ∧ nat_lit 0 = nat_lit 0 ∧ nat_lit 0 = nat_lit 0 ∧ List.length (saysM cs (4 : Int)) = List.length (saysM cs (4 : Int))) ∧ (nat_lit 12 = nat_lit 12 ∧ nat_lit 0 = nat_lit 0 ∧ nat_lit 0 = nat_lit 0 ∧ List.length (saysM cs (5 : Int)) = List.length (saysM cs (5 : Int))) ∧ True) ∧ saysM cs (0 : Int) = saysM cs (0 : Int) ∧ saysM cs (1 : Int) = saysM cs (1 : Int) ∧ saysM cs (2 : Int) = saysM cs (2 : Int) ∧ saysM cs (3 : Int) = saysM cs (3 : Int) ∧ saysM cs (4 : Int) = saysM cs (4 : Int) ∧ saysM cs (5 : Int) = saysM cs (5 : Int) ∧ True) ∧ True ∧ (((112 : TypeId) = (112 : TypeId) ∧ Value.int IntKind.i64 (10 : Int) = Value.int IntKind.i64 (10 : Int) ∧ True) ∧ (nat_lit 0 = nat_lit 0 ∧ nat_lit 0 = nat_lit 0 ∧ nat_lit 0 = nat_lit 0) ∧ True) ∧ ((Value.int IntKind.i64 (0 : Int) = Value.int IntKind.i64 (0 : Int) ∧ True) ∧ True) ∧ True ∧ ((Value.int IntKind.i64 (0 : Int) = Value.int IntKind.i64 (Prod.fst (ruleM ((f, w, li), cs, ks) (p, n, q))) ∧ Value.int IntKind.i64 (10 : Int) = Value.int IntKind.i64 (Prod.snd (ruleM ((f, w, li), cs, ks) (p, n, q))) ∧ True) ∧ True) ∧ True ∧ cs = cs ∧ ks = ks ∧ True)) ∧ ((hearM ((f, w, li), cs, ks) && wordM f w (p, n, q)) = false → ((Value.int IntKind.i64 f = Value.int IntKind.i64 f ∧ Value.int IntKind.i64 w = Value.int IntKind.i64 w ∧ Value.int IntKind.i64 li = Value.int IntKind.i64 li ∧ (nat_lit 0 = nat_lit 0 ∧ nat_lit 0 = nat_lit 0 ∧ List.length cs = List.length cs) ∧ (nat_lit 0 = nat_lit 0 ∧ nat_lit 0 = nat_lit 0 ∧ List.length ks = List.length ks) ∧ True) ∧ Value.bool (wordM f w (p, n, q)) = Value.bool (wordM f w (p, n, q)) ∧ True) ∧ (cs = cs ∧ ks = ks ∧ True) ∧ True ∧ (((112 : TypeId) = (112 : TypeId) ∧ Value.int IntKind.i64 (openErrM ((f, w, li), cs, ks)) = Value.int IntKind.i64 (openErrM ((f, w, li), cs, ks)) ∧ True) ∧ (nat_lit 0 = nat_lit 0 ∧ nat_lit 0 = nat_lit 0 ∧ nat_lit 0 = nat_lit 0) ∧ True) ∧ ((Value.int IntKind.i64 (0 : Int) = Value.int IntKind.i64 (0 : Int) ∧ True) ∧ True) ∧ True ∧ ((Value.int IntKind.i64 (0 : Int) = Value.int IntKind.i64 (Prod.fst (ruleM ((f, w, li), cs, ks) (p, n, q))) ∧ Value.int IntKind.i64 (openErrM ((f, w, li), cs, ks)) = Value.int IntKind.i64 (Prod.snd (ruleM ((f, w, li), cs, ks) (p, n, q))) ∧ True) ∧ True) ∧ True ∧ cs = cs ∧ ks = ks ∧ True))
    (by kernel_rfl) ?_
  simp only [ruleS, okH] at hl
  simp only [eq_self, true_and, and_true, Int.toNat_natCast, Nat.zero_add, Nat.sub_zero]
  have hA : allM ((f, w, li), ks, saysM cs 0, saysM cs 1, saysM cs 2, saysM cs 3, saysM cs 4, saysM cs 5) (everyM w.toNat) = allH ((f, w, li), cs, ks) := rfl
  have hA2 : truthsM ((f, w, li), cs, ks) (everyM w.toNat) = allH ((f, w, li), cs, ks) := rfl
  simp only [hA, hA2, true_and, and_true]
  refine ⟨hl, fun hh => ?_, fun hh => ?_⟩
  · have hh2 : hearM ((f, w, li), cs, ks) = true ∧ wordM f w (p, n, q) = true := by rw [← Bool.and_eq_true]; exact hh
    have hk := hear_ok hh2.1
    have hx := rt_ok hk
    have hok : ∀ t ∈ allH ((f, w, li), cs, ks), okT t := fun t ht => (mem_allM hx ht).1
    have hlen : (allH ((f, w, li), cs, ks)).length ≤ 5000 := preM_length _ hx _ _ _ (pow_le hx.f) (by decide)
    have hW6 : okW (p, n, q) := okW_of hk.f hk.w hh2.2
    have hr : ruleM ((f, w, li), cs, ks) (p, n, q) = if ((allH ((f, w, li), cs, ks)).length : Int) > 0 then (verdictM (allH ((f, w, li), cs, ks)) (p, n, q), 0) else (0, 10) := by
      unfold ruleM; rw [if_pos hh]
    rw [hr]
    generalize allH ((f, w, li), cs, ks) = A at *
    refine ⟨hx, fun hp => ⟨⟨⟨0, Nat.zero_le _⟩, by simp [wrongsM, rightsM]⟩, fun t => ⟨fun ht => ?_, fun ht => ?_⟩⟩, fun hp => ?_⟩
    · obtain ⟨t, htl⟩ := t
      have hlt : t < A.length := by
        have h4 : ((t : Int)) < (A.length : Int) := of_decide_eq_true ht
        exact_mod_cast h4
      have hmem : A.getD t (0, 0) ∈ A := by rw [List.getD_eq_getElem?_getD, List.getElem?_eq_getElem hlt]; exact List.getElem_mem hlt
      have hw : IntKind.i64.wrap ((t : Int) + 1) = ((t + 1 : Nat) : Int) := by rw [wrap_id (by omega) (by omega)]; rfl
      refine ⟨⟨Int.natCast_nonneg _, by show (t : Int) < (A.length : Int); omega⟩, hlt, ⟨hok _ hmem, hW6⟩, ⟨t + 1, hlt⟩, ?_, dec1 hlt⟩
      simp only [wrongsM, rightsM, any_take _ A t hlt (0, 0), hw, true_and]
    · have hta : t.1 = A.length := by
        have h2 : ¬ ((t.1 : Int)) < (A.length : Int) := of_decide_eq_false ht
        have : t.1 ≤ A.length := t.2
        omega
      rw [hta, List.take_length, if_pos (of_decide_eq_true hp)]
      simp only [verdictM]
      cases wrongsM A (p, n, q) <;> cases rightsM A (p, n, q) <;> simp
    · rw [if_neg (of_decide_eq_false hp)]
      exact ⟨rfl, rfl⟩
  · have hr : ruleM ((f, w, li), cs, ks) (p, n, q) = (0, openErrM ((f, w, li), cs, ks)) := by
      unfold ruleM; rw [if_neg (by rw [hh]; simp)]
    rw [hr]
    exact ⟨rfl, rfl⟩

theorem rule_sound : Sound Try.prog 20 ruleS.con := FSpec.sound _ (enter_of Try.func20 (by kernel_rfl) (by kernel_rfl)) rule_ok

/-! ### Fact, Told -/
def factS (p : Bool) : FSpec UU where
  X := HT × Int
  pick := fun args H => match args with
    | [a, b] => match avH H a, avInt b with
      | some a, some b => some (a, b)
      | _, _ => none
    | _ => none
  args := fun x => [vH x.1, .i x.2]
  H := fun x => hH x.1
  R := fun x => .val ⟨.tup [.i (ruleM x.1 (p, x.2, false)).1, .i (ruleM x.1 (p, x.2, false)).2], [], [], []⟩
  pre := fun x => okH x.1
def Tfact : Tab UU := [(20, ruleS.con)]
theorem Tfact_ok : Tfact.Sound Try.prog := .cons rule_sound .nil
set_option maxRecDepth 100000 in
theorem fact_ok : ∀ x, (factS false).pre x → FunOk Try.prog 16 ((factS false).args x) ((factS false).H x) ((factS false).R x) := by
  rintro ⟨⟨⟨f, w, li⟩, cs, ks⟩, n⟩ hl
  refine fun_of (T := Tfact) (L := fun _ => none) (hs := fun _ => []) hmix Tfact_ok Try.func16 (by kernel_rfl) (by kernel_rfl) ?_
  refine Eq.mp (α :=
      (List.length cs < nat_lit 1000 ∧ List.length ks < nat_lit 1000) ∧ ((Value.int IntKind.i64 f = Value.int IntKind.i64 f ∧ Value.int IntKind.i64 w = Value.int IntKind.i64 w ∧ Value.int IntKind.i64 li = Value.int IntKind.i64 li ∧ (nat_lit 0 = nat_lit 0 ∧ nat_lit 0 = nat_lit 0 ∧ List.length cs = List.length cs) ∧ (nat_lit 0 = nat_lit 0 ∧ nat_lit 0 = nat_lit 0 ∧ List.length ks = List.length ks) ∧ True) ∧ (Value.bool false = Value.bool false ∧ Value.int IntKind.i64 n = Value.int IntKind.i64 n ∧ Value.bool false = Value.bool false ∧ True) ∧ True) ∧ (cs = cs ∧ ks = ks ∧ True) ∧ True ∧ ((Value.int IntKind.i64 (Prod.fst (ruleM ((f, w, li), cs, ks) (false, n, false))) = Value.int IntKind.i64 (Prod.fst (ruleM ((f, w, li), cs, ks) (false, n, false))) ∧ Value.int IntKind.i64 (Prod.snd (ruleM ((f, w, li), cs, ks) (false, n, false))) = Value.int IntKind.i64 (Prod.snd (ruleM ((f, w, li), cs, ks) (false, n, false))) ∧ True) ∧ True) ∧ True ∧ cs = cs ∧ ks = ks ∧ True)
    (by kernel_rfl) ?_
  simp only [factS, okH] at hl
  simpa using hl

theorem fact_sound : Sound Try.prog 16 (factS false).con := FSpec.sound _ (enter_of Try.func16 (by kernel_rfl) (by kernel_rfl)) fact_ok
set_option maxRecDepth 100000 in
theorem toldW_ok : ∀ x, (factS true).pre x → FunOk Try.prog 18 ((factS true).args x) ((factS true).H x) ((factS true).R x) := by
  rintro ⟨⟨⟨f, w, li⟩, cs, ks⟩, n⟩ hl
  refine fun_of (T := Tfact) (L := fun _ => none) (hs := fun _ => []) hmix Tfact_ok Try.func18 (by kernel_rfl) (by kernel_rfl) ?_
  refine Eq.mp (α :=
      (List.length cs < nat_lit 1000 ∧ List.length ks < nat_lit 1000) ∧ ((Value.int IntKind.i64 f = Value.int IntKind.i64 f ∧ Value.int IntKind.i64 w = Value.int IntKind.i64 w ∧ Value.int IntKind.i64 li = Value.int IntKind.i64 li ∧ (nat_lit 0 = nat_lit 0 ∧ nat_lit 0 = nat_lit 0 ∧ List.length cs = List.length cs) ∧ (nat_lit 0 = nat_lit 0 ∧ nat_lit 0 = nat_lit 0 ∧ List.length ks = List.length ks) ∧ True) ∧ (Value.bool true = Value.bool true ∧ Value.int IntKind.i64 n = Value.int IntKind.i64 n ∧ Value.bool false = Value.bool false ∧ True) ∧ True) ∧ (cs = cs ∧ ks = ks ∧ True) ∧ True ∧ ((Value.int IntKind.i64 (Prod.fst (ruleM ((f, w, li), cs, ks) (true, n, false))) = Value.int IntKind.i64 (Prod.fst (ruleM ((f, w, li), cs, ks) (true, n, false))) ∧ Value.int IntKind.i64 (Prod.snd (ruleM ((f, w, li), cs, ks) (true, n, false))) = Value.int IntKind.i64 (Prod.snd (ruleM ((f, w, li), cs, ks) (true, n, false))) ∧ True) ∧ True) ∧ True ∧ cs = cs ∧ ks = ks ∧ True)
    (by kernel_rfl) ?_
  simp only [factS, okH] at hl
  simpa using hl

theorem toldW_sound : Sound Try.prog 18 (factS true).con := FSpec.sound _ (enter_of Try.func18 (by kernel_rfl) (by kernel_rfl)) toldW_ok

end AE.Pr
