/- The layer 'protest': Liars. No condition. -/
import Derived.Test.YtfhpdgmhdppggaaPrF
namespace AE.Pr
open Go AE Go.Proofs

/-! ### Liars -/
def spanM (l : List (Int × Int)) : Int × Int := l.foldl (fun s t => (min s.1 (popM t.2), max s.2 (popM t.2))) (6, 0)
def liarsM (x : HT) : (Int × Int) × Int := if hearM x then (if ((allH x).length : Int) > 0 then (spanM (allH x), 0) else ((0, 0), 10)) else ((0, 0), 1)
theorem span_take (l : List (Int × Int)) (i : Nat) (h : i < l.length) (d : Int × Int) : spanM (l.take (i + 1)) = (min (spanM (l.take i)).1 (popM (l.getD i d).2), max (spanM (l.take i)).2 (popM (l.getD i d).2)) := by
  rw [take_snoc l i h d]; unfold spanM; rw [List.foldl_append]; rfl
def liarsL (x : HT) (l : List (Int × Int)) : LSpec UU where
  T := { i : Nat // i ≤ l.length }
  fr := fun i => [(2, .ptr 3 0 0 0), (3, .ptr 4 0 0 0), (13, .gs 13 0), (14, .i l.length), (15, .i i.1)]
  H := fun i => hH x ++ [.none, .one (.cells [.i (spanM (l.take i.1)).1, .i (spanM (l.take i.1)).2] 37), .one (.cells [.i 0] 30), .none, .none, .none, .none, .none, .none, .none, .none, .one (.row .truth l 85)]
  mu := fun i => l.length - i.1
def liarsS : FSpec UU where
  X := HT
  pick := fun args H => match args with
    | [a] => avH H a
    | _ => none
  args := fun x => [vH x]
  H := fun x => hH x
  R := fun x => .val ⟨.tup [.agg [.i (liarsM x).1.1, .i (liarsM x).1.2], .i (liarsM x).2], [], [], []⟩
  pre := fun x => okH x
def Tliars : Tab UU := [(49, openS.con), (57, allS.con), (60, popS.con), (48, caughtS.con)]
theorem Tliars_ok : Tliars.Sound Try.prog := .cons open_sound (.cons all_sound (.cons size_sound (.cons caught_sound .nil)))
set_option maxHeartbeats 0 in
set_option maxRecDepth 100000 in
theorem liars_ok : ∀ x, liarsS.pre x → FunOk Try.prog 22 (liarsS.args x) (liarsS.H x) (liarsS.R x) := by
  rintro ⟨⟨f, w, li⟩, cs, ks⟩ hl
  refine fun_ofG (T := Tliars) (L := fun _ => some (.inv (liarsL ((f, w, li), cs, ks) (allH ((f, w, li), cs, ks))))) (hs := fun _ => []) (sp := fun _ => none) hmix Tliars_ok (tl := toldL 59) (toldL_ok told59) (it := fun _ => none) (fun _ _ h => by cases h) Try.func22 (by kernel_rfl) (by kernel_rfl) ?_
  refine Eq.mp (α :=
      (List.length cs < nat_lit 1000 ∧ List.length ks < nat_lit 1000) ∧
        ((hearM ((f, w, li), cs, ks) && true) = true →
            ((Value.int IntKind.i64 f = Value.int IntKind.i64 f ∧ Value.int IntKind.i64 w = Value.int IntKind.i64 w ∧ Value.int IntKind.i64 li = Value.int IntKind.i64 li ∧ (nat_lit 0 = nat_lit 0 ∧ nat_lit 0 = nat_lit 0 ∧ List.length cs = List.length cs) ∧ (nat_lit 0 = nat_lit 0 ∧ nat_lit 0 = nat_lit 0 ∧ List.length ks = List.length ks) ∧ True) ∧ Value.bool true = Value.bool true ∧ True) ∧
              (cs = cs ∧ ks = ks ∧ True) ∧
                RtOk ((f, w, li), ks, saysM cs (0 : Int), saysM cs (1 : Int), saysM cs (2 : Int), saysM cs (3 : Int), saysM cs (4 : Int), saysM cs (5 : Int)) ∧
                  (decide ((↑(List.length (allM ((f, w, li), ks, saysM cs (0 : Int), saysM cs (1 : Int), saysM cs (2 : Int), saysM cs (3 : Int), saysM cs (4 : Int), saysM cs (5 : Int)) (everyM (Int.toNat w)))) : Int) > (0 : Int)) = true →
                      ((nat_lit 0 = nat_lit 0 ∧ nat_lit 0 = nat_lit 0 ∧ nat_lit 0 = nat_lit 0) ∧ True) ∧
                        ((Value.int IntKind.i64 f = Value.int IntKind.i64 f ∧ Value.int IntKind.i64 w = Value.int IntKind.i64 w ∧ Value.int IntKind.i64 li = Value.int IntKind.i64 li ∧ True ∧ (nat_lit 0 = nat_lit 0 ∧ nat_lit 0 = nat_lit 0 ∧ List.length ks = List.length ks) ∧ nat_lit 0 = nat_lit 0 ∧ True) ∧ ks = ks ∧ ((nat_lit 7 = nat_lit 7 ∧ nat_lit 0 = nat_lit 0 ∧ nat_lit 0 = nat_lit 0 ∧ List.length (saysM cs (0 : Int)) = List.length (saysM cs (0 : Int))) ∧ (nat_lit 8 = nat_lit 8 ∧ nat_lit 0 = nat_lit 0 ∧ nat_lit 0 = nat_lit 0 ∧ List.length (saysM cs (1 : Int)) = List.length (saysM cs (1 : Int))) ∧ (nat_lit 9 = nat_lit 9 ∧ nat_lit 0 = nat_lit 0 ∧ nat_lit 0 = nat_lit 0 ∧ List.length (saysM cs (2 : Int)) = List.length (saysM cs (2 : Int))) ∧ (nat_lit 10 = nat_lit 10 ∧ nat_lit 0 = nat_lit 0 ∧ nat_lit 0 = nat_lit 0 ∧ List.length (saysM cs (3 : Int)) = List.length (saysM cs (3 : Int))) ∧ (nat_lit 11 = nat_lit 11 ∧ nat_lit 0 = nat_lit 0 ∧ nat_lit 0 = nat_lit 0 ∧ List.length (saysM cs (4 : Int)) = List.length (saysM cs (4 : Int))) ∧ (nat_lit 12 = nat_lit 12 ∧ nat_lit 0 = nat_lit 0 ∧ nat_lit 0 = nat_lit 0 ∧ List.length (saysM cs (5 : Int)) = List.length (saysM cs (5 : Int))) ∧ True) ∧ saysM cs (0 : Int) = saysM cs (0 : Int) ∧ saysM cs (1 : Int) = saysM cs (1 : Int) ∧ saysM cs (2 : Int) = saysM cs (2 : Int) ∧ saysM cs (3 : Int) = saysM cs (3 : Int) ∧ saysM cs (4 : Int) = saysM cs (4 : Int) ∧ saysM cs (5 : Int) = saysM cs (5 : Int) ∧ True) ∧
                          (∃ (x : { i : Nat // i ≤ List.length (allH ((f, w, li), cs, ks)) }), ((nat_lit 0 = nat_lit 0 ∧ nat_lit 0 = nat_lit 0 ∧ nat_lit 0 = nat_lit 0) ∧ (nat_lit 0 = nat_lit 0 ∧ nat_lit 0 = nat_lit 0 ∧ nat_lit 0 = nat_lit 0) ∧ nat_lit 0 = nat_lit 0 ∧ Value.int IntKind.i64 (↑(List.length (allM ((f, w, li), ks, saysM cs (0 : Int), saysM cs (1 : Int), saysM cs (2 : Int), saysM cs (3 : Int), saysM cs (4 : Int), saysM cs (5 : Int)) (everyM (Int.toNat w)))) : Int) = Value.int IntKind.i64 (↑(List.length (truthsM ((f, w, li), cs, ks) (everyM (Int.toNat w)))) : Int) ∧ Value.int IntKind.i64 (0 : Int) = Value.int IntKind.i64 (↑(Subtype.val x) : Int) ∧ True) ∧ (((nat_lit 0 = nat_lit 0 ∧ nat_lit 0 = nat_lit 0 ∧ nat_lit 0 = nat_lit 0) ∧ True) ∧ True ∧ True) ∧ cs = cs ∧ ks = ks ∧ True ∧ (Value.int IntKind.i64 (6 : Int) = Value.int IntKind.i64 (Prod.fst (spanM (List.take (Subtype.val x) (truthsM ((f, w, li), cs, ks) (everyM (Int.toNat w)))))) ∧ Value.int IntKind.i64 (0 : Int) = Value.int IntKind.i64 (Prod.snd (spanM (List.take (Subtype.val x) (truthsM ((f, w, li), cs, ks) (everyM (Int.toNat w)))))) ∧ True) ∧ (Value.int IntKind.i64 (0 : Int) = Value.int IntKind.i64 (0 : Int) ∧ True) ∧ True ∧ True ∧ True ∧ True ∧ True ∧ True ∧ True ∧ True ∧ ((85 : TypeId) = (85 : TypeId) ∧ allM ((f, w, li), ks, saysM cs (0 : Int), saysM cs (1 : Int), saysM cs (2 : Int), saysM cs (3 : Int), saysM cs (4 : Int), saysM cs (5 : Int)) (everyM (Int.toNat w)) = truthsM ((f, w, li), cs, ks) (everyM (Int.toNat w))) ∧ True) ∧
                            ∀ (t : { i : Nat // i ≤ List.length (allH ((f, w, li), cs, ks)) }),
                              (decide ((↑(Subtype.val t) : Int) < (↑(List.length (truthsM ((f, w, li), cs, ks) (everyM (Int.toNat w)))) : Int)) = true →
                                  ((0 : Int) ≤ (↑(Subtype.val t) : Int) ∧ (↑(Subtype.val t) : Int) < (↑(List.length (truthsM ((f, w, li), cs, ks) (everyM (Int.toNat w)))) : Int)) ∧
                                    nat_lit 0 + Int.toNat (↑(Subtype.val t) : Int) < List.length (truthsM ((f, w, li), cs, ks) (everyM (Int.toNat w))) ∧
                                      ((0 : Int) ≤ Prod.snd (List.getD (truthsM ((f, w, li), cs, ks) (everyM (Int.toNat w))) (nat_lit 0 + Int.toNat (↑(Subtype.val t) : Int)) ((0 : Int), (0 : Int))) ∧ Prod.snd (List.getD (truthsM ((f, w, li), cs, ks) (everyM (Int.toNat w))) (nat_lit 0 + Int.toNat (↑(Subtype.val t) : Int)) ((0 : Int), (0 : Int))) < (64 : Int)) ∧
                                        (Value.int IntKind.u64 (Prod.snd (List.getD (truthsM ((f, w, li), cs, ks) (everyM (Int.toNat w))) (nat_lit 0 + Int.toNat (↑(Subtype.val t) : Int)) ((0 : Int), (0 : Int)))) = Value.int IntKind.u64 (Prod.snd (List.getD (truthsM ((f, w, li), cs, ks) (everyM (Int.toNat w))) (nat_lit 0 + Int.toNat (↑(Subtype.val t) : Int)) ((0 : Int), (0 : Int)))) ∧ True) ∧
                                          True ∧
                                            [DfE.call (Fn.func (nat_lit 59)) [AV.ptr (4 : Nat) (nat_lit 0) (nat_lit 0) (nat_lit 0)] []] = [DfE.call (Fn.func (nat_lit 59)) [AV.ptr (4 : Nat) (nat_lit 0) (nat_lit 0) (nat_lit 0)] []] ∧
                                              ∃ (x : { i : Nat // i ≤ List.length (allH ((f, w, li), cs, ks)) }),
                                                (((nat_lit 0 = nat_lit 0 ∧ nat_lit 0 = nat_lit 0 ∧ nat_lit 0 = nat_lit 0) ∧ (nat_lit 0 = nat_lit 0 ∧ nat_lit 0 = nat_lit 0 ∧ nat_lit 0 = nat_lit 0) ∧ nat_lit 0 = nat_lit 0 ∧ Value.int IntKind.i64 (↑(List.length (truthsM ((f, w, li), cs, ks) (everyM (Int.toNat w)))) : Int) = Value.int IntKind.i64 (↑(List.length (truthsM ((f, w, li), cs, ks) (everyM (Int.toNat w)))) : Int) ∧ Value.int IntKind.i64 (IntKind.wrap IntKind.i64 ((↑(Subtype.val t) : Int) + (1 : Int))) = Value.int IntKind.i64 (↑(Subtype.val x) : Int) ∧ True) ∧
                                                    (((nat_lit 0 = nat_lit 0 ∧ nat_lit 0 = nat_lit 0 ∧ nat_lit 0 = nat_lit 0) ∧ True) ∧ True ∧ True) ∧
                                                      cs = cs ∧
                                                        ks = ks ∧
                                                          True ∧
                                                            (Value.int IntKind.i64
                                                                    (match false with
                                                                    | true => max (Prod.fst (spanM (List.take (Subtype.val t) (truthsM ((f, w, li), cs, ks) (everyM (Int.toNat w)))))) (popM (Prod.snd (List.getD (truthsM ((f, w, li), cs, ks) (everyM (Int.toNat w))) (nat_lit 0 + Int.toNat (↑(Subtype.val t) : Int)) ((0 : Int), (0 : Int)))))
                                                                    | false => min (Prod.fst (spanM (List.take (Subtype.val t) (truthsM ((f, w, li), cs, ks) (everyM (Int.toNat w)))))) (popM (Prod.snd (List.getD (truthsM ((f, w, li), cs, ks) (everyM (Int.toNat w))) (nat_lit 0 + Int.toNat (↑(Subtype.val t) : Int)) ((0 : Int), (0 : Int)))))) =
                                                                  Value.int IntKind.i64 (Prod.fst (spanM (List.take (Subtype.val x) (truthsM ((f, w, li), cs, ks) (everyM (Int.toNat w)))))) ∧
                                                                Value.int IntKind.i64
                                                                      (match true with
                                                                      | true => max (Prod.snd (spanM (List.take (Subtype.val t) (truthsM ((f, w, li), cs, ks) (everyM (Int.toNat w)))))) (popM (Prod.snd (List.getD (truthsM ((f, w, li), cs, ks) (everyM (Int.toNat w))) (nat_lit 0 + Int.toNat (↑(Subtype.val t) : Int)) ((0 : Int), (0 : Int)))))
                                                                      | false => min (Prod.snd (spanM (List.take (Subtype.val t) (truthsM ((f, w, li), cs, ks) (everyM (Int.toNat w)))))) (popM (Prod.snd (List.getD (truthsM ((f, w, li), cs, ks) (everyM (Int.toNat w))) (nat_lit 0 + Int.toNat (↑(Subtype.val t) : Int)) ((0 : Int), (0 : Int)))))) =
                                                                    Value.int IntKind.i64 (Prod.snd (spanM (List.take (Subtype.val x) (truthsM ((f, w, li), cs, ks) (everyM (Int.toNat w)))))) ∧
                                                                  True) ∧
                                                              (Value.int IntKind.i64 (0 : Int) = Value.int IntKind.i64 (0 : Int) ∧ True) ∧ True ∧ True ∧ True ∧ True ∧ True ∧ True ∧ True ∧ True ∧ ((85 : TypeId) = (85 : TypeId) ∧ truthsM ((f, w, li), cs, ks) (everyM (Int.toNat w)) = truthsM ((f, w, li), cs, ks) (everyM (Int.toNat w))) ∧ True) ∧
                                                  List.length (truthsM ((f, w, li), cs, ks) (everyM (Int.toNat w))) - Subtype.val x < List.length (truthsM ((f, w, li), cs, ks) (everyM (Int.toNat w))) - Subtype.val t) ∧
                                (decide ((↑(Subtype.val t) : Int) < (↑(List.length (truthsM ((f, w, li), cs, ks) (everyM (Int.toNat w)))) : Int)) = false → True ∧ (Value.nilIface = Value.nilIface ∧ (nat_lit 0 = nat_lit 0 ∧ nat_lit 0 = nat_lit 0 ∧ nat_lit 0 = nat_lit 0) ∧ True) ∧ ((Value.int IntKind.i64 (0 : Int) = Value.int IntKind.i64 (0 : Int) ∧ True) ∧ True) ∧ True ∧ (((Value.int IntKind.i64 (Prod.fst (spanM (List.take (Subtype.val t) (truthsM ((f, w, li), cs, ks) (everyM (Int.toNat w)))))) = Value.int IntKind.i64 (Prod.fst (Prod.fst (liarsM ((f, w, li), cs, ks)))) ∧ Value.int IntKind.i64 (Prod.snd (spanM (List.take (Subtype.val t) (truthsM ((f, w, li), cs, ks) (everyM (Int.toNat w)))))) = Value.int IntKind.i64 (Prod.snd (Prod.fst (liarsM ((f, w, li), cs, ks)))) ∧ True) ∧ Value.int IntKind.i64 (0 : Int) = Value.int IntKind.i64 (Prod.snd (liarsM ((f, w, li), cs, ks))) ∧ True) ∧ True) ∧ True ∧ cs = cs ∧ ks = ks ∧ True)) ∧
                    (decide ((↑(List.length (allM ((f, w, li), ks, saysM cs (0 : Int), saysM cs (1 : Int), saysM cs (2 : Int), saysM cs (3 : Int), saysM cs (4 : Int), saysM cs (5 : Int)) (everyM (Int.toNat w)))) : Int) > (0 : Int)) = false → ((nat_lit 0 = nat_lit 0 ∧ nat_lit 0 = nat_lit 0 ∧ nat_lit 0 = nat_lit 0) ∧ True) ∧ ((Value.int IntKind.i64 f = Value.int IntKind.i64 f ∧ Value.int IntKind.i64 w = Value.int IntKind.i64 w ∧ Value.int IntKind.i64 li = Value.int IntKind.i64 li ∧ True ∧ (nat_lit 0 = nat_lit 0 ∧ nat_lit 0 = nat_lit 0 ∧ List.length ks = List.length ks) ∧ nat_lit 0 = nat_lit 0 ∧ True) ∧ ks = ks ∧ ((nat_lit 7 = nat_lit 7 ∧ nat_lit 0 = nat_lit 0 ∧ nat_lit 0 = nat_lit 0 ∧ List.length (saysM cs (0 : Int)) = List.length (saysM cs (0 : Int))) ∧ (nat_lit 8 = nat_lit 8 ∧ nat_lit 0 = nat_lit 0 ∧ nat_lit 0 = nat_lit 0 ∧ List.length (saysM cs (1 : Int)) = List.length (saysM cs (1 : Int))) ∧ (nat_lit 9 = nat_lit 9 ∧ nat_lit 0 = nat_lit 0 ∧ nat_lit 0 = nat_lit 0 ∧ List.length (saysM cs (2 : Int)) = List.length (saysM cs (2 : Int))) ∧ (nat_lit 10 = nat_lit 10 ∧ nat_lit 0 = nat_lit 0 ∧ nat_lit 0 = nat_lit 0 ∧ List.length (saysM cs (3 : Int)) = List.length (saysM cs (3 : Int))) ∧ (nat_lit 11 = nat_lit 11 ∧ nat_lit 0 = nat_lit 0 ∧ nat_lit 0 = nat_lit 0 ∧ List.length (saysM cs (4 : Int)) = List.length (saysM cs (4 : Int))) ∧ (nat_lit 12 = nat_lit 12 ∧ nat_lit 0 = nat_lit 0 ∧ nat_lit 0 = nat_lit 0 ∧ List.length (saysM cs (5 : Int)) = List.length (saysM cs (5 : Int))) ∧ True) ∧ saysM cs (0 : Int) = saysM cs (0 : Int) ∧ saysM cs (1 : Int) = saysM cs (1 : Int) ∧ saysM cs (2 : Int) = saysM cs (2 : Int) ∧ saysM cs (3 : Int) = saysM cs (3 : Int) ∧ saysM cs (4 : Int) = saysM cs (4 : Int) ∧ saysM cs (5 : Int) = saysM cs (5 : Int) ∧ True) ∧ True ∧ (((112 : TypeId) = (112 : TypeId) ∧ Value.int IntKind.i64 (10 : Int) = Value.int IntKind.i64 (10 : Int) ∧ True) ∧ (nat_lit 0 = nat_lit 0 ∧ nat_lit 0 = nat_lit 0 ∧ nat_lit 0 = nat_lit 0) ∧ True) ∧ ((Value.int IntKind.i64 (0 : Int) = Value.int IntKind.i64 (0 : Int) ∧ True) ∧ True) ∧ True ∧ (((Value.int IntKind.i64 (0 : Int) = Value.int IntKind.i64 (Prod.fst (Prod.fst (liarsM ((f, w, li), cs, ks)))) ∧ Value.int IntKind.i64 (0 : Int) = Value.int IntKind.i64 (Prod.snd (Prod.fst (liarsM ((f, w, li), cs, ks)))) ∧ True) ∧ Value.int IntKind.i64 (10 : Int) = Value.int IntKind.i64 (Prod.snd (liarsM ((f, w, li), cs, ks))) ∧ True) ∧ True) ∧ True ∧ cs = cs ∧ ks = ks ∧ True)) ∧
          ((hearM ((f, w, li), cs, ks) && true) = false → ((Value.int IntKind.i64 f = Value.int IntKind.i64 f ∧ Value.int IntKind.i64 w = Value.int IntKind.i64 w ∧ Value.int IntKind.i64 li = Value.int IntKind.i64 li ∧ (nat_lit 0 = nat_lit 0 ∧ nat_lit 0 = nat_lit 0 ∧ List.length cs = List.length cs) ∧ (nat_lit 0 = nat_lit 0 ∧ nat_lit 0 = nat_lit 0 ∧ List.length ks = List.length ks) ∧ True) ∧ Value.bool true = Value.bool true ∧ True) ∧ (cs = cs ∧ ks = ks ∧ True) ∧ True ∧ (((112 : TypeId) = (112 : TypeId) ∧ Value.int IntKind.i64 (openErrM ((f, w, li), cs, ks)) = Value.int IntKind.i64 (openErrM ((f, w, li), cs, ks)) ∧ True) ∧ (nat_lit 0 = nat_lit 0 ∧ nat_lit 0 = nat_lit 0 ∧ nat_lit 0 = nat_lit 0) ∧ True) ∧ ((Value.int IntKind.i64 (0 : Int) = Value.int IntKind.i64 (0 : Int) ∧ True) ∧ True) ∧ True ∧ (((Value.int IntKind.i64 (0 : Int) = Value.int IntKind.i64 (Prod.fst (Prod.fst (liarsM ((f, w, li), cs, ks)))) ∧ Value.int IntKind.i64 (0 : Int) = Value.int IntKind.i64 (Prod.snd (Prod.fst (liarsM ((f, w, li), cs, ks)))) ∧ True) ∧ Value.int IntKind.i64 (openErrM ((f, w, li), cs, ks)) = Value.int IntKind.i64 (Prod.snd (liarsM ((f, w, li), cs, ks))) ∧ True) ∧ True) ∧ True ∧ cs = cs ∧ ks = ks ∧ True))
    (by kernel_rfl) ?_
  simp only [liarsS, okH] at hl
  simp only [eq_self, true_and, and_true, Int.toNat_natCast, Nat.zero_add, Nat.sub_zero]
  have hA : allM ((f, w, li), ks, saysM cs 0, saysM cs 1, saysM cs 2, saysM cs 3, saysM cs 4, saysM cs 5) (everyM w.toNat) = allH ((f, w, li), cs, ks) := rfl
  have hA2 : truthsM ((f, w, li), cs, ks) (everyM w.toNat) = allH ((f, w, li), cs, ks) := rfl
  simp only [hA, hA2, true_and, and_true]
  refine ⟨hl, fun hh => ?_, fun hh => ?_⟩
  · rw [Bool.and_true] at hh
    have hk := hear_ok hh
    have hx := rt_ok hk
    have hok : ∀ t ∈ allH ((f, w, li), cs, ks), okT t := fun t ht => (mem_allM hx ht).1
    have hlen : (allH ((f, w, li), cs, ks)).length ≤ 5000 := preM_length _ hx _ _ _ (pow_le hx.f) (by decide)
    have hr : liarsM ((f, w, li), cs, ks) = if ((allH ((f, w, li), cs, ks)).length : Int) > 0 then (spanM (allH ((f, w, li), cs, ks)), 0) else ((0, 0), 10) := by
      unfold liarsM; rw [if_pos hh]
    rw [hr]
    generalize allH ((f, w, li), cs, ks) = A at *
    refine ⟨hx, fun hp => ⟨⟨⟨0, Nat.zero_le _⟩, by simp [spanM]⟩, fun t => ⟨fun ht => ?_, fun ht => ?_⟩⟩, fun hp => ?_⟩
    · obtain ⟨t, htl⟩ := t
      have hlt : t < A.length := by
        have h4 : ((t : Int)) < (A.length : Int) := of_decide_eq_true ht
        exact_mod_cast h4
      have hmem : A.getD t (0, 0) ∈ A := by rw [List.getD_eq_getElem?_getD, List.getElem?_eq_getElem hlt]; exact List.getElem_mem hlt
      have hw : IntKind.i64.wrap ((t : Int) + 1) = ((t + 1 : Nat) : Int) := by rw [wrap_id (by omega) (by omega)]; rfl
      refine ⟨⟨Int.natCast_nonneg _, by show (t : Int) < (A.length : Int); omega⟩, hlt, (hok _ hmem).2, ⟨t + 1, hlt⟩, ?_, dec1 hlt⟩
      simp only [span_take A t hlt (0, 0), hw, true_and]
    · have hta : t.1 = A.length := by
        have h2 : ¬ ((t.1 : Int)) < (A.length : Int) := of_decide_eq_false ht
        have : t.1 ≤ A.length := t.2
        omega
      rw [hta, List.take_length, if_pos (of_decide_eq_true hp)]
      simp
    · rw [if_neg (of_decide_eq_false hp)]
      exact ⟨⟨rfl, rfl⟩, rfl⟩
  · rw [Bool.and_true] at hh
    have hr : liarsM ((f, w, li), cs, ks) = ((0, 0), openErrM ((f, w, li), cs, ks)) := by
      unfold liarsM; rw [if_neg (by rw [hh]; simp), openErrM, if_neg (by rw [hh]; simp)]
    rw [hr]
    exact ⟨⟨rfl, rfl⟩, rfl⟩

theorem liars_sound : Sound Try.prog 22 liarsS.con := FSpec.sound _ (enter_of Try.func22 (by kernel_rfl) (by kernel_rfl)) liars_ok

end AE.Pr
