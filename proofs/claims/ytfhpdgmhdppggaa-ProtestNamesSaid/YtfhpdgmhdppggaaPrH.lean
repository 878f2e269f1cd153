/- The layer 'protest': First. No condition. -/
import Derived.Test.YtfhpdgmhdppggaaPrG
namespace AE.Pr
open Go AE Go.Proofs

theorem popM_le (a : Int) : 0 ≤ popM a ∧ popM a ≤ 6 := by
  unfold popM
  have := List.length_filter_le (fun i => a.toNat.testBit i) (List.range 6)
  rw [List.length_range] at this
  omega
/-! ### First's closure -/
def fewerS : FSpec UU where
  X := (Int × Int) × (Int × Int)
  pick := fun args _ => match args with
    | [a, b] => match avT a, avT b with
      | some a, some b => some (a, b)
      | _, _ => none
    | _ => none
  args := fun x => [vT x.1, vT x.2]
  H := fun _ => []
  R := fun x => .val ⟨.i (popM x.1.2 - popM x.2.2), [], [], []⟩
  pre := fun x => okT x.1 ∧ okT x.2
def Tfewer : Tab UU := [(60, popS.con)]
theorem Tfewer_ok : Tfewer.Sound Try.prog := .cons size_sound .nil
set_option maxRecDepth 100000 in
theorem fewer_ok : ∀ x, fewerS.pre x → FunOk Try.prog 63 (fewerS.args x) (fewerS.H x) (fewerS.R x) := by
  rintro ⟨⟨a, b⟩, ⟨c, d⟩⟩ h
  refine fun_of (T := Tfewer) (L := fun _ => none) (hs := fun _ => []) hmix Tfewer_ok Try.func63 (by kernel_rfl) (by kernel_rfl) ?_
  refine Eq.mp (α :=
      ((0 : Int) ≤ b ∧ b < (64 : Int)) ∧ (Value.int IntKind.u64 b = Value.int IntKind.u64 b ∧ True) ∧ True ∧ ((0 : Int) ≤ d ∧ d < (64 : Int)) ∧ (Value.int IntKind.u64 d = Value.int IntKind.u64 d ∧ True) ∧ True ∧ True ∧ (Value.int IntKind.i64 (IntKind.wrap IntKind.i64 (popM b - popM d)) = Value.int IntKind.i64 (popM b - popM d) ∧ True) ∧ True ∧ True)
    (by kernel_rfl) ?_
  have h1 := popM_le b
  have h2 := popM_le d
  have h3 : W (popM b - popM d) = popM b - popM d := wrap_id (by omega) (by omega)
  have h4 := h.1.2
  have h5 := h.2.2
  simp_all

theorem fewer_sound : Sound Try.prog 63 fewerS.con := FSpec.sound _ (enter_of Try.func63 (by kernel_rfl) (by kernel_rfl)) fewer_ok

/-! ### MinFunc -/
def minStep (m t : Int × Int) : Int × Int := if popM t.2 < popM m.2 then t else m
def firstM (l : List (Int × Int)) : Int × Int := (l.drop 1).foldl minStep (l.getD 0 (0, 0))
theorem first_take (l : List (Int × Int)) (i : Nat) (h0 : 1 ≤ i) (h : i < l.length) : firstM (l.take (i + 1)) = minStep (firstM (l.take i)) (l.getD i (0, 0)) := by
  rw [take_snoc l i h (0, 0)]
  have h1 : (l.take i).length = i := by rw [List.length_take]; omega
  unfold firstM
  rw [List.drop_append_of_le_length (by omega), List.foldl_append]
  rw [show (List.take i l ++ [l.getD i (0, 0)]).getD 0 (0, 0) = (List.take i l).getD 0 (0, 0) by rw [List.getD_eq_getElem?_getD, List.getD_eq_getElem?_getD, List.getElem?_append_left (by omega)]; rfl]
  rfl
theorem first_mem (l : List (Int × Int)) (h : 0 < l.length) : firstM l ∈ l := by
  have key : ∀ (q : List (Int × Int)) (m : Int × Int), m ∈ l → (∀ t ∈ q, t ∈ l) → q.foldl minStep m ∈ l := by
    intro q
    induction q with
    | nil => intro m hm _; exact hm
    | cons a q ih =>
      intro m hm hq
      refine ih _ ?_ fun t ht => hq t (List.mem_cons_of_mem _ ht)
      unfold minStep
      split
      · exact hq a (List.mem_cons_self ..)
      · exact hm
  refine key _ _ ?_ fun t ht => List.mem_of_mem_drop ht
  rw [List.getD_eq_getElem?_getD, List.getElem?_eq_getElem h]
  exact List.getElem_mem h
def minL (l : List (Int × Int)) : LSpec UU where
  T := { i : Nat // 1 ≤ i ∧ i ≤ l.length }
  fr := fun i => [(0, .sl 0 0 0 l.length), (1, .fn (.func 63) [] []), (4, .ptr 1 0 0 0), (5, .ptr 2 0 0 0), (6, .i i.1)]
  H := fun i => [.one (.ro .truth l), .one (.cells [AV.u 0, AV.u 0] 85), .one (.cells [AV.u (firstM (l.take i.1)).1, AV.u (firstM (l.take i.1)).2] 85)]
  mu := fun i => l.length - i.1
def minS : FSpec UU where
  X := List (Int × Int)
  pick := fun args H => match args with
    | [a, .fn (.func 63) [] []] => sliceAt .truth H a
    | _ => none
  args := fun (x : List (Int × Int)) => [.sl 0 0 0 x.length, .fn (.func 63) [] []]
  H := fun x => [.one (.ro .truth x)]
  R := fun x => .val ⟨.agg [AV.u (firstM x).1, AV.u (firstM x).2], [], [], []⟩
  pre := fun (x : List (Int × Int)) => (0 < x.length ∧ x.length ≤ 5000) ∧ ∀ t ∈ x, okT t
def Tmin : Tab UU := [(63, fewerS.con)]
theorem Tmin_ok : Tmin.Sound Try.prog := .cons fewer_sound .nil
set_option maxHeartbeats 0 in
set_option maxRecDepth 100000 in
theorem min_ok : ∀ x, minS.pre x → FunOk Try.prog 62 (minS.args x) (minS.H x) (minS.R x) := by
  intro (l : List (Int × Int)) hl
  refine fun_of (T := Tmin) (L := fun _ => some (.inv (minL l))) (hs := fun _ => []) hmix Tmin_ok Try.func62 (by kernel_rfl) (by kernel_rfl) ?_
  refine Eq.mp (α :=
      (decide ((↑(List.length l) : Int) < (1 : Int)) = true → False) ∧ (decide ((↑(List.length l) : Int) < (1 : Int)) = false → ((0 : Int) ≤ (0 : Int) ∧ (0 : Int) < (↑(List.length l) : Int)) ∧ nat_lit 0 < List.length l ∧ (∃ (x : { i : Nat // (1 : Nat) ≤ i ∧ i ≤ List.length l }), ((nat_lit 0 = nat_lit 0 ∧ nat_lit 0 = nat_lit 0 ∧ List.length l = List.length l) ∧ (Fn.func (63 : FuncId) = Fn.func (63 : FuncId) ∧ True ∧ True) ∧ (nat_lit 0 = nat_lit 0 ∧ nat_lit 0 = nat_lit 0 ∧ nat_lit 0 = nat_lit 0) ∧ (nat_lit 0 = nat_lit 0 ∧ nat_lit 0 = nat_lit 0 ∧ nat_lit 0 = nat_lit 0) ∧ Value.int IntKind.i64 (1 : Int) = Value.int IntKind.i64 (↑(Subtype.val x) : Int) ∧ True) ∧ True ∧ l = l ∧ (Value.int IntKind.u64 (0 : Int) = Value.int IntKind.u64 (0 : Int) ∧ Value.int IntKind.u64 (0 : Int) = Value.int IntKind.u64 (0 : Int) ∧ True) ∧ (Value.int IntKind.u64 (Prod.fst (List.getD l (nat_lit 0) ((0 : Int), (0 : Int)))) = Value.int IntKind.u64 (Prod.fst (firstM (List.take (Subtype.val x) l))) ∧ Value.int IntKind.u64 (Prod.snd (List.getD l (nat_lit 0) ((0 : Int), (0 : Int)))) = Value.int IntKind.u64 (Prod.snd (firstM (List.take (Subtype.val x) l))) ∧ True) ∧ True) ∧ ∀ (t : { i : Nat // (1 : Nat) ≤ i ∧ i ≤ List.length l }), (decide ((↑(Subtype.val t) : Int) < (↑(List.length l) : Int)) = true → ((0 : Int) ≤ (↑(Subtype.val t) : Int) ∧ (↑(Subtype.val t) : Int) < (↑(List.length l) : Int)) ∧ nat_lit 0 + Int.toNat (↑(Subtype.val t) : Int) < List.length l ∧ ((((0 : Int) ≤ Prod.fst (List.getD l (nat_lit 0 + Int.toNat (↑(Subtype.val t) : Int)) ((0 : Int), (0 : Int))) ∧ Prod.fst (List.getD l (nat_lit 0 + Int.toNat (↑(Subtype.val t) : Int)) ((0 : Int), (0 : Int))) < (64 : Int)) ∧ (0 : Int) ≤ Prod.snd (List.getD l (nat_lit 0 + Int.toNat (↑(Subtype.val t) : Int)) ((0 : Int), (0 : Int))) ∧ Prod.snd (List.getD l (nat_lit 0 + Int.toNat (↑(Subtype.val t) : Int)) ((0 : Int), (0 : Int))) < (64 : Int)) ∧ ((0 : Int) ≤ Prod.fst (firstM (List.take (Subtype.val t) l)) ∧ Prod.fst (firstM (List.take (Subtype.val t) l)) < (64 : Int)) ∧ (0 : Int) ≤ Prod.snd (firstM (List.take (Subtype.val t) l)) ∧ Prod.snd (firstM (List.take (Subtype.val t) l)) < (64 : Int)) ∧ ((Value.int IntKind.u64 (Prod.fst (List.getD l (nat_lit 0 + Int.toNat (↑(Subtype.val t) : Int)) ((0 : Int), (0 : Int)))) = Value.int IntKind.u64 (Prod.fst (List.getD l (nat_lit 0 + Int.toNat (↑(Subtype.val t) : Int)) ((0 : Int), (0 : Int)))) ∧ Value.int IntKind.u64 (Prod.snd (List.getD l (nat_lit 0 + Int.toNat (↑(Subtype.val t) : Int)) ((0 : Int), (0 : Int)))) = Value.int IntKind.u64 (Prod.snd (List.getD l (nat_lit 0 + Int.toNat (↑(Subtype.val t) : Int)) ((0 : Int), (0 : Int)))) ∧ True) ∧ (Value.int IntKind.u64 (Prod.fst (firstM (List.take (Subtype.val t) l))) = Value.int IntKind.u64 (Prod.fst (firstM (List.take (Subtype.val t) l))) ∧ Value.int IntKind.u64 (Prod.snd (firstM (List.take (Subtype.val t) l))) = Value.int IntKind.u64 (Prod.snd (firstM (List.take (Subtype.val t) l))) ∧ True) ∧ True) ∧ True ∧ (decide (popM (Prod.snd (List.getD l (nat_lit 0 + Int.toNat (↑(Subtype.val t) : Int)) ((0 : Int), (0 : Int)))) - popM (Prod.snd (firstM (List.take (Subtype.val t) l))) < (0 : Int)) = true → ((0 : Int) ≤ (↑(Subtype.val t) : Int) ∧ (↑(Subtype.val t) : Int) < (↑(List.length l) : Int)) ∧ nat_lit 0 + Int.toNat (↑(Subtype.val t) : Int) < List.length l ∧ True ∧ ∃ (x : { i : Nat // (1 : Nat) ≤ i ∧ i ≤ List.length l }), (((nat_lit 0 = nat_lit 0 ∧ nat_lit 0 = nat_lit 0 ∧ List.length l = List.length l) ∧ (Fn.func (63 : FuncId) = Fn.func (63 : FuncId) ∧ True ∧ True) ∧ (nat_lit 0 = nat_lit 0 ∧ nat_lit 0 = nat_lit 0 ∧ nat_lit 0 = nat_lit 0) ∧ (nat_lit 0 = nat_lit 0 ∧ nat_lit 0 = nat_lit 0 ∧ nat_lit 0 = nat_lit 0) ∧ Value.int IntKind.i64 (IntKind.wrap IntKind.i64 ((↑(Subtype.val t) : Int) + (1 : Int))) = Value.int IntKind.i64 (↑(Subtype.val x) : Int) ∧ True) ∧ True ∧ l = l ∧ (Value.int IntKind.u64 (0 : Int) = Value.int IntKind.u64 (0 : Int) ∧ Value.int IntKind.u64 (0 : Int) = Value.int IntKind.u64 (0 : Int) ∧ True) ∧ (Value.int IntKind.u64 (Prod.fst (List.getD l (nat_lit 0 + Int.toNat (↑(Subtype.val t) : Int)) ((0 : Int), (0 : Int)))) = Value.int IntKind.u64 (Prod.fst (firstM (List.take (Subtype.val x) l))) ∧ Value.int IntKind.u64 (Prod.snd (List.getD l (nat_lit 0 + Int.toNat (↑(Subtype.val t) : Int)) ((0 : Int), (0 : Int)))) = Value.int IntKind.u64 (Prod.snd (firstM (List.take (Subtype.val x) l))) ∧ True) ∧ True) ∧ List.length l - Subtype.val x < List.length l - Subtype.val t) ∧ (decide (popM (Prod.snd (List.getD l (nat_lit 0 + Int.toNat (↑(Subtype.val t) : Int)) ((0 : Int), (0 : Int)))) - popM (Prod.snd (firstM (List.take (Subtype.val t) l))) < (0 : Int)) = false → True ∧ ∃ (x : { i : Nat // (1 : Nat) ≤ i ∧ i ≤ List.length l }), (((nat_lit 0 = nat_lit 0 ∧ nat_lit 0 = nat_lit 0 ∧ List.length l = List.length l) ∧ (Fn.func (63 : FuncId) = Fn.func (63 : FuncId) ∧ True ∧ True) ∧ (nat_lit 0 = nat_lit 0 ∧ nat_lit 0 = nat_lit 0 ∧ nat_lit 0 = nat_lit 0) ∧ (nat_lit 0 = nat_lit 0 ∧ nat_lit 0 = nat_lit 0 ∧ nat_lit 0 = nat_lit 0) ∧ Value.int IntKind.i64 (IntKind.wrap IntKind.i64 ((↑(Subtype.val t) : Int) + (1 : Int))) = Value.int IntKind.i64 (↑(Subtype.val x) : Int) ∧ True) ∧ True ∧ l = l ∧ (Value.int IntKind.u64 (0 : Int) = Value.int IntKind.u64 (0 : Int) ∧ Value.int IntKind.u64 (0 : Int) = Value.int IntKind.u64 (0 : Int) ∧ True) ∧ (Value.int IntKind.u64 (Prod.fst (firstM (List.take (Subtype.val t) l))) = Value.int IntKind.u64 (Prod.fst (firstM (List.take (Subtype.val x) l))) ∧ Value.int IntKind.u64 (Prod.snd (firstM (List.take (Subtype.val t) l))) = Value.int IntKind.u64 (Prod.snd (firstM (List.take (Subtype.val x) l))) ∧ True) ∧ True) ∧ List.length l - Subtype.val x < List.length l - Subtype.val t)) ∧ (decide ((↑(Subtype.val t) : Int) < (↑(List.length l) : Int)) = false → True ∧ ((Value.int IntKind.u64 (Prod.fst (firstM (List.take (Subtype.val t) l))) = Value.int IntKind.u64 (Prod.fst (firstM l)) ∧ Value.int IntKind.u64 (Prod.snd (firstM (List.take (Subtype.val t) l))) = Value.int IntKind.u64 (Prod.snd (firstM l)) ∧ True) ∧ True) ∧ True ∧ l = l ∧ True)))
    (by kernel_rfl) ?_
  simp only [minS] at hl
  obtain ⟨⟨hl0, hl1⟩, hok⟩ := hl
  have hg : ∀ i, i < l.length → okT (l.getD i (0, 0)) := fun i hi => hok _ (by rw [List.getD_eq_getElem?_getD, List.getElem?_eq_getElem hi]; exact List.getElem_mem hi)
  have hf1 : firstM (l.take 1) = l.getD 0 (0, 0) := by cases l with | nil => simp at hl0 | cons a l => rfl
  simp only [eq_self, true_and, and_true, Int.toNat_natCast, Nat.zero_add, Nat.sub_zero]
  refine ⟨fun h => ?_, fun _ => ⟨⟨by decide, by omega⟩, hl0, ⟨⟨1, by decide, hl0⟩, rfl, congrArg (fun t : Int × Int => Value.int .u64 t.1) hf1.symm, congrArg (fun t : Int × Int => Value.int .u64 t.2) hf1.symm⟩, fun t => ⟨fun ht => ?_, fun ht => ?_⟩⟩⟩
  · have h2 : (l.length : Int) < 1 := of_decide_eq_true h
    omega
  · obtain ⟨t, ht1, htl⟩ := t
    have hlt : t < l.length := by
      have h4 : ((t : Int)) < (l.length : Int) := of_decide_eq_true ht
      exact_mod_cast h4
    have hw : IntKind.i64.wrap ((t : Int) + 1) = ((t + 1 : Nat) : Int) := by rw [wrap_id (by omega) (by omega)]; rfl
    have hft : okT (firstM (l.take t)) := hok _ (List.mem_of_mem_take (first_mem (l.take t) (by rw [List.length_take]; omega)))
    have hs := first_take l t ht1 hlt
    refine ⟨⟨Int.natCast_nonneg _, by show (t : Int) < (l.length : Int); omega⟩, hlt, ⟨hg t hlt, hft⟩, fun hd => ?_, fun hd => ?_⟩
    · have hd2 : popM (l.getD t (0, 0)).2 - popM (firstM (l.take t)).2 < 0 := of_decide_eq_true hd
      have hm : firstM (l.take (t + 1)) = l.getD t (0, 0) := by rw [hs, minStep, if_pos (by omega)]
      exact ⟨⟨Int.natCast_nonneg _, by show (t : Int) < (l.length : Int); omega⟩, hlt, ⟨t + 1, by omega, hlt⟩, ⟨congrArg _ hw, congrArg (fun t : Int × Int => Value.int .u64 t.1) hm.symm, congrArg (fun t : Int × Int => Value.int .u64 t.2) hm.symm⟩, dec1 hlt⟩
    · have hd2 : ¬ popM (l.getD t (0, 0)).2 - popM (firstM (l.take t)).2 < 0 := of_decide_eq_false hd
      have hm : firstM (l.take (t + 1)) = firstM (l.take t) := by rw [hs, minStep, if_neg (by omega)]
      exact ⟨⟨t + 1, by omega, hlt⟩, ⟨congrArg _ hw, congrArg (fun t : Int × Int => Value.int .u64 t.1) hm.symm, congrArg (fun t : Int × Int => Value.int .u64 t.2) hm.symm⟩, dec1 hlt⟩
  · have hta : t.1 = l.length := by
      have h2 : ¬ ((t.1 : Int)) < (l.length : Int) := of_decide_eq_false ht
      have : t.1 ≤ l.length := t.2.2
      omega
    rw [hta, List.take_length]
    exact ⟨rfl, rfl⟩

theorem min_sound : Sound Try.prog 62 minS.con := FSpec.sound _ (enter_of Try.func62 (by kernel_rfl) (by kernel_rfl)) min_ok

/-! ### First -/
def firstHM (x : HT) : (Int × Int) × Int := if hearM x then (if ((allH x).length : Int) > 0 then (firstM (allH x), 0) else ((0, 0), 10)) else ((0, 0), 1)
def firstS : FSpec UU where
  X := HT
  pick := fun args H => match args with
    | [a] => avH H a
    | _ => none
  args := fun x => [vH x]
  H := fun x => hH x
  R := fun x => .val ⟨.tup [.i (firstHM x).1.1, .i (firstHM x).1.2, .i (firstHM x).2], [], [], []⟩
  pre := fun x => okH x
def Tfirst : Tab UU := [(49, openS.con), (57, allS.con), (62, minS.con), (48, caughtS.con)]
theorem Tfirst_ok : Tfirst.Sound Try.prog := .cons open_sound (.cons all_sound (.cons min_sound (.cons caught_sound .nil)))
set_option maxHeartbeats 0 in
set_option maxRecDepth 100000 in
theorem firstF_ok : ∀ x, firstS.pre x → FunOk Try.prog 24 (firstS.args x) (firstS.H x) (firstS.R x) := by
  rintro ⟨⟨f, w, li⟩, cs, ks⟩ hl
  refine fun_ofG (T := Tfirst) (L := fun _ => none) (hs := fun _ => []) (sp := fun _ => none) hmix Tfirst_ok (tl := toldL 61) (toldL_ok told61) (it := fun _ => none) (fun _ _ h => by cases h) Try.func24 (by kernel_rfl) (by kernel_rfl) ?_
  refine Eq.mp (α :=
      (List.length cs < nat_lit 1000 ∧ List.length ks < nat_lit 1000) ∧ ((hearM ((f, w, li), cs, ks) && true) = true → ((Value.int IntKind.i64 f = Value.int IntKind.i64 f ∧ Value.int IntKind.i64 w = Value.int IntKind.i64 w ∧ Value.int IntKind.i64 li = Value.int IntKind.i64 li ∧ (nat_lit 0 = nat_lit 0 ∧ nat_lit 0 = nat_lit 0 ∧ List.length cs = List.length cs) ∧ (nat_lit 0 = nat_lit 0 ∧ nat_lit 0 = nat_lit 0 ∧ List.length ks = List.length ks) ∧ True) ∧ Value.bool true = Value.bool true ∧ True) ∧ (cs = cs ∧ ks = ks ∧ True) ∧ RtOk ((f, w, li), ks, saysM cs (0 : Int), saysM cs (1 : Int), saysM cs (2 : Int), saysM cs (3 : Int), saysM cs (4 : Int), saysM cs (5 : Int)) ∧ (decide ((↑(List.length (allM ((f, w, li), ks, saysM cs (0 : Int), saysM cs (1 : Int), saysM cs (2 : Int), saysM cs (3 : Int), saysM cs (4 : Int), saysM cs (5 : Int)) (everyM (Int.toNat w)))) : Int) > (0 : Int)) = true → ((nat_lit 0 = nat_lit 0 ∧ nat_lit 0 = nat_lit 0 ∧ nat_lit 0 = nat_lit 0) ∧ True) ∧ ((Value.int IntKind.i64 f = Value.int IntKind.i64 f ∧ Value.int IntKind.i64 w = Value.int IntKind.i64 w ∧ Value.int IntKind.i64 li = Value.int IntKind.i64 li ∧ True ∧ (nat_lit 0 = nat_lit 0 ∧ nat_lit 0 = nat_lit 0 ∧ List.length ks = List.length ks) ∧ nat_lit 0 = nat_lit 0 ∧ True) ∧ ks = ks ∧ ((nat_lit 6 = nat_lit 6 ∧ nat_lit 0 = nat_lit 0 ∧ nat_lit 0 = nat_lit 0 ∧ List.length (saysM cs (0 : Int)) = List.length (saysM cs (0 : Int))) ∧ (nat_lit 7 = nat_lit 7 ∧ nat_lit 0 = nat_lit 0 ∧ nat_lit 0 = nat_lit 0 ∧ List.length (saysM cs (1 : Int)) = List.length (saysM cs (1 : Int))) ∧ (nat_lit 8 = nat_lit 8 ∧ nat_lit 0 = nat_lit 0 ∧ nat_lit 0 = nat_lit 0 ∧ List.length (saysM cs (2 : Int)) = List.length (saysM cs (2 : Int))) ∧ (nat_lit 9 = nat_lit 9 ∧ nat_lit 0 = nat_lit 0 ∧ nat_lit 0 = nat_lit 0 ∧ List.length (saysM cs (3 : Int)) = List.length (saysM cs (3 : Int))) ∧ (nat_lit 10 = nat_lit 10 ∧ nat_lit 0 = nat_lit 0 ∧ nat_lit 0 = nat_lit 0 ∧ List.length (saysM cs (4 : Int)) = List.length (saysM cs (4 : Int))) ∧ (nat_lit 11 = nat_lit 11 ∧ nat_lit 0 = nat_lit 0 ∧ nat_lit 0 = nat_lit 0 ∧ List.length (saysM cs (5 : Int)) = List.length (saysM cs (5 : Int))) ∧ True) ∧ saysM cs (0 : Int) = saysM cs (0 : Int) ∧ saysM cs (1 : Int) = saysM cs (1 : Int) ∧ saysM cs (2 : Int) = saysM cs (2 : Int) ∧ saysM cs (3 : Int) = saysM cs (3 : Int) ∧ saysM cs (4 : Int) = saysM cs (4 : Int) ∧ saysM cs (5 : Int) = saysM cs (5 : Int) ∧ True) ∧ ((nat_lit 0 < List.length (allM ((f, w, li), ks, saysM cs (0 : Int), saysM cs (1 : Int), saysM cs (2 : Int), saysM cs (3 : Int), saysM cs (4 : Int), saysM cs (5 : Int)) (everyM (Int.toNat w))) ∧ List.length (allM ((f, w, li), ks, saysM cs (0 : Int), saysM cs (1 : Int), saysM cs (2 : Int), saysM cs (3 : Int), saysM cs (4 : Int), saysM cs (5 : Int)) (everyM (Int.toNat w))) ≤ nat_lit 5000) ∧ ∀ (t : Int × Int), t ∈ allM ((f, w, li), ks, saysM cs (0 : Int), saysM cs (1 : Int), saysM cs (2 : Int), saysM cs (3 : Int), saysM cs (4 : Int), saysM cs (5 : Int)) (everyM (Int.toNat w)) → ((0 : Int) ≤ Prod.fst t ∧ Prod.fst t < (64 : Int)) ∧ (0 : Int) ≤ Prod.snd t ∧ Prod.snd t < (64 : Int)) ∧ ((nat_lit 12 = nat_lit 12 ∧ nat_lit 0 = nat_lit 0 ∧ nat_lit 0 = nat_lit 0 ∧ List.length (allM ((f, w, li), ks, saysM cs (0 : Int), saysM cs (1 : Int), saysM cs (2 : Int), saysM cs (3 : Int), saysM cs (4 : Int), saysM cs (5 : Int)) (everyM (Int.toNat w))) = List.length (allM ((f, w, li), ks, saysM cs (0 : Int), saysM cs (1 : Int), saysM cs (2 : Int), saysM cs (3 : Int), saysM cs (4 : Int), saysM cs (5 : Int)) (everyM (Int.toNat w)))) ∧ (Fn.func (nat_lit 63) = Fn.func (63 : FuncId) ∧ True ∧ True) ∧ True) ∧ (allM ((f, w, li), ks, saysM cs (0 : Int), saysM cs (1 : Int), saysM cs (2 : Int), saysM cs (3 : Int), saysM cs (4 : Int), saysM cs (5 : Int)) (everyM (Int.toNat w)) = allM ((f, w, li), ks, saysM cs (0 : Int), saysM cs (1 : Int), saysM cs (2 : Int), saysM cs (3 : Int), saysM cs (4 : Int), saysM cs (5 : Int)) (everyM (Int.toNat w)) ∧ True) ∧ True ∧ (Value.nilIface = Value.nilIface ∧ (nat_lit 0 = nat_lit 0 ∧ nat_lit 0 = nat_lit 0 ∧ nat_lit 0 = nat_lit 0) ∧ True) ∧ ((Value.int IntKind.i64 (0 : Int) = Value.int IntKind.i64 (0 : Int) ∧ True) ∧ True) ∧ True ∧ ((Value.int IntKind.i64 (IntKind.wrap IntKind.i64 (Prod.fst (firstM (allM ((f, w, li), ks, saysM cs (0 : Int), saysM cs (1 : Int), saysM cs (2 : Int), saysM cs (3 : Int), saysM cs (4 : Int), saysM cs (5 : Int)) (everyM (Int.toNat w)))))) = Value.int IntKind.i64 (Prod.fst (Prod.fst (firstHM ((f, w, li), cs, ks)))) ∧ Value.int IntKind.i64 (IntKind.wrap IntKind.i64 (Prod.snd (firstM (allM ((f, w, li), ks, saysM cs (0 : Int), saysM cs (1 : Int), saysM cs (2 : Int), saysM cs (3 : Int), saysM cs (4 : Int), saysM cs (5 : Int)) (everyM (Int.toNat w)))))) = Value.int IntKind.i64 (Prod.snd (Prod.fst (firstHM ((f, w, li), cs, ks)))) ∧ Value.int IntKind.i64 (0 : Int) = Value.int IntKind.i64 (Prod.snd (firstHM ((f, w, li), cs, ks))) ∧ True) ∧ True) ∧ True ∧ cs = cs ∧ ks = ks ∧ True) ∧ (decide ((↑(List.length (allM ((f, w, li), ks, saysM cs (0 : Int), saysM cs (1 : Int), saysM cs (2 : Int), saysM cs (3 : Int), saysM cs (4 : Int), saysM cs (5 : Int)) (everyM (Int.toNat w)))) : Int) > (0 : Int)) = false → ((nat_lit 0 = nat_lit 0 ∧ nat_lit 0 = nat_lit 0 ∧ nat_lit 0 = nat_lit 0) ∧ True) ∧ ((Value.int IntKind.i64 f = Value.int IntKind.i64 f ∧ Value.int IntKind.i64 w = Value.int IntKind.i64 w ∧ Value.int IntKind.i64 li = Value.int IntKind.i64 li ∧ True ∧ (nat_lit 0 = nat_lit 0 ∧ nat_lit 0 = nat_lit 0 ∧ List.length ks = List.length ks) ∧ nat_lit 0 = nat_lit 0 ∧ True) ∧ ks = ks ∧ ((nat_lit 6 = nat_lit 6 ∧ nat_lit 0 = nat_lit 0 ∧ nat_lit 0 = nat_lit 0 ∧ List.length (saysM cs (0 : Int)) = List.length (saysM cs (0 : Int))) ∧ (nat_lit 7 = nat_lit 7 ∧ nat_lit 0 = nat_lit 0 ∧ nat_lit 0 = nat_lit 0 ∧ List.length (saysM cs (1 : Int)) = List.length (saysM cs (1 : Int))) ∧ (nat_lit 8 = nat_lit 8 ∧ nat_lit 0 = nat_lit 0 ∧ nat_lit 0 = nat_lit 0 ∧ List.length (saysM cs (2 : Int)) = List.length (saysM cs (2 : Int))) ∧ (nat_lit 9 = nat_lit 9 ∧ nat_lit 0 = nat_lit 0 ∧ nat_lit 0 = nat_lit 0 ∧ List.length (saysM cs (3 : Int)) = List.length (saysM cs (3 : Int))) ∧ (nat_lit 10 = nat_lit 10 ∧ nat_lit 0 = nat_lit 0 ∧ nat_lit 0 = nat_lit 0 ∧ List.length (saysM cs (4 : Int)) = List.length (saysM cs (4 : Int))) ∧ (nat_lit 11 = nat_lit 11 ∧ nat_lit 0 = nat_lit 0 ∧ nat_lit 0 = nat_lit 0 ∧ List.length (saysM cs (5 : Int)) = List.length (saysM cs (5 : Int))) ∧ True) ∧ saysM cs (0 : Int) = saysM cs (0 : Int) ∧ saysM cs (1 : Int) = saysM cs (1 : Int) ∧ saysM cs (2 : Int) = saysM cs (2 : Int) ∧ saysM cs (3 : Int) = saysM cs (3 : Int) ∧ saysM cs (4 : Int) = saysM cs (4 : Int) ∧ saysM cs (5 : Int) = saysM cs (5 : Int) ∧ True) ∧ True ∧ (((112 : TypeId) = (112 : TypeId) ∧ Value.int IntKind.i64 (10 : Int) = Value.int IntKind.i64 (10 : Int) ∧ True) ∧ (nat_lit 0 = nat_lit 0 ∧ nat_lit 0 = nat_lit 0 ∧ nat_lit 0 = nat_lit 0) ∧ True) ∧ ((Value.int IntKind.i64 (0 : Int) = Value.int IntKind.i64 (0 : Int) ∧ True) ∧ True) ∧ True ∧ ((Value.int IntKind.i64 (0 : Int) = Value.int IntKind.i64 (Prod.fst (Prod.fst (firstHM ((f, w, li), cs, ks)))) ∧ Value.int IntKind.i64 (0 : Int) = Value.int IntKind.i64 (Prod.snd (Prod.fst (firstHM ((f, w, li), cs, ks)))) ∧ Value.int IntKind.i64 (10 : Int) = Value.int IntKind.i64 (Prod.snd (firstHM ((f, w, li), cs, ks))) ∧ True) ∧ True) ∧ True ∧ cs = cs ∧ ks = ks ∧ True)) ∧ ((hearM ((f, w, li), cs, ks) && true) = false → ((Value.int IntKind.i64 f = Value.int IntKind.i64 f ∧ Value.int IntKind.i64 w = Value.int IntKind.i64 w ∧ Value.int IntKind.i64 li = Value.int IntKind.i64 li ∧ (nat_lit 0 = nat_lit 0 ∧ nat_lit 0 = nat_lit 0 ∧ List.length cs = List.length cs) ∧ (nat_lit 0 = nat_lit 0 ∧ nat_lit 0 = nat_lit 0 ∧ List.length ks = List.length ks) ∧ True) ∧ Value.bool true = Value.bool true ∧ True) ∧ (cs = cs ∧ ks = ks ∧ True) ∧ True ∧ (((112 : TypeId) = (112 : TypeId) ∧ Value.int IntKind.i64 (openErrM ((f, w, li), cs, ks)) = Value.int IntKind.i64 (openErrM ((f, w, li), cs, ks)) ∧ True) ∧ (nat_lit 0 = nat_lit 0 ∧ nat_lit 0 = nat_lit 0 ∧ nat_lit 0 = nat_lit 0) ∧ True) ∧ ((Value.int IntKind.i64 (0 : Int) = Value.int IntKind.i64 (0 : Int) ∧ True) ∧ True) ∧ True ∧ ((Value.int IntKind.i64 (0 : Int) = Value.int IntKind.i64 (Prod.fst (Prod.fst (firstHM ((f, w, li), cs, ks)))) ∧ Value.int IntKind.i64 (0 : Int) = Value.int IntKind.i64 (Prod.snd (Prod.fst (firstHM ((f, w, li), cs, ks)))) ∧ Value.int IntKind.i64 (openErrM ((f, w, li), cs, ks)) = Value.int IntKind.i64 (Prod.snd (firstHM ((f, w, li), cs, ks))) ∧ True) ∧ True) ∧ True ∧ cs = cs ∧ ks = ks ∧ True))
    (by kernel_rfl) ?_
  simp only [firstS, okH] at hl
  simp only [eq_self, true_and, and_true, Int.toNat_natCast, Nat.zero_add, Nat.sub_zero]
  have hA : allM ((f, w, li), ks, saysM cs 0, saysM cs 1, saysM cs 2, saysM cs 3, saysM cs 4, saysM cs 5) (everyM w.toNat) = allH ((f, w, li), cs, ks) := rfl
  simp only [hA, true_and, and_true]
  refine ⟨hl, fun hh => ?_, fun hh => ?_⟩
  · rw [Bool.and_true] at hh
    have hk := hear_ok hh
    have hx := rt_ok hk
    have hok : ∀ t ∈ allH ((f, w, li), cs, ks), okT t := fun t ht => (mem_allM hx ht).1
    have hlen : (allH ((f, w, li), cs, ks)).length ≤ 5000 := preM_length _ hx _ _ _ (pow_le hx.f) (by decide)
    have hr : firstHM ((f, w, li), cs, ks) = if ((allH ((f, w, li), cs, ks)).length : Int) > 0 then (firstM (allH ((f, w, li), cs, ks)), 0) else ((0, 0), 10) := by
      unfold firstHM; rw [if_pos hh]
    rw [hr]
    generalize allH ((f, w, li), cs, ks) = A at *
    refine ⟨hx, fun hp => ?_, fun hp => ?_⟩
    · have hp2 : (A.length : Int) > 0 := of_decide_eq_true hp
      have hfo := hok _ (first_mem A (by omega))
      rw [if_pos hp2, wrap_id (by have := hfo.1; omega) (by have := hfo.1; omega), wrap_id (by have := hfo.2; omega) (by have := hfo.2; omega)]
      exact ⟨⟨⟨by omega, hlen⟩, fun t ht => hok t ht⟩, rfl, rfl, rfl⟩
    · rw [if_neg (of_decide_eq_false hp)]
      exact ⟨rfl, rfl, rfl⟩
  · rw [Bool.and_true] at hh
    have hr : firstHM ((f, w, li), cs, ks) = ((0, 0), openErrM ((f, w, li), cs, ks)) := by
      unfold firstHM; rw [if_neg (by rw [hh]; simp), openErrM, if_neg (by rw [hh]; simp)]
    rw [hr]
    exact ⟨rfl, rfl, rfl⟩

theorem firstF_sound : Sound Try.prog 24 firstS.con := FSpec.sound _ (enter_of Try.func24 (by kernel_rfl) (by kernel_rfl)) firstF_ok
end AE.Pr
