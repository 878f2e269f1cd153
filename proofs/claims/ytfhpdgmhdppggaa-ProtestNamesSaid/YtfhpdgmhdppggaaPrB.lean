/- The layer 'protest': all witnesses. No condition. -/
import Derived.Test.YtfhpdgmhdppggaaPrA
namespace AE.Pr
open Go AE Go.Proofs

/-! ### joined, every -/
def everyM (n : Nat) : Int := 2 ^ n - 1
def natsM (n : Nat) : List Int := (List.range n).map fun (i : Nat) => (i : Int)
def joinedS : FSpec UU where
  X := List Int
  pick := fun args H => match args with
    | [a] => sliceAt .wit H a
    | _ => none
  args := fun (x : List Int) => [.sl 0 0 0 x.length]
  H := fun x => [.one (.ro .wit x)]
  R := fun (x : List Int) => .val ⟨AV.u (everyM x.length), [], [], []⟩
  pre := fun (x : List Int) => x.length ≤ 6 ∧ x = natsM x.length
def joinedL (n : Nat) : LSpec UU where
  T := { i : Nat // i ≤ n }
  fr := fun t => [(2, AV.u (everyM t.1)), (5, .sl 0 0 0 n), (6, .i n), (7, .i t.1)]
  H := fun _ => [.one (.ro .wit (natsM n))]
  mu := fun t => n - t.1
theorem natsM_length (n : Nat) : (natsM n).length = n := by simp [natsM]
theorem natsM_get {n i : Nat} (h : i < n) (d : Int) : (natsM n).getD i d = (i : Int) := by
  simp [natsM, List.getD_eq_getElem?_getD, List.getElem?_map, List.getElem?_range h]
theorem or_math (i : Nat) (h : i < 6) : IntKind.u64.wrap (BitVec.ofInt 64 (everyM i) ||| BitVec.ofInt 64 (IntKind.u64.wrap (1 * 2 ^ min i 64))).toNat = everyM (i + 1) := by
  have : ∀ i : Fin 6, IntKind.u64.wrap (BitVec.ofInt 64 (everyM i.val) ||| BitVec.ofInt 64 (IntKind.u64.wrap (1 * 2 ^ min i.val 64))).toNat = everyM (i.val + 1) := by decide +kernel
  exact this ⟨i, h⟩
set_option maxRecDepth 100000 in
theorem joined_ok0 (n : Nat) (hn : n ≤ 6) : FunOk Try.prog 85 [.sl 0 0 0 (natsM n).length] [.one (.ro .wit (natsM n) : AB1 UU)] (.val ⟨AV.u (everyM n), [], [], []⟩) := by
  refine fun_of (T := []) (L := fun _ => some (.inv (joinedL n))) (hs := fun _ => []) hmix .nil Try.func85 (by kernel_rfl) (by kernel_rfl) ?_
  refine Eq.mp (α :=
      (∃ (x : { i : Nat // i ≤ n }), (Value.int IntKind.u64 (0 : Int) = Value.int IntKind.u64 (everyM (Subtype.val x)) ∧ ((0 : Nat) = (0 : Nat) ∧ (0 : Nat) = (0 : Nat) ∧ List.length (natsM n) = n) ∧ Value.int IntKind.i64 (↑(List.length (natsM n)) : Int) = Value.int IntKind.i64 (↑n : Int) ∧ Value.int IntKind.i64 (0 : Int) = Value.int IntKind.i64 (↑(Subtype.val x) : Int) ∧ True) ∧ True ∧ natsM n = natsM n ∧ True) ∧ ∀ (t : { i : Nat // i ≤ n }), (decide ((↑(Subtype.val t) : Int) < (↑n : Int)) = true → ((0 : Int) ≤ (↑(Subtype.val t) : Int) ∧ (↑(Subtype.val t) : Int) < (↑n : Int)) ∧ (0 : Nat) + Int.toNat (↑(Subtype.val t) : Int) < List.length (natsM n) ∧ (0 : Int) ≤ List.getD (natsM n) ((0 : Nat) + Int.toNat (↑(Subtype.val t) : Int)) (0 : Int) ∧ True ∧ ∃ (x : { i : Nat // i ≤ n }), ((Value.int IntKind.u64 (IntKind.wrap IntKind.u64 (↑(BitVec.toNat (BitVec.ofInt (nat_lit 64) (everyM (Subtype.val t)) ||| BitVec.ofInt (nat_lit 64) (IntKind.wrap IntKind.u64 ((1 : Int) * (2 : Int) ^ min (Int.toNat (List.getD (natsM n) ((0 : Nat) + Int.toNat (↑(Subtype.val t) : Int)) (0 : Int))) (nat_lit 64))))) : Int)) = Value.int IntKind.u64 (everyM (Subtype.val x)) ∧ ((0 : Nat) = (0 : Nat) ∧ (0 : Nat) = (0 : Nat) ∧ n = n) ∧ Value.int IntKind.i64 (↑n : Int) = Value.int IntKind.i64 (↑n : Int) ∧ Value.int IntKind.i64 (IntKind.wrap IntKind.i64 ((↑(Subtype.val t) : Int) + (1 : Int))) = Value.int IntKind.i64 (↑(Subtype.val x) : Int) ∧ True) ∧ True ∧ natsM n = natsM n ∧ True) ∧ n - Subtype.val x < n - Subtype.val t) ∧ (decide ((↑(Subtype.val t) : Int) < (↑n : Int)) = false → True ∧ (Value.int IntKind.u64 (everyM (Subtype.val t)) = Value.int IntKind.u64 (everyM n) ∧ True) ∧ True ∧ natsM n = natsM n ∧ True))
    (by kernel_rfl) ?_
  refine ⟨⟨⟨0, by omega⟩, by simp [natsM_length, everyM]⟩, ?_⟩
  rintro ⟨i, hi⟩
  refine ⟨fun h => ?_, fun h => ?_⟩
  · have hlt : i < n := by simpa using h
    simp only [Int.toNat_natCast, Nat.zero_add, natsM_get hlt 0, natsM_length]
    refine ⟨by omega, hlt, by omega, trivial, ⟨i + 1, by omega⟩, ?_⟩
    rw [or_math i (by omega), wrap_id (by omega) (by omega)]
    simp; omega
  · have : i = n := by simp at h; omega
    subst this; simp

theorem joined_sound : Sound Try.prog 85 joinedS.con := FSpec.sound _ (enter_of Try.func85 (by kernel_rfl) (by kernel_rfl)) fun (x : List Int) h => by
  obtain ⟨h1, h2⟩ := h
  have := joined_ok0 x.length h1
  rw [← h2] at this
  exact this

def everyS : FSpec UU where
  X := Int
  pick := fun args H => match args with
    | [.ptr id 0 0 0] => match blkAt H id 0 with
      | some (.cells (_ :: w :: _) _) => avInt w
      | some (.rc (_ :: w :: _) _) => avInt w
      | _ => none
    | _ => none
  args := fun _ => [.ptr 0 0 0 0]
  H := fun (w : Int) => [.one (.rc [.junk, .i w, .junk, .junk, .junk, .junk] 100)]
  R := fun (w : Int) => .val ⟨AV.u (everyM w.toNat), [], [], []⟩
  pre := fun (w : Int) => 0 ≤ w ∧ w ≤ 6
def fillM (n i : Nat) : List Int := (List.range n).map fun (j : Nat) => if j < i then (j : Int) else 0
theorem fillM_length (n i : Nat) : (fillM n i).length = n := by simp [fillM]
theorem fillM_zero (n : Nat) : fillM n 0 = List.replicate n 0 := by
  apply List.ext_getElem <;> simp [fillM]
theorem fillM_all (n : Nat) : fillM n n = natsM n := by
  apply List.ext_getElem
  · simp [fillM, natsM]
  · intro j h1 h2
    have : j < n := by simpa [fillM] using h1
    simp [fillM, natsM, this]
theorem fillM_set {n i : Nat} (h : i < n) : (fillM n i).set i (i : Int) = fillM n (i + 1) := by
  apply List.ext_getElem
  · simp [fillM]
  · intro j h1 h2
    rw [List.getElem_set]
    by_cases e : i = j
    · subst e; simp [fillM]
    · rw [if_neg e]; simp only [fillM, List.getElem_map, List.getElem_range]
      by_cases h3 : j < i
      · rw [if_pos h3, if_pos (by omega)]
      · rw [if_neg h3, if_neg (by omega)]
def everyL (n : Nat) : LSpec UU where
  T := { i : Nat // i ≤ n }
  fr := fun t => [(3, .gs 1 0), (12, .i n), (13, .i t.1)]
  H := fun t => [.one (.rc [.junk, .i n, .junk, .junk, .junk, .junk] 100), .one (.row .wit (fillM n t.1) 93)]
  mu := fun t => n - t.1
def Tjoined : Tab UU := [(85, joinedS.con)]
theorem Tjoined_ok : Tjoined.Sound Try.prog := .cons joined_sound .nil
set_option maxRecDepth 100000 in
theorem every_ok0 (n : Nat) (hn : n ≤ 6) : FunOk Try.prog 51 (everyS.args (n : Int)) (everyS.H (n : Int)) (.val ⟨AV.u (everyM n), [], [], []⟩) := by
  refine fun_of (T := Tjoined) (L := fun _ => some (.inv (everyL n))) (hs := fun _ => []) hmix Tjoined_ok Try.func51 (by kernel_rfl) (by kernel_rfl) ?_
  refine Eq.mp (α :=
      (((↑n : Int) = (↑n : Int) ∧ (0 : Int) ≤ (↑n : Int) ∧ (↑n : Int) ≤ (1099511627776 : Int) ∧ (↑(nat_lit 8) : Int) * (↑n : Int) ≤ (281474976710656 : Int)) ∧ [AV.v (Value.int IntKind.i64 (0 : Int))] = List.map AV.nrm1 [AV.v (Value.int IntKind.i64 (0 : Int))]) ∧ (∃ (x : { i : Nat // i ≤ n }), ((0 : Nat) = (0 : Nat) ∧ Value.int IntKind.i64 (↑(List.length (List.replicate (Int.toNat (↑n : Int)) (0 : Int))) : Int) = Value.int IntKind.i64 (↑n : Int) ∧ Value.int IntKind.i64 (0 : Int) = Value.int IntKind.i64 (↑(Subtype.val x) : Int) ∧ True) ∧ True ∧ (True ∧ Value.int IntKind.i64 (↑n : Int) = Value.int IntKind.i64 (↑n : Int) ∧ True ∧ True ∧ True ∧ True ∧ True) ∧ ((93 : Nat) = (93 : TypeId) ∧ List.replicate (Int.toNat (↑n : Int)) (0 : Int) = fillM n (Subtype.val x)) ∧ True) ∧ ∀ (t : { i : Nat // i ≤ n }), (decide ((↑(Subtype.val t) : Int) < (↑n : Int)) = true → ((0 : Int) ≤ (↑(Subtype.val t) : Int) ∧ (↑(Subtype.val t) : Int) < (↑(List.length (fillM n (Subtype.val t))) : Int)) ∧ (0 : Nat) + Int.toNat (↑(Subtype.val t) : Int) < List.length (fillM n (Subtype.val t)) ∧ [AV.v (Value.int IntKind.i64 (↑(Subtype.val t) : Int))] = [AV.v (Value.int IntKind.i64 (↑(Subtype.val t) : Int))] ∧ True ∧ ∃ (x : { i : Nat // i ≤ n }), (((0 : Nat) = (0 : Nat) ∧ Value.int IntKind.i64 (↑n : Int) = Value.int IntKind.i64 (↑n : Int) ∧ Value.int IntKind.i64 (IntKind.wrap IntKind.i64 ((↑(Subtype.val t) : Int) + (1 : Int))) = Value.int IntKind.i64 (↑(Subtype.val x) : Int) ∧ True) ∧ True ∧ (True ∧ Value.int IntKind.i64 (↑n : Int) = Value.int IntKind.i64 (↑n : Int) ∧ True ∧ True ∧ True ∧ True ∧ True) ∧ ((93 : TypeId) = (93 : TypeId) ∧ List.set (fillM n (Subtype.val t)) ((0 : Nat) + Int.toNat (↑(Subtype.val t) : Int)) (↑(Subtype.val t) : Int) = fillM n (Subtype.val x)) ∧ True) ∧ n - Subtype.val x < n - Subtype.val t) ∧ (decide ((↑(Subtype.val t) : Int) < (↑n : Int)) = false → (List.length (fillM n (Subtype.val t)) ≤ (6 : Nat) ∧ fillM n (Subtype.val t) = natsM (List.length (fillM n (Subtype.val t)))) ∧ (((1 : Nat) = (1 : Nat) ∧ (0 : Nat) = (0 : Nat) ∧ (0 : Nat) = (0 : Nat) ∧ List.length (fillM n (Subtype.val t)) = List.length (fillM n (Subtype.val t))) ∧ True) ∧ (fillM n (Subtype.val t) = fillM n (Subtype.val t) ∧ True) ∧ True ∧ (Value.int IntKind.u64 (everyM (List.length (fillM n (Subtype.val t)))) = Value.int IntKind.u64 (everyM n) ∧ True) ∧ True ∧ (True ∧ Value.int IntKind.i64 (↑n : Int) = Value.int IntKind.i64 (↑n : Int) ∧ True ∧ True ∧ True ∧ True ∧ True) ∧ True))
    (by kernel_rfl) ?_
  simp only [Int.toNat_natCast, Nat.zero_add, fillM_length, natsM_length]
  refine ⟨⟨⟨trivial, by omega, by omega, by omega⟩, rfl⟩, ⟨⟨0, by omega⟩, ?_⟩, ?_⟩
  · simp [fillM_zero]
  · rintro ⟨i, hi⟩
    refine ⟨fun h => ?_, fun h => ?_⟩
    · have hlt : i < n := by simpa using h
      refine ⟨⟨by show (0 : Int) ≤ (i : Int); omega, by show (i : Int) < (n : Int); omega⟩, hlt, trivial, trivial, ⟨i + 1, by omega⟩, ?_⟩
      have hs := fillM_set hlt
      have hw : IntKind.i64.wrap ((i : Int) + 1) = (i : Int) + 1 := wrap_id (by omega) (by omega)
      simp [hs, hw]; omega
    · have : i = n := by simp at h; omega
      subst this
      simp [fillM_all]; exact hn

theorem every_sound : Sound Try.prog 51 everyS.con := FSpec.sound _ (enter_of Try.func51 (by kernel_rfl) (by kernel_rfl)) fun (w : Int) h => by
  obtain ⟨h1, h2⟩ := h
  obtain ⟨n, rfl⟩ := Int.eq_ofNat_of_zero_le (show 0 ≤ w from h1)
  exact every_ok0 n (by have : (n : Int) ≤ 6 := h2; omega)

/-! ### the first one that is so -/
def idxM {α : Type} (p : α → Bool) (l : List α) : Int := match l.findIdx? p with
  | some i => (i : Int)
  | none => -1
theorem idxM_some {α : Type} {p : α → Bool} {l : List α} {i : Nat} (hi : i < l.length) (d : α) (h : p (l.getD i d) = true) (h0 : ∀ j, j < i → p (l.getD j d) = false) : idxM p l = (i : Int) := by
  have : l.findIdx? p = some i := by
    rw [List.findIdx?_eq_some_iff_getElem]
    refine ⟨hi, ?_, fun j hj => ?_⟩
    · simpa [List.getD_eq_getElem?_getD, hi] using h
    · have := h0 j hj
      simpa [List.getD_eq_getElem?_getD, (show j < l.length by omega)] using this
  unfold idxM; rw [this]
theorem idxM_none {α : Type} {p : α → Bool} {l : List α} (d : α) (h0 : ∀ j, j < l.length → p (l.getD j d) = false) : idxM p l = -1 := by
  have : l.findIdx? p = none := by
    rw [List.findIdx?_eq_none_iff]
    intro x hx
    obtain ⟨j, hj, rfl⟩ := List.getElem_of_mem hx
    have := h0 j hj
    simpa [List.getD_eq_getElem?_getD, hj] using this
  unfold idxM; rw [this]
theorem idxM_any {α : Type} (p : α → Bool) (l : List α) : decide (idxM p l ≥ 0) = l.any p := by
  unfold idxM
  cases h : l.findIdx? p with
  | none =>
    rw [List.findIdx?_eq_none_iff] at h
    have : l.any p = false := by rw [List.any_eq_false]; intro x hx; simp [h x hx]
    rw [this]; simp
  | some i =>
    rw [List.findIdx?_eq_some_iff_getElem] at h
    obtain ⟨hi, h1, _⟩ := h
    have : l.any p = true := List.any_eq_true.2 ⟨_, List.getElem_mem hi, h1⟩
    rw [this]; simp

/-! ### the closures of isHearing -/
def hBox (f w : Int) : AB UU := .one (.rc [.i f, .i w, .junk, .junk, .junk] 25)
def avBox (H : Heap UU) (id : Nat) : Option (Int × Int) := match blkAt H id 0 with
  | some (.cells (f :: w :: _) _) => match avInt f, avInt w with
    | some f, some w => some (f, w)
    | _, _ => none
  | some (.rc (f :: w :: _) _) => match avInt f, avInt w with
    | some f, some w => some (f, w)
    | _, _ => none
  | _ => none
def badWS : FSpec UU where
  X := (Int × Int) × W3
  pick := fun args H => match args with
    | [a, .ptr id 0 0 0] => match avW a, avBox H id with
      | some a, some b => some (b, a)
      | _, _ => none
    | _ => none
  args := fun x => [vW x.2, .ptr 0 0 0 0]
  H := fun x => [hBox x.1.1 x.1.2]
  R := fun x => .val ⟨.b (!wordM x.1.1 x.1.2 x.2), [], [], []⟩
def TisWord : Tab UU := [(54, isWordS.con)]
theorem TisWord_ok : TisWord.Sound Try.prog := .cons isWord_sound .nil
set_option maxRecDepth 100000 in
theorem badW_ok : ∀ x, badWS.pre x → FunOk Try.prog 89 (badWS.args x) (badWS.H x) (badWS.R x) := by
  rintro ⟨⟨f, w⟩, ⟨p, n, x⟩⟩ _
  refine fun_of (T := TisWord) (L := fun _ => none) (hs := fun _ => []) hmix TisWord_ok Try.func89 (by kernel_rfl) (by kernel_rfl) ?_
  refine Eq.mp (α :=
      True ∧ ((Value.int IntKind.i64 f = Value.int IntKind.i64 f ∧ Value.int IntKind.i64 w = Value.int IntKind.i64 w ∧ True ∧ True ∧ True ∧ True) ∧ (Value.bool p = Value.bool p ∧ Value.int IntKind.i64 n = Value.int IntKind.i64 n ∧ Value.bool x = Value.bool x ∧ True) ∧ True) ∧ True ∧ True ∧ ((Value.bool !wordM f w (p, n, x)) = Value.bool !wordM f w (p, n, x) ∧ True) ∧ True ∧ (Value.int IntKind.i64 f = Value.int IntKind.i64 f ∧ Value.int IntKind.i64 w = Value.int IntKind.i64 w ∧ True ∧ True ∧ True ∧ True) ∧ True)
    (by kernel_rfl) ?_
  simp

theorem badW_sound : Sound Try.prog 89 badWS.con := FSpec.sound _ (enter_of Try.func89 (by kernel_rfl) (by kernel_rfl)) badW_ok
def badCM (f w : Int) (c : Cl) : Bool := !inM c.2.1 0 2 || !inM c.1 0 (W (w - 1)) || !wordM f w c.2.2.1 || (c.2.1 != 0 && !wordM f w c.2.2.2)
def badCS : FSpec UU where
  X := (Int × Int) × Cl
  pick := fun args H => match args with
    | [a, .ptr id 0 0 0, .ptr _ 0 0 0] => match avCl a, avBox H id with
      | some a, some b => some (b, a)
      | _, _ => none
    | _ => none
  args := fun x => [vCl x.2, .ptr 0 0 0 0, .ptr 1 0 0 0]
  H := fun x => [hBox x.1.1 x.1.2, .one (.rc [.fn (.func 89) [] [.ptr 0 0 0 0]] 86)]
  R := fun x => .val ⟨.b (badCM x.1.1 x.1.2 x.2), [], [], []⟩
def TbadC : Tab UU := [(86, withinS.con), (89, badWS.con)]
theorem TbadC_ok : TbadC.Sound Try.prog := .cons within_sound (.cons badW_sound .nil)
set_option maxRecDepth 100000 in
theorem badC_ok : ∀ x, badCS.pre x → FunOk Try.prog 90 (badCS.args x) (badCS.H x) (badCS.R x) := by
  rintro ⟨⟨f, w⟩, ⟨wi, k, ⟨p, n, x⟩, ⟨p', n', x'⟩⟩⟩ _
  refine fun_of (T := TbadC) (L := fun _ => none) (hs := fun _ => []) hmix TbadC_ok Try.func90 (by kernel_rfl) (by kernel_rfl) ?_
  refine Eq.mp (α :=
      True ∧ (Value.int IntKind.i64 k = Value.int IntKind.i64 k ∧ Value.int IntKind.i64 (0 : Int) = Value.int IntKind.i64 (0 : Int) ∧ Value.int IntKind.i64 (2 : Int) = Value.int IntKind.i64 (2 : Int) ∧ True) ∧ True ∧ ((!inM k (0 : Int) (2 : Int)) = true → True ∧ (Value.bool (badCM f w (wi, k, (p, n, x), p', n', x')) = Value.bool true ∧ True) ∧ True ∧ (Value.int IntKind.i64 f = Value.int IntKind.i64 f ∧ Value.int IntKind.i64 w = Value.int IntKind.i64 w ∧ True ∧ True ∧ True ∧ True) ∧ ((Fn.func (89 : FuncId) = Fn.func (89 : FuncId) ∧ True ∧ ((0 : Nat) = (0 : Nat) ∧ (0 : Nat) = (0 : Nat) ∧ (0 : Nat) = (0 : Nat)) ∧ True) ∧ True) ∧ True) ∧ ((!inM k (0 : Int) (2 : Int)) = false → True ∧ (Value.int IntKind.i64 wi = Value.int IntKind.i64 wi ∧ Value.int IntKind.i64 (0 : Int) = Value.int IntKind.i64 (0 : Int) ∧ Value.int IntKind.i64 (IntKind.wrap IntKind.i64 (w - (1 : Int))) = Value.int IntKind.i64 (IntKind.wrap IntKind.i64 (w - (1 : Int))) ∧ True) ∧ True ∧ ((!inM wi (0 : Int) (IntKind.wrap IntKind.i64 (w - (1 : Int)))) = true → True ∧ (Value.bool (badCM f w (wi, k, (p, n, x), p', n', x')) = Value.bool true ∧ True) ∧ True ∧ (Value.int IntKind.i64 f = Value.int IntKind.i64 f ∧ Value.int IntKind.i64 w = Value.int IntKind.i64 w ∧ True ∧ True ∧ True ∧ True) ∧ ((Fn.func (89 : FuncId) = Fn.func (89 : FuncId) ∧ True ∧ ((0 : Nat) = (0 : Nat) ∧ (0 : Nat) = (0 : Nat) ∧ (0 : Nat) = (0 : Nat)) ∧ True) ∧ True) ∧ True) ∧ ((!inM wi (0 : Int) (IntKind.wrap IntKind.i64 (w - (1 : Int)))) = false → True ∧ ((Value.bool p = Value.bool p ∧ Value.int IntKind.i64 n = Value.int IntKind.i64 n ∧ Value.bool x = Value.bool x ∧ True) ∧ ((0 : Nat) = (0 : Nat) ∧ (0 : Nat) = (0 : Nat) ∧ (0 : Nat) = (0 : Nat)) ∧ True) ∧ ((Value.int IntKind.i64 f = Value.int IntKind.i64 f ∧ Value.int IntKind.i64 w = Value.int IntKind.i64 w ∧ True ∧ True ∧ True ∧ True) ∧ True) ∧ ((!wordM f w (p, n, x)) = true → True ∧ (Value.bool (badCM f w (wi, k, (p, n, x), p', n', x')) = Value.bool true ∧ True) ∧ True ∧ (Value.int IntKind.i64 f = Value.int IntKind.i64 f ∧ Value.int IntKind.i64 w = Value.int IntKind.i64 w ∧ True ∧ True ∧ True ∧ True) ∧ ((Fn.func (89 : FuncId) = Fn.func (89 : FuncId) ∧ True ∧ ((0 : Nat) = (0 : Nat) ∧ (0 : Nat) = (0 : Nat) ∧ (0 : Nat) = (0 : Nat)) ∧ True) ∧ True) ∧ True) ∧ ((!wordM f w (p, n, x)) = false → ((k != (0 : Int)) = true → True ∧ ((Value.bool p' = Value.bool p' ∧ Value.int IntKind.i64 n' = Value.int IntKind.i64 n' ∧ Value.bool x' = Value.bool x' ∧ True) ∧ ((0 : Nat) = (0 : Nat) ∧ (0 : Nat) = (0 : Nat) ∧ (0 : Nat) = (0 : Nat)) ∧ True) ∧ ((Value.int IntKind.i64 f = Value.int IntKind.i64 f ∧ Value.int IntKind.i64 w = Value.int IntKind.i64 w ∧ True ∧ True ∧ True ∧ True) ∧ True) ∧ True ∧ ((Value.bool !wordM f w (p', n', x')) = Value.bool (badCM f w (wi, k, (p, n, x), p', n', x')) ∧ True) ∧ True ∧ (Value.int IntKind.i64 f = Value.int IntKind.i64 f ∧ Value.int IntKind.i64 w = Value.int IntKind.i64 w ∧ True ∧ True ∧ True ∧ True) ∧ ((Fn.func (89 : FuncId) = Fn.func (89 : FuncId) ∧ True ∧ ((0 : Nat) = (0 : Nat) ∧ (0 : Nat) = (0 : Nat) ∧ (0 : Nat) = (0 : Nat)) ∧ True) ∧ True) ∧ True) ∧ ((k != (0 : Int)) = false → True ∧ (Value.bool (badCM f w (wi, k, (p, n, x), p', n', x')) = Value.bool false ∧ True) ∧ True ∧ (Value.int IntKind.i64 f = Value.int IntKind.i64 f ∧ Value.int IntKind.i64 w = Value.int IntKind.i64 w ∧ True ∧ True ∧ True ∧ True) ∧ ((Fn.func (89 : FuncId) = Fn.func (89 : FuncId) ∧ True ∧ ((0 : Nat) = (0 : Nat) ∧ (0 : Nat) = (0 : Nat) ∧ (0 : Nat) = (0 : Nat)) ∧ True) ∧ True) ∧ True)))))
    (by kernel_rfl) ?_
  simp +contextual [badCM]
  intro _ _ _ _; rfl

theorem badC_sound : Sound Try.prog 90 badCS.con := FSpec.sound _ (enter_of Try.func90 (by kernel_rfl) (by kernel_rfl)) badC_ok

/-! ### IndexFunc, ContainsFunc: words, claims -/
def idxWS (R : ((Int × Int) × List W3) → AV) : FSpec UU where
  X := (Int × Int) × List W3
  pick := fun args H => match args with
    | [a, .fn _ _ [.ptr id 0 0 0]] => match sliceAt .word H a, avBox H id with
      | some a, some b => some (b, a)
      | _, _ => none
    | _ => none
  args := fun x => [.sl 0 0 0 x.2.length, .fn (.func 89) [] [.ptr 1 0 0 0]]
  H := fun x => [.one (.ro .word x.2), hBox x.1.1 x.1.2]
  R := fun x => .val ⟨R x, [], [], []⟩
  pre := fun x => x.2.length < 1000000
def idxWL (f w : Int) (l : List W3) : LSpec UU where
  T := { i : Nat // i ≤ l.length ∧ ∀ j, j < i → (!wordM f w (l.getD j (false, 0, false))) = false }
  fr := fun t => [(0, .sl 0 0 0 l.length), (1, .fn (.func 89) [] [.ptr 1 0 0 0]), (7, .i l.length), (8, .i t.1)]
  H := fun _ => [.one (.ro .word l), hBox f w]
  mu := fun t => l.length - t.1
def TidxW : Tab UU := [(89, badWS.con)]
theorem TidxW_ok : TidxW.Sound Try.prog := .cons badW_sound .nil
set_option maxRecDepth 100000 in
theorem idxW_ok : ∀ x, (idxWS fun x => .i (idxM (fun y => !wordM x.1.1 x.1.2 y) x.2)).pre x → FunOk Try.prog 97 ((idxWS fun x => .i (idxM (fun y => !wordM x.1.1 x.1.2 y) x.2)).args x) ((idxWS fun x => .i (idxM (fun y => !wordM x.1.1 x.1.2 y) x.2)).H x) ((idxWS fun x => .i (idxM (fun y => !wordM x.1.1 x.1.2 y) x.2)).R x) := by
  rintro ⟨⟨f, w⟩, l⟩ hl
  refine fun_of (T := TidxW) (L := fun _ => some (.inv (idxWL f w l))) (hs := fun _ => []) hmix TidxW_ok Try.func97 (by kernel_rfl) (by kernel_rfl) ?_
  refine Eq.mp (α :=
      (∃ (x : { i : Nat // i ≤ List.length l ∧ ∀ (j : Nat), j < i → (!wordM f w (List.getD l j dfW)) = false }), (((0 : Nat) = (0 : Nat) ∧ (0 : Nat) = (0 : Nat) ∧ List.length l = List.length l) ∧ (Fn.func (89 : FuncId) = Fn.func (89 : FuncId) ∧ True ∧ ((0 : Nat) = (0 : Nat) ∧ (0 : Nat) = (0 : Nat) ∧ (0 : Nat) = (0 : Nat)) ∧ True) ∧ Value.int IntKind.i64 (↑(List.length l) : Int) = Value.int IntKind.i64 (↑(List.length l) : Int) ∧ Value.int IntKind.i64 (0 : Int) = Value.int IntKind.i64 (↑(Subtype.val x) : Int) ∧ True) ∧ True ∧ l = l ∧ (Value.int IntKind.i64 f = Value.int IntKind.i64 f ∧ Value.int IntKind.i64 w = Value.int IntKind.i64 w ∧ True ∧ True ∧ True ∧ True) ∧ True) ∧ ∀ (t : { i : Nat // i ≤ List.length l ∧ ∀ (j : Nat), j < i → (!wordM f w (List.getD l j dfW)) = false }), (decide ((↑(Subtype.val t) : Int) < (↑(List.length l) : Int)) = true → ((0 : Int) ≤ (↑(Subtype.val t) : Int) ∧ (↑(Subtype.val t) : Int) < (↑(List.length l) : Int)) ∧ (0 : Nat) + Int.toNat (↑(Subtype.val t) : Int) < List.length l ∧ True ∧ ((Value.bool (Prod.fst (List.getD l ((0 : Nat) + Int.toNat (↑(Subtype.val t) : Int)) dfW)) = Value.bool (Prod.fst (List.getD l ((0 : Nat) + Int.toNat (↑(Subtype.val t) : Int)) dfW)) ∧ Value.int IntKind.i64 (Prod.fst (Prod.snd (List.getD l ((0 : Nat) + Int.toNat (↑(Subtype.val t) : Int)) dfW))) = Value.int IntKind.i64 (Prod.fst (Prod.snd (List.getD l ((0 : Nat) + Int.toNat (↑(Subtype.val t) : Int)) dfW))) ∧ Value.bool (Prod.snd (Prod.snd (List.getD l ((0 : Nat) + Int.toNat (↑(Subtype.val t) : Int)) dfW))) = Value.bool (Prod.snd (Prod.snd (List.getD l ((0 : Nat) + Int.toNat (↑(Subtype.val t) : Int)) dfW))) ∧ True) ∧ ((0 : Nat) = (0 : Nat) ∧ (0 : Nat) = (0 : Nat) ∧ (0 : Nat) = (0 : Nat)) ∧ True) ∧ ((Value.int IntKind.i64 f = Value.int IntKind.i64 f ∧ Value.int IntKind.i64 w = Value.int IntKind.i64 w ∧ True ∧ True ∧ True ∧ True) ∧ True) ∧ ((!wordM f w (List.getD l ((0 : Nat) + Int.toNat (↑(Subtype.val t) : Int)) dfW)) = true → True ∧ (Value.int IntKind.i64 (↑(Subtype.val t) : Int) = Value.int IntKind.i64 (idxM (fun (y : W3) => !wordM f w y) l) ∧ True) ∧ True ∧ l = l ∧ (Value.int IntKind.i64 f = Value.int IntKind.i64 f ∧ Value.int IntKind.i64 w = Value.int IntKind.i64 w ∧ True ∧ True ∧ True ∧ True) ∧ True) ∧ ((!wordM f w (List.getD l ((0 : Nat) + Int.toNat (↑(Subtype.val t) : Int)) dfW)) = false → True ∧ ∃ (x : { i : Nat // i ≤ List.length l ∧ ∀ (j : Nat), j < i → (!wordM f w (List.getD l j dfW)) = false }), ((((0 : Nat) = (0 : Nat) ∧ (0 : Nat) = (0 : Nat) ∧ List.length l = List.length l) ∧ (Fn.func (89 : FuncId) = Fn.func (89 : FuncId) ∧ True ∧ ((0 : Nat) = (0 : Nat) ∧ (0 : Nat) = (0 : Nat) ∧ (0 : Nat) = (0 : Nat)) ∧ True) ∧ Value.int IntKind.i64 (↑(List.length l) : Int) = Value.int IntKind.i64 (↑(List.length l) : Int) ∧ Value.int IntKind.i64 (IntKind.wrap IntKind.i64 ((↑(Subtype.val t) : Int) + (1 : Int))) = Value.int IntKind.i64 (↑(Subtype.val x) : Int) ∧ True) ∧ True ∧ l = l ∧ (Value.int IntKind.i64 f = Value.int IntKind.i64 f ∧ Value.int IntKind.i64 w = Value.int IntKind.i64 w ∧ True ∧ True ∧ True ∧ True) ∧ True) ∧ List.length l - Subtype.val x < List.length l - Subtype.val t)) ∧ (decide ((↑(Subtype.val t) : Int) < (↑(List.length l) : Int)) = false → True ∧ (Value.int IntKind.i64 (-1 : Int) = Value.int IntKind.i64 (idxM (fun (y : W3) => !wordM f w y) l) ∧ True) ∧ True ∧ l = l ∧ (Value.int IntKind.i64 f = Value.int IntKind.i64 f ∧ Value.int IntKind.i64 w = Value.int IntKind.i64 w ∧ True ∧ True ∧ True ∧ True) ∧ True))
    (by kernel_rfl) ?_
  simp only [idxWS] at hl
  simp
  refine ⟨⟨0, ⟨by omega, fun j hj => by omega⟩, rfl⟩, fun i hi h0 => ⟨fun hlt => ⟨hlt, fun h1 => ?_, fun h1 => ⟨i + 1, ?_, ⟨by omega, fun j hj => ?_⟩, by omega⟩⟩, fun hge => ?_⟩⟩
  · exact (idxM_some hlt (false, 0, false) (by simpa [List.getD_eq_getElem?_getD] using h1) (fun j hj => by simpa [List.getD_eq_getElem?_getD] using h0 j hj)).symm
  · rw [wrap_id (by omega) (by omega)]; rfl
  · rcases Nat.lt_or_eq_of_le (Nat.le_of_lt_succ hj) with h2 | rfl
    · exact h0 j h2
    · exact h1
  · exact (idxM_none (false, 0, false) (fun j hj => by simpa [List.getD_eq_getElem?_getD] using h0 j (by omega))).symm

theorem idxW_sound : Sound Try.prog 97 (idxWS fun x => .i (idxM (fun y => !wordM x.1.1 x.1.2 y) x.2)).con := FSpec.sound _ (enter_of Try.func97 (by kernel_rfl) (by kernel_rfl)) idxW_ok
def TidxW2 : Tab UU := [(97, (idxWS fun x => .i (idxM (fun y => !wordM x.1.1 x.1.2 y) x.2)).con)]
theorem TidxW2_ok : TidxW2.Sound Try.prog := .cons idxW_sound .nil
set_option maxRecDepth 100000 in
theorem anyW_ok : ∀ x, (idxWS fun x => .b (x.2.any fun y => !wordM x.1.1 x.1.2 y)).pre x → FunOk Try.prog 92 ((idxWS fun x => .b (x.2.any fun y => !wordM x.1.1 x.1.2 y)).args x) ((idxWS fun x => .b (x.2.any fun y => !wordM x.1.1 x.1.2 y)).H x) ((idxWS fun x => .b (x.2.any fun y => !wordM x.1.1 x.1.2 y)).R x) := by
  rintro ⟨⟨f, w⟩, l⟩ hl
  refine fun_of (T := TidxW2) (L := fun _ => none) (hs := fun _ => []) hmix TidxW2_ok Try.func92 (by kernel_rfl) (by kernel_rfl) ?_
  refine Eq.mp (α :=
      List.length l < (1000000 : Nat) ∧ (((0 : Nat) = (0 : Nat) ∧ (0 : Nat) = (0 : Nat) ∧ List.length l = List.length l) ∧ (Fn.func (89 : FuncId) = Fn.func (89 : FuncId) ∧ True ∧ ((0 : Nat) = (0 : Nat) ∧ (0 : Nat) = (0 : Nat) ∧ (0 : Nat) = (0 : Nat)) ∧ True) ∧ True) ∧ (l = l ∧ (Value.int IntKind.i64 f = Value.int IntKind.i64 f ∧ Value.int IntKind.i64 w = Value.int IntKind.i64 w ∧ True ∧ True ∧ True ∧ True) ∧ True) ∧ True ∧ (Value.bool (decide (idxM (fun (y : W3) => !wordM f w y) l ≥ (0 : Int))) = Value.bool (List.any l fun (y : W3) => !wordM f w y) ∧ True) ∧ True ∧ l = l ∧ (Value.int IntKind.i64 f = Value.int IntKind.i64 f ∧ Value.int IntKind.i64 w = Value.int IntKind.i64 w ∧ True ∧ True ∧ True ∧ True) ∧ True)
    (by kernel_rfl) ?_
  simp only [idxWS] at hl
  rw [← idxM_any]
  simpa using hl

theorem anyW_sound : Sound Try.prog 92 (idxWS fun x => .b (x.2.any fun y => !wordM x.1.1 x.1.2 y)).con := FSpec.sound _ (enter_of Try.func92 (by kernel_rfl) (by kernel_rfl)) anyW_ok

def idxCS (R : ((Int × Int) × List Cl) → AV) : FSpec UU where
  X := (Int × Int) × List Cl
  pick := fun args H => match args with
    | [a, .fn _ _ [.ptr id 0 0 0, _]] => match sliceAt .claim H a, avBox H id with
      | some a, some b => some (b, a)
      | _, _ => none
    | _ => none
  args := fun x => [.sl 0 0 0 x.2.length, .fn (.func 90) [] [.ptr 1 0 0 0, .ptr 2 0 0 0]]
  H := fun x => [.one (.ro .claim x.2), hBox x.1.1 x.1.2, .one (.rc [.fn (.func 89) [] [.ptr 1 0 0 0]] 86)]
  R := fun x => .val ⟨R x, [], [], []⟩
  pre := fun x => x.2.length < 1000000
def idxCL (f w : Int) (l : List Cl) : LSpec UU where
  T := { i : Nat // i ≤ l.length ∧ ∀ j, j < i → badCM f w (l.getD j dfC) = false }
  fr := fun t => [(0, .sl 0 0 0 l.length), (1, .fn (.func 90) [] [.ptr 1 0 0 0, .ptr 2 0 0 0]), (7, .i l.length), (8, .i t.1)]
  H := fun _ => [.one (.ro .claim l), hBox f w, .one (.rc [.fn (.func 89) [] [.ptr 1 0 0 0]] 86)]
  mu := fun t => l.length - t.1
def TidxC : Tab UU := [(90, badCS.con)]
theorem TidxC_ok : TidxC.Sound Try.prog := .cons badC_sound .nil
set_option maxRecDepth 100000 in
theorem idxC_ok : ∀ x, (idxCS fun x => .i (idxM (fun y => badCM x.1.1 x.1.2 y) x.2)).pre x → FunOk Try.prog 96 ((idxCS fun x => .i (idxM (fun y => badCM x.1.1 x.1.2 y) x.2)).args x) ((idxCS fun x => .i (idxM (fun y => badCM x.1.1 x.1.2 y) x.2)).H x) ((idxCS fun x => .i (idxM (fun y => badCM x.1.1 x.1.2 y) x.2)).R x) := by
  rintro ⟨⟨f, w⟩, l⟩ hl
  refine fun_of (T := TidxC) (L := fun _ => some (.inv (idxCL f w l))) (hs := fun _ => []) hmix TidxC_ok Try.func96 (by kernel_rfl) (by kernel_rfl) ?_
  refine Eq.mp (α :=
      (∃ (x : { i : Nat // i ≤ List.length l ∧ ∀ (j : Nat), j < i → badCM f w (List.getD l j dfC) = false }), (((0 : Nat) = (0 : Nat) ∧ (0 : Nat) = (0 : Nat) ∧ List.length l = List.length l) ∧ (Fn.func (90 : FuncId) = Fn.func (90 : FuncId) ∧ True ∧ ((0 : Nat) = (0 : Nat) ∧ (0 : Nat) = (0 : Nat) ∧ (0 : Nat) = (0 : Nat)) ∧ ((0 : Nat) = (0 : Nat) ∧ (0 : Nat) = (0 : Nat) ∧ (0 : Nat) = (0 : Nat)) ∧ True) ∧ Value.int IntKind.i64 (↑(List.length l) : Int) = Value.int IntKind.i64 (↑(List.length l) : Int) ∧ Value.int IntKind.i64 (0 : Int) = Value.int IntKind.i64 (↑(Subtype.val x) : Int) ∧ True) ∧ True ∧ l = l ∧ (Value.int IntKind.i64 f = Value.int IntKind.i64 f ∧ Value.int IntKind.i64 w = Value.int IntKind.i64 w ∧ True ∧ True ∧ True ∧ True) ∧ ((Fn.func (89 : FuncId) = Fn.func (89 : FuncId) ∧ True ∧ ((0 : Nat) = (0 : Nat) ∧ (0 : Nat) = (0 : Nat) ∧ (0 : Nat) = (0 : Nat)) ∧ True) ∧ True) ∧ True) ∧ ∀ (t : { i : Nat // i ≤ List.length l ∧ ∀ (j : Nat), j < i → badCM f w (List.getD l j dfC) = false }), (decide ((↑(Subtype.val t) : Int) < (↑(List.length l) : Int)) = true → ((0 : Int) ≤ (↑(Subtype.val t) : Int) ∧ (↑(Subtype.val t) : Int) < (↑(List.length l) : Int)) ∧ (0 : Nat) + Int.toNat (↑(Subtype.val t) : Int) < List.length l ∧ True ∧ ((Value.int IntKind.i64 (Prod.fst (List.getD l ((0 : Nat) + Int.toNat (↑(Subtype.val t) : Int)) dfC)) = Value.int IntKind.i64 (Prod.fst (List.getD l ((0 : Nat) + Int.toNat (↑(Subtype.val t) : Int)) dfC)) ∧ Value.int IntKind.i64 (Prod.fst (Prod.snd (List.getD l ((0 : Nat) + Int.toNat (↑(Subtype.val t) : Int)) dfC))) = Value.int IntKind.i64 (Prod.fst (Prod.snd (List.getD l ((0 : Nat) + Int.toNat (↑(Subtype.val t) : Int)) dfC))) ∧ Value.bool (Prod.fst (Prod.fst (Prod.snd (Prod.snd (List.getD l ((0 : Nat) + Int.toNat (↑(Subtype.val t) : Int)) dfC))))) = Value.bool (Prod.fst (Prod.fst (Prod.snd (Prod.snd (List.getD l ((0 : Nat) + Int.toNat (↑(Subtype.val t) : Int)) dfC))))) ∧ Value.int IntKind.i64 (Prod.fst (Prod.snd (Prod.fst (Prod.snd (Prod.snd (List.getD l ((0 : Nat) + Int.toNat (↑(Subtype.val t) : Int)) dfC)))))) = Value.int IntKind.i64 (Prod.fst (Prod.snd (Prod.fst (Prod.snd (Prod.snd (List.getD l ((0 : Nat) + Int.toNat (↑(Subtype.val t) : Int)) dfC)))))) ∧ Value.bool (Prod.snd (Prod.snd (Prod.fst (Prod.snd (Prod.snd (List.getD l ((0 : Nat) + Int.toNat (↑(Subtype.val t) : Int)) dfC)))))) = Value.bool (Prod.snd (Prod.snd (Prod.fst (Prod.snd (Prod.snd (List.getD l ((0 : Nat) + Int.toNat (↑(Subtype.val t) : Int)) dfC)))))) ∧ Value.bool (Prod.fst (Prod.snd (Prod.snd (Prod.snd (List.getD l ((0 : Nat) + Int.toNat (↑(Subtype.val t) : Int)) dfC))))) = Value.bool (Prod.fst (Prod.snd (Prod.snd (Prod.snd (List.getD l ((0 : Nat) + Int.toNat (↑(Subtype.val t) : Int)) dfC))))) ∧ Value.int IntKind.i64 (Prod.fst (Prod.snd (Prod.snd (Prod.snd (Prod.snd (List.getD l ((0 : Nat) + Int.toNat (↑(Subtype.val t) : Int)) dfC)))))) = Value.int IntKind.i64 (Prod.fst (Prod.snd (Prod.snd (Prod.snd (Prod.snd (List.getD l ((0 : Nat) + Int.toNat (↑(Subtype.val t) : Int)) dfC)))))) ∧ Value.bool (Prod.snd (Prod.snd (Prod.snd (Prod.snd (Prod.snd (List.getD l ((0 : Nat) + Int.toNat (↑(Subtype.val t) : Int)) dfC)))))) = Value.bool (Prod.snd (Prod.snd (Prod.snd (Prod.snd (Prod.snd (List.getD l ((0 : Nat) + Int.toNat (↑(Subtype.val t) : Int)) dfC)))))) ∧ True) ∧ ((0 : Nat) = (0 : Nat) ∧ (0 : Nat) = (0 : Nat) ∧ (0 : Nat) = (0 : Nat)) ∧ ((0 : Nat) = (0 : Nat) ∧ (0 : Nat) = (0 : Nat) ∧ (0 : Nat) = (0 : Nat)) ∧ True) ∧ ((Value.int IntKind.i64 f = Value.int IntKind.i64 f ∧ Value.int IntKind.i64 w = Value.int IntKind.i64 w ∧ True ∧ True ∧ True ∧ True) ∧ ((Fn.func (89 : FuncId) = Fn.func (89 : FuncId) ∧ True ∧ ((0 : Nat) = (0 : Nat) ∧ (0 : Nat) = (0 : Nat) ∧ (0 : Nat) = (0 : Nat)) ∧ True) ∧ True) ∧ True) ∧ (badCM f w (List.getD l ((0 : Nat) + Int.toNat (↑(Subtype.val t) : Int)) dfC) = true → True ∧ (Value.int IntKind.i64 (↑(Subtype.val t) : Int) = Value.int IntKind.i64 (idxM (fun (y : Cl) => badCM f w y) l) ∧ True) ∧ True ∧ l = l ∧ (Value.int IntKind.i64 f = Value.int IntKind.i64 f ∧ Value.int IntKind.i64 w = Value.int IntKind.i64 w ∧ True ∧ True ∧ True ∧ True) ∧ ((Fn.func (89 : FuncId) = Fn.func (89 : FuncId) ∧ True ∧ ((0 : Nat) = (0 : Nat) ∧ (0 : Nat) = (0 : Nat) ∧ (0 : Nat) = (0 : Nat)) ∧ True) ∧ True) ∧ True) ∧ (badCM f w (List.getD l ((0 : Nat) + Int.toNat (↑(Subtype.val t) : Int)) dfC) = false → True ∧ ∃ (x : { i : Nat // i ≤ List.length l ∧ ∀ (j : Nat), j < i → badCM f w (List.getD l j dfC) = false }), ((((0 : Nat) = (0 : Nat) ∧ (0 : Nat) = (0 : Nat) ∧ List.length l = List.length l) ∧ (Fn.func (90 : FuncId) = Fn.func (90 : FuncId) ∧ True ∧ ((0 : Nat) = (0 : Nat) ∧ (0 : Nat) = (0 : Nat) ∧ (0 : Nat) = (0 : Nat)) ∧ ((0 : Nat) = (0 : Nat) ∧ (0 : Nat) = (0 : Nat) ∧ (0 : Nat) = (0 : Nat)) ∧ True) ∧ Value.int IntKind.i64 (↑(List.length l) : Int) = Value.int IntKind.i64 (↑(List.length l) : Int) ∧ Value.int IntKind.i64 (IntKind.wrap IntKind.i64 ((↑(Subtype.val t) : Int) + (1 : Int))) = Value.int IntKind.i64 (↑(Subtype.val x) : Int) ∧ True) ∧ True ∧ l = l ∧ (Value.int IntKind.i64 f = Value.int IntKind.i64 f ∧ Value.int IntKind.i64 w = Value.int IntKind.i64 w ∧ True ∧ True ∧ True ∧ True) ∧ ((Fn.func (89 : FuncId) = Fn.func (89 : FuncId) ∧ True ∧ ((0 : Nat) = (0 : Nat) ∧ (0 : Nat) = (0 : Nat) ∧ (0 : Nat) = (0 : Nat)) ∧ True) ∧ True) ∧ True) ∧ List.length l - Subtype.val x < List.length l - Subtype.val t)) ∧ (decide ((↑(Subtype.val t) : Int) < (↑(List.length l) : Int)) = false → True ∧ (Value.int IntKind.i64 (-1 : Int) = Value.int IntKind.i64 (idxM (fun (y : Cl) => badCM f w y) l) ∧ True) ∧ True ∧ l = l ∧ (Value.int IntKind.i64 f = Value.int IntKind.i64 f ∧ Value.int IntKind.i64 w = Value.int IntKind.i64 w ∧ True ∧ True ∧ True ∧ True) ∧ ((Fn.func (89 : FuncId) = Fn.func (89 : FuncId) ∧ True ∧ ((0 : Nat) = (0 : Nat) ∧ (0 : Nat) = (0 : Nat) ∧ (0 : Nat) = (0 : Nat)) ∧ True) ∧ True) ∧ True))
    (by kernel_rfl) ?_
  simp only [idxCS] at hl
  simp
  refine ⟨⟨0, ⟨by omega, fun j hj => by omega⟩, rfl⟩, fun i hi h0 => ⟨fun hlt => ⟨hlt, fun h1 => ?_, fun h1 => ⟨i + 1, ?_, ⟨by omega, fun j hj => ?_⟩, by omega⟩⟩, fun hge => ?_⟩⟩
  · exact (idxM_some hlt dfC (by simpa [List.getD_eq_getElem?_getD, dfC] using h1) (fun j hj => by simpa [List.getD_eq_getElem?_getD] using h0 j hj)).symm
  · rw [wrap_id (by omega) (by omega)]; rfl
  · rcases Nat.lt_or_eq_of_le (Nat.le_of_lt_succ hj) with h2 | rfl
    · exact h0 j h2
    · exact h1
  · exact (idxM_none dfC (fun j hj => by simpa [List.getD_eq_getElem?_getD] using h0 j (by omega))).symm

theorem idxC_sound : Sound Try.prog 96 (idxCS fun x => .i (idxM (fun y => badCM x.1.1 x.1.2 y) x.2)).con := FSpec.sound _ (enter_of Try.func96 (by kernel_rfl) (by kernel_rfl)) idxC_ok
def TidxC2 : Tab UU := [(96, (idxCS fun x => .i (idxM (fun y => badCM x.1.1 x.1.2 y) x.2)).con)]
theorem TidxC2_ok : TidxC2.Sound Try.prog := .cons idxC_sound .nil
set_option maxRecDepth 100000 in
theorem anyC_ok : ∀ x, (idxCS fun x => .b (x.2.any fun y => badCM x.1.1 x.1.2 y)).pre x → FunOk Try.prog 91 ((idxCS fun x => .b (x.2.any fun y => badCM x.1.1 x.1.2 y)).args x) ((idxCS fun x => .b (x.2.any fun y => badCM x.1.1 x.1.2 y)).H x) ((idxCS fun x => .b (x.2.any fun y => badCM x.1.1 x.1.2 y)).R x) := by
  rintro ⟨⟨f, w⟩, l⟩ hl
  refine fun_of (T := TidxC2) (L := fun _ => none) (hs := fun _ => []) hmix TidxC2_ok Try.func91 (by kernel_rfl) (by kernel_rfl) ?_
  refine Eq.mp (α :=
      List.length l < (1000000 : Nat) ∧ (((0 : Nat) = (0 : Nat) ∧ (0 : Nat) = (0 : Nat) ∧ List.length l = List.length l) ∧ (Fn.func (90 : FuncId) = Fn.func (90 : FuncId) ∧ True ∧ ((0 : Nat) = (0 : Nat) ∧ (0 : Nat) = (0 : Nat) ∧ (0 : Nat) = (0 : Nat)) ∧ ((0 : Nat) = (0 : Nat) ∧ (0 : Nat) = (0 : Nat) ∧ (0 : Nat) = (0 : Nat)) ∧ True) ∧ True) ∧ (l = l ∧ (Value.int IntKind.i64 f = Value.int IntKind.i64 f ∧ Value.int IntKind.i64 w = Value.int IntKind.i64 w ∧ True ∧ True ∧ True ∧ True) ∧ ((Fn.func (89 : FuncId) = Fn.func (89 : FuncId) ∧ True ∧ ((0 : Nat) = (0 : Nat) ∧ (0 : Nat) = (0 : Nat) ∧ (0 : Nat) = (0 : Nat)) ∧ True) ∧ True) ∧ True) ∧ True ∧ (Value.bool (decide (idxM (fun (y : Cl) => badCM f w y) l ≥ (0 : Int))) = Value.bool (List.any l fun (y : Cl) => badCM f w y) ∧ True) ∧ True ∧ l = l ∧ (Value.int IntKind.i64 f = Value.int IntKind.i64 f ∧ Value.int IntKind.i64 w = Value.int IntKind.i64 w ∧ True ∧ True ∧ True ∧ True) ∧ ((Fn.func (89 : FuncId) = Fn.func (89 : FuncId) ∧ True ∧ ((0 : Nat) = (0 : Nat) ∧ (0 : Nat) = (0 : Nat) ∧ (0 : Nat) = (0 : Nat)) ∧ True) ∧ True) ∧ True)
    (by kernel_rfl) ?_
  simp only [idxCS] at hl
  rw [← idxM_any]
  simpa using hl

theorem anyC_sound : Sound Try.prog 91 (idxCS fun x => .b (x.2.any fun y => badCM x.1.1 x.1.2 y)).con := FSpec.sound _ (enter_of Try.func91 (by kernel_rfl) (by kernel_rfl)) anyC_ok

/-! ### isHearing -/
/-- A hearing: facts, witnesses, liars; claims; words that are known. -/
abbrev HT := (Int × Int × Int) × List Cl × List W3
def hearM (x : HT) : Bool :=
  (inM x.1.1 0 6 && inM x.1.2.1 0 6 && inM x.1.2.2 0 x.1.2.1) && (decide (x.2.1.length ≤ 14) && decide (x.2.2.length ≤ 4)) && !x.2.1.any (badCM x.1.1 x.1.2.1) && !x.2.2.any fun y => !wordM x.1.1 x.1.2.1 y
def vH (x : HT) : AV := .agg [.i x.1.1, .i x.1.2.1, .i x.1.2.2, .sl 0 0 0 x.2.1.length, .sl 1 0 0 x.2.2.length]
def hH (x : HT) : Heap UU := [.one (.ro .claim x.2.1), .one (.ro .word x.2.2)]
def avH (H : Heap UU) : AV → Option HT
  | .agg [a, b, c, d, e] => match avInt a, avInt b, avInt c, sliceAt .claim H d, sliceAt .word H e with
    | some a, some b, some c, some d, some e => some ((a, b, c), d, e)
    | _, _, _, _, _ => none
  | _ => none
def okH (x : HT) : Prop := x.2.1.length < 1000 ∧ x.2.2.length < 1000
def isHearingS : FSpec UU where
  X := HT
  pick := fun args H => match args with
    | [a] => avH H a
    | _ => none
  args := fun x => [vH x]
  H := fun x => hH x
  R := fun x => .val ⟨.b (hearM x), [], [], []⟩
  pre := fun x => okH x
def TisH : Tab UU := [(86, withinS.con), (91, (idxCS fun x => .b (x.2.any fun y => badCM x.1.1 x.1.2 y)).con), (92, (idxWS fun x => .b (x.2.any fun y => !wordM x.1.1 x.1.2 y)).con)]
theorem TisH_ok : TisH.Sound Try.prog := .cons within_sound (.cons anyC_sound (.cons anyW_sound .nil))
set_option maxRecDepth 100000 in
theorem isHearing_ok : ∀ x, isHearingS.pre x → FunOk Try.prog 79 (isHearingS.args x) (isHearingS.H x) (isHearingS.R x) := by
  rintro ⟨⟨f, w, li⟩, cs, ks⟩ hl
  refine fun_of (T := TisH) (L := fun _ => none) (hs := fun _ => []) hmix TisH_ok Try.func79 (by kernel_rfl) (by kernel_rfl) ?_
  refine Eq.mp (α :=
      True ∧ (Value.int IntKind.i64 f = Value.int IntKind.i64 f ∧ Value.int IntKind.i64 (0 : Int) = Value.int IntKind.i64 (0 : Int) ∧ Value.int IntKind.i64 (6 : Int) = Value.int IntKind.i64 (6 : Int) ∧ True) ∧ True ∧ (inM f (0 : Int) (6 : Int) = true → True ∧ (Value.int IntKind.i64 w = Value.int IntKind.i64 w ∧ Value.int IntKind.i64 (0 : Int) = Value.int IntKind.i64 (0 : Int) ∧ Value.int IntKind.i64 (6 : Int) = Value.int IntKind.i64 (6 : Int) ∧ True) ∧ True ∧ (inM w (0 : Int) (6 : Int) = true → True ∧ (Value.int IntKind.i64 li = Value.int IntKind.i64 li ∧ Value.int IntKind.i64 (0 : Int) = Value.int IntKind.i64 (0 : Int) ∧ Value.int IntKind.i64 w = Value.int IntKind.i64 w ∧ True) ∧ True ∧ (decide ((↑(List.length cs) : Int) ≤ (14 : Int)) = true → (inM li (0 : Int) w = true → (decide ((↑(List.length ks) : Int) ≤ (4 : Int)) = true → List.length cs < (1000000 : Nat) ∧ (((0 : Nat) = (0 : Nat) ∧ (0 : Nat) = (0 : Nat) ∧ List.length cs = List.length cs) ∧ (Fn.func (90 : Nat) = Fn.func (90 : FuncId) ∧ True ∧ ((0 : Nat) = (0 : Nat) ∧ (0 : Nat) = (0 : Nat) ∧ (0 : Nat) = (0 : Nat)) ∧ ((0 : Nat) = (0 : Nat) ∧ (0 : Nat) = (0 : Nat) ∧ (0 : Nat) = (0 : Nat)) ∧ True) ∧ True) ∧ (cs = cs ∧ (Value.int IntKind.i64 f = Value.int IntKind.i64 f ∧ Value.int IntKind.i64 w = Value.int IntKind.i64 w ∧ True ∧ True ∧ True ∧ True) ∧ ((Fn.func (89 : Nat) = Fn.func (89 : FuncId) ∧ True ∧ ((0 : Nat) = (0 : Nat) ∧ (0 : Nat) = (0 : Nat) ∧ (0 : Nat) = (0 : Nat)) ∧ True) ∧ True) ∧ True) ∧ ((!List.any cs fun (y : Cl) => badCM f w y) = true → List.length ks < (1000000 : Nat) ∧ (((0 : Nat) = (0 : Nat) ∧ (0 : Nat) = (0 : Nat) ∧ List.length ks = List.length ks) ∧ (Fn.func (89 : Nat) = Fn.func (89 : FuncId) ∧ True ∧ ((0 : Nat) = (0 : Nat) ∧ (0 : Nat) = (0 : Nat) ∧ (0 : Nat) = (0 : Nat)) ∧ True) ∧ True) ∧ (ks = ks ∧ (Value.int IntKind.i64 f = Value.int IntKind.i64 f ∧ Value.int IntKind.i64 w = Value.int IntKind.i64 w ∧ True ∧ True ∧ True ∧ True) ∧ True) ∧ True ∧ ((Value.bool !List.any ks fun (y : W3) => !wordM f w y) = Value.bool (hearM ((f, w, li), cs, ks)) ∧ True) ∧ True ∧ cs = cs ∧ ks = ks ∧ True) ∧ ((!List.any cs fun (y : Cl) => badCM f w y) = false → True ∧ (Value.bool (hearM ((f, w, li), cs, ks)) = Value.bool false ∧ True) ∧ True ∧ cs = cs ∧ ks = ks ∧ True)) ∧ (decide ((↑(List.length ks) : Int) ≤ (4 : Int)) = false → True ∧ (Value.bool (hearM ((f, w, li), cs, ks)) = Value.bool false ∧ True) ∧ True ∧ cs = cs ∧ ks = ks ∧ True)) ∧ (inM li (0 : Int) w = false → True ∧ (Value.bool (hearM ((f, w, li), cs, ks)) = Value.bool false ∧ True) ∧ True ∧ cs = cs ∧ ks = ks ∧ True)) ∧ (decide ((↑(List.length cs) : Int) ≤ (14 : Int)) = false → (inM li (0 : Int) w = true → True ∧ (Value.bool (hearM ((f, w, li), cs, ks)) = Value.bool false ∧ True) ∧ True ∧ cs = cs ∧ ks = ks ∧ True) ∧ (inM li (0 : Int) w = false → True ∧ (Value.bool (hearM ((f, w, li), cs, ks)) = Value.bool false ∧ True) ∧ True ∧ cs = cs ∧ ks = ks ∧ True))) ∧ (inM w (0 : Int) (6 : Int) = false → (decide ((↑(List.length cs) : Int) ≤ (14 : Int)) = true → True ∧ (Value.bool (hearM ((f, w, li), cs, ks)) = Value.bool false ∧ True) ∧ True ∧ cs = cs ∧ ks = ks ∧ True) ∧ (decide ((↑(List.length cs) : Int) ≤ (14 : Int)) = false → True ∧ (Value.bool (hearM ((f, w, li), cs, ks)) = Value.bool false ∧ True) ∧ True ∧ cs = cs ∧ ks = ks ∧ True))) ∧ (inM f (0 : Int) (6 : Int) = false → (decide ((↑(List.length cs) : Int) ≤ (14 : Int)) = true → True ∧ (Value.bool (hearM ((f, w, li), cs, ks)) = Value.bool false ∧ True) ∧ True ∧ cs = cs ∧ ks = ks ∧ True) ∧ (decide ((↑(List.length cs) : Int) ≤ (14 : Int)) = false → True ∧ (Value.bool (hearM ((f, w, li), cs, ks)) = Value.bool false ∧ True) ∧ True ∧ cs = cs ∧ ks = ks ∧ True)))
    (by kernel_rfl) ?_
  simp only [isHearingS, okH] at hl
  simp only [hearM]
  generalize (cs.any fun y => badCM f w y) = A
  generalize (ks.any fun y => !wordM f w y) = B
  generalize inM f 0 6 = c1
  generalize inM w 0 6 = c2
  generalize inM li 0 w = c3
  have h1 : (cs.length : Int) ≤ 14 ↔ cs.length ≤ 14 := by omega
  have h2 : (ks.length : Int) ≤ 4 ↔ ks.length ≤ 4 := by omega
  have h3 : cs.length < 1000000 := by omega
  have h4 : ks.length < 1000000 := by omega
  cases c1 <;> cases c2 <;> cases c3 <;> simp +contextual [h1, h2, h3, h4]
  exact ⟨fun _ a b => absurd b (by omega), fun a b => absurd b (by omega)⟩

theorem isHearing_sound : Sound Try.prog 79 isHearingS.con := FSpec.sound _ (enter_of Try.func79 (by kernel_rfl) (by kernel_rfl)) isHearing_ok

end AE.Pr
