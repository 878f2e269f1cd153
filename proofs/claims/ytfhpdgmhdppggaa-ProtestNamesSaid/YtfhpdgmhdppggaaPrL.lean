/- The layer 'protest': Proof and Clash. No condition. -/
import Derived.Test.YtfhpdgmhdppggaaPrK
namespace AE.Pr
open Go AE Go.Proofs

theorem best_range (m : Nat) (hm : m ≤ 6) (suits : Int → Bool) : 0 ≤ (bestM m suits).1 ∧ (bestM m suits).1 < 64 := by
  unfold bestM
  cases h : searchM m suits with
  | none => exact ⟨by decide, by decide⟩
  | some s =>
    unfold searchM at h
    obtain ⟨z, _, hz⟩ := List.exists_of_findSome?_eq_some h
    have h1 := List.mem_range.1 (List.mem_of_find?_eq_some hz)
    have h2 := pow64 m hm
    exact ⟨Int.natCast_nonneg _, by show (s : Int) < 64; omega⟩

/-! ### Clash -/
def clashHM (x : HT) : Int × Int := if hearM x then (if clashM (rtM x) (everyH x) then ((bestM x.1.2.1.toNat fun s => clashM (rtM x) s).1, 0) else (0, 4)) else (0, 1)
def clashFS : FSpec UU where
  X := HT
  pick := fun args H => match args with
    | [a] => avH H a
    | _ => none
  args := fun x => [vH x]
  H := fun x => hH x
  R := fun x => .val ⟨.tup [.i (clashHM x).1, .i (clashHM x).2], [], [], []⟩
  pre := fun x => okH x
def TclashF : Tab UU := [(49, openS.con), (51, everyS.con), (71, clashesS.con), (68, needS.con), (65, smallCS.con), (48, caughtS.con)]
theorem TclashF_ok : TclashF.Sound Try.prog := .cons open_sound (.cons every_sound (.cons clashes_sound (.cons need_sound (.cons smallC_sound (.cons caught_sound .nil)))))
set_option maxHeartbeats 0 in
set_option maxRecDepth 100000 in
theorem clashF_ok : ∀ x, clashFS.pre x → FunOk Try.prog 28 (clashFS.args x) (clashFS.H x) (clashFS.R x) := by
  rintro ⟨⟨f, w, li⟩, cs, ks⟩ hl
  refine fun_ofG (T := TclashF) (L := fun _ => none) (hs := fun _ => []) (sp := fun _ => none) hmix TclashF_ok (tl := toldL 70) (toldL_ok told70) (it := fun _ => none) (fun _ _ h => by cases h) Try.func28 (by kernel_rfl) (by kernel_rfl) ?_
  refine Eq.mp (α :=
      (List.length cs < nat_lit 1000 ∧ List.length ks < nat_lit 1000) ∧ ((hearM ((f, w, li), cs, ks) && true) = true → ((Value.int IntKind.i64 f = Value.int IntKind.i64 f ∧ Value.int IntKind.i64 w = Value.int IntKind.i64 w ∧ Value.int IntKind.i64 li = Value.int IntKind.i64 li ∧ (nat_lit 0 = nat_lit 0 ∧ nat_lit 0 = nat_lit 0 ∧ List.length cs = List.length cs) ∧ (nat_lit 0 = nat_lit 0 ∧ nat_lit 0 = nat_lit 0 ∧ List.length ks = List.length ks) ∧ True) ∧ Value.bool true = Value.bool true ∧ True) ∧ (cs = cs ∧ ks = ks ∧ True) ∧ ((0 : Int) ≤ w ∧ w ≤ (6 : Int)) ∧ ((nat_lit 0 = nat_lit 0 ∧ nat_lit 0 = nat_lit 0 ∧ nat_lit 0 = nat_lit 0) ∧ True) ∧ ((True ∧ Value.int IntKind.i64 w = Value.int IntKind.i64 w ∧ True ∧ True ∧ True ∧ True ∧ True) ∧ True) ∧ (RtOk ((f, w, li), ks, saysM cs (0 : Int), saysM cs (1 : Int), saysM cs (2 : Int), saysM cs (3 : Int), saysM cs (4 : Int), saysM cs (5 : Int)) ∧ (0 : Int) ≤ everyM (Int.toNat w) ∧ everyM (Int.toNat w) < (64 : Int)) ∧ ((nat_lit 0 = nat_lit 0 ∧ nat_lit 0 = nat_lit 0 ∧ nat_lit 0 = nat_lit 0) ∧ Value.int IntKind.u64 (everyM (Int.toNat w)) = Value.int IntKind.u64 (everyM (Int.toNat w)) ∧ True) ∧ ((Value.int IntKind.i64 f = Value.int IntKind.i64 f ∧ Value.int IntKind.i64 w = Value.int IntKind.i64 w ∧ Value.int IntKind.i64 li = Value.int IntKind.i64 li ∧ True ∧ (nat_lit 0 = nat_lit 0 ∧ nat_lit 0 = nat_lit 0 ∧ List.length ks = List.length ks) ∧ nat_lit 0 = nat_lit 0 ∧ True) ∧ ks = ks ∧ ((nat_lit 6 = nat_lit 6 ∧ nat_lit 0 = nat_lit 0 ∧ nat_lit 0 = nat_lit 0 ∧ List.length (saysM cs (0 : Int)) = List.length (saysM cs (0 : Int))) ∧ (nat_lit 7 = nat_lit 7 ∧ nat_lit 0 = nat_lit 0 ∧ nat_lit 0 = nat_lit 0 ∧ List.length (saysM cs (1 : Int)) = List.length (saysM cs (1 : Int))) ∧ (nat_lit 8 = nat_lit 8 ∧ nat_lit 0 = nat_lit 0 ∧ nat_lit 0 = nat_lit 0 ∧ List.length (saysM cs (2 : Int)) = List.length (saysM cs (2 : Int))) ∧ (nat_lit 9 = nat_lit 9 ∧ nat_lit 0 = nat_lit 0 ∧ nat_lit 0 = nat_lit 0 ∧ List.length (saysM cs (3 : Int)) = List.length (saysM cs (3 : Int))) ∧ (nat_lit 10 = nat_lit 10 ∧ nat_lit 0 = nat_lit 0 ∧ nat_lit 0 = nat_lit 0 ∧ List.length (saysM cs (4 : Int)) = List.length (saysM cs (4 : Int))) ∧ (nat_lit 11 = nat_lit 11 ∧ nat_lit 0 = nat_lit 0 ∧ nat_lit 0 = nat_lit 0 ∧ List.length (saysM cs (5 : Int)) = List.length (saysM cs (5 : Int))) ∧ True) ∧ saysM cs (0 : Int) = saysM cs (0 : Int) ∧ saysM cs (1 : Int) = saysM cs (1 : Int) ∧ saysM cs (2 : Int) = saysM cs (2 : Int) ∧ saysM cs (3 : Int) = saysM cs (3 : Int) ∧ saysM cs (4 : Int) = saysM cs (4 : Int) ∧ saysM cs (5 : Int) = saysM cs (5 : Int) ∧ True) ∧ True ∧ (clashM ((f, w, li), ks, saysM cs (0 : Int), saysM cs (1 : Int), saysM cs (2 : Int), saysM cs (3 : Int), saysM cs (4 : Int), saysM cs (5 : Int)) (everyM (Int.toNat w)) = true → (Value.bool (clashM ((f, w, li), ks, saysM cs (0 : Int), saysM cs (1 : Int), saysM cs (2 : Int), saysM cs (3 : Int), saysM cs (4 : Int), saysM cs (5 : Int)) (everyM (Int.toNat w))) = Value.bool (clashM ((f, w, li), ks, saysM cs (0 : Int), saysM cs (1 : Int), saysM cs (2 : Int), saysM cs (3 : Int), saysM cs (4 : Int), saysM cs (5 : Int)) (everyM (Int.toNat w))) ∧ Value.int IntKind.i64 (4 : Int) = Value.int IntKind.i64 (4 : Int) ∧ True) ∧ True ∧ (((0 : Int) ≤ w ∧ w ≤ (6 : Int)) ∧ RtOk ((f, w, li), ks, saysM cs (0 : Int), saysM cs (1 : Int), saysM cs (2 : Int), saysM cs (3 : Int), saysM cs (4 : Int), saysM cs (5 : Int))) ∧ (Value.int IntKind.i64 w = Value.int IntKind.i64 w ∧ (Fn.func (nat_lit 71) = Fn.func (71 : FuncId) ∧ ((nat_lit 0 = nat_lit 0 ∧ nat_lit 0 = nat_lit 0 ∧ nat_lit 0 = nat_lit 0) ∧ True) ∧ True) ∧ True) ∧ ((Value.int IntKind.i64 f = Value.int IntKind.i64 f ∧ Value.int IntKind.i64 w = Value.int IntKind.i64 w ∧ Value.int IntKind.i64 li = Value.int IntKind.i64 li ∧ True ∧ (nat_lit 0 = nat_lit 0 ∧ nat_lit 0 = nat_lit 0 ∧ List.length ks = List.length ks) ∧ nat_lit 0 = nat_lit 0 ∧ True) ∧ ks = ks ∧ ((nat_lit 6 = nat_lit 6 ∧ nat_lit 0 = nat_lit 0 ∧ nat_lit 0 = nat_lit 0 ∧ List.length (saysM cs (0 : Int)) = List.length (saysM cs (0 : Int))) ∧ (nat_lit 7 = nat_lit 7 ∧ nat_lit 0 = nat_lit 0 ∧ nat_lit 0 = nat_lit 0 ∧ List.length (saysM cs (1 : Int)) = List.length (saysM cs (1 : Int))) ∧ (nat_lit 8 = nat_lit 8 ∧ nat_lit 0 = nat_lit 0 ∧ nat_lit 0 = nat_lit 0 ∧ List.length (saysM cs (2 : Int)) = List.length (saysM cs (2 : Int))) ∧ (nat_lit 9 = nat_lit 9 ∧ nat_lit 0 = nat_lit 0 ∧ nat_lit 0 = nat_lit 0 ∧ List.length (saysM cs (3 : Int)) = List.length (saysM cs (3 : Int))) ∧ (nat_lit 10 = nat_lit 10 ∧ nat_lit 0 = nat_lit 0 ∧ nat_lit 0 = nat_lit 0 ∧ List.length (saysM cs (4 : Int)) = List.length (saysM cs (4 : Int))) ∧ (nat_lit 11 = nat_lit 11 ∧ nat_lit 0 = nat_lit 0 ∧ nat_lit 0 = nat_lit 0 ∧ List.length (saysM cs (5 : Int)) = List.length (saysM cs (5 : Int))) ∧ True) ∧ saysM cs (0 : Int) = saysM cs (0 : Int) ∧ saysM cs (1 : Int) = saysM cs (1 : Int) ∧ saysM cs (2 : Int) = saysM cs (2 : Int) ∧ saysM cs (3 : Int) = saysM cs (3 : Int) ∧ saysM cs (4 : Int) = saysM cs (4 : Int) ∧ saysM cs (5 : Int) = saysM cs (5 : Int) ∧ True) ∧ True ∧ (Value.nilIface = Value.nilIface ∧ (nat_lit 0 = nat_lit 0 ∧ nat_lit 0 = nat_lit 0 ∧ nat_lit 0 = nat_lit 0) ∧ True) ∧ ((Value.int IntKind.i64 (0 : Int) = Value.int IntKind.i64 (0 : Int) ∧ True) ∧ True) ∧ True ∧ ((Value.int IntKind.i64 (IntKind.wrap IntKind.i64 (Prod.fst (bestM (Int.toNat w) fun (s : Int) => clashM ((f, w, li), ks, saysM cs (0 : Int), saysM cs (1 : Int), saysM cs (2 : Int), saysM cs (3 : Int), saysM cs (4 : Int), saysM cs (5 : Int)) s))) = Value.int IntKind.i64 (Prod.fst (clashHM ((f, w, li), cs, ks))) ∧ Value.int IntKind.i64 (0 : Int) = Value.int IntKind.i64 (Prod.snd (clashHM ((f, w, li), cs, ks))) ∧ True) ∧ True) ∧ True ∧ cs = cs ∧ ks = ks ∧ True) ∧ (clashM ((f, w, li), ks, saysM cs (0 : Int), saysM cs (1 : Int), saysM cs (2 : Int), saysM cs (3 : Int), saysM cs (4 : Int), saysM cs (5 : Int)) (everyM (Int.toNat w)) = false → (Value.bool (clashM ((f, w, li), ks, saysM cs (0 : Int), saysM cs (1 : Int), saysM cs (2 : Int), saysM cs (3 : Int), saysM cs (4 : Int), saysM cs (5 : Int)) (everyM (Int.toNat w))) = Value.bool (clashM ((f, w, li), ks, saysM cs (0 : Int), saysM cs (1 : Int), saysM cs (2 : Int), saysM cs (3 : Int), saysM cs (4 : Int), saysM cs (5 : Int)) (everyM (Int.toNat w))) ∧ Value.int IntKind.i64 (4 : Int) = Value.int IntKind.i64 (4 : Int) ∧ True) ∧ True ∧ True ∧ (((112 : TypeId) = (112 : TypeId) ∧ Value.int IntKind.i64 (4 : Int) = Value.int IntKind.i64 (4 : Int) ∧ True) ∧ (nat_lit 0 = nat_lit 0 ∧ nat_lit 0 = nat_lit 0 ∧ nat_lit 0 = nat_lit 0) ∧ True) ∧ ((Value.int IntKind.i64 (0 : Int) = Value.int IntKind.i64 (0 : Int) ∧ True) ∧ True) ∧ True ∧ ((Value.int IntKind.i64 (0 : Int) = Value.int IntKind.i64 (Prod.fst (clashHM ((f, w, li), cs, ks))) ∧ Value.int IntKind.i64 (4 : Int) = Value.int IntKind.i64 (Prod.snd (clashHM ((f, w, li), cs, ks))) ∧ True) ∧ True) ∧ True ∧ cs = cs ∧ ks = ks ∧ True)) ∧ ((hearM ((f, w, li), cs, ks) && true) = false → ((Value.int IntKind.i64 f = Value.int IntKind.i64 f ∧ Value.int IntKind.i64 w = Value.int IntKind.i64 w ∧ Value.int IntKind.i64 li = Value.int IntKind.i64 li ∧ (nat_lit 0 = nat_lit 0 ∧ nat_lit 0 = nat_lit 0 ∧ List.length cs = List.length cs) ∧ (nat_lit 0 = nat_lit 0 ∧ nat_lit 0 = nat_lit 0 ∧ List.length ks = List.length ks) ∧ True) ∧ Value.bool true = Value.bool true ∧ True) ∧ (cs = cs ∧ ks = ks ∧ True) ∧ True ∧ (((112 : TypeId) = (112 : TypeId) ∧ Value.int IntKind.i64 (openErrM ((f, w, li), cs, ks)) = Value.int IntKind.i64 (openErrM ((f, w, li), cs, ks)) ∧ True) ∧ (nat_lit 0 = nat_lit 0 ∧ nat_lit 0 = nat_lit 0 ∧ nat_lit 0 = nat_lit 0) ∧ True) ∧ ((Value.int IntKind.i64 (0 : Int) = Value.int IntKind.i64 (0 : Int) ∧ True) ∧ True) ∧ True ∧ ((Value.int IntKind.i64 (0 : Int) = Value.int IntKind.i64 (Prod.fst (clashHM ((f, w, li), cs, ks))) ∧ Value.int IntKind.i64 (openErrM ((f, w, li), cs, ks)) = Value.int IntKind.i64 (Prod.snd (clashHM ((f, w, li), cs, ks))) ∧ True) ∧ True) ∧ True ∧ cs = cs ∧ ks = ks ∧ True))
    (by kernel_rfl) ?_
  simp only [clashFS, okH] at hl
  simp only [eq_self, true_and, and_true, Int.toNat_natCast, Nat.zero_add, Nat.sub_zero]
  refine ⟨hl, fun hh => ?_, fun hh => ?_⟩
  · rw [Bool.and_true] at hh
    have hk := hear_ok hh
    have hx := rt_ok hk
    have hw : 0 ≤ w ∧ w ≤ 6 := hk.w
    have hE := everyB w.toNat (by omega)
    have hr : clashHM ((f, w, li), cs, ks) = if clashM (rtM ((f, w, li), cs, ks)) (everyM w.toNat) then ((bestM w.toNat fun s => clashM (rtM ((f, w, li), cs, ks)) s).1, 0) else (0, 4) := by
      unfold clashHM; rw [if_pos hh]; rfl
    rw [hr]
    refine ⟨hw, ⟨hx, hE⟩, fun hc => ?_, fun hc => ?_⟩
    · have hb := best_range w.toNat (by omega) fun s => clashM ((f, w, li), ks, saysM cs 0, saysM cs 1, saysM cs 2, saysM cs 3, saysM cs 4, saysM cs 5) s
      rw [if_pos hc, wrap_id (by omega) (by omega)]
      exact ⟨⟨hw, hx⟩, rfl, rfl⟩
    · rw [if_neg (by rw [hc]; simp)]
      exact ⟨rfl, rfl⟩
  · rw [Bool.and_true] at hh
    have hr : clashHM ((f, w, li), cs, ks) = (0, openErrM ((f, w, li), cs, ks)) := by
      unfold clashHM; rw [if_neg (by rw [hh]; simp), openErrM, if_neg (by rw [hh]; simp)]
    rw [hr]
    exact ⟨rfl, rfl⟩

theorem clashF_sound : Sound Try.prog 28 clashFS.con := FSpec.sound _ (enter_of Try.func28 (by kernel_rfl) (by kernel_rfl)) clashF_ok

/-! ### Proof -/
def proofM (x : HT) (w : W3) : Int × Int := if hearM x && wordM x.1.1 x.1.2.1 w then (if (bestM x.1.2.1.toNat fun s => proveM (rtM x) s w).2 then ((bestM x.1.2.1.toNat fun s => proveM (rtM x) s w).1, 0) else (0, 4)) else (0, openErrM x)
def proofS : FSpec UU where
  X := HT × W3
  pick := fun args H => match args with
    | [a, b] => match avH H a, avW b with
      | some a, some b => some (a, b)
      | _, _ => none
    | _ => none
  args := fun x => [vH x.1, vW x.2]
  H := fun x => hH x.1
  R := fun x => .val ⟨.tup [.i (proofM x.1 x.2).1, .i (proofM x.1 x.2).2], [], [], []⟩
  pre := fun x => okH x.1
def Tproof : Tab UU := [(54, isWordS.con), (49, openS.con), (68, needS.con), (65, smallPS.con), (48, caughtS.con)]
theorem Tproof_ok : Tproof.Sound Try.prog := .cons isWord_sound (.cons open_sound (.cons need_sound (.cons smallP_sound (.cons caught_sound .nil))))
set_option maxHeartbeats 0 in
set_option maxRecDepth 100000 in
theorem proof_ok : ∀ x, proofS.pre x → FunOk Try.prog 26 (proofS.args x) (proofS.H x) (proofS.R x) := by
  rintro ⟨⟨⟨f, w, li⟩, cs, ks⟩, ⟨p, n, q⟩⟩ hl
  refine fun_ofG (T := Tproof) (L := fun _ => none) (hs := fun _ => []) (sp := fun _ => none) hmix Tproof_ok (tl := toldL 64) (toldL_ok told64) (it := fun _ => none) (fun _ _ h => by cases h) Try.func26 (by kernel_rfl) (by kernel_rfl) ?_
  refine Eq.mp (α :=
      True ∧ ((Value.int IntKind.i64 f = Value.int IntKind.i64 f ∧ Value.int IntKind.i64 w = Value.int IntKind.i64 w ∧ True ∧ True ∧ True ∧ True) ∧ (Value.bool p = Value.bool p ∧ Value.int IntKind.i64 n = Value.int IntKind.i64 n ∧ Value.bool q = Value.bool q ∧ True) ∧ True) ∧ True ∧ (List.length cs < nat_lit 1000 ∧ List.length ks < nat_lit 1000) ∧ ((hearM ((f, w, li), cs, ks) && wordM f w (p, n, q)) = true → ((Value.int IntKind.i64 f = Value.int IntKind.i64 f ∧ Value.int IntKind.i64 w = Value.int IntKind.i64 w ∧ Value.int IntKind.i64 li = Value.int IntKind.i64 li ∧ (nat_lit 0 = nat_lit 0 ∧ nat_lit 0 = nat_lit 0 ∧ List.length cs = List.length cs) ∧ (nat_lit 0 = nat_lit 0 ∧ nat_lit 0 = nat_lit 0 ∧ List.length ks = List.length ks) ∧ True) ∧ Value.bool (wordM f w (p, n, q)) = Value.bool (wordM f w (p, n, q)) ∧ True) ∧ (cs = cs ∧ ks = ks ∧ True) ∧ (((0 : Int) ≤ w ∧ w ≤ (6 : Int)) ∧ RtOk ((f, w, li), ks, saysM cs (0 : Int), saysM cs (1 : Int), saysM cs (2 : Int), saysM cs (3 : Int), saysM cs (4 : Int), saysM cs (5 : Int)) ∧ (0 : Int) ≤ n ∧ n < (6 : Int)) ∧ (Value.int IntKind.i64 w = Value.int IntKind.i64 w ∧ (Fn.func (nat_lit 66) = Fn.func (66 : FuncId) ∧ True ∧ (nat_lit 0 = nat_lit 0 ∧ nat_lit 0 = nat_lit 0 ∧ nat_lit 0 = nat_lit 0) ∧ (nat_lit 0 = nat_lit 0 ∧ nat_lit 0 = nat_lit 0 ∧ nat_lit 0 = nat_lit 0) ∧ True) ∧ True) ∧ ((Value.int IntKind.i64 f = Value.int IntKind.i64 f ∧ Value.int IntKind.i64 w = Value.int IntKind.i64 w ∧ Value.int IntKind.i64 li = Value.int IntKind.i64 li ∧ True ∧ (nat_lit 0 = nat_lit 0 ∧ nat_lit 0 = nat_lit 0 ∧ List.length ks = List.length ks) ∧ nat_lit 0 = nat_lit 0 ∧ True) ∧ ks = ks ∧ ((nat_lit 7 = nat_lit 7 ∧ nat_lit 0 = nat_lit 0 ∧ nat_lit 0 = nat_lit 0 ∧ List.length (saysM cs (0 : Int)) = List.length (saysM cs (0 : Int))) ∧ (nat_lit 8 = nat_lit 8 ∧ nat_lit 0 = nat_lit 0 ∧ nat_lit 0 = nat_lit 0 ∧ List.length (saysM cs (1 : Int)) = List.length (saysM cs (1 : Int))) ∧ (nat_lit 9 = nat_lit 9 ∧ nat_lit 0 = nat_lit 0 ∧ nat_lit 0 = nat_lit 0 ∧ List.length (saysM cs (2 : Int)) = List.length (saysM cs (2 : Int))) ∧ (nat_lit 10 = nat_lit 10 ∧ nat_lit 0 = nat_lit 0 ∧ nat_lit 0 = nat_lit 0 ∧ List.length (saysM cs (3 : Int)) = List.length (saysM cs (3 : Int))) ∧ (nat_lit 11 = nat_lit 11 ∧ nat_lit 0 = nat_lit 0 ∧ nat_lit 0 = nat_lit 0 ∧ List.length (saysM cs (4 : Int)) = List.length (saysM cs (4 : Int))) ∧ (nat_lit 12 = nat_lit 12 ∧ nat_lit 0 = nat_lit 0 ∧ nat_lit 0 = nat_lit 0 ∧ List.length (saysM cs (5 : Int)) = List.length (saysM cs (5 : Int))) ∧ True) ∧ saysM cs (0 : Int) = saysM cs (0 : Int) ∧ saysM cs (1 : Int) = saysM cs (1 : Int) ∧ saysM cs (2 : Int) = saysM cs (2 : Int) ∧ saysM cs (3 : Int) = saysM cs (3 : Int) ∧ saysM cs (4 : Int) = saysM cs (4 : Int) ∧ saysM cs (5 : Int) = saysM cs (5 : Int) ∧ ((nat_lit 0 = nat_lit 0 ∧ nat_lit 0 = nat_lit 0 ∧ nat_lit 0 = nat_lit 0) ∧ True) ∧ (Value.bool p = Value.bool p ∧ Value.int IntKind.i64 n = Value.int IntKind.i64 n ∧ Value.bool q = Value.bool q ∧ True) ∧ True) ∧ True ∧ (Prod.snd (bestM (Int.toNat w) fun (s : Int) => proveM ((f, w, li), ks, saysM cs (0 : Int), saysM cs (1 : Int), saysM cs (2 : Int), saysM cs (3 : Int), saysM cs (4 : Int), saysM cs (5 : Int)) s (p, n, q)) = true → (Value.bool (Prod.snd (bestM (Int.toNat w) fun (s : Int) => proveM ((f, w, li), ks, saysM cs (0 : Int), saysM cs (1 : Int), saysM cs (2 : Int), saysM cs (3 : Int), saysM cs (4 : Int), saysM cs (5 : Int)) s (p, n, q))) = Value.bool (Prod.snd (bestM (Int.toNat w) fun (s : Int) => proveM ((f, w, li), ks, saysM cs (0 : Int), saysM cs (1 : Int), saysM cs (2 : Int), saysM cs (3 : Int), saysM cs (4 : Int), saysM cs (5 : Int)) s (p, n, q))) ∧ Value.int IntKind.i64 (4 : Int) = Value.int IntKind.i64 (4 : Int) ∧ True) ∧ True ∧ True ∧ (Value.nilIface = Value.nilIface ∧ (nat_lit 0 = nat_lit 0 ∧ nat_lit 0 = nat_lit 0 ∧ nat_lit 0 = nat_lit 0) ∧ True) ∧ ((Value.int IntKind.i64 (0 : Int) = Value.int IntKind.i64 (0 : Int) ∧ True) ∧ True) ∧ True ∧ ((Value.int IntKind.i64 (IntKind.wrap IntKind.i64 (Prod.fst (bestM (Int.toNat w) fun (s : Int) => proveM ((f, w, li), ks, saysM cs (0 : Int), saysM cs (1 : Int), saysM cs (2 : Int), saysM cs (3 : Int), saysM cs (4 : Int), saysM cs (5 : Int)) s (p, n, q)))) = Value.int IntKind.i64 (Prod.fst (proofM ((f, w, li), cs, ks) (p, n, q))) ∧ Value.int IntKind.i64 (0 : Int) = Value.int IntKind.i64 (Prod.snd (proofM ((f, w, li), cs, ks) (p, n, q))) ∧ True) ∧ True) ∧ True ∧ cs = cs ∧ ks = ks ∧ True) ∧ (Prod.snd (bestM (Int.toNat w) fun (s : Int) => proveM ((f, w, li), ks, saysM cs (0 : Int), saysM cs (1 : Int), saysM cs (2 : Int), saysM cs (3 : Int), saysM cs (4 : Int), saysM cs (5 : Int)) s (p, n, q)) = false → (Value.bool (Prod.snd (bestM (Int.toNat w) fun (s : Int) => proveM ((f, w, li), ks, saysM cs (0 : Int), saysM cs (1 : Int), saysM cs (2 : Int), saysM cs (3 : Int), saysM cs (4 : Int), saysM cs (5 : Int)) s (p, n, q))) = Value.bool (Prod.snd (bestM (Int.toNat w) fun (s : Int) => proveM ((f, w, li), ks, saysM cs (0 : Int), saysM cs (1 : Int), saysM cs (2 : Int), saysM cs (3 : Int), saysM cs (4 : Int), saysM cs (5 : Int)) s (p, n, q))) ∧ Value.int IntKind.i64 (4 : Int) = Value.int IntKind.i64 (4 : Int) ∧ True) ∧ True ∧ True ∧ (((112 : TypeId) = (112 : TypeId) ∧ Value.int IntKind.i64 (4 : Int) = Value.int IntKind.i64 (4 : Int) ∧ True) ∧ (nat_lit 0 = nat_lit 0 ∧ nat_lit 0 = nat_lit 0 ∧ nat_lit 0 = nat_lit 0) ∧ True) ∧ ((Value.int IntKind.i64 (0 : Int) = Value.int IntKind.i64 (0 : Int) ∧ True) ∧ True) ∧ True ∧ ((Value.int IntKind.i64 (0 : Int) = Value.int IntKind.i64 (Prod.fst (proofM ((f, w, li), cs, ks) (p, n, q))) ∧ Value.int IntKind.i64 (4 : Int) = Value.int IntKind.i64 (Prod.snd (proofM ((f, w, li), cs, ks) (p, n, q))) ∧ True) ∧ True) ∧ True ∧ cs = cs ∧ ks = ks ∧ True)) ∧ ((hearM ((f, w, li), cs, ks) && wordM f w (p, n, q)) = false → ((Value.int IntKind.i64 f = Value.int IntKind.i64 f ∧ Value.int IntKind.i64 w = Value.int IntKind.i64 w ∧ Value.int IntKind.i64 li = Value.int IntKind.i64 li ∧ (nat_lit 0 = nat_lit 0 ∧ nat_lit 0 = nat_lit 0 ∧ List.length cs = List.length cs) ∧ (nat_lit 0 = nat_lit 0 ∧ nat_lit 0 = nat_lit 0 ∧ List.length ks = List.length ks) ∧ True) ∧ Value.bool (wordM f w (p, n, q)) = Value.bool (wordM f w (p, n, q)) ∧ True) ∧ (cs = cs ∧ ks = ks ∧ True) ∧ True ∧ (((112 : TypeId) = (112 : TypeId) ∧ Value.int IntKind.i64 (openErrM ((f, w, li), cs, ks)) = Value.int IntKind.i64 (openErrM ((f, w, li), cs, ks)) ∧ True) ∧ (nat_lit 0 = nat_lit 0 ∧ nat_lit 0 = nat_lit 0 ∧ nat_lit 0 = nat_lit 0) ∧ True) ∧ ((Value.int IntKind.i64 (0 : Int) = Value.int IntKind.i64 (0 : Int) ∧ True) ∧ True) ∧ True ∧ ((Value.int IntKind.i64 (0 : Int) = Value.int IntKind.i64 (Prod.fst (proofM ((f, w, li), cs, ks) (p, n, q))) ∧ Value.int IntKind.i64 (openErrM ((f, w, li), cs, ks)) = Value.int IntKind.i64 (Prod.snd (proofM ((f, w, li), cs, ks) (p, n, q))) ∧ True) ∧ True) ∧ True ∧ cs = cs ∧ ks = ks ∧ True))
    (by kernel_rfl) ?_
  simp only [proofS, okH] at hl
  simp only [eq_self, true_and, and_true, Int.toNat_natCast, Nat.zero_add, Nat.sub_zero]
  refine ⟨hl, fun hh => ?_, fun hh => ?_⟩
  · have hh2 : hearM ((f, w, li), cs, ks) = true ∧ wordM f w (p, n, q) = true := by rw [← Bool.and_eq_true]; exact hh
    have hk := hear_ok hh2.1
    have hx := rt_ok hk
    have hw : 0 ≤ w ∧ w ≤ 6 := hk.w
    have hW6 : okW (p, n, q) := okW_of hk.f hk.w hh2.2
    have hr : proofM ((f, w, li), cs, ks) (p, n, q) = if (bestM w.toNat fun s => proveM (rtM ((f, w, li), cs, ks)) s (p, n, q)).2 then ((bestM w.toNat fun s => proveM (rtM ((f, w, li), cs, ks)) s (p, n, q)).1, 0) else (0, 4) := by
      unfold proofM; rw [if_pos hh]
    rw [hr]
    refine ⟨⟨hw, hx, hW6⟩, fun hc => ?_, fun hc => ?_⟩
    · have hb := best_range w.toNat (by omega) fun s => proveM ((f, w, li), ks, saysM cs 0, saysM cs 1, saysM cs 2, saysM cs 3, saysM cs 4, saysM cs 5) s (p, n, q)
      rw [if_pos hc, wrap_id (by omega) (by omega)]
      exact ⟨rfl, rfl⟩
    · rw [if_neg (by rw [hc]; simp)]
      exact ⟨rfl, rfl⟩
  · have hr : proofM ((f, w, li), cs, ks) (p, n, q) = (0, openErrM ((f, w, li), cs, ks)) := by
      unfold proofM; rw [if_neg (by rw [hh]; simp)]
    rw [hr]
    exact ⟨rfl, rfl⟩

theorem proof_sound : Sound Try.prog 26 proofS.con := FSpec.sound _ (enter_of Try.func26 (by kernel_rfl) (by kernel_rfl)) proof_ok
end AE.Pr
