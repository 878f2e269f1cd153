/- An own symbolic executor for the model's code, and what the functions beneath the law compute, joined out of: SoRD, SoRE, SoEA, SoEB, SoRF, TmRA, TmY, TmRB, TmRC, TmRD, TmRE, TmMA, TcA, TcB, TcC, TdA, TdB, TdC, TcD, TdD, TmZ, PrR, AeR, SsR, TmAr. No condition. -/
import Derived.Test.YtlhpkhpgjccbpaaGreatM5
import Derived.Test.YtlhpkhpgjccbpaaGreatRows
import Derived.ProofKit
import Derived.OpenShut
import Derived.Below
import Derived.Carry
import Derived.ChangeArms

set_option linter.unusedSimpArgs false
set_option linter.unusedVariables false
set_option maxHeartbeats 0
set_option maxRecDepth 100000
namespace AE.Soil
open Go AE Go.Proofs

def hokM (g : GroundT) : Bool := (List.range (nM g)).all fun k => !decide ((hardM g (k : Int)).1 > (hardM g (k : Int)).2)
theorem hok_bad {g : GroundT} {k : Nat} (hk : k < nM g) (h : (hardM g (k : Int)).1 > (hardM g (k : Int)).2) : hokM g = false := by
  unfold hokM
  rw [List.all_eq_false]
  exact ⟨k, List.mem_range.2 hk, by rw [decide_eq_true h]; decide⟩
theorem hok_all {g : GroundT} : hokM g = true ↔ ∀ k : Nat, k < nM g → ¬ (hardM g (k : Int)).1 > (hardM g (k : Int)).2 := by
  unfold hokM
  rw [List.all_eq_true]
  simp only [List.mem_range, Bool.not_eq_true', decide_eq_false_iff_not]
def rhdH (g : GroundT) (l : List Span) : Heap UU := [.one (.ro .pit g.pits), .one (.cells (cGround g 0) 28), .one (.row .span l 23)]
def rhdL1 (g : GroundT) : LSpec UU where
  T := { x : Nat // x ≤ nM g }
  fr := fun x => [(1, .ptr 1 0 0 0), (4, .gs 2 0), (5, .i x.1)]
  H := fun x => rhdH g (base0M g x.1)
  mu := fun x => nM g - x.1
def rhdL2 (g : GroundT) : LSpec UU where
  T := { i : Nat // i ≤ g.pits.length }
  fr := fun i => [(1, .ptr 1 0 0 0), (4, .gs 2 0), (6, .i i.1)]
  H := fun i => rhdH g (base1M g i.1)
  mu := fun i => g.pits.length - i.1
def rhdL3 (g : GroundT) : LSpec UU where
  T := { k : Nat // k ≤ nM g }
  fr := fun k => [(1, .ptr 1 0 0 0), (4, .gs 2 0), (7, .i k.1)]
  H := fun k => rhdH g (roundM g k.1)
  mu := fun k => nM g - k.1
def rhdL4 (g : GroundT) : LSpec UU where
  T := { p : Nat × Nat // p.1 < nM g ∧ p.2 ≤ nM g - 1 }
  fr := fun p => [(1, .ptr 1 0 0 0), (4, .gs 2 0), (7, .i p.1.1), (8, .i ((p.1.2 + 1 : Nat) : Int))]
  H := fun p => rhdH g (sweepM g.rise (roundM g p.1.1) p.1.2)
  mu := fun p => nM g - p.1.2
def rhdL5 (g : GroundT) : LSpec UU where
  T := { x : Nat // x ≤ nM g ∧ ∀ k : Nat, k < x → ¬ (hardM g (k : Int)).1 > (hardM g (k : Int)).2 }
  fr := fun x => [(1, .ptr 1 0 0 0), (4, .gs 2 0), (11, .i x.1)]
  H := fun _ => rhdH g (roundM g (nM g))
  mu := fun x => nM g - x.1
def rhdLs (g : GroundT) (k : Nat) : Option (LRule UU) :=
  match k with
  | 3 => some (.inv (rhdL1 g))
  | 7 => some (.inv (rhdL2 g))
  | 11 => some (.inv (rhdL3 g))
  | 14 => some (.invR (rhdL4 g) fun a b => b.1.1 = a.1.1)
  | 20 => some (.inv (rhdL5 g))
  | _ => none
def rhdS : FSpec2 UU where
  X := GroundT
  pick := fun args H => match args with
    | [a] => avGround H a
    | _ => none
  args := fun x => [vGround x 0]
  H := fun x => [.one (.ro .pit x.pits)]
  c := fun x => hokM x
  R := fun x => .val ⟨.tup [.gs 1 0, .b true], [], [], [.row .span (hardsM x (nM x)) 23]⟩
  R' := fun _ => .val ⟨.tup [.v (.slice none 0 0), .b false], [], [], []⟩
  pre := fun x => groundM x = true
theorem rhd_ok : ∀ x, rhdS.pre x → (rhdS.c x = true → FunOk Tryz.prog 81 (rhdS.args x) (rhdS.H x) (rhdS.R x)) ∧ (rhdS.c x = false → FunOk Tryz.prog 81 (rhdS.args x) (rhdS.H x) (rhdS.R' x)) := by
  rintro ⟨long, rise, change, ps⟩ hx
  refine fun_of2 (T := []) (L := rhdLs ⟨long, rise, change, ps⟩) (hs := fun _ => []) (sp := fun _ => none) hmix .nil (td := fun _ => none) (fun _ _ h => by cases h) (it := fun _ => none) (fun _ _ h => by cases h) Tryz.func81 (by kernel_rfl) (by kernel_rfl) ?_
  refine Eq.mp (α :=
      let Al := (23 : TypeId); let A4 := nat_lit 0 = nat_lit 0 ∧ nat_lit 0 = nat_lit 0 ∧ nat_lit 0 = nat_lit 0; let Av := hokM (GroundT.mk long rise change ps) = true; let Ag := Value.int IntKind.i64 (0 : Int); let Aw := hokM (GroundT.mk long rise change ps) = false; let Ax := fun (x : Nat) => x ≤ nM (GroundT.mk long rise change ps); let Ay := True ∧ ps = ps ∧ True; let Az := AV.v Ag; let AA := AV.v (Value.int IntKind.i64 (1000 : Int)); let AB := fun (k : Nat) => hardM (GroundT.mk long rise change ps) (↑k : Int); let AC : List Span := hardsM (GroundT.mk long rise change ps) (nM (GroundT.mk long rise change ps)); let Aa : List Span := roundM (GroundT.mk long rise change ps) (nM (GroundT.mk long rise change ps)); let A2 : Type := { x : Nat // Ax x }; let Am := Value.slice none (nat_lit 0) (nat_lit 0) = Value.slice none (nat_lit 0) (nat_lit 0); let A7 := ((0 : Int), (0 : Int)); let Ah := fun (x : A2) => Subtype.val x; let A8 := Al = Al; let AD := List.length Aa; let A1 : Type := { i : Nat // (i ≤ (List.length (GroundT.pits (GroundT.mk long rise change ps)))) }; let An := fun (x : A1) => Subtype.val x; let Ao := fun (x : A2) => (↑(Ah x) : Int); let Ai := fun (x : A2) => roundM (GroundT.mk long rise change ps) (Ah x); let Ad := fun (x : A2) => base0M (GroundT.mk long rise change ps) (Ah x); let Aj := fun (x : A2) => Value.int IntKind.i64 (Ao x); let Ae := fun (x : A1) => (↑(An x) : Int); let Af := fun (x : A1) => base1M (GroundT.mk long rise change ps) (An x); let AE := fun (t : A1) => Int.toNat (Ae t); let AF := fun (x : A1) => Value.int IntKind.i64 (Ae x); let AG := fun (x : A2) => nM (GroundT.mk long rise change ps) - Ah x; let AH := fun (x : A1) => List.length ps - An x; let AI := fun (t : A1) => List.length (Af t); let AJ := fun (t : A1) => nat_lit 0 + AE t; let AK := fun (x : A2) => (Ag = Aj x) ∧ True; let AL := fun (t : A1) => Ae t < ((↑(List.length ps) : Int)); let BG := fun (x : Nat) => ∀ (k : Nat), (k < x → (¬((Prod.fst (AB k)) > (Prod.snd (AB k))))); let AM := fun (t : A1) => AJ t < List.length ps; let A0 : Type := { p : Nat × Nat // ((Prod.fst p < nM (GroundT.mk long rise change ps)) ∧ (Prod.snd p ≤ (nM (GroundT.mk long rise change ps) - (1 : Nat)))) }; let AN := fun (x : A0) => Subtype.val x; let Ak := fun (x : A0) => Prod.snd (AN x); let Ab := fun (x : A0) => Prod.fst (AN x); let A5 := (Value.int IntKind.i64 long = Value.int IntKind.i64 long) ∧ (Value.int IntKind.i64 rise = Value.int IntKind.i64 rise) ∧ (Value.int IntKind.i64 change = Value.int IntKind.i64 change) ∧ (nat_lit 0 = nat_lit 0 ∧ nat_lit 0 = nat_lit 0 ∧ List.length ps = List.length ps) ∧ True; let A3 : Type := { x : Nat // (Ax x ∧ BG x) }; let AO := fun (t : A2) => decide ((Ao t ≤ long)); let AP := fun (x : A3) => Subtype.val x; let AQ := fun (x : A0) => (↑(Ab x) : Int); let AR := fun (t : A2) => AO t = true; let AS := fun (t : A2) => AO t = false; let Ap := fun (x : A0) => Value.int IntKind.i64 (AQ x); let AT := fun (x t : A2) => AG x < AG t; let Ac := fun (x : A3) => (↑(AP x) : Int); let AU := fun (x : A3) => Value.int IntKind.i64 (Ac x); let A9 := fun (x : A0) => (↑((Ak x + nat_lit 1)) : Int); let AW := fun (x : A0) => nM (GroundT.mk long rise change ps) - Ak x; let AX := fun (x : A0) => Value.int IntKind.i64 (A9 x); let AY := fun (x : A3) => nM (GroundT.mk long rise change ps) - AP x; let AZ := fun (t : A0) => (↑((Ak t + (1 : Nat))) : Int); let B0 := fun (t : A3) => nat_lit 0 + (Int.toNat (Ac t)); let B1 := fun (t : A1) => ((0 : Int) ≤ Ae t) ∧ AL t; let B2 := fun (t : A0) => (0 : Int) ≤ A9 t; let Aq := fun (t : A0) => nat_lit 0 + (Int.toNat (A9 t)); let B3 := fun (t : A1) => decide (AL t); let Ar := fun (t : A0) => IntKind.wrap IntKind.i64 ((A9 t - (1 : Int))); let B4 := fun (t : A0) => (0 : Nat) + (Int.toNat (AZ t)); let B5 := fun (t : A3) => B0 t < AD; let As := fun (t : A0) => nat_lit 0 + (Int.toNat (Ar t)); let B6 := ((0 : Int), ((A7, ((A7, ((A7, A7))))))); let B7 := fun (t : A3) => List.getD Aa (B0 t) A7; let B8 := fun (t : A0) => (0 : Nat) + (Int.toNat ((IntKind.wrap IntKind.i64 ((AZ t - (1 : Int)))))); let B9 := fun (t x : A0) => Ab t = Ab x; let A6 := fun (x : A0) => sweepM rise ((roundM (GroundT.mk long rise change ps) (Ab x))) (Ak x); let At := fun (t : A0) => List.length (A6 t); let Ba := fun (t : A0) => (↑(At t) : Int); let Bb := fun (t : A1) => List.getD ps (AJ t) B6; let Bc := fun (t : A3) => decide ((Ac t ≤ long)); let Bd := fun (t : A1) => List.getD ps (((0 : Nat) + AE t)) B6; let Au := fun (t : A1) => Prod.fst (Bb t); let Be := fun (t : A0) => decide ((A9 t ≤ long)); let Bf := fun (t : A1) => Prod.fst ((Prod.snd (Bb t))); let Bg := fun (t : A3) => ((0 : Int) ≤ Ac t) ∧ (Ac t < ((↑AD : Int))); let Bh := fun (t : A1) => Prod.fst (Bf t); let Bi := fun (t : A1) => Prod.fst ((Prod.snd (Bd t))); let Bj := fun (t : A1) => [(AV.v ((Value.int IntKind.i64 ((Prod.snd (Bf t))))))]; let Bk := fun (t : A0) => List.getD (A6 t) (Aq t) A7; let Bl := fun (t : A0) => Prod.fst (Bk t); let Bm := fun (t : A0) => Prod.snd (Bk t); let Bn := fun (t : A0) => As t < At t; let Bo := fun (t : A0) => List.getD (A6 t) (B4 t) A7; let Bp := fun (t : A0) => Prod.fst (Bo t); let Bq := fun (t : A0) => Prod.snd (Bo t); let Br := fun (t : A0) => List.getD (A6 t) (As t) A7; let Bs := fun (t : A0) => Prod.fst (Br t); let Bt := fun (t : A0) => Prod.snd (Br t); let Bu := fun (t : A0) => List.getD (A6 t) (B8 t) A7; let Bv := fun (t : A0) => Prod.fst (Bu t); let Bw := fun (t : A0) => Prod.snd (Bu t); let Bx := fun (t : A0) => ((0 : Int) ≤ Ar t) ∧ Ar t < Ba t; let By := fun (t : A3) => decide (((Prod.fst (B7 t)) > (Prod.snd (B7 t)))); let Bz := fun (t : A0) => max (Bs t) ((IntKind.wrap IntKind.i64 ((Bl t - rise)))); let BA := fun (t : A0) => min (Bw t) ((IntKind.wrap IntKind.i64 ((Bq t + rise)))); let BB := fun (t : A0) => max (Bp t) ((IntKind.wrap IntKind.i64 ((Bv t - rise)))); let BC := fun (t : A0) => max (Bv t) ((IntKind.wrap IntKind.i64 ((Bp t - rise)))); let BD := fun (t : A0) => AV.v ((Value.int IntKind.i64 ((min (Bq t) ((IntKind.wrap IntKind.i64 ((Bw t + rise)))))))); let BE := fun (t : A0) => [(AV.v ((Value.int IntKind.i64 (BA t))))]; let BF := fun (t : A0) => List.length (List.set (A6 t) (As t) (Bz t, BA t)); (∃ (x : A2), (True ∧ nat_lit 0 = nat_lit 0 ∧ True ∧ True) ∧ (True ∧ (True ∧ True ∧ True ∧ True ∧ True) ∧ Ad x = [] ∧ True) ∧ (A4 ∧ Am ∧ AK x) ∧ True ∧ ps = ps ∧ A5 ∧ True ∧ True) ∧ ∀ (t : A2), (AR t → (nat_lit 1 = nat_lit 1 ∧ Az = Az ∧ AA = AA ∧ True) ∧ nat_lit 1 ≤ nat_lit 1 ∧ List.length (Ad t) + nat_lit 1 ≤ nat_lit 1099511627776 ∧ True ∧ ∃ (x : A2), ((A4 ∧ nat_lit 0 = nat_lit 0 ∧ Value.int IntKind.i64 (IntKind.wrap IntKind.i64 (Ao t + (1 : Int))) = Aj x ∧ True) ∧ True ∧ ps = ps ∧ A5 ∧ (nat_lit 23 = Al ∧ Ad t ++ List.take (1 : Nat) (List.drop (0 : Nat) [((0 : Int), (1000 : Int))]) = Ad x) ∧ True) ∧ AT x t) ∧ (AS t → (∃ (x : A1), (A4 ∧ nat_lit 0 = nat_lit 0 ∧ Ag = AF x ∧ True) ∧ True ∧ ps = ps ∧ A5 ∧ (A8 ∧ Ad t = Af x) ∧ True) ∧ ∀ (t : A1), (B3 t = true → B1 t ∧ AM t ∧ B1 t ∧ AM t ∧ ((0 : Int) ≤ Au t ∧ Au t < (↑(AI t) : Int)) ∧ nat_lit 0 + Int.toNat (Au t) < AI t ∧ AV.v (Value.int IntKind.i64 (Prod.fst (Bi t))) :: Bj t = AV.v (Value.int IntKind.i64 (Bh t)) :: Bj t ∧ True ∧ ∃ (x : A1), ((A4 ∧ nat_lit 0 = nat_lit 0 ∧ Value.int IntKind.i64 (IntKind.wrap IntKind.i64 (Ae t + (1 : Int))) = AF x ∧ True) ∧ True ∧ ps = ps ∧ A5 ∧ (A8 ∧ List.set (Af t) ((0 : Nat) + Int.toNat (Prod.fst (Bd t))) (Bh t, Prod.snd (Bi t)) = Af x) ∧ True) ∧ AH x < AH t) ∧ (B3 t = false → (∃ (x : A2), (A4 ∧ nat_lit 0 = nat_lit 0 ∧ AK x) ∧ True ∧ ps = ps ∧ A5 ∧ (A8 ∧ Af t = Ai x) ∧ True) ∧ ∀ (t : A2), (AR t → ∃ (x : A0), ((A4 ∧ nat_lit 0 = nat_lit 0 ∧ Aj t = Ap x ∧ Value.int IntKind.i64 (1 : Int) = AX x ∧ True) ∧ True ∧ ps = ps ∧ A5 ∧ (A8 ∧ Ai t = A6 x) ∧ True) ∧ Ab x = Ab x ∧ ∀ (t_1 : A0), B9 t_1 x → (Be t_1 = true → Bx t_1 ∧ Bn t_1 ∧ (B2 t_1 ∧ A9 t_1 < Ba t_1) ∧ Aq t_1 < At t_1 ∧ Bx t_1 ∧ Bn t_1 ∧ AV.v (Value.int IntKind.i64 (Bz t_1)) :: BE t_1 = AV.v (Value.int IntKind.i64 (BC t_1)) :: BE t_1 ∧ (B2 t_1 ∧ A9 t_1 < (↑(BF t_1) : Int)) ∧ Aq t_1 < BF t_1 ∧ [AV.v (Value.int IntKind.i64 (max (Bl t_1) (IntKind.wrap IntKind.i64 (Bs t_1 - rise)))), BD t_1] = [AV.v (Value.int IntKind.i64 (BB t_1)), BD t_1] ∧ True ∧ ∃ (x_1 : A0), ((A4 ∧ nat_lit 0 = nat_lit 0 ∧ Ap t_1 = Ap x_1 ∧ Value.int IntKind.i64 (IntKind.wrap IntKind.i64 (A9 t_1 + (1 : Int))) = AX x_1 ∧ True) ∧ True ∧ ps = ps ∧ A5 ∧ (A8 ∧ List.set (List.set (A6 t_1) (B8 t_1) (BC t_1, min (Bt t_1) (IntKind.wrap IntKind.i64 (Bm t_1 + rise)))) (B4 t_1) (BB t_1, min (Bm t_1) (IntKind.wrap IntKind.i64 (Bt t_1 + rise))) = A6 x_1) ∧ True) ∧ AW x_1 < AW t_1 ∧ B9 x_1 x) ∧ (Be t_1 = false → True ∧ ∃ (x : A2), ((A4 ∧ nat_lit 0 = nat_lit 0 ∧ Value.int IntKind.i64 (IntKind.wrap IntKind.i64 (AQ t_1 + (1 : Int))) = Aj x ∧ True) ∧ True ∧ ps = ps ∧ A5 ∧ (A8 ∧ A6 t_1 = Ai x) ∧ True) ∧ AT x t)) ∧ (AS t → (∃ (x : A3), (A4 ∧ nat_lit 0 = nat_lit 0 ∧ Ag = AU x ∧ True) ∧ True ∧ ps = ps ∧ A5 ∧ (A8 ∧ Ai t = Aa) ∧ True) ∧ ∀ (t : A3), (Bc t = true → Bg t ∧ B5 t ∧ Bg t ∧ B5 t ∧ (By t = true → (Av → True ∧ ((nat_lit 0 = nat_lit 0 ∧ True ∧ True) ∧ True) ∧ (True ∧ AC = [] ∧ True) ∧ ((Am ∧ Value.bool true = Value.bool false ∧ True) ∧ True) ∧ True ∧ ps = ps ∧ True ∧ True) ∧ (Aw → True ∧ ((Am ∧ Value.bool false = Value.bool false ∧ True) ∧ True) ∧ Ay)) ∧ (By t = false → True ∧ ∃ (x : A3), ((A4 ∧ nat_lit 0 = nat_lit 0 ∧ Value.int IntKind.i64 (IntKind.wrap IntKind.i64 (Ac t + (1 : Int))) = AU x ∧ True) ∧ True ∧ ps = ps ∧ A5 ∧ (A8 ∧ Aa = Aa) ∧ True) ∧ AY x < AY t)) ∧ (Bc t = false → (Av → True ∧ ((nat_lit 0 = nat_lit 0 ∧ Value.bool true = Value.bool true ∧ True) ∧ True) ∧ True ∧ ps = ps ∧ (A8 ∧ Aa = AC) ∧ True) ∧ (Aw → True ∧ ((False ∧ Value.bool false = Value.bool true ∧ True) ∧ True) ∧ Ay))))))
    (by kernel_rfl) ?_
  simp only [eq_self, AE.goS]
  have hg : groundM ⟨long, rise, change, ps⟩ = true := hx
  have ok := ground_ok hg
  obtain ⟨n0, n1, n2⟩ := n_ok ok
  have n0' : ((nM ⟨long, rise, change, ps⟩ : Nat) : Int) = long + 1 := n0
  have h8 : ps.length ≤ 8 := ok.len
  have hb1 := base1_len ⟨long, rise, change, ps⟩
  have hrl := round_len ⟨long, rise, change, ps⟩
  refine ⟨⟨⟨0, Nat.zero_le _⟩, rfl, rfl⟩, fun t => ⟨fun ht => ?_, fun ht => ⟨⟨⟨0, Nat.zero_le _⟩, rfl, ?_⟩, fun t2 => ⟨fun ht2 => ?_, fun ht2 => ⟨⟨⟨0, Nat.zero_le _⟩, rfl, ?_⟩, fun t3 => ⟨fun ht3 => ?_, fun ht3 => ⟨⟨⟨0, Nat.zero_le _, fun k hk => absurd hk (Nat.not_lt_zero k)⟩, rfl, ?_⟩, fun t5 => ⟨fun ht5 => ?_, fun ht5 => ?_⟩⟩⟩⟩⟩⟩⟩⟩
  · obtain ⟨x, hx⟩ := t
    have hlt : x < nM ⟨long, rise, change, ps⟩ := by have h0 : (x : Int) ≤ long := ht; omega
    have hbl : (base0M ⟨long, rise, change, ps⟩ x).length = x := by unfold base0M; simp
    refine ⟨Nat.le_refl _, by show (base0M ⟨long, rise, change, ps⟩ x).length + 1 ≤ _; omega, ⟨x + 1, hlt⟩, ⟨sucI x (by omega), ?_⟩, dec1 hlt⟩
    show base0M ⟨long, rise, change, ps⟩ x ++ [(0, 1000)] = base0M ⟨long, rise, change, ps⟩ (x + 1)
    unfold base0M
    rw [List.range_succ, List.map_append]; rfl
  · obtain ⟨x, hx⟩ := t
    have hxe : x = nM ⟨long, rise, change, ps⟩ := by have h0 : ¬ (x : Int) ≤ long := ht; have h1 : x ≤ nM ⟨long, rise, change, ps⟩ := hx; omega
    subst hxe; rfl
  · obtain ⟨i, hi⟩ := t2
    have hlt : i < ps.length := by have h0 : (i : Int) < (ps.length : Int) := ht2; omega
    have hm : ps.getD i pit0 ∈ ps := getD_mem pit0 hlt
    have hat := (ok.pits _ hm).at_
    have hat1 : 0 ≤ (ps.getD i pit0).1 := hat.1
    have hat2 : (ps.getD i pit0).1 ≤ long := hat.2
    have hb := hb1 i
    exact ⟨⟨Int.natCast_nonneg _, ht2⟩, hlt, ⟨Int.natCast_nonneg _, ht2⟩, hlt, ⟨hat1, by show (ps.getD i pit0).1 < ((base1M ⟨long, rise, change, ps⟩ i).length : Int); omega⟩, by show (ps.getD i pit0).1.toNat < (base1M ⟨long, rise, change, ps⟩ i).length; omega, ⟨i + 1, hlt⟩, ⟨sucI i (by omega), rfl⟩, dec1 hlt⟩
  · obtain ⟨i, hi⟩ := t2
    have hie : i = ps.length := by have h0 : ¬ (i : Int) < (ps.length : Int) := ht2; omega
    subst hie; rfl
  · obtain ⟨k, hk⟩ := t3
    have hkl : k < nM ⟨long, rise, change, ps⟩ := by have h0 : (k : Int) ≤ long := ht3; omega
    refine ⟨⟨(k, 0), hkl, Nat.zero_le _⟩, ⟨⟨rfl, rfl⟩, rfl⟩, fun p hp => ?_⟩
    obtain ⟨⟨k', j⟩, p1, p2⟩ := p
    have hp' : k' = k := hp
    subst hp'
    have p2' : j ≤ nM ⟨long, rise, change, ps⟩ - 1 := p2
    have hsl : (sweepM rise (roundM ⟨long, rise, change, ps⟩ k') j).length = nM ⟨long, rise, change, ps⟩ := by rw [sweep_len, hrl]
    have hw : IntKind.i64.wrap (((j + 1 : Nat) : Int) - 1) = (j : Int) := by rw [wrap_id (by omega) (by omega)]; omega
    simp only [hw, Int.toNat_natCast]
    refine ⟨fun hj => ?_, fun hj => ?_⟩
    · have hj' : j + 1 < nM ⟨long, rise, change, ps⟩ := by have h0 : ((j + 1 : Nat) : Int) ≤ long := hj; omega
      have hi1 : (0 : Int) ≤ (j : Int) ∧ (j : Int) < ((sweepM rise (roundM ⟨long, rise, change, ps⟩ k') j).length : Int) := by omega
      have hi2 : j < (sweepM rise (roundM ⟨long, rise, change, ps⟩ k') j).length := by omega
      have hi3 : (0 : Int) ≤ ((j + 1 : Nat) : Int) ∧ ((j + 1 : Nat) : Int) < ((sweepM rise (roundM ⟨long, rise, change, ps⟩ k') j).length : Int) := by omega
      have hi4 : j + 1 < (sweepM rise (roundM ⟨long, rise, change, ps⟩ k') j).length := by omega
      refine ⟨hi1, hi2, hi3, hi4, hi1, hi2, by rw [List.length_set]; exact hi3, by rw [List.length_set]; exact hi4, ⟨(k', j + 1), p1, by show j + 1 ≤ _; omega⟩, ⟨⟨rfl, sucI (j + 1) (by omega)⟩, ?_⟩, ?_, rfl⟩
      · rfl
      · show nM ⟨long, rise, change, ps⟩ - (j + 1) < nM ⟨long, rise, change, ps⟩ - j; omega
    · have hje : j = nM ⟨long, rise, change, ps⟩ - 1 := by have h0 : ¬ ((j + 1 : Nat) : Int) ≤ long := hj; omega
      refine ⟨⟨k' + 1, hkl⟩, ⟨sucI k' (by omega), ?_⟩, dec1 hkl⟩
      show sweepM rise (roundM ⟨long, rise, change, ps⟩ k') j = roundM ⟨long, rise, change, ps⟩ (k' + 1)
      rw [hje]; rfl
  · obtain ⟨k, hk⟩ := t3
    have hke : k = nM ⟨long, rise, change, ps⟩ := by have h0 : ¬ (k : Int) ≤ long := ht3; have h1 : k ≤ nM ⟨long, rise, change, ps⟩ := hk; omega
    subst hke; rfl
  · obtain ⟨x, hx, hall⟩ := t5
    have hlt : x < nM ⟨long, rise, change, ps⟩ := by have h0 : (x : Int) ≤ long := ht5; omega
    have hln := hrl (nM ⟨long, rise, change, ps⟩)
    have hi1 : (0 : Int) ≤ (x : Int) ∧ (x : Int) < ((roundM ⟨long, rise, change, ps⟩ (nM ⟨long, rise, change, ps⟩)).length : Int) := by omega
    have hi2 : x < (roundM ⟨long, rise, change, ps⟩ (nM ⟨long, rise, change, ps⟩)).length := by omega
    have he : (roundM ⟨long, rise, change, ps⟩ (nM ⟨long, rise, change, ps⟩)).getD x (0, 0) = hardM ⟨long, rise, change, ps⟩ (x : Int) := by rw [round_all ok, hards_get hlt]
    refine ⟨hi1, hi2, hi1, hi2, fun hb => ?_, fun hb => ⟨⟨x + 1, hlt, fun k hk => ?_⟩, sucI x (by omega), dec1 hlt⟩⟩
    · have hb' : ((roundM ⟨long, rise, change, ps⟩ (nM ⟨long, rise, change, ps⟩)).getD x (0, 0)).1 > ((roundM ⟨long, rise, change, ps⟩ (nM ⟨long, rise, change, ps⟩)).getD x (0, 0)).2 := hb
      rw [he] at hb'
      have := hok_bad hlt hb'
      exact ⟨fun h => absurd h (by rw [this]; decide), fun _ => trivial⟩
    · have hb' : ¬ ((roundM ⟨long, rise, change, ps⟩ (nM ⟨long, rise, change, ps⟩)).getD x (0, 0)).1 > ((roundM ⟨long, rise, change, ps⟩ (nM ⟨long, rise, change, ps⟩)).getD x (0, 0)).2 := hb
      rw [he] at hb'
      rcases Nat.lt_or_eq_of_le (Nat.le_of_lt_succ hk) with h1 | rfl
      · exact hall k h1
      · exact hb'
  · obtain ⟨x, hx, hall⟩ := t5
    have hxe : x = nM ⟨long, rise, change, ps⟩ := by have h0 : ¬ (x : Int) ≤ long := ht5; have h1 : x ≤ nM ⟨long, rise, change, ps⟩ := hx; omega
    subst hxe
    have := hok_all.2 hall
    exact ⟨fun _ => round_all ok, fun h => absurd h (by rw [this]; decide)⟩

theorem rhd_sound : Sound Tryz.prog 81 rhdS.con := FSpec2.sound _ (enter_of Tryz.func81 (by kernel_rfl) (by kernel_rfl)) rhd_ok
end AE.Soil

namespace AE.Soil
open Go AE Go.Proofs

def rtruthM (g : GroundT) : Bool := hokM g && decide (((rMixM g 0).length : Int) > 0)
def Ttr : Tab UU := [(81, rhdS.con), (82, rmixS.con)]
theorem Ttr_ok : Ttr.Sound Tryz.prog := .cons rhd_sound (.cons rmix_sound .nil)
def rtruthS : FSpec UU where
  X := GroundT
  pick := fun args H => match args with
    | [a] => avGround H a
    | _ => none
  args := fun (x : GroundT) => [vGround x 0]
  H := fun (x : GroundT) => [.one (.ro .pit x.pits)]
  R := fun (x : GroundT) => .val ⟨.b (rtruthM x), [], [], []⟩
  pre := fun (x : GroundT) => groundM x = true
theorem rtruth_ok : ∀ x, rtruthS.pre x → FunOk Tryz.prog 27 (rtruthS.args x) (rtruthS.H x) (rtruthS.R x) := by
  rintro ⟨long, rise, change, ps⟩ hx
  refine fun_of (T := Ttr) (L := fun _ => none) (hs := fun _ => []) hmix Ttr_ok Tryz.func27 (by kernel_rfl) (by kernel_rfl) ?_
  refine Eq.mp (α :=
      let A0 := ps = ps ∧ True; let A1 := Value.int IntKind.i64 (0 : Int); let A2 := (0 : Int) ≤ long; let A3 := True ∧ A0; let A4 := True ∧ ((Value.bool (rtruthM (GroundT.mk long rise change ps)) = Value.bool false) ∧ True) ∧ A3; let A5 := (Value.int IntKind.i64 long = Value.int IntKind.i64 long) ∧ (Value.int IntKind.i64 rise = Value.int IntKind.i64 rise) ∧ (Value.int IntKind.i64 change = Value.int IntKind.i64 change) ∧ (nat_lit 0 = nat_lit 0 ∧ nat_lit 0 = nat_lit 0 ∧ List.length ps = List.length ps) ∧ True; let A6 := A5 ∧ True; let A7 := (List.length ps < nat_lit 1000) ∧ ((A2 ∧ (long ≤ (40 : Int))) ∧ (((0 : Int) ≤ (0 : Int)) ∧ A2)); let A8 := A5 ∧ (A1 = A1) ∧ True; let A9 := True ∧ ((((Value.bool (decide (((↑(List.length (rMixM (GroundT.mk long rise change ps) (0 : Int))) : Int)) > (0 : Int)))) = Value.bool (rtruthM (GroundT.mk long rise change ps))) ∧ True) ∧ A3); groundM (GroundT.mk long rise change ps) = true ∧ (hokM (GroundT.mk long rise change ps) = true → A6 ∧ A0 ∧ (true = true → A7 ∧ A8 ∧ A0 ∧ A9) ∧ (true = false → A4)) ∧ (hokM (GroundT.mk long rise change ps) = false → A6 ∧ A0 ∧ (false = true → A7 ∧ A8 ∧ A0 ∧ A9) ∧ (false = false → A4)))
    (by kernel_rfl) ?_
  simp only [eq_self, AE.goS]
  have hg : groundM ⟨long, rise, change, ps⟩ = true := hx
  have ok := ground_ok hg
  have h8 : ps.length ≤ 8 := ok.len
  have hl : 0 ≤ long ∧ long ≤ 40 := ok.long
  refine ⟨hg, fun h => ⟨fun _ => ⟨⟨by omega, hl, Int.le_refl _, hl.1⟩, ?_⟩, fun h => absurd h (by decide)⟩, fun h => ⟨fun h => absurd h (by decide), fun _ => ?_⟩⟩
  · unfold rtruthM; rw [h, Bool.true_and]
  · unfold rtruthM; rw [h, Bool.false_and]

theorem rtruth_sound : Sound Tryz.prog 27 rtruthS.con := FSpec.sound _ (enter_of Tryz.func27 (by kernel_rfl) (by kernel_rfl)) rtruth_ok
def rcheckM (g : GroundT) (v : Bool) : Int := if groundM g then (if v then (if rtruthM g then 0 else 10) else 2) else 1
theorem check0 {g : GroundT} {v : Bool} (h : rcheckM g v = 0) : groundM g = true ∧ v = true ∧ hokM g = true ∧ 0 < (rMixM g 0).length ∧ rtruthM g = true := by
  unfold rcheckM at h
  cases hg : groundM g with
  | false => rw [hg] at h; exact absurd h (by simp)
  | true =>
    cases v with
    | false => rw [hg] at h; exact absurd h (by simp)
    | true =>
      cases ht : rtruthM g with
      | false => rw [hg, ht] at h; exact absurd h (by simp)
      | true =>
        have ht' := ht
        unfold rtruthM at ht'
        rw [Bool.and_eq_true, decide_eq_true_eq] at ht'
        exact ⟨rfl, rfl, ht'.1, by omega, rfl⟩
def rsumN (a b : Int) : Nat := (b + 1 - a).toNat
def rsumL (g : GroundT) (a b : Int) : LSpec UU where
  T := { i : Nat // i ≤ rsumN a b }
  fr := fun i => [(2, .i b), (6, .ptr 1 0 0 0), (7, .gs 2 0), (9, .ptr 3 0 0 0), (10, .i (a + (i.1 : Int)))]
  H := fun i => [.one (.ro .pit g.pits), .one (.cells [.i 0, .i 0] 23), .one (.row .span (hardsM g (nM g)) 23), .one (.cells [.i (workAtM g a i.1).1, .i (workAtM g a i.1).2] 23)]
  mu := fun i => rsumN a b - i.1
def rsumM (g : GroundT) (a b : Int) : Span := workAtM g a (rsumN a b)
def avGr3 (H : Heap UU) : List AV → Option (GroundT × Int × Int)
  | [a, b, c] => match avGround H a, avInt b, avInt c with
    | some a, some b, some c => some (a, b, c)
    | _, _, _ => none
  | _ => none
def Trs : Tab UU := [(81, rhdS.con)]
theorem Trs_ok : Trs.Sound Tryz.prog := .cons rhd_sound .nil
def rsumS : FSpec UU where
  X := GroundT × Int × Int
  pick := fun args H => avGr3 H args
  args := fun x => [vGround x.1 0, .i x.2.1, .i x.2.2]
  H := fun x => [.one (.ro .pit x.1.pits)]
  R := fun x => .val ⟨vSpan (rsumM x.1 x.2.1 x.2.2), [], [], []⟩
  pre := fun x => groundM x.1 = true ∧ hokM x.1 = true ∧ 0 ≤ x.2.1 ∧ x.2.1 ≤ x.2.2 ∧ x.2.2 ≤ x.1.long
theorem rsum_ok : ∀ x, rsumS.pre x → FunOk Tryz.prog 90 (rsumS.args x) (rsumS.H x) (rsumS.R x) := by
  rintro ⟨⟨long, rise, change, ps⟩, a, b⟩ hx
  refine fun_of (T := Trs) (L := fun _ => some (.inv (rsumL ⟨long, rise, change, ps⟩ a b))) (hs := fun _ => []) hmix Trs_ok Tryz.func90 (by kernel_rfl) (by kernel_rfl) ?_
  refine Eq.mp (α :=
      let Ab := (23 : TypeId); let A2 := nat_lit 0 = nat_lit 0 ∧ nat_lit 0 = nat_lit 0 ∧ nat_lit 0 = nat_lit 0; let A5 := ps = ps ∧ True; let A4 := Value.int IntKind.i64 (0 : Int); let A6 := Value.int IntKind.i64 b = Value.int IntKind.i64 b; let A0 : Type := { i : Nat // (i ≤ rsumN a b) }; let A3 : List Span := hardsM (GroundT.mk long rise change ps) (nM (GroundT.mk long rise change ps)); let A7 := fun (x : A0) => Subtype.val x; let Ac := List.length A3; let Ad := fun (x : A0) => workAtM (GroundT.mk long rise change ps) a (A7 x); let Ae := A4 = A4; let Af := fun (x : A0) => Prod.snd (Ad x); let Ag := fun (x : A0) => Prod.fst (Ad x); let A1 := fun (x : A0) => a + ((↑(A7 x) : Int)); let A8 := fun (x : A0) => Value.int IntKind.i64 (Ag x); let A9 := fun (x : A0) => Value.int IntKind.i64 (Af x); let Ah := fun (x : A0) => Value.int IntKind.i64 (A1 x); let Ai := fun (t : A0) => nat_lit 0 + (Int.toNat (A1 t)); let Aa := Ae ∧ Ae ∧ True; let Aj := fun (x : A0) => (Int.toNat ((b + (1 : Int)) - a)) - A7 x; let Ak := (Ab = Ab) ∧ A3 = A3; let Al := fun (x : A0) => A2 ∧ (Value.int IntKind.i64 a = Ah x) ∧ True; let Am := ((Value.int IntKind.i64 long = Value.int IntKind.i64 long) ∧ (Value.int IntKind.i64 rise = Value.int IntKind.i64 rise) ∧ (Value.int IntKind.i64 change = Value.int IntKind.i64 change) ∧ (nat_lit 0 = nat_lit 0 ∧ nat_lit 0 = nat_lit 0 ∧ List.length ps = List.length ps) ∧ True) ∧ True; let An := fun (t : A0) => Ai t < Ac; let Ao := fun (t : A0) => decide ((A1 t ≤ b)); let Ap := fun (t : A0) => Ao t = true; let Aq := fun (t : A0) => List.getD A3 (Ai t) (((0 : Int), (0 : Int))); let Ar := fun (x : A0) => ((A4 = A8 x) ∧ (A4 = A9 x) ∧ True) ∧ True; let As := fun (t : A0) => ((0 : Int) ≤ A1 t) ∧ (A1 t < ((↑Ac : Int))); let At := fun (t : A0) => (Ao t = false) → (True ∧ (((A8 t = (Value.int IntKind.i64 (Prod.fst (rsumM (GroundT.mk long rise change ps) a b)))) ∧ (A9 t = (Value.int IntKind.i64 (Prod.snd (rsumM (GroundT.mk long rise change ps) a b)))) ∧ True) ∧ True) ∧ True ∧ A5); let Av := fun (t : A0) => ∃ (x : A0), (((A6 ∧ (A2 ∧ (nat_lit 0 = nat_lit 0 ∧ (A2 ∧ (((Value.int IntKind.i64 ((IntKind.wrap IntKind.i64 ((A1 t + (1 : Int)))))) = Ah x) ∧ True))))) ∧ True ∧ ps = ps ∧ Aa ∧ Ak ∧ (((Value.int IntKind.i64 ((IntKind.wrap IntKind.i64 ((Ag t + (Prod.fst (Aq t))))))) = A8 x) ∧ ((Value.int IntKind.i64 ((IntKind.wrap IntKind.i64 ((Af t + (Prod.snd (Aq t))))))) = A9 x) ∧ True) ∧ True) ∧ Aj x < Aj t); let Au := fun (t : A0) => As t ∧ An t ∧ As t ∧ An t ∧ True ∧ Av t; groundM (GroundT.mk long rise change ps) = true ∧ (hokM (GroundT.mk long rise change ps) = true → Am ∧ A5 ∧ (∃ (x : A0), (A6 ∧ A2 ∧ nat_lit 0 = nat_lit 0 ∧ Al x) ∧ True ∧ ps = ps ∧ Aa ∧ Ak ∧ Ar x) ∧ ∀ (t : A0), (Ap t → Au t) ∧ At t) ∧ (hokM (GroundT.mk long rise change ps) = false → Am ∧ A5 ∧ (∃ (x : A0), (True ∧ True ∧ nat_lit 0 = nat_lit 0 ∧ True ∧ True ∧ True) ∧ (True ∧ (True ∧ True ∧ True) ∧ A3 = [] ∧ (True ∧ True ∧ True) ∧ True) ∧ (A6 ∧ A2 ∧ Value.slice none (nat_lit 0) (nat_lit 0) = Value.slice none (nat_lit 0) (nat_lit 0) ∧ Al x) ∧ True ∧ ps = ps ∧ Aa ∧ True ∧ Ar x) ∧ ∀ (t : A0), (Ap t → Au t) ∧ At t))
    (by kernel_rfl) ?_
  simp only [eq_self, AE.goS]
  obtain ⟨hg, hh, ha, hab, hb⟩ := hx
  have hg' : groundM ⟨long, rise, change, ps⟩ = true := hg
  have hh' : hokM ⟨long, rise, change, ps⟩ = true := hh
  have ha' : 0 ≤ a := ha
  have hab' : a ≤ b := hab
  have hb' : b ≤ long := hb
  have ok := ground_ok hg'
  obtain ⟨n0, n1, n2⟩ := n_ok ok
  have n0' : ((nM ⟨long, rise, change, ps⟩ : Nat) : Int) = long + 1 := n0
  have hln := hards_len ⟨long, rise, change, ps⟩ (nM ⟨long, rise, change, ps⟩)
  refine ⟨hg', fun _ => ⟨⟨⟨0, Nat.zero_le _⟩, by show a = a + ((0 : Nat) : Int); simp, rfl, rfl⟩, fun t => ⟨fun ht => ?_, fun ht => ?_⟩⟩, fun h => absurd h (by rw [hh']; decide)⟩
  · obtain ⟨i, hi⟩ := t
    have hle : a + (i : Int) ≤ b := ht
    have hlt : i < rsumN a b := by unfold rsumN; omega
    have e1 : (a + (i : Int)).toNat = a.toNat + i := by omega
    have b1 : 0 ≤ a + (i : Int) ∧ a + (i : Int) < ((hardsM ⟨long, rise, change, ps⟩ (nM ⟨long, rise, change, ps⟩)).length : Int) := by omega
    have b2 : (a + (i : Int)).toNat < (hardsM ⟨long, rise, change, ps⟩ (nM ⟨long, rise, change, ps⟩)).length := by omega
    refine ⟨b1, b2, b1, b2, ⟨i + 1, hlt⟩, ⟨?_, ?_, ?_⟩, dec1 hlt⟩
    · show IntKind.i64.wrap (a + (i : Int) + 1) = a + ((i + 1 : Nat) : Int)
      rw [wrap_id (by omega) (by omega)]; omega
    · show IntKind.i64.wrap ((workAtM ⟨long, rise, change, ps⟩ a i).1 + ((hardsM ⟨long, rise, change, ps⟩ (nM ⟨long, rise, change, ps⟩)).getD (a + (i : Int)).toNat (0, 0)).1) = _
      rw [e1]; rfl
    · show IntKind.i64.wrap ((workAtM ⟨long, rise, change, ps⟩ a i).2 + ((hardsM ⟨long, rise, change, ps⟩ (nM ⟨long, rise, change, ps⟩)).getD (a + (i : Int)).toNat (0, 0)).2) = _
      rw [e1]; rfl
  · obtain ⟨i, hi⟩ := t
    have hlt : ¬ a + (i : Int) ≤ b := ht
    have hie : i = rsumN a b := by have h1 : i ≤ rsumN a b := hi; unfold rsumN at *; omega
    subst hie
    exact ⟨rfl, rfl⟩

theorem rsum_sound : Sound Tryz.prog 90 rsumS.con := FSpec.sound _ (enter_of Tryz.func90 (by kernel_rfl) (by kernel_rfl)) rsum_ok
def rwokM (g : GroundT) (a b : Int) : Bool := inM a 0 g.long && (inM b 0 g.long && decide (a ≤ b))
def rworkM (g : GroundT) (a b : Int) : Span × Int := if rcheckM g (rwokM g a b) = 0 then (rsumM g a b, 0) else ((0, 0), rcheckM g (rwokM g a b))
end AE.Soil

namespace AE.Soil
open Go AE Go.Proofs

def mergeM (o p : PitT) : PitT := (o.1, bothM o.2.1 p.2.1, bothM o.2.2.1 p.2.2.1, bothM o.2.2.2.1 p.2.2.2.1, bothM o.2.2.2.2 p.2.2.2.2)
def wstepM (p o : PitT) (r : List PitT × Bool) : List PitT × Bool :=
  if !r.2 && decide (o.1 > p.1) then (if o.1 = p.1 then ((r.1 ++ [p]) ++ [mergeM o p], true) else ((r.1 ++ [p]) ++ [o], true)) else (if o.1 = p.1 then (r.1 ++ [mergeM o p], true) else (r.1 ++ [o], r.2))
def wAtM (l : List PitT) (p : PitT) : Nat → List PitT × Bool
  | 0 => ([], false)
  | i + 1 => wstepM p (l.getD i pit0) (wAtM l p i)
def withM (l : List PitT) (p : PitT) : List PitT := if (wAtM l p l.length).2 then (wAtM l p l.length).1 else (wAtM l p l.length).1 ++ [p]
end AE.Soil

namespace AE.Soil
open Go AE Go.Proofs

def Fit (p : PitT) (x : T3) : Prop := In p.2.2.1 x.1 ∧ In p.2.2.2.1 x.2.1 ∧ In p.2.2.2.2 x.2.2
def SpOne (s : Span) (n : Int) : Prop := SpOk s n ∨ s.1 = s.2
structure POne (p : PitT) : Prop where
  hard : SpOne p.2.1 1000
  sand : SpOne p.2.2.1 20
  silt : SpOne p.2.2.2.1 20
  clay : SpOne p.2.2.2.2 20
end AE.Soil

namespace AE.Soil
open Go AE Go.Proofs

def t3 (m : M2) : T3 := (m.1, m.2, 20 - m.1 - m.2)
theorem t3_of {x : T3} (h : Ok3 x) : t3 (x.1, x.2.1) = x := by
  obtain ⟨h0, _⟩ := h
  unfold t3
  exact Prod.ext rfl (Prod.ext rfl (by dsimp only; omega))
theorem clay_eq {m : M2} (h : Ok3 (t3 m)) : rclayM m = (t3 m).2.2 := by
  obtain ⟨h0, h1, h2, h3⟩ := h
  unfold t3 at h1 h2 h3
  dsimp only at h1 h2 h3
  unfold rclayM
  rw [show W (20 - m.1) = 20 - m.1 from wrap_id (by omega) (by omega), show W (20 - m.1 - m.2) = 20 - m.1 - m.2 from wrap_id (by omega) (by omega)]; rfl
theorem mem_row {s t : Nat} {m : M2} : m ∈ rowM s t ↔ m.1 = (s : Int) ∧ 0 ≤ m.2 ∧ m.2 < (t : Int) := by
  unfold rowM
  rw [List.mem_map]
  constructor
  · rintro ⟨b, hb, rfl⟩
    rw [List.mem_range] at hb
    exact ⟨rfl, Int.natCast_nonneg _, by dsimp only; omega⟩
  · rintro ⟨h1, h2, h3⟩
    obtain ⟨b, hb⟩ := Int.eq_ofNat_of_zero_le h2
    exact ⟨b, List.mem_range.2 (by omega), Prod.ext h1.symm hb.symm⟩
theorem mem_rows {m : M2} : ∀ {s : Nat}, m ∈ rowsM s ↔ 0 ≤ m.1 ∧ m.1 < (s : Int) ∧ 0 ≤ m.2 ∧ m.2 < ((21 - m.1.toNat : Nat) : Int)
  | 0 => by simp [rowsM]; intros; omega
  | s + 1 => by
    unfold rowsM
    rw [List.mem_append, mem_rows, mem_row]
    constructor
    · rintro (⟨h1, h2, h3, h4⟩ | ⟨h1, h2, h3⟩)
      · exact ⟨h1, by omega, h3, h4⟩
      · exact ⟨by omega, by omega, h2, by rw [h1, Int.toNat_natCast]; exact h3⟩
    · rintro ⟨h1, h2, h3, h4⟩
      by_cases h : m.1 = (s : Int)
      · refine .inr ⟨h, h3, ?_⟩
        rw [h, Int.toNat_natCast] at h4; exact h4
      · exact .inl ⟨h1, by omega, h3, h4⟩
theorem mem_all2 {l : List PitT} {m : M2} : m ∈ allM l ↔ Ok3 (t3 m) := by
  rw [all_rows, mem_rows]
  unfold Ok3 t3
  dsimp only
  constructor
  · rintro ⟨h1, h2, h3, h4⟩; exact ⟨by omega, h1, h3, by omega⟩
  · rintro ⟨_, h1, h2, h3⟩; exact ⟨h1, by omega, h2, by omega⟩
theorem fit_iff {l : List PitT} {k : Nat} {m : M2} (h : Ok3 (t3 m)) : rfitM l (k : Int) m = true ↔ ∀ p ∈ l, p.1 = (k : Int) → Fit p (t3 m) := by
  unfold rfitM
  rw [List.all_eq_true]
  refine forall_congr' fun p => ?_
  refine imp_congr_right fun _ => ?_
  unfold rfit1M Fit In
  rw [clay_eq h]
  simp only [Bool.or_eq_true, Bool.not_eq_true', beq_eq_false_iff_ne, Bool.and_eq_true, inM_iff]
  constructor
  · rintro (hn | ⟨⟨h1, h2⟩, h3⟩) hk
    · exact absurd hk hn
    · exact ⟨h1, h2, h3⟩
  · intro hh
    by_cases hk : p.1 = (k : Int)
    · obtain ⟨h1, h2, h3⟩ := hh hk
      exact .inr ⟨⟨h1, h2⟩, h3⟩
    · exact .inl hk
theorem near_iff {c : Int} (hc : 0 ≤ c ∧ c ≤ 20) {a b : M2} (ha : Ok3 (t3 a)) (hb : Ok3 (t3 b)) : rnearM c a b = true ↔ Near c (t3 a) (t3 b) := by
  unfold rnearM
  rw [clay_eq ha, clay_eq hb]
  obtain ⟨_, a1, a2, a3⟩ := ha
  obtain ⟨_, b1, b2, b3⟩ := hb
  unfold t3 at *
  dsimp only at *
  rw [show W (a.1 - b.1) = a.1 - b.1 from wrap_id (by omega) (by omega), show W (a.2 - b.2) = a.2 - b.2 from wrap_id (by omega) (by omega), show W (20 - a.1 - a.2 - (20 - b.1 - b.2)) = 20 - a.1 - a.2 - (20 - b.1 - b.2) from wrap_id (by omega) (by omega), show W (0 - c) = 0 - c from wrap_id (by omega) (by omega)]
  simp only [Bool.and_eq_true, inM_iff]
  unfold Near
  dsimp only
  constructor
  · rintro ⟨⟨h1, h2⟩, h3⟩; exact ⟨⟨by omega, by omega⟩, ⟨by omega, by omega⟩, by omega, by omega⟩
  · rintro ⟨h1, h2, h3⟩; exact ⟨⟨⟨by omega, by omega⟩, by omega, by omega⟩, by omega, by omega⟩
theorem ch_mem {g : GroundT} (hg : GOk g) {e st : Int} {ix : Nat → Nat} : ∀ (k : Nat), (∀ i, i ≤ k → xAtM e st i = ((ix i : Nat) : Int)) → ∀ m : M2, m ∈ chM g e st k ↔ Ch (fun i => Al g (ix i)) g.change k (t3 m)
  | 0, hix, m => by
    rw [ch_step]
    unfold stepLM takesM canPM firstM
    rw [List.mem_filter, mem_all2, hix 0 (Nat.le_refl 0)]
    simp only [beq_self_eq_true, Bool.true_or, Bool.true_and]
    show Ok3 (t3 m) ∧ _ ↔ Al g (ix 0) (t3 m)
    constructor
    · rintro ⟨h1, h2⟩; exact ⟨h1, (fit_iff h1).1 h2⟩
    · rintro ⟨h1, h2⟩; exact ⟨h1, (fit_iff h1).2 h2⟩
  | k + 1, hix, m => by
    have ih := ch_mem hg (e := e) (st := st) (ix := ix) k (fun i hi => hix i (by omega))
    rw [ch_step]
    unfold stepLM takesM canPM firstM
    rw [List.mem_filter, mem_all2, hix (k + 1) (Nat.le_refl _)]
    show Ok3 (t3 m) ∧ ((k + 1 == 0 || (chM g e st k).any fun a => rnearM g.change a m) && rfitM g.pits ((ix (k + 1) : Nat) : Int) m) = true ↔ Al g (ix (k + 1)) (t3 m) ∧ ∃ y, Ch (fun i => Al g (ix i)) g.change k y ∧ Near g.change y (t3 m)
    rw [show (k + 1 == 0) = false from rfl, Bool.false_or, Bool.and_eq_true, List.any_eq_true]
    constructor
    · rintro ⟨h1, ⟨a, ha, hn⟩, h3⟩
      have hc := (ih a).1 ha
      have hok : Ok3 (t3 a) := hc.head.1
      exact ⟨⟨h1, (fit_iff h1).1 h3⟩, t3 a, hc, (near_iff hg.change hok h1).1 hn⟩
    · rintro ⟨⟨h1, h2⟩, y, hy, hn⟩
      have hok : Ok3 y := hy.head.1
      refine ⟨h1, ⟨(y.1, y.2.1), (ih _).2 (by rw [t3_of hok]; exact hy), (near_iff hg.change (by rw [t3_of hok]; exact hok) h1).2 (by rw [t3_of hok]; exact hn)⟩, (fit_iff h1).2 h2⟩
theorem eq2_iff (x y : M2) : eq2M x y = true ↔ x = y := by
  unfold eq2M
  simp only [Bool.and_true, Bool.and_eq_true, beq_iff_eq]
  exact ⟨fun h => Prod.ext h.1 h.2, fun h => by subst h; exact ⟨rfl, rfl⟩⟩
theorem mem_cross {a b : List M2} {m : M2} : m ∈ crossM a b ↔ m ∈ a ∧ m ∈ b := by
  unfold crossM innM
  rw [List.mem_flatMap]
  constructor
  · rintro ⟨x, hx, hm⟩
    obtain ⟨y, hy, rfl⟩ := List.mem_map.1 hm
    rw [List.mem_filter, eq2_iff] at hy
    exact ⟨hx, by rw [hy.2]; exact hy.1⟩
  · rintro ⟨h1, h2⟩
    exact ⟨m, h1, List.mem_map.2 ⟨m, List.mem_filter.2 ⟨h2, (eq2_iff m m).2 rfl⟩, rfl⟩⟩
theorem rmix_mem {g : GroundT} (hg : GOk g) {k : Nat} (hk : k < nM g) (m : M2) : m ∈ rMixM g (k : Int) ↔ Mem ((boxesM g).getD k m0) (t3 m) := by
  have hn := (n_ok hg).1
  have e1 : ((((k : Nat) : Int) - 0) * 1).toNat = k := by omega
  have e2 : ((((k : Nat) : Int) - g.long) * (-1)).toNat = nM g - 1 - k := by omega
  have f1 := ch_mem hg (e := 0) (st := 1) (ix := fun i => i) k (fun i _ => by unfold xAtM; omega) m
  have f2 := ch_mem hg (e := g.long) (st := -1) (ix := fun i => nM g - 1 - i) (nM g - 1 - k) (fun i hi => by unfold xAtM; omega) m
  unfold rMixM fwM bwM
  rw [mem_cross, e1, e2, f1, f2, box_truth hg hk]
  constructor
  · rintro ⟨h1, h2⟩; exact both_truth hk h1 h2
  · rintro ⟨w, t, hw⟩
    rw [← hw]
    exact ⟨t.fwd hk, t.bwd hk⟩
theorem rmix_some {g : GroundT} (hg : GOk g) {k : Nat} (hk : k < nM g) : 0 < (rMixM g (k : Int)).length ↔ ∃ w, MTr g w := by
  rw [← box_some hg hk, (stage2 hg hk).1.ex_iff, List.length_pos_iff_exists_mem]
  constructor
  · rintro ⟨m, hm⟩; exact ⟨_, (rmix_mem hg hk m).1 hm⟩
  · rintro ⟨x, hx⟩
    have hok := hx.ok3 (stage2 hg hk).1
    exact ⟨(x.1, x.2.1), (rmix_mem hg hk _).2 (by rw [t3_of hok]; exact hx)⟩
theorem truth_look {g : GroundT} (hg : GOk g) : rtruthM g = lookM g := by
  have hb : ∀ a b : Bool, (a = true ↔ b = true) → a = b := by decide
  refine hb _ _ ?_
  have hn := (n_ok hg).2.1
  have h0 := rmix_some hg hn
  rw [show ((0 : Nat) : Int) = 0 from rfl] at h0
  rw [look_truth hg, ← hok_iff hg, ← h0]
  unfold rtruthM
  rw [Bool.and_eq_true, decide_eq_true_eq, hok_all]
  constructor
  · rintro ⟨h1, h2⟩
    refine ⟨fun k hk => ?_, by omega⟩
    obtain ⟨j, rfl, hj⟩ := place_of hg hk
    have := h1 j hj
    omega
  · rintro ⟨h1, h2⟩
    exact ⟨fun k hk => by have := h1 _ (pl_of hg hk); omega, by omega⟩
theorem check_err (g : GroundT) (v : Bool) (a : Ask) (l : List Int) (h : l.all (askM a g.long) = v) : openErrM g a l = rcheckM g v := by
  unfold openErrM rcheckM
  rw [h]
  cases hg : groundM g with
  | false => rfl
  | true => rw [truth_look (ground_ok hg)]
theorem work_same (g : GroundT) (a b : Int) : workOM g a b = rworkM g a b := by
  unfold workOM rworkM workErrM
  rw [check_err g (rwokM g a b) (.span (spanOkM a b)) [a, b] (by
    unfold rwokM spanOkM
    simp only [List.all_cons, List.all_nil, askM, Bool.and_true]
    cases inM a 0 g.long <;> cases inM b 0 g.long <;> cases decide (a ≤ b) <;> rfl)]
  simp only [beq_iff_eq]
  split
  · rename_i h
    obtain ⟨hg, hv, _⟩ := check0 h
    have ok := ground_ok hg
    have hl := ok.long
    unfold rwokM at hv
    simp only [Bool.and_eq_true, inM_iff, decide_eq_true_eq] at hv
    have hw : W (b + 1) = b + 1 := wrap_id (by omega) (by omega)
    have e : workNM a b = rsumN a b := by unfold workNM rsumN; rw [hw]; omega
    unfold rsumM
    rw [e]
  · rfl
end AE.Soil

namespace AE.Team
open Go AE Go.Proofs AE.Soil

structure HorOk (h : HorT) : Prop where
  l0 : 0 ≤ h.2.1
  l1 : h.2.1 ≤ 100
  g0 : 0 ≤ h.2.2.1
  g1 : h.2.2.1 ≤ 1000
  f0 : 0 ≤ h.2.2.2.1
  f1 : h.2.2.2.1 ≤ 10000
def WOk (w : Span) : Prop := 0 ≤ w.1 ∧ w.1 ≤ w.2 ∧ w.2 ≤ 41000
theorem of_bound {w : Span} (hw : WOk w) (h : HorT) : 0 ≤ ofM h w ∧ ofM h w ≤ 41000 := by
  obtain ⟨h1, h2, h3⟩ := hw
  unfold ofM
  split <;> omega
def costM (h : HorT) (w : Span) : Int := (h.2.1 * ofM h w + 99) / 100
theorem mul_bound {a b m n : Int} (h1 : 0 ≤ a) (h2 : a ≤ m) (h3 : 0 ≤ b) (h4 : b ≤ n) : 0 ≤ a * b ∧ a * b ≤ m * n :=
  ⟨Int.mul_nonneg h1 h3, Int.mul_le_mul h2 h4 h3 (Int.le_trans h1 h2)⟩
theorem cost_bound {h : HorT} (hh : HorOk h) {w : Span} (hw : WOk w) : 0 ≤ costM h w ∧ costM h w ≤ 41001 := by
  have ho := of_bound hw h
  have hm := mul_bound hh.l0 hh.l1 ho.1 ho.2
  unfold costM
  omega
theorem furrow_eq {h : HorT} (hh : HorOk h) {w : Span} (hw : WOk w) {now : Int} (h1 : -1000000000 ≤ now) (h2 : now ≤ 1000000000) : furrowM h w now = now - costM h w := by
  have ho := of_bound hw h
  have hm := mul_bound hh.l0 hh.l1 ho.1 ho.2
  have hc := cost_bound hh hw
  unfold furrowM
  unfold costM at hc ⊢
  have e1 : W (h.2.1 * ofM h w) = h.2.1 * ofM h w := wrap_id (by omega) (by omega)
  rw [e1]
  have e2 : W (h.2.1 * ofM h w + 99) = h.2.1 * ofM h w + 99 := wrap_id (by omega) (by omega)
  rw [e2]
  have e3 : (h.2.1 * ofM h w + 99).tdiv 100 = (h.2.1 * ofM h w + 99) / 100 := Int.tdiv_eq_ediv_of_nonneg (by omega)
  rw [e3]
  have e4 : W ((h.2.1 * ofM h w + 99) / 100) = (h.2.1 * ofM h w + 99) / 100 := wrap_id (by omega) (by omega)
  rw [e4]
  exact wrap_id (by omega) (by omega)
theorem rest_eq {h : HorT} (hh : HorOk h) {r now : Int} (r0 : 0 ≤ r) (r1 : r ≤ 10000) (h1 : -1000000000 ≤ now) (h2 : now ≤ 1000000000) : restM h r now = min h.2.2.2.1 (now + h.2.2.1 * r) := by
  have hm := mul_bound hh.g0 hh.g1 r0 r1
  unfold restM
  have e1 : W (h.2.2.1 * r) = h.2.2.1 * r := wrap_id (by omega) (by omega)
  rw [e1]
  have e2 : W (now + h.2.2.1 * r) = now + h.2.2.1 * r := wrap_id (by omega) (by omega)
  rw [e2]
structure StepsOk (l : List StepT) (w : List Span) : Prop where
  len : l.length ≤ 1000
  rest : ∀ i, i < l.length → 0 ≤ (l.getD i (0, 0, 0)).2.2 ∧ (l.getD i (0, 0, 0)).2.2 ≤ 10000
  work : ∀ i, i < l.length → WOk (w.getD i (0, 0))
theorem do_bound {h : HorT} (hh : HorOk h) {s : StepT} {w : Span} (hw : WOk w) (r0 : 0 ≤ s.2.2) (r1 : s.2.2 ≤ 10000) {now : Int} (h1 : -1000000000 ≤ now) (h2 : now ≤ h.2.2.2.1) : now - 41001 ≤ doM h s w now ∧ doM h s w now ≤ h.2.2.2.1 := by
  have hf1 := hh.f1
  have hf0 := hh.f0
  unfold doM
  split
  · rw [rest_eq hh r0 r1 h1 (by omega)]
    have hm := mul_bound hh.g0 hh.g1 r0 r1
    omega
  · rw [furrow_eq hh hw h1 (by omega)]
    have hc := cost_bound hh hw
    omega
theorem now_bound {l : List StepT} {w : List Span} {h : HorT} (hs : StepsOk l w) (hh : HorOk h) (h0 : 0 ≤ h.1) (h1 : h.1 ≤ h.2.2.2.1) : ∀ i, i ≤ l.length → -(41001 * (i : Int)) ≤ nowM l w h i ∧ nowM l w h i ≤ h.2.2.2.1
  | 0, _ => ⟨by show -(41001 * ((0 : Nat) : Int)) ≤ h.1; omega, h1⟩
  | i + 1, hi => by
    have ih := now_bound hs hh h0 h1 i (by omega)
    have hl := hs.len
    have hr := hs.rest i (by omega)
    have hb := do_bound hh (hs.work i (by omega)) hr.1 hr.2 (now := nowM l w h i) (by omega) ih.2
    show -(41001 * ((i + 1 : Nat) : Int)) ≤ doM h (l.getD i (0, 0, 0)) (w.getD i (0, 0)) (nowM l w h i) ∧ doM h (l.getD i (0, 0, 0)) (w.getD i (0, 0)) (nowM l w h i) ≤ h.2.2.2.1
    omega
structure Less (h h' : HorT) : Prop where
  full : h.2.2.2.1 ≤ h'.2.2.2.1
  loss : h'.2.1 ≤ h.2.1
  gain : h.2.2.1 ≤ h'.2.2.1
theorem do_mono {h h' : HorT} (hh : HorOk h) (hh' : HorOk h') (hL : Less h h') {s : StepT} {w w' : Span} (hw : WOk w) (hw' : WOk w') (ho : ofM h' w' ≤ ofM h w) (r0 : 0 ≤ s.2.2) (r1 : s.2.2 ≤ 10000) {now now' : Int} (h1 : -1000000000 ≤ now) (h2 : now' ≤ 1000000000) (hn : now ≤ now') : doM h s w now ≤ doM h' s w' now' := by
  unfold doM
  split
  · rw [rest_eq hh r0 r1 h1 (by omega), rest_eq hh' r0 r1 (by omega) h2]
    have hm : h.2.2.1 * s.2.2 ≤ h'.2.2.1 * s.2.2 := Int.mul_le_mul_of_nonneg_right hL.gain r0
    have := hL.full
    omega
  · rw [furrow_eq hh hw h1 (by omega), furrow_eq hh' hw' (by omega) h2]
    have hb := of_bound hw' h'
    have hm : h'.2.1 * ofM h' w' ≤ h.2.1 * ofM h w := Int.mul_le_mul hL.loss ho hb.1 hh.l0
    unfold costM
    omega
theorem now_mono {l : List StepT} {w w' : List Span} {h h' : HorT} (hs : StepsOk l w) (hs' : StepsOk l w') (hh : HorOk h) (hh' : HorOk h') (hL : Less h h') (h0 : 0 ≤ h.1) (h1 : h.1 ≤ h.2.2.2.1) (h0' : 0 ≤ h'.1) (h1' : h'.1 ≤ h'.2.2.2.1) (hn : h.1 ≤ h'.1)
    (ho : ∀ i, i < l.length → ofM h' (w'.getD i (0, 0)) ≤ ofM h (w.getD i (0, 0))) : ∀ i, i ≤ l.length → nowM l w h i ≤ nowM l w' h' i
  | 0, _ => hn
  | i + 1, hi => by
    have ih := now_mono hs hs' hh hh' hL h0 h1 h0' h1' hn ho i (by omega)
    have hb := now_bound hs hh h0 h1 i (by omega)
    have hb' := now_bound hs' hh' h0' h1' i (by omega)
    have hl := hs.len
    have hr := hs.rest i (by omega)
    have hf := hh'.f1
    exact do_mono hh hh' hL (hs.work i (by omega)) (hs'.work i (by omega)) (ho i (by omega)) hr.1 hr.2 (by omega) (by omega) ih
theorem fail_iff (l : List StepT) (w : List Span) (h : HorT) : (failedM l w h).2 = true ↔ ∃ i, i < l.length ∧ nowM l w h (i + 1) < 0 := by
  unfold failedM
  split
  · rename_i i hi
    rw [List.find?_range_eq_some] at hi
    exact ⟨fun _ => ⟨i, List.mem_range.1 hi.2.1, of_decide_eq_true hi.1⟩, fun _ => rfl⟩
  · rename_i hi
    rw [List.find?_range_eq_none] at hi
    refine ⟨(fun h => nomatch h), fun ⟨i, h1, h2⟩ => ?_⟩
    have := hi i h1
    simp only [Bool.not_eq_true', decide_eq_false_iff_not] at this
    exact absurd h2 this
theorem fail_mono {l : List StepT} {w w' : List Span} {h h' : HorT} (hm : ∀ i, i ≤ l.length → nowM l w h i ≤ nowM l w' h' i) (hf : (failedM l w h).2 = false) : (failedM l w' h').2 = false := by
  cases e : (failedM l w' h').2 with
  | false => rfl
  | true =>
    obtain ⟨i, hi, hlt⟩ := (fail_iff _ _ _).1 e
    have := hm (i + 1) (by omega)
    have : (failedM l w h).2 = true := (fail_iff _ _ _).2 ⟨i, hi, by omega⟩
    rw [hf] at this; cases this
end AE.Team

namespace AE.Team
open Go AE Go.Proofs AE.Soil

def cTeam (t : TeamT) : List AV := [.i t.1.1, .i t.1.2, .i t.2.1.1, .i t.2.1.2, .i t.2.2.1.1, .i t.2.2.1.2, .i t.2.2.2]
end AE.Team

namespace AE.Team
open Go AE Go.Proofs AE.Soil

theorem least_err {t : TeamT} {p : PlotT} (h : (openErrM t p true == 0) = false) : leastM t p = (0, openErrM t p true) := by
  unfold leastM; exact if_neg (by rw [h]; decide)
theorem open_hard {t : TeamT} {p : PlotT} {is : Bool} (h : (openErrM t p is == 0) = true) : ((hardOM p.g 0).2 == 0) = true := by
  have h1 := open_team h
  have h2 := open_plot h
  have h3 := open_is h
  unfold openErrM at h
  cases hh : (hardOM p.g 0).2 == 0 with
  | true => rfl
  | false => rw [hh, h1, h2, h3] at h; simp at h
theorem least_told {t : TeamT} {p : PlotT} (h : (openErrM t p true == 0) = true) : leastM t p = ((leastFM t p).1, if (leastFM t p).2 then 0 else 11) := by
  unfold leastM; exact if_pos h
theorem team_ok {t : TeamT} (h : teamM t = true) : (0 ≤ t.2.2.2 ∧ t.2.2.2 ≤ 10000) ∧ (0 ≤ t.1.1 ∧ t.1.1 ≤ t.1.2 ∧ t.1.2 ≤ t.2.2.2) ∧ (0 ≤ t.2.1.1 ∧ t.2.1.1 ≤ t.2.1.2 ∧ t.2.1.2 ≤ 100) ∧ (0 ≤ t.2.2.1.1 ∧ t.2.2.1.1 ≤ t.2.2.1.2 ∧ t.2.2.1.2 ≤ 1000) := by
  unfold teamM inM spanM at h
  simp only [Bool.and_eq_true, decide_eq_true_eq] at h
  omega
theorem hor_ok {t : TeamT} (h : teamM t = true) (b : Bool) : HorOk (horM t b) ∧ 0 ≤ (horM t b).1 ∧ (horM t b).1 ≤ (horM t b).2.2.2.1 := by
  have := team_ok h
  cases b with
  | true => exact ⟨⟨by show 0 ≤ t.2.1.2; omega, by show t.2.1.2 ≤ 100; omega, by show 0 ≤ t.2.2.1.1; omega, by show t.2.2.1.1 ≤ 1000; omega, by show 0 ≤ t.2.2.2; omega, by show t.2.2.2 ≤ 10000; omega⟩, by show 0 ≤ t.1.1; omega, by show t.1.1 ≤ t.2.2.2; omega⟩
  | false => exact ⟨⟨by show 0 ≤ t.2.1.1; omega, by show t.2.1.1 ≤ 100; omega, by show 0 ≤ t.2.2.1.2; omega, by show t.2.2.1.2 ≤ 1000; omega, by show 0 ≤ t.2.2.2; omega, by show t.2.2.2 ≤ 10000; omega⟩, by show 0 ≤ t.1.2; omega, by show t.1.2 ≤ t.2.2.2; omega⟩
theorem plot_ok {p : PlotT} (h : isPlotM p = true) : groundM p.g = true ∧ p.steps.length ≤ 12 ∧ ∀ i, i < p.steps.length → okStepM p.g.long (p.steps.getD i (0, 0, 0)) = true := by
  have h0 := h
  rw [plot_eq] at h
  simp only [Bool.and_eq_true, decide_eq_true_eq] at h
  refine ⟨h.1.1, by omega, fun i hi => ?_⟩
  cases e : okStepM p.g.long (p.steps.getD i (0, 0, 0)) with
  | true => rfl
  | false =>
    have := plot_no (p := p) hi (by show (!okStepM p.g.long (p.steps.getD i (0, 0, 0))) = true; rw [e]; rfl)
    rw [h0] at this; cases this
theorem step_rest_ok {long : Int} {s : StepT} (h : okStepM long s = true) : 0 ≤ s.2.2 ∧ s.2.2 ≤ 600 := by
  unfold okStepM inM at h
  simp only [Bool.and_eq_true, decide_eq_true_eq] at h
  exact h.1
theorem look_of {p : PlotT} (hg : groundM p.g = true) (h : ((hardOM p.g 0).2 == 0) = true) : lookM p.g = true := by
  have hok := ground_ok hg
  have h0 : Pl p.g 0 := ⟨Int.le_refl _, by have := hok.long.1; omega⟩
  rw [hard_told hg h0] at h
  cases hl : lookM p.g with
  | true => rfl
  | false => rw [hl] at h; simp at h
theorem works_ok {p : PlotT} (hp : isPlotM p = true) (hh : ((hardOM p.g 0).2 == 0) = true) : StepsOk p.steps (worksM p) := by
  obtain ⟨hg, hl, hs⟩ := plot_ok hp
  refine ⟨by omega, fun i hi => ?_, fun i hi => ?_⟩
  · have := step_rest_ok (hs i hi); omega
  · rw [works_get p i hi]
    have hsi := hs i hi
    revert hsi
    generalize p.steps.getD i (0, 0, 0) = s
    intro hsi
    unfold wM
    cases hr : s.2.2 == 0 with
    | false => exact ⟨by show (0 : Int) ≤ 0; omega, by show (0 : Int) ≤ 0; omega, by show (0 : Int) ≤ 41000; omega⟩
    | true =>
      unfold okStepM inM at hsi
      rw [hr] at hsi
      simp only [Bool.not_true, Bool.false_or, Bool.and_eq_true, decide_eq_true_eq] at hsi
      have hok := ground_ok hg
      have hlook := look_of hg hh
      have hn := n_ok hok
      have ha : Pl p.g s.1 := ⟨hsi.2.1.1, by omega⟩
      have hb : Pl p.g s.2.1 := ⟨by omega, hsi.2.2.2⟩
      have hb2 := hb.2
      have e := work_told hg ha hb hsi.2.1.2
      rw [hlook] at e
      simp only [if_true] at e ⊢
      rw [e]
      have hs := sum_bound hok (look_hok hok hlook) s.1.toNat (s.2.1.toNat + 1 - s.1.toNat) (by omega)
      have hl2 := hok.long.2
      exact ⟨hs.1, hs.2.1, by show (sumM p.g s.1.toNat (s.2.1.toNat + 1 - s.1.toNat)).2 ≤ 41000; omega⟩
theorem with_team {t : TeamT} {n : Int} (h : teamM t = true) (h0 : 0 ≤ n) (h1 : n ≤ t.2.2.2) : teamM (withM t n) = true := by
  have := team_ok h
  unfold teamM inM spanM withM
  simp only [Bool.and_eq_true, decide_eq_true_eq]
  omega
theorem first_true {p : Int → Bool} {to : Int} (h : (firstM p to).2 = true) : 0 ≤ (firstM p to).1 ∧ (firstM p to).1 ≤ to ∧ p (firstM p to).1 = true ∧ ∀ j, 0 ≤ j → j < (firstM p to).1 → p j = false := by
  unfold firstM at h ⊢
  split at h
  · rename_i i hi
    rw [List.find?_range_eq_some] at hi
    have hlt := List.mem_range.1 hi.2.1
    refine ⟨Int.natCast_nonneg _, by show (i : Int) ≤ to; omega, hi.1, fun j h0 h1 => ?_⟩
    have := hi.2.2 j.toNat (by have h1' : j < (i : Int) := h1; omega)
    rw [show ((j.toNat : Nat) : Int) = j by omega] at this
    simpa using this
  · cases h
theorem first_false {p : Int → Bool} {to : Int} (h : (firstM p to).2 = false) : (firstM p to).1 = 0 ∧ ∀ j, 0 ≤ j → j ≤ to → p j = false := by
  unfold firstM at h ⊢
  split at h
  · cases h
  · rename_i hi
    rw [List.find?_range_eq_none] at hi
    refine ⟨rfl, fun j h0 h1 => ?_⟩
    have := hi j.toNat (by omega)
    rw [show ((j.toNat : Nat) : Int) = j by omega] at this
    simpa using this
end AE.Team

namespace AE.Team
open Go AE Go.Proofs AE.Soil

theorem getD_app_left {α : Type} {a b : List α} {i : Nat} (d : α) (h : i < a.length) : (a ++ b).getD i d = a.getD i d := by
  simp [List.getD_eq_getElem?_getD, List.getElem?_append_left h]
theorem getD_app_at {α : Type} {a b : List α} {i : Nat} (d : α) : (a ++ b).getD (a.length + i) d = b.getD i d := by
  rw [List.getD_eq_getElem?_getD, List.getD_eq_getElem?_getD, List.getElem?_append_right (Nat.le_add_right _ _), Nat.add_sub_cancel_left]
section
variable {g : GroundT} {st : List StepT} {h : HorT} {r : List Int}
end
end AE.Team

namespace AE.Team
open Go AE Go.Proofs AE.Soil

section
variable {l : List StepT} {w : List Span} {h : HorT}
def minM (l : List StepT) (w : List Span) (h : HorT) (i : Nat) : Int := (tryM l w h i (goM l w h i).2).1
theorem go_get : ∀ (n i : Nat), i < n → (goM l w h n).1.getD i 0 = minM l w h i
  | 0, i, hi => absurd hi (Nat.not_lt_zero i)
  | n + 1, i, hi => by
    show ((goM l w h n).1 ++ [minM l w h n]).getD i 0 = _
    have hl := go_len l w h n
    by_cases h1 : i < n
    · rw [getD_app_left _ (by omega)]; exact go_get n i h1
    · have e : i = (goM l w h n).1.length + 0 := by omega
      rw [e, getD_app_at, hl]; rfl
structure FOk (l : List StepT) (w : List Span) (h : HorT) : Prop where
  hor : HorOk h
  s0 : 0 ≤ h.1
  s1 : h.1 ≤ h.2.2.2.1
  st : StepsOk l w
  z : ∀ i, i < l.length → (l.getD i (0, 0, 0)).2.2 = 0
theorem FOk.no (f : FOk l w h) {i : Nat} (hi : i < l.length) : (stpM l i).1 = false := by
  unfold stpM
  exact decide_eq_false (by rw [f.z i hi]; decide)
theorem suit_eq (f : FOk l w h) {i : Nat} (hi : i < l.length) (now m : Int) : suitM (.inr (trialM l w h i now)) m = decide (furrowM h (w.getD i (0, 0)) (restM h m now) ≥ 0) := by
  show decide (stepM (trialM l w h i now) (restM h m now) ≥ 0) = _
  rw [step_furrow (f.no hi)]
theorem go_suc (f : FOk l w h) {i : Nat} (hi : i < l.length) : (goM l w h (i + 1)).2 = furrowM h (w.getD i (0, 0)) (restM h (minM l w h i) (goM l w h i).2) := by
  show stepM (trialM l w h i (goM l w h i).2) (restM h (minM l w h i) (goM l w h i).2) = _
  rw [step_furrow (f.no hi)]
theorem min_ok (f : FOk l w h) {i : Nat} (hi : i < l.length) (hok : okAtM l w h i = true) : 0 ≤ minM l w h i ∧ minM l w h i ≤ h.2.2.2.1 ∧ 0 ≤ (goM l w h (i + 1)).2 ∧ ∀ j, 0 ≤ j → j < minM l w h i → furrowM h (w.getD i (0, 0)) (restM h j (goM l w h i).2) < 0 := by
  obtain ⟨a1, a2, a3, a4⟩ := first_true (p := fun m => suitM (.inr (trialM l w h i (goM l w h i).2)) m) (to := h.2.2.2.1) hok
  refine ⟨a1, a2, ?_, fun j h0 h1 => ?_⟩
  · rw [go_suc f hi]
    have a3' : suitM (.inr (trialM l w h i (goM l w h i).2)) (minM l w h i) = true := a3
    rw [suit_eq f hi] at a3'
    exact of_decide_eq_true a3'
  · have := a4 j h0 h1
    have this' : suitM (.inr (trialM l w h i (goM l w h i).2)) j = false := this
    rw [suit_eq f hi] at this'
    have := of_decide_eq_false this'
    omega
theorem go_bound (f : FOk l w h) : ∀ i, i ≤ l.length → (∀ j, j < i → okAtM l w h j = true) → 0 ≤ (goM l w h i).2 ∧ (goM l w h i).2 ≤ h.2.2.2.1
  | 0, _, _ => ⟨f.s0, f.s1⟩
  | i + 1, hi, hok => by
    have ih := go_bound f i (by omega) fun j hj => hok j (by omega)
    have hm := min_ok f (by omega) (hok i (by omega))
    refine ⟨hm.2.2.1, ?_⟩
    rw [go_suc f (by omega)]
    have hf1 := f.hor.f1
    have hf0 := f.hor.f0
    have hmb := mul_bound f.hor.g0 f.hor.g1 hm.1 (show minM l w h i ≤ 10000 by omega)
    have er := rest_eq f.hor hm.1 (show minM l w h i ≤ 10000 by omega) (show -1000000000 ≤ (goM l w h i).2 by omega) (by omega)
    rw [er, furrow_eq f.hor (f.st.work i (by omega)) (by omega) (by omega)]
    have := cost_bound f.hor (f.st.work i (by omega))
    omega
end
end AE.Team

namespace AE.Team
open Go AE Go.Proofs AE.Soil

section
variable {t : TeamT} {p : PlotT}
theorem all_furrows (h : (!p.steps.any fun s => sfM none s) = true) : ∀ i, i < p.steps.length → (p.steps.getD i (0, 0, 0)).2.2 = 0 := by
  intro i hi
  have h' : (p.steps.any fun s => sfM none s) = false := by simpa using h
  rw [List.any_eq_false] at h'
  have := h' (p.steps.getD i (0, 0, 0)) (by rw [List.getD_eq_getElem?_getD, List.getElem?_eq_getElem hi]; exact List.getElem_mem hi)
  simpa [sfM] using this
end
end AE.Team

namespace AE.Team
open Go AE Go.Proofs AE.Soil

def NowLe (l : List StepT) (w w' : List Span) (h h' : HorT) : Prop := ∀ i, i ≤ l.length → nowM l w h i ≤ nowM l w' h' i
theorem nowLe_of {l : List StepT} {w w' : List Span} {h h' : HorT} (hs : StepsOk l w) (hs' : StepsOk l w') (hh : HorOk h) (hh' : HorOk h') (hL : Less h h') (h0 : 0 ≤ h.1) (h1 : h.1 ≤ h.2.2.2.1) (h0' : 0 ≤ h'.1) (h1' : h'.1 ≤ h'.2.2.2.1) (hn : h.1 ≤ h'.1)
    (ho : ∀ i, i < l.length → ofM h' (w'.getD i (0, 0)) ≤ ofM h (w.getD i (0, 0))) : NowLe l w w' h h' := now_mono hs hs' hh hh' hL h0 h1 h0' h1' hn ho
section
variable {t t' : TeamT} {p p' : PlotT}
end
section
variable {l : List StepT} {w : List Span} {h h' : HorT}
structure LessH (h h' : HorT) : Prop where
  less : Less h h'
  full : h.2.2.2.1 = h'.2.2.2.1
  now : h.1 ≤ h'.1
  worst : h.2.2.2.2 = h'.2.2.2.2
def sumR (l : List StepT) (w : List Span) (h : HorT) : Nat → Int
  | 0 => 0
  | i + 1 => sumR l w h i + minM l w h i
end
section
variable {t t' : TeamT} {p : PlotT}
end
end AE.Team

namespace AE.Team
open Go AE Go.Proofs AE.Soil

abbrev RhT := Int × Int × Int × Bool
def rHor (t : TeamT) (r : RhT) : HorT := (r.1, r.2.1, r.2.2.1, t.2.2.2, r.2.2.2)
def vRh (r : RhT) : AV := .agg [.i r.1, .i r.2.1, .i r.2.2.1, .b r.2.2.2]
def avRh : AV → Option RhT
  | .agg [a, b, c, d] => match avInt a, avInt b, avInt c, avBool d with
    | some a, some b, some c, some d => some (a, b, c, d)
    | _, _, _, _ => none
  | _ => none
def vStepA (s : StepT) : AV := .agg [.i s.1, .i s.2.1, .i s.2.2]
def avStepA : AV → Option StepT
  | .agg [a, b, c] => match avInt a, avInt b, avInt c with
    | some a, some b, some c => some (a, b, c)
    | _, _, _ => none
  | _ => none
def afterM (t : TeamT) (g : GroundT) (r : RhT) (now : Int) (s : StepT) : Int × Bool := if s.2.2 > 0 then (restM (rHor t r) s.2.2 now, false) else (furrowM (rHor t r) (rsumM g s.1 s.2.1) now, decide (furrowM (rHor t r) (rsumM g s.1 s.2.1) now < 0))
structure GoOk (p : PlotT) : Prop where
  ground : groundM p.g = true
  hard : hokM p.g = true
  steps : ∀ i, i < p.steps.length → okStepM p.g.long (p.steps.getD i (0, 0, 0)) = true
def afterS : FSpec UU where
  X := TeamT × PlotT × RhT × Int × StepT
  pick := fun args H => match args with
    | [a, b, c, d, e] => match avTeam a, avPlot H b, avRh c, avInt d, avStepA e with
      | some a, some b, some c, some d, some e => some (a, b, c, d, e)
      | _, _, _, _, _ => none
    | _ => none
  args := fun x => [vTeam x.1, vPlot x.2.1 0 1, vRh x.2.2.1, .i x.2.2.2.1, vStepA x.2.2.2.2]
  H := fun x => hPlot x.2.1
  R := fun x => .val ⟨.tup [.i (afterM x.1 x.2.1.g x.2.2.1 x.2.2.2.1 x.2.2.2.2).1, .b (afterM x.1 x.2.1.g x.2.2.1 x.2.2.2.1 x.2.2.2.2).2], [], [], []⟩
  pre := fun x => groundM x.2.1.g = true ∧ hokM x.2.1.g = true ∧ okStepM x.2.1.g.long x.2.2.2.2 = true
def Tafter : Tab UU := [(90, rsumS.con)]
theorem Tafter_ok : Tafter.Sound Tryz.prog := .cons rsum_sound .nil
theorem ok_step {long : Int} {s : StepT} (h : okStepM long s = true) (hr : ¬ s.2.2 > 0) : 0 ≤ s.1 ∧ s.1 ≤ s.2.1 ∧ s.2.1 ≤ long := by
  unfold okStepM inM at h
  simp only [Bool.and_eq_true, Bool.or_eq_true, Bool.not_eq_true', decide_eq_true_eq, beq_eq_false_iff_ne] at h
  omega
theorem after_ok : ∀ x, afterS.pre x → FunOk Tryz.prog 51 (afterS.args x) (afterS.H x) (afterS.R x) := by
  rintro ⟨⟨⟨s0, s1⟩, ⟨l0, l1⟩, ⟨g0, g1⟩, full⟩, ⟨⟨long, rise, change, ps⟩, st⟩, ⟨r0, r1, r2, r3⟩, now, ⟨a, b, c⟩⟩ hx
  refine fun_of (T := Tafter) (L := fun _ => none) (hs := fun _ => []) hmix Tafter_ok Tryz.func51 (by kernel_rfl) (by kernel_rfl) ?_
  refine Eq.mp (α :=
      let A3 := (100 : Int) ≠ (0 : Int); let A0 := True ∧ ps = ps ∧ st = st ∧ True; let A4 := afterM (((s0, s1), (((l0, l1), (((g0, g1), full)))))) (GroundT.mk long rise change ps) ((r0, ((r1, r2, r3)))) now ((a, b, c)); let A5 := IntKind.wrap IntKind.i64 (now - (IntKind.wrap IntKind.i64 (Int.tdiv (IntKind.wrap IntKind.i64 ((IntKind.wrap IntKind.i64 (r1 * (Prod.snd (rsumM (GroundT.mk long rise change ps) a b)))) + (99 : Int))) (100 : Int)))); let A6 := IntKind.wrap IntKind.i64 (now - (IntKind.wrap IntKind.i64 (Int.tdiv (IntKind.wrap IntKind.i64 ((IntKind.wrap IntKind.i64 (r1 * (Prod.fst (rsumM (GroundT.mk long rise change ps) a b)))) + (99 : Int))) (100 : Int)))); let A1 := Value.bool (Prod.snd A4); let A2 := Value.int IntKind.i64 (Prod.fst A4); let A7 := decide (c > (0 : Int)); (A7 = true → True ∧ ((Value.int IntKind.i64 (min full (IntKind.wrap IntKind.i64 (now + IntKind.wrap IntKind.i64 (r2 * c)))) = A2 ∧ A1 = Value.bool false ∧ True) ∧ True) ∧ A0) ∧ (A7 = false → (groundM (GroundT.mk long rise change ps) = true ∧ hokM (GroundT.mk long rise change ps) = true ∧ (0 : Int) ≤ a ∧ a ≤ b ∧ b ≤ long) ∧ ((Value.int IntKind.i64 long = Value.int IntKind.i64 long ∧ Value.int IntKind.i64 rise = Value.int IntKind.i64 rise ∧ Value.int IntKind.i64 change = Value.int IntKind.i64 change ∧ (nat_lit 0 = nat_lit 0 ∧ nat_lit 0 = nat_lit 0 ∧ List.length ps = List.length ps) ∧ True) ∧ Value.int IntKind.i64 a = Value.int IntKind.i64 a ∧ Value.int IntKind.i64 b = Value.int IntKind.i64 b ∧ True) ∧ (ps = ps ∧ True) ∧ (r3 = true → A3 ∧ True ∧ ((Value.int IntKind.i64 A5 = A2 ∧ Value.bool (decide (A5 < (0 : Int))) = A1 ∧ True) ∧ True) ∧ A0) ∧ (r3 = false → A3 ∧ True ∧ ((Value.int IntKind.i64 A6 = A2 ∧ Value.bool (decide (A6 < (0 : Int))) = A1 ∧ True) ∧ True) ∧ A0)))
    (by kernel_rfl) ?_
  simp only [eq_self, AE.goS]
  obtain ⟨h1, h2, h3⟩ := hx
  refine ⟨fun hc => ?_, fun hc => ⟨⟨h1, h2, ok_step h3 hc⟩, fun hr => ⟨by decide, ?_⟩, fun hr => ⟨by decide, ?_⟩⟩⟩
  · unfold afterM
    rw [if_pos hc]
    exact ⟨rfl, rfl⟩
  · subst hr
    unfold afterM
    rw [if_neg hc]
    exact ⟨rfl, rfl⟩
  · subst hr
    unfold afterM
    rw [if_neg hc]
    exact ⟨rfl, rfl⟩

theorem after_sound : Sound Tryz.prog 51 afterS.con := FSpec.sound _ (enter_of Tryz.func51 (by kernel_rfl) (by kernel_rfl)) after_ok
def nowR (t : TeamT) (p : PlotT) (r : RhT) : Nat → Int
  | 0 => r.1
  | i + 1 => (afterM t p.g r (nowR t p r i) (p.steps.getD i (0, 0, 0))).1
def isR (t : TeamT) (p : PlotT) (r : RhT) (i : Nat) : Bool := (afterM t p.g r (nowR t p r i) (p.steps.getD i (0, 0, 0))).2
def fallRM (t : TeamT) (p : PlotT) (r : RhT) : Int := match (List.range p.steps.length).find? fun i => isR t p r i with
  | some i => i
  | none => -1
theorem fall_at {t : TeamT} {p : PlotT} {r : RhT} {i : Nat} (hi : i < p.steps.length) (h : isR t p r i = true) (h0 : ∀ j, j < i → isR t p r j = false) : fallRM t p r = i := by
  have : (List.range p.steps.length).find? (fun i => isR t p r i) = some i := by
    rw [List.find?_range_eq_some]
    exact ⟨h, List.mem_range.2 hi, fun j hj => by simp [h0 j hj]⟩
  unfold fallRM
  rw [this]
theorem fall_none {t : TeamT} {p : PlotT} {r : RhT} (h0 : ∀ j, j < p.steps.length → isR t p r j = false) : fallRM t p r = -1 := by
  have : (List.range p.steps.length).find? (fun i => isR t p r i) = none := by
    rw [List.find?_range_eq_none]
    intro j hj
    simp [h0 j hj]
  unfold fallRM
  rw [this]
def cRh (r : RhT) : List AV := [.i r.1, .i r.2.1, .i r.2.2.1, .b r.2.2.2]
def nowRM (t : TeamT) (p : PlotT) (r : RhT) (i : Nat) : Int := nowR t p r i
def fallL (t : TeamT) (p : PlotT) (r : RhT) : LSpec UU where
  T := { i : Nat // i ≤ p.steps.length ∧ ∀ j, j < i → isR t p r j = false }
  fr := fun i => [(3, .ptr 2 0 0 0), (4, .ptr 3 0 0 0), (5, .ptr 4 0 0 0), (7, .i (nowRM t p r i.1)), (8, .i i.1)]
  H := fun _ => hPlot p ++ [.one (.cells (cTeam t) 25), .one (.cells (cPlot p 0 1) 31), .one (.cells (cRh r) 85)]
  mu := fun i => p.steps.length - i.1
def failedRS : FSpec UU where
  X := TeamT × PlotT × RhT
  pick := fun args H => match args with
    | [a, b, c] => match avTeam a, avPlot H b, avRh c with
      | some a, some b, some c => some (a, b, c)
      | _, _, _ => none
    | _ => none
  args := fun x => [vTeam x.1, vPlot x.2.1 0 1, vRh x.2.2]
  H := fun x => hPlot x.2.1
  R := fun x => .val ⟨.i (fallRM x.1 x.2.1 x.2.2), [], [], []⟩
  pre := fun x => GoOk x.2.1 ∧ x.2.1.steps.length < 1000000
def TfailedR : Tab UU := [(51, afterS.con)]
theorem TfailedR_ok : TfailedR.Sound Tryz.prog := .cons after_sound .nil
theorem failedR_ok : ∀ x, failedRS.pre x → FunOk Tryz.prog 46 (failedRS.args x) (failedRS.H x) (failedRS.R x) := by
  rintro ⟨⟨⟨s0, s1⟩, ⟨l0, l1⟩, ⟨g0, g1⟩, full⟩, ⟨⟨long, rise, change, ps⟩, st⟩, ⟨r0, r1, r2, r3⟩⟩ hx
  refine fun_of (T := TfailedR) (L := fun _ => some (.inv (fallL ((s0, s1), (l0, l1), (g0, g1), full) ⟨⟨long, rise, change, ps⟩, st⟩ (r0, r1, r2, r3)))) (hs := fun _ => []) hmix TfailedR_ok Tryz.func46 (by kernel_rfl) (by kernel_rfl) ?_
  refine Eq.mp (α :=
      let A1 := nat_lit 0 = nat_lit 0 ∧ nat_lit 0 = nat_lit 0 ∧ nat_lit 0 = nat_lit 0; let A3 := (r0, ((r1, r2, r3))); let Aa := ps = ps ∧ st = st ∧ True; let Ab := True ∧ Aa; let A4 := ((s0, s1), (((l0, l1), (((g0, g1), full))))); let Ac := (Value.int IntKind.i64 r0 = Value.int IntKind.i64 r0) ∧ (Value.int IntKind.i64 r1 = Value.int IntKind.i64 r1) ∧ (Value.int IntKind.i64 r2 = Value.int IntKind.i64 r2) ∧ Value.bool r3 = Value.bool r3 ∧ True; let Ad := Value.int IntKind.i64 (fallRM A4 (PlotT.mk (GroundT.mk long rise change ps) st) A3); let Aq := fun (i : Nat) => ∀ (j : Nat), (j < i → ((isR A4 (PlotT.mk (GroundT.mk long rise change ps) st) A3 j) = false)); let Ae := (Value.int IntKind.i64 long = Value.int IntKind.i64 long) ∧ (Value.int IntKind.i64 rise = Value.int IntKind.i64 rise) ∧ (Value.int IntKind.i64 change = Value.int IntKind.i64 change) ∧ (nat_lit 0 = nat_lit 0 ∧ nat_lit 0 = nat_lit 0 ∧ List.length ps = List.length ps) ∧ (nat_lit 0 = nat_lit 0 ∧ nat_lit 0 = nat_lit 0 ∧ List.length st = List.length st) ∧ True; let Af := (Value.int IntKind.i64 s0 = Value.int IntKind.i64 s0) ∧ (Value.int IntKind.i64 s1 = Value.int IntKind.i64 s1) ∧ (Value.int IntKind.i64 l0 = Value.int IntKind.i64 l0) ∧ (Value.int IntKind.i64 l1 = Value.int IntKind.i64 l1) ∧ (Value.int IntKind.i64 g0 = Value.int IntKind.i64 g0) ∧ (Value.int IntKind.i64 g1 = Value.int IntKind.i64 g1) ∧ (Value.int IntKind.i64 full = Value.int IntKind.i64 full) ∧ True; let A0 : Type := { i : Nat // ((i ≤ (List.length (PlotT.steps (PlotT.mk (GroundT.mk long rise change ps) st)))) ∧ Aq i) }; let A7 := fun (x : A0) => Subtype.val x; let A2 := fun (x : A0) => (↑(A7 x) : Int); let A8 := fun (x : A0) => Value.int IntKind.i64 (A2 x); let Ag := fun (x : A0) => List.length st - A7 x; let Ah := fun (t : A0) => nat_lit 0 + (Int.toNat (A2 t)); let Ai := fun (t : A0) => A2 t < ((↑(List.length st) : Int)); let A5 := fun (t : A0) => List.getD st (Ah t) (((0 : Int), (((0 : Int), (0 : Int))))); let Aj := fun (t : A0) => Prod.snd (A5 t); let Ak := fun (t : A0) => Value.int IntKind.i64 ((Prod.fst (A5 t))); let Al := fun (x : A0) => nowRM A4 (PlotT.mk (GroundT.mk long rise change ps) st) A3 (A7 x); let Am := fun (t : A0) => Value.int IntKind.i64 ((Prod.snd (Aj t))); let An := fun (t : A0) => Value.int IntKind.i64 ((Prod.fst (Aj t))); let A6 := fun (x : A0) => Value.int IntKind.i64 (Al x); let Ao := ps = ps ∧ st = st ∧ Af ∧ Ae ∧ Ac ∧ True; let Ap := fun (t : A0) => decide (Ai t); let A9 := fun (t : A0) => afterM A4 (GroundT.mk long rise change ps) A3 (Al t) (A5 t); (∃ (x : A0), (A1 ∧ A1 ∧ A1 ∧ Value.int IntKind.i64 r0 = A6 x ∧ Value.int IntKind.i64 (0 : Int) = A8 x ∧ True) ∧ True ∧ Ao) ∧ ∀ (t : A0), (Ap t = true → ((0 : Int) ≤ A2 t ∧ Ai t) ∧ Ah t < List.length st ∧ (groundM (GroundT.mk long rise change ps) = true ∧ hokM (GroundT.mk long rise change ps) = true ∧ okStepM long (A5 t) = true) ∧ (Af ∧ Ae ∧ Ac ∧ A6 t = A6 t ∧ (Ak t = Ak t ∧ An t = An t ∧ Am t = Am t ∧ True) ∧ True) ∧ Aa ∧ (Prod.snd (A9 t) = true → True ∧ (A8 t = Ad ∧ True) ∧ Ab) ∧ (Prod.snd (A9 t) = false → True ∧ ∃ (x : A0), ((A1 ∧ A1 ∧ A1 ∧ Value.int IntKind.i64 (Prod.fst (A9 t)) = A6 x ∧ Value.int IntKind.i64 (IntKind.wrap IntKind.i64 (A2 t + (1 : Int))) = A8 x ∧ True) ∧ True ∧ Ao) ∧ Ag x < Ag t)) ∧ (Ap t = false → True ∧ (Value.int IntKind.i64 (-1 : Int) = Ad ∧ True) ∧ Ab))
    (by kernel_rfl) ?_
  simp only [eq_self, AE.goS]
  obtain ⟨⟨hg, hh, hst⟩, hlen⟩ := hx
  have hlen' : st.length < 1000000 := hlen
  refine ⟨⟨⟨0, Nat.zero_le _, fun j hj => absurd hj (Nat.not_lt_zero j)⟩, rfl, rfl⟩, fun t => ⟨fun ht => ?_, fun ht => ?_⟩⟩
  · obtain ⟨i, hi, h0⟩ := t
    have hlt : i < st.length := by have h1 : (i : Int) < (st.length : Int) := ht; omega
    refine ⟨⟨Int.natCast_nonneg _, ht⟩, hlt, ⟨hg, hh, hst i hlt⟩, fun h => ?_, fun h => ⟨⟨i + 1, hlt, fun j hj => ?_⟩, ⟨rfl, sucI i (by omega)⟩, dec1 hlt⟩⟩
    · exact (fall_at (t := ((s0, s1), (l0, l1), (g0, g1), full)) (p := ⟨⟨long, rise, change, ps⟩, st⟩) (r := (r0, r1, r2, r3)) hlt h h0).symm
    · rcases Nat.lt_or_eq_of_le (Nat.le_of_lt_succ hj) with h2 | rfl
      · exact h0 j h2
      · exact h
  · obtain ⟨i, hi, h0⟩ := t
    have hie : i = st.length := by have h1 : ¬ (i : Int) < (st.length : Int) := ht; omega
    subst hie
    exact (fall_none h0).symm

theorem failedR_sound : Sound Tryz.prog 46 failedRS.con := FSpec.sound _ (enter_of Tryz.func46 (by kernel_rfl) (by kernel_rfl)) failedR_ok
def gRM (s l g : Int) : Nat → List RhT
  | 0 => []
  | n + 1 => gRM s l g n ++ [(s, l, g + n, false), (s, l, g + n, true)]
def lRM (s l g : Int) (n : Nat) : Nat → List RhT
  | 0 => []
  | m + 1 => lRM s l g n m ++ gRM s (l + m) g n
def sRM (s l g : Int) (n m : Nat) : Nat → List RhT
  | 0 => []
  | k + 1 => sRM s l g n m k ++ lRM (s + k) l g n m
def wideM (s : Span) : Nat := (s.2 - s.1 + 1).toNat
def allRM (t : TeamT) : List RhT := sRM t.1.1 t.2.1.1 t.2.2.1.1 (wideM t.2.2.1) (wideM t.2.1) (wideM t.1)
theorem gR_len (s l g : Int) : ∀ n, (gRM s l g n).length = 2 * n
  | 0 => rfl
  | n + 1 => by rw [gRM, List.length_append, gR_len s l g n]; simp; omega
theorem lR_len (s l g : Int) (n : Nat) : ∀ m, (lRM s l g n m).length = 2 * n * m
  | 0 => rfl
  | m + 1 => by rw [lRM, List.length_append, lR_len s l g n m, gR_len, Nat.mul_succ]
theorem sR_len (s l g : Int) (n m : Nat) : ∀ k, (sRM s l g n m k).length = 2 * n * m * k
  | 0 => rfl
  | k + 1 => by rw [sRM, List.length_append, sR_len s l g n m k, lR_len, Nat.mul_succ]
theorem all_len (s l g : Int) (n m i j k : Nat) (hn : n ≤ 1001) (hm : m ≤ 101) (hi : i ≤ 10001) (hj : j ≤ 101) (hk : k ≤ 1001) : (sRM s l g n m i ++ lRM (s + i) l g n j ++ gRM (s + i) (l + j) g k).length ≤ 2 * 1001 * 101 * 10003 := by
  rw [List.length_append, List.length_append, sR_len, lR_len, gR_len]
  have h1 : 2 * n * m ≤ 2 * 1001 * 101 := Nat.mul_le_mul (Nat.mul_le_mul_left 2 hn) hm
  have h2 : 2 * n * m * i ≤ 2 * 1001 * 101 * 10001 - 2 * 1001 * 101 * 0 := Nat.mul_le_mul h1 hi
  have h3 : 2 * n * j ≤ 2 * 1001 * 100 + 2 * 1001 := Nat.mul_le_mul (Nat.mul_le_mul_left 2 hn) hj
  omega
def aH (t : TeamT) (l : List RhT) : Heap UU := [.one (.cells (cTeam t) 25), .one (.row .rhorse l 85)]
def aL1 (t : TeamT) : LSpec UU where
  T := { i : Nat // i ≤ wideM t.1 }
  fr := fun i => [(1, .ptr 0 0 0 0), (3, .gs 1 0), (4, .i (t.1.1 + i.1))]
  H := fun i => aH t (sRM t.1.1 t.2.1.1 t.2.2.1.1 (wideM t.2.2.1) (wideM t.2.1) i.1)
  mu := fun i => wideM t.1 - i.1
def aL2 (t : TeamT) : LSpec UU where
  T := { p : Nat × Nat // p.1 < wideM t.1 ∧ p.2 ≤ wideM t.2.1 }
  fr := fun p => [(1, .ptr 0 0 0 0), (3, .gs 1 0), (4, .i (t.1.1 + p.1.1)), (5, .i (t.2.1.1 + p.1.2))]
  H := fun p => aH t (sRM t.1.1 t.2.1.1 t.2.2.1.1 (wideM t.2.2.1) (wideM t.2.1) p.1.1 ++ lRM (t.1.1 + p.1.1) t.2.1.1 t.2.2.1.1 (wideM t.2.2.1) p.1.2)
  mu := fun p => wideM t.2.1 - p.1.2
def aL3 (t : TeamT) : LSpec UU where
  T := { p : (Nat × Nat) × Nat // p.1.1 < wideM t.1 ∧ p.1.2 < wideM t.2.1 ∧ p.2 ≤ wideM t.2.2.1 }
  fr := fun p => [(1, .ptr 0 0 0 0), (3, .gs 1 0), (4, .i (t.1.1 + p.1.1.1)), (5, .i (t.2.1.1 + p.1.1.2)), (6, .i (t.2.2.1.1 + p.1.2))]
  H := fun p => aH t (sRM t.1.1 t.2.1.1 t.2.2.1.1 (wideM t.2.2.1) (wideM t.2.1) p.1.1.1 ++ lRM (t.1.1 + p.1.1.1) t.2.1.1 t.2.2.1.1 (wideM t.2.2.1) p.1.1.2 ++ gRM (t.1.1 + p.1.1.1) (t.2.1.1 + p.1.1.2) t.2.2.1.1 p.1.2)
  mu := fun p => wideM t.2.2.1 - p.1.2
def aRule (t : TeamT) (key : Nat) : Option (LRule UU) := match Nat.beq key 3 with
  | true => some (.inv (aL1 t))
  | false => match Nat.beq key 6 with
    | true => some (.invR (aL2 t) fun a b => b.1.1 = a.1.1)
    | false => match Nat.beq key 9 with
      | true => some (.invR (aL3 t) fun a b => b.1.1 = a.1.1)
      | false => none
def allRS : FSpec UU where
  X := TeamT
  pick := fun args _ => match args with
    | [a] => avTeam a
    | _ => none
  args := fun (x : TeamT) => [vTeam x]
  H := fun _ => []
  R := fun (x : TeamT) => .val ⟨.gs 0 0, [], [], [.row .rhorse (allRM x) 85]⟩
  pre := fun (x : TeamT) => teamM x = true
theorem allR_ok : ∀ x, allRS.pre x → FunOk Tryz.prog 45 (allRS.args x) (allRS.H x) (allRS.R x) := by
  rintro ⟨⟨s0, s1⟩, ⟨l0, l1⟩, ⟨g0, g1⟩, full⟩ hx
  refine fun_of (T := []) (L := aRule ((s0, s1), (l0, l1), (g0, g1), full)) (hs := fun _ => []) hmix .nil Tryz.func45 (by kernel_rfl) (by kernel_rfl) ?_
  refine Eq.mp (α :=
      let Ah := (85 : TypeId); let A3 := nat_lit 0 = nat_lit 0 ∧ nat_lit 0 = nat_lit 0 ∧ nat_lit 0 = nat_lit 0; let AM := fun (p : (Nat × Nat) × Nat) => Prod.fst (Prod.fst p); let AN := fun (p : (Nat × Nat) × Nat) => Prod.snd (Prod.fst p); let A7 := Ah = Ah; let Ai := ((s0, s1), (((l0, l1), (((g0, g1), full))))); let As := Prod.snd Ai; let Aj := wideM (Prod.fst Ai); let At := wideM (Prod.fst As); let A2 : Type := { i : Nat // (i ≤ Aj) }; let Ak := fun (x : A2) => Subtype.val x; let AO := fun (p : (Nat × Nat) × Nat) => AM p < Aj; let AP := fun (p : (Nat × Nat) × Nat) => AN p < At; let AQ := fun (p : (Nat × Nat) × Nat) => Prod.snd p ≤ (wideM (Prod.fst (Prod.snd As))); let Au := fun (x : A2) => s0 + ((↑(Ak x) : Int)); let Av := fun (x : A2) => wideM (s0, s1) - Ak x; let Ad := fun (x : A2) => sRM s0 l0 g0 (wideM (g0, g1)) (wideM (l0, l1)) (Ak x); let Al := fun (x : A2) => Value.int IntKind.i64 (Au x); let A4 := (Value.int IntKind.i64 s0 = Value.int IntKind.i64 s0) ∧ (Value.int IntKind.i64 s1 = Value.int IntKind.i64 s1) ∧ (Value.int IntKind.i64 l0 = Value.int IntKind.i64 l0) ∧ (Value.int IntKind.i64 l1 = Value.int IntKind.i64 l1) ∧ (Value.int IntKind.i64 g0 = Value.int IntKind.i64 g0) ∧ (Value.int IntKind.i64 g1 = Value.int IntKind.i64 g1) ∧ (Value.int IntKind.i64 full = Value.int IntKind.i64 full) ∧ True; let A1 : Type := { p : Nat × Nat // ((Prod.fst p < Aj) ∧ Prod.snd p ≤ At) }; let Aw := fun (x : A1) => Subtype.val x; let A5 := fun (x : A1) => Prod.fst (Aw x); let Am := fun (x : A1) => Prod.snd (Aw x); let AR := fun (p : (Nat × Nat) × Nat) => AP p ∧ AQ p; let Ax := fun (x : A1) => l0 + ((↑(Am x) : Int)); let An := fun (x : A1) => s0 + ((↑(A5 x) : Int)); let Ay := fun (x : A1) => wideM (l0, l1) - Am x; let Ao := fun (x : A1) => Value.int IntKind.i64 (Ax x); let Ap := fun (x : A1) => Value.int IntKind.i64 (An x); let AS := fun (p : (Nat × Nat) × Nat) => AO p ∧ AR p; let A0 : Type := { p : (Nat × Nat) × Nat // AS p }; let Az := fun (x : A0) => Subtype.val x; let A6 := fun (x : A0) => Prod.fst (Az x); let Aq := fun (x : A0) => Prod.snd (Az x); let AA := fun (x : A0) => Prod.snd (A6 x); let AB := fun (x : A0) => Prod.fst (A6 x); let A8 := fun (x : A0) => g0 + ((↑(Aq x) : Int)); let AC := fun (x : A0) => wideM (g0, g1) - Aq x; let A9 := fun (x : A0) => s0 + ((↑(AB x) : Int)); let Aa := fun (x : A0) => l0 + ((↑(AA x) : Int)); let Ar := fun (x : A0) => Value.int IntKind.i64 (A8 x); let AD := fun (t : A0) => AV.v (Ar t); let Ab := fun (x : A0) => Value.int IntKind.i64 (A9 x); let Ae := fun (x : A0) => Value.int IntKind.i64 (Aa x); let Af := fun (t : A0) => AV.v (Ab t); let AE := fun (t : A0) => AV.v (Ae t); let AF := fun (t : A2) => decide ((Au t ≤ s1)); let AG := fun (t x : A1) => A5 t = A5 x; let AH := fun (t : A1) => decide ((Ax t ≤ l1)); let AI := fun (t x : A0) => A6 t = A6 x; let Ag := fun (x : A1) => (sRM s0 l0 g0 (wideM (g0, g1)) (wideM (l0, l1)) (A5 x)) ++ (lRM (An x) l0 g0 (wideM (g0, g1)) (Am x)); let AJ := fun (t : A0) => AD t = AD t; let AK := fun (t : A0) => AE t = AE t; let AL := fun (t : A0) => decide ((A8 t ≤ g1)); let Ac := fun (x : A0) => (sRM s0 l0 g0 (wideM (g0, g1)) (wideM (l0, l1)) (AB x)) ++ (lRM (A9 x) l0 g0 (wideM (g0, g1)) (AA x)) ++ gRM (A9 x) (Aa x) g0 (Aq x); (∃ (x : A2), (True ∧ nat_lit 0 = nat_lit 0 ∧ True ∧ True) ∧ ((True ∧ True ∧ True ∧ True ∧ True ∧ True ∧ True ∧ True) ∧ Ad x = [] ∧ True) ∧ (A3 ∧ Value.slice none (nat_lit 0) (nat_lit 0) = Value.slice none (nat_lit 0) (nat_lit 0) ∧ Value.int IntKind.i64 s0 = Al x ∧ True) ∧ True ∧ A4 ∧ True ∧ True) ∧ ∀ (t : A2), (AF t = true → ∃ (x : A1), ((A3 ∧ nat_lit 0 = nat_lit 0 ∧ Al t = Ap x ∧ Value.int IntKind.i64 l0 = Ao x ∧ True) ∧ True ∧ A4 ∧ (A7 ∧ Ad t = Ag x) ∧ True) ∧ A5 x = A5 x ∧ ∀ (t_1 : A1), AG t_1 x → (AH t_1 = true → ∃ (x_1 : A0), ((A3 ∧ nat_lit 0 = nat_lit 0 ∧ Ap t_1 = Ab x_1 ∧ Ao t_1 = Ae x_1 ∧ Value.int IntKind.i64 g0 = Ar x_1 ∧ True) ∧ True ∧ A4 ∧ (A7 ∧ Ag t_1 = Ac x_1) ∧ True) ∧ A6 x_1 = A6 x_1 ∧ ∀ (t : A0), AI t x_1 → (AL t = true → (nat_lit 2 = nat_lit 2 ∧ Af t = Af t ∧ AK t ∧ AJ t ∧ AV.v (Value.bool false) = AV.v (Value.bool false) ∧ Af t = Af t ∧ AK t ∧ AJ t ∧ AV.v (Value.bool true) = AV.v (Value.bool true) ∧ True) ∧ nat_lit 2 ≤ nat_lit 2 ∧ List.length (Ac t) + nat_lit 2 ≤ nat_lit 1099511627776 ∧ True ∧ ∃ (x : A0), ((A3 ∧ nat_lit 0 = nat_lit 0 ∧ Ab t = Ab x ∧ Ae t = Ae x ∧ Value.int IntKind.i64 (IntKind.wrap IntKind.i64 (A8 t + (1 : Int))) = Ar x ∧ True) ∧ True ∧ A4 ∧ (nat_lit 85 = Ah ∧ Ac t ++ List.take (2 : Nat) (List.drop (0 : Nat) [(A9 t, Aa t, A8 t, false), (A9 t, Aa t, A8 t, true)]) = Ac x) ∧ True) ∧ AC x < AC t ∧ AI x x_1) ∧ (AL t = false → True ∧ ∃ (x_2 : A1), ((A3 ∧ nat_lit 0 = nat_lit 0 ∧ Ab t = Ap x_2 ∧ Value.int IntKind.i64 (IntKind.wrap IntKind.i64 (Aa t + (1 : Int))) = Ao x_2 ∧ True) ∧ True ∧ A4 ∧ (A7 ∧ Ac t = Ag x_2) ∧ True) ∧ Ay x_2 < Ay t_1 ∧ AG x_2 x)) ∧ (AH t_1 = false → True ∧ ∃ (x : A2), ((A3 ∧ nat_lit 0 = nat_lit 0 ∧ Value.int IntKind.i64 (IntKind.wrap IntKind.i64 (An t_1 + (1 : Int))) = Al x ∧ True) ∧ True ∧ A4 ∧ (A7 ∧ Ag t_1 = Ad x) ∧ True) ∧ Av x < Av t)) ∧ (AF t = false → True ∧ (nat_lit 0 = nat_lit 0 ∧ True) ∧ True ∧ (A7 ∧ Ad t = allRM Ai) ∧ True))
    (by kernel_rfl) ?_
  simp only [eq_self, AE.goS]
  have ht := team_ok (t := ((s0, s1), (l0, l1), (g0, g1), full)) hx
  have hS : (0 ≤ s0 ∧ s0 ≤ s1 ∧ s1 ≤ full) ∧ (0 ≤ l0 ∧ l0 ≤ l1 ∧ l1 ≤ 100) ∧ (0 ≤ g0 ∧ g0 ≤ g1 ∧ g1 ≤ 1000) ∧ full ≤ 10000 := by
    have : (0 ≤ full ∧ full ≤ 10000) ∧ (0 ≤ s0 ∧ s0 ≤ s1 ∧ s1 ≤ full) ∧ (0 ≤ l0 ∧ l0 ≤ l1 ∧ l1 ≤ 100) ∧ (0 ≤ g0 ∧ g0 ≤ g1 ∧ g1 ≤ 1000) := by simpa [and_assoc] using ht
    omega
  obtain ⟨hs, hl, hg, hful⟩ := hS
  have es : ((wideM (s0, s1) : Nat) : Int) = s1 - s0 + 1 := by unfold wideM; omega
  have el : ((wideM (l0, l1) : Nat) : Int) = l1 - l0 + 1 := by unfold wideM; omega
  have eg : ((wideM (g0, g1) : Nat) : Int) = g1 - g0 + 1 := by unfold wideM; omega
  refine ⟨⟨⟨0, Nat.zero_le _⟩, rfl, by simp⟩, fun t => ⟨fun ht => ?_, fun ht => ?_⟩⟩
  · obtain ⟨i, hi⟩ := t
    have hlt : i < wideM (s0, s1) := by have h1 : s0 + (i : Int) ≤ s1 := ht; omega
    refine ⟨⟨(i, 0), hlt, Nat.zero_le _⟩, ⟨⟨rfl, by simp⟩, (List.append_nil _).symm⟩, fun t => ?_⟩
    obtain ⟨⟨i', j⟩, h1, h2⟩ := t
    intro hii
    have hii' : i' = i := hii
    subst hii'
    have h2' : j ≤ wideM (l0, l1) := h2
    refine ⟨fun hj => ?_, fun hj => ?_⟩
    · have hjl : j < wideM (l0, l1) := by have h1 : l0 + (j : Int) ≤ l1 := hj; omega
      refine ⟨⟨((i', j), 0), hlt, hjl, Nat.zero_le _⟩, ⟨⟨rfl, rfl, by simp⟩, (List.append_nil _).symm⟩, fun t => ?_⟩
      obtain ⟨⟨⟨i2, j2⟩, k⟩, h3, h4, h5⟩ := t
      intro hjj
      have hjj' : (i2, j2) = (i', j) := hjj
      cases hjj'
      have h5' : k ≤ wideM (g0, g1) := h5
      refine ⟨fun hk => ?_, fun hk => ?_⟩
      · have hkl : k < wideM (g0, g1) := by have h1 : g0 + (k : Int) ≤ g1 := hk; omega
        have hlen := all_len s0 l0 g0 (wideM (g0, g1)) (wideM (l0, l1)) i' j k (show wideM (g0, g1) ≤ 1001 by omega) (show wideM (l0, l1) ≤ 101 by omega) (by omega) (by omega) (by omega)
        have hw : IntKind.i64.wrap (g0 + (k : Int) + 1) = g0 + ((k + 1 : Nat) : Int) := by rw [wrap_id (by omega) (by omega)]; omega
        refine ⟨Nat.le_refl _, Nat.le_trans (Nat.add_le_add_right hlen 2) (by decide), ⟨((i', j), k + 1), hlt, hjl, hkl⟩, ⟨⟨rfl, rfl, hw⟩, ?_⟩, dec1 hkl, rfl⟩
        show _ ++ gRM _ _ g0 k ++ _ = _ ++ (gRM _ _ g0 k ++ _)
        rw [List.append_assoc]; rfl
      · have hke : k = wideM (g0, g1) := by have h1 : ¬ g0 + (k : Int) ≤ g1 := hk; omega
        subst hke
        have hw : IntKind.i64.wrap (l0 + (j : Int) + 1) = l0 + ((j + 1 : Nat) : Int) := by rw [wrap_id (by omega) (by omega)]; omega
        exact ⟨⟨(i', j + 1), hlt, hjl⟩, ⟨⟨rfl, hw⟩, List.append_assoc _ _ _⟩, dec1 hjl, rfl⟩
    · have hje : j = wideM (l0, l1) := by have h1 : ¬ l0 + (j : Int) ≤ l1 := hj; omega
      subst hje
      have hw : IntKind.i64.wrap (s0 + (i' : Int) + 1) = s0 + ((i' + 1 : Nat) : Int) := by rw [wrap_id (by omega) (by omega)]; omega
      exact ⟨⟨i' + 1, hlt⟩, ⟨hw, rfl⟩, dec1 hlt⟩
  · obtain ⟨i, hi⟩ := t
    have hie : i = wideM (s0, s1) := by have h1 : ¬ s0 + (i : Int) ≤ s1 := ht; have h2 : i ≤ wideM (s0, s1) := hi; omega
    subst hie
    rfl

theorem allR_sound : Sound Tryz.prog 45 allRS.con := FSpec.sound _ (enter_of Tryz.func45 (by kernel_rfl) (by kernel_rfl)) allR_ok
def checkRM (t : TeamT) (p : PlotT) (v : Bool) : Int := if teamM t && isPlotM p then (if v then (if rtruthM p.g then 0 else 10) else 2) else 1
def checkRS : FSpec UU where
  X := TeamT × PlotT × Bool
  pick := fun args H => match args with
    | [a, b, c] => match avTeam a, avPlot H b, avBool c with
      | some a, some b, some c => some (a, b, c)
      | _, _, _ => none
    | _ => none
  args := fun x => [vTeam x.1, vPlot x.2.1 0 1, .b x.2.2]
  H := fun x => hPlot x.2.1
  R := fun x => .val ⟨.i (checkRM x.1 x.2.1 x.2.2), [], [], []⟩
  pre := fun x => x.2.1.g.pits.length < 1000000 ∧ x.2.1.steps.length < 1000000
def TcheckR : Tab UU := [(25, isTeamS.con), (26, isPlotS.con), (27, rtruthS.con)]
theorem TcheckR_ok : TcheckR.Sound Tryz.prog := .cons fTeam_sound (.cons fPlot_sound (.cons rtruth_sound .nil))
theorem checkR_ok : ∀ x, checkRS.pre x → FunOk Tryz.prog 44 (checkRS.args x) (checkRS.H x) (checkRS.R x) := by
  rintro ⟨⟨⟨s0, s1⟩, ⟨l0, l1⟩, ⟨g0, g1⟩, full⟩, ⟨⟨long, rise, change, ps⟩, st⟩, v⟩ hx
  refine fun_of (T := TcheckR) (L := fun _ => none) (hs := fun _ => []) hmix TcheckR_ok Tryz.func44 (by kernel_rfl) (by kernel_rfl) ?_
  refine Eq.mp (α :=
      let A2 := Value.int IntKind.i64 rise = Value.int IntKind.i64 rise; let A3 := Value.int IntKind.i64 change = Value.int IntKind.i64 change; let A4 := Value.int IntKind.i64 long = Value.int IntKind.i64 long; let A5 := !isPlotM (PlotT.mk (GroundT.mk long rise change ps) st); let A6 := nat_lit 0 = nat_lit 0 ∧ nat_lit 0 = nat_lit 0 ∧ List.length ps = List.length ps; let A7 := ps = ps ∧ st = st ∧ True; let A0 := True ∧ A7; let A8 := ((s0, s1), (((l0, l1), (((g0, g1), full))))); let A9 := !(teamM A8); let A1 := Value.int IntKind.i64 (checkRM A8 (PlotT.mk (GroundT.mk long rise change ps) st) v); let Aa := (Value.int IntKind.i64 (1 : Int)) = A1; True ∧ ((Value.int IntKind.i64 s0 = Value.int IntKind.i64 s0 ∧ Value.int IntKind.i64 s1 = Value.int IntKind.i64 s1 ∧ Value.int IntKind.i64 l0 = Value.int IntKind.i64 l0 ∧ Value.int IntKind.i64 l1 = Value.int IntKind.i64 l1 ∧ Value.int IntKind.i64 g0 = Value.int IntKind.i64 g0 ∧ Value.int IntKind.i64 g1 = Value.int IntKind.i64 g1 ∧ Value.int IntKind.i64 full = Value.int IntKind.i64 full ∧ True) ∧ True) ∧ True ∧ (A9 = true → True ∧ (Aa ∧ True) ∧ A0) ∧ (A9 = false → (List.length ps < nat_lit 1000000 ∧ List.length st < nat_lit 9223372036854775808) ∧ ((A4 ∧ A2 ∧ A3 ∧ A6 ∧ (nat_lit 0 = nat_lit 0 ∧ nat_lit 0 = nat_lit 0 ∧ List.length st = List.length st) ∧ True) ∧ True) ∧ A7 ∧ (A5 = true → True ∧ (Aa ∧ True) ∧ A0) ∧ (A5 = false → ((!v) = true → True ∧ (Value.int IntKind.i64 (2 : Int) = A1 ∧ True) ∧ A0) ∧ ((!v) = false → groundM (GroundT.mk long rise change ps) = true ∧ ((A4 ∧ A2 ∧ A3 ∧ A6 ∧ True) ∧ True) ∧ (ps = ps ∧ True) ∧ ((!rtruthM (GroundT.mk long rise change ps)) = true → True ∧ (Value.int IntKind.i64 (10 : Int) = A1 ∧ True) ∧ A0) ∧ ((!rtruthM (GroundT.mk long rise change ps)) = false → True ∧ (Value.int IntKind.i64 (0 : Int) = A1 ∧ True) ∧ A0)))))
    (by kernel_rfl) ?_
  simp only [eq_self, AE.goS]
  have h1 : ps.length < 1000000 := hx.1
  have h2 : st.length < 1000000 := hx.2
  unfold checkRM
  refine ⟨fun h => ?_, fun h => ⟨⟨h1, by omega⟩, fun hp => ?_, fun hp => ⟨fun hv => ?_, fun hv => ⟨?_, fun hr => ?_, fun hr => ?_⟩⟩⟩⟩
  all_goals simp only [Bool.not_eq_true', Bool.not_eq_false'] at *
  · rw [h]; rfl
  · rw [h, hp]; rfl
  · rw [h, hp, hv]; rfl
  · exact (plot_ok hp).1
  · rw [h, hp, hv]; show _ = if rtruthM ⟨long, rise, change, ps⟩ = true then (0 : Int) else 10; rw [hr]; rfl
  · rw [h, hp, hv]; show _ = if rtruthM ⟨long, rise, change, ps⟩ = true then (0 : Int) else 10; rw [hr]; rfl

theorem checkR_sound : Sound Tryz.prog 44 checkRS.con := FSpec.sound _ (enter_of Tryz.func44 (by kernel_rfl) (by kernel_rfl)) checkR_ok
end AE.Team

namespace AE.Team
open Go AE Go.Proofs AE.Soil

abbrev rh0 : RhT := (0, 0, 0, false)
theorem check_ok {t : TeamT} {p : PlotT} {v : Bool} (h : checkRM t p v = 0) : teamM t = true ∧ isPlotM p = true ∧ v = true ∧ rtruthM p.g = true := by
  unfold checkRM at h
  cases ht : teamM t <;> cases hp : isPlotM p <;> cases v <;> cases hr : rtruthM p.g <;> rw [ht, hp] at h <;> simp [hr] at h ⊢
theorem check_go {t : TeamT} {p : PlotT} {v : Bool} (h : checkRM t p v = 0) : GoOk p := by
  obtain ⟨_, hp, _, hr⟩ := check_ok h
  obtain ⟨h1, _, h3⟩ := plot_ok hp
  refine ⟨h1, ?_, h3⟩
  unfold rtruthM at hr
  rw [Bool.and_eq_true] at hr
  exact hr.1
theorem all_bound {t : TeamT} (ht : teamM t = true) : (allRM t).length ≤ 3000000000 := by
  have h := team_ok ht
  unfold allRM
  rw [sR_len]
  have h1 : wideM t.2.2.1 ≤ 1001 := by unfold wideM; omega
  have h2 : wideM t.2.1 ≤ 101 := by unfold wideM; omega
  have h3 : wideM t.1 ≤ 10001 := by unfold wideM; omega
  have a1 : 2 * wideM t.2.2.1 * wideM t.2.1 ≤ 2 * 1001 * 101 := Nat.mul_le_mul (Nat.mul_le_mul_left 2 h1) h2
  have a2 : 2 * wideM t.2.2.1 * wideM t.2.1 * wideM t.1 ≤ 2 * 1001 * 101 * 10001 := Nat.mul_le_mul a1 h3
  omega
def thruM (t : TeamT) (p : PlotT) (r : RhT) : Bool := decide (fallRM t p r < 0)
def sizeP (x : TeamT × PlotT) : Prop := x.2.g.pits.length < 1000000 ∧ x.2.steps.length < 1000000


def rfH (t : TeamT) (p : PlotT) : Heap UU := hPlot p ++ [.one (.cells (cTeam t) 25), .one (.cells (cPlot p 0 1) 31), .one (.row .rhorse (allRM t) 85)]

end AE.Team

namespace AE.Team
open Go AE Go.Proofs AE.Soil

theorem hard_zero' {g : GroundT} (hg : groundM g = true) : ((hardOM g 0).2 == 0) = rtruthM g := by
  have hok := ground_ok hg
  have h0 : Pl g 0 := ⟨Int.le_refl _, by have := hok.long.1; omega⟩
  rw [hard_told hg h0, truth_look hok]
  cases lookM g <;> rfl
theorem check_same (t : TeamT) (p : PlotT) (v : Bool) : checkRM t p v = openErrM t p v := by
  unfold checkRM openErrM
  cases ht : teamM t with
  | false => rfl
  | true =>
    cases hp : isPlotM p with
    | false => rfl
    | true => rw [hard_zero' (plot_ok hp).1]
section
variable {t : TeamT} {p : PlotT}
structure Fine (t : TeamT) (p : PlotT) : Prop where
  team : teamM t = true
  plot : isPlotM p = true
  truth : rtruthM p.g = true
theorem fine_of {v : Bool} (h : checkRM t p v = 0) : Fine t p := by
  obtain ⟨h1, h2, _, h4⟩ := check_ok h
  exact ⟨h1, h2, h4⟩
theorem Fine.open (f : Fine t p) : (openErrM t p true == 0) = true := by
  rw [← check_same]
  unfold checkRM
  rw [f.team, f.plot, f.truth]; rfl
theorem Fine.works (f : Fine t p) : StepsOk p.steps (worksM p) := works_ok (open_plot f.open) (open_hard f.open)
theorem work_of (f : Fine t p) {i : Nat} (hi : i < p.steps.length) (hr : ¬ (p.steps.getD i (0, 0, 0)).2.2 > 0) : (worksM p).getD i (0, 0) = rsumM p.g (p.steps.getD i (0, 0, 0)).1 (p.steps.getD i (0, 0, 0)).2.1 := by
  obtain ⟨hg, _, hs⟩ := plot_ok f.plot
  rw [works_get p i hi]
  have hsi := hs i hi
  have ho := ok_step hsi hr
  have h0 := step_rest_ok hsi
  revert ho h0 hr
  generalize p.steps.getD i (0, 0, 0) = s
  intro hr ho h0
  have hz : s.2.2 = 0 := by omega
  unfold wM
  rw [hz]
  show (workOM p.g s.1 s.2.1).1 = _
  rw [work_same]
  unfold rworkM
  have hw : rwokM p.g s.1 s.2.1 = true := by
    unfold rwokM inM
    simp only [Bool.and_eq_true, decide_eq_true_eq]
    omega
  have hc : rcheckM p.g true = 0 := by
    unfold rcheckM
    rw [hg, f.truth]; rfl
  rw [hw, if_pos hc]
theorem after_same (f : Fine t p) (r : RhT) {i : Nat} (hi : i < p.steps.length) (now : Int) : (afterM t p.g r now (p.steps.getD i (0, 0, 0))).1 = doM (rHor t r) (p.steps.getD i (0, 0, 0)) ((worksM p).getD i (0, 0)) now := by
  unfold afterM doM
  by_cases hr : (p.steps.getD i (0, 0, 0)).2.2 > 0
  · rw [if_pos hr, if_pos hr]
  · rw [if_neg hr, if_neg hr, work_of f hi hr]
theorem now_same (f : Fine t p) (r : RhT) : ∀ i, i ≤ p.steps.length → nowR t p r i = nowM p.steps (worksM p) (rHor t r) i
  | 0, _ => rfl
  | i + 1, hi => by
    show (afterM t p.g r (nowR t p r i) (p.steps.getD i (0, 0, 0))).1 = doM (rHor t r) (p.steps.getD i (0, 0, 0)) ((worksM p).getD i (0, 0)) (nowM p.steps (worksM p) (rHor t r) i)
    rw [now_same f r i (by omega), after_same f r (by omega)]
structure Within (t : TeamT) (r : RhT) : Prop where
  s : t.1.1 ≤ r.1 ∧ r.1 ≤ t.1.2
  l : t.2.1.1 ≤ r.2.1 ∧ r.2.1 ≤ t.2.1.2
  g : t.2.2.1.1 ≤ r.2.2.1 ∧ r.2.2.1 ≤ t.2.2.1.2
theorem Within.hor {r : RhT} (w : Within t r) (h : teamM t = true) : HorOk (rHor t r) ∧ 0 ≤ (rHor t r).1 ∧ (rHor t r).1 ≤ (rHor t r).2.2.2.1 := by
  have := team_ok h
  have h1 := w.s
  have h2 := w.l
  have h3 := w.g
  unfold rHor
  exact ⟨⟨by show 0 ≤ r.2.1; omega, by show r.2.1 ≤ 100; omega, by show 0 ≤ r.2.2.1; omega, by show r.2.2.1 ≤ 1000; omega, by show 0 ≤ t.2.2.2; omega, by show t.2.2.2 ≤ 10000; omega⟩, by show 0 ≤ r.1; omega, by show r.1 ≤ t.2.2.2; omega⟩
theorem worst_le (f : Fine t p) {r : RhT} (w : Within t r) : NowLe p.steps (worksM p) (worksM p) (worstM t) (rHor t r) := by
  obtain ⟨a1, a2, a3⟩ := hor_ok f.team true
  obtain ⟨b1, b2, b3⟩ := w.hor f.team
  refine nowLe_of f.works f.works a1 b1 ⟨Int.le_refl _, w.l.2, w.g.1⟩ a2 a3 b2 b3 w.s.1 fun i hi => ?_
  have hw := f.works.work i hi
  unfold WOk at hw
  revert hw
  generalize (worksM p).getD i (0, 0) = w2
  intro hw
  show (if r.2.2.2 = true then w2.2 else w2.1) ≤ w2.2
  split <;> omega
theorem find_same {n : Nat} {a b : Nat → Bool} (h : ∀ i, i < n → (∀ j, j < i → b j = false) → a i = b i) : (List.range n).find? a = (List.range n).find? b := by
  cases hb : (List.range n).find? b with
  | some i =>
    rw [List.find?_range_eq_some] at hb ⊢
    obtain ⟨h1, h2, h3⟩ := hb
    have hi := List.mem_range.1 h2
    have hf : ∀ j, j < i → b j = false := fun j hj => by have := h3 j hj; simpa using this
    refine ⟨by rw [h i hi hf]; exact h1, h2, fun j hj => ?_⟩
    rw [h j (by omega) fun k hk => hf k (by omega), hf j hj]; rfl
  | none =>
    rw [List.find?_range_eq_none] at hb ⊢
    intro j hj
    have hf : ∀ k, k < n → b k = false := fun k hk => by have := hb k hk; simpa using this
    rw [h j hj fun k hk => hf k (by omega), hf j hj]; rfl
theorem fall_same (f : Fine t p) {r : RhT} (w : Within t r) : fallRM t p r = if (failedM p.steps (worksM p) (rHor t r)).2 = true then (failedM p.steps (worksM p) (rHor t r)).1 else -1 := by
  obtain ⟨b1, b2, b3⟩ := w.hor f.team
  have hf : (List.range p.steps.length).find? (fun i => isR t p r i) = (List.range p.steps.length).find? fun i => decide (nowM p.steps (worksM p) (rHor t r) (i + 1) < 0) := by
    refine find_same fun i hi h0 => ?_
    have hnow : 0 ≤ nowM p.steps (worksM p) (rHor t r) i := by
      cases i with
      | zero => exact b2
      | succ j =>
        have := h0 j (Nat.lt_succ_self j)
        simp only [decide_eq_false_iff_not] at this
        omega
    have hb := now_bound f.works b1 b2 b3 i (by omega)
    show (afterM t p.g r (nowR t p r i) (p.steps.getD i (0, 0, 0))).2 = decide (doM (rHor t r) (p.steps.getD i (0, 0, 0)) ((worksM p).getD i (0, 0)) (nowM p.steps (worksM p) (rHor t r) i) < 0)
    rw [now_same f r i (by omega)]
    unfold afterM doM
    by_cases hr : (p.steps.getD i (0, 0, 0)).2.2 > 0
    · rw [if_pos hr, if_pos hr]
      have hrr := f.works.rest i hi
      have hfull := b1.f1
      have hmul := mul_bound b1.g0 b1.g1 hrr.1 hrr.2
      rw [rest_eq b1 hrr.1 hrr.2 (by omega) (by omega)]
      refine (decide_eq_false ?_).symm
      have := b1.f0
      omega
    · rw [if_neg hr, if_neg hr, work_of f hi hr]
  unfold fallRM failedM
  rw [hf]
  cases (List.range p.steps.length).find? fun i => decide (nowM p.steps (worksM p) (rHor t r) (i + 1) < 0) <;> rfl
theorem failed_cases (l : List StepT) (w : List Span) (h : HorT) : (∃ i, i < l.length ∧ failedM l w h = ((i : Int), true) ∧ nowM l w h (i + 1) < 0 ∧ ∀ j, j < i → 0 ≤ nowM l w h (j + 1)) ∨ (failedM l w h = (0, false) ∧ ∀ j, j < l.length → 0 ≤ nowM l w h (j + 1)) := by
  unfold failedM
  split
  · rename_i i hi
    rw [List.find?_range_eq_some] at hi
    obtain ⟨h1, h2, h3⟩ := hi
    refine .inl ⟨i, List.mem_range.1 h2, rfl, of_decide_eq_true h1, fun j hj => ?_⟩
    have := h3 j hj
    simp only [Bool.not_eq_true', decide_eq_false_iff_not] at this
    omega
  · rename_i hi
    rw [List.find?_range_eq_none] at hi
    refine .inr ⟨rfl, fun j hj => ?_⟩
    have := hi j hj
    simp only [Bool.not_eq_true', decide_eq_false_iff_not] at this
    omega
theorem mem_g {s l g : Int} {r : RhT} : ∀ n, r ∈ gRM s l g n → r.1 = s ∧ r.2.1 = l ∧ g ≤ r.2.2.1 ∧ r.2.2.1 < g + n
  | 0, h => by cases h
  | n + 1, h => by
    rw [gRM, List.mem_append] at h
    rcases h with h | h
    · have := mem_g n h; omega
    · simp only [List.mem_cons, List.not_mem_nil, or_false] at h
      rcases h with rfl | rfl <;> simp <;> omega
theorem mem_l {s l g : Int} {n : Nat} {r : RhT} : ∀ m, r ∈ lRM s l g n m → r.1 = s ∧ l ≤ r.2.1 ∧ r.2.1 < l + m ∧ g ≤ r.2.2.1 ∧ r.2.2.1 < g + n
  | 0, h => by cases h
  | m + 1, h => by
    rw [lRM, List.mem_append] at h
    rcases h with h | h
    · have := mem_l m h; omega
    · have := mem_g n h; omega
theorem mem_s {s l g : Int} {n m : Nat} {r : RhT} : ∀ k, r ∈ sRM s l g n m k → s ≤ r.1 ∧ r.1 < s + k ∧ l ≤ r.2.1 ∧ r.2.1 < l + m ∧ g ≤ r.2.2.1 ∧ r.2.2.1 < g + n
  | 0, h => by cases h
  | k + 1, h => by
    rw [sRM, List.mem_append] at h
    rcases h with h | h
    · have := mem_s k h; omega
    · have := mem_l m h; omega
theorem of_g {s l g : Int} (b : Bool) {k : Nat} : ∀ n, k < n → (s, l, g + (k : Int), b) ∈ gRM s l g n
  | 0, h => absurd h (Nat.not_lt_zero _)
  | n + 1, h => by
    rw [gRM, List.mem_append]
    rcases Nat.lt_or_eq_of_le (Nat.le_of_lt_succ h) with h | rfl
    · exact .inl (of_g b n h)
    · refine .inr ?_
      cases b <;> simp
theorem of_l {s l g : Int} {n : Nat} {r : RhT} {j : Nat} (hr : r ∈ gRM s (l + (j : Int)) g n) : ∀ m, j < m → r ∈ lRM s l g n m
  | 0, h => absurd h (Nat.not_lt_zero _)
  | m + 1, h => by
    rw [lRM, List.mem_append]
    rcases Nat.lt_or_eq_of_le (Nat.le_of_lt_succ h) with h | rfl
    · exact .inl (of_l hr m h)
    · exact .inr hr
theorem of_s {s l g : Int} {n m : Nat} {r : RhT} {i : Nat} (hr : r ∈ lRM (s + (i : Int)) l g n m) : ∀ k, i < k → r ∈ sRM s l g n m k
  | 0, h => absurd h (Nat.not_lt_zero _)
  | k + 1, h => by
    rw [sRM, List.mem_append]
    rcases Nat.lt_or_eq_of_le (Nat.le_of_lt_succ h) with h | rfl
    · exact .inl (of_s hr k h)
    · exact .inr hr
theorem all_within (ht : teamM t = true) {r : RhT} (h : r ∈ allRM t) : Within t r := by
  have hT := team_ok ht
  have := mem_s _ h
  unfold wideM at this
  exact ⟨by omega, by omega, by omega⟩
theorem within_all {r : RhT} (w : Within t r) : r ∈ allRM t := by
  obtain ⟨⟨s1, s2⟩, ⟨l1, l2⟩, ⟨g1, g2⟩⟩ := w
  obtain ⟨a, b, c, d⟩ := r
  have s1' : t.1.1 ≤ a := s1
  have s2' : a ≤ t.1.2 := s2
  have l1' : t.2.1.1 ≤ b := l1
  have l2' : b ≤ t.2.1.2 := l2
  have g1' : t.2.2.1.1 ≤ c := g1
  have g2' : c ≤ t.2.2.1.2 := g2
  obtain ⟨i, hi⟩ := Int.eq_ofNat_of_zero_le (show 0 ≤ a - t.1.1 by omega)
  obtain ⟨j, hj⟩ := Int.eq_ofNat_of_zero_le (show 0 ≤ b - t.2.1.1 by omega)
  obtain ⟨k, hk⟩ := Int.eq_ofNat_of_zero_le (show 0 ≤ c - t.2.2.1.1 by omega)
  have ea : a = t.1.1 + (i : Int) := by omega
  have eb : b = t.2.1.1 + (j : Int) := by omega
  have ec : c = t.2.2.1.1 + (k : Int) := by omega
  subst ea; subst eb; subst ec
  unfold allRM
  exact of_s (of_l (of_g d _ (by unfold wideM; omega)) _ (by unfold wideM; omega)) _ (by unfold wideM; omega)
def rWorst (t : TeamT) : RhT := (t.1.1, t.2.1.2, t.2.2.1.1, true)
theorem worst_in (ht : teamM t = true) : Within t (rWorst t) := by
  have := team_ok ht
  exact ⟨⟨Int.le_refl _, this.2.1.2.1⟩, ⟨this.2.2.1.2.1, Int.le_refl _⟩, ⟨Int.le_refl _, this.2.2.2.2.1⟩⟩
theorem thru_iff (f : Fine t p) {r : RhT} (w : Within t r) : thruM t p r = !(failedM p.steps (worksM p) (rHor t r)).2 := by
  unfold thruM
  rw [fall_same f w]
  rcases failed_cases p.steps (worksM p) (rHor t r) with ⟨i, _, e, _⟩ | ⟨e, _⟩ <;> rw [e]
  · simp
  · simp
end
end AE.Team

namespace AE.Team
open Go AE Go.Proofs AE.Soil

def nzM (l : List StepT) (i : Nat) : Bool := (l.getD i (0, 0, 0)).2.2 != 0
def furL (p : PlotT) : LSpec UU where
  T := { i : Nat // i ≤ p.steps.length ∧ ∀ j, j < i → nzM p.steps j = false }
  fr := fun i => [(1, .ptr 2 0 0 0), (3, .i i.1)]
  H := fun _ => hPlot p ++ [.one (.cells (cPlot p 0 1) 31)]
  mu := fun i => p.steps.length - i.1
def furM (p : PlotT) : Bool := !p.steps.any fun s => sfM none s
def furS : FSpec UU where
  X := PlotT
  pick := fun args H => match args with
    | [a] => avPlot H a
    | _ => none
  args := fun (x : PlotT) => [vPlot x 0 1]
  H := fun (x : PlotT) => hPlot x
  R := fun (x : PlotT) => .val ⟨.b (furM x), [], [], []⟩
  pre := fun (x : PlotT) => x.steps.length < 1000000
theorem fur_ok : ∀ x, furS.pre x → FunOk Tryz.prog 61 (furS.args x) (furS.H x) (furS.R x) := by
  rintro ⟨⟨long, rise, change, ps⟩, st⟩ hx
  refine fun_of (T := []) (L := fun _ => some (.inv (furL ⟨⟨long, rise, change, ps⟩, st⟩))) (hs := fun _ => []) hmix .nil Tryz.func61 (by kernel_rfl) (by kernel_rfl) ?_
  refine Eq.mp (α :=
      let A2 := nat_lit 0 = nat_lit 0 ∧ nat_lit 0 = nat_lit 0 ∧ nat_lit 0 = nat_lit 0; let A3 := Value.bool (furM (PlotT.mk (GroundT.mk long rise change ps) st)); let A4 := True ∧ ps = ps ∧ st = st ∧ True; let Ad := fun (i : Nat) => ∀ (j : Nat), (j < i → ((nzM (PlotT.steps (PlotT.mk (GroundT.mk long rise change ps) st)) j) = false)); let A0 : Type := { i : Nat // ((i ≤ (List.length (PlotT.steps (PlotT.mk (GroundT.mk long rise change ps) st)))) ∧ Ad i) }; let A5 := fun (x : A0) => Subtype.val x; let A1 := fun (x : A0) => (↑(A5 x) : Int); let A6 := fun (x : A0) => Value.int IntKind.i64 (A1 x); let A7 := fun (x : A0) => List.length st - A5 x; let A8 := fun (t : A0) => nat_lit 0 + (Int.toNat (A1 t)); let A9 := fun (t : A0) => A1 t < ((↑(List.length st) : Int)); let Aa := ps = ps ∧ st = st ∧ ((Value.int IntKind.i64 long = Value.int IntKind.i64 long) ∧ (Value.int IntKind.i64 rise = Value.int IntKind.i64 rise) ∧ (Value.int IntKind.i64 change = Value.int IntKind.i64 change) ∧ (nat_lit 0 = nat_lit 0 ∧ nat_lit 0 = nat_lit 0 ∧ List.length ps = List.length ps) ∧ (nat_lit 0 = nat_lit 0 ∧ nat_lit 0 = nat_lit 0 ∧ List.length st = List.length st) ∧ True) ∧ True; let Ab := fun (t : A0) => Prod.snd (Prod.snd ((List.getD st (A8 t) (((0 : Int), (((0 : Int), (0 : Int)))))))) != (0 : Int); let Ac := fun (t : A0) => decide (A9 t); (∃ (x : A0), (A2 ∧ Value.int IntKind.i64 (0 : Int) = A6 x ∧ True) ∧ True ∧ Aa) ∧ ∀ (t : A0), (Ac t = true → ((0 : Int) ≤ A1 t ∧ A9 t) ∧ A8 t < List.length st ∧ (Ab t = true → True ∧ (A3 = Value.bool false ∧ True) ∧ A4) ∧ (Ab t = false → True ∧ ∃ (x : A0), ((A2 ∧ Value.int IntKind.i64 (IntKind.wrap IntKind.i64 (A1 t + (1 : Int))) = A6 x ∧ True) ∧ True ∧ Aa) ∧ A7 x < A7 t)) ∧ (Ac t = false → True ∧ (A3 = Value.bool true ∧ True) ∧ A4))
    (by kernel_rfl) ?_
  simp only [eq_self, AE.goS]
  have h2' : st.length < 1000000 := hx
  refine ⟨⟨⟨0, Nat.zero_le _, fun j hj => absurd hj (Nat.not_lt_zero j)⟩, rfl⟩, fun t => ⟨fun ht => ?_, fun ht => ?_⟩⟩
  · obtain ⟨i, hi, h0⟩ := t
    have hlt : i < st.length := by have h1 : (i : Int) < (st.length : Int) := ht; omega
    refine ⟨⟨Int.natCast_nonneg _, ht⟩, hlt, fun h => ?_, fun h => ⟨⟨i + 1, hlt, fun j hj => ?_⟩, sucI i (by omega), dec1 hlt⟩⟩
    · show (!st.any fun s => sfM none s) = false
      rw [Bool.not_eq_false', List.any_eq_true]
      refine ⟨st.getD i (0, 0, 0), ?_, h⟩
      rw [List.getD_eq_getElem?_getD, List.getElem?_eq_getElem hlt]; exact List.getElem_mem hlt
    · rcases Nat.lt_or_eq_of_le (Nat.le_of_lt_succ hj) with h6 | rfl
      · exact h0 j h6
      · exact h
  · obtain ⟨i, hi, h0⟩ := t
    have hie : i = st.length := by have h1 : ¬ (i : Int) < (st.length : Int) := ht; omega
    subst hie
    show (!st.any fun s => sfM none s) = true
    rw [Bool.not_eq_true', List.any_eq_false]
    intro x hx2
    obtain ⟨j, hj, rfl⟩ := List.getElem_of_mem hx2
    have := h0 j hj
    unfold nzM at this
    rw [List.getD_eq_getElem?_getD, List.getElem?_eq_getElem hj] at this
    show ¬ ((st[j]).2.2 != 0) = true
    rw [show ((st[j]).2.2 != 0) = false from this]; decide

theorem fur_sound : Sound Tryz.prog 61 furS.con := FSpec.sound _ (enter_of Tryz.func61 (by kernel_rfl) (by kernel_rfl)) fur_ok
def hRestM (t : TeamT) (r : RhT) (rests : List Int) (k : Nat) (now : Int) : Int := min t.2.2.2 (IntKind.i64.wrap (now + IntKind.i64.wrap (r.2.2.1 * rests.getD k 0)))
def hNowM (t : TeamT) (p : PlotT) (r : RhT) (rests : List Int) : Nat → Int
  | 0 => r.1
  | k + 1 => (afterM t p.g r (hRestM t r rests k (hNowM t p r rests k)) (p.steps.getD k (0, 0, 0))).1
def hIsM (t : TeamT) (p : PlotT) (r : RhT) (rests : List Int) (k : Nat) : Bool := (afterM t p.g r (hRestM t r rests k (hNowM t p r rests k)) (p.steps.getD k (0, 0, 0))).2
def hOkM (t : TeamT) (p : PlotT) (rests : List Int) (r : RhT) : Bool := (List.range p.steps.length).all fun k => !hIsM t p r rests k
def holdsM (t : TeamT) (p : PlotT) (rests : List Int) : Bool := (allRM t).all (hOkM t p rests)
def hdH (t : TeamT) (p : PlotT) (rests : List Int) : Heap UU := hPlot p ++ [.one (.ro .int rests), .one (.cells (cTeam t) 25), .one (.cells (cPlot p 0 1) 31), .one (.row .rhorse (allRM t) 85)]
def hdFr (rests : List Int) : Fr := [(2, .sl 2 0 0 rests.length), (3, .ptr 3 0 0 0), (4, .ptr 4 0 0 0), (7, .gs 5 0)]
def hdL1 (t : TeamT) (p : PlotT) (rests : List Int) : LSpec UU where
  T := { i : Nat // i ≤ (allRM t).length ∧ ∀ j, j < i → hOkM t p rests ((allRM t).getD j rh0) = true }
  fr := fun i => hdFr rests ++ [(8, .i i.1)]
  H := fun _ => hdH t p rests
  mu := fun i => (allRM t).length - i.1
def hdL2 (t : TeamT) (p : PlotT) (rests : List Int) : LSpec UU where
  T := { q : Nat × Nat // q.1 < (allRM t).length ∧ q.2 ≤ p.steps.length ∧ ∀ j, j < q.2 → hIsM t p ((allRM t).getD q.1 rh0) rests j = false }
  fr := fun q => hdFr rests ++ [(8, .i q.1.1), (9, .i (hNowM t p ((allRM t).getD q.1.1 rh0) rests q.1.2)), (10, .i q.1.2)]
  H := fun _ => hdH t p rests
  mu := fun q => p.steps.length - q.1.2
def hdRule (t : TeamT) (p : PlotT) (rests : List Int) (key : Nat) : Option (LRule UU) := match Nat.beq key 3 with
  | true => some (.inv (hdL1 t p rests))
  | false => match Nat.beq key 7 with
    | true => some (.invR (hdL2 t p rests) fun a b => b.1.1 = a.1.1)
    | false => none
def holdsS : FSpec UU where
  X := TeamT × PlotT × List Int
  pick := fun args H => match args with
    | [a, b, c] => match avTeam a, avPlot H b, sliceAt .int H c with
      | some a, some b, some c => some (a, b, c)
      | _, _, _ => none
    | _ => none
  args := fun x => [vTeam x.1, vPlot x.2.1 0 1, .sl 2 0 0 x.2.2.length]
  H := fun x => hPlot x.2.1 ++ [.one (.ro .int x.2.2)]
  R := fun x => .val ⟨.b (holdsM x.1 x.2.1 x.2.2), [], [], []⟩
  pre := fun x => teamM x.1 = true ∧ GoOk x.2.1 ∧ x.2.1.steps.length < 1000000 ∧ x.2.2.length = x.2.1.steps.length
def Tholds : Tab UU := [(45, allRS.con), (51, afterS.con)]
theorem Tholds_ok : Tholds.Sound Tryz.prog := .cons allR_sound (.cons after_sound .nil)
theorem holds_ok : ∀ x, holdsS.pre x → FunOk Tryz.prog 62 (holdsS.args x) (holdsS.H x) (holdsS.R x) := by
  rintro ⟨⟨⟨s0, s1⟩, ⟨l0, l1⟩, ⟨g0, g1⟩, full⟩, ⟨⟨long, rise, change, ps⟩, st⟩, rs⟩ hx
  refine fun_of (T := Tholds) (L := hdRule ((s0, s1), (l0, l1), (g0, g1), full) ⟨⟨long, rise, change, ps⟩, st⟩ rs) (hs := fun _ => []) hmix Tholds_ok Tryz.func62 (by kernel_rfl) (by kernel_rfl) ?_
  refine Eq.mp (α :=
      let An := (85 : TypeId); let A3 := nat_lit 0 = nat_lit 0 ∧ nat_lit 0 = nat_lit 0 ∧ nat_lit 0 = nat_lit 0; let Ao := Value.int IntKind.i64 (0 : Int); let A8 := nat_lit 0 = nat_lit 0 ∧ nat_lit 0 = nat_lit 0 ∧ List.length rs = List.length rs; let Ap := True ∧ ps = ps ∧ st = st ∧ rs = rs ∧ True; let A4 := ((s0, s1), (((l0, l1), (((g0, g1), full))))); let A9 := ((0 : Int), (((0 : Int), (((0 : Int), false))))); let A1 : List RhT := allRM A4; let Ad := List.length A1; let Ae := List.length A1; let Aq := Value.bool (holdsM A4 (PlotT.mk (GroundT.mk long rise change ps) st) rs); let Ar := (↑Ae : Int); let As := (Value.int IntKind.i64 long = Value.int IntKind.i64 long) ∧ (Value.int IntKind.i64 rise = Value.int IntKind.i64 rise) ∧ (Value.int IntKind.i64 change = Value.int IntKind.i64 change) ∧ (nat_lit 0 = nat_lit 0 ∧ nat_lit 0 = nat_lit 0 ∧ List.length ps = List.length ps) ∧ (nat_lit 0 = nat_lit 0 ∧ nat_lit 0 = nat_lit 0 ∧ List.length st = List.length st) ∧ True; let Af := (Value.int IntKind.i64 s0 = Value.int IntKind.i64 s0) ∧ (Value.int IntKind.i64 s1 = Value.int IntKind.i64 s1) ∧ (Value.int IntKind.i64 l0 = Value.int IntKind.i64 l0) ∧ (Value.int IntKind.i64 l1 = Value.int IntKind.i64 l1) ∧ (Value.int IntKind.i64 g0 = Value.int IntKind.i64 g0) ∧ (Value.int IntKind.i64 g1 = Value.int IntKind.i64 g1) ∧ (Value.int IntKind.i64 full = Value.int IntKind.i64 full) ∧ True; let AW := fun (i : Nat) => ∀ (j : Nat), (j < i → ((hOkM A4 (PlotT.mk (GroundT.mk long rise change ps) st) rs ((List.getD A1 j rh0))) = true)); let AX := fun (q : Nat × Nat) => ∀ (j : Nat), ((j < Prod.snd q) → ((hIsM A4 (PlotT.mk (GroundT.mk long rise change ps) st) ((List.getD A1 (Prod.fst q) rh0)) rs j) = false)); let A2 : Type := { i : Nat // ((i ≤ Ad) ∧ AW i) }; let At := fun (x : A2) => Subtype.val x; let Aa := fun (x : A2) => (↑(At x) : Int); let Ag := fun (x : A2) => Value.int IntKind.i64 (Aa x); let Au := fun (t : A2) => nat_lit 0 + (Int.toNat (Aa t)); let A0 : Type := { q : Nat × Nat // ((Prod.fst q < Ad) ∧ (Prod.snd q ≤ (List.length (PlotT.steps (PlotT.mk (GroundT.mk long rise change ps) st)))) ∧ AX q) }; let Av := fun (x : A0) => Subtype.val x; let A5 := fun (x : A0) => Prod.fst (Av x); let Ah := fun (x : A0) => Prod.snd (Av x); let A6 := fun (x : A0) => (↑(Ah x) : Int); let A7 := fun (x : A0) => (↑(A5 x) : Int); let Aw := fun (t : A0) => Int.toNat (A7 t); let Ax := fun (t : A0) => Int.toNat (A6 t); let Ai := fun (x : A0) => Value.int IntKind.i64 (A7 x); let Ay := fun (x : A0) => Value.int IntKind.i64 (A6 x); let Az := fun (x : A2) => Ad - At x; let AA := fun (x : A0) => List.length st - Ah x; let AB := fun (t : A0) => (0 : Int) ≤ A6 t; let AC := fun (t : A0) => nat_lit 0 + Aw t; let Aj := fun (t : A0) => nat_lit 0 + Ax t; let AD := fun (t : A2) => Aa t < Ar; let AE := fun (t : A0) => A6 t < ((↑(List.length st) : Int)); let Ab := fun (t : A0) => List.getD st (Aj t) (((0 : Int), (((0 : Int), (0 : Int))))); let AF := fun (t : A0) => Prod.snd (Ab t); let AG := fun (t : A0) => Value.int IntKind.i64 ((Prod.fst (Ab t))); let AH := fun (t : A0) => Value.int IntKind.i64 ((Prod.fst (AF t))); let AI := fun (t : A0) => Value.int IntKind.i64 ((Prod.snd (AF t))); let AJ := fun (t : A0) => AC t < Ae; let Ak := fun (t : A0) => List.getD A1 (AC t) A9; let AK := fun (t : A0) => Prod.snd (Ak t); let Ac := True ∧ ps = ps ∧ st = st ∧ rs = rs ∧ Af ∧ As ∧ ((An = An) ∧ A1 = A1) ∧ True; let AL := fun (t : A0) => Value.int IntKind.i64 ((Prod.fst (Ak t))); let AM := fun (t : A0) => Prod.snd (AK t); let AN := fun (t : A0) => Value.int IntKind.i64 ((Prod.fst (AK t))); let AO := fun (t : A0) => Value.bool ((Prod.snd (AM t))); let AP := fun (t : A0) => Value.int IntKind.i64 ((Prod.fst (AM t))); let AQ := fun (t x : A0) => A5 t = A5 x; let AR := fun (t : A2) => decide (AD t); let AS := fun (t : A0) => decide (AE t); let AT := fun (t : A0) => ((0 : Int) ≤ A7 t) ∧ A7 t < Ar; let AU := fun (x : A0) => hNowM A4 (PlotT.mk (GroundT.mk long rise change ps) st) ((List.getD A1 (A5 x) A9)) rs (Ah x); let AV := fun (x : A0) => Value.int IntKind.i64 (AU x); let Al := fun (t : A0) => min full (IntKind.wrap IntKind.i64 ((AU t + (IntKind.wrap IntKind.i64 (((Prod.fst ((Prod.snd ((Prod.snd ((List.getD A1 (((0 : Nat) + Aw t)) A9))))))) * (List.getD rs (((0 : Nat) + Ax t)) (0 : Int)))))))); let Am := fun (t : A0) => afterM A4 (GroundT.mk long rise change ps) (Ak t) (Al t) (Ab t); teamM A4 = true ∧ (Af ∧ True) ∧ True ∧ (∃ (x : A2), (A8 ∧ A3 ∧ A3 ∧ nat_lit 0 = nat_lit 0 ∧ Ao = Ag x ∧ True) ∧ Ac) ∧ ∀ (t : A2), (AR t = true → ((0 : Int) ≤ Aa t ∧ AD t) ∧ Au t < Ae ∧ ∃ (x : A0), ((A8 ∧ A3 ∧ A3 ∧ nat_lit 0 = nat_lit 0 ∧ Ag t = Ai x ∧ Value.int IntKind.i64 (Prod.fst (List.getD A1 (Au t) A9)) = AV x ∧ Ao = Ay x ∧ True) ∧ Ac) ∧ A5 x = A5 x ∧ ∀ (t_1 : A0), AQ t_1 x → (AS t_1 = true → AT t_1 ∧ AJ t_1 ∧ AT t_1 ∧ AJ t_1 ∧ (AB t_1 ∧ A6 t_1 < (↑(List.length rs) : Int)) ∧ Aj t_1 < List.length rs ∧ (AB t_1 ∧ AE t_1) ∧ Aj t_1 < List.length st ∧ (groundM (GroundT.mk long rise change ps) = true ∧ hokM (GroundT.mk long rise change ps) = true ∧ okStepM long (Ab t_1) = true) ∧ (Af ∧ As ∧ (AL t_1 = AL t_1 ∧ AN t_1 = AN t_1 ∧ AP t_1 = AP t_1 ∧ AO t_1 = AO t_1 ∧ True) ∧ Value.int IntKind.i64 (Al t_1) = Value.int IntKind.i64 (Al t_1) ∧ (AG t_1 = AG t_1 ∧ AH t_1 = AH t_1 ∧ AI t_1 = AI t_1 ∧ True) ∧ True) ∧ (ps = ps ∧ st = st ∧ True) ∧ (Prod.snd (Am t_1) = true → True ∧ (Aq = Value.bool false ∧ True) ∧ Ap) ∧ (Prod.snd (Am t_1) = false → True ∧ ∃ (x_1 : A0), ((A8 ∧ A3 ∧ A3 ∧ nat_lit 0 = nat_lit 0 ∧ Ai t_1 = Ai x_1 ∧ Value.int IntKind.i64 (Prod.fst (Am t_1)) = AV x_1 ∧ Value.int IntKind.i64 (IntKind.wrap IntKind.i64 (A6 t_1 + (1 : Int))) = Ay x_1 ∧ True) ∧ Ac) ∧ AA x_1 < AA t_1 ∧ AQ x_1 x)) ∧ (AS t_1 = false → True ∧ ∃ (x : A2), ((A8 ∧ A3 ∧ A3 ∧ nat_lit 0 = nat_lit 0 ∧ Value.int IntKind.i64 (IntKind.wrap IntKind.i64 (A7 t_1 + (1 : Int))) = Ag x ∧ True) ∧ Ac) ∧ Az x < Az t)) ∧ (AR t = false → True ∧ (Aq = Value.bool true ∧ True) ∧ Ap))
    (by kernel_rfl) ?_
  simp only [eq_self, AE.goS]
  obtain ⟨hT, hG, h2, h3⟩ := hx
  have hT' : teamM ((s0, s1), (l0, l1), (g0, g1), full) = true := hT
  have h2' : st.length < 1000000 := h2
  have h3' : rs.length = st.length := h3
  have hB := all_bound hT'
  have hI : ∀ i : Nat, i ≤ 3000000000 → IntKind.i64.wrap ((i : Int) + 1) = ((i + 1 : Nat) : Int) := fun i hi => by rw [wrap_id (by omega) (by omega)]; omega
  refine ⟨hT', ⟨⟨0, Nat.zero_le _, fun j hj => absurd hj (Nat.not_lt_zero j)⟩, rfl⟩, fun t => ⟨fun ht => ?_, fun ht => ?_⟩⟩
  · obtain ⟨i, hi, h0⟩ := t
    have hlt : i < (allRM ((s0, s1), (l0, l1), (g0, g1), full)).length := by have h1 : (i : Int) < ((allRM ((s0, s1), (l0, l1), (g0, g1), full)).length : Int) := ht; omega
    refine ⟨⟨Int.natCast_nonneg _, ht⟩, hlt, ⟨(i, 0), hlt, Nat.zero_le _, fun j hj => absurd hj (Nat.not_lt_zero j)⟩, ⟨rfl, rfl, rfl⟩, fun t => ?_⟩
    obtain ⟨⟨i', k⟩, h4, h5, h6⟩ := t
    intro hii
    have hii' : i' = i := hii
    subst hii'
    refine ⟨fun hk => ?_, fun hk => ?_⟩
    · have hks : k < st.length := by have h1 : (k : Int) < (st.length : Int) := hk; omega
      refine ⟨⟨Int.natCast_nonneg _, ht⟩, hlt, ⟨Int.natCast_nonneg _, ht⟩, hlt, ⟨Int.natCast_nonneg _, by show (k : Int) < (rs.length : Int); omega⟩, by show k < rs.length; omega, ⟨Int.natCast_nonneg _, hk⟩, hks, ⟨hG.ground, hG.hard, hG.steps k hks⟩, fun h => ?_, fun h => ⟨⟨(i', k + 1), hlt, hks, fun j hj => ?_⟩, ⟨rfl, rfl, hI k (by omega)⟩, dec1 hks, rfl⟩⟩
      · show (allRM ((s0, s1), (l0, l1), (g0, g1), full)).all (hOkM ((s0, s1), (l0, l1), (g0, g1), full) ⟨⟨long, rise, change, ps⟩, st⟩ rs) = false
        rw [List.all_eq_false]
        refine ⟨(allRM ((s0, s1), (l0, l1), (g0, g1), full)).getD i' rh0, ?_, ?_⟩
        · rw [List.getD_eq_getElem?_getD, List.getElem?_eq_getElem hlt]; exact List.getElem_mem hlt
        · unfold hOkM
          rw [Bool.not_eq_true, List.all_eq_false]
          refine ⟨k, List.mem_range.2 hks, ?_⟩
          have h' : hIsM ((s0, s1), (l0, l1), (g0, g1), full) ⟨⟨long, rise, change, ps⟩, st⟩ ((allRM ((s0, s1), (l0, l1), (g0, g1), full)).getD i' rh0) rs k = true := h
          rw [h']; decide
      · rcases Nat.lt_or_eq_of_le (Nat.le_of_lt_succ hj) with h7 | rfl
        · exact h6 j h7
        · exact h
    · have hke : k = st.length := by have h1 : ¬ (k : Int) < (st.length : Int) := hk; have h8 : k ≤ st.length := h5; omega
      subst hke
      refine ⟨⟨i' + 1, hlt, fun j hj => ?_⟩, hI i' (by omega), dec1 hlt⟩
      rcases Nat.lt_or_eq_of_le (Nat.le_of_lt_succ hj) with h7 | rfl
      · exact h0 j h7
      · unfold hOkM
        rw [List.all_eq_true]
        intro q hq
        have h9 : hIsM ((s0, s1), (l0, l1), (g0, g1), full) ⟨⟨long, rise, change, ps⟩, st⟩ ((allRM ((s0, s1), (l0, l1), (g0, g1), full)).getD j rh0) rs q = false := h6 q (List.mem_range.1 hq)
        rw [h9]; rfl
  · obtain ⟨i, hi, h0⟩ := t
    have hie : i = (allRM ((s0, s1), (l0, l1), (g0, g1), full)).length := by have h1 : ¬ (i : Int) < ((allRM ((s0, s1), (l0, l1), (g0, g1), full)).length : Int) := ht; omega
    subst hie
    show (allRM ((s0, s1), (l0, l1), (g0, g1), full)).all (hOkM ((s0, s1), (l0, l1), (g0, g1), full) ⟨⟨long, rise, change, ps⟩, st⟩ rs) = true
    rw [List.all_eq_true]
    intro x hx2
    obtain ⟨j, hj, rfl⟩ := List.getElem_of_mem hx2
    have := h0 j hj
    rw [List.getD_eq_getElem?_getD, List.getElem?_eq_getElem hj] at this
    exact this

theorem holds_sound : Sound Tryz.prog 62 holdsS.con := FSpec.sound _ (enter_of Tryz.func62 (by kernel_rfl) (by kernel_rfl)) holds_ok
def safeRM (t : TeamT) (p : PlotT) : Bool := (allRM t).all fun r => thruM t p r
def sfL (t : TeamT) (p : PlotT) : LSpec UU where
  T := { i : Nat // i ≤ (allRM t).length ∧ ∀ j, j < i → thruM t p ((allRM t).getD j rh0) = true }
  fr := fun i => [(2, .ptr 2 0 0 0), (3, .ptr 3 0 0 0), (5, .gs 4 0), (6, .i i.1)]
  H := fun _ => rfH t p
  mu := fun i => (allRM t).length - i.1
def safeRS : FSpec UU := { oneS fun x => .val ⟨.b (safeRM x.1 x.2), [], [], []⟩ with pre := fun x => teamM x.1 = true ∧ GoOk x.2 ∧ x.2.steps.length < 1000000 }
def TsafeR : Tab UU := [(45, allRS.con), (46, failedRS.con)]
theorem TsafeR_ok : TsafeR.Sound Tryz.prog := .cons allR_sound (.cons failedR_sound .nil)
theorem safeR_ok : ∀ x, safeRS.pre x → FunOk Tryz.prog 66 (safeRS.args x) (safeRS.H x) (safeRS.R x) := by
  rintro ⟨⟨⟨s0, s1⟩, ⟨l0, l1⟩, ⟨g0, g1⟩, full⟩, ⟨⟨long, rise, change, ps⟩, st⟩⟩ hx
  refine fun_of (T := TsafeR) (L := fun _ => some (.inv (sfL ((s0, s1), (l0, l1), (g0, g1), full) ⟨⟨long, rise, change, ps⟩, st⟩))) (hs := fun _ => []) hmix TsafeR_ok Tryz.func66 (by kernel_rfl) (by kernel_rfl) ?_
  refine Eq.mp (α :=
      let A7 := (85 : TypeId); let A4 := nat_lit 0 = nat_lit 0 ∧ nat_lit 0 = nat_lit 0 ∧ nat_lit 0 = nat_lit 0; let A8 := ps = ps ∧ st = st ∧ True; let A9 := True ∧ A8; let A2 := ((s0, s1), (((l0, l1), (((g0, g1), full))))); let A1 : List RhT := allRM A2; let Aa := List.length A1; let Ab := List.length A1; let Ac := Value.bool (safeRM A2 (PlotT.mk (GroundT.mk long rise change ps) st)); let Ad := (Value.int IntKind.i64 long = Value.int IntKind.i64 long) ∧ (Value.int IntKind.i64 rise = Value.int IntKind.i64 rise) ∧ (Value.int IntKind.i64 change = Value.int IntKind.i64 change) ∧ (nat_lit 0 = nat_lit 0 ∧ nat_lit 0 = nat_lit 0 ∧ List.length ps = List.length ps) ∧ (nat_lit 0 = nat_lit 0 ∧ nat_lit 0 = nat_lit 0 ∧ List.length st = List.length st) ∧ True; let A5 := (Value.int IntKind.i64 s0 = Value.int IntKind.i64 s0) ∧ (Value.int IntKind.i64 s1 = Value.int IntKind.i64 s1) ∧ (Value.int IntKind.i64 l0 = Value.int IntKind.i64 l0) ∧ (Value.int IntKind.i64 l1 = Value.int IntKind.i64 l1) ∧ (Value.int IntKind.i64 g0 = Value.int IntKind.i64 g0) ∧ (Value.int IntKind.i64 g1 = Value.int IntKind.i64 g1) ∧ (Value.int IntKind.i64 full = Value.int IntKind.i64 full) ∧ True; let As := fun (i : Nat) => ∀ (j : Nat), (j < i → ((thruM A2 (PlotT.mk (GroundT.mk long rise change ps) st) ((List.getD A1 j rh0))) = true)); let A0 : Type := { i : Nat // ((i ≤ Aa) ∧ As i) }; let Ae := fun (x : A0) => Subtype.val x; let A3 := fun (x : A0) => (↑(Ae x) : Int); let Af := fun (x : A0) => Value.int IntKind.i64 (A3 x); let Ag := fun (t : A0) => nat_lit 0 + (Int.toNat (A3 t)); let Ah := fun (x : A0) => Aa - Ae x; let Ai := fun (t : A0) => A3 t < ((↑Ab : Int)); let A6 := fun (t : A0) => List.getD A1 (Ag t) (((0 : Int), (((0 : Int), (((0 : Int), false)))))); let Aj := fun (t : A0) => Prod.snd (A6 t); let Ak := fun (t : A0) => Value.int IntKind.i64 ((Prod.fst (A6 t))); let Al := fun (t : A0) => Prod.snd (Aj t); let Am := fun (t : A0) => Value.int IntKind.i64 ((Prod.fst (Aj t))); let An := fun (t : A0) => Value.bool ((Prod.snd (Al t))); let Ao := fun (t : A0) => Value.int IntKind.i64 ((Prod.fst (Al t))); let Ap := ps = ps ∧ st = st ∧ A5 ∧ Ad ∧ ((A7 = A7) ∧ A1 = A1) ∧ True; let Aq := fun (t : A0) => decide (Ai t); let Ar := fun (t : A0) => decide (fallRM A2 (PlotT.mk (GroundT.mk long rise change ps) st) (A6 t) ≥ (0 : Int)); teamM A2 = true ∧ (A5 ∧ True) ∧ True ∧ (∃ (x : A0), (A4 ∧ A4 ∧ nat_lit 0 = nat_lit 0 ∧ Value.int IntKind.i64 (0 : Int) = Af x ∧ True) ∧ True ∧ Ap) ∧ ∀ (t : A0), (Aq t = true → ((0 : Int) ≤ A3 t ∧ Ai t) ∧ Ag t < Ab ∧ (GoOk (PlotT.mk (GroundT.mk long rise change ps) st) ∧ List.length st < nat_lit 1000000) ∧ (A5 ∧ Ad ∧ (Ak t = Ak t ∧ Am t = Am t ∧ Ao t = Ao t ∧ An t = An t ∧ True) ∧ True) ∧ A8 ∧ (Ar t = true → True ∧ (Ac = Value.bool false ∧ True) ∧ A9) ∧ (Ar t = false → True ∧ ∃ (x : A0), ((A4 ∧ A4 ∧ nat_lit 0 = nat_lit 0 ∧ Value.int IntKind.i64 (IntKind.wrap IntKind.i64 (A3 t + (1 : Int))) = Af x ∧ True) ∧ True ∧ Ap) ∧ Ah x < Ah t)) ∧ (Aq t = false → True ∧ (Ac = Value.bool true ∧ True) ∧ A9))
    (by kernel_rfl) ?_
  simp only [eq_self, AE.goS]
  obtain ⟨hT, hG, h2⟩ := hx
  have hT' : teamM ((s0, s1), (l0, l1), (g0, g1), full) = true := hT
  have h2' : st.length < 1000000 := h2
  have hB := all_bound hT'
  have hI : ∀ i : Nat, i ≤ 3000000000 → IntKind.i64.wrap ((i : Int) + 1) = ((i + 1 : Nat) : Int) := fun i hi => by rw [wrap_id (by omega) (by omega)]; omega
  refine ⟨hT', ⟨⟨0, Nat.zero_le _, fun j hj => absurd hj (Nat.not_lt_zero j)⟩, rfl⟩, fun t => ⟨fun ht => ?_, fun ht => ?_⟩⟩
  · obtain ⟨i, hi, h0⟩ := t
    have hlt : i < (allRM ((s0, s1), (l0, l1), (g0, g1), full)).length := by have h1 : (i : Int) < ((allRM ((s0, s1), (l0, l1), (g0, g1), full)).length : Int) := ht; omega
    refine ⟨⟨Int.natCast_nonneg _, ht⟩, hlt, ⟨hG, h2'⟩, fun h => ?_, fun h => ⟨⟨i + 1, hlt, fun j hj => ?_⟩, hI i (by omega), dec1 hlt⟩⟩
    · show (allRM ((s0, s1), (l0, l1), (g0, g1), full)).all (fun r => thruM ((s0, s1), (l0, l1), (g0, g1), full) ⟨⟨long, rise, change, ps⟩, st⟩ r) = false
      rw [List.all_eq_false]
      refine ⟨(allRM ((s0, s1), (l0, l1), (g0, g1), full)).getD i rh0, ?_, ?_⟩
      · rw [List.getD_eq_getElem?_getD, List.getElem?_eq_getElem hlt]; exact List.getElem_mem hlt
      · unfold thruM
        have h' : fallRM ((s0, s1), (l0, l1), (g0, g1), full) ⟨⟨long, rise, change, ps⟩, st⟩ ((allRM ((s0, s1), (l0, l1), (g0, g1), full)).getD i rh0) ≥ 0 := h
        rw [decide_eq_true_eq]; omega
    · rcases Nat.lt_or_eq_of_le (Nat.le_of_lt_succ hj) with h7 | rfl
      · exact h0 j h7
      · have h' : ¬ fallRM ((s0, s1), (l0, l1), (g0, g1), full) ⟨⟨long, rise, change, ps⟩, st⟩ ((allRM ((s0, s1), (l0, l1), (g0, g1), full)).getD j rh0) ≥ 0 := h
        exact decide_eq_true (by omega)
  · obtain ⟨i, hi, h0⟩ := t
    have hie : i = (allRM ((s0, s1), (l0, l1), (g0, g1), full)).length := by have h1 : ¬ (i : Int) < ((allRM ((s0, s1), (l0, l1), (g0, g1), full)).length : Int) := ht; omega
    subst hie
    show (allRM ((s0, s1), (l0, l1), (g0, g1), full)).all (fun r => thruM ((s0, s1), (l0, l1), (g0, g1), full) ⟨⟨long, rise, change, ps⟩, st⟩ r) = true
    rw [List.all_eq_true]
    intro x hx2
    obtain ⟨j, hj, rfl⟩ := List.getElem_of_mem hx2
    have := h0 j hj
    rw [List.getD_eq_getElem?_getD, List.getElem?_eq_getElem hj] at this
    exact this

theorem safeR_sound : Sound Tryz.prog 66 safeRS.con := FSpec.sound _ (enter_of Tryz.func66 (by kernel_rfl) (by kernel_rfl)) safeR_ok
theorem first_at {p : Int → Bool} {to : Int} {i : Nat} (h : (i : Int) ≤ to) (h1 : p i = true) (h0 : ∀ j : Nat, j < i → p j = false) : firstM p to = ((i : Int), true) := by
  have : (List.range (to + 1).toNat).find? (fun (i : Nat) => p (i : Int)) = some i := by
    rw [List.find?_range_eq_some]
    exact ⟨h1, List.mem_range.2 (by omega), fun j hj => by simp [h0 j hj]⟩
  unfold firstM
  rw [this]
theorem first_no {p : Int → Bool} {to : Int} (h0 : ∀ j : Nat, (j : Int) ≤ to → p j = false) : firstM p to = (0, false) := by
  have : (List.range (to + 1).toNat).find? (fun (i : Nat) => p (i : Int)) = none := by
    rw [List.find?_range_eq_none]
    intro j hj
    simp [h0 j (by omega)]
  unfold firstM
  rw [this]
def sfAtRM (t : TeamT) (p : PlotT) (n : Int) : Bool := safeRM (withM t n) p
def leastRM (t : TeamT) (p : PlotT) : Int × Int := if checkRM t p true = 0 then ((firstM (sfAtRM t p) t.2.2.2).1, if (firstM (sfAtRM t p) t.2.2.2).2 then 0 else 11) else (0, checkRM t p true)
def lsL (t : TeamT) (p : PlotT) : LSpec UU where
  T := { i : Nat // (i : Int) ≤ t.2.2.2 + 1 ∧ ∀ j : Nat, j < i → sfAtRM t p j = false }
  fr := fun i => [(2, .ptr 2 0 0 0), (3, .ptr 3 0 0 0), (7, .i i.1)]
  H := fun _ => hPlot p ++ [.one (.cells (cTeam t) 25), .one (.cells (cPlot p 0 1) 31)]
  mu := fun i => (t.2.2.2 + 1 - i.1).toNat
def leastRS : FSpec UU := { oneS fun x => .val ⟨.tup [.i (leastRM x.1 x.2).1, .i (leastRM x.1 x.2).2], [], [], []⟩ with pre := sizeP }
def TleastR : Tab UU := [(44, checkRS.con), (67, fwithS.con), (66, safeRS.con)]
theorem TleastR_ok : TleastR.Sound Tryz.prog := .cons checkR_sound (.cons fwith_sound (.cons safeR_sound .nil))
theorem leastR_ok : ∀ x, leastRS.pre x → FunOk Tryz.prog 19 (leastRS.args x) (leastRS.H x) (leastRS.R x) := by
  rintro ⟨⟨⟨s0, s1⟩, ⟨l0, l1⟩, ⟨g0, g1⟩, full⟩, ⟨⟨long, rise, change, ps⟩, st⟩⟩ hx
  refine fun_of (T := TleastR) (L := fun _ => some (.inv (lsL ((s0, s1), (l0, l1), (g0, g1), full) ⟨⟨long, rise, change, ps⟩, st⟩))) (hs := fun _ => []) hmix TleastR_ok Tryz.func19 (by kernel_rfl) (by kernel_rfl) ?_
  refine Eq.mp (α :=
      let A4 := nat_lit 0 = nat_lit 0 ∧ nat_lit 0 = nat_lit 0 ∧ nat_lit 0 = nat_lit 0; let Ab := List.length st < nat_lit 1000000; let A6 := Value.int IntKind.i64 (0 : Int); let A7 := ps = ps ∧ st = st ∧ True; let A8 := True ∧ A7; let A1 := ((s0, s1), (((l0, l1), (((g0, g1), full))))); let Ac := leastRM A1 (PlotT.mk (GroundT.mk long rise change ps) st); let Ad := checkRM A1 (PlotT.mk (GroundT.mk long rise change ps) st) true; let Ae := Value.int IntKind.i64 (Prod.fst Ac); let A9 := Value.int IntKind.i64 (Prod.snd Ac); let Az := fun (i : Nat) => ∀ (j : Nat), (j < i → ((sfAtRM A1 (PlotT.mk (GroundT.mk long rise change ps) st) (↑j : Int)) = false)); let Af := Ad != (0 : Int); let Ag := A6 = Ae; let Ah := (Value.int IntKind.i64 long = Value.int IntKind.i64 long) ∧ (Value.int IntKind.i64 rise = Value.int IntKind.i64 rise) ∧ (Value.int IntKind.i64 change = Value.int IntKind.i64 change) ∧ (nat_lit 0 = nat_lit 0 ∧ nat_lit 0 = nat_lit 0 ∧ List.length ps = List.length ps) ∧ (nat_lit 0 = nat_lit 0 ∧ nat_lit 0 = nat_lit 0 ∧ List.length st = List.length st) ∧ True; let Ai := Ah ∧ True; let Aa := (Value.int IntKind.i64 s0 = Value.int IntKind.i64 s0) ∧ (Value.int IntKind.i64 s1 = Value.int IntKind.i64 s1) ∧ (Value.int IntKind.i64 l0 = Value.int IntKind.i64 l0) ∧ (Value.int IntKind.i64 l1 = Value.int IntKind.i64 l1) ∧ (Value.int IntKind.i64 g0 = Value.int IntKind.i64 g0) ∧ (Value.int IntKind.i64 g1 = Value.int IntKind.i64 g1) ∧ (Value.int IntKind.i64 full = Value.int IntKind.i64 full) ∧ True; let A0 : Type := { i : Nat // (((↑i : Int) ≤ ((Prod.snd (Prod.snd (Prod.snd A1))) + (1 : Int))) ∧ Az i) }; let A2 := fun (x : A0) => (↑((Subtype.val x)) : Int); let A3 := fun (x : A0) => Value.int IntKind.i64 (A2 x); let Aj := fun (x : A0) => Int.toNat (((full + (1 : Int)) - A2 x)); let Ak := True ∧ ps = ps ∧ st = st ∧ Aa ∧ Ai; let A5 := fun (t : A0) => withM A1 (A2 t); let Al := fun (t : A0) => safeRM (A5 t) (PlotT.mk (GroundT.mk long rise change ps) st); let Am := fun (t : A0) => Prod.snd (A5 t); let An := fun (t : A0) => Prod.fst (A5 t); let Ao := fun (t : A0) => Prod.snd (Am t); let Ap := fun (t : A0) => Prod.fst (Am t); let Aq := fun (t : A0) => Value.int IntKind.i64 ((Prod.fst (An t))); let Ar := fun (t : A0) => Value.int IntKind.i64 ((Prod.snd (An t))); let As := fun (t : A0) => Prod.fst (Ao t); let At := fun (t : A0) => Prod.snd (Ao t); let Au := fun (t : A0) => Value.int IntKind.i64 ((Prod.snd (Ap t))); let Av := fun (t : A0) => Value.int IntKind.i64 ((Prod.fst (Ap t))); let Aw := fun (t : A0) => Prod.fst (As t); let Ax := fun (t : A0) => Prod.snd (As t); let Ay := fun (t : A0) => decide ((A2 t ≤ full)); (List.length ps < nat_lit 1000000 ∧ Ab) ∧ (Aa ∧ Ah ∧ Value.bool true = Value.bool true ∧ True) ∧ A7 ∧ (Af = true → True ∧ ((Ag ∧ Value.int IntKind.i64 Ad = A9 ∧ True) ∧ True) ∧ A8) ∧ (Af = false → (∃ (x : A0), (A4 ∧ A4 ∧ A6 = A3 x ∧ True) ∧ Ak) ∧ ∀ (t : A0), (Ay t = true → True ∧ (Aa ∧ A3 t = A3 t ∧ True) ∧ True ∧ (teamM (A5 t) = true ∧ GoOk (PlotT.mk (GroundT.mk long rise change ps) st) ∧ Ab) ∧ ((Aq t = Aq t ∧ Ar t = Ar t ∧ Av t = Av t ∧ Au t = Au t ∧ Value.int IntKind.i64 (Aw t) = Value.int IntKind.i64 (Aw t) ∧ Value.int IntKind.i64 (Ax t) = Value.int IntKind.i64 (Ax t) ∧ Value.int IntKind.i64 (At t) = Value.int IntKind.i64 (At t) ∧ True) ∧ Ai) ∧ A7 ∧ (Al t = true → True ∧ ((A3 t = Ae ∧ A6 = A9 ∧ True) ∧ True) ∧ A8) ∧ (Al t = false → True ∧ ∃ (x : A0), ((A4 ∧ A4 ∧ Value.int IntKind.i64 (IntKind.wrap IntKind.i64 (A2 t + (1 : Int))) = A3 x ∧ True) ∧ Ak) ∧ Aj x < Aj t)) ∧ (Ay t = false → True ∧ ((Ag ∧ Value.int IntKind.i64 (11 : Int) = A9 ∧ True) ∧ True) ∧ A8)))
    (by kernel_rfl) ?_
  simp only [eq_self, AE.goS]
  obtain ⟨h1, h2⟩ := hx
  have h1' : ps.length < 1000000 := h1
  have h2' : st.length < 1000000 := h2
  refine ⟨⟨h1', h2'⟩, fun hc => ?_, fun hc => ?_⟩
  · have hc' : ¬ checkRM ((s0, s1), (l0, l1), (g0, g1), full) ⟨⟨long, rise, change, ps⟩, st⟩ true = 0 := by simpa using hc
    unfold leastRM
    rw [if_neg hc']
    exact ⟨rfl, rfl⟩
  have hc' : checkRM ((s0, s1), (l0, l1), (g0, g1), full) ⟨⟨long, rise, change, ps⟩, st⟩ true = 0 := by simpa using hc
  have hT := (check_ok hc').1
  have hG := check_go hc'
  have hR : leastRM ((s0, s1), (l0, l1), (g0, g1), full) ⟨⟨long, rise, change, ps⟩, st⟩ = ((firstM (sfAtRM ((s0, s1), (l0, l1), (g0, g1), full) ⟨⟨long, rise, change, ps⟩, st⟩) full).1, if (firstM (sfAtRM ((s0, s1), (l0, l1), (g0, g1), full) ⟨⟨long, rise, change, ps⟩, st⟩) full).2 then 0 else 11) := by
    unfold leastRM
    rw [if_pos hc']
  have hful : 0 ≤ full ∧ full ≤ 10000 := (team_ok hT).1
  refine ⟨⟨⟨0, by show ((0 : Nat) : Int) ≤ full + 1; omega, fun j hj => absurd hj (Nat.not_lt_zero j)⟩, rfl⟩, fun t => ⟨fun ht => ?_, fun ht => ?_⟩⟩
  · obtain ⟨i, hi, h0⟩ := t
    have hle : (i : Int) ≤ full := ht
    refine ⟨⟨with_team hT (Int.natCast_nonneg _) hle, hG, h2'⟩, fun h => ?_, fun h => ⟨⟨i + 1, by show ((i + 1 : Nat) : Int) ≤ full + 1; omega, fun j hj => ?_⟩, sucI i (by omega), by show (full + 1 - ((i + 1 : Nat) : Int)).toNat < (full + 1 - (i : Int)).toNat; omega⟩⟩
    · rw [hR, first_at hle h h0]
      exact ⟨rfl, rfl⟩
    · rcases Nat.lt_or_eq_of_le (Nat.le_of_lt_succ hj) with h7 | rfl
      · exact h0 j h7
      · exact h
  · obtain ⟨i, hi, h0⟩ := t
    have hgt : ¬ (i : Int) ≤ full := ht
    rw [hR, first_no fun j hj => h0 j (by omega)]
    exact ⟨rfl, rfl⟩

theorem leastR_sound : Sound Tryz.prog 19 leastRS.con := FSpec.sound _ (enter_of Tryz.func19 (by kernel_rfl) (by kernel_rfl)) leastR_ok
end AE.Team

namespace AE.Team
open Go AE Go.Proofs AE.Soil

def liM (t : TeamT) (p : PlotT) : Nat → List Int → Int → List Int × Bool
  | 0, b, left => (b, (left == 0) && holdsM t p b)
  | n + 1, b, left => match (List.range (left + 1).toNat).find? fun (k : Nat) => (liM t p n (b ++ [(k : Int)]) (left - (k : Int))).2 with
    | some k => liM t p n (b ++ [(k : Int)]) (left - (k : Int))
    | none => ([], false)
def tryRM (t : TeamT) (p : PlotT) (n : Nat) (b : List Int) (left : Int) (k : Nat) : Bool := (liM t p n (b ++ [(k : Int)]) (left - (k : Int))).2
theorem li_some {t : TeamT} {p : PlotT} {n : Nat} {b : List Int} {left : Int} {k : Nat} (hk : (k : Int) ≤ left) (h1 : tryRM t p n b left k = true) (h0 : ∀ j, j < k → tryRM t p n b left j = false) : liM t p (n + 1) b left = liM t p n (b ++ [(k : Int)]) (left - (k : Int)) := by
  have : (List.range (left + 1).toNat).find? (fun (k : Nat) => (liM t p n (b ++ [(k : Int)]) (left - (k : Int))).2) = some k := by
    rw [List.find?_range_eq_some]
    refine ⟨h1, List.mem_range.2 (by omega), fun j hj => ?_⟩
    have := h0 j hj
    unfold tryRM at this
    rw [this]; rfl
  rw [liM]
  simp only [this]
theorem li_none {t : TeamT} {p : PlotT} {n : Nat} {b : List Int} {left : Int} (h0 : ∀ j : Nat, (j : Int) ≤ left → tryRM t p n b left j = false) : liM t p (n + 1) b left = ([], false) := by
  have : (List.range (left + 1).toNat).find? (fun (k : Nat) => (liM t p n (b ++ [(k : Int)]) (left - (k : Int))).2) = none := by
    rw [List.find?_range_eq_none]
    intro j hj
    have := h0 j (by omega)
    unfold tryRM at this
    rw [this]; rfl
  rw [liM]
  simp only [this]
def begV (b : Bool) (s : AV) : AV := match b with
  | true => nilV
  | false => s
def begH (b : Bool) (l : List Int) : AB UU := match b with
  | true => .none
  | false => .one (.row .int l 3)
def liS (n : Nat) : FSpec UU where
  X := Bool × TeamT × PlotT × List Int × Int
  pick := fun args H => match args with
    | [a, b, c, d] => match avTeam a, avPlot H b, sliceAt .int H c, avInt d with
      | some a, some b, some l, some d => some (isNilV c, a, b, l, d)
      | _, _, _, _ => none
    | _ => none
  args := fun x => [vTeam x.2.1, vPlot x.2.2.1 0 1, begV x.1 (.gs 2 0), .i x.2.2.2.2]
  H := fun x => hPlot x.2.2.1 ++ [begH x.1 x.2.2.2.1]
  R := fun x => .val ⟨.tup [.gs 3 0, .b (liM x.2.1 x.2.2.1 n x.2.2.2.1 x.2.2.2.2).2], [], match x.1 with | true => [] | false => [(2, 0)], [.row .int (liM x.2.1 x.2.2.1 n x.2.2.2.1 x.2.2.2.2).1 3]⟩
  pre := fun x => (x.1 = true → x.2.2.2.1 = []) ∧ teamM x.2.1 = true ∧ GoOk x.2.2.1 ∧ x.2.2.1.steps.length ≤ 12 ∧ x.2.2.2.1.length + n = x.2.2.1.steps.length ∧ 0 ≤ x.2.2.2.2 ∧ x.2.2.2.2 ≤ 1000000
def Tli0 : Tab UU := [(62, holdsS.con)]
theorem Tli0_ok : Tli0.Sound Tryz.prog := .cons holds_sound .nil
def noL : LSpec UU := { T := Empty, fr := fun _ => [], H := fun _ => [], mu := fun _ => 0 }
theorem li_ok0f : ∀ x, (liS 0).pre (false, x) → FunOk Tryz.prog 63 ((liS 0).args (false, x)) ((liS 0).H (false, x)) ((liS 0).R (false, x)) := by
  rintro ⟨⟨⟨s0, s1⟩, ⟨l0, l1⟩, ⟨g0, g1⟩, full⟩, ⟨⟨long, rise, change, ps⟩, st⟩, b, left⟩ hx
  refine fun_of (T := Tli0) (L := fun _ => some (.inv noL)) (hs := fun _ => []) hmix Tli0_ok Tryz.func63 (by kernel_rfl) (by kernel_rfl) ?_
  refine Eq.mp (α :=
      let A1 := left == (0 : Int); let A2 := ((↑(List.length b) : Int)) == ((↑(List.length st) : Int)); let A0 := ((s0, s1), (((l0, l1), (((g0, g1), full))))); let A3 := liM A0 (PlotT.mk (GroundT.mk long rise change ps) st) (nat_lit 0) b left; let A4 := Value.bool (Prod.snd A3); let A5 := ps = ps ∧ st = st ∧ True ∧ ((((3 : TypeId) = (3 : TypeId)) ∧ b = (Prod.fst A3)) ∧ True); (A2 = true → (A1 = true → (teamM A0 = true ∧ GoOk (PlotT.mk (GroundT.mk long rise change ps) st) ∧ List.length st < nat_lit 1000000 ∧ List.length b = List.length st) ∧ ((Value.int IntKind.i64 s0 = Value.int IntKind.i64 s0 ∧ Value.int IntKind.i64 s1 = Value.int IntKind.i64 s1 ∧ Value.int IntKind.i64 l0 = Value.int IntKind.i64 l0 ∧ Value.int IntKind.i64 l1 = Value.int IntKind.i64 l1 ∧ Value.int IntKind.i64 g0 = Value.int IntKind.i64 g0 ∧ Value.int IntKind.i64 g1 = Value.int IntKind.i64 g1 ∧ Value.int IntKind.i64 full = Value.int IntKind.i64 full ∧ True) ∧ (Value.int IntKind.i64 long = Value.int IntKind.i64 long ∧ Value.int IntKind.i64 rise = Value.int IntKind.i64 rise ∧ Value.int IntKind.i64 change = Value.int IntKind.i64 change ∧ (nat_lit 0 = nat_lit 0 ∧ nat_lit 0 = nat_lit 0 ∧ List.length ps = List.length ps) ∧ (nat_lit 0 = nat_lit 0 ∧ nat_lit 0 = nat_lit 0 ∧ List.length st = List.length st) ∧ True) ∧ (nat_lit 2 = nat_lit 2 ∧ nat_lit 0 = nat_lit 0 ∧ nat_lit 0 = nat_lit 0 ∧ List.length b = List.length b) ∧ True) ∧ (ps = ps ∧ st = st ∧ b = b ∧ True) ∧ True ∧ ((nat_lit 0 = nat_lit 0 ∧ Value.bool (holdsM A0 (PlotT.mk (GroundT.mk long rise change ps) st) b) = A4 ∧ True) ∧ True) ∧ True ∧ A5) ∧ (A1 = false → True ∧ ((nat_lit 0 = nat_lit 0 ∧ A4 = Value.bool false ∧ True) ∧ True) ∧ True ∧ A5)) ∧ (A2 = false → (∃ (x : Empty), False) ∧ ∀ (t : Empty), False))
    (by kernel_rfl) ?_
  simp only [eq_self, AE.goS]
  obtain ⟨hn, hT, hG, h12, hlen, hl0, hl1⟩ := hx
  have hT' : teamM ((s0, s1), (l0, l1), (g0, g1), full) = true := hT
  have h12' : st.length ≤ 12 := h12
  have hl0' : 0 ≤ left := hl0
  have hl1' : left ≤ 1000000 := hl1
  have hlen' : b.length + 0 = st.length := hlen
  refine ⟨fun h => ⟨fun h0 => ⟨⟨hT', hG, by omega, by omega⟩, ?_, rfl⟩, fun h0 => ⟨?_, rfl⟩⟩, fun h => ?_⟩
  · show _ = ((left == 0) && holdsM ((s0, s1), (l0, l1), (g0, g1), full) ⟨⟨long, rise, change, ps⟩, st⟩ b)
    rw [h0]; rfl
  · show ((left == 0) && holdsM ((s0, s1), (l0, l1), (g0, g1), full) ⟨⟨long, rise, change, ps⟩, st⟩ b) = false
    rw [h0]; rfl
  · have h5 : ¬ (b.length : Int) = (st.length : Int) := by simpa using h
    omega

theorem li_ok0t : ∀ x, (liS 0).pre (true, x) → FunOk Tryz.prog 63 ((liS 0).args (true, x)) ((liS 0).H (true, x)) ((liS 0).R (true, x)) := by
  rintro ⟨⟨⟨s0, s1⟩, ⟨l0, l1⟩, ⟨g0, g1⟩, full⟩, ⟨⟨long, rise, change, ps⟩, st⟩, b, left⟩ hx
  refine fun_of (T := Tli0) (L := fun _ => some (.inv noL)) (hs := fun _ => []) hmix Tli0_ok Tryz.func63 (by kernel_rfl) (by kernel_rfl) ?_
  refine Eq.mp (α :=
      let A1 := (nat_lit 0 = nat_lit 0 ∧ True ∧ True) ∧ True; let A2 := True ∧ True ∧ True ∧ True ∧ True ∧ True; let A3 := Value.slice none (nat_lit 0) (nat_lit 0) = Value.slice none (nat_lit 0) (nat_lit 0); let A4 := left == (0 : Int); let A5 := True ∧ ps = ps ∧ st = st ∧ True ∧ True ∧ True; let A6 := (↑(nat_lit 0) : Int) == ((↑(List.length st) : Int)); let A0 := ((s0, s1), (((l0, l1), (((g0, g1), full))))); let A7 := liM A0 (PlotT.mk (GroundT.mk long rise change ps) st) (nat_lit 0) b left; let A8 := Value.bool (Prod.snd A7); let A9 := ((Prod.fst A7) = []) ∧ True; (A6 = true → (A4 = true → (teamM A0 = true ∧ GoOk (PlotT.mk (GroundT.mk long rise change ps) st) ∧ List.length st < nat_lit 1000000 ∧ nat_lit 0 = List.length st) ∧ ((True ∧ True ∧ A2) ∧ A2 ∧ nat_lit 0 = nat_lit 0 ∧ True) ∧ (True ∧ True ∧ ([] : List Int) = [] ∧ True) ∧ ((Value.int IntKind.i64 s0 = Value.int IntKind.i64 s0 ∧ Value.int IntKind.i64 s1 = Value.int IntKind.i64 s1 ∧ Value.int IntKind.i64 l0 = Value.int IntKind.i64 l0 ∧ Value.int IntKind.i64 l1 = Value.int IntKind.i64 l1 ∧ Value.int IntKind.i64 g0 = Value.int IntKind.i64 g0 ∧ Value.int IntKind.i64 g1 = Value.int IntKind.i64 g1 ∧ Value.int IntKind.i64 full = Value.int IntKind.i64 full ∧ True) ∧ (Value.int IntKind.i64 long = Value.int IntKind.i64 long ∧ Value.int IntKind.i64 rise = Value.int IntKind.i64 rise ∧ Value.int IntKind.i64 change = Value.int IntKind.i64 change ∧ (nat_lit 0 = nat_lit 0 ∧ nat_lit 0 = nat_lit 0 ∧ List.length ps = List.length ps) ∧ (nat_lit 0 = nat_lit 0 ∧ nat_lit 0 = nat_lit 0 ∧ List.length st = List.length st) ∧ True) ∧ nat_lit 0 = nat_lit 0 ∧ True) ∧ (ps = ps ∧ st = st ∧ True ∧ True) ∧ True ∧ A1 ∧ (True ∧ True ∧ True ∧ A9) ∧ ((A3 ∧ Value.bool (holdsM A0 (PlotT.mk (GroundT.mk long rise change ps) st) []) = A8 ∧ True) ∧ True) ∧ A5) ∧ (A4 = false → True ∧ A1 ∧ (True ∧ True ∧ True ∧ A9) ∧ ((A3 ∧ A8 = Value.bool false ∧ True) ∧ True) ∧ A5)) ∧ (A6 = false → (∃ (x : Empty), False) ∧ ∀ (t : Empty), False))
    (by kernel_rfl) ?_
  simp only [eq_self, AE.goS]
  obtain ⟨hn, hT, hG, h12, hlen, hl0, hl1⟩ := hx
  have hT' : teamM ((s0, s1), (l0, l1), (g0, g1), full) = true := hT
  have h12' : st.length ≤ 12 := h12
  have hl0' : 0 ≤ left := hl0
  have hl1' : left ≤ 1000000 := hl1
  have hlen' : b.length + 0 = st.length := hlen
  have hb : b = [] := hn rfl
  subst hb
  have hlen2 : st.length = 0 := by have : ([] : List Int).length + 0 = st.length := hlen'; simp at this; omega
  refine ⟨fun h => ⟨fun h0 => ⟨⟨hT', hG, by omega, by omega⟩, rfl, ?_⟩, fun h0 => ⟨rfl, ?_⟩⟩, fun h => ?_⟩
  · show _ = ((left == 0) && holdsM ((s0, s1), (l0, l1), (g0, g1), full) ⟨⟨long, rise, change, ps⟩, st⟩ [])
    rw [h0]; rfl
  · show ((left == 0) && holdsM ((s0, s1), (l0, l1), (g0, g1), full) ⟨⟨long, rise, change, ps⟩, st⟩ []) = false
    rw [h0]; rfl
  · have h5 : ¬ ((0 : Nat) : Int) = (st.length : Int) := by simpa using h
    omega

def liL (f : Bool) (n : Nat) (t : TeamT) (p : PlotT) (b : List Int) (left : Int) : LSpec UU where
  T := { k : Nat // (k : Int) ≤ left + 1 ∧ ∀ j, j < k → tryRM t p n b left j = false }
  fr := fun k => [(2, begV f (.gs 2 0)), (3, .i left), (4, .ptr 3 0 0 0), (5, .ptr 4 0 0 0), (11, .i k.1)]
  H := fun _ => hPlot p ++ [begH f b, .one (.cells (cTeam t) 25), .one (.cells (cPlot p 0 1) 31)]
  mu := fun k => (left + 1 - k.1).toNat
def Tli (n : Nat) : Tab UU := [(62, holdsS.con), (63, (liS n).con)]
theorem li_okSf (n : Nat) (hT : (Tli n).Sound Tryz.prog) : ∀ x, (liS (n + 1)).pre (false, x) → FunOk Tryz.prog 63 ((liS (n + 1)).args (false, x)) ((liS (n + 1)).H (false, x)) ((liS (n + 1)).R (false, x)) := by
  rintro ⟨⟨⟨s0, s1⟩, ⟨l0, l1⟩, ⟨g0, g1⟩, full⟩, ⟨⟨long, rise, change, ps⟩, st⟩, b, left⟩ hx
  refine fun_of (T := Tli n) (L := fun _ => some (.inv (liL false n ((s0, s1), (l0, l1), (g0, g1), full) ⟨⟨long, rise, change, ps⟩, st⟩ b left))) (hs := fun _ => []) hmix hT Tryz.func63 (by kernel_rfl) (by kernel_rfl) ?_
  refine Eq.mp (α :=
      let A5 := nat_lit 0 = nat_lit 0 ∧ nat_lit 0 = nat_lit 0 ∧ nat_lit 0 = nat_lit 0; let Ac := Value.int IntKind.i64 left = Value.int IntKind.i64 left; let Ad := left + (1 : Int); let A6 := (3 : TypeId) = (3 : TypeId); let Ae := left == (0 : Int); let Af : List Int := List.take (List.length b) (List.drop (nat_lit 0) b); let Ag := ((↑(List.length b) : Int)) == ((↑(List.length st) : Int)); let A1 := ((s0, s1), (((l0, l1), (((g0, g1), full))))); let Ah := (teamM A1) = true; let Ai := liM A1 (PlotT.mk (GroundT.mk long rise change ps) st) (n + nat_lit 1) b left; let At := fun (k : Nat) => ∀ (j : Nat), (j < k → ((tryRM A1 (PlotT.mk (GroundT.mk long rise change ps) st) n b left j) = false)); let A7 : List Int := Prod.fst Ai; let A8 := Value.bool (Prod.snd Ai); let Aj : List Int := [] ++ Af; let Ak := (A8 = Value.bool false) ∧ True; let A9 := (Value.int IntKind.i64 long = Value.int IntKind.i64 long) ∧ (Value.int IntKind.i64 rise = Value.int IntKind.i64 rise) ∧ (Value.int IntKind.i64 change = Value.int IntKind.i64 change) ∧ (nat_lit 0 = nat_lit 0 ∧ nat_lit 0 = nat_lit 0 ∧ List.length ps = List.length ps) ∧ (nat_lit 0 = nat_lit 0 ∧ nat_lit 0 = nat_lit 0 ∧ List.length st = List.length st) ∧ True; let A0 : Type := { k : Nat // (((↑k : Int) ≤ Ad) ∧ At k) }; let Aa := (Value.int IntKind.i64 s0 = Value.int IntKind.i64 s0) ∧ (Value.int IntKind.i64 s1 = Value.int IntKind.i64 s1) ∧ (Value.int IntKind.i64 l0 = Value.int IntKind.i64 l0) ∧ (Value.int IntKind.i64 l1 = Value.int IntKind.i64 l1) ∧ (Value.int IntKind.i64 g0 = Value.int IntKind.i64 g0) ∧ (Value.int IntKind.i64 g1 = Value.int IntKind.i64 g1) ∧ (Value.int IntKind.i64 full = Value.int IntKind.i64 full) ∧ True; let A2 := fun (x : A0) => (↑((Subtype.val x)) : Int); let Ab := fun (x : A0) => Value.int IntKind.i64 (A2 x); let Al := fun (t : A0) => AV.v (Ab t); let Am := True ∧ ps = ps ∧ st = st ∧ True ∧ (A6 ∧ b = A7) ∧ True; let An := fun (t : A0) => [A2 t]; let A3 := fun (t : A0) => IntKind.wrap IntKind.i64 ((left - A2 t)); let Ao := fun (t : A0) => Value.int IntKind.i64 (A3 t); let Ap := fun (x : A0) => Int.toNat ((Ad - A2 x)); let Aq := fun (t : A0) => decide ((A2 t ≤ left)); let Ar := ps = ps ∧ st = st ∧ (A6 ∧ b = b) ∧ Aa ∧ A9 ∧ True; let A4 := fun (t : A0) => ([] ++ (List.take (List.length b) (List.drop (0 : Nat) b)) : List Int) ++ (List.take (1 : Nat) ((List.drop (0 : Nat) (An t)))); let As := fun (t : A0) => liM A1 (PlotT.mk (GroundT.mk long rise change ps) st) n (A4 t) (A3 t); (Ag = true → (Ae = true → (Ah ∧ GoOk (PlotT.mk (GroundT.mk long rise change ps) st) ∧ List.length st < nat_lit 1000000 ∧ List.length b = List.length st) ∧ (Aa ∧ A9 ∧ (nat_lit 2 = nat_lit 2 ∧ nat_lit 0 = nat_lit 0 ∧ nat_lit 0 = nat_lit 0 ∧ List.length b = List.length b) ∧ True) ∧ (ps = ps ∧ st = st ∧ b = b ∧ True) ∧ True ∧ ((nat_lit 0 = nat_lit 0 ∧ Value.bool (holdsM A1 (PlotT.mk (GroundT.mk long rise change ps) st) b) = A8 ∧ True) ∧ True) ∧ Am) ∧ (Ae = false → True ∧ ((nat_lit 0 = nat_lit 0 ∧ Ak) ∧ True) ∧ Am)) ∧ (Ag = false → (∃ (x : A0), (nat_lit 0 = nat_lit 0 ∧ Ac ∧ A5 ∧ A5 ∧ Value.int IntKind.i64 (0 : Int) = Ab x ∧ True) ∧ True ∧ Ar) ∧ ∀ (t : A0), (Aq t = true → (nat_lit 0 = nat_lit 0 ∧ True) ∧ nat_lit 0 + List.length b ≤ List.length b ∧ nat_lit 0 + List.length Af ≤ nat_lit 1099511627776 ∧ (nat_lit 1 = nat_lit 1 ∧ Al t = Al t ∧ True) ∧ nat_lit 1 ≤ nat_lit 1 ∧ List.length Aj + nat_lit 1 ≤ nat_lit 1099511627776 ∧ ((false = true → A4 t = []) ∧ Ah ∧ GoOk (PlotT.mk (GroundT.mk long rise change ps) st) ∧ List.length st ≤ nat_lit 12 ∧ List.length (A4 t) + n = List.length st ∧ (0 : Int) ≤ A3 t ∧ A3 t ≤ (1000000 : Int)) ∧ (Aa ∧ A9 ∧ nat_lit 0 = nat_lit 0 ∧ Ao t = Ao t ∧ True) ∧ (ps = ps ∧ st = st ∧ (nat_lit 3 = (3 : TypeId) ∧ A4 t = A4 t) ∧ True) ∧ (Prod.snd (As t) = true → True ∧ ((nat_lit 0 = nat_lit 0 ∧ A8 = Value.bool true ∧ True) ∧ True) ∧ True ∧ ps = ps ∧ st = st ∧ True ∧ (A6 ∧ Prod.fst (liM A1 (PlotT.mk (GroundT.mk long rise change ps) st) n (Aj ++ List.take (nat_lit 1) (List.drop (nat_lit 0) (An t))) (A3 t)) = A7) ∧ True) ∧ (Prod.snd (As t) = false → True ∧ ∃ (x : A0), ((nat_lit 0 = nat_lit 0 ∧ Ac ∧ A5 ∧ A5 ∧ Value.int IntKind.i64 (IntKind.wrap IntKind.i64 (A2 t + (1 : Int))) = Ab x ∧ True) ∧ True ∧ Ar) ∧ Ap x < Ap t)) ∧ (Aq t = false → True ∧ ((nat_lit 0 = nat_lit 0 ∧ True ∧ True) ∧ True) ∧ (True ∧ True ∧ True ∧ A7 = [] ∧ True) ∧ ((Value.slice none (nat_lit 0) (nat_lit 0) = Value.slice none (nat_lit 0) (nat_lit 0) ∧ Ak) ∧ True) ∧ True ∧ ps = ps ∧ st = st ∧ True ∧ True ∧ True)))
    (by kernel_rfl) ?_
  simp only [eq_self, AE.goS]
  obtain ⟨hn, hT, hG, h12, hlen, hl0, hl1⟩ := hx
  have hT' : teamM ((s0, s1), (l0, l1), (g0, g1), full) = true := hT
  have h12' : st.length ≤ 12 := h12
  have hl0' : 0 ≤ left := hl0
  have hl1' : left ≤ 1000000 := hl1
  have hlen' : b.length + (n + 1) = st.length := hlen
  refine ⟨fun h => ?_, fun h => ⟨⟨⟨0, by show ((0 : Nat) : Int) ≤ left + 1; omega, fun j hj => absurd hj (Nat.not_lt_zero j)⟩, rfl⟩, fun t => ⟨fun ht => ?_, fun ht => ?_⟩⟩⟩
  · have h5 : (b.length : Int) = (st.length : Int) := eq_of_beq h
    omega
  · obtain ⟨k, hk, h0⟩ := t
    have hle : (k : Int) ≤ left := ht
    have hw : IntKind.i64.wrap (left - (k : Int)) = left - (k : Int) := wrap_id (by omega) (by omega)
    have hLL : ([] : List Int) ++ List.take b.length (List.drop 0 b) ++ List.take 1 (List.drop 0 [(k : Int)]) = b ++ [(k : Int)] := by simp
    rw [hw]
    refine ⟨Nat.le_refl _, by rw [List.length_take]; omega, Nat.le_refl _, by rw [List.nil_append, List.length_take]; omega, ⟨⟨fun h => absurd h (by decide), hT', hG, h12', by rw [hLL, List.length_append]; simp; omega, by omega, by omega⟩, fun h => ?_, fun h => ⟨⟨k + 1, by show ((k + 1 : Nat) : Int) ≤ left + 1; omega, fun j hj => ?_⟩, sucI k (by omega), by show (left + 1 - ((k + 1 : Nat) : Int)).toNat < (left + 1 - (k : Int)).toNat; omega⟩⟩⟩
    · rw [hLL] at h ⊢
      have e := li_some (t := ((s0, s1), (l0, l1), (g0, g1), full)) (p := ⟨⟨long, rise, change, ps⟩, st⟩) (n := n) (b := b) hle h h0
      rw [e]
      exact ⟨h, rfl⟩
    · rcases Nat.lt_or_eq_of_le (Nat.le_of_lt_succ hj) with h7 | rfl
      · exact h0 j h7
      · rw [hLL] at h
        exact h
  · obtain ⟨k, hk, h0⟩ := t
    have hgt : ¬ (k : Int) ≤ left := ht
    have e := li_none (t := ((s0, s1), (l0, l1), (g0, g1), full)) (p := ⟨⟨long, rise, change, ps⟩, st⟩) (n := n) (b := b) (left := left) fun j hj => h0 j (by omega)
    rw [e]
    exact ⟨rfl, rfl⟩

theorem li_okSt (n : Nat) (hT : (Tli n).Sound Tryz.prog) : ∀ x, (liS (n + 1)).pre (true, x) → FunOk Tryz.prog 63 ((liS (n + 1)).args (true, x)) ((liS (n + 1)).H (true, x)) ((liS (n + 1)).R (true, x)) := by
  rintro ⟨⟨⟨s0, s1⟩, ⟨l0, l1⟩, ⟨g0, g1⟩, full⟩, ⟨⟨long, rise, change, ps⟩, st⟩, b, left⟩ hx
  refine fun_of (T := Tli n) (L := fun _ => some (.inv (liL true n ((s0, s1), (l0, l1), (g0, g1), full) ⟨⟨long, rise, change, ps⟩, st⟩ b left))) (hs := fun _ => []) hmix hT Tryz.func63 (by kernel_rfl) (by kernel_rfl) ?_
  refine Eq.mp (α :=
      let A7 := (nat_lit 0 = nat_lit 0 ∧ True ∧ True) ∧ True; let A3 := nat_lit 0 = nat_lit 0 ∧ nat_lit 0 = nat_lit 0 ∧ nat_lit 0 = nat_lit 0; let Ad := True ∧ True ∧ True ∧ True ∧ True ∧ True; let Ae := Value.int IntKind.i64 left = Value.int IntKind.i64 left; let A4 := Value.slice none (nat_lit 0) (nat_lit 0) = Value.slice none (nat_lit 0) (nat_lit 0); let Af := left + (1 : Int); let Ag := left == (0 : Int); let Ah := True ∧ ps = ps ∧ st = st ∧ True ∧ True ∧ True; let Ai := (↑(nat_lit 0) : Int) == ((↑(List.length st) : Int)); let A2 := ((s0, s1), (((l0, l1), (((g0, g1), full))))); let Aj := (teamM A2) = true; let Ak := liM A2 (PlotT.mk (GroundT.mk long rise change ps) st) (n + nat_lit 1) b left; let At := fun (k : Nat) => ∀ (j : Nat), (j < k → ((tryRM A2 (PlotT.mk (GroundT.mk long rise change ps) st) n b left j) = false)); let Al : List Int := Prod.fst Ak; let A8 := Value.bool (Prod.snd Ak); let A9 := (Value.int IntKind.i64 long = Value.int IntKind.i64 long) ∧ (Value.int IntKind.i64 rise = Value.int IntKind.i64 rise) ∧ (Value.int IntKind.i64 change = Value.int IntKind.i64 change) ∧ (nat_lit 0 = nat_lit 0 ∧ nat_lit 0 = nat_lit 0 ∧ List.length ps = List.length ps) ∧ (nat_lit 0 = nat_lit 0 ∧ nat_lit 0 = nat_lit 0 ∧ List.length st = List.length st) ∧ True; let Am := True ∧ True ∧ True ∧ (Al = []) ∧ True; let A0 : Type := { k : Nat // (((↑k : Int) ≤ Af) ∧ At k) }; let Aa := (Value.int IntKind.i64 s0 = Value.int IntKind.i64 s0) ∧ (Value.int IntKind.i64 s1 = Value.int IntKind.i64 s1) ∧ (Value.int IntKind.i64 l0 = Value.int IntKind.i64 l0) ∧ (Value.int IntKind.i64 l1 = Value.int IntKind.i64 l1) ∧ (Value.int IntKind.i64 g0 = Value.int IntKind.i64 g0) ∧ (Value.int IntKind.i64 g1 = Value.int IntKind.i64 g1) ∧ (Value.int IntKind.i64 full = Value.int IntKind.i64 full) ∧ True; let A1 := fun (x : A0) => (↑((Subtype.val x)) : Int); let Ab := fun (x : A0) => Value.int IntKind.i64 (A1 x); let An := fun (t : A0) => AV.v (Ab t); let A5 := fun (t : A0) => [A1 t]; let A6 := fun (t : A0) => IntKind.wrap IntKind.i64 ((left - A1 t)); let Ao := fun (t : A0) => Value.int IntKind.i64 (A6 t); let Ap := fun (x : A0) => Int.toNat ((Af - A1 x)); let Aq := True ∧ ps = ps ∧ st = st ∧ True ∧ Aa ∧ A9 ∧ True; let Ar := Am ∧ ((A4 ∧ (A8 = Value.bool false) ∧ True) ∧ True) ∧ Ah; let As := fun (t : A0) => decide ((A1 t ≤ left)); let Ac := fun (t : A0) => liM A2 (PlotT.mk (GroundT.mk long rise change ps) st) n (A5 t) (A6 t); (Ai = true → (Ag = true → (Aj ∧ GoOk (PlotT.mk (GroundT.mk long rise change ps) st) ∧ List.length st < nat_lit 1000000 ∧ nat_lit 0 = List.length st) ∧ ((True ∧ True ∧ Ad) ∧ Ad ∧ nat_lit 0 = nat_lit 0 ∧ True) ∧ (True ∧ True ∧ ([] : List Int) = [] ∧ True) ∧ (Aa ∧ A9 ∧ nat_lit 0 = nat_lit 0 ∧ True) ∧ (ps = ps ∧ st = st ∧ True ∧ True) ∧ True ∧ A7 ∧ Am ∧ ((A4 ∧ Value.bool (holdsM A2 (PlotT.mk (GroundT.mk long rise change ps) st) []) = A8 ∧ True) ∧ True) ∧ Ah) ∧ (Ag = false → True ∧ A7 ∧ Ar)) ∧ (Ai = false → (∃ (x : A0), (A4 ∧ Ae ∧ A3 ∧ A3 ∧ Value.int IntKind.i64 (0 : Int) = Ab x ∧ True) ∧ Aq) ∧ ∀ (t : A0), (As t = true → (nat_lit 0 = nat_lit 0 ∧ True) ∧ nat_lit 0 ≤ nat_lit 1099511627776 ∧ (nat_lit 1 = nat_lit 1 ∧ An t = An t ∧ True) ∧ nat_lit 1 ≤ nat_lit 1 ∧ nat_lit 1 ≤ nat_lit 1099511627776 ∧ ((false = true → A5 t = []) ∧ Aj ∧ GoOk (PlotT.mk (GroundT.mk long rise change ps) st) ∧ List.length st ≤ nat_lit 12 ∧ nat_lit 1 + n = List.length st ∧ (0 : Int) ≤ A6 t ∧ A6 t ≤ (1000000 : Int)) ∧ (Aa ∧ A9 ∧ nat_lit 0 = nat_lit 0 ∧ Ao t = Ao t ∧ True) ∧ (ps = ps ∧ st = st ∧ (nat_lit 3 = (3 : TypeId) ∧ A5 t = A5 t) ∧ True) ∧ (Prod.snd (Ac t) = true → True ∧ ((nat_lit 0 = nat_lit 0 ∧ A8 = Value.bool true ∧ True) ∧ True) ∧ True ∧ ps = ps ∧ st = st ∧ True ∧ ((3 : TypeId) = (3 : TypeId) ∧ Prod.fst (Ac t) = Al) ∧ True) ∧ (Prod.snd (Ac t) = false → True ∧ ∃ (x : A0), ((A4 ∧ Ae ∧ A3 ∧ A3 ∧ Value.int IntKind.i64 (IntKind.wrap IntKind.i64 (A1 t + (1 : Int))) = Ab x ∧ True) ∧ Aq) ∧ Ap x < Ap t)) ∧ (As t = false → True ∧ A7 ∧ Ar)))
    (by kernel_rfl) ?_
  simp only [eq_self, AE.goS]
  obtain ⟨hn, hT, hG, h12, hlen, hl0, hl1⟩ := hx
  have hT' : teamM ((s0, s1), (l0, l1), (g0, g1), full) = true := hT
  have h12' : st.length ≤ 12 := h12
  have hl0' : 0 ≤ left := hl0
  have hl1' : left ≤ 1000000 := hl1
  have hlen' : b.length + (n + 1) = st.length := hlen
  have hb : b = [] := hn rfl
  subst hb
  have hlen2 : n + 1 = st.length := by have : ([] : List Int).length + (n + 1) = st.length := hlen'; simp at this; omega
  refine ⟨fun h => ?_, fun h => ⟨⟨⟨0, by show ((0 : Nat) : Int) ≤ left + 1; omega, fun j hj => absurd hj (Nat.not_lt_zero j)⟩, rfl⟩, fun t => ⟨fun ht => ?_, fun ht => ?_⟩⟩⟩
  · have h5 : ((0 : Nat) : Int) = (st.length : Int) := eq_of_beq h
    omega
  · obtain ⟨k, hk, h0⟩ := t
    have hle : (k : Int) ≤ left := ht
    have hw : IntKind.i64.wrap (left - (k : Int)) = left - (k : Int) := wrap_id (by omega) (by omega)
    have hLL : ([(k : Int)] : List Int) = [] ++ [(k : Int)] := rfl
    rw [hw]
    refine ⟨by decide, Nat.le_refl _, by decide, ⟨⟨fun h => absurd h (by decide), hT', hG, h12', by omega, by omega, by omega⟩, fun h => ?_, fun h => ⟨⟨k + 1, by show ((k + 1 : Nat) : Int) ≤ left + 1; omega, fun j hj => ?_⟩, sucI k (by omega), by show (left + 1 - ((k + 1 : Nat) : Int)).toNat < (left + 1 - (k : Int)).toNat; omega⟩⟩⟩
    · rw [hLL] at h ⊢
      have e := li_some (t := ((s0, s1), (l0, l1), (g0, g1), full)) (p := ⟨⟨long, rise, change, ps⟩, st⟩) (n := n) (b := []) hle h h0
      rw [e]
      exact ⟨h, rfl⟩
    · rcases Nat.lt_or_eq_of_le (Nat.le_of_lt_succ hj) with h7 | rfl
      · exact h0 j h7
      · rw [hLL] at h
        exact h
  · obtain ⟨k, hk, h0⟩ := t
    have hgt : ¬ (k : Int) ≤ left := ht
    have e := li_none (t := ((s0, s1), (l0, l1), (g0, g1), full)) (p := ⟨⟨long, rise, change, ps⟩, st⟩) (n := n) (b := []) (left := left) fun j hj => h0 j (by omega)
    rw [e]
    exact ⟨rfl, rfl⟩

theorem li_ok (n : Nat) (h : ∀ x, (liS n).pre (false, x) → FunOk Tryz.prog 63 ((liS n).args (false, x)) ((liS n).H (false, x)) ((liS n).R (false, x))) (h' : ∀ x, (liS n).pre (true, x) → FunOk Tryz.prog 63 ((liS n).args (true, x)) ((liS n).H (true, x)) ((liS n).R (true, x))) : Sound Tryz.prog 63 (liS n).con :=
  FSpec.sound _ (enter_of Tryz.func63 (by kernel_rfl) (by kernel_rfl)) fun x hx => match x, hx with
    | (false, x), hx => h x hx
    | (true, x), hx => h' x hx
theorem li_sound : ∀ n, Sound Tryz.prog 63 (liS n).con
  | 0 => li_ok 0 li_ok0f li_ok0t
  | n + 1 => li_ok (n + 1) (li_okSf n (.cons holds_sound (.cons (li_sound n) .nil))) (li_okSt n (.cons holds_sound (.cons (li_sound n) .nil)))
def fullM (t : TeamT) (i : Nat) : List Int := List.replicate i t.2.2.2
def lisM (t : TeamT) (p : PlotT) (n : Nat) : Bool := (liM t p p.steps.length [] (n : Int)).2
def capM (t : TeamT) (p : PlotT) : Int := t.2.2.2 * (p.steps.length : Int)
def rlsM (t : TeamT) (p : PlotT) : List Int := match (List.range (capM t p + 1).toNat).find? fun (n : Nat) => lisM t p n with
  | some n => (liM t p p.steps.length [] (n : Int)).1
  | none => fullM t p.steps.length
def restsRM (t : TeamT) (p : PlotT) : List Int × Int := if furM p then (if checkRM t p true = 0 then (if holdsM t p (fullM t p.steps.length) then (rlsM t p, 0) else ([], 11)) else ([], checkRM t p true)) else ([], 1)
def rrH (t : TeamT) (p : PlotT) (l : List Int) : Heap UU := hPlot p ++ [.one (.cells (cTeam t) 25), .one (.cells (cPlot p 0 1) 31), .one (.row .int l 3)]
def rrL1 (t : TeamT) (p : PlotT) : LSpec UU where
  T := { i : Nat // i ≤ p.steps.length }
  fr := fun i => [(2, .ptr 2 0 0 0), (3, .ptr 3 0 0 0), (7, .gs 4 0), (8, .i i.1)]
  H := fun i => rrH t p (fullM t i.1)
  mu := fun i => p.steps.length - i.1
def rrL2 (t : TeamT) (p : PlotT) : LSpec UU where
  T := { n : Nat // (n : Int) ≤ capM t p + 1 ∧ ∀ j, j < n → lisM t p j = false }
  fr := fun n => [(2, .ptr 2 0 0 0), (3, .ptr 3 0 0 0), (7, .gs 4 0), (9, .i n.1)]
  H := fun _ => rrH t p (fullM t p.steps.length)
  mu := fun n => (capM t p + 1 - n.1).toNat
def rrRule (t : TeamT) (p : PlotT) (key : Nat) : Option (LRule UU) := match Nat.beq key 8 with
  | true => some (.inv (rrL1 t p))
  | false => match Nat.beq key 14 with
    | true => some (.inv (rrL2 t p))
    | false => none
def restsRS : FSpec UU := { oneS fun x => .val ⟨.tup [.gs 2 0, .i (restsRM x.1 x.2).2], [], [], [.row .int (restsRM x.1 x.2).1 3]⟩ with pre := sizeP }
def TrestsR (n : Nat) : Tab UU := [(44, checkRS.con), (61, furS.con), (62, holdsS.con), (63, (liS n).con)]
theorem TrestsR_ok (n : Nat) : (TrestsR n).Sound Tryz.prog := .cons checkR_sound (.cons fur_sound (.cons holds_sound (.cons (li_sound n) .nil)))
theorem restsR_ok : ∀ x, restsRS.pre x → FunOk Tryz.prog 17 (restsRS.args x) (restsRS.H x) (restsRS.R x) := by
  rintro ⟨⟨⟨s0, s1⟩, ⟨l0, l1⟩, ⟨g0, g1⟩, full⟩, ⟨⟨long, rise, change, ps⟩, st⟩⟩ hx
  refine fun_of (T := TrestsR st.length) (L := rrRule ((s0, s1), (l0, l1), (g0, g1), full) ⟨⟨long, rise, change, ps⟩, st⟩) (hs := fun _ => []) hmix (TrestsR_ok st.length) Tryz.func17 (by kernel_rfl) (by kernel_rfl) ?_
  refine Eq.mp (α :=
      let Ad := (nat_lit 0 = nat_lit 0 ∧ True ∧ True) ∧ True; let A3 := nat_lit 0 = nat_lit 0 ∧ nat_lit 0 = nat_lit 0 ∧ nat_lit 0 = nat_lit 0; let Ae := List.length st < nat_lit 1000000; let Af := Value.int IntKind.i64 (0 : Int); let An := (↑(List.length st) : Int); let Ao := True ∧ True ∧ True ∧ True ∧ True ∧ True; let A8 := Value.slice none (nat_lit 0) (nat_lit 0) = Value.slice none (nat_lit 0) (nat_lit 0); let A9 := (3 : TypeId) = (3 : TypeId); let Ap := ps = ps ∧ st = st ∧ True; let Aq := ps = ps ∧ st = st ∧ True ∧ True; let Ag := True ∧ Aq; let A0 : Type := { i : Nat // (i ≤ (List.length (PlotT.steps (PlotT.mk (GroundT.mk long rise change ps) st)))) }; let Ah := fun (x : A0) => Subtype.val x; let Ai := fun (x : A0) => (↑(Ah x) : Int); let Ar := fun (x : A0) => Value.int IntKind.i64 (Ai x); let A1 := ((s0, s1), (((l0, l1), (((g0, g1), full))))); let As := fun (x : A0) => List.length st - Ah x; let At := (teamM A1) = true; let Aa : List Int := fullM A1 (List.length st); let Au := restsRM A1 (PlotT.mk (GroundT.mk long rise change ps) st); let Aj := checkRM A1 (PlotT.mk (GroundT.mk long rise change ps) st) true; let Ak : List Int := Prod.fst Au; let Ab := Value.int IntKind.i64 (Prod.snd Au); let AG := fun (n : Nat) => ∀ (j : Nat), (j < n → ((lisM A1 (PlotT.mk (GroundT.mk long rise change ps) st) j) = false)); let Av := (capM A1 (PlotT.mk (GroundT.mk long rise change ps) st)) + (1 : Int); let A2 := fun (x : A0) => fullM A1 (Ah x); let Aw := Aj != (0 : Int); let Ax := Aj == (1 : Int); let Ay := fun (t : A0) => List.length (A2 t); let Al := True ∧ True ∧ (Ak = []) ∧ True; let Az := fun (t : A0) => List.length (A2 t); let AA := (nat_lit 0 = nat_lit 0 ∧ (Af = Ab) ∧ True) ∧ True; let A4 := (Value.int IntKind.i64 long = Value.int IntKind.i64 long) ∧ (Value.int IntKind.i64 rise = Value.int IntKind.i64 rise) ∧ (Value.int IntKind.i64 change = Value.int IntKind.i64 change) ∧ (nat_lit 0 = nat_lit 0 ∧ nat_lit 0 = nat_lit 0 ∧ List.length ps = List.length ps) ∧ (nat_lit 0 = nat_lit 0 ∧ nat_lit 0 = nat_lit 0 ∧ List.length st = List.length st) ∧ True; let A6 := (Value.int IntKind.i64 s0 = Value.int IntKind.i64 s0) ∧ (Value.int IntKind.i64 s1 = Value.int IntKind.i64 s1) ∧ (Value.int IntKind.i64 l0 = Value.int IntKind.i64 l0) ∧ (Value.int IntKind.i64 l1 = Value.int IntKind.i64 l1) ∧ (Value.int IntKind.i64 g0 = Value.int IntKind.i64 g0) ∧ (Value.int IntKind.i64 g1 = Value.int IntKind.i64 g1) ∧ (Value.int IntKind.i64 full = Value.int IntKind.i64 full) ∧ True; let AB := fun (t : A0) => decide ((Ai t < An)); let AC := fun (t : A0) => !(holdsM A1 (PlotT.mk (GroundT.mk long rise change ps) st) (A2 t)); let A5 : Type := { n : Nat // (((↑n : Int) ≤ Av) ∧ AG n) }; let A7 := fun (x : A5) => (↑((Subtype.val x)) : Int); let Ac := fun (x : A5) => Value.int IntKind.i64 (A7 x); let AD := Ad ∧ (Al ∧ (((A8 ∧ (((Value.int IntKind.i64 (1 : Int)) = Ab) ∧ True)) ∧ True) ∧ Ag)); let Am := fun (t : A5) => liM A1 (PlotT.mk (GroundT.mk long rise change ps) st) (List.length st) [] (A7 t); let AE := fun (x : A5) => Av - A7 x; let AF := fun (t : A5) => decide ((A7 t ≤ (IntKind.wrap IntKind.i64 (full * An)))); (List.length ps < nat_lit 1000000 ∧ Ae) ∧ (A6 ∧ A4 ∧ Value.bool true = Value.bool true ∧ True) ∧ Ap ∧ (Ax = true → True ∧ AD) ∧ (Ax = false → Ae ∧ (A4 ∧ True) ∧ Ap ∧ ((!furM (PlotT.mk (GroundT.mk long rise change ps) st)) = true → True ∧ AD) ∧ ((!furM (PlotT.mk (GroundT.mk long rise change ps) st)) = false → (Aw = true → True ∧ Ad ∧ Al ∧ ((A8 ∧ Value.int IntKind.i64 Aj = Ab ∧ True) ∧ True) ∧ Ag) ∧ (Aw = false → (∃ (x : A0), (True ∧ True ∧ nat_lit 0 = nat_lit 0 ∧ True ∧ True) ∧ (True ∧ True ∧ (True ∧ True ∧ Ao) ∧ Ao ∧ A2 x = [] ∧ True) ∧ (A3 ∧ A3 ∧ A8 ∧ Af = Ar x ∧ True) ∧ True ∧ ps = ps ∧ st = st ∧ A6 ∧ A4 ∧ True ∧ True) ∧ ∀ (t : A0), (AB t = true → (nat_lit 1 = nat_lit 1 ∧ AV.v (Value.int IntKind.i64 full) = AV.v (Value.int IntKind.i64 full) ∧ True) ∧ nat_lit 1 ≤ nat_lit 1 ∧ Az t + nat_lit 1 ≤ nat_lit 1099511627776 ∧ True ∧ ∃ (x : A0), ((A3 ∧ A3 ∧ nat_lit 0 = nat_lit 0 ∧ Value.int IntKind.i64 (IntKind.wrap IntKind.i64 (Ai t + (1 : Int))) = Ar x ∧ True) ∧ True ∧ ps = ps ∧ st = st ∧ A6 ∧ A4 ∧ (nat_lit 3 = (3 : TypeId) ∧ A2 t ++ List.take (1 : Nat) (List.drop (0 : Nat) [full]) = A2 x) ∧ True) ∧ As x < As t) ∧ (AB t = false → (At ∧ GoOk (PlotT.mk (GroundT.mk long rise change ps) st) ∧ Ae ∧ Ay t = List.length st) ∧ (A6 ∧ A4 ∧ (nat_lit 4 = nat_lit 4 ∧ nat_lit 0 = nat_lit 0 ∧ nat_lit 0 = nat_lit 0 ∧ Az t = Ay t) ∧ True) ∧ (ps = ps ∧ st = st ∧ A2 t = A2 t ∧ True) ∧ (AC t = true → True ∧ Ad ∧ Al ∧ ((A8 ∧ Value.int IntKind.i64 (11 : Int) = Ab ∧ True) ∧ True) ∧ Ag) ∧ (AC t = false → (∃ (x : A5), (A3 ∧ A3 ∧ nat_lit 0 = nat_lit 0 ∧ Af = Ac x ∧ True) ∧ True ∧ ps = ps ∧ st = st ∧ A6 ∧ A4 ∧ (A9 ∧ A2 t = Aa) ∧ True) ∧ ∀ (t : A5), (AF t = true → ((true = true → ([] : List Int) = []) ∧ At ∧ GoOk (PlotT.mk (GroundT.mk long rise change ps) st) ∧ List.length st ≤ nat_lit 12 ∧ nat_lit 0 + List.length st = List.length st ∧ (0 : Int) ≤ A7 t ∧ A7 t ≤ (1000000 : Int)) ∧ (A6 ∧ A4 ∧ A8 ∧ Ac t = Ac t ∧ True) ∧ Aq ∧ (Prod.snd (Am t) = true → True ∧ AA ∧ True ∧ ps = ps ∧ st = st ∧ (A9 ∧ Prod.fst (Am t) = Ak) ∧ True) ∧ (Prod.snd (Am t) = false → True ∧ ∃ (x : A5), ((A3 ∧ A3 ∧ nat_lit 0 = nat_lit 0 ∧ Value.int IntKind.i64 (IntKind.wrap IntKind.i64 (A7 t + (1 : Int))) = Ac x ∧ True) ∧ True ∧ ps = ps ∧ st = st ∧ A6 ∧ A4 ∧ (A9 ∧ Aa = Aa) ∧ True) ∧ Int.toNat (AE x) < Int.toNat (AE t))) ∧ (AF t = false → True ∧ AA ∧ True ∧ ps = ps ∧ st = st ∧ (A9 ∧ Aa = Ak) ∧ True)))))))
    (by kernel_rfl) ?_
  simp only [eq_self, AE.goS]
  obtain ⟨h1, h2⟩ := hx
  have h1' : ps.length < 1000000 := h1
  have h2' : st.length < 1000000 := h2
  have hrf : furM ⟨⟨long, rise, change, ps⟩, st⟩ = false → restsRM ((s0, s1), (l0, l1), (g0, g1), full) ⟨⟨long, rise, change, ps⟩, st⟩ = ([], 1) := fun h => by
    unfold restsRM; rw [h]; rfl
  refine ⟨⟨h1', h2'⟩, fun hc => ?_, fun hc => ⟨h2', fun hf => ?_, fun hf => ⟨fun hc2 => ?_, fun hc2 => ?_⟩⟩⟩
  · have hc' : checkRM ((s0, s1), (l0, l1), (g0, g1), full) ⟨⟨long, rise, change, ps⟩, st⟩ true = 1 := eq_of_beq hc
    cases hf : furM ⟨⟨long, rise, change, ps⟩, st⟩ with
    | false => rw [hrf hf]; exact ⟨rfl, rfl⟩
    | true =>
      unfold restsRM
      rw [hf, if_pos rfl, if_neg (by rw [hc']; decide), hc']
      exact ⟨rfl, rfl⟩
  · have hf' : furM ⟨⟨long, rise, change, ps⟩, st⟩ = false := by simpa using hf
    rw [hrf hf']; exact ⟨rfl, rfl⟩
  · have hf' : furM ⟨⟨long, rise, change, ps⟩, st⟩ = true := by simpa using hf
    have hc' : ¬ checkRM ((s0, s1), (l0, l1), (g0, g1), full) ⟨⟨long, rise, change, ps⟩, st⟩ true = 0 := by simpa using hc2
    unfold restsRM
    rw [hf', if_pos rfl, if_neg hc']
    exact ⟨rfl, rfl⟩
  have hf' : furM ⟨⟨long, rise, change, ps⟩, st⟩ = true := by simpa using hf
  have hc' : checkRM ((s0, s1), (l0, l1), (g0, g1), full) ⟨⟨long, rise, change, ps⟩, st⟩ true = 0 := by simpa using hc2
  obtain ⟨hT, hP, _, _⟩ := check_ok hc'
  have hG := check_go hc'
  have h12 : st.length ≤ 12 := (plot_ok hP).2.1
  have hful : 0 ≤ full ∧ full ≤ 10000 := (team_ok hT).1
  have hlenF : ∀ i, (fullM ((s0, s1), (l0, l1), (g0, g1), full) i).length = i := fun i => List.length_replicate
  have hcap : 0 ≤ capM ((s0, s1), (l0, l1), (g0, g1), full) ⟨⟨long, rise, change, ps⟩, st⟩ ∧ capM ((s0, s1), (l0, l1), (g0, g1), full) ⟨⟨long, rise, change, ps⟩, st⟩ ≤ 120000 := by
    have := mul_bound hful.1 hful.2 (Int.natCast_nonneg st.length) (show (st.length : Int) ≤ 12 by omega)
    show 0 ≤ full * (st.length : Int) ∧ full * (st.length : Int) ≤ 120000
    omega
  have hwc : IntKind.i64.wrap (full * (st.length : Int)) = capM ((s0, s1), (l0, l1), (g0, g1), full) ⟨⟨long, rise, change, ps⟩, st⟩ := wrap_id (by show -9223372036854775808 ≤ capM ((s0, s1), (l0, l1), (g0, g1), full) ⟨⟨long, rise, change, ps⟩, st⟩; omega) (by show capM ((s0, s1), (l0, l1), (g0, g1), full) ⟨⟨long, rise, change, ps⟩, st⟩ ≤ 9223372036854775807; omega)
  refine ⟨⟨⟨0, Nat.zero_le _⟩, rfl, rfl⟩, fun t => ⟨fun ht => ?_, fun ht => ?_⟩⟩
  · obtain ⟨i, hi⟩ := t
    have hlt : i < st.length := by have h1 : (i : Int) < (st.length : Int) := ht; omega
    refine ⟨Nat.le_refl _, by rw [hlenF]; show i + 1 ≤ _; omega, ⟨i + 1, hlt⟩, ⟨sucI i (by omega), ?_⟩, dec1 hlt⟩
    show List.replicate i full ++ [full] = List.replicate (i + 1) full
    rw [← List.replicate_succ']
  · obtain ⟨i, hi⟩ := t
    have hie : i = st.length := by have h1 : ¬ (i : Int) < (st.length : Int) := ht; omega
    subst hie
    refine ⟨⟨hT, hG, h2', hlenF _⟩, fun hh => ?_, fun hh => ?_⟩
    · have hh' : holdsM ((s0, s1), (l0, l1), (g0, g1), full) ⟨⟨long, rise, change, ps⟩, st⟩ (fullM ((s0, s1), (l0, l1), (g0, g1), full) st.length) = false := by simpa using hh
      unfold restsRM
      rw [hf', if_pos rfl, if_pos hc', if_neg (by rw [show holdsM ((s0, s1), (l0, l1), (g0, g1), full) ⟨⟨long, rise, change, ps⟩, st⟩ (fullM ((s0, s1), (l0, l1), (g0, g1), full) st.length) = false from hh']; decide)]
      exact ⟨rfl, rfl⟩
    have hh' : holdsM ((s0, s1), (l0, l1), (g0, g1), full) ⟨⟨long, rise, change, ps⟩, st⟩ (fullM ((s0, s1), (l0, l1), (g0, g1), full) st.length) = true := by simpa using hh
    have hR : restsRM ((s0, s1), (l0, l1), (g0, g1), full) ⟨⟨long, rise, change, ps⟩, st⟩ = (rlsM ((s0, s1), (l0, l1), (g0, g1), full) ⟨⟨long, rise, change, ps⟩, st⟩, 0) := by
      unfold restsRM
      rw [hf', if_pos rfl, if_pos hc', if_pos (show holdsM ((s0, s1), (l0, l1), (g0, g1), full) ⟨⟨long, rise, change, ps⟩, st⟩ (fullM ((s0, s1), (l0, l1), (g0, g1), full) st.length) = true from hh')]
    rw [hR, hwc]
    refine ⟨⟨⟨0, by show ((0 : Nat) : Int) ≤ capM ((s0, s1), (l0, l1), (g0, g1), full) ⟨⟨long, rise, change, ps⟩, st⟩ + 1; omega, fun j hj => absurd hj (Nat.not_lt_zero j)⟩, rfl, rfl⟩, fun t => ⟨fun ht => ?_, fun ht => ?_⟩⟩
    · obtain ⟨k, hk, h0⟩ := t
      have hle : (k : Int) ≤ capM ((s0, s1), (l0, l1), (g0, g1), full) ⟨⟨long, rise, change, ps⟩, st⟩ := ht
      refine ⟨⟨fun _ => trivial, hT, hG, h12, Int.natCast_nonneg _, by show (k : Int) ≤ 1000000; omega⟩, fun h => ⟨rfl, ?_⟩, fun h => ⟨⟨k + 1, by show ((k + 1 : Nat) : Int) ≤ capM ((s0, s1), (l0, l1), (g0, g1), full) ⟨⟨long, rise, change, ps⟩, st⟩ + 1; omega, fun j hj => ?_⟩, sucI k (by omega), by show (capM ((s0, s1), (l0, l1), (g0, g1), full) ⟨⟨long, rise, change, ps⟩, st⟩ + 1 - ((k + 1 : Nat) : Int)).toNat < (capM ((s0, s1), (l0, l1), (g0, g1), full) ⟨⟨long, rise, change, ps⟩, st⟩ + 1 - (k : Int)).toNat; omega⟩⟩
      · have : (List.range (capM ((s0, s1), (l0, l1), (g0, g1), full) ⟨⟨long, rise, change, ps⟩, st⟩ + 1).toNat).find? (fun (n : Nat) => lisM ((s0, s1), (l0, l1), (g0, g1), full) ⟨⟨long, rise, change, ps⟩, st⟩ n) = some k := by
          rw [List.find?_range_eq_some]
          exact ⟨h, List.mem_range.2 (by omega), fun j hj => by simp [h0 j hj]⟩
        unfold rlsM
        rw [this]
      · rcases Nat.lt_or_eq_of_le (Nat.le_of_lt_succ hj) with h7 | rfl
        · exact h0 j h7
        · exact h
    · obtain ⟨k, hk, h0⟩ := t
      have hgt : ¬ (k : Int) ≤ capM ((s0, s1), (l0, l1), (g0, g1), full) ⟨⟨long, rise, change, ps⟩, st⟩ := ht
      have : (List.range (capM ((s0, s1), (l0, l1), (g0, g1), full) ⟨⟨long, rise, change, ps⟩, st⟩ + 1).toNat).find? (fun (n : Nat) => lisM ((s0, s1), (l0, l1), (g0, g1), full) ⟨⟨long, rise, change, ps⟩, st⟩ n) = none := by
        rw [List.find?_range_eq_none]
        intro j hj
        simp [h0 j (by omega)]
      refine ⟨rfl, ?_⟩
      unfold rlsM
      rw [this]

theorem restsR_sound : Sound Tryz.prog 17 restsRS.con := FSpec.sound _ (enter_of Tryz.func17 (by kernel_rfl) (by kernel_rfl)) restsR_ok
end AE.Team

namespace AE.Team
open Go AE Go.Proofs AE.Soil

section
variable {t : TeamT} {p : PlotT}
theorem safe_same (f : Fine t p) : safeRM t p = safeM p.steps (worksM p) t := by
  unfold safeRM safeM
  cases hw : (failedM p.steps (worksM p) (worstM t)).2 with
  | false =>
    rw [List.all_eq_true.2]; · rfl
    intro r hr
    rw [thru_iff f (all_within f.team hr), fail_mono (worst_le f (all_within f.team hr)) hw]; rfl
  | true =>
    rw [List.all_eq_false.2]; · rfl
    refine ⟨rWorst t, within_all (worst_in f.team), ?_⟩
    have e : thruM t p (rWorst t) = !(failedM p.steps (worksM p) (worstM t)).2 := thru_iff f (worst_in f.team)
    rw [e, hw]; decide
theorem first_same {p q : Int → Bool} {to : Int} (h : ∀ i : Nat, (i : Int) ≤ to → p i = q i) : firstM p to = firstM q to := by
  have : (List.range (to + 1).toNat).find? (fun (i : Nat) => p (i : Int)) = (List.range (to + 1).toNat).find? (fun (i : Nat) => q (i : Int)) :=
    find_same fun i hi _ => h i (by omega)
  unfold firstM
  rw [this]
theorem least_same (t : TeamT) (p : PlotT) : leastRM t p = leastM t p := by
  unfold leastRM
  by_cases hc : checkRM t p true = 0
  · have f := fine_of hc
    rw [if_pos hc, least_told f.open]
    have : firstM (sfAtRM t p) t.2.2.2 = leastFM t p := by
      unfold leastFM
      refine first_same fun i hi => ?_
      have fw : Fine (withM t i) p := ⟨with_team f.team (Int.natCast_nonneg _) hi, f.plot, f.truth⟩
      exact safe_same fw
    rw [this]
  · rw [if_neg hc, check_same]
    rw [check_same] at hc
    rw [least_err (by simpa using hc)]
def simR (w : List Span) (h : HorT) (r : List Int) : Nat → Int
  | 0 => h.1
  | i + 1 => furrowM h (w.getD i (0, 0)) (restM h (r.getD i 0) (simR w h r i))
def stepV (h : HorT) (w : Span) (r now : Int) : Int := min h.2.2.2.1 (now + h.2.2.1 * r) - costM h w
theorem step_val {h : HorT} (hh : HorOk h) {w : Span} (hw : WOk w) {r now : Int} (r0 : 0 ≤ r) (r1 : r ≤ 1000000) (n0 : 0 ≤ now) (n1 : now ≤ 10000) : furrowM h w (restM h r now) = stepV h w r now := by
  have hm := mul_bound hh.g0 hh.g1 r0 r1
  have hf0 := hh.f0
  have hf1 := hh.f1
  have e : restM h r now = min h.2.2.2.1 (now + h.2.2.1 * r) := by
    unfold restM
    have e1 : W (h.2.2.1 * r) = h.2.2.1 * r := wrap_id (by omega) (by omega)
    rw [e1]
    have e2 : W (now + h.2.2.1 * r) = now + h.2.2.1 * r := wrap_id (by omega) (by omega)
    rw [e2]
  rw [e, furrow_eq hh hw (by omega) (by omega)]; rfl
def MinOk (n : Nat) (r : List Int) : Prop := ∀ i, i < n → 0 ≤ r.getD i 0 ∧ r.getD i 0 ≤ 1000000
theorem sim_bound {l : List StepT} {w : List Span} {h : HorT} (f : FOk l w h) {r : List Int} (hr : MinOk l.length r) : ∀ i, i ≤ l.length → (∀ j, j < i → 0 ≤ simR w h r (j + 1)) → 0 ≤ simR w h r i ∧ simR w h r i ≤ h.2.2.2.1
  | 0, _, _ => ⟨f.s0, f.s1⟩
  | i + 1, hi, hg => by
    have ih := sim_bound f hr i (by omega) fun j hj => hg j (by omega)
    have hf1 := f.hor.f1
    have hc := cost_bound f.hor (f.st.work i (by omega))
    refine ⟨hg i (by omega), ?_⟩
    show furrowM h (w.getD i (0, 0)) (restM h (r.getD i 0) (simR w h r i)) ≤ _
    rw [step_val f.hor (f.st.work i (by omega)) (hr i (by omega)).1 (hr i (by omega)).2 ih.1 (by omega)]
    unfold stepV
    omega
theorem sim_suc {l : List StepT} {w : List Span} {h : HorT} (f : FOk l w h) {r : List Int} (hr : MinOk l.length r) {i : Nat} (hi : i < l.length) (hg : ∀ j, j < i → 0 ≤ simR w h r (j + 1)) : simR w h r (i + 1) = stepV h (w.getD i (0, 0)) (r.getD i 0) (simR w h r i) := by
  have hb := sim_bound f hr i (by omega) hg
  have hf1 := f.hor.f1
  exact step_val f.hor (f.st.work i hi) (hr i hi).1 (hr i hi).2 hb.1 (by omega)
theorem sim_le {l : List StepT} {w : List Span} {h h' : HorT} (f : FOk l w h) (f' : FOk l w h') (hL : Less h h') (hn : h.1 ≤ h'.1) (ho : ∀ i, i < l.length → ofM h' (w.getD i (0, 0)) ≤ ofM h (w.getD i (0, 0))) {r : List Int} (hr : MinOk l.length r) : ∀ i, i ≤ l.length → (∀ j, j < i → 0 ≤ simR w h r (j + 1)) → simR w h r i ≤ simR w h' r i ∧ ∀ j, j < i → 0 ≤ simR w h' r (j + 1)
  | 0, _, _ => ⟨hn, fun j hj => absurd hj (Nat.not_lt_zero j)⟩
  | i + 1, hi, hg => by
    obtain ⟨ih, ih2⟩ := sim_le f f' hL hn ho hr i (by omega) fun j hj => hg j (by omega)
    have e := sim_suc f hr (show i < l.length by omega) fun j hj => hg j (by omega)
    have e' := sim_suc f' hr (show i < l.length by omega) ih2
    have hle : simR w h r (i + 1) ≤ simR w h' r (i + 1) := by
      rw [e, e']
      have hw := f.st.work i (by omega)
      have hb := of_bound hw h'
      have hm : h'.2.1 * ofM h' (w.getD i (0, 0)) ≤ h.2.1 * ofM h (w.getD i (0, 0)) := Int.mul_le_mul hL.loss (ho i (by omega)) hb.1 f.hor.l0
      have hg2 : h.2.2.1 * r.getD i 0 ≤ h'.2.2.1 * r.getD i 0 := Int.mul_le_mul_of_nonneg_right hL.gain (hr i (by omega)).1
      have hfl := hL.full
      unfold stepV costM
      omega
    refine ⟨hle, fun j hj => ?_⟩
    rcases Nat.lt_or_eq_of_le (Nat.le_of_lt_succ hj) with h2 | rfl
    · exact ih2 j h2
    · have := hg j (by omega); omega
structure Fur (t : TeamT) (p : PlotT) : Prop where
  fine : Fine t p
  fur : (!p.steps.any fun s => sfM none s) = true
theorem Fur.z (u : Fur t p) : ∀ i, i < p.steps.length → (p.steps.getD i (0, 0, 0)).2.2 = 0 := all_furrows u.fur
theorem Fur.fok (u : Fur t p) {r : RhT} (w : Within t r) : FOk p.steps (worksM p) (rHor t r) := by
  obtain ⟨a, b, c⟩ := w.hor u.fine.team
  exact ⟨a, b, c, u.fine.works, u.z⟩
theorem hnow_same (u : Fur t p) (r : RhT) (rs : List Int) : ∀ i, i ≤ p.steps.length → hNowM t p r rs i = simR (worksM p) (rHor t r) rs i
  | 0, _ => rfl
  | i + 1, hi => by
    have hz := u.z i (by omega)
    have hw := work_of u.fine (show i < p.steps.length by omega) (by rw [hz]; decide)
    show (afterM t p.g r (hRestM t r rs i (hNowM t p r rs i)) (p.steps.getD i (0, 0, 0))).1 = furrowM (rHor t r) ((worksM p).getD i (0, 0)) (restM (rHor t r) (rs.getD i 0) (simR (worksM p) (rHor t r) rs i))
    rw [hnow_same u r rs i (by omega)]
    unfold afterM
    rw [if_neg (by rw [hz]; decide), hw]; rfl
theorem his_same (u : Fur t p) (r : RhT) (rs : List Int) {i : Nat} (hi : i < p.steps.length) : hIsM t p r rs i = decide (simR (worksM p) (rHor t r) rs (i + 1) < 0) := by
  have hz := u.z i hi
  rw [← hnow_same u r rs (i + 1) hi]
  unfold hIsM
  show _ = decide ((afterM t p.g r (hRestM t r rs i (hNowM t p r rs i)) (p.steps.getD i (0, 0, 0))).1 < 0)
  unfold afterM
  rw [if_neg (by rw [hz]; decide)]
def GoodR (t : TeamT) (p : PlotT) (rs : List Int) : Prop := ∀ i, i < p.steps.length → 0 ≤ simR (worksM p) (worstM t) rs (i + 1)
theorem worst_fok (u : Fur t p) : FOk p.steps (worksM p) (worstM t) := u.fok (worst_in u.fine.team)
theorem holds_iff (u : Fur t p) {rs : List Int} (hr : MinOk p.steps.length rs) : holdsM t p rs = true ↔ GoodR t p rs := by
  unfold holdsM
  rw [List.all_eq_true]
  constructor
  · intro h i hi
    have h1 := h (rWorst t) (within_all (worst_in u.fine.team))
    unfold hOkM at h1
    rw [List.all_eq_true] at h1
    have h2 := h1 i (List.mem_range.2 hi)
    rw [his_same u _ _ hi] at h2
    have h3 : (!decide (simR (worksM p) (worstM t) rs (i + 1) < 0)) = true := h2
    simp only [Bool.not_eq_true', decide_eq_false_iff_not] at h3
    omega
  · intro h r hm
    have w := all_within u.fine.team hm
    unfold hOkM
    rw [List.all_eq_true]
    intro i hi
    have hi' := List.mem_range.1 hi
    rw [his_same u _ _ hi']
    have hle := (sim_le (worst_fok u) (u.fok w) ⟨Int.le_refl _, w.l.2, w.g.1⟩ w.s.1 (fun i hi => by
      have hw := u.fine.works.work i hi
      unfold WOk at hw
      revert hw
      generalize (worksM p).getD i (0, 0) = w2
      intro hw
      show (if r.2.2.2 = true then w2.2 else w2.1) ≤ w2.2
      split <;> omega) hr p.steps.length (Nat.le_refl _) h).2 i hi'
    simp only [Bool.not_eq_true', decide_eq_false_iff_not]
    omega
def psM (r : List Int) : Nat → Int
  | 0 => 0
  | i + 1 => psM r i + r.getD i 0
section
variable {l : List StepT} {w : List Span} {h : HorT}
theorem greedy_le (f : FOk l w h) {r : List Int} (hr : MinOk l.length r) (hg : ∀ i, i < l.length → 0 ≤ simR w h r (i + 1)) : ∀ i, i ≤ l.length →
    (∀ j, j < i → okAtM l w h j = true) ∧ sumR l w h i ≤ psM r i ∧ simR w h r i ≤ (goM l w h i).2 + h.2.2.1 * (psM r i - sumR l w h i)
  | 0, _ => by
    refine ⟨fun j hj => absurd hj (Nat.not_lt_zero j), Int.le_refl _, ?_⟩
    show h.1 ≤ h.1 + h.2.2.1 * (0 - 0)
    simp
  | i + 1, hi => by
    obtain ⟨i1, i2, i3⟩ := greedy_le f hr hg i (by omega)
    have hil : i < l.length := by omega
    have hf1 := f.hor.f1
    have hf0 := f.hor.f0
    have hb := go_bound f i (by omega) i1
    have hsb := sim_bound f hr i (by omega) fun j hj => hg j (by omega)
    have hw := f.st.work i hil
    have hc := cost_bound f.hor hw
    have hri := hr i hil
    have e := sim_suc f hr hil fun j hj => hg j (by omega)
    have h0 := hg i hil
    rw [e] at h0
    have hgr := mul_bound f.hor.g0 f.hor.g1 hri.1 hri.2
    have hD : 0 ≤ psM r i - sumR l w h i := by omega
    have hgD := Int.mul_nonneg f.hor.g0 hD
    have stepB : ∀ s, 0 ≤ s → s ≤ 10000 → furrowM h (w.getD i (0, 0)) (restM h s (goM l w h i).2) = stepV h (w.getD i (0, 0)) s (goM l w h i).2 := fun s s0 s1 => step_val f.hor hw s0 (by omega) hb.1 (by omega)
    have enough : ∃ s, 0 ≤ s ∧ s ≤ h.2.2.2.1 ∧ s ≤ psM r i - sumR l w h i + r.getD i 0 ∧ 0 ≤ stepV h (w.getD i (0, 0)) s (goM l w h i).2 := by
      unfold stepV at h0 ⊢
      by_cases hle : psM r i - sumR l w h i + r.getD i 0 ≤ h.2.2.2.1
      · refine ⟨_, by omega, hle, Int.le_refl _, ?_⟩
        rw [Int.mul_add]
        omega
      · by_cases hz : h.2.2.1 = 0
        · refine ⟨0, Int.le_refl _, by omega, by omega, ?_⟩
          rw [hz] at hgr i3 h0 ⊢
          simp only [Int.zero_mul] at i3 h0 ⊢
          omega
        · have hg1 : 1 ≤ h.2.2.1 := by have := f.hor.g0; omega
          have hF : h.2.2.2.1 ≤ h.2.2.1 * h.2.2.2.1 := by
            have := Int.mul_le_mul_of_nonneg_right hg1 f.hor.f0
            omega
          refine ⟨h.2.2.2.1, f.hor.f0, Int.le_refl _, by omega, ?_⟩
          omega
    obtain ⟨s, s0, s1, s2, s3⟩ := enough
    have hsuit : suitM (.inr (trialM l w h i (goM l w h i).2)) s = true := by
      rw [suit_eq f hil, stepB s s0 (by omega)]
      exact decide_eq_true s3
    have hok' : okAtM l w h i = true := by
      cases hh : okAtM l w h i with
      | true => rfl
      | false =>
        have := (first_false (p := fun m => suitM (.inr (trialM l w h i (goM l w h i).2)) m) (to := h.2.2.2.1) hh).2 s s0 s1
        have this' : suitM (.inr (trialM l w h i (goM l w h i).2)) s = false := this
        rw [hsuit] at this'; cases this'
    have hm' := min_ok f hil hok'
    have hmin : minM l w h i ≤ s := by
      by_cases hlt : s < minM l w h i
      · have := hm'.2.2.2 s s0 hlt
        rw [stepB s s0 (by omega)] at this
        omega
      · omega
    have eB := go_suc f hil
    rw [stepB _ hm'.1 (by omega)] at eB
    have hgm' := mul_bound f.hor.g0 f.hor.g1 hm'.1 (show minM l w h i ≤ 10000 by omega)
    refine ⟨fun j hj => ?_, ?_, ?_⟩
    · rcases Nat.lt_or_eq_of_le (Nat.le_of_lt_succ hj) with h2 | rfl
      · exact i1 j h2
      · exact hok'
    · show sumR l w h i + minM l w h i ≤ psM r i + r.getD i 0
      omega
    · rw [e, eB]
      show stepV h (w.getD i (0, 0)) (r.getD i 0) (simR w h r i) ≤ stepV h (w.getD i (0, 0)) (minM l w h i) (goM l w h i).2 + h.2.2.1 * (psM r i + r.getD i 0 - (sumR l w h i + minM l w h i))
      have hX : 0 ≤ h.2.2.1 * (psM r i + r.getD i 0 - (sumR l w h i + minM l w h i)) := Int.mul_nonneg f.hor.g0 (by omega)
      have e1 : h.2.2.1 * (psM r i + r.getD i 0 - (sumR l w h i + minM l w h i)) = h.2.2.1 * (psM r i - sumR l w h i) + h.2.2.1 * r.getD i 0 - h.2.2.1 * minM l w h i := by
        rw [show psM r i + r.getD i 0 - (sumR l w h i + minM l w h i) = (psM r i - sumR l w h i) + r.getD i 0 - minM l w h i by omega, Int.mul_sub, Int.mul_add]
      rw [e1] at hX ⊢
      unfold stepV
      omega
theorem greedy_sim (f : FOk l w h) (hok : ∀ j, j < l.length → okAtM l w h j = true) {r : List Int} (hr : ∀ j, j < l.length → r.getD j 0 = minM l w h j) : ∀ i, i ≤ l.length → simR w h r i = (goM l w h i).2
  | 0, _ => rfl
  | i + 1, hi => by
    show furrowM h (w.getD i (0, 0)) (restM h (r.getD i 0) (simR w h r i)) = _
    rw [greedy_sim f hok hr i (by omega), hr i (by omega), go_suc f (by omega)]
theorem greedy_min (f : FOk l w h) (hok : ∀ j, j < l.length → okAtM l w h j = true) {r : List Int} (hr : ∀ j, j < l.length → r.getD j 0 = minM l w h j) : MinOk l.length r := fun i hi => by
  have := min_ok f hi (hok i hi)
  have := f.hor.f1
  rw [hr i hi]; omega
theorem greedy_good (f : FOk l w h) (hok : ∀ j, j < l.length → okAtM l w h j = true) {r : List Int} (hr : ∀ j, j < l.length → r.getD j 0 = minM l w h j) : ∀ i, i < l.length → 0 ≤ simR w h r (i + 1) := fun i hi => by
  rw [greedy_sim f hok hr (i + 1) hi]
  exact (go_bound f (i + 1) hi fun j hj => hok j (by omega)).1
theorem long_good (f : FOk l w h) (hok : ∀ j, j < l.length → okAtM l w h j = true) {r : List Int} (hr : ∀ j, j < l.length → r.getD j 0 = h.2.2.2.1) : MinOk l.length r ∧ ∀ i, i ≤ l.length → (goM l w h i).2 ≤ simR w h r i ∧ ∀ j, j < i → 0 ≤ simR w h r (j + 1) := by
  have hf0 := f.hor.f0
  have hf1 := f.hor.f1
  have hm : MinOk l.length r := fun i hi => by rw [hr i hi]; omega
  refine ⟨hm, fun i => ?_⟩
  induction i with
  | zero => exact fun _ => ⟨Int.le_refl _, fun j hj => absurd hj (Nat.not_lt_zero j)⟩
  | succ i ih =>
    intro hi
    obtain ⟨i1, i2⟩ := ih (by omega)
    have hil : i < l.length := by omega
    have e := sim_suc f hm hil i2
    have hb := go_bound f i (by omega) fun j hj => hok j (by omega)
    have hb2 := go_bound f (i + 1) hi fun j hj => hok j (by omega)
    have hmn := min_ok f hil (hok i hil)
    have eB := go_suc f hil
    rw [step_val f.hor (f.st.work i hil) hmn.1 (by omega) hb.1 (by omega)] at eB
    have hmul : h.2.2.1 * minM l w h i ≤ h.2.2.1 * h.2.2.2.1 := Int.mul_le_mul_of_nonneg_left hmn.2.1 f.hor.g0
    have hle : (goM l w h (i + 1)).2 ≤ simR w h r (i + 1) := by
      rw [e, eB, hr i hil]
      unfold stepV
      omega
    refine ⟨hle, fun j hj => ?_⟩
    rcases Nat.lt_or_eq_of_le (Nat.le_of_lt_succ hj) with h2 | rfl
    · exact i2 j h2
    · omega
end
theorem ps_app {a b : List Int} : ∀ i, i ≤ a.length → psM (a ++ b) i = psM a i
  | 0, _ => rfl
  | i + 1, hi => by
    show psM (a ++ b) i + (a ++ b).getD i 0 = psM a i + a.getD i 0
    rw [ps_app i (by omega), getD_app_left _ (by omega)]
theorem ps_snoc (a : List Int) (k : Int) : psM (a ++ [k]) (a.length + 1) = psM a a.length + k := by
  show psM (a ++ [k]) a.length + (a ++ [k]).getD a.length 0 = _
  rw [ps_app _ (Nat.le_refl _)]
  have := getD_app_at (a := a) (b := [k]) (i := 0) (0 : Int)
  rw [Nat.add_zero] at this
  rw [this]; rfl
theorem li_sound_list : ∀ (n : Nat) (b : List Int) (left : Int), 0 ≤ left → left ≤ 1000000 → (∀ i, i < b.length → 0 ≤ b.getD i 0 ∧ b.getD i 0 ≤ 1000000) → (liM t p n b left).2 = true →
    ∃ r : List Int, r.length = b.length + n ∧ (∀ i, i < b.length → r.getD i 0 = b.getD i 0) ∧ (∀ i, i < r.length → 0 ≤ r.getD i 0 ∧ r.getD i 0 ≤ 1000000) ∧ psM r r.length = psM b b.length + left ∧ holdsM t p r = true
  | 0, b, left, h0, h1, hb, h => by
    have h' : ((left == 0) && holdsM t p b) = true := h
    rw [Bool.and_eq_true] at h'
    have hz : left = 0 := eq_of_beq h'.1
    exact ⟨b, rfl, fun _ _ => rfl, hb, by omega, h'.2⟩
  | n + 1, b, left, h0, h1, hb, h => by
    have hex : ∃ k : Nat, (k : Int) ≤ left ∧ tryRM t p n b left k = true := by
      apply Classical.byContradiction
      intro hne
      have : liM t p (n + 1) b left = ([], false) := li_none fun j hj => by
        cases e : tryRM t p n b left j with
        | false => rfl
        | true => exact absurd ⟨j, hj, e⟩ hne
      rw [this] at h; cases h
    obtain ⟨k, hk, ht⟩ := hex
    obtain ⟨r, r1, r2, r3, r4, r5⟩ := li_sound_list n (b ++ [(k : Int)]) (left - (k : Int)) (by omega) (by omega) (fun i hi => by
      rw [List.length_append] at hi
      by_cases hlt : i < b.length
      · rw [getD_app_left _ hlt]; exact hb i hlt
      · have e : i = b.length + 0 := by simp at hi; omega
        rw [e, getD_app_at]; show 0 ≤ (k : Int) ∧ (k : Int) ≤ 1000000; omega) ht
    refine ⟨r, by rw [r1, List.length_append]; simp; omega, fun i hi => ?_, r3, ?_, r5⟩
    · rw [r2 i (by rw [List.length_append]; omega), getD_app_left _ hi]
    · rw [r4, show (b ++ [(k : Int)]).length = b.length + 1 by simp, ps_snoc]; omega
theorem li_greedy (u : Fur t p) (hok : ∀ j, j < p.steps.length → okAtM p.steps (worksM p) (worstM t) j = true) : ∀ (m i : Nat) (b : List Int) (left : Int), i + m = p.steps.length → b.length = i → (∀ j, j < i → b.getD j 0 = minM p.steps (worksM p) (worstM t) j) → left = sumR p.steps (worksM p) (worstM t) p.steps.length - sumR p.steps (worksM p) (worstM t) i → left ≤ 1000000 →
    (liM t p m b left).2 = true ∧ (liM t p m b left).1.length = p.steps.length ∧ ∀ j, j < p.steps.length → (liM t p m b left).1.getD j 0 = minM p.steps (worksM p) (worstM t) j
  | 0, i, b, left, hi, hb, hg, hl, _ => by
    have he : i = p.steps.length := by omega
    subst he
    have hz : left = 0 := by omega
    subst hz
    have f := worst_fok u
    have hh : holdsM t p b = true := (holds_iff u (greedy_min f hok hg)).2 (greedy_good f hok hg)
    refine ⟨?_, hb, hg⟩
    show (((0 : Int) == 0) && holdsM t p b) = true
    rw [hh]; rfl
  | m + 1, i, b, left, hi, hb, hg, hl, hL => by
    have f := worst_fok u
    have hil : i < p.steps.length := by omega
    have hmi := min_ok f hil (hok i hil)
    obtain ⟨k, hk⟩ := Int.eq_ofNat_of_zero_le hmi.1
    have hk' : minM p.steps (worksM p) (worstM t) i = (k : Int) := hk
    have hgrow : ∀ j, j ≤ p.steps.length → 0 ≤ sumR p.steps (worksM p) (worstM t) j ∧ ∀ q, q ≤ j → sumR p.steps (worksM p) (worstM t) q ≤ sumR p.steps (worksM p) (worstM t) j := fun j => by
      induction j with
      | zero =>
        refine fun _ => ⟨Int.le_refl _, fun q hq => ?_⟩
        have h0 : q = 0 := by omega
        rw [h0]
        exact Int.le_refl _
      | succ j ih =>
        intro hj
        obtain ⟨a1, a2⟩ := ih (by omega)
        have hmj := min_ok f (show j < p.steps.length by omega) (hok j (by omega))
        have e : sumR p.steps (worksM p) (worstM t) (j + 1) = sumR p.steps (worksM p) (worstM t) j + minM p.steps (worksM p) (worstM t) j := rfl
        refine ⟨by omega, fun q hq => ?_⟩
        rcases Nat.lt_or_eq_of_le hq with h2 | rfl
        · have := a2 q (by omega); omega
        · exact Int.le_refl _
    have hsuc : sumR p.steps (worksM p) (worstM t) (i + 1) = sumR p.steps (worksM p) (worstM t) i + (k : Int) := by rw [← hk']; rfl
    have hle := (hgrow p.steps.length (Nat.le_refl _)).2 (i + 1) hil
    have hleft0 : 0 ≤ left := by omega
    have ih := li_greedy u hok m (i + 1) (b ++ [(k : Int)]) (left - (k : Int)) (by omega) (by simp; omega) (fun j hj => by
      by_cases hlt : j < i
      · rw [getD_app_left _ (by omega)]; exact hg j hlt
      · have e : j = b.length + 0 := by omega
        rw [e, getD_app_at, Nat.add_zero, hb, hk']; rfl) (by omega) (by omega)
    have hno : ∀ q, q < k → tryRM t p m b left q = false := fun q hq => by
      cases e : tryRM t p m b left q with
      | false => rfl
      | true =>
        have hbm : ∀ j, j < b.length → 0 ≤ b.getD j 0 ∧ b.getD j 0 ≤ 1000000 := fun j hj => by
          rw [hg j (by omega)]
          have := min_ok f (show j < p.steps.length by omega) (hok j (by omega))
          have := f.hor.f1
          omega
        obtain ⟨r, r1, r2, r3, r4, r5⟩ := li_sound_list m (b ++ [(q : Int)]) (left - (q : Int)) (by omega) (by omega) (fun j hj => by
          rw [List.length_append] at hj
          by_cases hlt : j < b.length
          · rw [getD_app_left _ hlt]; exact hbm j hlt
          · have e : j = b.length + 0 := by simp at hj; omega
            rw [e, getD_app_at]; show 0 ≤ (q : Int) ∧ (q : Int) ≤ 1000000; omega) e
        have hrl : r.length = p.steps.length := by rw [r1]; simp; omega
        have hrm : MinOk p.steps.length r := fun j hj => r3 j (by omega)
        have hgood := (holds_iff u hrm).1 r5
        have hps := (greedy_le f hrm hgood (i + 1) hil).2.1
        have hpre : ∀ j, j ≤ i → psM r j = sumR p.steps (worksM p) (worstM t) j := fun j => by
          induction j with
          | zero => exact fun _ => rfl
          | succ j ih =>
            intro hj
            show psM r j + r.getD j 0 = sumR p.steps (worksM p) (worstM t) j + minM p.steps (worksM p) (worstM t) j
            rw [ih (by omega), r2 j (by rw [List.length_append]; omega), getD_app_left _ (by omega), hg j (by omega)]
        have hri : r.getD i 0 = (q : Int) := by
          rw [r2 i (by rw [List.length_append]; simp; omega)]
          have e : i = b.length + 0 := by omega
          rw [e, getD_app_at]; rfl
        have : psM r (i + 1) = sumR p.steps (worksM p) (worstM t) i + (q : Int) := by
          show psM r i + r.getD i 0 = _
          rw [hpre i (Nat.le_refl _), hri]
        omega
    have e := li_some (t := t) (p := p) (n := m) (b := b) (left := left) (k := k) (by omega) ih.1 hno
    rw [e]
    exact ih
theorem rests_same (t : TeamT) (p : PlotT) : restsRM t p = restsM t p := by
  unfold restsRM
  cases hf : furM p with
  | false => rw [rests_any hf]; rfl
  | true =>
    rw [if_pos rfl]
    by_cases hc : checkRM t p true = 0
    · have fi := fine_of hc
      have u : Fur t p := ⟨fi, hf⟩
      have f := worst_fok u
      have hf0 := f.hor.f0
      have hf1 := f.hor.f1
      have h12 := (plot_ok fi.plot).2.1
      rw [if_pos hc]
      have hlong : ∀ j, j < p.steps.length → (fullM t p.steps.length).getD j 0 = (worstM t).2.2.2.1 := fun j hj => by
        unfold fullM
        rw [List.getD_eq_getElem?_getD, List.getElem?_replicate, if_pos hj]; rfl
      have hlm : MinOk p.steps.length (fullM t p.steps.length) := fun i hi => by rw [hlong i hi]; omega
      by_cases hok : ∀ j, j < p.steps.length → okAtM p.steps (worksM p) (worstM t) j = true
      · have hh : holdsM t p (fullM t p.steps.length) = true := (holds_iff u hlm).2 (fun i hi => ((long_good f hok hlong).2 p.steps.length (Nat.le_refl _)).2 i hi)
        rw [if_pos hh, rests_ok' hf fi.open hok]
        refine Prod.ext ?_ rfl
        show rlsM t p = (goM p.steps (worksM p) (worstM t) p.steps.length).1
        have hsum : ∀ i, i ≤ p.steps.length → 0 ≤ sumR p.steps (worksM p) (worstM t) i ∧ sumR p.steps (worksM p) (worstM t) i ≤ t.2.2.2 * (i : Int) := fun i => by
          induction i with
          | zero => exact fun _ => ⟨Int.le_refl _, by show (0 : Int) ≤ t.2.2.2 * ((0 : Nat) : Int); simp⟩
          | succ i ih =>
            intro hi
            obtain ⟨a1, a2⟩ := ih (by omega)
            have hm := min_ok f (show i < p.steps.length by omega) (hok i (by omega))
            have hm2 : minM p.steps (worksM p) (worstM t) i ≤ t.2.2.2 := hm.2.1
            have e : sumR p.steps (worksM p) (worstM t) (i + 1) = sumR p.steps (worksM p) (worstM t) i + minM p.steps (worksM p) (worstM t) i := rfl
            refine ⟨by omega, ?_⟩
            rw [e, show ((i + 1 : Nat) : Int) = (i : Int) + 1 by omega, Int.mul_add, Int.mul_one]
            omega
        obtain ⟨n0, n1⟩ := hsum p.steps.length (Nat.le_refl _)
        have hcap : sumR p.steps (worksM p) (worstM t) p.steps.length ≤ capM t p := n1
        have hcap2 : capM t p ≤ 120000 := by
          have hF0 : 0 ≤ t.2.2.2 := (team_ok fi.team).1.1
          have := mul_bound hF0 (team_ok fi.team).1.2 (Int.natCast_nonneg p.steps.length) (show (p.steps.length : Int) ≤ 12 by omega)
          show t.2.2.2 * (p.steps.length : Int) ≤ 120000
          omega
        obtain ⟨N, hN⟩ := Int.eq_ofNat_of_zero_le n0
        have hN' : sumR p.steps (worksM p) (worstM t) p.steps.length = (N : Int) := hN
        have hg := li_greedy u hok p.steps.length 0 [] (N : Int) (by omega) rfl (fun j hj => absurd hj (Nat.not_lt_zero j)) (by rw [hN']; show _ = (N : Int) - 0; omega) (by omega)
        have hno : ∀ n, n < N → lisM t p n = false := fun n hn => by
          cases e : lisM t p n with
          | false => rfl
          | true =>
            obtain ⟨r, r1, _, r3, r4, r5⟩ := li_sound_list p.steps.length [] (n : Int) (Int.natCast_nonneg _) (by omega) (fun i hi => absurd hi (Nat.not_lt_zero i)) e
            have hrl : r.length = p.steps.length := by rw [r1]; simp
            have hrm : MinOk p.steps.length r := fun j hj => r3 j (by omega)
            have hps := (greedy_le f hrm ((holds_iff u hrm).1 r5) p.steps.length (Nat.le_refl _)).2.1
            have h4 : psM r r.length = 0 + (n : Int) := r4
            rw [hrl] at h4
            omega
        have hfind : (List.range (capM t p + 1).toNat).find? (fun (n : Nat) => lisM t p n) = some N := by
          rw [List.find?_range_eq_some]
          exact ⟨hg.1, List.mem_range.2 (by omega), fun j hj => by simp [hno j hj]⟩
        unfold rlsM
        rw [hfind]
        refine List.ext_getElem (by rw [hg.2.1, go_len]) fun j h1 h2 => ?_
        have hj : j < p.steps.length := by rw [hg.2.1] at h1; exact h1
        have e1 := hg.2.2 j hj
        have e2 := go_get (l := p.steps) (w := worksM p) (h := worstM t) p.steps.length j hj
        rw [List.getD_eq_getElem?_getD, List.getElem?_eq_getElem h1] at e1
        rw [List.getD_eq_getElem?_getD, List.getElem?_eq_getElem h2] at e2
        simp only [Option.getD_some] at e1 e2
        exact e1.trans e2.symm
      · obtain ⟨j, hj, hjf⟩ : ∃ j, j < p.steps.length ∧ okAtM p.steps (worksM p) (worstM t) j = false := by
          apply Classical.byContradiction
          intro hne
          refine hok fun j hj => ?_
          cases e : okAtM p.steps (worksM p) (worstM t) j with
          | true => rfl
          | false => exact absurd ⟨j, hj, e⟩ hne
        have hh : holdsM t p (fullM t p.steps.length) = false := by
          cases e : holdsM t p (fullM t p.steps.length) with
          | false => rfl
          | true =>
            have := (greedy_le f hlm ((holds_iff u hlm).1 e) p.steps.length (Nat.le_refl _)).1 j hj
            rw [hjf] at this; cases this
        rw [if_neg (by rw [hh]; decide), rests_bad hf fi.open hj hjf]
    · rw [if_neg hc, check_same]
      rw [check_same] at hc
      rw [rests_open hf (by simpa using hc)]
end
end AE.Team

namespace AE.Team
open Go AE Go.Proofs AE.Soil

def nWM (s : Span) : Int := IntKind.i64.wrap (IntKind.i64.wrap (s.2 - s.1) + 1)
def nWS : FSpec UU where
  X := Span
  pick := fun args _ => match args with
    | [a] => avSpan a
    | _ => none
  args := fun (x : Span) => [vSpan x]
  H := fun _ => []
  R := fun (x : Span) => .val ⟨.i (nWM x), [], [], []⟩
theorem nW_ok : ∀ x, nWS.pre x → FunOk Tryz.prog 33 (nWS.args x) (nWS.H x) (nWS.R x) := by
  rintro ⟨a, b⟩ _
  refine fun_of (T := []) (L := fun _ => none) (hs := fun _ => []) hmix .nil Tryz.func33 (by kernel_rfl) (by kernel_rfl) ?_
  refine Eq.mp (α :=
      True ∧ (Value.int IntKind.i64 (IntKind.wrap IntKind.i64 (IntKind.wrap IntKind.i64 (b - a) + (1 : Int))) = Value.int IntKind.i64 (nWM (a, b)) ∧ True) ∧ True ∧ True)
    (by kernel_rfl) ?_
  simp only [eq_self, AE.goS]
  rfl

theorem nW_sound : Sound Tryz.prog 33 nWS.con := FSpec.sound _ (enter_of Tryz.func33 (by kernel_rfl) (by kernel_rfl)) nW_ok
def wideBM (t : TeamT) (ways full : Int) : Bool := teamM t && (decide (t.2.2.2 > full) || (decide (nWM t.1 > ways) || (decide (nWM t.2.1 > ways) || (decide (nWM t.2.2.1 > ways) || decide (IntKind.i64.wrap (IntKind.i64.wrap (nWM t.1 * nWM t.2.1) * nWM t.2.2.1) > ways)))))
def wideS : FSpec UU where
  X := TeamT × Int × Int
  pick := fun args _ => match args with
    | [a, b, c] => match avTeam a, avInt b, avInt c with
      | some a, some b, some c => some (a, b, c)
      | _, _, _ => none
    | _ => none
  args := fun x => [vTeam x.1, .i x.2.1, .i x.2.2]
  H := fun _ => []
  R := fun x => .val ⟨.b (wideBM x.1 x.2.1 x.2.2), [], [], []⟩
def Twide : Tab UU := [(25, isTeamS.con), (33, nWS.con)]
theorem Twide_ok : Twide.Sound Tryz.prog := .cons fTeam_sound (.cons nW_sound .nil)
theorem wide_ok : ∀ x, wideS.pre x → FunOk Tryz.prog 8 (wideS.args x) (wideS.H x) (wideS.R x) := by
  rintro ⟨⟨⟨s0, s1⟩, ⟨l0, l1⟩, ⟨g0, g1⟩, full⟩, ways, f⟩ _
  refine fun_of (T := Twide) (L := fun _ => none) (hs := fun _ => []) hmix Twide_ok Tryz.func8 (by kernel_rfl) (by kernel_rfl) ?_
  refine Eq.mp (α :=
      let A2 := Value.int IntKind.i64 s0 = Value.int IntKind.i64 s0; let A3 := Value.int IntKind.i64 g0 = Value.int IntKind.i64 g0; let A4 := Value.int IntKind.i64 l0 = Value.int IntKind.i64 l0; let A5 := Value.int IntKind.i64 s1 = Value.int IntKind.i64 s1; let A6 := Value.int IntKind.i64 g1 = Value.int IntKind.i64 g1; let A7 := Value.int IntKind.i64 l1 = Value.int IntKind.i64 l1; let A8 := (A4 ∧ A7 ∧ True) ∧ True; let A9 := (A2 ∧ A5 ∧ True) ∧ True; let Aa := (A3 ∧ A6 ∧ True) ∧ True; let Ab := ((s0, s1), (((l0, l1), (((g0, g1), full))))); let Ac := !(teamM Ab); let A1 := Value.bool (wideBM Ab ways f); let A0 := True ∧ (A1 = Value.bool true ∧ True) ∧ True ∧ True; let Ad := decide (full > f); let Ae := decide (nWM (s0, s1) > ways); let Af := decide (nWM (l0, l1) > ways); let Ag := decide (nWM (g0, g1) > ways); True ∧ ((A2 ∧ A5 ∧ A4 ∧ A7 ∧ A3 ∧ A6 ∧ Value.int IntKind.i64 full = Value.int IntKind.i64 full ∧ True) ∧ True) ∧ True ∧ (Ac = true → True ∧ (A1 = Value.bool false ∧ True) ∧ True ∧ True) ∧ (Ac = false → (Ad = true → A0) ∧ (Ad = false → True ∧ A9 ∧ True ∧ (Ae = true → A0) ∧ (Ae = false → True ∧ A8 ∧ True ∧ (Af = true → A0) ∧ (Af = false → True ∧ Aa ∧ True ∧ (Ag = true → A0) ∧ (Ag = false → True ∧ A9 ∧ True ∧ True ∧ A8 ∧ True ∧ True ∧ Aa ∧ True ∧ True ∧ (Value.bool (decide (IntKind.wrap IntKind.i64 (IntKind.wrap IntKind.i64 (nWM (s0, s1) * nWM (l0, l1)) * nWM (g0, g1)) > ways)) = A1 ∧ True) ∧ True ∧ True))))))
    (by kernel_rfl) ?_
  simp only [eq_self, AE.goS]
  unfold wideBM
  refine ⟨fun h => ?_, fun h => ?_⟩
  · have h1 : teamM ((s0, s1), (l0, l1), (g0, g1), full) = false := by simpa using h
    rw [h1]; rfl
  · have h1 : teamM ((s0, s1), (l0, l1), (g0, g1), full) = true := by simpa using h
    rw [h1]
    simp only [Bool.true_and]
    refine ⟨fun h => by rw [decide_eq_true h]; rfl, fun h => ⟨fun h2 => by rw [decide_eq_false h, decide_eq_true h2]; rfl, fun h2 => ⟨fun h3 => by rw [decide_eq_false h, decide_eq_false h2, decide_eq_true h3]; rfl, fun h3 => ⟨fun h4 => by rw [decide_eq_false h, decide_eq_false h2, decide_eq_false h3, decide_eq_true h4]; rfl, fun h4 => by rw [decide_eq_false h, decide_eq_false h2, decide_eq_false h3, decide_eq_false h4]; rfl⟩⟩⟩⟩

theorem wide_sound : Sound Tryz.prog 8 wideS.con := FSpec.sound _ (enter_of Tryz.func8 (by kernel_rfl) (by kernel_rfl)) wide_ok
end AE.Team

namespace AE.Team
open Go AE Go.Proofs AE.Soil

def lawNS : FSpec UU := { oneS fun _ => .val ⟨.b true, [], [], []⟩ with pre := fun x => x.2.g.pits.length < 9223372036854775808 ∧ x.2.steps.length < 9223372036854775808 }
def TlawN : Tab UU := [(7, largeS.con), (8, wideS.con), (9, aliveS.con), (16, restsS.con), (18, leastS.con), (17, restsRS.con), (19, leastRS.con), (20, intsS.con)]
theorem TlawN_ok : TlawN.Sound Tryz.prog := .cons large_sound (.cons wide_sound (.cons alive_sound (.cons rests_sound (.cons least_sound (.cons restsR_sound (.cons leastR_sound (.cons ints_sound .nil)))))))
theorem lawN_ok : ∀ x, lawNS.pre x → FunOk Tryz.prog 4 (lawNS.args x) (lawNS.H x) (lawNS.R x) := by
  rintro ⟨⟨⟨s0, s1⟩, ⟨l0, l1⟩, ⟨g0, g1⟩, full⟩, ⟨⟨long, rise, change, ps⟩, st⟩⟩ hx
  refine fun_of (T := TlawN) (L := fun _ => none) (hs := fun _ => []) hmix TlawN_ok Tryz.func4 (by kernel_rfl) (by kernel_rfl) ?_
  refine Eq.mp (α :=
      let A8 := Value.int IntKind.i64 (60 : Int); let A9 := Value.int IntKind.i64 (20 : Int); let Aa := Value.int IntKind.i64 s0 = Value.int IntKind.i64 s0; let Ab := g0 == (1 : Int); let Ac := g0 == (2 : Int); let A0 := ps = ps ∧ st = st ∧ True; let Ad := True ∧ A0; let A5 := (List.length ps < nat_lit 1000000) ∧ List.length st < nat_lit 1000000; let A4 := ((s0, s1), (((l0, l1), (((g0, g1), full))))); let A6 := True ∧ (Value.bool true = Value.bool false ∧ True) ∧ Ad; let A1 := True ∧ True ∧ True ∧ True ∧ (Value.bool true = Value.bool true ∧ True) ∧ Ad; let Ae := restsM A4 (PlotT.mk (GroundT.mk long rise change ps) st); let Af := leastM A4 (PlotT.mk (GroundT.mk long rise change ps) st); let Ag := restsRM A4 (PlotT.mk (GroundT.mk long rise change ps) st); let Ah := leastRM A4 (PlotT.mk (GroundT.mk long rise change ps) st); let A2 : List Int := Prod.fst Ae; let A3 : List Int := Prod.fst Ag; let Ai := wideBM A4 (20 : Int) (60 : Int); let Aj := List.length A2; let Ak := (Value.int IntKind.i64 s1 = Value.int IntKind.i64 s1) ∧ (Value.int IntKind.i64 l0 = Value.int IntKind.i64 l0) ∧ (Value.int IntKind.i64 l1 = Value.int IntKind.i64 l1) ∧ (Value.int IntKind.i64 g0 = Value.int IntKind.i64 g0) ∧ (Value.int IntKind.i64 g1 = Value.int IntKind.i64 g1) ∧ (Value.int IntKind.i64 full = Value.int IntKind.i64 full) ∧ True; let Al := (Value.int IntKind.i64 long = Value.int IntKind.i64 long) ∧ (Value.int IntKind.i64 rise = Value.int IntKind.i64 rise) ∧ (Value.int IntKind.i64 change = Value.int IntKind.i64 change) ∧ (nat_lit 0 = nat_lit 0 ∧ nat_lit 0 = nat_lit 0 ∧ List.length ps = List.length ps) ∧ (nat_lit 0 = nat_lit 0 ∧ nat_lit 0 = nat_lit 0 ∧ List.length st = List.length st) ∧ True; let Am := decide (((↑(List.length st) : Int)) > (3 : Int)); let An := (Prod.snd Af) == (Prod.snd Ah); let Ao := (Prod.fst Af) == (Prod.fst Ah); let Ap := (Prod.snd Ae) == (Prod.snd Ag); let A7 := (Aa ∧ Ak) ∧ Al ∧ True; True ∧ (Al ∧ True) ∧ A0 ∧ (largeM (PlotT.mk (GroundT.mk long rise change ps) st) = true → A1) ∧ (largeM (PlotT.mk (GroundT.mk long rise change ps) st) = false → True ∧ ((Aa ∧ Ak) ∧ A9 = A9 ∧ A8 = A8 ∧ True) ∧ True ∧ (Ai = true → A1) ∧ (Ai = false → (Am = true → A1) ∧ (Am = false → (Ab = true → A1) ∧ (Ab = false → (Ac = true → A1) ∧ (Ac = false → A5 ∧ A7 ∧ A0 ∧ A5 ∧ A7 ∧ A0 ∧ A5 ∧ A7 ∧ A0 ∧ A5 ∧ A7 ∧ A0 ∧ Aj < nat_lit 1000000 ∧ ((nat_lit 4 = nat_lit 4 ∧ nat_lit 0 = nat_lit 0 ∧ nat_lit 0 = nat_lit 0 ∧ List.length A2 = Aj) ∧ (nat_lit 5 = nat_lit 5 ∧ nat_lit 0 = nat_lit 0 ∧ nat_lit 0 = nat_lit 0 ∧ List.length A3 = List.length A3) ∧ True) ∧ (A2 = A2 ∧ A3 = A3 ∧ True) ∧ (sameM A2 A3 = true → (Ap = true → (Ao = true → (An = true → A1) ∧ (An = false → A6)) ∧ (Ao = false → A6)) ∧ (Ap = false → A6)) ∧ (sameM A2 A3 = false → A6)))))))
    (by kernel_rfl) ?_
  simp only [eq_self, AE.goS]
  refine ⟨fun _ => trivial, fun hlg => ⟨fun _ => trivial, fun _ => ⟨fun _ => trivial, fun _ => ⟨fun _ => trivial, fun _ => ⟨fun _ => trivial, fun _ => ?_⟩⟩⟩⟩⟩
  have hs : ps.length < 1000000 ∧ st.length < 1000000 := by
    have := of_decide_eq_false (show decide (max (st.length : Int) (ps.length : Int) > 40) = false from hlg)
    omega
  have hrl : (restsM ((s0, s1), (l0, l1), (g0, g1), full) ⟨⟨long, rise, change, ps⟩, st⟩).1.length < 1000000 := by
    unfold restsM
    split
    · rw [show (goM st (worksM ⟨⟨long, rise, change, ps⟩, st⟩) (worstM ((s0, s1), (l0, l1), (g0, g1), full)) st.length).1.length = st.length from go_len _ _ _ _]; exact hs.2
    · show 0 < 1000000; decide
  refine ⟨hs, hs, hs, hs, hrl, ?_⟩
  rw [rests_same, least_same]
  have hsm : sameM (restsM ((s0, s1), (l0, l1), (g0, g1), full) ⟨⟨long, rise, change, ps⟩, st⟩).1 (restsM ((s0, s1), (l0, l1), (g0, g1), full) ⟨⟨long, rise, change, ps⟩, st⟩).1 = true := decide_eq_true rfl
  rw [hsm]
  simp only [BEq.rfl, Bool.and_true, Bool.true_eq_false, false_implies, and_true, implies_true]
end AE.Team

namespace AE.Team
open Go AE Go.Proofs AE.Soil

structure KeepP (R : Prop) : Prop where
  get : R
def bigP (p : PlotT) : Prop := p.g.pits.length < 9223372036854775808 ∧ p.steps.length < 9223372036854775808
end AE.Team

namespace AE
open Go Go.ChangeShapes Go.WideShapes

theorem Keeps.but {w w' : World} (h : Keeps (fun _ => False) w w') (may : MemPlace → Prop) : w.keptBut w' may := by
  refine ⟨h.os, h.output, fun i hi => ?_⟩
  have hb := h.block i hi fun h => h
  rw [hb]
  exact (World.keptBut_refl w may).2.2 i hi
theorem Keeps.frozen {w w' : World} (h : Keeps (fun _ => False) w w') (a : Addr) (ha : a.block < w.heap.size) : w'.frozen? a = w.frozen? a := by
  unfold World.frozen?
  rw [h.block a.block ha fun h => h]
theorem post_of_keeps {P : Program} {H : Type} {enc : TypeId × Value → H} {f : Func} {s : ChangeSpec} {apart fresh handsOn again : Bool} {W W' : World} {args : Array Value} {v : Value} {ds gs : List (DataW H)} {before pa pv : List MemPlace}
    (hW : DataW.Whole enc P f.params.toList s.vars apart W args.toList ds gs before)
    (hres : ∀ (b : Nat) (sp : Nat → Bool) (hd : Bool), DataW.TrodAll enc P W' b sp hd f.resultTypes.toList (v.resultList f.resultTypes.size) (s.fn H (ds ++ gs)).results [])
    (hargs : ∀ sp : Nat → Bool, (∀ p ∈ before, sp p.block = true) → DataW.TrodAll enc P W' 0 sp true f.params.toList args.toList (s.fn H (ds ++ gs)).args pa)
    (hvars : ∀ sp : Nat → Bool, (∀ p ∈ before, sp p.block = true) → DataW.TrodVars enc P W' sp s.vars (s.fn H (ds ++ gs)).vars pv)
    (hps : before = pa ++ pv) (hk : Keeps (fun _ => False) W W')
    (hok : ∀ (j : Nat) (t : TypeId) (r : Value), f.resultTypes[j]? = some t → (v.resultList f.resultTypes.size)[j]? = some r → Value.okWide P W' .any 0 t r) :
    s.post enc P f apart fresh handsOn again W args v W' := by
  have hlt := hW.lt
  have hold : ∀ p ∈ before, (fun b => decide (b < W.heap.size)) p.block = true := fun p hp => by simpa using hlt p hp
  have hb : ∀ p, p ∈ [] ++ pa ++ pv ↔ p ∈ before := fun p => by rw [hps, List.nil_append]
  refine ⟨ds, gs, before, [], pa, pv, hW, hres _ _ _, hargs _ hold, hvars _ hold, World.keptBut_mono (fun p hp => ⟨hp, ?_⟩) (hk.but _), fun _ => ?_⟩
  · exact Or.inr (List.mem_append.1 (hps ▸ hp))
  · obtain ⟨_, _, _, _, _, hz, hn⟩ := hW
    refine ⟨hok, _, _, [] ++ pa ++ pv, ⟨[] ++ pa, pv, trodAll_append (hargs _ (fun _ _ => rfl)) (hres _ _ _), hvars _ (fun _ _ => rfl), rfl, fun b off hp => ?_, fun ha => ?_⟩, fun p hp _ => (hb p).1 hp⟩
    · have hp' := (hb _).1 hp
      rw [hk.frozen _ (hlt _ hp')]
      exact hz b off hp'
    · have := hn ha
      rwa [hps, ← List.nil_append pa] at this
end AE

namespace AE
open Go Go.ChangeShapes Go.WideShapes Go.RowKit

theorem Keeps.below {w w' : World} (h : Keeps (fun _ => False) w w') : Below w.heap.size w w' :=
  ⟨h.os, h.tape, h.output, h.size, fun k hk => h.block k hk fun e => e⟩

inductive FK where
  | int (k : IntKind)
  | bool
def FK.ok : FK → Value → Prop
  | .int k, v => ∃ n, v = .int k n ∧ (Lit.int k n).wf = true
  | .bool, v => ∃ b, v = .bool b
def FKs : List FK → List Value → Prop
  | [], vs => vs = []
  | k :: ks, vs => ∃ v r, vs = v :: r ∧ k.ok v ∧ FKs ks r
theorem FKs.append : ∀ {a b : List FK} {x y : List Value}, FKs a x → FKs b y → FKs (a ++ b) (x ++ y)
  | [], _, _, _, h, k => by cases h; exact k
  | _ :: _, _, _, _, ⟨v, r, e, h1, h2⟩, k => ⟨v, _, by rw [e]; rfl, h1, h2.append k⟩
theorem FKs.length : ∀ {a : List FK} {x : List Value}, FKs a x → x.length = a.length
  | [], _, h => by cases h; rfl
  | _ :: _, _, ⟨v, r, e, _, h⟩ => by rw [e, List.length_cons, List.length_cons, h.length]

mutual
def flat (P : Program) : Nat → TypeId → Option (List FK)
  | 0, _ => none
  | n + 1, t => match P.underlying t with
    | some .bool => some [.bool]
    | some (.int k) => some [.int k]
    | some (.struct fs) => flatFs P n 0 fs.toList
    | _ => none
def flatFs (P : Program) : Nat → Nat → List Field → Option (List FK)
  | _, _, [] => some []
  | 0, _, _ :: _ => none
  | n + 1, o, f :: fs => match Nat.beq f.offset o, flat P n f.type with
    | true, some l => match Nat.beq (P.cellsOf f.type) l.length, flatFs P n (o + l.length) fs with
      | true, some r => some (l ++ r)
      | _, _ => none
    | _, _ => none
end

section
variable {H : Type} {enc : TypeId × Value → H} {P : Program} {w : World} {base : Nat} {spare : Nat → Bool} {held : Bool}
mutual
theorem flat_ok : ∀ (n : Nat) {t : TypeId} {ks : List FK} {fuel : Nat} {cs : List Value} {x : DataW H × List MemPlace}, flat P n t = some ks → P.cellsOf t = ks.length → DataW.trod enc P w base spare held fuel t cs = some x → FKs ks cs
  | 0, t, ks, fuel, cs, x, h, _, _ => by simp [flat] at h
  | n + 1, t, ks, fuel, cs, x, h, hc, hx => by
    unfold flat at h
    split at h
    · rename_i hu
      cases h
      cases fuel with
      | zero => simp [DataW.trod] at hx
      | succ m =>
        unfold DataW.trod at hx
        rw [hu] at hx
        split at hx <;> first | (simp_all; done) | skip
        rename_i b _ _
        exact ⟨_, _, rfl, ⟨_, rfl⟩, rfl⟩
    · rename_i k hu
      cases h
      cases fuel with
      | zero => simp [DataW.trod] at hx
      | succ m =>
        unfold DataW.trod at hx
        rw [hu] at hx
        split at hx <;> first | (simp_all; done) | skip
        split at hx
        · rename_i k1 _ _ he hh
          have he' : k = k1 := by simpa using he
          subst he'
          obtain ⟨rfl, hh⟩ := hh
          exact ⟨_, _, rfl, ⟨_, rfl, hh⟩, rfl⟩
        · cases hx
    · rename_i fs hu
      obtain ⟨xs, m, _, _, hl, hlen, hf⟩ := DataW.trod_struct hu hx
      have := flatFs_ok n (cs := cs) h (fun f hm => by
        obtain ⟨i, hi, rfl⟩ := List.getElem_of_mem hm
        have h1 : i < fs.size := by simpa using hi
        have h2 := hf i fs[i] (Array.getElem?_eq_getElem h1)
        rw [List.getElem?_eq_getElem (by omega)] at h2
        exact ⟨_, m, by rw [Array.getElem_toList]; exact h2⟩) (by rw [hl, hc]; omega)
      simpa using this
    · cases h
theorem flatFs_ok : ∀ (n : Nat) {o : Nat} {fs : List Field} {ks : List FK} {cs : List Value}, flatFs P n o fs = some ks →
    (∀ f ∈ fs, ∃ y m, DataW.trod enc P w base spare held m f.type ((cs.drop f.offset).take (P.cellsOf f.type)) = some y) → cs.length = o + ks.length → FKs ks (cs.drop o)
  | n, o, [], ks, cs, h, _, hl => by
    have : ks = [] := by cases n <;> simpa [flatFs] using h.symm
    subst this
    show cs.drop o = []
    exact List.drop_eq_nil_of_le (by simpa using Nat.le_of_eq hl)
  | 0, o, f :: fs, ks, cs, h, _, _ => by simp [flatFs] at h
  | n + 1, o, f :: fs, ks, cs, h, hf, hl => by
    unfold flatFs at h
    split at h
    case h_2 => cases h
    rename_i l ho hfl
    split at h
    case h_2 => cases h
    rename_i r hc hr
    cases h
    replace ho := Nat.eq_of_beq_eq_true ho
    replace hc := Nat.eq_of_beq_eq_true hc
    obtain ⟨y, m, hy⟩ := hf f (List.mem_cons_self ..)
    have h1 := flat_ok n hfl hc hy
    have h2 := flatFs_ok n (cs := cs) hr (fun g hg => hf g (List.mem_cons_of_mem _ hg)) (by rw [hl, List.length_append]; omega)
    rw [ho, hc] at h1
    have h3 := h1.append h2
    rw [← List.drop_drop, List.take_append_drop] at h3
    exact h3
end

theorem cells_get {a : Addr} {n : Nat} {cs : List Value} (h : w.cells? base a n = some cs) : cs.length = n ∧ ∀ j, j < n → w.cell? (a.add j) = cs[j]? := by
  unfold World.cells? at h
  split at h
  · exact ⟨by simpa using mapM_some_length h, fun j hj => mapM_some_get h j j (by simp [hj])⟩
  · cases h

theorem cell_spot {a : Addr} {v : Value} (h : w.cell? a = some v) : a.spot = none := by
  unfold World.cell? at h
  split at h
  · split at h
    · cases h
    · rename_i hs; simpa using hs
  · cases h

theorem row_of_trodQ {U : Uni} (c : U.C) (Q : U.ty c → Prop) {t e : TypeId} {ks : List FK} {n fuel : Nat} {v : Value} {x : DataW H × List MemPlace} (ht : P.underlying t = some (.slice e)) (hfl : flat P n e = some ks) (hce : P.cellsOf e = ks.length) (hsz : ks.length = U.sz c) (hpos : 0 < ks.length)
    (hdec : ∀ cs, FKs ks cs → ∃ x, U.enc c x = cs.map .v ∧ Q x) (h : DataW.trod enc P w base spare held fuel t [v] = some x) :
    ∃ (l : List (U.ty c)) (p : Place), l.length < 9223372036854775808 ∧ (∀ x ∈ l, Q x) ∧ (∀ π, BlkOk π w p (.ro c l)) ∧ ∀ (π : Plc) (id k : Nat), π id k = some p → Rep π (.sl id k 0 l.length) v := by
  rcases DataW.trod_slice ht h with ⟨h0, _⟩ | ⟨a, len, cap, elems, rest, m, _, hv, _, hb, hl, hm, hlen, hel, _, _⟩
  · cases h0
    refine ⟨[], ⟨0, 0, U.sz c, none, 0, 0⟩, by simp, fun x hx => by simp at hx, fun π => ⟨rfl, fun i x hi => by simp at hi⟩, fun π id k _ => ?_⟩
    simp only [Rep]
    exact ⟨none, 0, rfl, Nat.le_refl _, fun h => absurd h (Nat.lt_irrefl 0)⟩
  · cases hv
    have each : ∀ i, i < len → ∃ x : U.ty c, Q x ∧ ∀ j a1, (U.enc c x)[j]? = some a1 → ∃ y, w.cell? ((a.add (i * P.cellsOf e)).add j) = some y ∧ a1 = .v y := by
      intro i hi
      have h1 := hel i hi
      rw [List.getElem?_eq_getElem (by omega), Option.bind_eq_some_iff] at h1
      obtain ⟨cs, hcs, htr⟩ := h1
      obtain ⟨hcl, hcg⟩ := cells_get hcs
      obtain ⟨x, hx, hQ⟩ := hdec cs (flat_ok n hfl hce htr)
      refine ⟨x, hQ, fun j a1 hj => ?_⟩
      rw [hx, List.getElem?_map] at hj
      cases hc : cs[j]? with
      | none => rw [hc] at hj; cases hj
      | some y =>
        rw [hc] at hj
        have hjl := (List.getElem?_eq_some_iff.1 hc).1
        exact ⟨y, by rw [hcg j (by omega), hc], by simpa using hj.symm⟩
    have spot : 0 < len → a.spot = none := by
      intro h0
      obtain ⟨x, _, hx⟩ := each 0 h0
      have hl2 := U.len c x
      obtain ⟨y, hy, _⟩ := hx 0 ((U.enc c x)[0]'(by omega)) (List.getElem?_eq_getElem _)
      have h9 : (a.add (0 * P.cellsOf e)).add 0 = a := by simp [Addr.add]
      rw [h9] at hy
      exact cell_spot hy
    have : ∃ l : List (U.ty c), l.length = len ∧ ∀ i x, l[i]? = some x → Q x ∧ ∀ j a1, (U.enc c x)[j]? = some a1 → ∃ y, w.cell? ((a.add (i * P.cellsOf e)).add j) = some y ∧ a1 = .v y := by
      refine ⟨(List.range len).pmap (fun i hi => (each i hi).choose) (fun i hi => List.mem_range.1 hi), by simp, fun i x hi => ?_⟩
      rw [List.getElem?_pmap] at hi
      by_cases h0 : i < len
      · rw [Option.pmap_eq_some_iff] at hi
        obtain ⟨i', h1, h2, rfl⟩ := hi
        have : i' = i := by rw [List.getElem?_range h0] at h2; exact (Option.some.inj h2).symm
        subst this
        exact (each i' h1).choose_spec
      · simp [List.getElem?_eq_none (show (List.range len).length ≤ i by simp; omega)] at hi
    obtain ⟨l, hll, hl2⟩ := this
    have hQl : ∀ x ∈ l, Q x := fun x hx => by
      obtain ⟨i, hi⟩ := List.getElem?_of_mem hx
      exact (hl2 i x hi).1
    have hml : maxLen = 9223372036854775807 := by decide
    refine ⟨l, ⟨a.block, a.off, U.sz c, none, 0, 0⟩, by omega, hQl, fun π => ⟨rfl, fun i x hi j a1 hj => ?_⟩, fun π id k hp => ?_⟩
    · obtain ⟨y, hy, rfl⟩ := (hl2 i x hi).2 j a1 hj
      have hi' := (List.getElem?_eq_some_iff.1 hi).1
      have hs := spot (by omega)
      refine ⟨y, ?_, by simp [Rep]⟩
      rw [← hy]
      congr 1
      cases a
      simp only at hs
      subst hs
      simp only [Addr.add, hce, hsz]
      split <;> split <;> simp_all
    · simp only [Rep]
      refine ⟨some a, cap, by rw [hll], by omega, fun h0 => ⟨_, hp, ?_⟩⟩
      have hs := spot (by omega)
      cases a
      simp only at hs
      subst hs
      simp
theorem row_of_trod {U : Uni} (c : U.C) {t e : TypeId} {ks : List FK} {n fuel : Nat} {v : Value} {x : DataW H × List MemPlace} (ht : P.underlying t = some (.slice e)) (hfl : flat P n e = some ks) (hce : P.cellsOf e = ks.length) (hsz : ks.length = U.sz c) (hpos : 0 < ks.length)
    (hdec : ∀ cs, FKs ks cs → ∃ x, U.enc c x = cs.map .v) (h : DataW.trod enc P w base spare held fuel t [v] = some x) :
    ∃ (l : List (U.ty c)) (p : Place), l.length < 9223372036854775808 ∧ (∀ π, BlkOk π w p (.ro c l)) ∧ ∀ (π : Plc) (id k : Nat), π id k = some p → Rep π (.sl id k 0 l.length) v := by
  obtain ⟨l, p, a, _, b, d⟩ := row_of_trodQ c (fun _ => True) ht hfl hce hsz hpos (fun cs hc => by
    obtain ⟨x, hx⟩ := hdec cs hc
    exact ⟨x, hx, trivial⟩) h
  exact ⟨l, p, a, b, d⟩
end

def rosPlc (ps : List Place) : Plc := fun id k => if k = 0 then ps[id]? else none
theorem rosPlc_fresh (ps : List Place) : Fresh (rosPlc ps) ps.length := by
  intro id k h
  unfold rosPlc
  split
  · rw [List.getElem?_eq_none h]
  · rfl
def roH {U : Uni} (bs : List ((c : U.C) × List (U.ty c))) : Heap U := bs.map fun b => .one (.ro b.1 b.2)
theorem roH_at {U : Uni} {bs : List ((c : U.C) × List (U.ty c))} {id k : Nat} {b : AB1 U} (h : (roH bs).at id k = some b) : k = 0 ∧ ∃ c, bs[id]? = some c ∧ b = .ro c.1 c.2 := by
  unfold Heap.at roH at h
  rw [List.getElem?_map] at h
  cases hb : bs[id]? with
  | none => rw [hb] at h; cases h
  | some c =>
    rw [hb] at h
    simp only [Option.map_some] at h
    split at h
    · rename_i e; exact ⟨e, c, rfl, by simpa using h.symm⟩
    · cases h
theorem roH_conc {U : Uni} {w : World} {bs : List ((c : U.C) × List (U.ty c))} {ps : List Place} (hl : ps.length = bs.length) (h : ∀ (i : Nat) (b : (c : U.C) × List (U.ty c)) (p : Place), bs[i]? = some b → ps[i]? = some p → ∀ π, BlkOk (U := U) π w p (.ro b.1 b.2)) : Conc (rosPlc ps) (roH bs) w where
  ok := fun id k b hb => by
    obtain ⟨rfl, c, hc, rfl⟩ := roH_at hb
    have h1 := (List.getElem?_eq_some_iff.1 hc).1
    refine ⟨ps[id], ?_, h id c _ hc (List.getElem?_eq_getElem (by omega)) _⟩
    unfold rosPlc
    rw [if_pos rfl, List.getElem?_eq_getElem (by omega)]
  sep := fun id k b id' k' b' p p' hb _ _ ho => by
    obtain ⟨rfl, c, hc, rfl⟩ := roH_at hb
    cases ho

theorem trodAll_stays {H : Type} {enc : TypeId × Value → H} {P : Program} (hl : laidOutB P = true) {W W' : World} {sp' : Nat → Bool} : ∀ {ts : List TypeId} {vs : List Value} {ds : List (DataW H)} {ps : List MemPlace},
    (ts.all fun t => P.readableRec t && decide (t < P.types.size)) = true → DataW.TrodAll enc P W 0 (fun _ => true) true ts vs ds ps → (∀ p ∈ ps, W.sameAt W' p) → (∀ p ∈ ps, sp' p.block = true) → DataW.TrodAll enc P W' 0 sp' true ts vs ds ps
  | [], [], [], _, _, h, _, _ => h
  | _ :: _, _ :: _, _ :: _, _, ht, ⟨p, q, h1, h2, e⟩, hs, hp => by
    simp only [List.all_cons, Bool.and_eq_true, decide_eq_true_eq] at ht
    exact ⟨p, q, WideElems.Trod_stays hl ht.1.1 ht.1.2 h1 (fun x hx => hs x (by rw [e]; exact List.mem_append_left _ hx)) (fun x hx => hp x (by rw [e]; exact List.mem_append_left _ hx)),
      trodAll_stays hl ht.2 h2 (fun x hx => hs x (by rw [e]; exact List.mem_append_right _ hx)) (fun x hx => hp x (by rw [e]; exact List.mem_append_right _ hx)), e⟩

theorem law_lifted {C : Checked} {f : FuncId} {fn : Func} {s : ChangeSpec} {conds : List PathCond} (own : ownKnob C.prog.godebug = none) {os : Os} (started : os.Started) {H : Type} {enc : TypeId × Value → H} (noInit : C.prog.inits.idxOf? f = none) (hfn : C.prog.funcs[f]? = some fn)
    (witness : ∃ (w : World) (tape : Tape) (i : Input), w.os = os ∧ (w.forCall tape i).Shaped C.prog ∧ i.vars = [] ∧ Input.okWide C.prog (w.forCall tape i) .any w.heap.size f i ∧ s.pre6 enc C.prog fn conds false (w.forCall tape i).memory i.args ∧ ({} : Assume).holds C.prog (lone (Frame.enter C.prog f i.args .normal) [] (w.forCall tape i)))
    (hl : laidOutB C.prog = true) (hts : (fn.params.toList.all fun t => C.prog.readableRec t && decide (t < C.prog.types.size)) = true) {rt : TypeId} (hrt : fn.resultTypes = #[rt]) (hb : C.prog.underlying rt = some .bool)
    (hvars : s.vars = []) (hspec : ∀ ds : List (DataW H), ds.length = fn.params.size → (s.fn H ds).results = [.lit (.bool true)] ∧ (s.fn H ds).args = ds ∧ (s.fn H ds).vars = [])
    (walk : ∀ (W : World) (args : Array Value) (ds : List (DataW H)) (ps : List MemPlace), DataW.TrodAll enc C.prog W 0 (fun _ => true) true fn.params.toList args.toList ds ps → (∀ (j : Nat) t v, fn.params[j]? = some t → args[j]? = some v → ∃ base, Value.okWide C.prog W .any base t v) →
      Calls C.prog f args W fun e w' => e = .returned (.bool true) ∧ Keeps (fun _ => False) W w') :
    ReturnsInHanded {} C os f .any (s.pre6 enc C.prog fn conds false) (s.post enc C.prog fn false true false false) := by
  refine returnsInHanded_of_change (C := C) own started noInit hfn witness ?_
  intro W base args ds gs before hval hW hcnd _
  have hW' := hW
  obtain ⟨p, q, hA, hV, rfl, hfz, hnd⟩ := hW
  rw [hvars] at hV
  obtain ⟨rfl, rfl⟩ := trodVars_none hV
  simp only [List.append_nil] at hW'
  have hlen : ds.length = fn.params.size := by
    have : ∀ {ts : List TypeId} {vs : List Value} {ds : List (DataW H)} {ps : List MemPlace}, DataW.TrodAll enc C.prog W 0 (fun _ => true) true ts vs ds ps → ds.length = ts.length := by
      intro ts
      induction ts with
      | nil => intro vs ds ps h; obtain ⟨_, rfl, _⟩ := trodAll_nil h; rfl
      | cons t ts ih =>
        intro vs ds ps h
        obtain ⟨_, _, _, ds', _, _, _, rfl, _, _, h2⟩ := trodAll_cons h
        simp [ih h2]
    rw [this hA]; simp
  obtain ⟨s1, s2, s3⟩ := hspec (ds ++ []) (by simpa using hlen)
  refine (walk W args ds p hA fun j t v h1 h2 => ⟨base, hval j t v h1 h2⟩).mono fun e W' ⟨he, hg⟩ => ?_
  subst he
  refine ⟨_, rfl, post_of_keeps (pa := p) (pv := []) hW' (fun b sp hd => ?_) (fun sp hsp => ?_) (fun sp _ => ?_) (by simp) hg ?_⟩
  · rw [s1, hrt]
    exact trodAll_cons_mk (shut_bool hb _) trodAll_mk0
  · rw [s2, List.append_nil]
    have hlt := hW'.lt
    exact trodAll_stays hl hts hA (fun x hx => hg.below.same (by simpa using hlt x hx)) fun x hx => hsp x hx
  · rw [s3, hvars]; rfl
  · exact ok_one hrt rfl (okWide_bool_mk hb _)

theorem agg_of_cells {v : Value} {l : List Value} (h : v.cells.toList = l) (hl : l.length ≠ 1) : v = .agg l.toArray := by
  cases v with
  | agg cs => simp only [Value.cells] at h; rw [← h]
  | _ => simp only [Value.cells] at h; rw [← h] at hl; exact absurd rfl hl
theorem flat_cells {H : Type} {enc : TypeId × Value → H} {P : Program} {w : World} {base : Nat} {spare : Nat → Bool} {held : Bool} {t : TypeId} {v : Value} {d : DataW H} {ps : List MemPlace} {ks : List FK} (n : Nat) (hfl : flat P n t = some ks) (hce : P.cellsOf t = ks.length) (h : DataW.Trod enc P w base spare held t v d ps) : FKs ks v.cells.toList := by
  obtain ⟨fuel, h⟩ := h
  exact flat_ok n hfl hce h
theorem flat_agg {H : Type} {enc : TypeId × Value → H} {P : Program} {w : World} {base : Nat} {spare : Nat → Bool} {held : Bool} {t : TypeId} {v : Value} {d : DataW H} {ps : List MemPlace} {ks : List FK} (n : Nat) (hfl : flat P n t = some ks) (hce : P.cellsOf t = ks.length) (hne : ks.length ≠ 1) (h : DataW.Trod enc P w base spare held t v d ps) : ∃ l, FKs ks l ∧ v = .agg l.toArray := by
  have h1 := flat_cells n hfl hce h
  exact ⟨_, h1, agg_of_cells rfl (by rw [h1.length]; exact hne)⟩
end AE

namespace AE.Soil
open Go AE Go.Proofs Go.ChangeShapes Go.WideShapes Go.RowKit

theorem laidOut : laidOutB Tryz.prog = true := by kernel_rfl
theorem flatP : flat Tryz.prog 30 151 = some [.int .i64, .int .i64, .int .i64, .int .i64, .int .i64, .int .i64, .int .i64, .int .i64, .int .i64] := by kernel_rfl
theorem decP (cs : List Value) (h : FKs [.int .i64, .int .i64, .int .i64, .int .i64, .int .i64, .int .i64, .int .i64, .int .i64, .int .i64] cs) : ∃ x : PitT, CC.enc .pit x = cs.map .v := by
  obtain ⟨_, _, rfl, ⟨a, rfl, _⟩, _, _, rfl, ⟨b, rfl, _⟩, _, _, rfl, ⟨c, rfl, _⟩, _, _, rfl, ⟨d, rfl, _⟩, _, _, rfl, ⟨e, rfl, _⟩, _, _, rfl, ⟨f, rfl, _⟩, _, _, rfl, ⟨g, rfl, _⟩, _, _, rfl, ⟨i, rfl, _⟩, _, _, rfl, ⟨j, rfl, _⟩, h⟩ := h
  cases h
  exact ⟨(a, (b, c), (d, e), (f, g), (i, j)), rfl⟩
def bigG (g : GroundT) : Prop := g.pits.length < 9223372036854775808

section
variable {H : Type} {enc : TypeId × Value → H} {w : World} {d : DataW H} {ps : List MemPlace} {v : Value}
end
end AE.Soil

namespace AE.Team
open Go AE Go.Proofs AE.Soil Go.ChangeShapes Go.WideShapes Go.RowKit

theorem flatS : flat Tryz.prog 30 92 = some [.int .i64, .int .i64, .int .i64] := by kernel_rfl
theorem flatT : flat Tryz.prog 30 25 = some [.int .i64, .int .i64, .int .i64, .int .i64, .int .i64, .int .i64, .int .i64] := by kernel_rfl
theorem decS (cs : List Value) (h : FKs [.int .i64, .int .i64, .int .i64] cs) : ∃ x : StepT, CC.enc .tstep x = cs.map .v := by
  obtain ⟨_, _, rfl, ⟨a, rfl, _⟩, _, _, rfl, ⟨b, rfl, _⟩, _, _, rfl, ⟨c, rfl, _⟩, h⟩ := h
  cases h
  exact ⟨(a, b, c), rfl⟩
section
variable {H : Type} {enc : TypeId × Value → H} {w : World} {d : DataW H} {ps : List MemPlace} {v : Value}
theorem open_teamA (h : DataW.Trod enc Tryz.prog w 0 (fun _ => true) true 25 v d ps) : ∃ x : TeamT, ∀ π : Plc, Rep π (vTeam x) v := by
  obtain ⟨l, hk, rfl⟩ := flat_agg 30 flatT (by kernel_rfl) (by decide) h
  obtain ⟨_, _, rfl, ⟨a, rfl, _⟩, _, _, rfl, ⟨b, rfl, _⟩, _, _, rfl, ⟨c, rfl, _⟩, _, _, rfl, ⟨d, rfl, _⟩, _, _, rfl, ⟨e, rfl, _⟩, _, _, rfl, ⟨f, rfl, _⟩, _, _, rfl, ⟨g, rfl, _⟩, hz⟩ := hk
  cases hz
  refine ⟨((a, b), (c, d), (e, f), g), fun π => ?_⟩
  simp only [vTeam, Rep]
  exact ⟨_, rfl, RepL.cons (by simp [Rep]) (RepL.cons (by simp [Rep]) (RepL.cons (by simp [Rep]) (RepL.cons (by simp [Rep]) (RepL.cons (by simp [Rep]) (RepL.cons (by simp [Rep]) (RepL.cons (by simp [Rep]) (RepL.nil π)))))))⟩
theorem ground_cells {m : Nat} {l : List Value} {y : DataW H × List MemPlace} (h : DataW.trod enc Tryz.prog w 0 (fun _ => true) true m 28 l = some y) :
    ∃ (x : GroundT) (p : Place) (s : Value), bigG x ∧ (∀ π, BlkOk π w p (.ro (U := UU) .pit x.pits)) ∧ l = [.int .i64 x.long, .int .i64 x.rise, .int .i64 x.change, s] ∧ ∀ (π : Plc) (id : Nat), π id 0 = some p → Rep π (.sl id 0 0 x.pits.length) s := by
  obtain ⟨xs, m, _, _, hl, hlen, hf⟩ := DataW.trod_struct Tryz.underlying28 h
  have hc : Tryz.prog.cellsOf 28 = 4 := by kernel_rfl
  have c3 : Tryz.prog.cellsOf 3 = 1 := by kernel_rfl
  have c22 : Tryz.prog.cellsOf 26 = 1 := by kernel_rfl
  have fl3 : flat Tryz.prog 30 3 = some [.int .i64] := by kernel_rfl
  rw [hc] at hl
  have hx : ∀ i, i < 4 → ∃ y, xs[i]? = some y := fun i hi => ⟨_, List.getElem?_eq_getElem (by have : xs.length = 4 := hlen; omega)⟩
  match l, hl with
  | [a, b, c, e], _ =>
  obtain ⟨y0, e0⟩ := hx 0 (by omega)
  obtain ⟨y1, e1⟩ := hx 1 (by omega)
  obtain ⟨y2, e2⟩ := hx 2 (by omega)
  obtain ⟨y3, e3⟩ := hx 3 (by omega)
  have f0 : DataW.trod enc Tryz.prog w 0 (fun _ => true) true m 3 (([a, b, c, e].drop 0).take (Tryz.prog.cellsOf 3)) = xs[0]? := hf 0 _ rfl
  have f1 : DataW.trod enc Tryz.prog w 0 (fun _ => true) true m 3 (([a, b, c, e].drop 1).take (Tryz.prog.cellsOf 3)) = xs[1]? := hf 1 _ rfl
  have f2 : DataW.trod enc Tryz.prog w 0 (fun _ => true) true m 3 (([a, b, c, e].drop 2).take (Tryz.prog.cellsOf 3)) = xs[2]? := hf 2 _ rfl
  have f3 : DataW.trod enc Tryz.prog w 0 (fun _ => true) true m 26 (([a, b, c, e].drop 3).take (Tryz.prog.cellsOf 26)) = xs[3]? := hf 3 _ rfl
  rw [e0, c3] at f0
  rw [e1, c3] at f1
  rw [e2, c3] at f2
  rw [e3, c22] at f3
  obtain ⟨_, _, h0, ⟨n0, rfl, w0⟩, r0⟩ := flat_ok 30 fl3 c3 f0
  obtain ⟨_, _, h1, ⟨n1, rfl, w1⟩, r1⟩ := flat_ok 30 fl3 c3 f1
  obtain ⟨_, _, h2, ⟨n2, rfl, w2⟩, r2⟩ := flat_ok 30 fl3 c3 f2
  have h0' : a = .int .i64 n0 := (List.cons.inj h0).1
  have h1' : b = .int .i64 n1 := (List.cons.inj h1).1
  have h2' : c = .int .i64 n2 := (List.cons.inj h2).1
  obtain ⟨cs, p, hcs, hp, hpr⟩ := row_of_trod (U := UU) CC.pit Tryz.underlying26 flatP (by kernel_rfl) rfl (by decide) AE.Soil.decP f3
  subst h0' h1' h2'
  exact ⟨⟨n0, n1, n2, cs⟩, p, e, hcs, hp, rfl, fun π id h3 => hpr π id 0 h3⟩
theorem open_plotA (h : DataW.Trod enc Tryz.prog w 0 (fun _ => true) true 31 v d ps) :
    ∃ (x : PlotT) (p q : Place), bigP x ∧ (∀ π, BlkOk π w p (.ro (U := UU) .pit x.g.pits)) ∧ (∀ π, BlkOk π w q (.ro (U := UU) .tstep x.steps)) ∧ ∀ (π : Plc) (a b : Nat), π a 0 = some p → π b 0 = some q → Rep π (vPlot x a b) v := by
  obtain ⟨fuel, h⟩ := h
  obtain ⟨xs, m, _, _, hl, hlen, hf⟩ := DataW.trod_struct Tryz.underlying31 h
  have hc : Tryz.prog.cellsOf 31 = 5 := by kernel_rfl
  have c4 : Tryz.prog.cellsOf 28 = 4 := by kernel_rfl
  have c1 : Tryz.prog.cellsOf 29 = 1 := by kernel_rfl
  rw [hc] at hl
  have hv := agg_of_cells (v := v) rfl (by omega)
  obtain ⟨l, hl2⟩ : ∃ l, v.cells.toList = l := ⟨_, rfl⟩
  rw [hl2] at hl hv hf
  subst hv
  have hx : ∀ i, i < 2 → ∃ y, xs[i]? = some y := fun i hi => ⟨_, List.getElem?_eq_getElem (by have : xs.length = 2 := hlen; omega)⟩
  match l, hl with
  | [a, b, c, e, s], _ =>
  obtain ⟨y0, e0⟩ := hx 0 (by omega)
  obtain ⟨y1, e1⟩ := hx 1 (by omega)
  have f0 : DataW.trod enc Tryz.prog w 0 (fun _ => true) true m 28 (([a, b, c, e, s].drop 0).take (Tryz.prog.cellsOf 28)) = xs[0]? := hf 0 _ rfl
  have f1 : DataW.trod enc Tryz.prog w 0 (fun _ => true) true m 29 (([a, b, c, e, s].drop 4).take (Tryz.prog.cellsOf 29)) = xs[1]? := hf 1 _ rfl
  rw [e0, c4] at f0
  rw [e1, c1] at f1
  obtain ⟨g, p, sv, hg, hp, hcells, hr⟩ := ground_cells f0
  obtain ⟨cs, q, hcs, hq, hqr⟩ := row_of_trod (U := UU) CC.tstep Tryz.underlying29 flatS (by kernel_rfl) rfl (by decide) decS f1
  have hcells' : [a, b, c, e] = [.int .i64 g.long, .int .i64 g.rise, .int .i64 g.change, sv] := hcells
  simp only [List.cons.injEq, and_true] at hcells'
  obtain ⟨rfl, rfl, rfl, rfl⟩ := hcells'
  refine ⟨⟨g, cs⟩, p, q, ⟨hg, hcs⟩, hp, hq, fun π i j h1 h2 => ?_⟩
  simp only [vPlot, cPlot, Rep]
  exact ⟨_, rfl, RepL.cons (by simp [Rep]) (RepL.cons (by simp [Rep]) (RepL.cons (by simp [Rep]) (RepL.cons (hr π i h1) (RepL.cons (hqr π j 0 h2) (RepL.nil π)))))⟩
end
theorem walk_plot {f : FuncId} {W : World} {args : Array Value} {x : PlotT} {p q : Place} {al : List AV} (h : FunOk Tryz.prog f al (hPlot x) (.val ⟨.b true, [], [], []⟩)) (hp : ∀ π, BlkOk π W p (.ro (U := UU) .pit x.g.pits)) (hq : ∀ π, BlkOk π W q (.ro (U := UU) .tstep x.steps))
    (hr : RepL (rosPlc [p, q]) al args.toList) : Calls Tryz.prog f args W fun e w' => e = .returned (.bool true) ∧ Keeps (fun _ => False) W w' := by
  have hc : Conc (rosPlc [p, q]) (hPlot x) W := roH_conc (U := UU) (bs := [⟨CC.pit, x.g.pits⟩, ⟨CC.tstep, x.steps⟩]) rfl fun i b p' hb hp' π => by
    match i with
    | 0 => cases hb; cases hp'; exact hp π
    | 1 => cases hb; cases hp'; exact hq π
    | i + 2 => cases hb
  have hF := h (rosPlc [p, q]) W args.toList (rosPlc_fresh [p, q]) hc hr
  refine hF.mono fun e w' hh => ?_
  obtain ⟨v, πn, rfl, hpo⟩ := hh
  have hb := rep_v hpo.rep
  subst hb
  refine ⟨rfl, hpo.keeps.weaken fun n _ hn => ?_⟩
  obtain ⟨id, k, p, b0, hu, _⟩ := hn
  rcases hu with ⟨b, hb⟩ | hb <;> cases hb
end AE.Team
