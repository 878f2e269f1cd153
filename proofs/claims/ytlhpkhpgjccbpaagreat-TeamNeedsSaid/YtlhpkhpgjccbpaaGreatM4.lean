/- An own symbolic executor for the model's code, and what the functions beneath the law compute, joined out of: SoJ, TmA, SoK, SoL, SoM, SoN, SoO, SoP, SoQ, SoR, TmB, TmC, TmD, TmE, TmF, TmG, TmH, TmI, TmJ, TmK, TmN, TmO, TmP. No condition. -/
import Derived.Test.YtlhpkhpgjccbpaaGreatM3

set_option linter.unusedSimpArgs false
set_option linter.unusedVariables false
set_option maxHeartbeats 0
set_option maxRecDepth 100000
namespace AE.Soil
open Go AE Go.Proofs

theorem open_ok {g : GroundT} {a : Ask} {l : List Int} (h : (openErrM g a l == 0) = true) : groundM g = true ∧ l.all (askM a g.long) = true ∧ lookM g = true := by
  cases hg : groundM g with
  | false => rw [open_arg hg] at h; exact absurd h (by decide)
  | true =>
    cases ha : l.all (askM a g.long) with
    | false =>
      have : openErrM g a l = 2 := by unfold openErrM; rw [hg, ha]; rfl
      rw [this] at h; exact absurd h (by decide)
    | true =>
      rw [open_look hg ha] at h
      cases hl : lookM g with
      | false => rw [hl] at h; exact absurd h (by decide)
      | true => exact ⟨rfl, rfl, rfl⟩
theorem place_nat {g : GroundT} {n : Int} (h : (openErrM g .place [n] == 0) = true) : ∃ k : Nat, n = (k : Int) ∧ k < nM g := by
  obtain ⟨hg, ha, _⟩ := open_ok h
  have hk := ground_ok hg
  obtain ⟨h0, h1, h2⟩ := n_ok hk
  have : inM n 0 g.long = true := by simpa [askM] using ha
  have := inM_iff.1 this
  obtain ⟨k, rfl⟩ := Int.eq_ofNat_of_zero_le this.1
  exact ⟨k, rfl, by omega⟩
def hardOM (g : GroundT) (at_ : Int) : Span × Int := if openErrM g .place [at_] == 0 then (hardM g at_, 0) else ((0, 0), openErrM g .place [at_])
def Tq : Tab UU := [(116, isPlaceS.con), (115, openAS.con)]
theorem Tq_ok : Tq.Sound Tryz.prog := .cons isPlace_sound (.cons openA_sound .nil)
def hardOS : FSpec UU where
  X := GroundT × Int
  pick := fun args H => match args with
    | [a, b] => match avGround H a, avInt b with
      | some a, some b => some (a, b)
      | _, _ => none
    | _ => none
  args := fun x => [vGround x.1 0, .i x.2]
  H := fun x => [.one (.ro .pit x.1.pits)]
  R := fun x => .val ⟨.tup [vSpan (hardOM x.1 x.2).1, .i (hardOM x.1 x.2).2], [], [], []⟩
  pre := fun x => x.1.pits.length < 1000000
theorem hardO_ok : ∀ x, hardOS.pre x → FunOk Tryz.prog 106 (hardOS.args x) (hardOS.H x) (hardOS.R x) := by
  rintro ⟨⟨long, rise, change, ps⟩, at_⟩ hx
  refine fun_ofT (T := Tq) (L := fun _ => none) (hs := fun _ => []) (sp := fun _ => none) hmix Tq_ok (tdAt_ok told_ok) (it := fun _ => none) (fun _ _ h => by cases h) Tryz.func106 (by kernel_rfl) (by kernel_rfl) ?_
  refine Eq.mp (α :=
      let A3 := ps = ps ∧ True; let A4 := Fn.func ((122 : FuncId)); let A1 := Value.int IntKind.i64 (0 : Int); let A5 := True ∧ A3; let A6 := nat_lit 0 + Int.toNat at_; let A7 := Prod.fst (hardOM (GroundT.mk long rise change ps) at_); let A2 : List Int := [at_]; let A8 : List Span := hardsM (GroundT.mk long rise change ps) (nM (GroundT.mk long rise change ps)); let A9 := Value.int IntKind.i64 (Prod.snd (hardOM (GroundT.mk long rise change ps) at_)); let Aa := Value.int IntKind.i64 (Prod.fst A7); let Ab := Value.int IntKind.i64 (Prod.snd A7); let Ac := List.length A8; let Ad := openErrM (GroundT.mk long rise change ps) Ask.place A2; let Ae := (((5 : Nat) = (5 : Nat)) ∧ nat_lit 0 = nat_lit 0 ∧ nat_lit 0 = nat_lit 0 ∧ nat_lit 1 = nat_lit 1) ∧ True; let Af := (A4 = A4) ∧ True ∧ (nat_lit 0 = nat_lit 0 ∧ nat_lit 0 = nat_lit 0 ∧ nat_lit 0 = nat_lit 0) ∧ True; let Ag := Ad == (0 : Int); let Ah := List.getD A8 A6 (((0 : Int), (0 : Int))); let A0 := (Value.int IntKind.i64 long = Value.int IntKind.i64 long) ∧ (Value.int IntKind.i64 rise = Value.int IntKind.i64 rise) ∧ (Value.int IntKind.i64 change = Value.int IntKind.i64 change) ∧ (nat_lit 0 = nat_lit 0 ∧ nat_lit 0 = nat_lit 0 ∧ List.length ps = List.length ps) ∧ True; let Ai := ps = ps ∧ A0 ∧ (A2 = A2) ∧ True; True ∧ (A0 ∧ True) ∧ A3 ∧ (nat_lit 1 = nat_lit 1 ∧ AV.v (Value.int IntKind.i64 at_) = AV.v (Value.int IntKind.i64 at_) ∧ True) ∧ (List.length ps < nat_lit 1000000 ∧ nat_lit 1 < nat_lit 1000) ∧ (Ag = true → (A0 ∧ Af ∧ Ae) ∧ Ai ∧ ((0 : Int) ≤ at_ ∧ at_ < (↑Ac : Int)) ∧ A6 < Ac ∧ (true = true → True ∧ True ∧ (((Value.int IntKind.i64 (Prod.fst Ah) = Aa ∧ Value.int IntKind.i64 (Prod.snd Ah) = Ab ∧ True) ∧ A1 = A9 ∧ True) ∧ True) ∧ A5) ∧ (true = false → False)) ∧ (Ag = false → (A0 ∧ Af ∧ Ae) ∧ Ai ∧ True ∧ True ∧ (((A1 = Aa ∧ A1 = Ab ∧ True) ∧ Value.int IntKind.i64 Ad = A9 ∧ True) ∧ True) ∧ A5))
    (by kernel_rfl) ?_
  simp only [eq_self, AE.goS]
  refine ⟨⟨hx, by decide⟩, fun h => ?_, fun h => ?_⟩
  · obtain ⟨k, rfl, hk⟩ := place_nat h
    have hl := hards_len ⟨long, rise, change, ps⟩ (nM ⟨long, rise, change, ps⟩)
    have e : hardOM ⟨long, rise, change, ps⟩ (k : Int) = (hardM ⟨long, rise, change, ps⟩ (k : Int), 0) := by unfold hardOM; rw [h]; rfl
    rw [Int.toNat_natCast, hards_get hk, e]
    exact ⟨⟨Int.natCast_nonneg _, by omega⟩, by omega, fun _ => ⟨⟨rfl, rfl⟩, rfl⟩, fun h => absurd h (by decide)⟩
  · have e : hardOM ⟨long, rise, change, ps⟩ at_ = ((0, 0), openErrM ⟨long, rise, change, ps⟩ .place [at_]) := by unfold hardOM; rw [h]; rfl
    rw [e]; exact ⟨⟨rfl, rfl⟩, rfl⟩

theorem hardO_sound : Sound Tryz.prog 106 hardOS.con := FSpec.sound _ (enter_of Tryz.func106 (by kernel_rfl) (by kernel_rfl)) hardO_ok

def partsOM (g : GroundT) (at_ : Int) : Mix3 × Int := if openErrM g .place [at_] == 0 then ((boxesM g).getD at_.toNat m0, 0) else (m0, openErrM g .place [at_])
end AE.Soil

namespace AE.Team
open Go AE Go.Proofs AE.Soil

def avTeam : AV → Option TeamT
  | .agg [a, b, c, d, e, f, g] => match avInt a, avInt b, avInt c, avInt d, avInt e, avInt f, avInt g with
    | some a, some b, some c, some d, some e, some f, some g => some ((a, b), (c, d), (e, f), g)
    | _, _, _, _, _, _, _ => none
  | _ => none
def vTeam (t : TeamT) : AV := .agg [.i t.1.1, .i t.1.2, .i t.2.1.1, .i t.2.1.2, .i t.2.2.1.1, .i t.2.2.1.2, .i t.2.2.2]
def teamM (t : TeamT) : Bool := inM t.2.2.2 0 10000 && spanM t.1 t.2.2.2 && spanM t.2.1 100 && spanM t.2.2.1 1000

theorem twithin_ok : ∀ x, withinS.pre x → FunOk Tryz.prog 48 (withinS.args x) (withinS.H x) (withinS.R x) := by
  rintro ⟨n, lo, hi⟩ _
  refine fun_of (T := []) (L := fun _ => none) (hs := fun _ => []) hmix .nil Tryz.func48 (by kernel_rfl) (by kernel_rfl) ?_
  refine Eq.mp (α :=
      let A0 := decide (lo ≤ n); (A0 = true → True ∧ (Value.bool (decide (n ≤ hi)) = Value.bool (inM n lo hi) ∧ True) ∧ True ∧ True) ∧ (A0 = false → True ∧ (Value.bool (inM n lo hi) = Value.bool false ∧ True) ∧ True ∧ True))
    (by kernel_rfl) ?_
  simp only [eq_self, AE.goS]
  simp only [inM]
  simp +contextual
  omega

theorem twithin_sound : Sound Tryz.prog 48 withinS.con := FSpec.sound _ (enter_of Tryz.func48 (by kernel_rfl) (by kernel_rfl)) twithin_ok
theorem tisSpan_ok : ∀ x, isSpanS.pre x → FunOk Tryz.prog 105 (isSpanS.args x) (isSpanS.H x) (isSpanS.R x) := by
  rintro ⟨⟨lo, hi⟩, n⟩ _
  refine fun_of (T := []) (L := fun _ => none) (hs := fun _ => []) hmix .nil Tryz.func105 (by kernel_rfl) (by kernel_rfl) ?_
  refine Eq.mp (α :=
      let A0 := Value.bool (spanM (lo, hi) n); let A1 := (A0 = Value.bool false ∧ True) ∧ True ∧ True; let A2 := decide ((0 : Int) ≤ lo); let A3 := decide (lo ≤ hi); (A2 = true → (A3 = true → True ∧ (Value.bool (decide (hi ≤ n)) = A0 ∧ True) ∧ True ∧ True) ∧ (A3 = false → True ∧ A1)) ∧ (A2 = false → True ∧ A1))
    (by kernel_rfl) ?_
  simp only [eq_self, AE.goS]
  simp only [spanM]
  simp +contextual
  omega

theorem tisSpan_sound : Sound Tryz.prog 105 isSpanS.con := FSpec.sound _ (enter_of Tryz.func105 (by kernel_rfl) (by kernel_rfl)) tisSpan_ok
def misV (e : Int) : AV := .ifc 130 (.agg [.i e])
def needS : FSpec2 UU where
  X := Bool × Int
  pick := fun args _ => match args with
    | [a, b] => match avBool a, avInt b with
      | some a, some b => some (a, b)
      | _, _ => none
    | _ => none
  args := fun x => [.v (.bool x.1), .i x.2]
  H := fun _ => []
  c := fun x => x.1
  R := fun _ => .val ⟨.tup [], [], [], []⟩
  R' := fun x => .panic (misV x.2)
theorem need_ok1 : ∀ x, needS.pre x → needS.c x = true → FunOk Tryz.prog 53 (needS.args x) (needS.H x) (needS.R x) := by
  rintro ⟨b, e⟩ _ hb
  refine fun_of (T := []) (L := fun _ => none) (hs := fun _ => []) hmix .nil Tryz.func53 (by kernel_rfl) (by kernel_rfl) ?_
  refine Eq.mp (α :=
      ((!b) = true → False) ∧ ((!b) = false → True ∧ (True ∧ True) ∧ True ∧ True))
    (by kernel_rfl) ?_
  simp only [eq_self, AE.goS]
  simp only [needS] at hb
  simp [hb]

theorem need_ok2 : ∀ x, needS.pre x → needS.c x = false → FunOk Tryz.prog 53 (needS.args x) (needS.H x) (needS.R' x) := by
  rintro ⟨b, e⟩ _ hb
  refine fun_of (T := []) (L := fun _ => none) (hs := fun _ => []) hmix .nil Tryz.func53 (by kernel_rfl) (by kernel_rfl) ?_
  refine Eq.mp (α :=
      ((!b) = true → True ∧ nat_lit 130 = (130 : TypeId) ∧ Value.int IntKind.i64 e = Value.int IntKind.i64 e ∧ True) ∧ ((!b) = false → False))
    (by kernel_rfl) ?_
  simp only [eq_self, AE.goS]
  simp only [needS] at hb
  simp [hb]

theorem need_sound : Sound Tryz.prog 53 needS.con := FSpec2.sound _ (enter_of Tryz.func53 (by kernel_rfl) (by kernel_rfl)) fun x h => ⟨need_ok1 x h, need_ok2 x h⟩
def caughtS : FSpec UU where
  X := Option Int × Int
  pick := fun args H => match args with
    | [a, .ptr id 0 0 0] => match blkAt H id 0 with
      | some (.cells [o] _) => match avInt o with
        | some o => match a with
          | .v .nilIface => some (none, o)
          | .ifc _ (.agg [e]) => match avInt e with
            | some e => some (some e, o)
            | none => none
          | _ => none
        | none => none
      | _ => none
    | _ => none
  args := fun x => match x.1 with
    | none => [.v .nilIface, .ptr 0 0 0 0]
    | some e => [misV e, .ptr 0 0 0 0]
  H := fun x => [.one (.cells [.i x.2] 35)]
  R := fun x => match x.1 with
    | none => .val ⟨.tup [], [(0, 0, .cells [.i x.2] 35)], [], []⟩
    | some e => .val ⟨.tup [], [(0, 0, .cells [.i e] 35)], [], []⟩
theorem caught_ok1 (o : Int) : FunOk Tryz.prog 40 (caughtS.args (none, o)) (caughtS.H (none, o)) (caughtS.R (none, o)) := by
  refine fun_of (T := []) (L := fun _ => none) (hs := fun _ => []) hmix .nil Tryz.func40 (by kernel_rfl) (by kernel_rfl) ?_
  refine Eq.mp (α :=
      (true = true → True ∧ (True ∧ True) ∧ True ∧ (Value.int IntKind.i64 o = Value.int IntKind.i64 o ∧ True) ∧ True) ∧ (true = false → False))
    (by kernel_rfl) ?_
  simp

theorem caught_ok2 (e o : Int) : FunOk Tryz.prog 40 (caughtS.args (some e, o)) (caughtS.H (some e, o)) (caughtS.R (some e, o)) := by
  refine fun_of (T := []) (L := fun _ => none) (hs := fun _ => []) hmix .nil Tryz.func40 (by kernel_rfl) (by kernel_rfl) ?_
  refine Eq.mp (α :=
      True ∧ (True ∧ True) ∧ True ∧ (Value.int IntKind.i64 e = Value.int IntKind.i64 e ∧ True) ∧ True)
    (by kernel_rfl) ?_
  simp

theorem caught_sound : Sound Tryz.prog 40 caughtS.con := FSpec.sound _ (enter_of Tryz.func40 (by kernel_rfl) (by kernel_rfl)) fun x _ => match x with
  | (none, o) => caught_ok1 o
  | (some e, o) => caught_ok2 e o
def isTeamS : FSpec UU where
  X := TeamT
  pick := fun args _ => match args with
    | [a] => avTeam a
    | _ => none
  args := fun (x : TeamT) => [vTeam x]
  H := fun _ => []
  R := fun (x : TeamT) => .val ⟨.b (teamM x), [], [], []⟩
def TisTeam : Tab UU := [(48, withinS.con), (105, isSpanS.con)]
theorem TisTeam_ok : TisTeam.Sound Tryz.prog := .cons twithin_sound (.cons tisSpan_sound .nil)
theorem isTeam_ok : ∀ x, isTeamS.pre x → FunOk Tryz.prog 84 (isTeamS.args x) (isTeamS.H x) (isTeamS.R x) := by
  rintro ⟨⟨s0, s1⟩, ⟨l0, l1⟩, ⟨g0, g1⟩, full⟩ _
  refine fun_of (T := TisTeam) (L := fun _ => none) (hs := fun _ => []) hmix TisTeam_ok Tryz.func84 (by kernel_rfl) (by kernel_rfl) ?_
  refine Eq.mp (α :=
      let A1 := (10000 : Int); let A2 := Value.int IntKind.i64 (0 : Int); let A3 := Value.int IntKind.i64 (100 : Int); let A4 := Value.int IntKind.i64 (1000 : Int); let A5 := Value.int IntKind.i64 full = Value.int IntKind.i64 full; let A6 := Value.int IntKind.i64 A1; let A7 := spanM (l0, l1) (100 : Int); let A8 := inM full (0 : Int) A1; let A9 := Value.bool (teamM (((s0, s1), (((l0, l1), (((g0, g1), full))))))); let A0 := (A9 = Value.bool false ∧ True) ∧ True ∧ True; True ∧ (A5 ∧ A2 = A2 ∧ A6 = A6 ∧ True) ∧ True ∧ (A8 = true → True ∧ ((Value.int IntKind.i64 s0 = Value.int IntKind.i64 s0 ∧ Value.int IntKind.i64 s1 = Value.int IntKind.i64 s1 ∧ True) ∧ A5 ∧ True) ∧ True ∧ (spanM (s0, s1) full = true → True ∧ ((Value.int IntKind.i64 l0 = Value.int IntKind.i64 l0 ∧ Value.int IntKind.i64 l1 = Value.int IntKind.i64 l1 ∧ True) ∧ A3 = A3 ∧ True) ∧ True ∧ (A7 = true → True ∧ ((Value.int IntKind.i64 g0 = Value.int IntKind.i64 g0 ∧ Value.int IntKind.i64 g1 = Value.int IntKind.i64 g1 ∧ True) ∧ A4 = A4 ∧ True) ∧ True ∧ True ∧ (Value.bool (spanM (g0, g1) (1000 : Int)) = A9 ∧ True) ∧ True ∧ True) ∧ (A7 = false → True ∧ A0)) ∧ (spanM (s0, s1) full = false → True ∧ A0)) ∧ (A8 = false → True ∧ A0))
    (by kernel_rfl) ?_
  simp only [eq_self, AE.goS]
  unfold teamM
  dsimp only
  generalize inM full 0 10000 = q1
  generalize spanM (s0, s1) full = q2
  generalize spanM (l0, l1) 100 = q3
  generalize spanM (g0, g1) 1000 = q4
  revert q1 q2 q3 q4
  decide

theorem isTeam_sound : Sound Tryz.prog 84 isTeamS.con := FSpec.sound _ (enter_of Tryz.func84 (by kernel_rfl) (by kernel_rfl)) isTeam_ok
structure PlotT where
  g : GroundT
  steps : List StepT
def okStepM (long : Int) (s : StepT) : Bool := inM s.2.2 0 600 && (!(s.2.2 == 0) || (inM s.1 0 s.2.1 && inM s.2.1 0 long))
def cPlot (p : PlotT) (a b : Nat) : List AV := [.i p.g.long, .i p.g.rise, .i p.g.change, .sl a 0 0 p.g.pits.length, .sl b 0 0 p.steps.length]
def vPlot (p : PlotT) (a b : Nat) : AV := .agg (cPlot p a b)
def badS : FSpec UU where
  X := StepT × Int
  pick := fun args H => match args with
    | [.agg [a, b, c], .ptr id k 0 0] => match avInt a, avInt b, avInt c, blkAt H id k with
      | some a, some b, some c, some (.cells (l :: _) _) => match avInt l with
        | some l => some ((a, b, c), l)
        | none => none
      | some a, some b, some c, some (.rc (l :: _) _) => match avInt l with
        | some l => some ((a, b, c), l)
        | none => none
      | _, _, _, _ => none
    | _ => none
  args := fun x => [.agg [.i x.1.1, .i x.1.2.1, .i x.1.2.2], .ptr 0 0 0 0]
  H := fun x => [.one (.rc [.i x.2, .junk, .junk, .junk, .junk] 31)]
  R := fun x => .val ⟨.b (!okStepM x.2 x.1), [], [], []⟩
def Tbad : Tab UU := [(48, withinS.con)]
theorem Tbad_ok : Tbad.Sound Tryz.prog := .cons twithin_sound .nil
theorem bad_ok : ∀ x, badS.pre x → FunOk Tryz.prog 107 (badS.args x) (badS.H x) (badS.R x) := by
  rintro ⟨⟨a, b, c⟩, long⟩ _
  refine fun_of (T := Tbad) (L := fun _ => none) (hs := fun _ => []) hmix Tbad_ok Tryz.func107 (by kernel_rfl) (by kernel_rfl) ?_
  refine Eq.mp (α :=
      let A4 := inM a (0 : Int) b; let A5 := Value.int IntKind.i64 (0 : Int); let A6 := Value.int IntKind.i64 (600 : Int); let A7 := Value.int IntKind.i64 c = Value.int IntKind.i64 c; let A8 := Value.int IntKind.i64 long = Value.int IntKind.i64 long; let A9 := Value.int IntKind.i64 b = Value.int IntKind.i64 b; let Aa := !(inM c (0 : Int) (600 : Int)); let A0 := Value.bool (!(okStepM long ((a, b, c)))); let Ab := c == (0 : Int); let Ac := Aa = true; let Ad := Ab = true; let Ae := Aa = false; let Af := Ab = false; let A1 := A5 = A5; let A2 := True ∧ (A8 ∧ True ∧ True ∧ True ∧ True ∧ True) ∧ True; let Ag := A1 ∧ (A6 = A6) ∧ True; let A3 := True ∧ ((A0 = Value.bool true) ∧ True) ∧ A2; let Ah := True ∧ ((A0 = Value.bool false) ∧ True) ∧ A2; True ∧ (Value.int IntKind.i64 a = Value.int IntKind.i64 a ∧ A1 ∧ A9 ∧ True) ∧ True ∧ (A4 = true → True ∧ (A9 ∧ A1 ∧ A8 ∧ True) ∧ True ∧ True ∧ (A7 ∧ Ag) ∧ True ∧ (Ac → A3) ∧ (Ae → (Ad → True ∧ ((Value.bool !inM b (0 : Int) long) = A0 ∧ True) ∧ A2) ∧ (Af → Ah))) ∧ (A4 = false → True ∧ (A7 ∧ Ag) ∧ True ∧ (Ac → A3) ∧ (Ae → (Ad → A3) ∧ (Af → Ah))))
    (by kernel_rfl) ?_
  simp only [eq_self, AE.goS]
  unfold okStepM
  dsimp only
  generalize inM a 0 b = q1
  generalize inM c 0 600 = q2
  generalize (c == 0) = q3
  generalize inM b 0 long = q4
  revert q1 q2 q3 q4
  decide

theorem bad_sound : Sound Tryz.prog 107 badS.con := FSpec.sound _ (enter_of Tryz.func107 (by kernel_rfl) (by kernel_rfl)) bad_ok
end AE.Team

namespace AE.Soil
open Go AE Go.Proofs

def fromM (n : Int) : Span := (n, 20)
def belowM (n : Int) : Span := (0, W (n - 1))
def of0M (a : Mix3) (s : Span) : Mix3 := (a.1, a.2.1, s)
def of1M (a : Mix3) (s : Span) : Mix3 := (s, a.2.1, a.2.2)
def of2M (a : Mix3) (s : Span) : Mix3 := (a.1, s, a.2.2)
end AE.Soil

namespace AE.Soil
open Go AE Go.Proofs

inductive Pt where
  | p0 | p1 | p2
def ptM (k : Pt) (a : Mix3) (s : Span) : Mix3 := match k with
  | .p0 => of0M a s
  | .p1 => of1M a s
  | .p2 => of2M a s
def avCell (H : Heap UU) : AV → Option AV
  | .ptr i 0 0 0 => match blkAt H i 0 with
    | some (.cells [a] _) => some a
    | some (.rc [a] _) => some a
    | _ => none
  | _ => none
structure KQ where
  m : Mix3
  k : Pt
  a : Mix3
  n : Int
structure KA where
  c : Int
  n : Int
  k : Pt
  a : Mix3
end AE.Soil

namespace AE.Soil
open Go AE Go.Proofs

def orM (a b : Int) : Int := W (BitVec.ofInt 64 a ||| BitVec.ofInt 64 b).toNat
def kindM : Nat → Int × Int × Pt
  | 0 => (3, 8, .p0)
  | 1 => (1, 14, .p1)
  | _ => (2, 12, .p2)
def hasM (m : Mix3) (j : Nat) : Mix3 := andM m (ptM (kindM j).2.2 anyM (fromM (kindM j).2.1))
def hasntM (m : Mix3) (j : Nat) : Mix3 := andM m (ptM (kindM j).2.2 anyM (belowM (kindM j).2.1))
def leftM (m : Mix3) : Nat → Mix3
  | 0 => m
  | j + 1 => hasntM (leftM m j) j
def setM (m : Mix3) : Nat → Int
  | 0 => 0
  | j + 1 => if noneM (hasM (leftM m j) j) then setM m j else orM (setM m j) (W (1 * 2 ^ (kindM j).1.toNat))
def classesM (m : Mix3) : Int := if noneM (leftM m 1) then setM m 1 else if noneM (leftM m 2) then setM m 2 else if noneM (leftM m 3) then setM m 3 else orM (setM m 3) 1
section
end
end AE.Soil

namespace AE.Soil
open Go AE Go.Proofs

def classOM (g : GroundT) (at_ : Int) : Int × Int := if openErrM g .place [at_] == 0 then (classesM ((boxesM g).getD at_.toNat m0), 0) else (0, openErrM g .place [at_])
end AE.Soil

namespace AE.Soil
open Go AE Go.Proofs

end AE.Soil

namespace AE.Soil
open Go AE Go.Proofs

structure WQ where
  n : Int
  long : Int
  rise : Int
  change : Int
  from_ : Int
  to : Int
def avTri (H : Heap UU) : AV → Option (Int × Int × Int)
  | .fn (.func 122) [] [.ptr id k 0 0] => match blkAt H id k with
    | some (.cells [b, c, d, _] _) => match avInt b, avInt c, avInt d with
      | some b, some c, some d => some (b, c, d)
      | _, _, _ => none
    | some (.rc [b, c, d, _] _) => match avInt b, avInt c, avInt d with
      | some b, some c, some d => some (b, c, d)
      | _, _, _ => none
    | _ => none
  | _ => none
def spanOkM (a b : Int) : Bool := decide (a ≤ b)
def workS : FSpec UU where
  X := WQ
  pick := fun args H => match args with
    | [n, p, a, b] => match avInt n, avCell H p, avCell H a, avCell H b with
      | some n, some p, some a, some b => match avTri H p, avInt a, avInt b with
        | some (l, r, c), some a, some b => some ⟨n, l, r, c, a, b⟩
        | _, _, _ => none
      | _, _, _, _ => none
    | _ => none
  args := fun x => [.i x.n, .ptr 0 0 0 0, .ptr 1 0 0 0, .ptr 2 0 0 0]
  H := fun x => [.one (.rc [.fn (.func 122) [] [.ptr 3 0 0 0]] 61), .one (.rc [.i x.from_] 3), .one (.rc [.i x.to] 3), .one (.rc [.i x.long, .i x.rise, .i x.change, .junk] 28)]
  R := fun x => .val ⟨.b (inM x.n 0 x.long && spanOkM x.from_ x.to), [], [], []⟩
def Twork1 : Tab UU := [(122, placeS.con)]
theorem Twork1_ok : Twork1.Sound Tryz.prog := .cons place_sound .nil
theorem work1_ok : ∀ x, workS.pre x → FunOk Tryz.prog 117 (workS.args x) (workS.H x) (workS.R x) := by
  rintro ⟨n, l, r, c, a, b⟩ _
  refine fun_of (T := Twork1) (L := fun _ => none) (hs := fun _ => []) hmix Twork1_ok Tryz.func117 (by kernel_rfl) (by kernel_rfl) ?_
  refine Eq.mp (α :=
      let A0 := inM n (0 : Int) l; let A1 := Fn.func ((122 : FuncId)); let A2 := (nat_lit 0 = nat_lit 0 ∧ nat_lit 0 = nat_lit 0 ∧ nat_lit 0 = nat_lit 0) ∧ True; let A3 := (Value.int IntKind.i64 a = Value.int IntKind.i64 a) ∧ True; let A4 := Value.bool (A0 && spanOkM a b); let A5 := ((A1 = A1) ∧ True ∧ A2) ∧ True; let A6 := ((Value.int IntKind.i64 l = Value.int IntKind.i64 l) ∧ (Value.int IntKind.i64 r = Value.int IntKind.i64 r) ∧ (Value.int IntKind.i64 c = Value.int IntKind.i64 c) ∧ True ∧ True) ∧ True; let A7 := ((Value.int IntKind.i64 b = Value.int IntKind.i64 b) ∧ True) ∧ A6; True ∧ (Value.int IntKind.i64 n = Value.int IntKind.i64 n ∧ A2) ∧ A6 ∧ (A0 = true → True ∧ (Value.bool (decide (a ≤ b)) = A4 ∧ True) ∧ True ∧ A5 ∧ A3 ∧ A7) ∧ (A0 = false → True ∧ (A4 = Value.bool false ∧ True) ∧ True ∧ A5 ∧ A3 ∧ A7))
    (by kernel_rfl) ?_
  simp [spanOkM]
  exact ⟨fun h _ => h, fun h h' => by rw [h] at h'; cases h'⟩

theorem work1_sound : Sound Tryz.prog 117 workS.con := FSpec.sound _ (enter_of Tryz.func117 (by kernel_rfl) (by kernel_rfl)) work1_ok
end AE.Soil

namespace AE.Soil
open Go AE Go.Proofs

structure OC where
  g : GroundT
  l : List Int
  f : Int
  t : Int
def openCL (g : GroundT) (l : List Int) (f t : Int) : LSpec UU where
  T := { i : Nat // i ≤ l.length ∧ (l.take i).all (askM (.span (spanOkM f t)) g.long) = true }
  fr := fun i => [(1, .fn (.func 117) [] [.ptr 2 0 0 0, .ptr 3 0 0 0, .ptr 4 0 0 0]), (3, .ptr 6 0 0 0), (14, .sl 5 0 0 l.length), (15, .i l.length), (16, .i i.1)]
  H := fun _ => [.one (.ro .pit g.pits), .one (.rc (cGround g 0) 28), .one (.rc [.fn (.func 122) [] [.ptr 1 0 0 0]] 61), .one (.rc [.i f] 3), .one (.rc [.i t] 3), .one (.ro .int l), .one (.cells (cGround g 0) 28)]
  mu := fun i => l.length - i.1
def openCS : FSpec2 UU where
  X := OC
  pick := fun args H => match args with
    | [a, .fn (.func 117) [] [_, f, t], l] => match avGround H a, sliceAt .int H l, avCell H f, avCell H t with
      | some a, some l, some f, some t => match avInt f, avInt t with
        | some f, some t => some ⟨a, l, f, t⟩
        | _, _ => none
      | _, _, _, _ => none
    | _ => none
  args := fun x => [vGround x.g 0, .fn (.func 117) [] [.ptr 2 0 0 0, .ptr 3 0 0 0, .ptr 4 0 0 0], .sl 5 0 0 x.l.length]
  H := fun x => [.one (.ro .pit x.g.pits), .one (.rc (cGround x.g 0) 28), .one (.rc [.fn (.func 122) [] [.ptr 1 0 0 0]] 61), .one (.rc [.i x.f] 3), .one (.rc [.i x.t] 3), .one (.ro .int x.l)]
  c := fun x => openErrM x.g (.span (spanOkM x.f x.t)) x.l == 0
  R := fun x => .val ⟨.ptr 8 0 0 0, [], [], [.row .span (hardsM x.g (nM x.g)) 23, .row .mix (boxesM x.g) 181, .cells [.i x.g.long, .i x.g.rise, .i x.g.change, .sl 0 0 0 x.g.pits.length, .gs 6 0, .gs 7 0] 166]⟩
  R' := fun x => .panic (failV (openErrM x.g (.span (spanOkM x.f x.t)) x.l))
  pre := fun x => x.g.pits.length < 1000000 ∧ x.l.length < 1000
def TopenC : Tab UU := [(120, isGroundS.con), (119, mustS.con), (121, lookS.con), (117, workS.con)]
theorem TopenC_ok : TopenC.Sound Tryz.prog := .cons isGround_sound (.cons must_sound (.cons look_sound (.cons work1_sound .nil)))
theorem openC_ok : ∀ x, openCS.pre x → (openCS.c x = true → FunOk Tryz.prog 115 (openCS.args x) (openCS.H x) (openCS.R x)) ∧ (openCS.c x = false → FunOk Tryz.prog 115 (openCS.args x) (openCS.H x) (openCS.R' x)) := by
  rintro ⟨⟨long, rise, change, ps⟩, l, f, t⟩ hx
  refine fun_of2 (T := TopenC) (L := fun _ => some (.inv (openCL ⟨long, rise, change, ps⟩ l f t))) (hs := fun _ => []) (sp := fun _ => none) hmix TopenC_ok (td := fun _ => none) (fun _ _ h => by cases h) (it := fun _ => none) (fun _ _ h => by cases h) Tryz.func115 (by kernel_rfl) (by kernel_rfl) ?_
  refine Eq.mp (α :=
      let Am := (23 : TypeId); let An := (172 : TypeId); let Ao := (181 : TypeId); let Ap := (↑(List.length l) : Int); let A1 := nat_lit 0 = nat_lit 0 ∧ nat_lit 0 = nat_lit 0 ∧ nat_lit 0 = nat_lit 0; let A9 := ps = ps ∧ True; let Aq := Fn.func ((122 : FuncId)); let Ar := Fn.func ((117 : FuncId)); let Aa := Value.int IntKind.i64 (2 : Int); let Ab := Value.int IntKind.i64 (1 : Int); let As := groundM (GroundT.mk long rise change ps) = true; let Ac := Value.int IntKind.i64 (10 : Int); let Ad := A1 ∧ True; let Ae := Value.int IntKind.i64 rise = Value.int IntKind.i64 rise; let Af := Value.int IntKind.i64 long = Value.int IntKind.i64 long; let Ag := Value.int IntKind.i64 change = Value.int IntKind.i64 change; let At : List Span := hardsM (GroundT.mk long rise change ps) (nM (GroundT.mk long rise change ps)); let Au := Value.int IntKind.i64 Ap; let A3 := (Value.int IntKind.i64 f = Value.int IntKind.i64 f) ∧ True; let A4 := (Value.int IntKind.i64 t = Value.int IntKind.i64 t) ∧ True; let Av := openErrM (GroundT.mk long rise change ps) (Ask.span (spanOkM f t)) l; let Aw := nat_lit 0 = nat_lit 0 ∧ nat_lit 0 = nat_lit 0 ∧ List.length l = List.length l; let Ah := An = An; let Ai := Value.int IntKind.i64 Av; let Ax := nat_lit 0 = nat_lit 0 ∧ nat_lit 0 = nat_lit 0 ∧ List.length ps = List.length ps; let Ay := (Aa = Aa) ∧ True; let Az := (Ac = Ac) ∧ True; let AA := Au = Au; let AB := Av == (0 : Int); let AC := A1 ∧ A1 ∧ Ad; let Aj := AB = true; let A5 := AB = false; let Ak := Aj → False; let AD := A5 → False; let AE := Value.bool true = Value.bool true ∧ Az; let A6 := ((Aq = Aq) ∧ True ∧ Ad) ∧ True; let AF := (Value.bool false = Value.bool false) ∧ Az; let A0 : Type := { i : Nat // ((i ≤ List.length l) ∧ (List.all (List.take i l) (askM (Ask.span (spanOkM f t)) (GroundT.long (GroundT.mk long rise change ps)))) = true) }; let AG := fun (x : A0) => Subtype.val x; let A2 := fun (x : A0) => (↑(AG x) : Int); let AH := (Value.bool (groundM (GroundT.mk long rise change ps)) = Value.bool (groundM (GroundT.mk long rise change ps))) ∧ (Ab = Ab) ∧ True; let AI := fun (x : A0) => Value.int IntKind.i64 (A2 x); let AJ := fun (x : A0) => List.length l - AG x; let AK := (Ar = Ar) ∧ True ∧ AC; let AL := fun (t : A0) => nat_lit 0 + (Int.toNat (A2 t)); let A7 := Af ∧ Ae ∧ Ag ∧ Ax ∧ True; let AM := fun (t : A0) => A2 t < Ap; let A8 := A7 ∧ True; let AN := fun (t : A0) => List.getD l (AL t) (0 : Int); let AO := fun (t : A0) => Value.int IntKind.i64 (AN t); let Al := fun (t_1 : A0) => (inM (AN t_1) (0 : Int) long) && spanOkM f t; let AP := fun (t : A0) => Value.bool (Al t); let AQ := fun (t_1 : A0) => decide (AM t_1); let AR := True ∧ (Ak ∧ (A5 → (True ∧ Ah ∧ (Ac = Ai) ∧ True))); let AS := fun (t : A0) => AP t = AP t; let AT := ps = ps ∧ A7 ∧ A6 ∧ A3 ∧ A4 ∧ l = l ∧ A8; List.length ps < nat_lit 1000000 ∧ A8 ∧ A9 ∧ True ∧ (As → AH ∧ True ∧ (∃ (x : A0), (AK ∧ A1 ∧ Aw ∧ AA ∧ Value.int IntKind.i64 (0 : Int) = AI x ∧ True) ∧ True ∧ AT) ∧ ∀ (t_1 : A0), (AQ t_1 = true → ((0 : Int) ≤ A2 t_1 ∧ AM t_1) ∧ AL t_1 < List.length l ∧ True ∧ (AO t_1 = AO t_1 ∧ AC) ∧ (A6 ∧ A3 ∧ A4 ∧ (Af ∧ Ae ∧ Ag ∧ True ∧ True) ∧ True) ∧ True ∧ (Al t_1 = true → (AS t_1 ∧ Ay) ∧ True ∧ True ∧ ∃ (x : A0), ((AK ∧ A1 ∧ Aw ∧ AA ∧ Value.int IntKind.i64 (IntKind.wrap IntKind.i64 (A2 t_1 + (1 : Int))) = AI x ∧ True) ∧ True ∧ AT) ∧ AJ x < AJ t_1) ∧ (Al t_1 = false → (AS t_1 ∧ Ay) ∧ True ∧ Ak ∧ (A5 → True ∧ Ah ∧ Aa = Ai ∧ True))) ∧ (AQ t_1 = false → As ∧ (lookM (GroundT.mk long rise change ps) = true → A8 ∧ A9 ∧ True ∧ (true = true → AE ∧ True ∧ (Aj → True ∧ Ad ∧ True ∧ ps = ps ∧ A7 ∧ A6 ∧ A3 ∧ A4 ∧ l = l ∧ (Am = Am ∧ At = At) ∧ (Ao = Ao ∧ boxesM (GroundT.mk long rise change ps) = boxesM (GroundT.mk long rise change ps)) ∧ (Af ∧ Ae ∧ Ag ∧ Ax ∧ nat_lit 0 = nat_lit 0 ∧ nat_lit 0 = nat_lit 0 ∧ True) ∧ True) ∧ AD) ∧ (true = false → AE ∧ AR)) ∧ (lookM (GroundT.mk long rise change ps) = false → A8 ∧ A9 ∧ True ∧ (false = true → AF ∧ True ∧ (Aj → True ∧ (False ∧ True) ∧ True ∧ ps = ps ∧ A7 ∧ A6 ∧ A3 ∧ A4 ∧ l = l ∧ False ∧ False ∧ False ∧ True) ∧ AD) ∧ (false = false → AF ∧ AR)))) ∧ (groundM (GroundT.mk long rise change ps) = false → AH ∧ True ∧ Ak ∧ (A5 → True ∧ Ah ∧ Ab = Ai ∧ True)))
    (by kernel_rfl) ?_
  simp only [eq_self, AE.goS]
  obtain ⟨hl1, hl2⟩ := hx
  have hl2' : l.length < 1000 := hl2
  refine ⟨hl1, fun hg => ⟨⟨⟨0, Nat.zero_le _, rfl⟩, rfl⟩, fun tt => ⟨fun ht => ?_, fun ht => ⟨hg, fun hk => ?_, fun hk => ?_⟩⟩⟩, fun hg => ?_⟩
  · obtain ⟨i, hi, ha⟩ := tt
    have hlt : i < l.length := by have h0 : (i : Int) < (l.length : Int) := ht; omega
    refine ⟨⟨Int.natCast_nonneg _, ht⟩, hlt, fun h => ⟨⟨i + 1, hlt, ask_suc hlt ha h⟩, sucI i (by omega), dec1 hlt⟩, fun h => ?_⟩
    rw [open_range (a := .span (spanOkM f t)) hg hlt h]
    exact ⟨fun h => absurd h (by decide), fun _ => rfl⟩
  · obtain ⟨i, hi, ha⟩ := tt
    have hie : i = l.length := by have h0 : ¬ (i : Int) < (l.length : Int) := ht; omega
    rw [hie, List.take_length] at ha
    rw [open_look (a := .span (spanOkM f t)) hg ha, hk]
    exact ⟨fun _ => ⟨fun _ => trivial, fun h => absurd h (by decide)⟩, fun h => absurd h (by decide)⟩
  · obtain ⟨i, hi, ha⟩ := tt
    have hie : i = l.length := by have h0 : ¬ (i : Int) < (l.length : Int) := ht; omega
    rw [hie, List.take_length] at ha
    rw [open_look (a := .span (spanOkM f t)) hg ha, hk]
    exact ⟨fun h => absurd h (by decide), fun _ => ⟨fun h => absurd h (by decide), fun _ => rfl⟩⟩
  · rw [open_arg hg]
    exact ⟨fun h => absurd h (by decide), fun _ => rfl⟩

theorem openC_sound : Sound Tryz.prog 115 openCS.con := FSpec2.sound _ (enter_of Tryz.func115 (by kernel_rfl) (by kernel_rfl)) openC_ok
end AE.Soil

namespace AE.Soil
open Go AE Go.Proofs

def workNM (a b : Int) : Nat := (W (b + 1)).toNat - a.toNat
def workAtM (g : GroundT) (a : Int) : Nat → Span
  | 0 => (0, 0)
  | i + 1 => (W ((workAtM g a i).1 + ((hardsM g (nM g)).getD (a.toNat + i) (0, 0)).1), W ((workAtM g a i).2 + ((hardsM g (nM g)).getD (a.toNat + i) (0, 0)).2))
def workErrM (g : GroundT) (a b : Int) : Int := openErrM g (.span (spanOkM a b)) [a, b]
def workOM (g : GroundT) (a b : Int) : Span × Int := if workErrM g a b == 0 then (workAtM g a (workNM a b), 0) else ((0, 0), workErrM g a b)
def workL (g : GroundT) (a b : Int) : LSpec UU where
  T := { i : Nat // i ≤ workNM a b }
  fr := fun i => [(6, .ptr 4 0 0 0), (7, .ptr 5 0 0 0), (27, .sl 9 0 a.toNat (workNM a b)), (28, .i (workNM a b : Nat)), (29, .i i.1)]
  H := fun i => [.one (.ro .pit g.pits), .none, .none, .none, .one (.cells [.i (workAtM g a i.1).1, .i (workAtM g a i.1).2] 23), .one (.cells [.i 0] 35), .none, .none, .none, .one (.row .span (hardsM g (nM g)) 23)]
  mu := fun i => workNM a b - i.1
def Twork : Tab UU := [(116, isPlaceS.con), (115, openCS.con)]
theorem Twork_ok : Twork.Sound Tryz.prog := .cons isPlace_sound (.cons openC_sound .nil)
def workOS : FSpec UU where
  X := GroundT × Int × Int
  pick := fun args H => match args with
    | [a, b, c] => match avGround H a, avInt b, avInt c with
      | some a, some b, some c => some (a, b, c)
      | _, _, _ => none
    | _ => none
  args := fun x => [vGround x.1 0, .i x.2.1, .i x.2.2]
  H := fun x => [.one (.ro .pit x.1.pits)]
  R := fun x => .val ⟨.tup [vSpan (workOM x.1 x.2.1 x.2.2).1, .i (workOM x.1 x.2.1 x.2.2).2], [], [], []⟩
  pre := fun x => x.1.pits.length < 1000000
theorem workO_ok : ∀ x, workOS.pre x → FunOk Tryz.prog 108 (workOS.args x) (workOS.H x) (workOS.R x) := by
  rintro ⟨⟨long, rise, change, ps⟩, a, b⟩ hx
  refine fun_ofT (T := Twork) (L := fun _ => some (.inv (workL ⟨long, rise, change, ps⟩ a b))) (hs := fun _ => []) (sp := fun _ => none) hmix Twork_ok (tdAt_ok told_ok) (it := fun _ => none) (fun _ _ h => by cases h) Tryz.func108 (by kernel_rfl) (by kernel_rfl) ?_
  refine Eq.mp (α :=
      let Ad := (23 : TypeId); let Ae := (↑(workNM a b) : Int); let A2 := nat_lit 0 = nat_lit 0 ∧ nat_lit 0 = nat_lit 0 ∧ nat_lit 0 = nat_lit 0; let Af := ps = ps ∧ True; let Ag := Fn.func ((122 : FuncId)); let AE := Fn.func ((117 : FuncId)); let A1 := Value.int IntKind.i64 (0 : Int); let A6 := A2 ∧ True; let Ah := True ∧ Af; let A0 : Type := { i : Nat // (i ≤ workNM a b) }; let Ai := Prod.fst (workOM (GroundT.mk long rise change ps) a b); let A4 : List Span := hardsM (GroundT.mk long rise change ps) (nM (GroundT.mk long rise change ps)); let A7 := Value.int IntKind.i64 Ae; let AF := Fn.func (nat_lit 117) = AE; let A8 := fun (x : A0) => Subtype.val x; let Aj := True ∧ A6 ∧ True; let Ak := Value.int IntKind.i64 (Prod.snd (workOM (GroundT.mk long rise change ps) a b)); let A3 := fun (x : A0) => (↑(A8 x) : Int); let Al := Value.int IntKind.i64 (Prod.snd Ai); let Am := List.length A4; let A9 : List Int := a :: ([b] : List Int); let An := Value.int IntKind.i64 (Prod.fst Ai); let Aa := IntKind.wrap IntKind.i64 (b + (1 : Int)); let AG := DfE.call (Fn.func (nat_lit 114)) [] ([(AV.ptr (5 : Nat) (nat_lit 0) (nat_lit 0) (nat_lit 0))] : List AV); let Ao := fun (x : A0) => workAtM (GroundT.mk long rise change ps) a (A8 x); let Ap := fun (x : A0) => Value.int IntKind.i64 (A3 x); let Aq := fun (x : A0) => Prod.fst (Ao x); let Ar := fun (x : A0) => Prod.snd (Ao x); let As := fun (x : A0) => workNM a b - A8 x; let At : List DfE := [AG]; let Ab := fun (x : A0) => Value.int IntKind.i64 (Ar x); let Ac := fun (x : A0) => Value.int IntKind.i64 (Aq x); let Au := fun (t : A0) => A3 t < Ae; let Av := fun (t : A0) => Int.toNat a + (Int.toNat (A3 t)); let Aw := openErrM (GroundT.mk long rise change ps) (Ask.span (spanOkM a b)) A9; let Ax := (Int.toNat Aa) - Int.toNat a; let Ay := Aw == (0 : Int); let A5 := (Value.int IntKind.i64 long = Value.int IntKind.i64 long) ∧ (Value.int IntKind.i64 rise = Value.int IntKind.i64 rise) ∧ (Value.int IntKind.i64 change = Value.int IntKind.i64 change) ∧ (nat_lit 0 = nat_lit 0 ∧ nat_lit 0 = nat_lit 0 ∧ List.length ps = List.length ps) ∧ True; let Az := fun (t : A0) => decide (Au t); let AA := fun (t : A0) => List.getD A4 (Av t) (((0 : Int), (0 : Int))); let AB := (AF ∧ True ∧ A2 ∧ A2 ∧ A6) ∧ ((((8 : Nat) = (8 : Nat)) ∧ nat_lit 0 = nat_lit 0 ∧ nat_lit 0 = nat_lit 0 ∧ nat_lit 2 = nat_lit 2) ∧ True); let AC := ((A1 = A1) ∧ True) ∧ True ∧ True ∧ True ∧ ((Ad = Ad) ∧ A4 = A4) ∧ True; let AD := ps = ps ∧ A5 ∧ (((Ag = Ag) ∧ True ∧ A6) ∧ True) ∧ ((Value.int IntKind.i64 a = Value.int IntKind.i64 a) ∧ True) ∧ ((Value.int IntKind.i64 b = Value.int IntKind.i64 b) ∧ True) ∧ (A9 = A9) ∧ True; True ∧ (A5 ∧ True) ∧ Af ∧ (nat_lit 2 = nat_lit 2 ∧ AV.v (Value.int IntKind.i64 a) = AV.v (Value.int IntKind.i64 a) ∧ AV.v (Value.int IntKind.i64 b) = AV.v (Value.int IntKind.i64 b) ∧ True) ∧ (List.length ps < nat_lit 1000000 ∧ nat_lit 2 < nat_lit 1000) ∧ (Ay = true → (A5 ∧ AB) ∧ AD ∧ ((0 : Int) ≤ a ∧ a ≤ Aa ∧ Aa ≤ (↑Am : Int)) ∧ (∃ (x : A0), (A2 ∧ A2 ∧ (nat_lit 0 = nat_lit 0 ∧ nat_lit 0 + Int.toNat a = Int.toNat a ∧ Ax = workNM a b) ∧ Value.int IntKind.i64 (↑Ax : Int) = A7 ∧ A1 = Ap x ∧ True) ∧ Aj ∧ ps = ps ∧ True ∧ True ∧ True ∧ (A1 = Ac x ∧ A1 = Ab x ∧ True) ∧ AC) ∧ ∀ (t : A0), (Az t = true → ((0 : Int) ≤ A3 t ∧ Au t) ∧ Av t < Am ∧ At = At ∧ ∃ (x : A0), ((A2 ∧ A2 ∧ (nat_lit 0 = nat_lit 0 ∧ Int.toNat a = Int.toNat a ∧ workNM a b = workNM a b) ∧ A7 = A7 ∧ Value.int IntKind.i64 (IntKind.wrap IntKind.i64 (A3 t + (1 : Int))) = Ap x ∧ True) ∧ Aj ∧ ps = ps ∧ True ∧ True ∧ True ∧ (Value.int IntKind.i64 (IntKind.wrap IntKind.i64 (Aq t + Prod.fst (AA t))) = Ac x ∧ Value.int IntKind.i64 (IntKind.wrap IntKind.i64 (Ar t + Prod.snd (AA t))) = Ab x ∧ True) ∧ AC) ∧ As x < As t) ∧ (Az t = false → (true = true → True ∧ True ∧ (((Ac t = An ∧ Ab t = Al ∧ True) ∧ A1 = Ak ∧ True) ∧ True) ∧ Ah) ∧ (true = false → False))) ∧ (Ay = false → (A5 ∧ AB) ∧ AD ∧ True ∧ True ∧ (((A1 = An ∧ A1 = Al ∧ True) ∧ Value.int IntKind.i64 Aw = Ak ∧ True) ∧ True) ∧ Ah))
    (by kernel_rfl) ?_
  simp only [eq_self, AE.goS]
  refine ⟨⟨hx, by decide⟩, fun h => ?_, fun h => ?_⟩
  · obtain ⟨hg, ha, _⟩ := open_ok h
    obtain ⟨n0, n1, n2⟩ := n_ok (ground_ok hg)
    have hl := hards_len ⟨long, rise, change, ps⟩ (nM ⟨long, rise, change, ps⟩)
    simp only [List.all_cons, List.all_nil, Bool.and_true, Bool.and_eq_true, askM, inM_iff, spanOkM, decide_eq_true_eq] at ha
    obtain ⟨⟨⟨a0, a1⟩, a2⟩, ⟨b0, b1⟩, _⟩ := ha
    have n0' : ((nM ⟨long, rise, change, ps⟩ : Nat) : Int) = long + 1 := n0
    have b1' : b ≤ long := b1
    have hw : IntKind.i64.wrap (b + 1) = b + 1 := wrap_id (by omega) (by omega)
    have hn : workNM a b = (b + 1).toNat - a.toNat := by unfold workNM; rw [show W (b + 1) = b + 1 from hw]
    have e : workOM ⟨long, rise, change, ps⟩ a b = (workAtM ⟨long, rise, change, ps⟩ a (workNM a b), 0) := by unfold workOM workErrM; rw [h]; rfl
    simp only [hw, e]
    refine ⟨⟨a0, by omega, by omega⟩, ⟨⟨0, Nat.zero_le _⟩, ⟨hn.symm, by rw [hn], rfl⟩, rfl, rfl⟩, fun t => ⟨fun ht => ?_, fun ht => ?_⟩⟩
    · obtain ⟨i, hi⟩ := t
      have hlt : i < workNM a b := by have h0 : (i : Int) < (workNM a b : Int) := ht; omega
      exact ⟨⟨Int.natCast_nonneg _, ht⟩, by show a.toNat + i < _; omega, ⟨i + 1, hlt⟩, ⟨sucI i (by omega), rfl, rfl⟩, dec1 hlt⟩
    · obtain ⟨i, hi⟩ := t
      have hie : i = workNM a b := by have h0 : ¬ (i : Int) < (workNM a b : Int) := ht; omega
      subst hie
      exact ⟨fun _ => ⟨⟨rfl, rfl⟩, trivial⟩, fun h => absurd h (by decide)⟩
  · have e : workOM ⟨long, rise, change, ps⟩ a b = ((0, 0), workErrM ⟨long, rise, change, ps⟩ a b) := by unfold workOM workErrM; rw [h]; rfl
    rw [e]; exact ⟨⟨rfl, rfl⟩, rfl⟩

theorem workO_sound : Sound Tryz.prog 108 workOS.con := FSpec.sound _ (enter_of Tryz.func108 (by kernel_rfl) (by kernel_rfl)) workO_ok
end AE.Soil

namespace AE.Team
open Go AE Go.Proofs AE.Soil

def idxM {α : Type} (p : α → Bool) (l : List α) : Int := match l.findIdx? p with
  | some i => (i : Int)
  | none => -1
theorem idxM_some {α : Type} {p : α → Bool} {l : List α} {i : Nat} (hi : i < l.length) (d : α) (h : p (l.getD i d) = true) (h0 : ∀ j, j < i → p (l.getD j d) = false) : idxM p l = (i : Int) := by
  have : l.findIdx? p = some i := by
    rw [List.findIdx?_eq_some_iff_getElem]
    refine ⟨hi, ?_, fun j hj => ?_⟩
    · simpa [List.getD_eq_getElem?_getD, hi] using h
    · have := h0 j hj
      simpa [List.getD_eq_getElem?_getD, (show j < l.length by omega)] using this
  unfold idxM; rw [this]
theorem idxM_none {α : Type} {p : α → Bool} {l : List α} (d : α) (h0 : ∀ j, j < l.length → p (l.getD j d) = false) : idxM p l = -1 := by
  have : l.findIdx? p = none := by
    rw [List.findIdx?_eq_none_iff]
    intro x hx
    obtain ⟨j, hj, rfl⟩ := List.getElem_of_mem hx
    have := h0 j hj
    simpa [List.getD_eq_getElem?_getD, hj] using this
  unfold idxM; rw [this]
theorem idxM_any {α : Type} (p : α → Bool) (l : List α) : decide (idxM p l ≥ 0) = l.any p := by
  unfold idxM
  cases h : l.findIdx? p with
  | none =>
    rw [List.findIdx?_eq_none_iff] at h
    have : l.any p = false := by rw [List.any_eq_false]; intro x hx; simp [h x hx]
    rw [this]; simp
  | some i =>
    have : l.any p = true := by
      rw [List.findIdx?_eq_some_iff_getElem] at h
      obtain ⟨hi, hp, _⟩ := h
      rw [List.any_eq_true]; exact ⟨_, List.getElem_mem hi, hp⟩
    rw [this]
    simp only [decide_eq_true_eq, ge_iff_le]
    exact Int.natCast_nonneg _

def restS : FSpec UU where
  X := StepT
  pick := fun args _ => match args with
    | [.agg [a, b, c]] => match avInt a, avInt b, avInt c with
      | some a, some b, some c => some (a, b, c)
      | _, _, _ => none
    | _ => none
  args := fun (x : StepT) => [.agg [.i x.1, .i x.2.1, .i x.2.2]]
  H := fun _ => []
  R := fun (x : StepT) => .val ⟨.b (!(x.2.2 == 0)), [], [], []⟩
theorem rest_ok : ∀ x, restS.pre x → FunOk Tryz.prog 56 (restS.args x) (restS.H x) (restS.R x) := by
  rintro ⟨a, b, c⟩ _
  refine fun_of (T := []) (L := fun _ => none) (hs := fun _ => []) hmix .nil Tryz.func56 (by kernel_rfl) (by kernel_rfl) ?_
  refine Eq.mp (α :=
      True ∧ (Value.bool (c != (0 : Int)) = Value.bool !c == (0 : Int) ∧ True) ∧ True ∧ True)
    (by kernel_rfl) ?_
  simp [bne]

theorem rest_sound : Sound Tryz.prog 56 restS.con := FSpec.sound _ (enter_of Tryz.func56 (by kernel_rfl) (by kernel_rfl)) rest_ok
def sfM (x : Option Int) (s : StepT) : Bool := match x with
  | some long => !okStepM long s
  | none => !(s.2.2 == 0)
def idxSS (R : Option Int × List StepT → AV) : FSpec UU where
  X := Option Int × List StepT
  pick := fun args H => match args with
    | [a, .fn _ _ [.ptr id k 0 0]] => match sliceAt .tstep H a, blkAt H id k with
      | some a, some (.cells (l :: _) _) => match avInt l with
        | some l => some (some l, a)
        | none => none
      | some a, some (.rc (l :: _) _) => match avInt l with
        | some l => some (some l, a)
        | none => none
      | _, _ => none
    | [a, .fn _ _ []] => match sliceAt .tstep H a with
      | some a => some (none, a)
      | none => none
    | _ => none
  args := fun x => match x.1 with
    | some _ => [.sl 0 0 0 x.2.length, .fn (.func 107) [] [.ptr 1 0 0 0]]
    | none => [.sl 0 0 0 x.2.length, .fn (.func 56) [] []]
  H := fun x => match x.1 with
    | some l => [.one (.ro .tstep x.2), .one (.rc [.i l, .junk, .junk, .junk, .junk] 31)]
    | none => [.one (.ro .tstep x.2)]
  R := fun x => .val ⟨R x, [], [], []⟩
  pre := fun x => x.2.length < 1000000
def idxSLa (l : List StepT) (n : Int) : LSpec UU where
  T := { i : Nat // i ≤ l.length ∧ ∀ j, j < i → sfM (some n) (l.getD j (0, 0, 0)) = false }
  fr := fun t => [(0, .sl 0 0 0 l.length), (1, .fn (.func 107) [] [.ptr 1 0 0 0]), (7, .i l.length), (8, .i t.1)]
  H := fun _ => [.one (.ro .tstep l), .one (.rc [.i n, .junk, .junk, .junk, .junk] 31)]
  mu := fun t => l.length - t.1
def idxSLb (l : List StepT) : LSpec UU where
  T := { i : Nat // i ≤ l.length ∧ ∀ j, j < i → sfM none (l.getD j (0, 0, 0)) = false }
  fr := fun t => [(0, .sl 0 0 0 l.length), (1, .fn (.func 56) [] []), (7, .i l.length), (8, .i t.1)]
  H := fun _ => [.one (.ro .tstep l)]
  mu := fun t => l.length - t.1
def TidxS : Tab UU := [(107, badS.con), (56, restS.con)]
theorem TidxS_ok : TidxS.Sound Tryz.prog := .cons bad_sound (.cons rest_sound .nil)
def idxSr : FSpec UU := idxSS fun x => .i (idxM (fun y => sfM x.1 y) x.2)
def anySr : FSpec UU := idxSS fun x => .b (x.2.any fun y => sfM x.1 y)
theorem idxS_oka (n : Int) (l : List StepT) (hl : l.length < 1000000) : FunOk Tryz.prog 91 (idxSr.args (some n, l)) (idxSr.H (some n, l)) (idxSr.R (some n, l)) := by
  refine fun_of (T := TidxS) (L := fun _ => some (.inv (idxSLa l n))) (hs := fun _ => []) hmix TidxS_ok Tryz.func91 (by kernel_rfl) (by kernel_rfl) ?_
  refine Eq.mp (α :=
      let A5 := Fn.func ((107 : FuncId)); let A6 := (↑(List.length l) : Int); let A7 := (nat_lit 0 = nat_lit 0 ∧ nat_lit 0 = nat_lit 0 ∧ nat_lit 0 = nat_lit 0) ∧ True; let Ap := idxM (fun (y : StepT) => sfM (some n) y) l; let A8 := Value.int IntKind.i64 A6; let A9 := Value.int IntKind.i64 Ap; let Aa := nat_lit 0 = nat_lit 0 ∧ nat_lit 0 = nat_lit 0 ∧ List.length l = List.length l; let Ab := ((Value.int IntKind.i64 n = Value.int IntKind.i64 n) ∧ True ∧ True ∧ True ∧ True ∧ True) ∧ True; let Ac := ((0 : Int), (((0 : Int), (0 : Int)))); let Ad := A8 = A8; let A2 := True ∧ l = l ∧ Ab; let Ae := (A5 = A5) ∧ True ∧ A7; let Aq := fun (i : Nat) => ∀ (j : Nat), (j < i → ((sfM (some n) ((List.getD l j Ac))) = false)); let A0 : Type := { i : Nat // ((i ≤ List.length l) ∧ Aq i) }; let Af := fun (x : A0) => Subtype.val x; let A1 := fun (x : A0) => (↑(Af x) : Int); let A3 := fun (x : A0) => Value.int IntKind.i64 (A1 x); let Ag := fun (x : A0) => List.length l - Af x; let Ah := fun (t : A0) => nat_lit 0 + (Int.toNat (A1 t)); let Ai := fun (t : A0) => A1 t < A6; let A4 := fun (t : A0) => List.getD l (Ah t) Ac; let Aj := fun (t : A0) => !(okStepM n (A4 t)); let Ak := fun (t : A0) => Prod.snd (A4 t); let Al := fun (t : A0) => Prod.fst (A4 t); let Am := fun (t : A0) => Prod.fst (Ak t); let An := fun (t : A0) => Prod.snd (Ak t); let Ao := fun (t : A0) => decide (Ai t); (∃ (x : A0), (Aa ∧ Ae ∧ Ad ∧ Value.int IntKind.i64 (0 : Int) = A3 x ∧ True) ∧ A2) ∧ ∀ (t : A0), (Ao t = true → ((0 : Int) ≤ A1 t ∧ Ai t) ∧ Ah t < List.length l ∧ True ∧ ((Value.int IntKind.i64 (Al t) = Value.int IntKind.i64 (Al t) ∧ Value.int IntKind.i64 (Am t) = Value.int IntKind.i64 (Am t) ∧ Value.int IntKind.i64 (An t) = Value.int IntKind.i64 (An t) ∧ True) ∧ A7) ∧ Ab ∧ (Aj t = true → True ∧ (A3 t = A9 ∧ True) ∧ A2) ∧ (Aj t = false → True ∧ ∃ (x : A0), ((Aa ∧ Ae ∧ Ad ∧ Value.int IntKind.i64 (IntKind.wrap IntKind.i64 (A1 t + (1 : Int))) = A3 x ∧ True) ∧ A2) ∧ Ag x < Ag t)) ∧ (Ao t = false → True ∧ (Value.int IntKind.i64 (-1 : Int) = A9 ∧ True) ∧ A2))
    (by kernel_rfl) ?_
  simp only [eq_self, AE.goS]
  refine ⟨⟨⟨0, Nat.zero_le _, fun j hj => absurd hj (Nat.not_lt_zero j)⟩, rfl⟩, fun t => ⟨fun ht => ?_, fun ht => ?_⟩⟩
  · obtain ⟨i, hi, h0⟩ := t
    have hlt : i < l.length := by have h1 : (i : Int) < (l.length : Int) := ht; omega
    refine ⟨⟨Int.natCast_nonneg _, ht⟩, hlt, fun h1 => (idxM_some hlt (0, 0, 0) h1 h0).symm, fun h1 => ⟨⟨i + 1, hlt, fun j hj => ?_⟩, sucI i (by omega), dec1 hlt⟩⟩
    rcases Nat.lt_or_eq_of_le (Nat.le_of_lt_succ hj) with h2 | rfl
    · exact h0 j h2
    · exact h1
  · obtain ⟨i, hi, h0⟩ := t
    have hie : i = l.length := by have h1 : ¬ (i : Int) < (l.length : Int) := ht; omega
    exact (idxM_none (0, 0, 0) (fun j hj => h0 j (by omega))).symm

theorem idxS_okb (l : List StepT) (hl : l.length < 1000000) : FunOk Tryz.prog 91 (idxSr.args (none, l)) (idxSr.H (none, l)) (idxSr.R (none, l)) := by
  refine fun_of (T := TidxS) (L := fun _ => some (.inv (idxSLb l))) (hs := fun _ => []) hmix TidxS_ok Tryz.func91 (by kernel_rfl) (by kernel_rfl) ?_
  refine Eq.mp (α :=
      let A5 := Fn.func ((56 : FuncId)); let A6 := (↑(List.length l) : Int); let A2 := True ∧ l = l ∧ True; let An := idxM (fun (y : StepT) => sfM none y) l; let A7 := Value.int IntKind.i64 A6; let A8 := Value.int IntKind.i64 An; let A9 := nat_lit 0 = nat_lit 0 ∧ nat_lit 0 = nat_lit 0 ∧ List.length l = List.length l; let Aa := (A5 = A5) ∧ True ∧ True; let Ab := ((0 : Int), (((0 : Int), (0 : Int)))); let Ac := A7 = A7; let Ao := fun (i : Nat) => ∀ (j : Nat), (j < i → ((sfM none ((List.getD l j Ab))) = false)); let A0 : Type := { i : Nat // ((i ≤ List.length l) ∧ Ao i) }; let Ad := fun (x : A0) => Subtype.val x; let A1 := fun (x : A0) => (↑(Ad x) : Int); let A3 := fun (x : A0) => Value.int IntKind.i64 (A1 x); let Ae := fun (x : A0) => List.length l - Ad x; let Af := fun (t : A0) => nat_lit 0 + (Int.toNat (A1 t)); let Ag := fun (t : A0) => A1 t < A6; let Ah := fun (t : A0) => List.getD l (Af t) Ab; let Ai := fun (t : A0) => Prod.snd (Ah t); let Aj := fun (t : A0) => Prod.fst (Ai t); let A4 := fun (t : A0) => Prod.snd (Ai t); let Ak := fun (t : A0) => Value.int IntKind.i64 ((Prod.fst (Ah t))); let Al := fun (t : A0) => A4 t == (0 : Int); let Am := fun (t : A0) => decide (Ag t); (∃ (x : A0), (A9 ∧ Aa ∧ Ac ∧ Value.int IntKind.i64 (0 : Int) = A3 x ∧ True) ∧ A2) ∧ ∀ (t : A0), (Am t = true → ((0 : Int) ≤ A1 t ∧ Ag t) ∧ Af t < List.length l ∧ True ∧ ((Ak t = Ak t ∧ Value.int IntKind.i64 (Aj t) = Value.int IntKind.i64 (Aj t) ∧ Value.int IntKind.i64 (A4 t) = Value.int IntKind.i64 (A4 t) ∧ True) ∧ True) ∧ True ∧ ((!Al t) = true → True ∧ (A3 t = A8 ∧ True) ∧ A2) ∧ ((!Al t) = false → True ∧ ∃ (x : A0), ((A9 ∧ Aa ∧ Ac ∧ Value.int IntKind.i64 (IntKind.wrap IntKind.i64 (A1 t + (1 : Int))) = A3 x ∧ True) ∧ A2) ∧ Ae x < Ae t)) ∧ (Am t = false → True ∧ (Value.int IntKind.i64 (-1 : Int) = A8 ∧ True) ∧ A2))
    (by kernel_rfl) ?_
  simp only [eq_self, AE.goS]
  refine ⟨⟨⟨0, Nat.zero_le _, fun j hj => absurd hj (Nat.not_lt_zero j)⟩, rfl⟩, fun t => ⟨fun ht => ?_, fun ht => ?_⟩⟩
  · obtain ⟨i, hi, h0⟩ := t
    have hlt : i < l.length := by have h1 : (i : Int) < (l.length : Int) := ht; omega
    refine ⟨⟨Int.natCast_nonneg _, ht⟩, hlt, fun h1 => (idxM_some hlt (0, 0, 0) h1 h0).symm, fun h1 => ⟨⟨i + 1, hlt, fun j hj => ?_⟩, sucI i (by omega), dec1 hlt⟩⟩
    rcases Nat.lt_or_eq_of_le (Nat.le_of_lt_succ hj) with h2 | rfl
    · exact h0 j h2
    · exact h1
  · obtain ⟨i, hi, h0⟩ := t
    have hie : i = l.length := by have h1 : ¬ (i : Int) < (l.length : Int) := ht; omega
    exact (idxM_none (0, 0, 0) (fun j hj => h0 j (by omega))).symm

theorem idxS_sound : Sound Tryz.prog 91 idxSr.con := FSpec.sound _ (enter_of Tryz.func91 (by kernel_rfl) (by kernel_rfl)) fun x h => match x, h with
  | (some n, l), h => idxS_oka n l h
  | (none, l), h => idxS_okb l h
def TidxS2 : Tab UU := [(91, idxSr.con)]
theorem TidxS2_ok : TidxS2.Sound Tryz.prog := .cons idxS_sound .nil
theorem anyS_oka (n : Int) (l : List StepT) (hl : l.length < 1000000) : FunOk Tryz.prog 55 (anySr.args (some n, l)) (anySr.H (some n, l)) (anySr.R (some n, l)) := by
  refine fun_of (T := TidxS2) (L := fun _ => none) (hs := fun _ => []) hmix TidxS2_ok Tryz.func55 (by kernel_rfl) (by kernel_rfl) ?_
  refine Eq.mp (α :=
      let A0 := Fn.func ((107 : FuncId)); let A1 := l = l ∧ (Value.int IntKind.i64 n = Value.int IntKind.i64 n ∧ True ∧ True ∧ True ∧ True ∧ True) ∧ True; List.length l < nat_lit 1000000 ∧ ((nat_lit 0 = nat_lit 0 ∧ nat_lit 0 = nat_lit 0 ∧ List.length l = List.length l) ∧ (A0 = A0 ∧ True ∧ (nat_lit 0 = nat_lit 0 ∧ nat_lit 0 = nat_lit 0 ∧ nat_lit 0 = nat_lit 0) ∧ True) ∧ True) ∧ A1 ∧ True ∧ (Value.bool (decide (idxM (fun (y : StepT) => sfM (some n) y) l ≥ (0 : Int))) = Value.bool (List.any l fun (y : StepT) => sfM (some n) y) ∧ True) ∧ True ∧ A1)
    (by kernel_rfl) ?_
  rw [← idxM_any]
  simpa using hl

theorem anyS_okb (l : List StepT) (hl : l.length < 1000000) : FunOk Tryz.prog 55 (anySr.args (none, l)) (anySr.H (none, l)) (anySr.R (none, l)) := by
  refine fun_of (T := TidxS2) (L := fun _ => none) (hs := fun _ => []) hmix TidxS2_ok Tryz.func55 (by kernel_rfl) (by kernel_rfl) ?_
  refine Eq.mp (α :=
      let A0 := (56 : FuncId); let A1 := l = l ∧ True; List.length l < nat_lit 1000000 ∧ ((nat_lit 0 = nat_lit 0 ∧ nat_lit 0 = nat_lit 0 ∧ List.length l = List.length l) ∧ (Fn.func A0 = Fn.func A0 ∧ True ∧ True) ∧ True) ∧ A1 ∧ True ∧ (Value.bool (decide (idxM (fun (y : StepT) => sfM none y) l ≥ (0 : Int))) = Value.bool (List.any l fun (y : StepT) => sfM none y) ∧ True) ∧ True ∧ A1)
    (by kernel_rfl) ?_
  rw [← idxM_any]
  simpa using hl

theorem anyS_sound : Sound Tryz.prog 55 anySr.con := FSpec.sound _ (enter_of Tryz.func55 (by kernel_rfl) (by kernel_rfl)) fun x h => match x, h with
  | (some n, l), h => anyS_oka n l h
  | (none, l), h => anyS_okb l h
end AE.Team

namespace AE.Team
open Go AE Go.Proofs AE.Soil

def avPlot (H : Heap UU) : AV → Option PlotT
  | .agg [a, b, c, d, e] => match avGround H (.agg [a, b, c, d]), sliceAt .tstep H e with
    | some g, some l => some ⟨g, l⟩
    | _, _ => none
  | _ => none
def hPlot (p : PlotT) : Heap UU := [.one (.ro .pit p.g.pits), .one (.ro .tstep p.steps)]
def isPlotM (p : PlotT) : Bool := !((hardOM p.g 0).2 == 1 || decide ((p.steps.length : Int) > 12)) && !(p.steps.any fun s => sfM (some p.g.long) s)
def isPlotS : FSpec UU where
  X := PlotT
  pick := fun args H => match args with
    | [a] => avPlot H a
    | _ => none
  args := fun (x : PlotT) => [vPlot x 0 1]
  H := fun (x : PlotT) => hPlot x
  R := fun (x : PlotT) => .val ⟨.b (isPlotM x), [], [], []⟩
  pre := fun (x : PlotT) => x.g.pits.length < 1000000 ∧ x.steps.length < 9223372036854775808
def TisPlot : Tab UU := [(106, hardOS.con), (55, anySr.con)]
theorem TisPlot_ok : TisPlot.Sound Tryz.prog := .cons hardO_sound (.cons anyS_sound .nil)
theorem isPlot_ok : ∀ x, isPlotS.pre x → FunOk Tryz.prog 85 (isPlotS.args x) (isPlotS.H x) (isPlotS.R x) := by
  rintro ⟨⟨long, rise, change, ps⟩, st⟩ hx
  refine fun_of (T := TisPlot) (L := fun _ => none) (hs := fun _ => []) hmix TisPlot_ok Tryz.func85 (by kernel_rfl) (by kernel_rfl) ?_
  refine Eq.mp (α :=
      let A1 := Value.int IntKind.i64 (0 : Int); let A2 := Value.int IntKind.i64 long = Value.int IntKind.i64 long; let A3 := Value.bool (isPlotM (PlotT.mk (GroundT.mk long rise change ps) st)); let A4 := (A3 = Value.bool false) ∧ True; let A0 := True ∧ ps = ps ∧ st = st ∧ True; let A5 := (Prod.snd (hardOM (GroundT.mk long rise change ps) (0 : Int))) == (1 : Int); let A6 := decide (((↑(List.length st) : Int)) > (12 : Int)); List.length ps < nat_lit 1000000 ∧ ((A2 ∧ Value.int IntKind.i64 rise = Value.int IntKind.i64 rise ∧ Value.int IntKind.i64 change = Value.int IntKind.i64 change ∧ (nat_lit 0 = nat_lit 0 ∧ nat_lit 0 = nat_lit 0 ∧ List.length ps = List.length ps) ∧ True) ∧ A1 = A1 ∧ True) ∧ (ps = ps ∧ True) ∧ (A5 = true → True ∧ A4 ∧ A0) ∧ (A5 = false → (A6 = true → True ∧ A4 ∧ A0) ∧ (A6 = false → List.length st < nat_lit 1000000 ∧ ((nat_lit 0 = nat_lit 0 ∧ nat_lit 0 = nat_lit 0 ∧ List.length st = List.length st) ∧ (Fn.func (nat_lit 107) = Fn.func (107 : FuncId) ∧ True ∧ (nat_lit 0 = nat_lit 0 ∧ nat_lit 0 = nat_lit 0 ∧ nat_lit 0 = nat_lit 0) ∧ True) ∧ True) ∧ (st = st ∧ (A2 ∧ True ∧ True ∧ True ∧ True ∧ True) ∧ True) ∧ True ∧ ((Value.bool !List.any st fun (y : StepT) => sfM (some long) y) = A3 ∧ True) ∧ A0)))
    (by kernel_rfl) ?_
  simp only [eq_self, AE.goS]
  obtain ⟨h1, h2⟩ := hx
  refine ⟨h1, fun h => ?_, fun h => ⟨fun h12 => ?_, fun h12 => ⟨by omega, ?_⟩⟩⟩
  · unfold isPlotM; rw [h]; rfl
  · unfold isPlotM; rw [h, decide_eq_true h12]; rfl
  · unfold isPlotM; rw [h, decide_eq_false h12]; rfl

theorem isPlot_sound : Sound Tryz.prog 85 isPlotS.con := FSpec.sound _ (enter_of Tryz.func85 (by kernel_rfl) (by kernel_rfl)) isPlot_ok
def endS (f : Span → Int) : FSpec UU where
  X := Span
  pick := fun args _ => match args with
    | [a] => avSpan a
    | _ => none
  args := fun (x : Span) => [vSpan x]
  H := fun _ => []
  R := fun (x : Span) => .val ⟨.i (f x), [], [], []⟩
def loS : FSpec UU := endS fun x => x.1
def hiS : FSpec UU := endS fun x => x.2
theorem lo_ok : ∀ x, loS.pre x → FunOk Tryz.prog 87 (loS.args x) (loS.H x) (loS.R x) := by
  rintro ⟨a, b⟩ _
  refine fun_of (T := []) (L := fun _ => none) (hs := fun _ => []) hmix .nil Tryz.func87 (by kernel_rfl) (by kernel_rfl) ?_
  refine Eq.mp (α :=
      True ∧ (Value.int IntKind.i64 a = Value.int IntKind.i64 a ∧ True) ∧ True ∧ True)
    (by kernel_rfl) ?_
  simp

theorem lo_sound : Sound Tryz.prog 87 loS.con := FSpec.sound _ (enter_of Tryz.func87 (by kernel_rfl) (by kernel_rfl)) lo_ok
theorem hi_ok : ∀ x, hiS.pre x → FunOk Tryz.prog 88 (hiS.args x) (hiS.H x) (hiS.R x) := by
  rintro ⟨a, b⟩ _
  refine fun_of (T := []) (L := fun _ => none) (hs := fun _ => []) hmix .nil Tryz.func88 (by kernel_rfl) (by kernel_rfl) ?_
  refine Eq.mp (α :=
      True ∧ (Value.int IntKind.i64 b = Value.int IntKind.i64 b ∧ True) ∧ True ∧ True)
    (by kernel_rfl) ?_
  simp

theorem hi_sound : Sound Tryz.prog 88 hiS.con := FSpec.sound _ (enter_of Tryz.func88 (by kernel_rfl) (by kernel_rfl)) hi_ok
abbrev HorT := Int × Int × Int × Int × Bool
def lHor (h : HorT) : List AV := [.i h.1, .i h.2.1, .i h.2.2.1, .i h.2.2.2.1, .alt h.2.2.2.2 (.fn (.func 88) [] []) (.fn (.func 87) [] [])]
def worstM (t : TeamT) : HorT := (t.1.1, t.2.1.2, t.2.2.1.1, t.2.2.2, true)
def bestM (t : TeamT) : HorT := (t.1.2, t.2.1.1, t.2.2.1.2, t.2.2.2, false)
def casesS : FSpec UU where
  X := TeamT
  pick := fun args _ => match args with
    | [a] => avTeam a
    | _ => none
  args := fun (x : TeamT) => [vTeam x]
  H := fun _ => []
  R := fun (x : TeamT) => .val ⟨.agg [.i x.1.1, .i x.2.1.2, .i x.2.2.1.1, .i x.2.2.2, .fn (.func 88) [] [], .i x.1.2, .i x.2.1.1, .i x.2.2.1.2, .i x.2.2.2, .fn (.func 87) [] []], [], [], []⟩
end AE.Team

namespace AE.Team
open Go AE Go.Proofs AE.Soil

theorem cases_ok : ∀ x, casesS.pre x → FunOk Tryz.prog 42 (casesS.args x) (casesS.H x) (casesS.R x) := by
  rintro ⟨⟨s0, s1⟩, ⟨l0, l1⟩, ⟨g0, g1⟩, full⟩ _
  refine fun_of (T := []) (L := fun _ => none) (hs := fun _ => []) hmix .nil Tryz.func42 (by kernel_rfl) (by kernel_rfl) ?_
  with_reducible
  refine Eq.mp (α :=
      let A0 := Value.int IntKind.i64 full = Value.int IntKind.i64 full; True ∧ ((Value.int IntKind.i64 s0 = Value.int IntKind.i64 s0 ∧ Value.int IntKind.i64 l1 = Value.int IntKind.i64 l1 ∧ Value.int IntKind.i64 g0 = Value.int IntKind.i64 g0 ∧ A0 ∧ (Fn.func (nat_lit 88) = Fn.func (88 : FuncId) ∧ True ∧ True) ∧ Value.int IntKind.i64 s1 = Value.int IntKind.i64 s1 ∧ Value.int IntKind.i64 l0 = Value.int IntKind.i64 l0 ∧ Value.int IntKind.i64 g1 = Value.int IntKind.i64 g1 ∧ A0 ∧ (Fn.func (nat_lit 87) = Fn.func (87 : FuncId) ∧ True ∧ True) ∧ True) ∧ True) ∧ True ∧ True)
    (by kernel_rfl) ?_
  simp

theorem cases_sound : Sound Tryz.prog 42 casesS.con := FSpec.sound _ (enter_of Tryz.func42 (by kernel_rfl) (by kernel_rfl)) cases_ok
end AE.Team

namespace AE.Team
open Go AE Go.Proofs AE.Soil

def wM (g : GroundT) (s : StepT) : Span := if s.2.2 == 0 then (workOM g s.1 s.2.1).1 else (0, 0)
def worksM (p : PlotT) : List Span := p.steps.map fun s => wM p.g s
theorem works_len (p : PlotT) : (worksM p).length = p.steps.length := List.length_map _
theorem works_get (p : PlotT) (i : Nat) (h : i < p.steps.length) : (worksM p).getD i (0, 0) = wM p.g (p.steps.getD i (0, 0, 0)) := by
  unfold worksM
  simp [List.getD_eq_getElem?_getD, h]
theorem works_snoc (p : PlotT) (i : Nat) (h : i < p.steps.length) : (worksM p).take (i + 1) = (worksM p).take i ++ [wM p.g (p.steps.getD i (0, 0, 0))] := by
  rw [take_snoc _ i (by rw [works_len]; exact h) (0, 0), works_get p i h]
def lookL (p : PlotT) : LSpec UU where
  T := { i : Nat // i ≤ p.steps.length }
  fr := fun i => [(1, .ptr 2 0 0 0), (5, .ptr 4 0 0 0), (22, .sl 1 0 0 p.steps.length), (23, .i p.steps.length), (24, .i i.1)]
  H := fun i => hPlot p ++ [.one (.cells (cPlot p 0 1) 31), .none, .one (.cells (cPlot p 0 1 ++ [.gs 5 0]) 136), .one (.row .span ((worksM p).take i.1) 23)]
  mu := fun i => p.steps.length - i.1
def lookS : FSpec2 UU where
  X := PlotT
  pick := fun args H => match args with
    | [a] => avPlot H a
    | _ => none
  args := fun (x : PlotT) => [vPlot x 0 1]
  H := fun (x : PlotT) => hPlot x
  c := fun (x : PlotT) => (hardOM x.g 0).2 == 0
  R := fun (x : PlotT) => .val ⟨.ptr 3 0 0 0, [], [], [.row .span (worksM x) 23, .cells (cPlot x 0 1 ++ [.gs 2 0]) 136]⟩
  R' := fun _ => .panic (misV 10)
  pre := fun (x : PlotT) => x.g.pits.length < 1000000 ∧ x.steps.length < 1000000
def Tlook : Tab UU := [(106, hardOS.con), (53, needS.con), (108, workOS.con)]
theorem Tlook_ok : Tlook.Sound Tryz.prog := .cons hardO_sound (.cons need_sound (.cons workO_sound .nil))
theorem look_ok : ∀ x, lookS.pre x → (lookS.c x = true → FunOk Tryz.prog 86 (lookS.args x) (lookS.H x) (lookS.R x)) ∧ (lookS.c x = false → FunOk Tryz.prog 86 (lookS.args x) (lookS.H x) (lookS.R' x)) := by
  rintro ⟨⟨long, rise, change, ps⟩, st⟩ hx
  refine fun_of2 (T := Tlook) (L := fun _ => some (.inv (lookL ⟨⟨long, rise, change, ps⟩, st⟩))) (hs := fun _ => []) (sp := fun _ => none) hmix Tlook_ok (td := fun _ => none) (fun _ _ h => by cases h) (it := fun _ => none) (fun _ _ h => by cases h) Tryz.func86 (by kernel_rfl) (by kernel_rfl) ?_
  refine Eq.mp (α :=
      let Aa := (23 : TypeId); let Ah := (130 : TypeId); let A2 := nat_lit 0 = nat_lit 0 ∧ nat_lit 0 = nat_lit 0 ∧ nat_lit 0 = nat_lit 0; let Ai := ps = ps ∧ True; let Aj := List.length ps < nat_lit 1000000; let Ak := nat_lit 23 = Aa; let Al := (↑(List.length st) : Int); let A5 := Value.int IntKind.i64 (0 : Int); let Am := Value.int IntKind.i64 (10 : Int); let An := True ∧ True ∧ True ∧ True ∧ True ∧ True; let A6 := Value.int IntKind.i64 change = Value.int IntKind.i64 change; let A7 := Value.int IntKind.i64 rise = Value.int IntKind.i64 rise; let A8 := Value.int IntKind.i64 long = Value.int IntKind.i64 long; let Ao := AV.v A5; let Ap := Value.int IntKind.i64 Al; let Aq := ((0 : Int), (0 : Int)); let A9 := nat_lit 0 = nat_lit 0 ∧ nat_lit 0 = nat_lit 0 ∧ List.length ps = List.length ps; let A3 := nat_lit 0 = nat_lit 0 ∧ nat_lit 0 = nat_lit 0 ∧ List.length st = List.length st; let A0 : Type := { i : Nat // (i ≤ (List.length (PlotT.steps (PlotT.mk (GroundT.mk long rise change ps) st)))) }; let Ab := fun (x : A0) => Subtype.val x; let Ar := Ao = Ao; let As := (Am = Am) ∧ True; let At := ((0 : Int), Aq); let A4 := fun (x : A0) => (↑(Ab x) : Int); let Au := Ap = Ap; let Av := fun (t : A0) => Int.toNat (A4 t); let Aw := fun (x : A0) => Value.int IntKind.i64 (A4 x); let Ac := (Prod.snd (hardOM (GroundT.mk long rise change ps) (0 : Int))) == (0 : Int); let Ax := Value.bool Ac; let Ad := Ac = true; let Ay := fun (x : A0) => List.length st - Ab x; let Ae := Ac = false; let A1 := fun (x : A0) => List.take (Ab x) (worksM (PlotT.mk (GroundT.mk long rise change ps) st)); let Az := fun (t : A0) => nat_lit 0 + Av t; let AA := fun (t : A0) => A4 t < Al; let AB := A8 ∧ A7 ∧ A6 ∧ A9 ∧ True; let AC := fun (t : A0) => ((List.length (A1 t)) + nat_lit 1) ≤ nat_lit 1099511627776; let AD := fun (t : A0) => List.getD st (Az t) At; let Af := A8 ∧ A7 ∧ A6 ∧ A9 ∧ A3 ∧ True; let AE := fun (x t : A0) => Ay x < Ay t; let AF := fun (t : A0) => Prod.fst (AD t); let AG := fun (t : A0) => Prod.snd (AD t); let Ag := A8 ∧ A7 ∧ A6 ∧ A9 ∧ A3 ∧ nat_lit 0 = nat_lit 0 ∧ True; let AH := fun (t : A0) => List.getD st (((0 : Nat) + Av t)) At; let AI := fun (t : A0) => Prod.fst (AG t); let AJ := fun (t : A0) => Value.int IntKind.i64 (AF t); let AK := fun (t : A0) => Value.int IntKind.i64 (AI t); let AL := fun (t : A0) => decide (AA t); let AM := fun (t : A0) => (Prod.snd (AG t)) == (0 : Int); let AN := (Ax = Ax) ∧ As; let AO := fun (t x : A0) => A2 ∧ (A2 ∧ (A3 ∧ (Au ∧ (((Value.int IntKind.i64 ((IntKind.wrap IntKind.i64 ((A4 t + (1 : Int)))))) = Aw x) ∧ True)))); let AP := fun (t : A0) => Prod.fst ((workOM (GroundT.mk long rise change ps) (AF t) (AI t))); let AQ := fun (t : A0) => Prod.snd (AP t); let AR := fun (t : A0) => Prod.fst (AP t); let AS := fun (t : A0) => workOM (GroundT.mk long rise change ps) ((Prod.fst (AH t))) ((Prod.fst ((Prod.snd (AH t))))); Aj ∧ (AB ∧ A5 = A5 ∧ True) ∧ Ai ∧ True ∧ (Ad → AN ∧ True ∧ (∃ (x : A0), An ∧ (True ∧ True ∧ An ∧ True ∧ (True ∧ True ∧ True ∧ True ∧ True ∧ nat_lit 0 = nat_lit 0 ∧ True) ∧ A1 x = [] ∧ True) ∧ (A2 ∧ A2 ∧ A3 ∧ Au ∧ A5 = Aw x ∧ True) ∧ True ∧ ps = ps ∧ st = st ∧ Af ∧ True ∧ (A8 ∧ A7 ∧ A6 ∧ A9 ∧ A3 ∧ Value.slice none (nat_lit 0) (nat_lit 0) = Value.slice none (nat_lit 0) (nat_lit 0) ∧ True) ∧ True ∧ True) ∧ ∀ (t : A0), (AL t = true → ((0 : Int) ≤ A4 t ∧ AA t) ∧ Az t < List.length st ∧ (AM t = true → Aj ∧ (AB ∧ AJ t = AJ t ∧ AK t = AK t ∧ True) ∧ Ai ∧ (nat_lit 1 = nat_lit 1 ∧ AV.v (Value.int IntKind.i64 (AR t)) = AV.v (Value.int IntKind.i64 (Prod.fst (Prod.fst (AS t)))) ∧ AV.v (Value.int IntKind.i64 (AQ t)) = AV.v (Value.int IntKind.i64 (AQ t)) ∧ True) ∧ nat_lit 1 ≤ nat_lit 1 ∧ AC t ∧ True ∧ ∃ (x : A0), (AO t x ∧ True ∧ ps = ps ∧ st = st ∧ Af ∧ True ∧ Ag ∧ (Ak ∧ A1 t ++ List.take (1 : Nat) (List.drop (0 : Nat) [(AR t, Prod.snd (Prod.fst (AS t)))]) = A1 x) ∧ True) ∧ AE x t) ∧ (AM t = false → (nat_lit 1 = nat_lit 1 ∧ Ar ∧ Ar ∧ True) ∧ nat_lit 1 ≤ nat_lit 1 ∧ AC t ∧ True ∧ ∃ (x : A0), (AO t x ∧ True ∧ ps = ps ∧ st = st ∧ Af ∧ True ∧ Ag ∧ (Ak ∧ A1 t ++ List.take (1 : Nat) (List.drop (0 : Nat) [Aq]) = A1 x) ∧ True) ∧ AE x t)) ∧ (AL t = false → (Ad → True ∧ (A2 ∧ True) ∧ True ∧ ps = ps ∧ st = st ∧ (Aa = Aa ∧ A1 t = worksM (PlotT.mk (GroundT.mk long rise change ps) st)) ∧ Ag ∧ True) ∧ (Ae → False))) ∧ (Ae → AN ∧ True ∧ (Ad → False) ∧ (Ae → True ∧ Ah = Ah ∧ As)))
    (by kernel_rfl) ?_
  simp only [eq_self, AE.goS]
  obtain ⟨h1, h2⟩ := hx
  have h2' : st.length < 1000000 := h2
  refine ⟨h1, fun hh => ⟨⟨⟨0, Nat.zero_le _⟩, rfl, rfl⟩, fun t => ⟨fun ht => ?_, fun ht => ⟨fun _ => ?_, fun h => absurd (hh.symm.trans h) (by decide)⟩⟩⟩, fun hh => ⟨fun h => absurd (hh.symm.trans h) (by decide), fun _ => trivial⟩⟩
  · obtain ⟨i, hi⟩ := t
    have hlt : i < st.length := by have h1 : (i : Int) < (st.length : Int) := ht; omega
    have hs := works_snoc ⟨⟨long, rise, change, ps⟩, st⟩ i hlt
    have hl : ((worksM ⟨⟨long, rise, change, ps⟩, st⟩).take i).length ≤ i := List.length_take_le _ _
    refine ⟨⟨Int.natCast_nonneg _, ht⟩, hlt, fun hr => ⟨h1, Nat.le_refl _, by show ((worksM ⟨⟨long, rise, change, ps⟩, st⟩).take i).length + 1 ≤ _; omega, ⟨i + 1, hlt⟩, ⟨sucI i (by omega), ?_⟩, dec1 hlt⟩, fun hr => ⟨Nat.le_refl _, by show ((worksM ⟨⟨long, rise, change, ps⟩, st⟩).take i).length + 1 ≤ _; omega, ⟨i + 1, hlt⟩, ⟨sucI i (by omega), ?_⟩, dec1 hlt⟩⟩
    · have hr' : ((st.getD i (0, 0, 0)).2.2 == 0) = true := hr
      simp only [hs, wM, hr', if_true]
      rfl
    · have hr' : ((st.getD i (0, 0, 0)).2.2 == 0) = false := hr
      simp only [hs, wM, hr']
      rfl
  · obtain ⟨i, hi⟩ := t
    have hie : i = st.length := by have h1 : ¬ (i : Int) < (st.length : Int) := ht; omega
    exact List.take_of_length_le (by rw [works_len]; exact Nat.le_of_eq hie.symm)

theorem look_sound : Sound Tryz.prog 86 lookS.con := FSpec2.sound _ (enter_of Tryz.func86 (by kernel_rfl) (by kernel_rfl)) look_ok
def stpM (l : List StepT) (i : Nat) : Bool × Int := (decide ((l.getD i (0, 0, 0)).2.2 > 0), (i : Int))
def stepsM (l : List StepT) : List (Bool × Int) := (List.range l.length).map fun i => stpM l i
theorem steps_len (l : List StepT) : (stepsM l).length = l.length := by simp [stepsM]
theorem steps_snoc (l : List StepT) (i : Nat) (h : i < l.length) : (stepsM l).take (i + 1) = (stepsM l).take i ++ [stpM l i] := by
  rw [take_snoc _ i (by rw [steps_len]; exact h) (true, 0)]
  congr 1
  simp [stepsM, List.getD_eq_getElem?_getD, h]
def avSteps (H : Heap UU) : AV → Option (List StepT)
  | .ptr i 0 0 0 => match blkAt H i 0 with
    | some (.cells [_, _, _, _, a, _] _) => sliceAt .tstep H a
    | some (.rc [_, _, _, _, a, _] _) => sliceAt .tstep H a
    | _ => none
  | _ => none
def hSteps (l : List StepT) : Heap UU := [.one (.rc [.junk, .junk, .junk, .junk, .sl 1 0 0 l.length, .junk] 136), .one (.ro .tstep l)]
def stepsL (l : List StepT) : LSpec UU where
  T := { i : Nat // i ≤ l.length }
  fr := fun i => [(0, .ptr 0 0 0 0), (2, .gs 2 0), (9, .sl 1 0 0 l.length), (10, .i l.length), (11, .i i.1)]
  H := fun i => hSteps l ++ [.one (.row (.stp 0) ((stepsM l).take i.1) 99)]
  mu := fun i => l.length - i.1
def stepsS : FSpec UU where
  X := List StepT
  pick := fun args H => match args with
    | [a] => avSteps H a
    | _ => none
  args := fun _ => [.ptr 0 0 0 0]
  H := fun l => hSteps l
  R := fun l => .val ⟨.gs 2 0, [], [], [.row (.stp 0) (stepsM l) 99]⟩
  pre := fun l => l.length < 1000000
theorem steps_ok : ∀ x, stepsS.pre x → FunOk Tryz.prog 57 (stepsS.args x) (stepsS.H x) (stepsS.R x) := by
  intro (l : List StepT) hx
  refine fun_of (T := []) (L := fun _ => some (.inv (stepsL l))) (hs := fun _ => []) hmix .nil Tryz.func57 (by kernel_rfl) (by kernel_rfl) ?_
  refine Eq.mp (α :=
      let Ab := True ∧ True ∧ True ∧ True; let A6 := (99 : TypeId); let A7 := nat_lit 0 = nat_lit 0 ∧ nat_lit 0 = nat_lit 0 ∧ nat_lit 0 = nat_lit 0; let Ac := nat_lit 99 = A6; let Ad := (↑(List.length l) : Int); let A8 : List (Bool × Int) := []; let A0 : Type := { i : Nat // (i ≤ List.length l) }; let Ae := Value.int IntKind.i64 Ad; let A9 := fun (x : A0) => Subtype.val x; let A3 := nat_lit 0 = nat_lit 0 ∧ nat_lit 0 = nat_lit 0 ∧ List.length l = List.length l; let A1 := fun (x : A0) => (↑(A9 x) : Int); let Aa := fun (x : A0) => Value.int IntKind.i64 (A1 x); let Af := fun (x : A0) => List.length l - A9 x; let A4 := True ∧ True ∧ True ∧ True ∧ A3 ∧ True ∧ True; let Ag := Ae = Ae; let A2 := fun (x : A0) => List.take (A9 x) (stepsM l); let Ah := fun (t : A0) => nat_lit 0 + (Int.toNat (A1 t)); let Ai := fun (t : A0) => A1 t < Ad; let A5 := fun (t : A0) => AV.agg ((AV.ptr (nat_lit 0) (nat_lit 0) (nat_lit 0) (nat_lit 0) :: ([(AV.v (Aa t))]))); let Aj := fun (t : A0) => AV.ifc (nat_lit 139) (A5 t); let Ak := fun (t : A0) => AV.ifc (nat_lit 138) (A5 t); let Al := fun (t : A0) => AV.ifc ((138 : TypeId)) (A5 t); let Am := fun (t : A0) => AV.ifc ((139 : TypeId)) (A5 t); let An := fun (t : A0) => ((List.length (A2 t)) + nat_lit 1) ≤ nat_lit 1099511627776; let Ao := fun (x t : A0) => Af x < Af t; let Ap := fun (t : A0) => decide (Ai t); let Aq := fun (t x : A0) => Ag ∧ (((Value.int IntKind.i64 ((IntKind.wrap IntKind.i64 ((A1 t + (1 : Int)))))) = Aa x) ∧ True); let Ar := fun (t : A0) => decide (((Prod.snd ((Prod.snd ((List.getD l (Ah t) (((0 : Int), (((0 : Int), (0 : Int)))))))))) > (0 : Int))); (∃ (x : A0), (True ∧ nat_lit 0 = nat_lit 0 ∧ Ab) ∧ ((True ∧ True ∧ True ∧ Ab) ∧ True ∧ A2 x = A8 ∧ True) ∧ (A7 ∧ Value.slice none (nat_lit 0) (nat_lit 0) = Value.slice none (nat_lit 0) (nat_lit 0) ∧ A3 ∧ Ag ∧ Value.int IntKind.i64 (0 : Int) = Aa x ∧ True) ∧ True ∧ A4 ∧ l = l ∧ True ∧ True) ∧ ∀ (t : A0), (Ap t = true → ((0 : Int) ≤ A1 t ∧ Ai t) ∧ Ah t < List.length l ∧ (Ar t = true → (nat_lit 1 = nat_lit 1 ∧ ((true = true → Ak t = Al t) ∧ (true = false → Ak t = Am t)) ∧ True) ∧ nat_lit 1 ≤ nat_lit 1 ∧ An t ∧ True ∧ ∃ (x : A0), ((A7 ∧ nat_lit 0 = nat_lit 0 ∧ A3 ∧ Aq t x) ∧ True ∧ A4 ∧ l = l ∧ (Ac ∧ A2 t ++ List.take (1 : Nat) (List.drop (0 : Nat) ((true, A1 t) :: A8)) = A2 x) ∧ True) ∧ Ao x t) ∧ (Ar t = false → (nat_lit 1 = nat_lit 1 ∧ ((false = true → Aj t = Al t) ∧ (false = false → Aj t = Am t)) ∧ True) ∧ nat_lit 1 ≤ nat_lit 1 ∧ An t ∧ True ∧ ∃ (x : A0), ((A7 ∧ nat_lit 0 = nat_lit 0 ∧ A3 ∧ Aq t x) ∧ True ∧ A4 ∧ l = l ∧ (Ac ∧ A2 t ++ List.take (1 : Nat) (List.drop (0 : Nat) ((false, A1 t) :: A8)) = A2 x) ∧ True) ∧ Ao x t)) ∧ (Ap t = false → True ∧ (nat_lit 0 = nat_lit 0 ∧ True) ∧ True ∧ A4 ∧ l = l ∧ (A6 = A6 ∧ A2 t = stepsM l) ∧ True))
    (by kernel_rfl) ?_
  simp only [eq_self, AE.goS]
  have hx' : l.length < 1000000 := hx
  refine ⟨⟨⟨0, Nat.zero_le _⟩, rfl, rfl⟩, fun t => ⟨fun ht => ?_, fun ht => ?_⟩⟩
  · obtain ⟨i, hi⟩ := t
    have hlt : i < l.length := by have h1 : (i : Int) < (l.length : Int) := ht; omega
    have hs := steps_snoc l i hlt
    have hl : ((stepsM l).take i).length ≤ i := List.length_take_le _ _
    refine ⟨⟨Int.natCast_nonneg _, ht⟩, hlt, fun hr => ⟨⟨fun _ => trivial, fun h => absurd h (by decide)⟩, Nat.le_refl _, by show ((stepsM l).take i).length + 1 ≤ _; omega, ⟨i + 1, hlt⟩, ⟨sucI i (by omega), ?_⟩, dec1 hlt⟩, fun hr => ⟨⟨fun h => absurd h (by decide), fun _ => trivial⟩, Nat.le_refl _, by show ((stepsM l).take i).length + 1 ≤ _; omega, ⟨i + 1, hlt⟩, ⟨sucI i (by omega), ?_⟩, dec1 hlt⟩⟩
    · have hr' : (l.getD i (0, 0, 0)).2.2 > 0 := hr
      have e : stpM l i = (true, (i : Int)) := by unfold stpM; rw [decide_eq_true hr']
      rw [hs, e]
      rfl
    · have hr' : ¬ (l.getD i (0, 0, 0)).2.2 > 0 := hr
      have e : stpM l i = (false, (i : Int)) := by unfold stpM; rw [decide_eq_false hr']
      rw [hs, e]
      rfl
  · obtain ⟨i, hi⟩ := t
    have hie : i = l.length := by have h1 : ¬ (i : Int) < (l.length : Int) := ht; omega
    exact List.take_of_length_le (Nat.le_of_eq ((steps_len l).trans hie.symm))

theorem steps_sound : Sound Tryz.prog 57 stepsS.con := FSpec.sound _ (enter_of Tryz.func57 (by kernel_rfl) (by kernel_rfl)) steps_ok
end AE.Team

namespace AE.Team
open Go AE Go.Proofs AE.Soil

def restM (h : HorT) (r now : Int) : Int := min h.2.2.2.1 (W (now + W (h.2.2.1 * r)))
def ofM (h : HorT) (w : Span) : Int := if h.2.2.2.2 then w.2 else w.1
def furrowM (h : HorT) (w : Span) (now : Int) : Int := W (now - W (Int.tdiv (W (W (h.2.1 * ofM h w) + 99)) 100))
def avHor : List AV → Option HorT
  | [a, b, c, d, f] => match avInt a, avInt b, avInt c, avInt d with
    | some a, some b, some c, some d => match f with
      | .alt k _ _ => some (a, b, c, d, k)
      | .fn (.func n) _ _ => some (a, b, c, d, Nat.beq n 88)
      | _ => none
    | _, _, _, _ => none
  | _ => none
def doRS : FSpec UU where
  X := List StepT × Int × HorT × Int
  pick := fun args H => match args with
    | [.agg [p, n], .agg h, now] => match avSteps H p, avInt n, avHor h, avInt now with
      | some l, some n, some h, some now => some (l, n, h, now)
      | _, _, _, _ => none
    | _ => none
  args := fun x => [.agg [.ptr 0 0 0 0, .i x.2.1], .agg (lHor x.2.2.1), .i x.2.2.2]
  H := fun x => hSteps x.1
  R := fun x => .val ⟨.i (restM x.2.2.1 (x.1.getD x.2.1.toNat (0, 0, 0)).2.2 x.2.2.2), [], [], []⟩
  pre := fun x => 0 ≤ x.2.1 ∧ x.2.1 < x.1.length
theorem doR_ok : ∀ x, doRS.pre x → FunOk Tryz.prog 152 (doRS.args x) (doRS.H x) (doRS.R x) := by
  rintro ⟨l, n, ⟨hs, hl, hg, hf, hk⟩, now⟩ hx
  refine fun_of (T := []) (L := fun _ => none) (hs := fun _ => []) hmix .nil Tryz.func152 (by kernel_rfl) (by kernel_rfl) ?_
  refine Eq.mp (α :=
      let A0 := ((0 : Int), (0 : Int), (0 : Int)); ((0 : Int) ≤ n ∧ n < (↑(List.length l) : Int)) ∧ nat_lit 0 + Int.toNat n < List.length l ∧ True ∧ (Value.int IntKind.i64 (min hf (IntKind.wrap IntKind.i64 (now + IntKind.wrap IntKind.i64 (hg * Prod.snd (Prod.snd (List.getD l ((0 : Nat) + Int.toNat n) A0)))))) = Value.int IntKind.i64 (restM (hs, hl, hg, hf, hk) (Prod.snd (Prod.snd (List.getD l (Int.toNat n) A0))) now) ∧ True) ∧ True ∧ (True ∧ True ∧ True ∧ True ∧ (nat_lit 0 = nat_lit 0 ∧ nat_lit 0 = nat_lit 0 ∧ List.length l = List.length l) ∧ True ∧ True) ∧ l = l ∧ True)
    (by kernel_rfl) ?_
  simp only [eq_self, AE.goS]
  have h1 : 0 ≤ n := hx.1
  have h2 : n < (l.length : Int) := hx.2
  exact ⟨⟨h1, h2⟩, by omega, rfl⟩

theorem doR_sound : Sound Tryz.prog 152 doRS.con := FSpec.sound _ (enter_of Tryz.func152 (by kernel_rfl) (by kernel_rfl)) doR_ok
def avWorks (H : Heap UU) : AV → Option (List Span)
  | .ptr i 0 0 0 => match blkAt H i 0 with
    | some (.cells [_, _, _, _, _, a] _) => sliceAt .span H a
    | some (.rc [_, _, _, _, _, a] _) => sliceAt .span H a
    | _ => none
  | _ => none
def hWorks (l : List Span) : Heap UU := [.one (.rc [.junk, .junk, .junk, .junk, .junk, .sl 1 0 0 l.length] 136), .one (.ro .span l)]
def doFS : FSpec UU where
  X := List Span × Int × HorT × Int
  pick := fun args H => match args with
    | [.agg [p, n], .agg h, now] => match avWorks H p, avInt n, avHor h, avInt now with
      | some l, some n, some h, some now => some (l, n, h, now)
      | _, _, _, _ => none
    | _ => none
  args := fun x => [.agg [.ptr 0 0 0 0, .i x.2.1], .agg (lHor x.2.2.1), .i x.2.2.2]
  H := fun x => hWorks x.1
  R := fun x => .val ⟨.i (furrowM x.2.2.1 (x.1.getD x.2.1.toNat (0, 0)) x.2.2.2), [], [], []⟩
  pre := fun x => 0 ≤ x.2.1 ∧ x.2.1 < x.1.length
def TdoF : Tab UU := [(87, loS.con), (88, hiS.con)]
theorem TdoF_ok : TdoF.Sound Tryz.prog := .cons lo_sound (.cons hi_sound .nil)
theorem doF_ok : ∀ x, doFS.pre x → FunOk Tryz.prog 153 (doFS.args x) (doFS.H x) (doFS.R x) := by
  rintro ⟨l, n, ⟨hs, hl, hg, hf, hk⟩, now⟩ hx
  refine fun_of (T := TdoF) (L := fun _ => none) (hs := fun _ => []) hmix TdoF_ok Tryz.func153 (by kernel_rfl) (by kernel_rfl) ?_
  refine Eq.mp (α :=
      let A0 := nat_lit 0 + Int.toNat n; let A1 := (100 : Int) ≠ (0 : Int); let A2 := ((0 : Int), (0 : Int)); let A3 := List.getD l A0 A2; let A4 := Prod.fst A3; let A5 := Prod.snd A3; let A6 := Value.int IntKind.i64 A4; let A7 := Value.int IntKind.i64 A5; let A8 := True ∧ (True ∧ True ∧ True ∧ True ∧ True ∧ (nat_lit 0 = nat_lit 0 ∧ nat_lit 0 = nat_lit 0 ∧ List.length l = List.length l) ∧ True) ∧ l = l ∧ True; let A9 := Value.int IntKind.i64 (furrowM ((hs, ((hl, ((hg, hf, hk)))))) (List.getD l (Int.toNat n) A2) now); let Aa := A6 = A6; let Ab := A7 = A7; ((0 : Int) ≤ n ∧ n < (↑(List.length l) : Int)) ∧ A0 < List.length l ∧ (hk = true → True ∧ ((Aa ∧ Ab ∧ True) ∧ True) ∧ True ∧ A1 ∧ True ∧ (Value.int IntKind.i64 (IntKind.wrap IntKind.i64 (now - IntKind.wrap IntKind.i64 (Int.tdiv (IntKind.wrap IntKind.i64 (IntKind.wrap IntKind.i64 (hl * A5) + (99 : Int))) (100 : Int)))) = A9 ∧ True) ∧ A8) ∧ (hk = false → True ∧ ((Aa ∧ Ab ∧ True) ∧ True) ∧ True ∧ A1 ∧ True ∧ (Value.int IntKind.i64 (IntKind.wrap IntKind.i64 (now - IntKind.wrap IntKind.i64 (Int.tdiv (IntKind.wrap IntKind.i64 (IntKind.wrap IntKind.i64 (hl * A4) + (99 : Int))) (100 : Int)))) = A9 ∧ True) ∧ A8))
    (by kernel_rfl) ?_
  simp only [eq_self, AE.goS]
  have h1 : 0 ≤ n := hx.1
  have h2 : n < (l.length : Int) := hx.2
  refine ⟨⟨h1, h2⟩, by omega, fun h => ⟨by decide, ?_⟩, fun h => ⟨by decide, ?_⟩⟩
  · subst h; rfl
  · subst h; rfl

theorem doF_sound : Sound Tryz.prog 153 doFS.con := FSpec.sound _ (enter_of Tryz.func153 (by kernel_rfl) (by kernel_rfl)) doF_ok
def behindS : FSpec UU where
  X := HorT
  pick := fun args _ => match args with
    | [_, .agg h] => avHor h
    | _ => none
  args := fun (h : HorT) => [.ptr 0 0 0 0, .agg (lHor h)]
  H := fun _ => [.one (.rc [.junk, .junk, .junk, .junk, .junk, .junk] 136)]
  R := fun (h : HorT) => .val ⟨.fn (.func 89) [] [.ptr 2 0 0 0, .ptr 1 0 0 0], [], [], [.cells [.ptr 0 0 0 0] 71, .cells (lHor h) 75]⟩
theorem behind_ok : ∀ x, behindS.pre x → FunOk Tryz.prog 49 (behindS.args x) (behindS.H x) (behindS.R x) := by
  rintro ⟨hs, hl, hg, hf, hk⟩ _
  refine fun_of (T := []) (L := fun _ => none) (hs := fun _ => []) hmix .nil Tryz.func49 (by kernel_rfl) (by kernel_rfl) ?_
  refine Eq.mp (α :=
      let A1 := (88 : FuncId); let A2 := (87 : FuncId); let A0 := nat_lit 0 = nat_lit 0 ∧ nat_lit 0 = nat_lit 0 ∧ nat_lit 0 = nat_lit 0; True ∧ ((Fn.func (nat_lit 89) = Fn.func (89 : FuncId) ∧ True ∧ A0 ∧ A0 ∧ True) ∧ True) ∧ True ∧ (True ∧ True ∧ True ∧ True ∧ True ∧ True ∧ True) ∧ (A0 ∧ True) ∧ (Value.int IntKind.i64 hs = Value.int IntKind.i64 hs ∧ Value.int IntKind.i64 hl = Value.int IntKind.i64 hl ∧ Value.int IntKind.i64 hg = Value.int IntKind.i64 hg ∧ Value.int IntKind.i64 hf = Value.int IntKind.i64 hf ∧ (hk = hk ∧ (Fn.func A1 = Fn.func A1 ∧ True ∧ True) ∧ Fn.func A2 = Fn.func A2 ∧ True ∧ True) ∧ True) ∧ True)
    (by kernel_rfl) ?_
  simp

theorem behind_sound : Sound Tryz.prog 49 behindS.con := FSpec.sound _ (enter_of Tryz.func49 (by kernel_rfl) (by kernel_rfl)) behind_ok
end AE.Team

namespace AE.Team
open Go AE Go.Proofs AE.Soil

def doM (h : HorT) (s : StepT) (w : Span) (now : Int) : Int := if s.2.2 > 0 then restM h s.2.2 now else furrowM h w now
def nowM (l : List StepT) (w : List Span) (h : HorT) : Nat → Int
  | 0 => h.1
  | i + 1 => doM h (l.getD i (0, 0, 0)) (w.getD i (0, 0)) (nowM l w h i)
def failedM (l : List StepT) (w : List Span) (h : HorT) : Int × Bool := match (List.range l.length).find? fun i => decide (nowM l w h (i + 1) < 0) with
  | some i => ((i : Int), true)
  | none => (0, false)
theorem failed_some {l : List StepT} {w : List Span} {h : HorT} {i : Nat} (hi : i < l.length) (h1 : nowM l w h (i + 1) < 0) (h0 : ∀ j, j < i → 0 ≤ nowM l w h (j + 1)) : failedM l w h = ((i : Int), true) := by
  have : (List.range l.length).find? (fun i => decide (nowM l w h (i + 1) < 0)) = some i := by
    rw [List.find?_range_eq_some]
    refine ⟨decide_eq_true h1, List.mem_range.2 hi, fun j hj => ?_⟩
    have := h0 j hj
    simp only [Bool.not_eq_true', decide_eq_false_iff_not]
    omega
  unfold failedM; rw [this]
theorem failed_none {l : List StepT} {w : List Span} {h : HorT} (h0 : ∀ j, j < l.length → 0 ≤ nowM l w h (j + 1)) : failedM l w h = (0, false) := by
  have : (List.range l.length).find? (fun i => decide (nowM l w h (i + 1) < 0)) = none := by
    rw [List.find?_range_eq_none]
    intro j hj
    have := h0 j hj
    simp only [Bool.not_eq_true', decide_eq_false_iff_not]
    omega
  unfold failedM; rw [this]
theorem steps_get (l : List StepT) (i : Nat) (h : i < l.length) : (stepsM l).getD i (true, 0) = stpM l i := by
  simp [stepsM, List.getD_eq_getElem?_getD, h]
theorem now_rest {l : List StepT} (w : List Span) (h : HorT) {i : Nat} (hr : (stpM l i).1 = true) : nowM l w h (i + 1) = restM h (l.getD i (0, 0, 0)).2.2 (nowM l w h i) := by
  have h1 : (l.getD i (0, 0, 0)).2.2 > 0 := of_decide_eq_true hr
  show doM h _ _ _ = _
  unfold doM; rw [if_pos h1]
theorem now_furrow {l : List StepT} (w : List Span) (h : HorT) {i : Nat} (hr : (stpM l i).1 = false) : nowM l w h (i + 1) = furrowM h (w.getD i (0, 0)) (nowM l w h i) := by
  have h1 : ¬ (l.getD i (0, 0, 0)).2.2 > 0 := of_decide_eq_false hr
  show doM h _ _ _ = _
  unfold doM; rw [if_neg h1]
theorem below_succ {p : Nat → Prop} {i : Nat} (h : ∀ j, j < i → p j) (hi : p i) : ∀ j, j < i + 1 → p j := by
  intro j hj
  rcases Nat.lt_or_eq_of_le (Nat.le_of_lt_succ hj) with h2 | rfl
  · exact h j h2
  · exact hi
def hPl (l : List StepT) (w : List Span) : Heap UU := [.one (.rc [.junk, .junk, .junk, .junk, .sl 1 0 0 l.length, .sl 2 0 0 w.length] 136), .one (.ro .tstep l), .one (.ro .span w)]
def avPl (H : Heap UU) : AV → Option (List StepT × List Span)
  | .ptr i 0 0 0 => match blkAt H i 0 with
    | some (.cells [_, _, _, _, a, b] _) => match sliceAt .tstep H a, sliceAt .span H b with
      | some a, some b => some (a, b)
      | _, _ => none
    | some (.rc [_, _, _, _, a, b] _) => match sliceAt .tstep H a, sliceAt .span H b with
      | some a, some b => some (a, b)
      | _, _ => none
    | _ => none
  | _ => none
def failHc (l : List StepT) (w : List Span) (h : HorT) : Heap UU := hPl l w ++ [.one (.cells (lHor h) 75), .one (.cells [.i 0] 3), .one (.cells [.b false] 4), .one (.cells [.ptr 0 0 0 0] 71), .one (.cells (lHor h) 75)]
def itFail (l : List StepT) (w : List Span) (h : HorT) (y : Nat) (_ : Nat) : Option (LRule UU) := some (.inv {
  T := { i : Nat // i ≤ l.length ∧ ∀ j, j < i → 0 ≤ nowM l w h (j + 1) }
  fr := fun i => [(0, .fn (.yield y) [] []), (1, .ptr 7 0 0 0), (2, .ptr 6 0 0 0), (4, .i (nowM l w h i.1)), (10, .gs 8 0), (11, .i l.length), (12, .i i.1)]
  H := fun _ => failHc l w h ++ [.one (.row (.stp 0) (stepsM l) 99)]
  mu := fun i => l.length - i.1 })
def Tit : Tab UU := [(57, stepsS.con), (152, doRS.con), (153, doFS.con)]
theorem Tit_ok : Tit.Sound Tryz.prog := .cons steps_sound (.cons doR_sound (.cons doF_sound .nil))
theorem itB_ok {L : Nat → Nat → Option (LRule UU)} : ItOk Tryz.prog (itOf Tryz.prog Tit 89 Tryz.f89 L (fun _ => []) (fun _ => none)) :=
  itOf_ok hmix Tit_ok Tryz.func89 (by kernel_rfl) (by kernel_rfl) (enter_of Tryz.func89 (by kernel_rfl) (by kernel_rfl))
def onlyAt (n : Nat) (i : ItW UU) (k : Nat) : Option (ItW UU) := match Nat.beq k n with
  | true => some i
  | false => none
theorem onlyAt_ok {n : Nat} {i : ItW UU} (h : ItOk Tryz.prog i) : ∀ k j, onlyAt n i k = some j → ItOk Tryz.prog j := by
  intro k j hk
  unfold onlyAt at hk
  split at hk
  · cases hk; exact h
  · cases hk
def failedS : FSpec UU where
  X := (List StepT × List Span) × HorT
  pick := fun args H => match args with
    | [a, .agg h] => match avPl H a, avHor h with
      | some a, some h => some (a, h)
      | _, _ => none
    | _ => none
  args := fun x => [.ptr 0 0 0 0, .agg (lHor x.2)]
  H := fun x => hPl x.1.1 x.1.2
  R := fun x => .val ⟨.tup [.i (failedM x.1.1 x.1.2 x.2).1, .b (failedM x.1.1 x.1.2 x.2).2], [], [], []⟩
  pre := fun x => x.1.2.length = x.1.1.length ∧ x.1.1.length < 1000000
def Tfailed : Tab UU := [(49, behindS.con)]
theorem Tfailed_ok : Tfailed.Sound Tryz.prog := .cons behind_sound .nil
theorem failed_ok : ∀ x, failedS.pre x → FunOk Tryz.prog 43 (failedS.args x) (failedS.H x) (failedS.R x) := by
  rintro ⟨⟨l, w⟩, ⟨hs, hl, hg, hf, hk⟩⟩ hx
  refine fun_ofG (T := Tfailed) (L := fun _ => none) (hs := fun _ => []) (sp := fun _ => none) hmix Tfailed_ok (tl := fun _ => none) (fun _ _ h => by cases h) (it := onlyAt 4 (itOf Tryz.prog Tit 89 Tryz.f89 (itFail l w (hs, hl, hg, hf, hk)) (fun _ => []) (fun _ => none))) (onlyAt_ok itB_ok) Tryz.func43 (by kernel_rfl) (by kernel_rfl) ?_
  refine Eq.mp (α :=
      let Aj := (99 : TypeId); let A1 := nat_lit 0 = nat_lit 0 ∧ nat_lit 0 = nat_lit 0 ∧ nat_lit 0 = nat_lit 0; let Ak := Fn.func ((88 : FuncId)); let Al := Fn.func ((87 : FuncId)); let Am := w = w ∧ True; let Aa := (↑(List.length l) : Int); let Ab := fun (l : Nat) => Fn.yield l = Fn.yield l ∧ True ∧ True; let A7 := Value.int IntKind.i64 (0 : Int); let A8 := A1 ∧ True; let Ac := (Value.bool false = Value.bool false) ∧ True; let Ad := Value.int IntKind.i64 Aa; let An := ((0 : Int), (0 : Int)); let Ao := List.length (stepsM l); let Ae := Aj = Aj; let Ap := nat_lit 0 = nat_lit 0 ∧ nat_lit 0 = nat_lit 0 ∧ List.length l = List.length l; let Aq := (nat_lit 0 = nat_lit 0 ∧ nat_lit 0 = nat_lit 0 ∧ List.length w = List.length w) ∧ True; let Af := (A7 = A7) ∧ True; let A4 := (hs, ((hl, ((hg, hf, hk))))); let Ar := failedM l w A4; let As := Value.bool (Prod.snd Ar); let At := Value.int IntKind.i64 (Prod.fst Ar); let Au := (True ∧ True ∧ True ∧ True ∧ Ap ∧ True ∧ True) ∧ l = l ∧ True; let A9 := True ∧ True ∧ True ∧ True ∧ Ap ∧ Aq; let AN := fun (i : Nat) => ∀ (j : Nat), (j < i → ((0 : Int) ≤ (nowM l w A4 ((j + (1 : Nat)))))); let Av := True ∧ A9 ∧ l = l ∧ Am; let A0 : Type := { i : Nat // ((i ≤ List.length l) ∧ AN i) }; let Ag := fun (x : A0) => Subtype.val x; let A3 := fun (x : A0) => (↑(Ag x) : Int); let Ah := fun (x : A0) => Value.int IntKind.i64 (A3 x); let Aw := fun (x : A0) => List.length l - Ag x; let Ax := fun (t : A0) => nat_lit 0 + (Int.toNat (A3 t)); let A2 := (Value.int IntKind.i64 hs = Value.int IntKind.i64 hs) ∧ (Value.int IntKind.i64 hl = Value.int IntKind.i64 hl) ∧ (Value.int IntKind.i64 hg = Value.int IntKind.i64 hg) ∧ (Value.int IntKind.i64 hf = Value.int IntKind.i64 hf) ∧ (hk = hk ∧ ((Ak = Ak) ∧ True ∧ True) ∧ (Al = Al) ∧ True ∧ True) ∧ True; let Ai := fun (x : A0) => nowM l w A4 (Ag x); let A5 := fun (x : A0) => Value.int IntKind.i64 (Ai x); let Ay := fun (t : A0) => List.getD (stepsM l) (Ax t) ((true, (0 : Int))); let A6 := fun (t : A0) => Prod.snd (Ay t); let Az := fun (t : A0) => Prod.fst (Ay t); let AA := fun (t : A0) => Int.toNat (A6 t); let AB := fun (t : A0) => Value.int IntKind.i64 (A6 t); let AC := fun (t : A0) => (0 : Int) ≤ A6 t; let AD := fun (x t : A0) => Aw x < Aw t; let AE := fun (t : A0) => decide ((A3 t < Aa)); let AF := fun (t : A0) => (A5 t = A5 t) ∧ True; let AG := fun (t x : A0) => nat_lit 0 = nat_lit 0 ∧ ((Ad = Ad) ∧ (((Value.int IntKind.i64 ((IntKind.wrap IntKind.i64 ((A3 t + (1 : Int)))))) = Ah x) ∧ True)); let AH := fun (t : A0) => True ∧ (((Ah t = At) ∧ (As = Value.bool true) ∧ True) ∧ True) ∧ Av; let AI := fun (t : A0) => A1 ∧ (AB t = AB t) ∧ True; let AJ := fun (t : A0) => furrowM A4 ((List.getD w (AA t) An)) (Ai t); let AK := fun (t : A0) => restM A4 ((Prod.snd ((Prod.snd ((List.getD l (AA t) (((0 : Int), An)))))))) (Ai t); let AL := fun (t : A0) => decide ((AJ t ≥ (0 : Int))); let AM := fun (t : A0) => decide (AK t ≥ (0 : Int)); True ∧ (A1 ∧ A2 ∧ True) ∧ ((True ∧ True ∧ True ∧ True ∧ True ∧ True ∧ True) ∧ True) ∧ ∀ (l_1 : Nat), List.length l < nat_lit 1000000 ∧ A8 ∧ Au ∧ (∃ (x : A0), (Ab l_1 ∧ A1 ∧ A1 ∧ Value.int IntKind.i64 hs = A5 x ∧ nat_lit 0 = nat_lit 0 ∧ Value.int IntKind.i64 (↑(List.length (stepsM l)) : Int) = Ad ∧ A7 = Ah x ∧ True) ∧ True ∧ A9 ∧ l = l ∧ w = w ∧ A2 ∧ Af ∧ Ac ∧ A8 ∧ A2 ∧ (Ae ∧ stepsM l = stepsM l) ∧ True) ∧ ∀ (t : A0), (AE t = true → ((0 : Int) ≤ A3 t ∧ A3 t < (↑Ao : Int)) ∧ Ax t < Ao ∧ (Az t = true → (AC t ∧ A6 t < Aa) ∧ (AI t ∧ A2 ∧ AF t) ∧ Au ∧ l_1 = l_1 ∧ True ∧ (AM t = true → True ∧ ∃ (x : A0), ((Ab l_1 ∧ A1 ∧ A1 ∧ Value.int IntKind.i64 (AK t) = A5 x ∧ AG t x) ∧ True ∧ A9 ∧ l = l ∧ w = w ∧ A2 ∧ Af ∧ Ac ∧ A8 ∧ A2 ∧ (Ae ∧ stepsM l = stepsM l) ∧ True) ∧ AD x t) ∧ (AM t = false → AH t)) ∧ (Az t = false → (AC t ∧ A6 t < (↑(List.length w) : Int)) ∧ (AI t ∧ A2 ∧ AF t) ∧ ((True ∧ True ∧ True ∧ True ∧ True ∧ Aq) ∧ Am) ∧ l_1 = l_1 ∧ True ∧ (AL t = true → True ∧ ∃ (x : A0), ((Ab l_1 ∧ A1 ∧ A1 ∧ Value.int IntKind.i64 (AJ t) = A5 x ∧ AG t x) ∧ True ∧ A9 ∧ l = l ∧ w = w ∧ A2 ∧ Af ∧ Ac ∧ A8 ∧ A2 ∧ (Ae ∧ stepsM l = stepsM l) ∧ True) ∧ AD x t) ∧ (AL t = false → AH t))) ∧ (AE t = false → True ∧ ((A7 = At ∧ As = Value.bool false ∧ True) ∧ True) ∧ Av))
    (by kernel_rfl) ?_
  simp only [eq_self, AE.goS]
  have h1 : w.length = l.length := hx.1
  have h2 : l.length < 1000000 := hx.2
  refine fun _ => ⟨h2, ⟨⟨0, Nat.zero_le _, fun j hj => absurd hj (Nat.not_lt_zero j)⟩, rfl, by rw [steps_len], rfl⟩, fun t => ⟨fun ht => ?_, fun ht => ?_⟩⟩
  · obtain ⟨i, hi, h0⟩ := t
    have hlt : i < l.length := by have h1 : (i : Int) < (l.length : Int) := ht; omega
    have hg' := steps_get l i hlt
    have hsl := steps_len l
    simp only [hg', hsl]
    refine ⟨⟨Int.natCast_nonneg _, ht⟩, hlt, fun hr => ⟨⟨Int.natCast_nonneg _, ht⟩, fun h => ?_, fun h => ?_⟩, fun hr => ⟨⟨Int.natCast_nonneg _, by rw [h1]; exact ht⟩, fun h => ?_, fun h => ?_⟩⟩
    · have e := now_rest w (hs, hl, hg, hf, hk) hr
      exact ⟨⟨i + 1, hlt, below_succ h0 (by rw [e]; exact h)⟩, ⟨e.symm, sucI i (by omega)⟩, dec1 hlt⟩
    · have e := now_rest w (hs, hl, hg, hf, hk) hr
      rw [failed_some hlt (by have h' : ¬ (restM (hs, hl, hg, hf, hk) (l.getD i (0, 0, 0)).2.2 (nowM l w (hs, hl, hg, hf, hk) i) ≥ 0) := h; rw [← e] at h'; omega) h0]
      exact ⟨rfl, rfl⟩
    · have e := now_furrow w (hs, hl, hg, hf, hk) hr
      exact ⟨⟨i + 1, hlt, below_succ h0 (by rw [e]; exact h)⟩, ⟨e.symm, sucI i (by omega)⟩, dec1 hlt⟩
    · have e := now_furrow w (hs, hl, hg, hf, hk) hr
      rw [failed_some hlt (by have h' : ¬ (furrowM (hs, hl, hg, hf, hk) (w.getD i (0, 0)) (nowM l w (hs, hl, hg, hf, hk) i) ≥ 0) := h; rw [← e] at h'; omega) h0]
      exact ⟨rfl, rfl⟩
  · obtain ⟨i, hi, h0⟩ := t
    have hie : i = l.length := by have h1 : ¬ (i : Int) < (l.length : Int) := ht; omega
    rw [failed_none (fun j hj => h0 j (by omega))]
    exact ⟨rfl, rfl⟩

theorem failed_sound : Sound Tryz.prog 43 failedS.con := FSpec.sound _ (enter_of Tryz.func43 (by kernel_rfl) (by kernel_rfl)) failed_ok
end AE.Team

namespace AE.Team
open Go AE Go.Proofs AE.Soil

def safeM (l : List StepT) (w : List Span) (t : TeamT) : Bool := !(failedM l w (worstM t)).2
def safeS : FSpec UU where
  X := (List StepT × List Span) × TeamT
  pick := fun args H => match args with
    | [a, t] => match avPl H a, avTeam t with
      | some a, some t => some (a, t)
      | _, _ => none
    | _ => none
  args := fun x => [.ptr 0 0 0 0, vTeam x.2]
  H := fun x => hPl x.1.1 x.1.2
  R := fun x => .val ⟨.b (safeM x.1.1 x.1.2 x.2), [], [], []⟩
  pre := fun x => x.1.2.length = x.1.1.length ∧ x.1.1.length < 1000000
def Tsafe : Tab UU := [(42, casesS.con), (43, failedS.con)]
theorem Tsafe_ok : Tsafe.Sound Tryz.prog := .cons cases_sound (.cons failed_sound .nil)
theorem safe_ok : ∀ x, safeS.pre x → FunOk Tryz.prog 92 (safeS.args x) (safeS.H x) (safeS.R x) := by
  rintro ⟨⟨l, w⟩, ⟨⟨s0, s1⟩, ⟨l0, l1⟩, ⟨g0, g1⟩, full⟩⟩ hx
  refine fun_of (T := Tsafe) (L := fun _ => none) (hs := fun _ => []) hmix Tsafe_ok Tryz.func92 (by kernel_rfl) (by kernel_rfl) ?_
  refine Eq.mp (α :=
      let A0 := Fn.func ((88 : FuncId)); let A1 := Value.int IntKind.i64 s0 = Value.int IntKind.i64 s0; let A2 := Value.int IntKind.i64 l1 = Value.int IntKind.i64 l1; let A3 := Value.int IntKind.i64 g0 = Value.int IntKind.i64 g0; let A4 := Value.int IntKind.i64 full = Value.int IntKind.i64 full; let A5 := l = l ∧ w = w ∧ True; let A6 := True ∧ True ∧ (nat_lit 0 = nat_lit 0 ∧ nat_lit 0 = nat_lit 0 ∧ List.length l = List.length l) ∧ (nat_lit 0 = nat_lit 0 ∧ nat_lit 0 = nat_lit 0 ∧ List.length w = List.length w) ∧ True; True ∧ ((A1 ∧ Value.int IntKind.i64 s1 = Value.int IntKind.i64 s1 ∧ Value.int IntKind.i64 l0 = Value.int IntKind.i64 l0 ∧ A2 ∧ A3 ∧ Value.int IntKind.i64 g1 = Value.int IntKind.i64 g1 ∧ A4 ∧ True) ∧ True) ∧ True ∧ ((0 : Int) ≤ (0 : Int) ∧ (0 : Int) < (↑(nat_lit 2) : Int)) ∧ (List.length w = List.length l ∧ List.length l < nat_lit 1000000) ∧ ((nat_lit 0 = nat_lit 0 ∧ nat_lit 0 = nat_lit 0 ∧ nat_lit 0 = nat_lit 0) ∧ (A1 ∧ A2 ∧ A3 ∧ A4 ∧ ((true = true → A0 = A0 ∧ True ∧ True) ∧ (true = false → A0 = Fn.func (87 : FuncId) ∧ True ∧ True)) ∧ True) ∧ True) ∧ ((True ∧ True ∧ A6) ∧ A5) ∧ True ∧ ((Value.bool !Prod.snd (failedM l w (s0, l1, g0, full, true))) = Value.bool (safeM l w ((s0, s1), (l0, l1), (g0, g1), full)) ∧ True) ∧ True ∧ (True ∧ True ∧ A6) ∧ A5)
    (by kernel_rfl) ?_
  simp only [eq_self, AE.goS]
  exact ⟨⟨Int.le_refl _, by decide⟩, hx, ⟨fun _ => trivial, fun h => absurd h (by decide)⟩, rfl⟩

theorem safe_sound : Sound Tryz.prog 92 safeS.con := FSpec.sound _ (enter_of Tryz.func92 (by kernel_rfl) (by kernel_rfl)) safe_ok
def openErrM (t : TeamT) (p : PlotT) (is : Bool) : Int := if teamM t && isPlotM p then (if is then (if (hardOM p.g 0).2 == 0 then 0 else 10) else 2) else 1
theorem open_err (t : TeamT) (p : PlotT) (is : Bool) : openErrM t p is = if teamM t && isPlotM p then (if is then (if (hardOM p.g 0).2 == 0 then 0 else 10) else 2) else 1 := rfl
def openTS : FSpec2 UU where
  X := TeamT × PlotT × Bool
  pick := fun args H => match args with
    | [t, p, b] => match avTeam t, avPlot H p, avBool b with
      | some t, some p, some b => some (t, p, b)
      | _, _, _ => none
    | _ => none
  args := fun x => [vTeam x.1, vPlot x.2.1 0 1, .v (.bool x.2.2)]
  H := fun x => hPlot x.2.1
  c := fun x => openErrM x.1 x.2.1 x.2.2 == 0
  R := fun x => .val ⟨.ptr 3 0 0 0, [], [], [.row .span (worksM x.2.1) 23, .cells (cPlot x.2.1 0 1 ++ [.gs 2 0]) 136]⟩
  R' := fun x => .panic (misV (openErrM x.1 x.2.1 x.2.2))
  pre := fun x => x.2.1.g.pits.length < 1000000 ∧ x.2.1.steps.length < 1000000
def TopenT : Tab UU := [(84, isTeamS.con), (85, isPlotS.con), (53, needS.con), (86, lookS.con)]
theorem TopenT_ok : TopenT.Sound Tryz.prog := .cons isTeam_sound (.cons isPlot_sound (.cons need_sound (.cons look_sound .nil)))
theorem openT_ok : ∀ x, openTS.pre x → (openTS.c x = true → FunOk Tryz.prog 41 (openTS.args x) (openTS.H x) (openTS.R x)) ∧ (openTS.c x = false → FunOk Tryz.prog 41 (openTS.args x) (openTS.H x) (openTS.R' x)) := by
  rintro ⟨⟨⟨s0, s1⟩, ⟨l0, l1⟩, ⟨g0, g1⟩, full⟩, ⟨⟨long, rise, change, ps⟩, st⟩, is⟩ hx
  refine fun_of2 (T := TopenT) (L := fun _ => none) (hs := fun _ => []) (sp := fun _ => none) hmix TopenT_ok (td := fun _ => none) (fun _ _ h => by cases h) (it := fun _ => none) (fun _ _ h => by cases h) Tryz.func41 (by kernel_rfl) (by kernel_rfl) ?_
  refine Eq.mp (α :=
      let A8 := (23 : TypeId); let A9 := (130 : TypeId); let Aa := List.length ps < nat_lit 1000000; let A1 := Value.int IntKind.i64 (2 : Int); let A2 := Value.int IntKind.i64 (1 : Int); let Ab := Value.int IntKind.i64 rise = Value.int IntKind.i64 rise; let Ac := Value.int IntKind.i64 long = Value.int IntKind.i64 long; let Ad := Value.int IntKind.i64 change = Value.int IntKind.i64 change; let Ae := Value.bool (isPlotM (PlotT.mk (GroundT.mk long rise change ps) st)); let A3 := A9 = A9; let Af := nat_lit 0 = nat_lit 0 ∧ nat_lit 0 = nat_lit 0 ∧ List.length ps = List.length ps; let Ag := nat_lit 0 = nat_lit 0 ∧ nat_lit 0 = nat_lit 0 ∧ List.length st = List.length st; let A4 := ps = ps ∧ st = st ∧ True; let Ah := (A2 = A2) ∧ True; let Ai := Value.bool is = Value.bool is ∧ (A1 = A1) ∧ True; let Aj := (Prod.snd (hardOM (GroundT.mk long rise change ps) (0 : Int))) == (0 : Int); let Ak := ((s0, s1), (((l0, l1), (((g0, g1), full))))); let Al := (Value.bool false = Value.bool false) ∧ Ah; let Am := teamM Ak; let An := openErrM Ak (PlotT.mk (GroundT.mk long rise change ps) st) is; let A5 := Value.int IntKind.i64 An; let Ao := (Ae = Ae) ∧ Ah; let Ap := An == (0 : Int); let Aq := Ap = true; let A0 := Ap = false; let A6 := Aq → False; let A7 := (Ac ∧ Ab ∧ Ad ∧ Af ∧ Ag ∧ True) ∧ True; let Ar := True ∧ (A6 ∧ (A0 → (True ∧ A3 ∧ (A2 = A5) ∧ True))); let As := is = false → (Ai ∧ (True ∧ (A6 ∧ (A0 → (True ∧ A3 ∧ (A1 = A5) ∧ True))))); let At := is = true → (Ai ∧ (True ∧ ((Aa ∧ List.length st < nat_lit 1000000) ∧ (((Aj = true) → (A7 ∧ (A4 ∧ ((Aq → (True ∧ ((nat_lit 0 = nat_lit 0 ∧ nat_lit 0 = nat_lit 0 ∧ nat_lit 0 = nat_lit 0) ∧ True) ∧ True ∧ ps = ps ∧ st = st ∧ ((A8 = A8) ∧ worksM (PlotT.mk (GroundT.mk long rise change ps) st) = worksM (PlotT.mk (GroundT.mk long rise change ps) st)) ∧ (Ac ∧ Ab ∧ Ad ∧ Af ∧ Ag ∧ nat_lit 0 = nat_lit 0 ∧ True) ∧ True)) ∧ (A0 → False))))) ∧ ((Aj = false) → (A7 ∧ (A4 ∧ (A6 ∧ (A0 → (True ∧ (A3 ∧ (((Value.int IntKind.i64 (10 : Int)) = A5) ∧ True)))))))))))); True ∧ ((Value.int IntKind.i64 s0 = Value.int IntKind.i64 s0 ∧ Value.int IntKind.i64 s1 = Value.int IntKind.i64 s1 ∧ Value.int IntKind.i64 l0 = Value.int IntKind.i64 l0 ∧ Value.int IntKind.i64 l1 = Value.int IntKind.i64 l1 ∧ Value.int IntKind.i64 g0 = Value.int IntKind.i64 g0 ∧ Value.int IntKind.i64 g1 = Value.int IntKind.i64 g1 ∧ Value.int IntKind.i64 full = Value.int IntKind.i64 full ∧ True) ∧ True) ∧ True ∧ (Am = true → (Aa ∧ List.length st < nat_lit 9223372036854775808) ∧ A7 ∧ A4 ∧ True ∧ (isPlotM (PlotT.mk (GroundT.mk long rise change ps) st) = true → Ao ∧ True ∧ True ∧ At ∧ As) ∧ (isPlotM (PlotT.mk (GroundT.mk long rise change ps) st) = false → Ao ∧ Ar)) ∧ (Am = false → True ∧ (false = true → Al ∧ True ∧ True ∧ At ∧ As) ∧ (false = false → Al ∧ Ar)))
    (by kernel_rfl) ?_
  simp only [eq_self, AE.goS]
  obtain ⟨h1, h2⟩ := hx
  have h1' : ps.length < 1000000 := h1
  have h2' : st.length < 1000000 := h2
  have e := open_err ((s0, s1), (l0, l1), (g0, g1), full) ⟨⟨long, rise, change, ps⟩, st⟩ is
  revert e
  generalize openErrM ((s0, s1), (l0, l1), (g0, g1), full) ⟨⟨long, rise, change, ps⟩, st⟩ is = q
  generalize teamM ((s0, s1), (l0, l1), (g0, g1), full) = q1
  generalize isPlotM ⟨⟨long, rise, change, ps⟩, st⟩ = q2
  generalize ((hardOM ⟨long, rise, change, ps⟩ 0).2 == 0) = q3
  intro e
  subst e
  have h3 : st.length < 9223372036854775808 := by omega
  simp only [h1', h2', h3]
  clear h1 h2 h1' h2' h3
  cases q1 <;> cases q2 <;> cases q3 <;> cases is <;> simp

theorem openT_sound : Sound Tryz.prog 41 openTS.con := FSpec2.sound _ (enter_of Tryz.func41 (by kernel_rfl) (by kernel_rfl)) openT_ok
end AE.Team

namespace AE.Team
open Go AE Go.Proofs AE.Soil

theorem enterC : ∀ args w, (callFunc 40 args).run Tryz.prog w = .ok (.enter 40 args) w := enter_of Tryz.func40 (by kernel_rfl) (by kernel_rfl)
theorem toldComes : ToldOk Tryz.prog 39 40 := told_of Tryz.func39 (enter_of Tryz.func39 (by kernel_rfl) (by kernel_rfl)) enterC rfl rfl rfl rfl rfl rfl rfl rfl
theorem toldLeft : ToldOk Tryz.prog 47 40 := told_of Tryz.func47 (enter_of Tryz.func47 (by kernel_rfl) (by kernel_rfl)) enterC rfl rfl rfl rfl rfl rfl rfl rfl
theorem toldFails : ToldOk Tryz.prog 52 40 := told_of Tryz.func52 (enter_of Tryz.func52 (by kernel_rfl) (by kernel_rfl)) enterC rfl rfl rfl rfl rfl rfl rfl rfl
theorem toldSend : ToldOk Tryz.prog 68 40 := told_of Tryz.func68 (enter_of Tryz.func68 (by kernel_rfl) (by kernel_rfl)) enterC rfl rfl rfl rfl rfl rfl rfl rfl
theorem toldShort : ToldOk Tryz.prog 76 40 := told_of Tryz.func76 (enter_of Tryz.func76 (by kernel_rfl) (by kernel_rfl)) enterC rfl rfl rfl rfl rfl rfl rfl rfl
theorem toldLeast : ToldOk Tryz.prog 64 40 := told_of Tryz.func64 (enter_of Tryz.func64 (by kernel_rfl) (by kernel_rfl)) enterC rfl rfl rfl rfl rfl rfl rfl rfl
def toldL (n : Nat) (k : Nat) : Option FuncId := match Nat.beq n k with
  | true => some 40
  | false => none
theorem toldL_ok {n : Nat} (h : ToldOk Tryz.prog n 40) : ∀ k f, toldL n k = some f → ToldOk Tryz.prog k f := by
  intro k f hk
  unfold toldL at hk
  split at hk
  · rename_i e; have := Nat.eq_of_beq_eq_true e; subst this; cases hk; exact h
  · cases hk
def fallM (t : TeamT) (p : PlotT) (worst : Bool) : Int × Bool := failedM p.steps (worksM p) (if worst then worstM t else bestM t)
def ansM (f g : Bool) : Int := if !f && !g then 2 else if f && g then 0 else 1
def comesM (t : TeamT) (p : PlotT) : Int × Int := if openErrM t p true == 0 then (ansM (fallM t p true).2 (fallM t p false).2, 0) else (0, openErrM t p true)
theorem comes_eq (t : TeamT) (p : PlotT) : comesM t p = if openErrM t p true == 0 then (ansM (fallM t p true).2 (fallM t p false).2, 0) else (0, openErrM t p true) := rfl
def oneS (R : TeamT × PlotT → OOut UU) : FSpec UU where
  X := TeamT × PlotT
  pick := fun args H => match args with
    | [t, p] => match avTeam t, avPlot H p with
      | some t, some p => some (t, p)
      | _, _ => none
    | _ => none
  args := fun x => [vTeam x.1, vPlot x.2 0 1]
  H := fun x => hPlot x.2
  R := R
  pre := fun x => x.2.g.pits.length < 1000000 ∧ x.2.steps.length < 1000000
def comesS : FSpec UU := oneS fun x => .val ⟨.tup [.i (comesM x.1 x.2).1, .i (comesM x.1 x.2).2], [], [], []⟩
def Tcomes : Tab UU := [(41, openTS.con), (42, casesS.con), (43, failedS.con), (40, caughtS.con)]
theorem Tcomes_ok : Tcomes.Sound Tryz.prog := .cons openT_sound (.cons cases_sound (.cons failed_sound (.cons caught_sound .nil)))
theorem comes_ok : ∀ x, comesS.pre x → FunOk Tryz.prog 10 (comesS.args x) (comesS.H x) (comesS.R x) := by
  rintro ⟨⟨⟨s0, s1⟩, ⟨l0, l1⟩, ⟨g0, g1⟩, full⟩, ⟨⟨long, rise, change, ps⟩, st⟩⟩ hx
  refine fun_ofG (T := Tcomes) (L := fun _ => some (.unroll 3)) (hs := fun _ => []) (sp := fun _ => none) hmix Tcomes_ok (tl := toldL 39) (toldL_ok toldComes) (it := fun _ => none) (fun _ _ h => by cases h) Tryz.func10 (by kernel_rfl) (by kernel_rfl) ?_
  refine Eq.mp (α :=
      let Aj := (130 : TypeId); let A6 := nat_lit 0 = nat_lit 0 ∧ nat_lit 0 = nat_lit 0 ∧ nat_lit 0 = nat_lit 0; let A0 := Fn.func ((88 : FuncId)); let A1 := Fn.func ((87 : FuncId)); let Ak := List.length st < nat_lit 1000000; let A2 := Value.int IntKind.i64 (0 : Int); let Al := A6 ∧ True; let Am := Value.int IntKind.i64 s1 = Value.int IntKind.i64 s1; let A7 := Value.int IntKind.i64 full = Value.int IntKind.i64 full; let An := Value.int IntKind.i64 g0 = Value.int IntKind.i64 g0; let Ao := Value.int IntKind.i64 s0 = Value.int IntKind.i64 s0; let Ap := Value.int IntKind.i64 l0 = Value.int IntKind.i64 l0; let Aq := Value.int IntKind.i64 l1 = Value.int IntKind.i64 l1; let Ar := Value.int IntKind.i64 g1 = Value.int IntKind.i64 g1; let As := List.length (worksM (PlotT.mk (GroundT.mk long rise change ps) st)); let A8 := false == true; let A9 := false == false; let Aa := ps = ps ∧ st = st ∧ True; let At := nat_lit 0 = nat_lit 0 ∧ nat_lit 0 = nat_lit 0 ∧ List.length st = List.length st; let Ab := Value.nilIface = Value.nilIface ∧ Al; let A3 := True ∧ Aa; let A4 := IntKind.wrap IntKind.i64 ((0 : Int) + (1 : Int)); let A5 := ((A2 = A2) ∧ True) ∧ True; let Au := (As = List.length st) ∧ Ak; let Av := A8 && A8; let Aw := A9 && A9; let Ax := ((0 : Int) ≤ (0 : Int)) ∧ ((0 : Int) < (↑(nat_lit 2) : Int)); let Ay := decide ((0 : Int) < (2 : Int)); let Az := ((s0, s1), (((l0, l1), (((g0, g1), full))))); let AA := comesM Az (PlotT.mk (GroundT.mk long rise change ps) st); let AB := Prod.snd (failedM st (worksM (PlotT.mk (GroundT.mk long rise change ps) st)) ((s0, ((l1, ((g0, full, true))))))); let AC := Prod.snd (failedM st (worksM (PlotT.mk (GroundT.mk long rise change ps) st)) ((s1, ((l0, ((g1, full, false))))))); let Ac := IntKind.wrap IntKind.i64 (A4 + (1 : Int)); let AD := openErrM Az (PlotT.mk (GroundT.mk long rise change ps) st) true; let Ad := Value.int IntKind.i64 AD; let Ae := Value.int IntKind.i64 (Prod.fst AA); let AE := Value.int IntKind.i64 (Prod.snd AA); let AF := AB == true; let AG := AB == false; let AH := AD == (0 : Int); let AI := A2 = Ae; let Af := (A2 = AE) ∧ True; let AJ := ((0 : Int) ≤ A4) ∧ (A4 < (↑(nat_lit 2) : Int)); let AK := decide (A4 < (2 : Int)); let AL := AF && A8; let AM := AG && A9; let AN := Ao ∧ Am ∧ Ap ∧ Aq ∧ An ∧ Ar ∧ A7 ∧ True; let AO := (True ∧ True ∧ True ∧ True ∧ At ∧ (nat_lit 5 = nat_lit 5 ∧ nat_lit 0 = nat_lit 0 ∧ nat_lit 0 = nat_lit 0 ∧ (List.length (worksM (PlotT.mk (GroundT.mk long rise change ps) st))) = As) ∧ True) ∧ st = st ∧ (worksM (PlotT.mk (GroundT.mk long rise change ps) st) = worksM (PlotT.mk (GroundT.mk long rise change ps) st)) ∧ True; let AP := decide (Ac < (2 : Int)); let AQ := AF && (AC == true); let AR := AG && (AC == false); let AS := AN ∧ ((Value.int IntKind.i64 long = Value.int IntKind.i64 long) ∧ (Value.int IntKind.i64 rise = Value.int IntKind.i64 rise) ∧ (Value.int IntKind.i64 change = Value.int IntKind.i64 change) ∧ (nat_lit 0 = nat_lit 0 ∧ nat_lit 0 = nat_lit 0 ∧ List.length ps = List.length ps) ∧ At ∧ True) ∧ Value.bool true = Value.bool true ∧ True; let Ag := Ab ∧ A5 ∧ True ∧ ((AI ∧ Af) ∧ True) ∧ A3; let Ah := Ab ∧ (A5 ∧ (True ∧ (((((Value.int IntKind.i64 (1 : Int)) = Ae) ∧ Af) ∧ True) ∧ A3))); let Ai := Ab ∧ (A5 ∧ (True ∧ (((((Value.int IntKind.i64 (2 : Int)) = Ae) ∧ Af) ∧ True) ∧ A3))); (List.length ps < nat_lit 1000000 ∧ Ak) ∧ (AH = true → AS ∧ Aa ∧ True ∧ (AN ∧ True) ∧ True ∧ (Ay = true → Ax ∧ Au ∧ (A6 ∧ (Ao ∧ Aq ∧ An ∧ A7 ∧ ((true = true → A0 = A0 ∧ True ∧ True) ∧ (true = false → A0 = A1 ∧ True ∧ True)) ∧ True) ∧ True) ∧ AO ∧ Ax ∧ (AK = true → AJ ∧ Au ∧ (A6 ∧ (Am ∧ Ap ∧ Ar ∧ A7 ∧ ((false = true → A1 = A0 ∧ True ∧ True) ∧ (false = false → A1 = A1 ∧ True ∧ True)) ∧ True) ∧ True) ∧ AO ∧ AJ ∧ (AP = true → ((0 : Int) ≤ Ac ∧ Ac < (↑(nat_lit 2) : Int)) ∧ False) ∧ (AP = false → (AR = true → True ∧ Ai) ∧ (AR = false → (AQ = true → True ∧ Ag) ∧ (AQ = false → True ∧ Ah)))) ∧ (AK = false → (AM = true → True ∧ Ai) ∧ (AM = false → (AL = true → True ∧ Ag) ∧ (AL = false → True ∧ Ah)))) ∧ (Ay = false → (Aw = true → True ∧ Ai) ∧ (Aw = false → (Av = true → True ∧ Ag) ∧ (Av = false → True ∧ Ah)))) ∧ (AH = false → AS ∧ Aa ∧ True ∧ ((Aj = Aj ∧ Ad = Ad ∧ True) ∧ Al) ∧ A5 ∧ True ∧ ((AI ∧ Ad = AE ∧ True) ∧ True) ∧ A3))
    (by kernel_rfl) ?_
  simp only [eq_self, AE.goS]
  have w1 : IntKind.i64.wrap ((0 : Int) + 1) = 1 := by decide
  have w2 : IntKind.i64.wrap ((1 : Int) + 1) = 2 := by decide
  have hl : (worksM ⟨⟨long, rise, change, ps⟩, st⟩).length = st.length := works_len _
  obtain ⟨h1, h2⟩ := hx
  have h1' : ps.length < 1000000 := h1
  have h2' : st.length < 1000000 := h2
  have e := comes_eq ((s0, s1), (l0, l1), (g0, g1), full) ⟨⟨long, rise, change, ps⟩, st⟩
  revert e
  generalize openErrM ((s0, s1), (l0, l1), (g0, g1), full) ⟨⟨long, rise, change, ps⟩, st⟩ true = q
  simp only [fallM, worstM, bestM, if_true, if_false, Bool.false_eq_true]
  generalize failedM st (worksM ⟨⟨long, rise, change, ps⟩, st⟩) (s0, l1, g0, full, true) = f1
  generalize failedM st (worksM ⟨⟨long, rise, change, ps⟩, st⟩) (s1, l0, g1, full, false) = f2
  intro e
  rw [e]
  simp only [w1, w2, hl, h1', h2']
  obtain ⟨a, b⟩ := f1
  obtain ⟨c, d⟩ := f2
  refine ⟨⟨trivial, trivial⟩, fun h => ?_, fun h => ?_⟩
  · rw [if_pos h]
    cases b <;> cases d <;> simp [ansM]
  · rw [if_neg (by rw [h]; decide)]
    simp

theorem comes_sound : Sound Tryz.prog 10 comesS.con := FSpec.sound _ (enter_of Tryz.func10 (by kernel_rfl) (by kernel_rfl)) comes_ok
def failsM (t : TeamT) (p : PlotT) : Int × Bool × Int := if openErrM t p true == 0 then (if (fallM t p true).2 then ((fallM t p true).1, (fallM t p false).2 && (fallM t p false).1 == (fallM t p true).1, 0) else ((fallM t p true).1, false, 4)) else (0, false, openErrM t p true)
theorem fails_eq (t : TeamT) (p : PlotT) : failsM t p = if openErrM t p true == 0 then (if (fallM t p true).2 then ((fallM t p true).1, (fallM t p false).2 && (fallM t p false).1 == (fallM t p true).1, 0) else ((fallM t p true).1, false, 4)) else (0, false, openErrM t p true) := rfl
def failsS : FSpec UU := oneS fun x => .val ⟨.tup [.i (failsM x.1 x.2).1, .b (failsM x.1 x.2).2.1, .i (failsM x.1 x.2).2.2], [], [], []⟩
def Tfails : Tab UU := (53, needS.con) :: Tcomes
theorem Tfails_ok : Tfails.Sound Tryz.prog := .cons need_sound Tcomes_ok
theorem fails_ok : ∀ x, failsS.pre x → FunOk Tryz.prog 14 (failsS.args x) (failsS.H x) (failsS.R x) := by
  rintro ⟨⟨⟨s0, s1⟩, ⟨l0, l1⟩, ⟨g0, g1⟩, full⟩, ⟨⟨long, rise, change, ps⟩, st⟩⟩ hx
  refine fun_ofG (T := Tfails) (L := fun _ => none) (hs := fun _ => []) (sp := fun _ => none) hmix Tfails_ok (tl := toldL 52) (toldL_ok toldFails) (it := fun _ => none) (fun _ _ h => by cases h) Tryz.func14 (by kernel_rfl) (by kernel_rfl) ?_
  refine Eq.mp (α :=
      let Ah := (130 : TypeId); let A5 := nat_lit 0 = nat_lit 0 ∧ nat_lit 0 = nat_lit 0 ∧ nat_lit 0 = nat_lit 0; let A0 := Fn.func ((88 : FuncId)); let A1 := Fn.func ((87 : FuncId)); let Ai := List.length st < nat_lit 1000000; let A2 := Value.int IntKind.i64 (0 : Int); let A6 := Value.int IntKind.i64 (4 : Int); let A7 := A5 ∧ True; let Aj := Value.int IntKind.i64 l0 = Value.int IntKind.i64 l0; let A8 := Value.int IntKind.i64 full = Value.int IntKind.i64 full; let Ak := Value.int IntKind.i64 s1 = Value.int IntKind.i64 s1; let Al := Value.int IntKind.i64 s0 = Value.int IntKind.i64 s0; let Am := Value.int IntKind.i64 g0 = Value.int IntKind.i64 g0; let An := Value.int IntKind.i64 g1 = Value.int IntKind.i64 g1; let Ao := Value.int IntKind.i64 l1 = Value.int IntKind.i64 l1; let Ap := List.length (worksM (PlotT.mk (GroundT.mk long rise change ps) st)); let Aq := Ah = Ah; let A9 := ps = ps ∧ st = st ∧ True; let Ar := nat_lit 0 = nat_lit 0 ∧ nat_lit 0 = nat_lit 0 ∧ List.length st = List.length st; let As := Value.nilIface = Value.nilIface ∧ A7; let A3 := True ∧ A9; let Aa := (A6 = A6) ∧ True; let A4 := ((A2 = A2) ∧ True) ∧ True; let At := (Ap = List.length st) ∧ Ai; let Au := ((s0, s1), (((l0, l1), (((g0, g1), full))))); let Av := st = st ∧ (worksM (PlotT.mk (GroundT.mk long rise change ps) st) = worksM (PlotT.mk (GroundT.mk long rise change ps) st)) ∧ True; let Aw := failedM st (worksM (PlotT.mk (GroundT.mk long rise change ps) st)) ((s0, ((l1, ((g0, full, true)))))); let Ax := failedM st (worksM (PlotT.mk (GroundT.mk long rise change ps) st)) ((s1, ((l0, ((g1, full, false)))))); let Ay := failsM Au (PlotT.mk (GroundT.mk long rise change ps) st); let Az := Prod.fst Aw; let Ab := Prod.snd Aw; let AA := Prod.snd Ax; let AB := openErrM Au (PlotT.mk (GroundT.mk long rise change ps) st) true; let AC := Value.bool Ab; let AD := Prod.snd Ay; let Ac := Value.int IntKind.i64 AB; let AE := Value.int IntKind.i64 (Prod.fst Ay); let AF := Value.bool (Prod.fst AD); let Ad := Value.int IntKind.i64 (Prod.snd AD); let Ae := AF = Value.bool false; let AG := AB == (0 : Int); let AH := True ∧ True ∧ True ∧ True ∧ Ar ∧ (nat_lit 5 = nat_lit 5 ∧ nat_lit 0 = nat_lit 0 ∧ nat_lit 0 = nat_lit 0 ∧ (List.length (worksM (PlotT.mk (GroundT.mk long rise change ps) st))) = Ap) ∧ True; let AI := (A2 = Ad) ∧ True; let Af := Al ∧ Ak ∧ Aj ∧ Ao ∧ Am ∧ An ∧ A8 ∧ True; let AJ := ((Value.int IntKind.i64 long = Value.int IntKind.i64 long) ∧ (Value.int IntKind.i64 rise = Value.int IntKind.i64 rise) ∧ (Value.int IntKind.i64 change = Value.int IntKind.i64 change) ∧ (nat_lit 0 = nat_lit 0 ∧ nat_lit 0 = nat_lit 0 ∧ List.length ps = List.length ps) ∧ Ar ∧ True) ∧ Value.bool true = Value.bool true ∧ True; let AK := AC = AC; let Ag := (Value.int IntKind.i64 Az) = AE; (List.length ps < nat_lit 1000000 ∧ Ai) ∧ (AG = true → (Af ∧ AJ) ∧ A9 ∧ True ∧ (Af ∧ True) ∧ True ∧ ((0 : Int) ≤ (0 : Int) ∧ (0 : Int) < (↑(nat_lit 2) : Int)) ∧ At ∧ (A5 ∧ (Al ∧ Ao ∧ Am ∧ A8 ∧ ((true = true → A0 = A0 ∧ True ∧ True) ∧ (true = false → A0 = A1 ∧ True ∧ True)) ∧ True) ∧ True) ∧ (AH ∧ Av) ∧ True ∧ (Ab = true → (AK ∧ Aa) ∧ True ∧ ((0 : Int) ≤ (1 : Int) ∧ (1 : Int) < (↑(nat_lit 2) : Int)) ∧ At ∧ (A5 ∧ (Ak ∧ Aj ∧ An ∧ A8 ∧ ((false = true → A1 = A0 ∧ True ∧ True) ∧ (false = false → A1 = A1 ∧ True ∧ True)) ∧ True) ∧ True) ∧ (AH ∧ Av) ∧ (AA = true → True ∧ As ∧ A4 ∧ True ∧ ((Ag ∧ Value.bool (Prod.fst Ax == Az) = AF ∧ AI) ∧ True) ∧ A3) ∧ (AA = false → True ∧ As ∧ A4 ∧ True ∧ ((Ag ∧ Ae ∧ AI) ∧ True) ∧ A3)) ∧ (Ab = false → (AK ∧ Aa) ∧ True ∧ True ∧ ((Aq ∧ Aa) ∧ A7) ∧ A4 ∧ True ∧ ((Ag ∧ Ae ∧ A6 = Ad ∧ True) ∧ True) ∧ A3)) ∧ (AG = false → (Af ∧ AJ) ∧ A9 ∧ True ∧ ((Aq ∧ Ac = Ac ∧ True) ∧ A7) ∧ A4 ∧ True ∧ ((A2 = AE ∧ Ae ∧ Ac = Ad ∧ True) ∧ True) ∧ A3))
    (by kernel_rfl) ?_
  simp only [eq_self, AE.goS]
  have w1 : IntKind.i64.wrap ((0 : Int) + 1) = 1 := by decide
  have w2 : IntKind.i64.wrap ((1 : Int) + 1) = 2 := by decide
  have hl : (worksM ⟨⟨long, rise, change, ps⟩, st⟩).length = st.length := works_len _
  obtain ⟨h1, h2⟩ := hx
  have h1' : ps.length < 1000000 := h1
  have h2' : st.length < 1000000 := h2
  have e := fails_eq ((s0, s1), (l0, l1), (g0, g1), full) ⟨⟨long, rise, change, ps⟩, st⟩
  revert e
  generalize openErrM ((s0, s1), (l0, l1), (g0, g1), full) ⟨⟨long, rise, change, ps⟩, st⟩ true = q
  simp only [fallM, worstM, bestM, if_true, if_false, Bool.false_eq_true]
  generalize failedM st (worksM ⟨⟨long, rise, change, ps⟩, st⟩) (s0, l1, g0, full, true) = f1
  generalize failedM st (worksM ⟨⟨long, rise, change, ps⟩, st⟩) (s1, l0, g1, full, false) = f2
  intro e
  rw [e]
  simp only [w1, w2, hl, h1', h2']
  obtain ⟨a, b⟩ := f1
  obtain ⟨c, d⟩ := f2
  refine ⟨⟨trivial, trivial⟩, fun h => ?_, fun h => ?_⟩
  · rw [if_pos h]
    cases b <;> cases d <;> simp [ansM]
  · rw [if_neg (by rw [h]; decide)]
    simp

theorem fails_sound : Sound Tryz.prog 14 failsS.con := FSpec.sound _ (enter_of Tryz.func14 (by kernel_rfl) (by kernel_rfl)) fails_ok
end AE.Team

namespace AE.Team
open Go AE Go.Proofs AE.Soil

def withM (t : TeamT) (n : Int) : TeamT := ((n, n), t.2)
abbrev KnownT := (List StepT × List Span) × TeamT
def knownS : FSpec UU where
  X := KnownT × Int
  pick := fun args H => match args with
    | [.agg (a :: t), n] => match avPl H a, avTeam (.agg t), avInt n with
      | some a, some t, some n => some ((a, t), n)
      | _, _, _ => none
    | _ => none
  args := fun x => [.agg [.ptr 0 0 0 0, .i x.1.2.1.1, .i x.1.2.1.2, .i x.1.2.2.1.1, .i x.1.2.2.1.2, .i x.1.2.2.2.1.1, .i x.1.2.2.2.1.2, .i x.1.2.2.2.2], .i x.2]
  H := fun x => hPl x.1.1.1 x.1.1.2
  R := fun x => .val ⟨.b (safeM x.1.1.1 x.1.1.2 (withM x.1.2 x.2)), [], [], []⟩
  pre := fun x => x.1.1.2.length = x.1.1.1.length ∧ x.1.1.1.length < 1000000
def Tknown : Tab UU := [(92, safeS.con)]
theorem Tknown_ok : Tknown.Sound Tryz.prog := .cons safe_sound .nil
theorem known_ok : ∀ x, knownS.pre x → FunOk Tryz.prog 65 (knownS.args x) (knownS.H x) (knownS.R x) := by
  rintro ⟨⟨⟨l, w⟩, ⟨⟨s0, s1⟩, ⟨l0, l1⟩, ⟨g0, g1⟩, full⟩⟩, n⟩ hx
  refine fun_of (T := Tknown) (L := fun _ => none) (hs := fun _ => []) hmix Tknown_ok Tryz.func65 (by kernel_rfl) (by kernel_rfl) ?_
  refine Eq.mp (α :=
      let A0 := Value.int IntKind.i64 n = Value.int IntKind.i64 n; let A1 := l = l ∧ w = w ∧ True; let A2 := ((l0, l1), (((g0, g1), full))); let A3 := True ∧ True ∧ (nat_lit 0 = nat_lit 0 ∧ nat_lit 0 = nat_lit 0 ∧ List.length l = List.length l) ∧ (nat_lit 0 = nat_lit 0 ∧ nat_lit 0 = nat_lit 0 ∧ List.length w = List.length w) ∧ True; (List.length w = List.length l ∧ List.length l < nat_lit 1000000) ∧ ((nat_lit 0 = nat_lit 0 ∧ nat_lit 0 = nat_lit 0 ∧ nat_lit 0 = nat_lit 0) ∧ (A0 ∧ A0 ∧ Value.int IntKind.i64 l0 = Value.int IntKind.i64 l0 ∧ Value.int IntKind.i64 l1 = Value.int IntKind.i64 l1 ∧ Value.int IntKind.i64 g0 = Value.int IntKind.i64 g0 ∧ Value.int IntKind.i64 g1 = Value.int IntKind.i64 g1 ∧ Value.int IntKind.i64 full = Value.int IntKind.i64 full ∧ True) ∧ True) ∧ ((True ∧ True ∧ A3) ∧ A1) ∧ True ∧ (Value.bool (safeM l w ((n, n), A2)) = Value.bool (safeM l w (withM ((s0, s1), A2) n)) ∧ True) ∧ True ∧ (True ∧ True ∧ A3) ∧ A1)
    (by kernel_rfl) ?_
  simp only [eq_self, AE.goS]
  exact ⟨hx, rfl⟩

theorem known_sound : Sound Tryz.prog 65 knownS.con := FSpec.sound _ (enter_of Tryz.func65 (by kernel_rfl) (by kernel_rfl)) known_ok
def avStpC (H : Heap UU) : List AV → Option ((List StepT × List Span) × Bool × Int)
  | [.alt c _ (.ifc _ (.agg [p, n]))] => match avPl H p, avInt n with
    | some p, some n => some (p, c, n)
    | _, _ => none
  | [.ifc t (.agg [p, n])] => match avPl H p, avInt n with
    | some p, some n => some (p, Nat.beq t 138, n)
    | _, _ => none
  | _ => none
def avCells (H : Heap UU) : AV → Option (List AV)
  | .ptr i 0 0 0 => match blkAt H i 0 with
    | some (.cells vs _) => some vs
    | some (.rc vs _) => some vs
    | _ => none
  | _ => none
def avNow (H : Heap UU) : List AV → Option Int
  | [.fn _ [] [_, p]] => match avCells H p with
    | some [n] => avInt n
    | _ => none
  | _ => none
abbrev TrialT := (List StepT × List Span) × (Bool × Int) × HorT × Int
def hTrial (x : TrialT) : Heap UU := hPl x.1.1 x.1.2 ++ [.one (.rc [vStp 0 x.2.1] 99), .one (.rc (lHor x.2.2.1) 75), .one (.rc [.i x.2.2.2] 3), .one (.rc [.fn (.func 58) [] [.ptr 4 0 0 0, .ptr 5 0 0 0]] 62)]
def avTrial (H : Heap UU) (s h r : AV) : Option TrialT := match avCells H s, avCells H h, avCells H r with
  | some s, some h, some r => match avStpC H s, avHor h, avNow H r with
    | some s, some h, some n => some (s.1, s.2, h, n)
    | _, _, _ => none
  | _, _, _ => none
def stepM (x : TrialT) (now : Int) : Int := if x.2.1.1 then restM x.2.2.1 (x.1.1.getD x.2.1.2.toNat (0, 0, 0)).2.2 now else furrowM x.2.2.1 (x.1.2.getD x.2.1.2.toNat (0, 0)) now
def restedS : FSpec UU where
  X := HorT × Int × Int
  pick := fun args H => match args with
    | [m, h, n] => match avInt m, avCells H h, avCells H n with
      | some m, some h, some [n] => match avHor h, avInt n with
        | some h, some n => some (h, n, m)
        | _, _ => none
      | _, _, _ => none
    | _ => none
  args := fun x => [.i x.2.2, .ptr 0 0 0 0, .ptr 1 0 0 0]
  H := fun x => [.one (.rc (lHor x.1) 75), .one (.rc [.i x.2.1] 3)]
  R := fun x => .val ⟨.i (restM x.1 x.2.2 x.2.1), [], [], []⟩
theorem rested_ok : ∀ x, restedS.pre x → FunOk Tryz.prog 58 (restedS.args x) (restedS.H x) (restedS.R x) := by
  rintro ⟨⟨hs, hl, hg, hf, hk⟩, n, m⟩ hx
  refine fun_of (T := []) (L := fun _ => none) (hs := fun _ => []) hmix .nil Tryz.func58 (by kernel_rfl) (by kernel_rfl) ?_
  refine Eq.mp (α :=
      let A0 := (87 : FuncId); let A1 := (88 : FuncId); True ∧ (Value.int IntKind.i64 (min hf (IntKind.wrap IntKind.i64 (n + IntKind.wrap IntKind.i64 (hg * m)))) = Value.int IntKind.i64 (restM (hs, hl, hg, hf, hk) m n) ∧ True) ∧ True ∧ (Value.int IntKind.i64 hs = Value.int IntKind.i64 hs ∧ Value.int IntKind.i64 hl = Value.int IntKind.i64 hl ∧ Value.int IntKind.i64 hg = Value.int IntKind.i64 hg ∧ Value.int IntKind.i64 hf = Value.int IntKind.i64 hf ∧ (hk = hk ∧ (Fn.func A1 = Fn.func A1 ∧ True ∧ True) ∧ Fn.func A0 = Fn.func A0 ∧ True ∧ True) ∧ True) ∧ (Value.int IntKind.i64 n = Value.int IntKind.i64 n ∧ True) ∧ True)
    (by kernel_rfl) ?_
  simp [restM]

theorem rested_sound : Sound Tryz.prog 58 restedS.con := FSpec.sound _ (enter_of Tryz.func58 (by kernel_rfl) (by kernel_rfl)) rested_ok
def enoughM (x : TrialT) (m : Int) : Bool := decide (stepM x (restM x.2.2.1 m x.2.2.2) ≥ 0)
def enoughS : FSpec UU where
  X := TrialT × Int
  pick := fun args H => match args with
    | [m, s, h, r] => match avInt m, avTrial H s h r with
      | some m, some x => some (x, m)
      | _, _ => none
    | _ => none
  args := fun x => [.i x.2, .ptr 3 0 0 0, .ptr 4 0 0 0, .ptr 6 0 0 0]
  H := fun x => hTrial x.1
  R := fun x => .val ⟨.b (enoughM x.1 x.2), [], [], []⟩
  pre := fun x => x.1.1.2.length = x.1.1.1.length ∧ x.1.1.1.length < 1000000 ∧ 0 ≤ x.1.2.1.2 ∧ x.1.2.1.2 < x.1.1.1.length
def Tenough : Tab UU := [(58, restedS.con), (152, doRS.con), (153, doFS.con)]
theorem Tenough_ok : Tenough.Sound Tryz.prog := .cons rested_sound (.cons doR_sound (.cons doF_sound .nil))
theorem enough_ok : ∀ x, enoughS.pre x → FunOk Tryz.prog 59 (enoughS.args x) (enoughS.H x) (enoughS.R x) := by
  rintro ⟨⟨⟨l, w⟩, ⟨c, k⟩, ⟨hs, hl, hg, hf, hk⟩, n⟩, m⟩ hx
  refine fun_of (T := Tenough) (L := fun _ => none) (hs := fun _ => []) hmix Tenough_ok Tryz.func59 (by kernel_rfl) (by kernel_rfl) ?_
  refine Eq.mp (α :=
      let A5 := (138 : TypeId); let A6 := (139 : TypeId); let A1 := nat_lit 0 = nat_lit 0 ∧ nat_lit 0 = nat_lit 0 ∧ nat_lit 0 = nat_lit 0; let A7 := Fn.func ((87 : FuncId)); let A8 := Fn.func ((58 : FuncId)); let A9 := Fn.func ((88 : FuncId)); let Aa := (0 : Int) ≤ k; let Ab := (Value.int IntKind.i64 n = Value.int IntKind.i64 n) ∧ True; let Ac := ((0 : Int), (0 : Int)); let Ad := nat_lit 0 = nat_lit 0 ∧ nat_lit 0 = nat_lit 0 ∧ List.length l = List.length l; let Ae := (nat_lit 0 = nat_lit 0 ∧ nat_lit 0 = nat_lit 0 ∧ List.length w = List.length w) ∧ True; let Af := A1 ∧ A1 ∧ True; let A2 := A1 ∧ (Value.int IntKind.i64 k = Value.int IntKind.i64 k) ∧ True; let A0 := (hs, ((hl, ((hg, hf, hk))))); let A3 := restM A0 m n; let Ag := Value.int IntKind.i64 A3; let Ah := True ∧ True ∧ True ∧ True ∧ Ad ∧ Ae; let Ai := Value.bool (enoughM (((l, w), (((c, k), ((A0, n)))))) m); let A4 := (Value.int IntKind.i64 hs = Value.int IntKind.i64 hs) ∧ (Value.int IntKind.i64 hl = Value.int IntKind.i64 hl) ∧ (Value.int IntKind.i64 hg = Value.int IntKind.i64 hg) ∧ (Value.int IntKind.i64 hf = Value.int IntKind.i64 hf) ∧ (hk = hk ∧ ((A9 = A9) ∧ True ∧ True) ∧ (A7 = A7) ∧ True ∧ True) ∧ True; let Aj := A2 ∧ A4 ∧ (Ag = Ag) ∧ True; let Ak := l = l ∧ w = w ∧ ((c = c ∧ ((A5 = A5) ∧ A2) ∧ (A6 = A6) ∧ A2) ∧ True) ∧ A4 ∧ Ab ∧ (((A8 = A8) ∧ True ∧ Af) ∧ True) ∧ True; True ∧ (Value.int IntKind.i64 m = Value.int IntKind.i64 m ∧ Af) ∧ (A4 ∧ Ab ∧ True) ∧ (c = true → (Aa ∧ k < (↑(List.length l) : Int)) ∧ Aj ∧ ((True ∧ True ∧ True ∧ True ∧ Ad ∧ True ∧ True) ∧ l = l ∧ True) ∧ True ∧ (Value.bool (decide (restM A0 (Prod.snd (Prod.snd (List.getD l (Int.toNat k) ((0 : Int), Ac)))) A3 ≥ (0 : Int))) = Ai ∧ True) ∧ True ∧ Ah ∧ Ak) ∧ (c = false → (Aa ∧ k < (↑(List.length w) : Int)) ∧ Aj ∧ ((True ∧ True ∧ True ∧ True ∧ True ∧ Ae) ∧ w = w ∧ True) ∧ True ∧ (Value.bool (decide (furrowM A0 (List.getD w (Int.toNat k) Ac) A3 ≥ (0 : Int))) = Ai ∧ True) ∧ True ∧ Ah ∧ Ak))
    (by kernel_rfl) ?_
  simp only [eq_self, AE.goS]
  obtain ⟨h1, h2, h3, h4⟩ := hx
  have h1' : w.length = l.length := h1
  refine ⟨fun h => ⟨⟨h3, h4⟩, ?_⟩, fun h => ⟨⟨h3, by rw [h1']; exact h4⟩, ?_⟩⟩
  · subst h; rfl
  · subst h; rfl

theorem enough_sound : Sound Tryz.prog 59 enoughS.con := FSpec.sound _ (enter_of Tryz.func59 (by kernel_rfl) (by kernel_rfl)) enough_ok
end AE.Team

namespace AE.Team
open Go AE Go.Proofs AE.Soil

theorem open_team {t : TeamT} {p : PlotT} {is : Bool} (h : (openErrM t p is == 0) = true) : teamM t = true := by
  unfold openErrM at h
  cases ht : teamM t with
  | true => rfl
  | false => rw [ht] at h; simp at h
theorem open_plot {t : TeamT} {p : PlotT} {is : Bool} (h : (openErrM t p is == 0) = true) : isPlotM p = true := by
  unfold openErrM at h
  cases hp : isPlotM p with
  | true => rfl
  | false => rw [hp] at h; simp at h
theorem team_full {t : TeamT} (h : teamM t = true) : t.2.2.2 ≤ 10000 := by
  unfold teamM inM at h
  simp only [Bool.and_eq_true, decide_eq_true_eq] at h
  omega
def suitM (x : KnownT ⊕ TrialT) (n : Int) : Bool := match x with
  | .inl k => safeM k.1.1 k.1.2 (withM k.2 n)
  | .inr x => enoughM x n
def firstM (p : Int → Bool) (to : Int) : Int × Bool := match (List.range (to + 1).toNat).find? fun (i : Nat) => p (i : Int) with
  | some i => ((i : Int), true)
  | none => (0, false)
theorem first_some {p : Int → Bool} {to : Int} {i : Nat} (hi : (i : Int) ≤ to) (h1 : p (i : Int) = true) (h0 : ∀ j : Nat, j < i → p (j : Int) = false) : firstM p to = ((i : Int), true) := by
  have : (List.range (to + 1).toNat).find? (fun (i : Nat) => p (i : Int)) = some i := by
    rw [List.find?_range_eq_some]
    refine ⟨h1, List.mem_range.2 (by omega), fun j hj => ?_⟩
    rw [h0 j hj]; rfl
  unfold firstM; rw [this]
theorem first_none {p : Int → Bool} {to : Int} (h0 : ∀ j : Nat, (j : Int) ≤ to → p (j : Int) = false) : firstM p to = (0, false) := by
  have : (List.range (to + 1).toNat).find? (fun (i : Nat) => p (i : Int)) = none := by
    rw [List.find?_range_eq_none]
    intro j hj
    rw [h0 j (by omega)]; rfl
  unfold firstM; rw [this]
def vKnown (k : KnownT) : AV := .agg [.ptr 0 0 0 0, .i k.2.1.1, .i k.2.1.2, .i k.2.2.1.1, .i k.2.2.1.2, .i k.2.2.2.1.1, .i k.2.2.2.1.2, .i k.2.2.2.2]
def suitV (x : KnownT ⊕ TrialT) : AV := match x with
  | .inl k => .fn (.func 65) [vKnown k] []
  | .inr _ => .fn (.func 59) [] [.ptr 3 0 0 0, .ptr 4 0 0 0, .ptr 6 0 0 0]
def suitH (x : KnownT ⊕ TrialT) : Heap UU := match x with
  | .inl k => hPl k.1.1 k.1.2
  | .inr x => hTrial x
def suitOk (x : KnownT ⊕ TrialT) : Prop := match x with
  | .inl k => k.1.2.length = k.1.1.length ∧ k.1.1.length < 1000000
  | .inr x => x.1.2.length = x.1.1.length ∧ x.1.1.length < 1000000 ∧ 0 ≤ x.2.1.2 ∧ x.2.1.2 < x.1.1.length
def firstS : FSpec UU where
  X := Int × (KnownT ⊕ TrialT)
  pick := fun args H => match args with
    | [_, to, .fn _ [.agg (a :: t)] []] => match avInt to, avPl H a, avTeam (.agg t) with
      | some to, some a, some t => some (to, .inl (a, t))
      | _, _, _ => none
    | [_, to, .fn _ [] [s, h, r]] => match avInt to, avTrial H s h r with
      | some to, some x => some (to, .inr x)
      | _, _ => none
    | _ => none
  args := fun x => [.i 0, .i x.1, suitV x.2]
  H := fun x => suitH x.2
  R := fun x => .val ⟨.tup [.i (firstM (fun n => suitM x.2 n) x.1).1, .b (firstM (fun n => suitM x.2 n) x.1).2], [], [], []⟩
  pre := fun x => suitOk x.2 ∧ x.1 < 1000000000000
def firstL (x : KnownT ⊕ TrialT) (to : Int) : LSpec UU where
  T := { i : Nat // (i : Int) ≤ 1000000000000 ∧ ∀ j : Nat, j < i → suitM x (j : Int) = false }
  fr := fun i => [(0, .i 0), (1, .i to), (2, suitV x), (6, .i 0), (7, .b false), (8, .i i.1)]
  H := fun _ => suitH x
  mu := fun i => (to + 1 - i.1).toNat
def Tfirst : Tab UU := [(65, knownS.con), (59, enoughS.con)]
theorem Tfirst_ok : Tfirst.Sound Tryz.prog := .cons known_sound (.cons enough_sound .nil)
theorem first_oka (to : Int) (k : KnownT) (hx : firstS.pre (to, .inl k)) : FunOk Tryz.prog 60 (firstS.args (to, .inl k)) (firstS.H (to, .inl k)) (firstS.R (to, .inl k)) := by
  obtain ⟨⟨l, w⟩, ⟨⟨s0, s1⟩, ⟨l0, l1⟩, ⟨g0, g1⟩, full⟩⟩ := k
  refine fun_of (T := Tfirst) (L := fun _ => some (.inv (firstL (.inl ((l, w), ((s0, s1), (l0, l1), (g0, g1), full))) to))) (hs := fun _ => []) hmix Tfirst_ok Tryz.func60 (by kernel_rfl) (by kernel_rfl) ?_
  refine Eq.mp (α :=
      let A7 := Fn.func ((65 : FuncId)); let A3 := Value.int IntKind.i64 (0 : Int); let A8 := Value.bool false = Value.bool false; let A9 := Value.int IntKind.i64 to = Value.int IntKind.i64 to; let A4 := A3 = A3; let A6 := ((s0, s1), (((l0, l1), (((g0, g1), full))))); let Aa := Sum.inl (((l, w), A6)); let Ab := (True ∧ True ∧ True ∧ True ∧ (nat_lit 0 = nat_lit 0 ∧ nat_lit 0 = nat_lit 0 ∧ List.length l = List.length l) ∧ (nat_lit 0 = nat_lit 0 ∧ nat_lit 0 = nat_lit 0 ∧ List.length w = List.length w) ∧ True) ∧ l = l ∧ w = w ∧ True; let A5 := True ∧ Ab; let Ac := firstM (fun (n : Int) => (suitM Aa n)) to; let Ad := Value.bool (Prod.snd Ac); let Ae := Value.int IntKind.i64 (Prod.fst Ac); let Aj := fun (i : Nat) => ∀ (j : Nat), (j < i → ((suitM Aa (↑j : Int)) = false)); let Af := (nat_lit 0 = nat_lit 0 ∧ nat_lit 0 = nat_lit 0 ∧ nat_lit 0 = nat_lit 0) ∧ (Value.int IntKind.i64 s0 = Value.int IntKind.i64 s0) ∧ (Value.int IntKind.i64 s1 = Value.int IntKind.i64 s1) ∧ (Value.int IntKind.i64 l0 = Value.int IntKind.i64 l0) ∧ (Value.int IntKind.i64 l1 = Value.int IntKind.i64 l1) ∧ (Value.int IntKind.i64 g0 = Value.int IntKind.i64 g0) ∧ (Value.int IntKind.i64 g1 = Value.int IntKind.i64 g1) ∧ (Value.int IntKind.i64 full = Value.int IntKind.i64 full) ∧ True; let A0 : Type := { i : Nat // (((↑i : Int) ≤ ((1000000000000 : Int))) ∧ Aj i) }; let A1 := fun (x : A0) => (↑((Subtype.val x)) : Int); let A2 := fun (x : A0) => Value.int IntKind.i64 (A1 x); let Ag := (A7 = A7) ∧ (Af ∧ True) ∧ True; let Ah := fun (x : A0) => (to + (1 : Int)) - A1 x; let Ai := fun (t : A0) => decide ((A1 t ≤ to)); (∃ (x : A0), (A4 ∧ A9 ∧ Ag ∧ A4 ∧ A8 ∧ A3 = A2 x ∧ True) ∧ A5) ∧ ∀ (t : A0), (Ai t = true → (List.length w = List.length l ∧ List.length l < nat_lit 1000000) ∧ (Af ∧ A2 t = A2 t ∧ True) ∧ Ab ∧ (safeM l w (withM A6 (A1 t)) = true → True ∧ ((A2 t = Ae ∧ Ad = Value.bool true ∧ True) ∧ True) ∧ A5) ∧ (safeM l w (withM A6 (A1 t)) = false → True ∧ ∃ (x : A0), ((A4 ∧ A9 ∧ Ag ∧ A4 ∧ A8 ∧ Value.int IntKind.i64 (IntKind.wrap IntKind.i64 (A1 t + (1 : Int))) = A2 x ∧ True) ∧ A5) ∧ Int.toNat (Ah x) < Int.toNat (Ah t))) ∧ (Ai t = false → True ∧ ((A3 = Ae ∧ Ad = Value.bool false ∧ True) ∧ True) ∧ A5))
    (by kernel_rfl) ?_
  simp only [eq_self, AE.goS]
  have h9 : to < 1000000000000 := hx.2
  refine ⟨⟨⟨0, by decide, fun j hj => absurd hj (Nat.not_lt_zero j)⟩, rfl⟩, fun t => ⟨fun ht => ⟨hx.1, fun h => ?_, fun h => ?_⟩, fun ht => ?_⟩⟩
  · have e := first_some (p := fun n => suitM (Sum.inl ((l, w), ((s0, s1), (l0, l1), (g0, g1), full))) n) (to := to) ht h t.2.2
    rw [e]; exact ⟨rfl, rfl⟩
  · have h0 : (t.1 : Int) ≤ to := ht
    refine ⟨⟨t.1 + 1, by omega, below_succ t.2.2 h⟩, ?_, ?_⟩
    · show IntKind.i64.wrap ((t.1 : Int) + 1) = ((t.1 + 1 : Nat) : Int)
      rw [wrap_id (by omega) (by omega)]; rfl
    · show (to + 1 - ((t.1 + 1 : Nat) : Int)).toNat < (to + 1 - (t.1 : Int)).toNat
      omega
  · have h0 : ¬ (t.1 : Int) ≤ to := ht
    have e := first_none (p := fun n => suitM (Sum.inl ((l, w), ((s0, s1), (l0, l1), (g0, g1), full))) n) (to := to) (fun j hj => t.2.2 j (by omega))
    rw [e]; exact ⟨rfl, rfl⟩

theorem first_okb (to : Int) (x : TrialT) (hx : firstS.pre (to, .inr x)) : FunOk Tryz.prog 60 (firstS.args (to, .inr x)) (firstS.H (to, .inr x)) (firstS.R (to, .inr x)) := by
  obtain ⟨⟨l, w⟩, ⟨c, k⟩, ⟨hs, hl, hg, hf, hk⟩, n⟩ := x
  refine fun_of (T := Tfirst) (L := fun _ => some (.inv (firstL (.inr ((l, w), (c, k), (hs, hl, hg, hf, hk), n)) to))) (hs := fun _ => []) hmix Tfirst_ok Tryz.func60 (by kernel_rfl) (by kernel_rfl) ?_
  refine Eq.mp (α :=
      let A7 := (139 : TypeId); let A8 := (138 : TypeId); let A3 := nat_lit 0 = nat_lit 0 ∧ nat_lit 0 = nat_lit 0 ∧ nat_lit 0 = nat_lit 0; let A9 := Fn.func ((59 : FuncId)); let Aa := Fn.func ((87 : FuncId)); let Ab := Fn.func ((88 : FuncId)); let Ac := Fn.func ((58 : FuncId)); let A4 := Value.int IntKind.i64 (0 : Int); let Ad := Value.bool false = Value.bool false; let Ae := Value.int IntKind.i64 to = Value.int IntKind.i64 to; let Af := A3 ∧ A3 ∧ True; let A5 := A4 = A4; let Ag := A3 ∧ (Value.int IntKind.i64 k = Value.int IntKind.i64 k) ∧ True; let Ah := A3 ∧ Af; let Ai := True ∧ True ∧ True ∧ True ∧ (nat_lit 0 = nat_lit 0 ∧ nat_lit 0 = nat_lit 0 ∧ List.length l = List.length l) ∧ (nat_lit 0 = nat_lit 0 ∧ nat_lit 0 = nat_lit 0 ∧ List.length w = List.length w) ∧ True; let Aj := (A9 = A9) ∧ True ∧ Ah; let Ak := ((l, w), (((c, k), ((((hs, ((hl, ((hg, hf, hk)))))), n))))); let Al := Sum.inr Ak; let Am := firstM (fun (n : Int) => (suitM Al n)) to; let An := Value.bool (Prod.snd Am); let Ao := Value.int IntKind.i64 (Prod.fst Am); let At := fun (i : Nat) => ∀ (j : Nat), (j < i → ((suitM Al (↑j : Int)) = false)); let A0 : Type := { i : Nat // (((↑i : Int) ≤ ((1000000000000 : Int))) ∧ At i) }; let A1 := fun (x : A0) => (↑((Subtype.val x)) : Int); let A2 := fun (x : A0) => Value.int IntKind.i64 (A1 x); let Ap := fun (x : A0) => Int.toNat (((to + (1 : Int)) - A1 x)); let Aq := fun (t : A0) => enoughM Ak (A1 t); let Ar := fun (t : A0) => decide ((A1 t ≤ to)); let As := l = l ∧ w = w ∧ ((c = c ∧ ((A8 = A8) ∧ Ag) ∧ (A7 = A7) ∧ Ag) ∧ True) ∧ ((Value.int IntKind.i64 hs = Value.int IntKind.i64 hs) ∧ (Value.int IntKind.i64 hl = Value.int IntKind.i64 hl) ∧ (Value.int IntKind.i64 hg = Value.int IntKind.i64 hg) ∧ (Value.int IntKind.i64 hf = Value.int IntKind.i64 hf) ∧ (hk = hk ∧ ((Ab = Ab) ∧ True ∧ True) ∧ (Aa = Aa) ∧ True ∧ True) ∧ True) ∧ ((Value.int IntKind.i64 n = Value.int IntKind.i64 n) ∧ True) ∧ (((Ac = Ac) ∧ True ∧ Af) ∧ True) ∧ True; let A6 := True ∧ Ai ∧ As; (∃ (x : A0), (A5 ∧ Ae ∧ Aj ∧ A5 ∧ Ad ∧ A4 = A2 x ∧ True) ∧ A6) ∧ ∀ (t : A0), (Ar t = true → (List.length w = List.length l ∧ List.length l < nat_lit 1000000 ∧ (0 : Int) ≤ k ∧ k < (↑(List.length l) : Int)) ∧ (A2 t = A2 t ∧ Ah) ∧ (Ai ∧ As) ∧ (Aq t = true → True ∧ ((A2 t = Ao ∧ An = Value.bool true ∧ True) ∧ True) ∧ A6) ∧ (Aq t = false → True ∧ ∃ (x : A0), ((A5 ∧ Ae ∧ Aj ∧ A5 ∧ Ad ∧ Value.int IntKind.i64 (IntKind.wrap IntKind.i64 (A1 t + (1 : Int))) = A2 x ∧ True) ∧ A6) ∧ Ap x < Ap t)) ∧ (Ar t = false → True ∧ ((A4 = Ao ∧ An = Value.bool false ∧ True) ∧ True) ∧ A6))
    (by kernel_rfl) ?_
  simp only [eq_self, AE.goS]
  have h9 : to < 1000000000000 := hx.2
  refine ⟨⟨⟨0, by decide, fun j hj => absurd hj (Nat.not_lt_zero j)⟩, rfl⟩, fun t => ⟨fun ht => ⟨hx.1, fun h => ?_, fun h => ?_⟩, fun ht => ?_⟩⟩
  · have e := first_some (p := fun y => suitM (Sum.inr ((l, w), (c, k), (hs, hl, hg, hf, hk), n)) y) (to := to) ht h t.2.2
    rw [e]; exact ⟨rfl, rfl⟩
  · have h0 : (t.1 : Int) ≤ to := ht
    refine ⟨⟨t.1 + 1, by omega, below_succ t.2.2 h⟩, ?_, ?_⟩
    · show IntKind.i64.wrap ((t.1 : Int) + 1) = ((t.1 + 1 : Nat) : Int)
      rw [wrap_id (by omega) (by omega)]; rfl
    · show (to + 1 - ((t.1 + 1 : Nat) : Int)).toNat < (to + 1 - (t.1 : Int)).toNat
      omega
  · have h0 : ¬ (t.1 : Int) ≤ to := ht
    have e := first_none (p := fun y => suitM (Sum.inr ((l, w), (c, k), (hs, hl, hg, hf, hk), n)) y) (to := to) (fun j hj => t.2.2 j (by omega))
    rw [e]; exact ⟨rfl, rfl⟩

theorem first_sound : Sound Tryz.prog 60 firstS.con := FSpec.sound _ (enter_of Tryz.func60 (by kernel_rfl) (by kernel_rfl)) fun x h => match x, h with
  | (to, .inl k), h => first_oka to k h
  | (to, .inr x), h => first_okb to x h
def leastFM (t : TeamT) (p : PlotT) : Int × Bool := firstM (fun n => suitM (.inl ((p.steps, worksM p), t)) n) t.2.2.2
def leastM (t : TeamT) (p : PlotT) : Int × Int := if openErrM t p true == 0 then ((leastFM t p).1, if (leastFM t p).2 then 0 else 11) else (0, openErrM t p true)
def leastS : FSpec UU := oneS fun x => .val ⟨.tup [.i (leastM x.1 x.2).1, .i (leastM x.1 x.2).2], [], [], []⟩
def Tleast : Tab UU := [(41, openTS.con), (60, firstS.con), (53, needS.con), (40, caughtS.con)]
theorem Tleast_ok : Tleast.Sound Tryz.prog := .cons openT_sound (.cons first_sound (.cons need_sound (.cons caught_sound .nil)))
theorem least_eq (t : TeamT) (p : PlotT) : leastM t p = if openErrM t p true == 0 then ((leastFM t p).1, if (leastFM t p).2 then 0 else 11) else (0, openErrM t p true) := rfl
theorem least_ok : ∀ x, leastS.pre x → FunOk Tryz.prog 18 (leastS.args x) (leastS.H x) (leastS.R x) := by
  rintro ⟨⟨⟨s0, s1⟩, ⟨l0, l1⟩, ⟨g0, g1⟩, full⟩, ⟨⟨long, rise, change, ps⟩, st⟩⟩ hx
  refine fun_ofG (T := Tleast) (L := fun _ => none) (hs := fun _ => []) (sp := fun _ => none) hmix Tleast_ok (tl := toldL 64) (toldL_ok toldLeast) (it := fun _ => none) (fun _ _ h => by cases h) Tryz.func18 (by kernel_rfl) (by kernel_rfl) ?_
  refine Eq.mp (α :=
      let Ad := (130 : TypeId); let Ae := nat_lit 0 = nat_lit 0 ∧ nat_lit 0 = nat_lit 0 ∧ nat_lit 0 = nat_lit 0; let A0 := Value.int IntKind.i64 (0 : Int); let Af := List.length st < nat_lit 1000000; let A2 := Value.int IntKind.i64 (11 : Int); let A3 := Ae ∧ True; let Ag := Value.int IntKind.i64 full = Value.int IntKind.i64 full; let Ah := List.length (worksM (PlotT.mk (GroundT.mk long rise change ps) st)); let Ai := Ad = Ad; let Aj := nat_lit 0 = nat_lit 0 ∧ nat_lit 0 = nat_lit 0 ∧ List.length st = List.length st; let A4 := ps = ps ∧ st = st ∧ True; let A5 := True ∧ A4; let Ak := A0 = A0; let A6 := (A2 = A2) ∧ True; let A7 := (Ak ∧ True) ∧ True; let A8 := ((s0, s1), (((l0, l1), (((g0, g1), full))))); let Al := leastM A8 (PlotT.mk (GroundT.mk long rise change ps) st); let Am := openErrM A8 (PlotT.mk (GroundT.mk long rise change ps) st) true; let A9 := Value.int IntKind.i64 Am; let An := Value.int IntKind.i64 (Prod.fst Al); let Aa := Value.int IntKind.i64 (Prod.snd Al); let Ao := Am == (0 : Int); let Ap := firstM (fun (n : Int) => (suitM (Sum.inl ((((st, worksM (PlotT.mk (GroundT.mk long rise change ps) st))), A8))) n)) full; let Ab := Prod.snd Ap; let A1 := Value.bool Ab; let Ac := (Value.int IntKind.i64 s0 = Value.int IntKind.i64 s0) ∧ (Value.int IntKind.i64 s1 = Value.int IntKind.i64 s1) ∧ (Value.int IntKind.i64 l0 = Value.int IntKind.i64 l0) ∧ (Value.int IntKind.i64 l1 = Value.int IntKind.i64 l1) ∧ (Value.int IntKind.i64 g0 = Value.int IntKind.i64 g0) ∧ (Value.int IntKind.i64 g1 = Value.int IntKind.i64 g1) ∧ Ag ∧ True; let Aq := ((Value.int IntKind.i64 long = Value.int IntKind.i64 long) ∧ (Value.int IntKind.i64 rise = Value.int IntKind.i64 rise) ∧ (Value.int IntKind.i64 change = Value.int IntKind.i64 change) ∧ (nat_lit 0 = nat_lit 0 ∧ nat_lit 0 = nat_lit 0 ∧ List.length ps = List.length ps) ∧ Aj ∧ True) ∧ Value.bool true = Value.bool true ∧ True; let Ar := (Value.int IntKind.i64 (Prod.fst Ap)) = An; (List.length ps < nat_lit 1000000 ∧ Af) ∧ (Ao = true → (Ac ∧ Aq) ∧ A4 ∧ ((Ah = List.length st ∧ Af) ∧ full < (1000000000000 : Int)) ∧ (Ak ∧ Ag ∧ (Fn.func (nat_lit 65) = Fn.func (65 : FuncId) ∧ ((Ae ∧ Ac) ∧ True) ∧ True) ∧ True) ∧ ((True ∧ True ∧ True ∧ True ∧ Aj ∧ (nat_lit 5 = nat_lit 5 ∧ nat_lit 0 = nat_lit 0 ∧ nat_lit 0 = nat_lit 0 ∧ List.length (worksM (PlotT.mk (GroundT.mk long rise change ps) st)) = Ah) ∧ True) ∧ st = st ∧ worksM (PlotT.mk (GroundT.mk long rise change ps) st) = worksM (PlotT.mk (GroundT.mk long rise change ps) st) ∧ True) ∧ True ∧ (Ab = true → (A1 = A1 ∧ A6) ∧ True ∧ True ∧ (Value.nilIface = Value.nilIface ∧ A3) ∧ A7 ∧ True ∧ ((Ar ∧ A0 = Aa ∧ True) ∧ True) ∧ A5) ∧ (Ab = false → (A1 = A1 ∧ A6) ∧ True ∧ True ∧ ((Ai ∧ A6) ∧ A3) ∧ A7 ∧ True ∧ ((Ar ∧ A2 = Aa ∧ True) ∧ True) ∧ A5)) ∧ (Ao = false → (Ac ∧ Aq) ∧ A4 ∧ True ∧ ((Ai ∧ A9 = A9 ∧ True) ∧ A3) ∧ A7 ∧ True ∧ ((A0 = An ∧ A9 = Aa ∧ True) ∧ True) ∧ A5))
    (by kernel_rfl) ?_
  simp only [eq_self, AE.goS]
  have hl : (worksM ⟨⟨long, rise, change, ps⟩, st⟩).length = st.length := works_len _
  obtain ⟨h1, h2⟩ := hx
  have h1' : ps.length < 1000000 := h1
  have h2' : st.length < 1000000 := h2
  have e := least_eq ((s0, s1), (l0, l1), (g0, g1), full) ⟨⟨long, rise, change, ps⟩, st⟩
  have hf : (openErrM ((s0, s1), (l0, l1), (g0, g1), full) ⟨⟨long, rise, change, ps⟩, st⟩ true == 0) = true → full < 1000000000000 := fun h => by
    have := team_full (open_team h)
    have h' : full ≤ 10000 := this
    omega
  have e1 : firstM (fun n => suitM (Sum.inl ((st, worksM ⟨⟨long, rise, change, ps⟩, st⟩), (s0, s1), (l0, l1), (g0, g1), full)) n) full = leastFM ((s0, s1), (l0, l1), (g0, g1), full) ⟨⟨long, rise, change, ps⟩, st⟩ := rfl
  rw [e1, e]
  clear e e1
  revert hf
  generalize openErrM ((s0, s1), (l0, l1), (g0, g1), full) ⟨⟨long, rise, change, ps⟩, st⟩ true = q
  generalize leastFM ((s0, s1), (l0, l1), (g0, g1), full) ⟨⟨long, rise, change, ps⟩, st⟩ = f1
  intro hf
  simp only [hl, h1', h2']
  obtain ⟨a, b⟩ := f1
  refine ⟨⟨trivial, trivial⟩, fun h => ⟨⟨⟨trivial, trivial⟩, hf h⟩, ?_⟩, fun h => ?_⟩
  · rw [if_pos h]
    cases b <;> simp
  · rw [if_neg (by rw [h]; decide)]
    simp

theorem least_sound : Sound Tryz.prog 18 leastS.con := FSpec.sound _ (enter_of Tryz.func18 (by kernel_rfl) (by kernel_rfl)) least_ok
end AE.Team

namespace AE.Team
open Go AE Go.Proofs AE.Soil

def noTeamS : FSpec UU where
  X := TeamT
  pick := fun args _ => match args with
    | [a] => avTeam a
    | _ => none
  args := fun (x : TeamT) => [vTeam x]
  H := fun _ => []
  R := fun (x : TeamT) => .val ⟨.b (!teamM x), [], [], []⟩
def TnoTeam : Tab UU := [(84, isTeamS.con)]
theorem TnoTeam_ok : TnoTeam.Sound Tryz.prog := .cons isTeam_sound .nil
theorem noTeam_ok : ∀ x, noTeamS.pre x → FunOk Tryz.prog 94 (noTeamS.args x) (noTeamS.H x) (noTeamS.R x) := by
  rintro ⟨⟨s0, s1⟩, ⟨l0, l1⟩, ⟨g0, g1⟩, full⟩ _
  refine fun_of (T := TnoTeam) (L := fun _ => none) (hs := fun _ => []) hmix TnoTeam_ok Tryz.func94 (by kernel_rfl) (by kernel_rfl) ?_
  refine Eq.mp (α :=
      let A0 := ((s0, s1), (((l0, l1), (((g0, g1), full))))); True ∧ ((Value.int IntKind.i64 s0 = Value.int IntKind.i64 s0 ∧ Value.int IntKind.i64 s1 = Value.int IntKind.i64 s1 ∧ Value.int IntKind.i64 l0 = Value.int IntKind.i64 l0 ∧ Value.int IntKind.i64 l1 = Value.int IntKind.i64 l1 ∧ Value.int IntKind.i64 g0 = Value.int IntKind.i64 g0 ∧ Value.int IntKind.i64 g1 = Value.int IntKind.i64 g1 ∧ Value.int IntKind.i64 full = Value.int IntKind.i64 full ∧ True) ∧ True) ∧ True ∧ True ∧ ((Value.bool !teamM A0) = Value.bool !teamM A0 ∧ True) ∧ True ∧ True)
    (by kernel_rfl) ?_
  simp

theorem noTeam_sound : Sound Tryz.prog 94 noTeamS.con := FSpec.sound _ (enter_of Tryz.func94 (by kernel_rfl) (by kernel_rfl)) noTeam_ok
def dfT : TeamT := ((0, 0), (0, 0), (0, 0), 0)
def teamsS (R : List TeamT → AV) : FSpec UU where
  X := List TeamT
  pick := fun args H => match args with
    | [a, .fn _ _ []] => sliceAt .team H a
    | _ => none
  args := fun (l : List TeamT) => [.sl 0 0 0 l.length, .fn (.func 94) [] []]
  H := fun (l : List TeamT) => [.one (.ro .team l)]
  R := fun (l : List TeamT) => .val ⟨R l, [], [], []⟩
  pre := fun (l : List TeamT) => l.length < 1000000
def teamsL (l : List TeamT) : LSpec UU where
  T := { i : Nat // i ≤ l.length ∧ ∀ j, j < i → (fun t => !teamM t) (l.getD j dfT) = false }
  fr := fun t => [(0, .sl 0 0 0 l.length), (1, .fn (.func 94) [] []), (7, .i l.length), (8, .i t.1)]
  H := fun _ => [.one (.ro .team l)]
  mu := fun t => l.length - t.1
def idxTr : FSpec UU := teamsS fun l => .i (idxM (fun t => !teamM t) l)
def anyTr : FSpec UU := teamsS fun l => .b (l.any fun t => !teamM t)
def TidxT : Tab UU := [(94, noTeamS.con)]
theorem TidxT_ok : TidxT.Sound Tryz.prog := .cons noTeam_sound .nil
theorem idxT_ok : ∀ x, idxTr.pre x → FunOk Tryz.prog 109 (idxTr.args x) (idxTr.H x) (idxTr.R x) := by
  intro (l : List TeamT) hl
  refine fun_of (T := TidxT) (L := fun _ => some (.inv (teamsL l))) (hs := fun _ => []) hmix TidxT_ok Tryz.func109 (by kernel_rfl) (by kernel_rfl) ?_
  refine Eq.mp (α :=
      let A6 := Fn.func ((94 : FuncId)); let A7 := (↑(List.length l) : Int); let A2 := True ∧ l = l ∧ True; let Av := idxM (fun (t : TeamT) => !teamM t) l; let A8 := Value.int IntKind.i64 A7; let Aw := fun (j : Nat) => (fun (t : TeamT) => !teamM t) (List.getD l j dfT); let A3 := ((0 : Int), (0 : Int)); let A9 := Value.int IntKind.i64 Av; let Aa := nat_lit 0 = nat_lit 0 ∧ nat_lit 0 = nat_lit 0 ∧ List.length l = List.length l; let Ab := (A6 = A6) ∧ True ∧ True; let Ax := fun (i : Nat) => ∀ (j : Nat), (j < i → (Aw j = false)); let Ac := A8 = A8; let A0 : Type := { i : Nat // ((i ≤ List.length l) ∧ Ax i) }; let Ad := fun (x : A0) => Subtype.val x; let A1 := fun (x : A0) => (↑(Ad x) : Int); let A4 := fun (x : A0) => Value.int IntKind.i64 (A1 x); let Ae := fun (x : A0) => List.length l - Ad x; let Af := fun (t : A0) => nat_lit 0 + (Int.toNat (A1 t)); let Ag := fun (t : A0) => A1 t < A7; let Ah := fun (t : A0) => decide (Ag t); let A5 := fun (t : A0) => List.getD l (Af t) ((A3, ((A3, ((A3, (0 : Int))))))); let Ai := fun (t : A0) => !(teamM (A5 t)); let Aj := fun (t : A0) => Prod.fst (A5 t); let Ak := fun (t : A0) => Prod.snd (A5 t); let Al := fun (t : A0) => Prod.snd (Ak t); let Am := fun (t : A0) => Prod.fst (Ak t); let An := fun (t : A0) => Value.int IntKind.i64 ((Prod.snd (Aj t))); let Ao := fun (t : A0) => Value.int IntKind.i64 ((Prod.fst (Aj t))); let Ap := fun (t : A0) => Prod.fst (Al t); let Aq := fun (t : A0) => Prod.snd (Al t); let Ar := fun (t : A0) => Value.int IntKind.i64 ((Prod.fst (Am t))); let As := fun (t : A0) => Value.int IntKind.i64 ((Prod.snd (Am t))); let At := fun (t : A0) => Prod.snd (Ap t); let Au := fun (t : A0) => Prod.fst (Ap t); (∃ (x : A0), (Aa ∧ Ab ∧ Ac ∧ Value.int IntKind.i64 (0 : Int) = A4 x ∧ True) ∧ A2) ∧ ∀ (t : A0), (Ah t = true → ((0 : Int) ≤ A1 t ∧ Ag t) ∧ Af t < List.length l ∧ True ∧ ((Ao t = Ao t ∧ An t = An t ∧ Ar t = Ar t ∧ As t = As t ∧ Value.int IntKind.i64 (Au t) = Value.int IntKind.i64 (Au t) ∧ Value.int IntKind.i64 (At t) = Value.int IntKind.i64 (At t) ∧ Value.int IntKind.i64 (Aq t) = Value.int IntKind.i64 (Aq t) ∧ True) ∧ True) ∧ True ∧ (Ai t = true → True ∧ (A4 t = A9 ∧ True) ∧ A2) ∧ (Ai t = false → True ∧ ∃ (x : A0), ((Aa ∧ Ab ∧ Ac ∧ Value.int IntKind.i64 (IntKind.wrap IntKind.i64 (A1 t + (1 : Int))) = A4 x ∧ True) ∧ A2) ∧ Ae x < Ae t)) ∧ (Ah t = false → True ∧ (Value.int IntKind.i64 (-1 : Int) = A9 ∧ True) ∧ A2))
    (by kernel_rfl) ?_
  simp only [eq_self, AE.goS]
  have hl' : l.length < 1000000 := hl
  refine ⟨⟨⟨0, Nat.zero_le _, fun j hj => absurd hj (Nat.not_lt_zero j)⟩, rfl⟩, fun t => ⟨fun ht => ?_, fun ht => ?_⟩⟩
  · obtain ⟨i, hi, h0⟩ := t
    have hlt : i < l.length := by have h1 : (i : Int) < (l.length : Int) := ht; omega
    refine ⟨⟨Int.natCast_nonneg _, ht⟩, hlt, fun h1 => (idxM_some hlt dfT h1 h0).symm, fun h1 => ⟨⟨i + 1, hlt, below_succ h0 h1⟩, sucI i (by omega), dec1 hlt⟩⟩
  · obtain ⟨i, hi, h0⟩ := t
    have hie : i = l.length := by have h1 : ¬ (i : Int) < (l.length : Int) := ht; omega
    exact (idxM_none dfT (fun j hj => h0 j (by omega))).symm

theorem idxT_sound : Sound Tryz.prog 109 idxTr.con := FSpec.sound _ (enter_of Tryz.func109 (by kernel_rfl) (by kernel_rfl)) idxT_ok
def TidxT2 : Tab UU := [(109, idxTr.con)]
theorem TidxT2_ok : TidxT2.Sound Tryz.prog := .cons idxT_sound .nil
theorem anyT_ok : ∀ x, anyTr.pre x → FunOk Tryz.prog 93 (anyTr.args x) (anyTr.H x) (anyTr.R x) := by
  intro (l : List TeamT) hl
  refine fun_of (T := TidxT2) (L := fun _ => none) (hs := fun _ => []) hmix TidxT2_ok Tryz.func93 (by kernel_rfl) (by kernel_rfl) ?_
  refine Eq.mp (α :=
      let A0 := (94 : FuncId); let A1 := l = l ∧ True; List.length l < nat_lit 1000000 ∧ ((nat_lit 0 = nat_lit 0 ∧ nat_lit 0 = nat_lit 0 ∧ List.length l = List.length l) ∧ (Fn.func A0 = Fn.func A0 ∧ True ∧ True) ∧ True) ∧ A1 ∧ True ∧ (Value.bool (decide (idxM (fun (t : TeamT) => !teamM t) l ≥ (0 : Int))) = Value.bool (List.any l fun (t : TeamT) => !teamM t) ∧ True) ∧ True ∧ A1)
    (by kernel_rfl) ?_
  have e := idxM_any (fun t => !teamM t) l
  have hl' : l.length < 1000000 := hl
  rw [← e]
  simpa using hl'

theorem anyT_sound : Sound Tryz.prog 93 anyTr.con := FSpec.sound _ (enter_of Tryz.func93 (by kernel_rfl) (by kernel_rfl)) anyT_ok
def noPlotS : FSpec UU where
  X := PlotT
  pick := fun args H => match args with
    | [a] => avPlot H a
    | _ => none
  args := fun (x : PlotT) => [vPlot x 0 1]
  H := fun (x : PlotT) => hPlot x
  R := fun (x : PlotT) => .val ⟨.b (!isPlotM x), [], [], []⟩
  pre := fun (x : PlotT) => x.g.pits.length < 1000000 ∧ x.steps.length < 9223372036854775808
def TnoPlot : Tab UU := [(85, isPlotS.con)]
theorem TnoPlot_ok : TnoPlot.Sound Tryz.prog := .cons isPlot_sound .nil
theorem noPlot_ok : ∀ x, noPlotS.pre x → FunOk Tryz.prog 96 (noPlotS.args x) (noPlotS.H x) (noPlotS.R x) := by
  rintro ⟨⟨long, rise, change, ps⟩, st⟩ hx
  refine fun_of (T := TnoPlot) (L := fun _ => none) (hs := fun _ => []) hmix TnoPlot_ok Tryz.func96 (by kernel_rfl) (by kernel_rfl) ?_
  refine Eq.mp (α :=
      let A0 := !isPlotM (PlotT.mk (GroundT.mk long rise change ps) st); let A1 := ps = ps ∧ st = st ∧ True; (List.length ps < nat_lit 1000000 ∧ List.length st < nat_lit 9223372036854775808) ∧ ((Value.int IntKind.i64 long = Value.int IntKind.i64 long ∧ Value.int IntKind.i64 rise = Value.int IntKind.i64 rise ∧ Value.int IntKind.i64 change = Value.int IntKind.i64 change ∧ (nat_lit 0 = nat_lit 0 ∧ nat_lit 0 = nat_lit 0 ∧ List.length ps = List.length ps) ∧ (nat_lit 0 = nat_lit 0 ∧ nat_lit 0 = nat_lit 0 ∧ List.length st = List.length st) ∧ True) ∧ True) ∧ A1 ∧ True ∧ (Value.bool A0 = Value.bool A0 ∧ True) ∧ True ∧ A1)
    (by kernel_rfl) ?_
  simp only [eq_self, AE.goS]
  exact hx

theorem noPlot_sound : Sound Tryz.prog 96 noPlotS.con := FSpec.sound _ (enter_of Tryz.func96 (by kernel_rfl) (by kernel_rfl)) noPlot_ok
def elP (p : PlotT) (a b : Nat) : (Int × Int × Int) × Sd × Sd := ((p.g.long, p.g.rise, p.g.change), (2, a, p.g.pits.length), (2, b, p.steps.length))
abbrev PlotsT := PlotT × Option PlotT
def hPlots (b : Nat) (x : PlotsT) : Heap UU := match x.2 with
  | none => [.one (.ro .plotg [elP x.1 (b + 1) (b + 2)]), .one (.ro .pit x.1.g.pits), .one (.ro .tstep x.1.steps)]
  | some q => [.one (.ro .plotg [elP x.1 (b + 1) (b + 2), elP q (b + 3) (b + 4)]), .one (.ro .pit x.1.g.pits), .one (.ro .tstep x.1.steps), .one (.ro .pit q.g.pits), .one (.ro .tstep q.steps)]
def nPlots (x : PlotsT) : Nat := match x.2 with
  | none => 1
  | some _ => 2
def plotAt (H : Heap UU) (e : (Int × Int × Int) × Sd × Sd) : Option PlotT := match sliceAt .pit H (vSd e.2.1), sliceAt .tstep H (vSd e.2.2) with
  | some ps, some st => some ⟨⟨e.1.1, e.1.2.1, e.1.2.2, ps⟩, st⟩
  | _, _ => none
def avPlots (H : Heap UU) (a : AV) : Option PlotsT := match sliceAt .plotg H a with
  | some [e] => match plotAt H e with
    | some p => some (p, none)
    | none => none
  | some [e, f] => match plotAt H e, plotAt H f with
    | some p, some q => some (p, some q)
    | _, _ => none
  | _ => none
def okP (p : PlotT) : Prop := p.g.pits.length < 1000000 ∧ p.steps.length < 1000000
def okPlots (x : PlotsT) : Prop := match x.2 with
  | none => False
  | some q => okP x.1 ∧ okP q
def lPlots (x : PlotsT) : List PlotT := match x.2 with
  | none => [x.1]
  | some q => [x.1, q]
def plotsS (R : PlotsT → AV) : FSpec UU where
  X := PlotsT
  pick := fun args H => match args with
    | [a, .fn _ _ []] => avPlots H a
    | _ => none
  args := fun x => [.sl 0 0 0 (nPlots x), .fn (.func 96) [] []]
  H := fun x => hPlots 0 x
  R := fun x => .val ⟨R x, [], [], []⟩
  pre := fun x => okPlots x
def idxPr : FSpec UU := plotsS fun x => .i (idxM (fun t => !isPlotM t) (lPlots x))
def anyPr : FSpec UU := plotsS fun x => .b ((lPlots x).any fun t => !isPlotM t)
def TidxP : Tab UU := [(96, noPlotS.con)]
theorem TidxP_ok : TidxP.Sound Tryz.prog := .cons noPlot_sound .nil

theorem idxP_ok2 (p q : PlotT) (hx : okP p) (hy : okP q) : FunOk Tryz.prog 110 (idxPr.args (p, some q)) (idxPr.H (p, some q)) (idxPr.R (p, some q)) := by
  obtain ⟨⟨long, rise, change, ps⟩, st⟩ := p
  obtain ⟨⟨long2, rise2, change2, ps2⟩, st2⟩ := q
  refine fun_of (T := TidxP) (L := fun _ => some (.unroll 3)) (hs := fun _ => []) hmix TidxP_ok Tryz.func110 (by kernel_rfl) (by kernel_rfl) ?_
  refine Eq.mp (α :=
      let A4 := (nat_lit 0, nat_lit 0, nat_lit 0); let A5 := (0 : Int) < (↑(nat_lit 2) : Int); let A6 := ps2 = ps2 ∧ st2 = st2 ∧ True; let A0 := IntKind.wrap IntKind.i64 ((0 : Int) + (1 : Int)); let A7 := A0 < (↑(nat_lit 2) : Int); let AB := idxM (fun (t : PlotT) => !isPlotM t) (PlotT.mk (GroundT.mk long rise change ps) st :: ([PlotT.mk (GroundT.mk long2 rise2 change2 ps2) st2] : List PlotT)); let A1 := Value.int IntKind.i64 AB; let A8 := IntKind.wrap IntKind.i64 (A0 + (1 : Int)); let A9 := A8 < (↑(nat_lit 2) : Int); let Aa := ((((0 : Int), (((0 : Int), (0 : Int))))), ((A4, A4))); let Ab := decide A5; let Ac := decide A7; let Ad : List ((Int × Int × Int) × Sd × Sd) := ((((long, rise, change)), ((((nat_lit 2, nat_lit 1, List.length ps)), ((nat_lit 2, nat_lit 2, List.length st)))))) :: ([((((long2, rise2, change2)), ((((nat_lit 2, nat_lit 3, List.length ps2)), ((nat_lit 2, nat_lit 4, List.length st2))))))] : List ((Int × Int × Int) × Sd × Sd)); let Ae := decide A9; let Af := List.getD Ad (nat_lit 1) Aa; let Ag := List.getD Ad (nat_lit 0) Aa; let A2 := True ∧ (((Value.int IntKind.i64 long = Value.int IntKind.i64 long) ∧ (Value.int IntKind.i64 rise = Value.int IntKind.i64 rise) ∧ (Value.int IntKind.i64 change = Value.int IntKind.i64 change) ∧ (nat_lit 0 = nat_lit 0 ∧ nat_lit 0 = nat_lit 0 ∧ List.length ps = List.length ps) ∧ (nat_lit 0 = nat_lit 0 ∧ nat_lit 0 = nat_lit 0 ∧ List.length st = List.length st) ∧ True) ∧ ((Value.int IntKind.i64 long2 = Value.int IntKind.i64 long2) ∧ (Value.int IntKind.i64 rise2 = Value.int IntKind.i64 rise2) ∧ (Value.int IntKind.i64 change2 = Value.int IntKind.i64 change2) ∧ (nat_lit 0 = nat_lit 0 ∧ nat_lit 0 = nat_lit 0 ∧ List.length ps2 = List.length ps2) ∧ (nat_lit 0 = nat_lit 0 ∧ nat_lit 0 = nat_lit 0 ∧ List.length st2 = List.length st2) ∧ True) ∧ True) ∧ ps = ps ∧ st = st ∧ A6; let Ah := Prod.snd Ag; let Ai := Prod.fst Af; let Aj := Prod.snd Af; let Ak := Prod.fst Ag; let Al := Prod.fst Ai; let Am := Prod.snd Ak; let An := Prod.snd Ai; let Ao := Prod.fst Ak; let Ap := Prod.fst An; let Aq := Prod.snd An; let Ar := Prod.fst Am; let As := Prod.snd Am; let At := Value.int IntKind.i64 Ao; let Au := Value.int IntKind.i64 Al; let Av := Value.int IntKind.i64 As; let Aw := Value.int IntKind.i64 Ar; let Ax := Value.int IntKind.i64 Ap; let Ay := Value.int IntKind.i64 Aq; let A3 := True ∧ ((((Value.int IntKind.i64 ((-1 : Int))) = A1) ∧ True) ∧ A2); let Az := PlotT.mk (GroundT.mk Ao Ar As ps) st; let AA := isPlotM (PlotT.mk (GroundT.mk Al Ap Aq ps2) st2); (Ab = true → ((0 : Int) ≤ (0 : Int) ∧ A5) ∧ nat_lit 0 < nat_lit 2 ∧ (List.length ps < nat_lit 1000000 ∧ List.length st < nat_lit 9223372036854775808) ∧ ((At = At ∧ Aw = Aw ∧ Av = Av ∧ (nat_lit 0 = nat_lit 0 ∧ nat_lit 0 = nat_lit 0 ∧ Prod.snd (Prod.snd (Prod.fst Ah)) = List.length ps) ∧ (nat_lit 0 = nat_lit 0 ∧ nat_lit 0 = nat_lit 0 ∧ Prod.snd (Prod.snd (Prod.snd Ah)) = List.length st) ∧ True) ∧ True) ∧ (ps = ps ∧ st = st ∧ True) ∧ ((!isPlotM Az) = true → True ∧ (Value.int IntKind.i64 (0 : Int) = A1 ∧ True) ∧ A2) ∧ ((!isPlotM Az) = false → (Ac = true → ((0 : Int) ≤ A0 ∧ A7) ∧ nat_lit 1 < nat_lit 2 ∧ (List.length ps2 < nat_lit 1000000 ∧ List.length st2 < nat_lit 9223372036854775808) ∧ ((Au = Au ∧ Ax = Ax ∧ Ay = Ay ∧ (nat_lit 0 = nat_lit 0 ∧ nat_lit 0 = nat_lit 0 ∧ Prod.snd (Prod.snd (Prod.fst Aj)) = List.length ps2) ∧ (nat_lit 0 = nat_lit 0 ∧ nat_lit 0 = nat_lit 0 ∧ Prod.snd (Prod.snd (Prod.snd Aj)) = List.length st2) ∧ True) ∧ True) ∧ A6 ∧ ((!AA) = true → True ∧ (Value.int IntKind.i64 A0 = A1 ∧ True) ∧ A2) ∧ ((!AA) = false → (Ae = true → ((0 : Int) ≤ A8 ∧ A9) ∧ nat_lit 2 < nat_lit 2 ∧ False) ∧ (Ae = false → A3))) ∧ (Ac = false → A3))) ∧ (Ab = false → A3))
    (by kernel_rfl) ?_
  simp only [eq_self, AE.goS]
  have w1 : IntKind.i64.wrap (1 : Int) = 1 := by decide
  have h1 : ps.length < 1000000 := hx.1
  have h2 : st.length < 1000000 := hx.2
  have h3 : st.length < 9223372036854775808 := by omega
  have w2 : IntKind.i64.wrap (2 : Int) = 2 := by decide
  have w3 : IntKind.i64.wrap ((1 : Int) + 1) = 2 := by decide
  have k1 : ps2.length < 1000000 := hy.1
  have k2 : st2.length < 1000000 := hy.2
  have k3 : st2.length < 9223372036854775808 := by omega
  cases hq : isPlotM ⟨⟨long, rise, change, ps⟩, st⟩ <;> cases hr : isPlotM ⟨⟨long2, rise2, change2, ps2⟩, st2⟩ <;> simp [idxM, List.findIdx?_cons, hq, hr, w1, w2, w3, h1, h2, h3, k1, k2, k3]

theorem idxP_sound : Sound Tryz.prog 110 idxPr.con := FSpec.sound _ (enter_of Tryz.func110 (by kernel_rfl) (by kernel_rfl)) fun x h => match x, h with
  | (p, none), h => (show False from h).elim
  | (p, some q), h => idxP_ok2 p q h.1 h.2
def TidxP2 : Tab UU := [(110, idxPr.con)]
theorem TidxP2_ok : TidxP2.Sound Tryz.prog := .cons idxP_sound .nil

theorem anyP_ok2 (p q : PlotT) (hx : okP p) (hy : okP q) : FunOk Tryz.prog 95 (anyPr.args (p, some q)) (anyPr.H (p, some q)) (anyPr.R (p, some q)) := by
  obtain ⟨⟨long, rise, change, ps⟩, st⟩ := p
  obtain ⟨⟨long2, rise2, change2, ps2⟩, st2⟩ := q
  refine fun_of (T := TidxP2) (L := fun _ => none) (hs := fun _ => []) hmix TidxP2_ok Tryz.func95 (by kernel_rfl) (by kernel_rfl) ?_
  refine Eq.mp (α :=
      let A0 := Fn.func ((96 : FuncId)); let A1 := ps = ps ∧ st = st ∧ ps2 = ps2 ∧ st2 = st2 ∧ True; let A2 := (Value.int IntKind.i64 long2 = Value.int IntKind.i64 long2) ∧ (Value.int IntKind.i64 rise2 = Value.int IntKind.i64 rise2) ∧ (Value.int IntKind.i64 change2 = Value.int IntKind.i64 change2) ∧ (nat_lit 0 = nat_lit 0 ∧ nat_lit 0 = nat_lit 0 ∧ List.length ps2 = List.length ps2) ∧ (nat_lit 0 = nat_lit 0 ∧ nat_lit 0 = nat_lit 0 ∧ List.length st2 = List.length st2) ∧ True; let A3 := (Value.int IntKind.i64 long = Value.int IntKind.i64 long) ∧ (Value.int IntKind.i64 rise = Value.int IntKind.i64 rise) ∧ (Value.int IntKind.i64 change = Value.int IntKind.i64 change) ∧ (nat_lit 0 = nat_lit 0 ∧ nat_lit 0 = nat_lit 0 ∧ List.length ps = List.length ps) ∧ (nat_lit 0 = nat_lit 0 ∧ nat_lit 0 = nat_lit 0 ∧ List.length st = List.length st) ∧ True; ((List.length ps < nat_lit 1000000 ∧ List.length st < nat_lit 1000000) ∧ List.length ps2 < nat_lit 1000000 ∧ List.length st2 < nat_lit 1000000) ∧ ((nat_lit 0 = nat_lit 0 ∧ nat_lit 0 = nat_lit 0 ∧ nat_lit 2 = nat_lit 2) ∧ (A0 = A0 ∧ True ∧ True) ∧ True) ∧ ((A3 ∧ A2 ∧ True) ∧ A1) ∧ True ∧ (Value.bool (decide (idxM (fun (t : PlotT) => !isPlotM t) [PlotT.mk (GroundT.mk long rise change ps) st, PlotT.mk (GroundT.mk long2 rise2 change2 ps2) st2] ≥ (0 : Int))) = Value.bool (!isPlotM (PlotT.mk (GroundT.mk long rise change ps) st) || (!isPlotM (PlotT.mk (GroundT.mk long2 rise2 change2 ps2) st2) || false)) ∧ True) ∧ True ∧ (A3 ∧ A2 ∧ True) ∧ A1)
    (by kernel_rfl) ?_
  simp only [eq_self, AE.goS]
  have w1 : IntKind.i64.wrap (1 : Int) = 1 := by decide
  have h1 : ps.length < 1000000 := hx.1
  have h2 : st.length < 1000000 := hx.2
  have h3 : st.length < 9223372036854775808 := by omega
  have w2 : IntKind.i64.wrap (2 : Int) = 2 := by decide
  have w3 : IntKind.i64.wrap ((1 : Int) + 1) = 2 := by decide
  have k1 : ps2.length < 1000000 := hy.1
  have k2 : st2.length < 1000000 := hy.2
  have k3 : st2.length < 9223372036854775808 := by omega
  cases hq : isPlotM ⟨⟨long, rise, change, ps⟩, st⟩ <;> cases hr : isPlotM ⟨⟨long2, rise2, change2, ps2⟩, st2⟩ <;> simp [idxM, List.findIdx?_cons, hq, hr, h1, h2, k1, k2]

theorem anyP_sound : Sound Tryz.prog 95 anyPr.con := FSpec.sound _ (enter_of Tryz.func95 (by kernel_rfl) (by kernel_rfl)) fun x h => match x, h with
  | (p, none), h => (show False from h).elim
  | (p, some q), h => anyP_ok2 p q h.1 h.2
end AE.Team

namespace AE.Team
open Go AE Go.Proofs AE.Soil

def dfP : PlotT := ⟨⟨0, 0, 0, []⟩, []⟩
def rowM (ts : List TeamT) (p : PlotT) (i : Nat) (j : Nat) : List (Int × Int × Bool) := (List.range j).map fun (k : Nat) => ((i : Int), (k : Int), safeM p.steps (worksM p) (ts.getD k dfT))
def entsM (ts : List TeamT) (ps : List PlotT) (n j : Nat) : List (Int × Int × Bool) := ((List.range n).flatMap fun i => rowM ts (ps.getD i dfP) i ts.length) ++ rowM ts (ps.getD n dfP) n j
def matchErrM (ts : List TeamT) (ps : List PlotT) : Int := if decide ((ts.length : Int) ≤ 6) && decide ((ps.length : Int) ≤ 6) then (if (ts.any fun t => !teamM t) || (ps.any fun p => !isPlotM p) then 1 else if ps.all fun p => (hardOM p.g 0).2 == 0 then 0 else 10) else 3
theorem mErr_len {ts : List TeamT} {l : List PlotT} (h : ¬ (ts.length : Int) ≤ 6) : matchErrM ts l = 3 := by
  unfold matchErrM
  rw [decide_eq_false h]; rfl
theorem mErr_team {ts : List TeamT} {l : List PlotT} (h1 : (ts.length : Int) ≤ 6) (h2 : (l.length : Int) ≤ 6) (h : (!ts.any fun t => !teamM t) = false) : matchErrM ts l = 1 := by
  have h' : (ts.any fun t => !teamM t) = true := by simpa using h
  unfold matchErrM
  rw [decide_eq_true h1, decide_eq_true h2, h']; rfl
theorem mErr_plot {ts : List TeamT} {l : List PlotT} (h1 : (ts.length : Int) ≤ 6) (h2 : (l.length : Int) ≤ 6) (h : (l.any fun p => !isPlotM p) = true) : matchErrM ts l = 1 := by
  unfold matchErrM
  rw [decide_eq_true h1, decide_eq_true h2, h, Bool.or_true]; rfl
theorem mErr_clash {ts : List TeamT} {l : List PlotT} (h1 : (ts.length : Int) ≤ 6) (h2 : (l.length : Int) ≤ 6) (h : (!ts.any fun t => !teamM t) = true) (hp : (l.any fun p => !isPlotM p) = false) (hk : (l.all fun p => (hardOM p.g 0).2 == 0) = false) : matchErrM ts l = 10 := by
  have h' : (ts.any fun t => !teamM t) = false := by simpa using h
  unfold matchErrM
  rw [decide_eq_true h1, decide_eq_true h2, h', hp, hk]; rfl
theorem mErr_ok {ts : List TeamT} {l : List PlotT} (h1 : (ts.length : Int) ≤ 6) (h2 : (l.length : Int) ≤ 6) (h : (!ts.any fun t => !teamM t) = true) (hp : (l.any fun p => !isPlotM p) = false) (hk : (l.all fun p => (hardOM p.g 0).2 == 0) = true) : matchErrM ts l = 0 := by
  have h' : (ts.any fun t => !teamM t) = false := by simpa using h
  unfold matchErrM
  rw [decide_eq_true h1, decide_eq_true h2, h', hp, hk]; rfl
theorem row_suc (ts : List TeamT) (p : PlotT) (i j : Nat) : rowM ts p i (j + 1) = rowM ts p i j ++ [((i : Int), (j : Int), safeM p.steps (worksM p) (ts.getD j dfT))] := by
  unfold rowM
  rw [List.range_succ, List.map_append]; rfl
theorem ents_next (ts : List TeamT) (l : List PlotT) (i : Nat) : entsM ts l i ts.length = entsM ts l (i + 1) 0 := by
  unfold entsM
  rw [List.range_succ, List.flatMap_append, List.append_assoc]
  congr 1
  simp [rowM]
theorem ents_key {ts : List TeamT} {l : List PlotT} {i j : Nat} {e : Int × Int × Bool} (h : e ∈ entsM ts l i j) : ∃ a b : Nat, e.1 = (a : Int) ∧ e.2.1 = (b : Int) ∧ (a < i ∨ (a = i ∧ b < j)) := by
  unfold entsM at h
  rcases List.mem_append.1 h with h | h
  · obtain ⟨a, ha, hb⟩ := List.mem_flatMap.1 h
    unfold rowM at hb
    obtain ⟨b, _, rfl⟩ := List.mem_map.1 hb
    exact ⟨a, b, rfl, rfl, .inl (List.mem_range.1 ha)⟩
  · unfold rowM at h
    obtain ⟨b, hb, rfl⟩ := List.mem_map.1 h
    exact ⟨i, b, rfl, rfl, .inr ⟨rfl, List.mem_range.1 hb⟩⟩
theorem ents_put (ts : List TeamT) (l : List PlotT) (i j : Nat) : mputM UU MM.safe [(i : Int), (j : Int)] ((i : Int), (j : Int), safeM (l.getD i dfP).steps (worksM (l.getD i dfP)) (ts.getD j dfT)) (entsM ts l i j) = entsM ts l i (j + 1) := by
  have hno : mfind UU MM.safe [(i : Int), (j : Int)] (entsM ts l i j) = none := by
    refine List.find?_eq_none.2 fun e he => ?_
    obtain ⟨a, b, h1, h2, h3⟩ := ents_key he
    simp only [decide_eq_true_eq]
    intro hk
    have hk' : [(i : Int), (j : Int)] = [e.1, e.2.1] := hk
    rw [h1, h2] at hk'
    simp only [List.cons.injEq, and_true] at hk'
    omega
  unfold mputM
  rw [hno]
  show entsM ts l i j ++ _ = _
  unfold entsM
  rw [row_suc]
  exact List.append_assoc _ _ _
def cField (m : Nat) (nt np : Nat) : List AV := [.map m 0, .i nt, .i np]
def matchS : FSpec2 UU where
  X := List TeamT × PlotsT
  pick := fun args H => match args with
    | [a, b] => match sliceAt .team H a, avPlots H b with
      | some a, some b => some (a, b)
      | _, _ => none
    | _ => none
  args := fun x => [.sl 0 0 0 x.1.length, .sl 1 0 0 (nPlots x.2)]
  H := fun x => .one (.ro .team x.1) :: hPlots 1 x.2
  c := fun x => matchErrM x.1 (lPlots x.2) == 0
  R := fun x => match x.2.2 with
    | none => .val ⟨.ptr 5 0 0 0, [], [], [.map .safe (entsM x.1 (lPlots x.2) 1 0), .cells (cField 4 x.1.length 1) 115]⟩
    | some _ => .val ⟨.ptr 7 0 0 0, [], [], [.map .safe (entsM x.1 (lPlots x.2) 2 0), .cells (cField 6 x.1.length 2) 115]⟩
  R' := fun x => .panic (misV (matchErrM x.1 (lPlots x.2)))
  pre := fun x => x.1.length < 1000000 ∧ okPlots x.2
def matchFr (N nt np k : Nat) : Fr := [(0, .sl 0 0 0 nt), (1, .sl 1 0 0 np), (6, .ptr (N + 1) 0 0 0), (38, .sl 1 0 0 np), (39, .i np), (40, .i k)]
def matchHc (ts : List TeamT) (x : PlotsT) (N k j : Nat) : Heap UU := .one (.ro .team ts) :: hPlots 1 x ++ [.one (.map .safe (entsM ts (lPlots x) k j)), .one (.cells (cField N ts.length (nPlots x)) 115)]
def pAt (x : PlotsT) (b : Bool) : PlotT := match b with
  | true => (x.2).getD dfP
  | false => x.1
def matchIt (ts : List TeamT) (x : PlotsT) (N : Nat) (b : Bool) : LRule UU := .inv {
  T := { j : Nat // j ≤ ts.length }
  fr := fun j => matchFr N ts.length (nPlots x) (match b with | true => 1 | false => 0) ++ [(7, .i (match b with | true => 1 | false => 0)), (9, .ptr (N + 4) 0 0 0), (47, .sl 0 0 0 ts.length), (48, .i ts.length), (49, .i j.1)]
  H := fun j => matchHc ts x N (match b with | true => 1 | false => 0) j.1 ++ [.none, .one (.row .span (worksM (pAt x b)) 23), .one (.cells [.junk, .junk, .junk, .junk, .sl (match b with | true => 5 | false => 3) 0 0 (pAt x b).steps.length, .gs (N + 3) 0] 136)]
  mu := fun j => ts.length - j.1 }
def secondPlot (N : Nat) (H : Heap UU) : Bool := match blkAt H (N + 2) 0 with
  | some (.cells [_, _, _, .sl id _ _ _, _] _) => Nat.beq id 4
  | _ => false
def matchSel (ts : List TeamT) (x : PlotsT) (N : Nat) : LRule UU := .sel fun H => match secondPlot N H with
  | true => matchIt ts x N true
  | false => matchIt ts x N false
def Tmatch : Tab UU := [(53, needS.con), (93, anyTr.con), (95, anyPr.con), (86, lookS.con), (92, safeS.con)]
theorem Tmatch_ok : Tmatch.Sound Tryz.prog := .cons need_sound (.cons anyT_sound (.cons anyP_sound (.cons look_sound (.cons safe_sound .nil))))
theorem two_no {p q : PlotT} (h : (!(!isPlotM p || !isPlotM q)) = true) : (([p, q] : List PlotT).any fun p => !isPlotM p) = false := by
  simp only [List.any_cons, List.any_nil]
  revert h
  cases isPlotM p <;> cases isPlotM q <;> decide
theorem two_any {p q : PlotT} (h : (!(!isPlotM p || !isPlotM q)) = false) : (([p, q] : List PlotT).any fun p => !isPlotM p) = true := by
  simp only [List.any_cons, List.any_nil]
  revert h
  cases isPlotM p <;> cases isPlotM q <;> decide
theorem two_yes {p q : PlotT} (h : ((hardOM p.g 0).2 == 0) = true) (k : ((hardOM q.g 0).2 == 0) = true) : (([p, q] : List PlotT).all fun p => (hardOM p.g 0).2 == 0) = true := by
  simp only [List.all_cons, List.all_nil, h, k]; rfl
theorem two_bad {p q : PlotT} (k : ((hardOM q.g 0).2 == 0) = false) : (([p, q] : List PlotT).all fun p => (hardOM p.g 0).2 == 0) = false := by
  simp only [List.all_cons, List.all_nil, k, Bool.false_and, Bool.and_false]
theorem two_bad1 {p q : PlotT} (k : ((hardOM p.g 0).2 == 0) = false) : (([p, q] : List PlotT).all fun p => (hardOM p.g 0).2 == 0) = false := by
  simp only [List.all_cons, List.all_nil, k, Bool.false_and]

theorem match_ok2 (ts : List TeamT) (p q : PlotT) (hx : matchS.pre (ts, p, some q)) : (matchS.c (ts, p, some q) = true → FunOk Tryz.prog 69 (matchS.args (ts, p, some q)) (matchS.H (ts, p, some q)) (matchS.R (ts, p, some q))) ∧ (matchS.c (ts, p, some q) = false → FunOk Tryz.prog 69 (matchS.args (ts, p, some q)) (matchS.H (ts, p, some q)) (matchS.R' (ts, p, some q))) := by
  obtain ⟨⟨long, rise, change, ps⟩, st⟩ := p
  obtain ⟨⟨long2, rise2, change2, ps2⟩, st2⟩ := q
  refine fun_of2 (T := Tmatch) (L := fun k => match Nat.beq k 6 with
    | true => some (.steps [(matchFr 6 ts.length 2 0, matchHc ts (⟨⟨long, rise, change, ps⟩, st⟩, some ⟨⟨long2, rise2, change2, ps2⟩, st2⟩) 6 0 0), (matchFr 6 ts.length 2 1, matchHc ts (⟨⟨long, rise, change, ps⟩, st⟩, some ⟨⟨long2, rise2, change2, ps2⟩, st2⟩) 6 1 0), (matchFr 6 ts.length 2 2, matchHc ts (⟨⟨long, rise, change, ps⟩, st⟩, some ⟨⟨long2, rise2, change2, ps2⟩, st2⟩) 6 2 0)])
    | false => some (matchSel ts (⟨⟨long, rise, change, ps⟩, st⟩, some ⟨⟨long2, rise2, change2, ps2⟩, st2⟩) 6)) (hs := fun _ => []) (sp := fun _ => none) hmix Tmatch_ok (td := fun _ => none) (fun _ _ h => by cases h) (it := fun _ => none) (fun _ _ h => by cases h) Tryz.func69 (by kernel_rfl) (by kernel_rfl) ?_
  refine Eq.mp (α :=
      let AB := (23 : TypeId); let AC := (130 : TypeId); let A2 := nat_lit 0 = nat_lit 0 ∧ nat_lit 0 = nat_lit 0 ∧ nat_lit 0 = nat_lit 0; let A1 := nat_lit 0 = nat_lit 0 ∧ nat_lit 0 = nat_lit 0 ∧ nat_lit 2 = nat_lit 2; let Cu := Fn.func ((94 : FuncId)); let Cv := Fn.func ((96 : FuncId)); let AD := (nat_lit 0, nat_lit 0, nat_lit 0); let An := Value.int IntKind.i64 (↑(nat_lit 2) : Int); let AE := (long, rise, change); let Ae := Value.int IntKind.i64 (↑(nat_lit 1) : Int); let Af := Value.int IntKind.i64 (↑(nat_lit 0) : Int); let AF := (long2, rise2, change2); let Ag := Value.int IntKind.i64 (1 : Int); let AG := List.length st < nat_lit 1000000; let AH := List.length ts < nat_lit 1000000; let Ac := Value.int IntKind.i64 (0 : Int); let Ao := (↑(List.length ts) : Int); let Ap := Value.int IntKind.i64 (3 : Int); let AI := List.length st2 < nat_lit 1000000; let AJ := Value.bool false = Value.bool false; let Aq := A2 ∧ True; let Cw := List.any ts fun (t : TeamT) => !teamM t; let Cx := Fn.func (nat_lit 94) = Cu; let Cy := Fn.func (nat_lit 96) = Cv; let AK := List.length (worksM (PlotT.mk (GroundT.mk long rise change ps) st)); let AL := List.length (worksM (PlotT.mk (GroundT.mk long2 rise2 change2 ps2) st2)); let A0 : Type := { j : Nat // (j ≤ List.length ts) }; let AM := !Cw; let AN := Value.int IntKind.i64 Ao; let A7 := fun (x : A0) => Subtype.val x; let Ah := ((0 : Int), (0 : Int)); let AO := (↑(nat_lit 0) : Int) < (↑(nat_lit 2) : Int); let AP := (↑(nat_lit 1) : Int) < (↑(nat_lit 2) : Int); let AQ := (↑(nat_lit 2) : Int) < (↑(nat_lit 2) : Int); let Ai := AB = AB; let Ar := AC = AC; let A4 := nat_lit 0 = nat_lit 0 ∧ nat_lit 0 = nat_lit 0 ∧ List.length ts = List.length ts; let AR := ps = ps ∧ st = st ∧ True; let As := nat_lit 0 = nat_lit 0 ∧ nat_lit 0 = nat_lit 0 ∧ List.length st = List.length st; let At := nat_lit 0 = nat_lit 0 ∧ nat_lit 0 = nat_lit 0 ∧ List.length st2 = List.length st2; let Au := ps2 = ps2 ∧ st2 = st2 ∧ True; let A8 := fun (x : A0) => (↑(A7 x) : Int); let AS := (List.length ps2 < nat_lit 1000000) ∧ AI; let AT := (List.length ps < nat_lit 1000000) ∧ AG; let AU := Af = Af; let A6 := An = An; let AW := Ae = Ae; let AX := fun (t : A0) => Int.toNat (A8 t); let AY := Ag = Ag; let AZ := AY ∧ True; let B0 := (Ap = Ap) ∧ True; let B1 := fun (x : A0) => Value.int IntKind.i64 (A8 x); let B2 := worksM (PlotT.mk (GroundT.mk long rise change ps) st) = worksM (PlotT.mk (GroundT.mk long rise change ps) st); let B3 := worksM (PlotT.mk (GroundT.mk long2 rise2 change2 ps2) st2) = worksM (PlotT.mk (GroundT.mk long2 rise2 change2 ps2) st2); let A5 : List PlotT := PlotT.mk (GroundT.mk long rise change ps) st :: ([PlotT.mk (GroundT.mk long2 rise2 change2 ps2) st2] : List PlotT); let B4 := fun (t : A0) => [A8 t]; let B5 := ((0 : Int), Ah); let B6 := ((0 : Nat), (((0 : Nat), (0 : Nat)))); let B7 := fun (x : A0) => List.length ts - A7 x; let Aj : List (Int × Int × Bool) := entsM ts A5 (nat_lit 2) (nat_lit 0); let B8 := matchErrM ts A5; let Av := !((!isPlotM (PlotT.mk (GroundT.mk long rise change ps) st)) || ((!isPlotM (PlotT.mk (GroundT.mk long2 rise2 change2 ps2) st2)) || false)); let Aw := AN = AN; let B9 := fun (t : A0) => nat_lit 0 + AX t; let Ba := Value.bool Av; let Bb := (True ∧ True ∧ True ∧ True ∧ As ∧ nat_lit 0 = nat_lit 0 ∧ True) ∧ True; let Bc := (True ∧ True ∧ True ∧ True ∧ At ∧ nat_lit 0 = nat_lit 0 ∧ True) ∧ True; let Ax := Value.int IntKind.i64 B8; let A9 := fun (t : A0) => (1 : Int) :: B4 t; let Aa := fun (t : A0) => (0 : Int) :: B4 t; let Bd := fun (t : A0) => A8 t < Ao; let Be := AJ ∧ B0; let Bf := AJ ∧ AZ; let Bg := A4 ∧ (Cx ∧ True ∧ True) ∧ True; let Bh : List (Int × Int × Bool) := entsM ts A5 (1 : Nat) (0 : Nat); let Bi := fun (t : A0) => B9 t < List.length ts; let Bj := fun (x : A0) => entsM ts A5 (nat_lit 0) (A7 x); let Bk := fun (x : A0) => entsM ts A5 (nat_lit 1) (A7 x); let Bl := decide AO; let Bm := decide AP; let Bn := decide AQ; let Bo := B8 == (0 : Int); let Ak := Bo = true; let Al := Bo = false; let Bp := fun (t : A0) => entsM ts A5 (0 : Nat) (A7 t); let Bq := fun (t : A0) => entsM ts A5 (1 : Nat) (A7 t); let Ay := Ak → False; let Az := Al → False; let Ad := nat_lit 0 = nat_lit 0 ∧ Aw ∧ A6 ∧ True; let Br := (B5, ((AD, AD))); let Ab := Ad ∧ True; let Bs := fun (x t : A0) => B7 x < B7 t; let Bt := fun (t : A0) => ((0 : Int) ≤ A8 t) ∧ Bd t; let Bu := fun (t : A0) => decide (Bd t); let Bv := (Ah, ((Ah, ((Ah, (0 : Int)))))); let Bw := fun (t : A0) => Bu t = true; let Bx := fun (t : A0) => Bu t = false; let AA := decide ((↑(nat_lit 2) : Int) ≤ (6 : Int)); let By := Value.bool AA; let Bz := decide (Ao ≤ (6 : Int)); let BA := (Ba = Ba) ∧ AZ; let BB := (B5, ((B6, B6))); let BC := fun (x : A0) => A2 ∧ A4 ∧ Aw ∧ (Ac = B1 x) ∧ True; let Am := fun (t : A0) => List.getD ts (B9 t) Bv; let BD := fun (t : A0) => List.getD ts (((0 : Nat) + AX t)) Bv; let BE := fun (t : A0) => Prod.fst (Am t); let BF := fun (t : A0) => Prod.snd (Am t); let BG := fun (t : A0) => safeM st2 (worksM (PlotT.mk (GroundT.mk long2 rise2 change2 ps2) st2)) (Am t); let BH := fun (t : A0) => safeM st (worksM (PlotT.mk (GroundT.mk long rise change ps) st)) (Am t); let BI : List ((Int × Int × Int) × Sd × Sd) := ((AE, ((((nat_lit 2, nat_lit 2, List.length ps)), ((nat_lit 2, nat_lit 3, List.length st)))))) :: ([((AF, ((((nat_lit 2, nat_lit 4, List.length ps2)), ((nat_lit 2, nat_lit 5, List.length st2))))))] : List ((Int × Int × Int) × Sd × Sd)); let BJ := fun (t : A0) => Prod.fst (BF t); let BK := fun (t : A0) => Prod.snd (BF t); let BL := fun (t : A0) => Value.int IntKind.i64 ((Prod.snd (BE t))); let BM := fun (t : A0) => Value.int IntKind.i64 ((Prod.fst (BE t))); let BN := fun (t x : A0) => A2 ∧ (A4 ∧ (Aw ∧ (((Value.int IntKind.i64 ((IntKind.wrap IntKind.i64 ((A8 t + (1 : Int)))))) = B1 x) ∧ True))); let BO := fun (t : A0) => Prod.fst (BK t); let BP := fun (t : A0) => Value.int IntKind.i64 ((Prod.snd (BJ t))); let BQ := fun (t : A0) => Value.int IntKind.i64 ((Prod.fst (BJ t))); let BR := fun (t : A0) => Value.int IntKind.i64 ((Prod.snd (BK t))); let BS := fun (t : A0) => Value.int IntKind.i64 ((Prod.fst (BO t))); let BT := fun (t : A0) => Value.int IntKind.i64 ((Prod.snd (BO t))); let A3 := ((Value.int IntKind.i64 long = Value.int IntKind.i64 long) ∧ (Value.int IntKind.i64 rise = Value.int IntKind.i64 rise) ∧ (Value.int IntKind.i64 change = Value.int IntKind.i64 change) ∧ (nat_lit 0 = nat_lit 0 ∧ nat_lit 0 = nat_lit 0 ∧ List.length ps = List.length ps) ∧ As ∧ True) ∧ ((Value.int IntKind.i64 long2 = Value.int IntKind.i64 long2) ∧ (Value.int IntKind.i64 rise2 = Value.int IntKind.i64 rise2) ∧ (Value.int IntKind.i64 change2 = Value.int IntKind.i64 change2) ∧ (nat_lit 0 = nat_lit 0 ∧ nat_lit 0 = nat_lit 0 ∧ List.length ps2 = List.length ps2) ∧ At ∧ True) ∧ True; let BU := Ay ∧ (Al → (True ∧ (Ar ∧ (((Value.int IntKind.i64 (10 : Int)) = Ax) ∧ True)))); let BV := True ∧ (Ay ∧ (Al → (True ∧ Ar ∧ (Ap = Ax) ∧ True))); let BW := True ∧ (Ay ∧ (Al → (True ∧ Ar ∧ (Ag = Ax) ∧ True))); let BX : List ((Int × Int × Int) × Sd × Sd) := ((AE, (((((2 : Nat), (((2 : Nat), List.length ps)))), (((2 : Nat), (((3 : Nat), List.length st)))))))) :: ([((AF, (((((2 : Nat), (((4 : Nat), List.length ps2)))), (((2 : Nat), (((5 : Nat), List.length st2))))))))] : List ((Int × Int × Int) × Sd × Sd)); let BY := (By = By) ∧ B0; let BZ := List.getD BI (nat_lit 0) Br; let C0 := List.getD BI (nat_lit 1) Br; let C1 := Prod.fst BZ; let C2 := Prod.snd C0; let C3 := Prod.snd BZ; let C4 := Prod.fst C0; let C5 := Prod.snd C4; let C6 := Prod.snd C1; let C7 := Prod.fst C4; let C8 := Prod.fst C1; let C9 := Prod.snd C5; let Ca := Prod.fst C5; let Cb := Prod.fst C6; let Cc := Prod.snd C6; let Cd := Value.int IntKind.i64 C7; let Ce := Value.int IntKind.i64 C8; let Cf := Value.int IntKind.i64 Cc; let Cg := Value.int IntKind.i64 Cb; let Ch := Value.int IntKind.i64 C9; let Ci := Value.int IntKind.i64 Ca; let Cj := Prod.fst (List.getD BX (0 : Nat) BB); let Ck := Prod.fst (List.getD BX (1 : Nat) BB); let Cl := Prod.snd Cj; let Cm := Prod.snd Ck; let Cn := (Prod.snd (hardOM (GroundT.mk C7 Ca C9 ps2) (0 : Int))) == (0 : Int); let Co := (Prod.snd (hardOM (GroundT.mk C8 Cb Cc ps) (0 : Int))) == (0 : Int); let Cz := fun (t : A0) => ∃ (x : A0), (((A4 ∧ A1 ∧ A2 ∧ A1 ∧ A6 ∧ AU ∧ (Ac = Ac) ∧ BN t x) ∧ (True ∧ (ts = ts ∧ (A3 ∧ (ps = ps ∧ (st = st ∧ (ps2 = ps2 ∧ (st2 = st2 ∧ (((mputM UU MM.safe (Aa t) ((((List.getD (Aa t) (0 : Nat) (0 : Int)), (((List.getD (Aa t) (1 : Nat) (0 : Int)), BH t))))) (Bp t)) = Bj x) ∧ Ad ∧ True ∧ (Ai ∧ B2) ∧ Bb))))))))) ∧ Bs x t); let CA := fun (t : A0) => ∃ (x : A0), (((A4 ∧ A1 ∧ A2 ∧ A1 ∧ A6 ∧ AW ∧ AY ∧ BN t x) ∧ (True ∧ (ts = ts ∧ (A3 ∧ (ps = ps ∧ (st = st ∧ (ps2 = ps2 ∧ (st2 = st2 ∧ (((mputM UU MM.safe (A9 t) ((((List.getD (A9 t) (0 : Nat) (0 : Int)), (((List.getD (A9 t) (1 : Nat) (0 : Int)), BG t))))) (Bq t)) = Bk x) ∧ Ad ∧ True ∧ (Ai ∧ B3) ∧ Bc))))))))) ∧ Bs x t); let CB := ∃ (x : A0), ((A4 ∧ A1 ∧ A2 ∧ A1 ∧ A6 ∧ AU ∧ (Af = Ac) ∧ BC x) ∧ True ∧ ts = ts ∧ A3 ∧ ps = ps ∧ st = st ∧ ps2 = ps2 ∧ st2 = st2 ∧ ([] = Bj x) ∧ Ad ∧ True ∧ (Ai ∧ (worksM (PlotT.mk (GroundT.mk (Prod.fst Cj) (Prod.fst Cl) (Prod.snd Cl) ps) st)) = worksM (PlotT.mk (GroundT.mk long rise change ps) st)) ∧ Bb); let CC := ∃ (x : A0), ((A4 ∧ A1 ∧ A2 ∧ A1 ∧ A6 ∧ AW ∧ (Ae = Ag) ∧ BC x) ∧ True ∧ ts = ts ∧ A3 ∧ ps = ps ∧ st = st ∧ ps2 = ps2 ∧ st2 = st2 ∧ (Bh = Bk x) ∧ Ad ∧ True ∧ (Ai ∧ (worksM (PlotT.mk (GroundT.mk (Prod.fst Ck) (Prod.fst Cm) (Prod.snd Cm) ps2) st2)) = worksM (PlotT.mk (GroundT.mk long2 rise2 change2 ps2) st2)) ∧ Bc); let Cp := ((Cd = Cd) ∧ (Ci = Ci) ∧ (Ch = Ch) ∧ (nat_lit 0 = nat_lit 0 ∧ nat_lit 0 = nat_lit 0 ∧ (Prod.snd (Prod.snd (Prod.fst C2))) = List.length ps2) ∧ (nat_lit 0 = nat_lit 0 ∧ nat_lit 0 = nat_lit 0 ∧ (Prod.snd (Prod.snd (Prod.snd C2))) = List.length st2) ∧ True) ∧ True; let Cq := ((Ce = Ce) ∧ (Cg = Cg) ∧ (Cf = Cf) ∧ (nat_lit 0 = nat_lit 0 ∧ nat_lit 0 = nat_lit 0 ∧ (Prod.snd (Prod.snd (Prod.fst C3))) = List.length ps) ∧ (nat_lit 0 = nat_lit 0 ∧ nat_lit 0 = nat_lit 0 ∧ (Prod.snd (Prod.snd (Prod.snd C3))) = List.length st) ∧ True) ∧ True; let Cr := fun (t : A0) => A2 ∧ ((BM t = BM t) ∧ (BL t = BL t) ∧ (BQ t = BQ t) ∧ (BP t = BP t) ∧ (BS t = BS t) ∧ (BT t = BT t) ∧ (BR t = BR t) ∧ True) ∧ True; let CD := ∀ (t : A0), ((Bw t → (Bt t ∧ (Bi t ∧ (((AL = List.length st2) ∧ AI) ∧ (Cr t ∧ (((True ∧ True ∧ True ∧ True ∧ At ∧ (nat_lit 9 = nat_lit 9 ∧ nat_lit 0 = nat_lit 0 ∧ nat_lit 0 = nat_lit 0 ∧ (List.length (worksM (PlotT.mk (GroundT.mk long2 rise2 change2 ps2) st2))) = AL) ∧ True) ∧ st2 = st2 ∧ B3 ∧ True) ∧ (((((List.getD (A9 t) (nat_lit 0) (0 : Int)) :: ([(List.getD (A9 t) (nat_lit 1) (0 : Int))])) = A9 t) ∧ (AV.v ((Value.bool ((safeM st2 (worksM (PlotT.mk (GroundT.mk long2 rise2 change2 ps2) st2)) (BD t)))))) = (AV.v ((Value.bool (BG t))))) ∧ True ∧ CA t))))))) ∧ (Bx t → (((A4 ∧ (A1 ∧ (A2 ∧ (A1 ∧ (A6 ∧ (((Value.int IntKind.i64 (IntKind.wrap IntKind.i64 ((↑(nat_lit 1) : Int) + (1 : Int)))) = An) ∧ True)))))) ∧ True ∧ ts = ts ∧ A3 ∧ ps = ps ∧ st = st ∧ ps2 = ps2 ∧ st2 = st2 ∧ (Bq t = Aj) ∧ Ab) ∧ (((Bn = true) → ((((0 : Int) ≤ (↑(nat_lit 2) : Int)) ∧ AQ) ∧ nat_lit 2 < nat_lit 2 ∧ False)) ∧ ((Bn = false) → ((Ak → (True ∧ (Aq ∧ (True ∧ (ts = ts ∧ (A3 ∧ (ps = ps ∧ (st = st ∧ (ps2 = ps2 ∧ (st2 = st2 ∧ (((entsM ts A5 (2 : Nat) (0 : Nat)) = Aj) ∧ Ab))))))))))) ∧ Az)))))); let CE := ∀ (t : A0), ((Bw t → (Bt t ∧ (Bi t ∧ (((AK = List.length st) ∧ AG) ∧ (Cr t ∧ (((True ∧ True ∧ True ∧ True ∧ As ∧ (nat_lit 9 = nat_lit 9 ∧ nat_lit 0 = nat_lit 0 ∧ nat_lit 0 = nat_lit 0 ∧ (List.length (worksM (PlotT.mk (GroundT.mk long rise change ps) st))) = AK) ∧ True) ∧ st = st ∧ B2 ∧ True) ∧ (((((List.getD (Aa t) (nat_lit 0) (0 : Int)) :: ([(List.getD (Aa t) (nat_lit 1) (0 : Int))])) = Aa t) ∧ (AV.v ((Value.bool ((safeM st (worksM (PlotT.mk (GroundT.mk long rise change ps) st)) (BD t)))))) = (AV.v ((Value.bool (BH t))))) ∧ True ∧ Cz t))))))) ∧ (Bx t → (((A4 ∧ (A1 ∧ (A2 ∧ (A1 ∧ (A6 ∧ (((Value.int IntKind.i64 (IntKind.wrap IntKind.i64 ((↑(nat_lit 0) : Int) + (1 : Int)))) = Ae) ∧ True)))))) ∧ True ∧ ts = ts ∧ A3 ∧ ps = ps ∧ st = st ∧ ps2 = ps2 ∧ st2 = st2 ∧ (Bp t = (entsM ts A5 (nat_lit 1) (nat_lit 0))) ∧ Ab) ∧ (((Bm = true) → ((((0 : Int) ≤ (↑(nat_lit 1) : Int)) ∧ AP) ∧ (nat_lit 1 < nat_lit 2 ∧ (AS ∧ (((Cn = true) → (Cp ∧ Au ∧ CC ∧ CD)) ∧ ((Cn = false) → (Cp ∧ Au ∧ BU))))))) ∧ ((Bm = false) → ((Ak → (True ∧ Aq ∧ True ∧ ts = ts ∧ A3 ∧ ps = ps ∧ st = st ∧ ps2 = ps2 ∧ st2 = st2 ∧ (Bh = Aj) ∧ Ab)) ∧ Az)))))); let Cs := True ∧ (((A4 ∧ A1 ∧ A2 ∧ A1 ∧ A6 ∧ (Ac = Af) ∧ True) ∧ True ∧ ts = ts ∧ A3 ∧ ps = ps ∧ st = st ∧ ps2 = ps2 ∧ st2 = st2 ∧ ([] = (entsM ts A5 (nat_lit 0) (nat_lit 0))) ∧ Ab) ∧ (((Bl = true) → ((((0 : Int) ≤ (↑(nat_lit 0) : Int)) ∧ AO) ∧ (nat_lit 0 < nat_lit 2 ∧ (AT ∧ (((Co = true) → (Cq ∧ AR ∧ CB ∧ CE)) ∧ ((Co = false) → (Cq ∧ AR ∧ BU))))))) ∧ ((Bl = false) → ((Ak → (True ∧ Aq ∧ True ∧ ts = ts ∧ A3 ∧ ps = ps ∧ st = st ∧ ps2 = ps2 ∧ st2 = st2 ∧ ([] = Aj) ∧ Ab)) ∧ Az)))); let Ct := (ts = ts ∧ True) ∧ (((AM = true) → ((AT ∧ AS) ∧ ((A1 ∧ (Cy ∧ True ∧ True) ∧ True) ∧ ((A3 ∧ ps = ps ∧ st = st ∧ Au) ∧ (True ∧ (((Av = true) → (BA ∧ Cs)) ∧ ((Av = false) → (BA ∧ BW)))))))) ∧ ((AM = false) → (True ∧ ((false = true → (Bf ∧ Cs)) ∧ (false = false → (Bf ∧ BW)))))); (Bz = true → True ∧ (AA = true → BY ∧ True ∧ AH ∧ Bg ∧ Ct) ∧ (AA = false → BY ∧ BV)) ∧ (Bz = false → True ∧ (false = true → Be ∧ True ∧ AH ∧ Bg ∧ Ct) ∧ (false = false → Be ∧ BV)))
    (by kernel_rfl) ?_
  simp only [eq_self, AE.goS]
  simp only [List.getD_cons_zero, List.getD_cons_succ, Bool.false_eq_true, false_implies, forall_const, and_true, true_and, Bool.or_false, Bool.not_not]
  have ht0 : ts.length < 1000000 := hx.1
  have h1 : ps.length < 1000000 := hx.2.1.1
  have h2 : st.length < 1000000 := hx.2.1.2
  have k1 : ps2.length < 1000000 := hx.2.2.1
  have k2 : st2.length < 1000000 := hx.2.2.2
  have hw : (worksM ⟨⟨long, rise, change, ps⟩, st⟩).length = st.length := works_len _
  have hv : (worksM ⟨⟨long2, rise2, change2, ps2⟩, st2⟩).length = st2.length := works_len _
  have hL : (([⟨⟨long, rise, change, ps⟩, st⟩, ⟨⟨long2, rise2, change2, ps2⟩, st2⟩] : List PlotT).length : Int) ≤ 6 := by show (2 : Int) ≤ 6; decide
  refine ⟨fun a1 => ⟨fun a2 => ⟨ht0, fun a3 => ⟨⟨⟨h1, h2⟩, k1, k2⟩, fun a4 => ⟨⟨rfl, rfl⟩, fun _ => ⟨⟨by decide, by decide⟩, by decide, ⟨h1, h2⟩, fun a5 => ⟨⟨⟨0, Nat.zero_le _⟩, ⟨rfl, rfl⟩, rfl⟩, fun t => ⟨fun ht => ?_, fun ht => ⟨⟨by decide, ?_⟩, fun _ => ⟨⟨by decide, by decide⟩, by decide, ⟨k1, k2⟩, fun a6 => ⟨⟨⟨0, Nat.zero_le _⟩, ⟨rfl, rfl⟩, rfl⟩, fun t => ⟨fun ht => ?_, fun ht => ⟨⟨by decide, ?_⟩, fun h => absurd h (by decide), fun _ => ⟨fun _ => trivial, fun h => ?_⟩⟩⟩⟩, fun a6 => ?_⟩, fun h => absurd (by decide) h⟩⟩⟩, fun a5 => ?_⟩, fun h => absurd (by decide) h⟩, fun a4 => ?_⟩, fun a3 => ?_⟩, fun h => absurd (by decide) h⟩, fun a1 => ?_⟩
  · obtain ⟨j, hj⟩ := t
    have hlt : j < ts.length := by have h1 : (j : Int) < (ts.length : Int) := ht; omega
    exact ⟨⟨Int.natCast_nonneg _, ht⟩, hlt, ⟨hw, h2⟩, ⟨j + 1, hlt⟩, ⟨sucI j (by omega), ents_put ts [⟨⟨long, rise, change, ps⟩, st⟩, ⟨⟨long2, rise2, change2, ps2⟩, st2⟩] 0 j⟩, dec1 hlt⟩
  · obtain ⟨j, hj⟩ := t
    have hje : j = ts.length := by have h1 : ¬ (j : Int) < (ts.length : Int) := ht; omega
    subst hje
    exact ents_next ts [⟨⟨long, rise, change, ps⟩, st⟩, ⟨⟨long2, rise2, change2, ps2⟩, st2⟩] 0
  · obtain ⟨j, hj⟩ := t
    have hlt : j < ts.length := by have h1 : (j : Int) < (ts.length : Int) := ht; omega
    exact ⟨⟨Int.natCast_nonneg _, ht⟩, hlt, ⟨hv, k2⟩, ⟨j + 1, hlt⟩, ⟨sucI j (by omega), ents_put ts [⟨⟨long, rise, change, ps⟩, st⟩, ⟨⟨long2, rise2, change2, ps2⟩, st2⟩] 1 j⟩, dec1 hlt⟩
  · obtain ⟨j, hj⟩ := t
    have hje : j = ts.length := by have h1 : ¬ (j : Int) < (ts.length : Int) := ht; omega
    subst hje
    exact ents_next ts [⟨⟨long, rise, change, ps⟩, st⟩, ⟨⟨long2, rise2, change2, ps2⟩, st2⟩] 1
  · have e := mErr_ok a1 hL a3 (l := [⟨⟨long, rise, change, ps⟩, st⟩, ⟨⟨long2, rise2, change2, ps2⟩, st2⟩]) (two_no a4) (two_yes a5 a6)
    rw [e] at h; exact absurd h (by decide)
  · have e := mErr_clash a1 hL a3 (l := [⟨⟨long, rise, change, ps⟩, st⟩, ⟨⟨long2, rise2, change2, ps2⟩, st2⟩]) (two_no a4) (two_bad a6)
    rw [e]; exact ⟨fun h => absurd h (by decide), fun _ => rfl⟩
  · have e := mErr_clash a1 hL a3 (l := [⟨⟨long, rise, change, ps⟩, st⟩, ⟨⟨long2, rise2, change2, ps2⟩, st2⟩]) (two_no a4) (two_bad1 a5)
    rw [e]; exact ⟨fun h => absurd h (by decide), fun _ => rfl⟩
  · have e := mErr_plot a1 hL (l := [⟨⟨long, rise, change, ps⟩, st⟩, ⟨⟨long2, rise2, change2, ps2⟩, st2⟩]) (two_any a4)
    rw [e]; exact ⟨fun h => absurd h (by decide), fun _ => rfl⟩
  · have e := mErr_team a1 hL (l := [⟨⟨long, rise, change, ps⟩, st⟩, ⟨⟨long2, rise2, change2, ps2⟩, st2⟩]) a3
    rw [e]; exact ⟨fun h => absurd h (by decide), fun _ => rfl⟩
  · have e := mErr_len a1 (l := [⟨⟨long, rise, change, ps⟩, st⟩, ⟨⟨long2, rise2, change2, ps2⟩, st2⟩])
    rw [e]; exact ⟨fun h => absurd h (by decide), fun _ => rfl⟩

theorem match_sound : Sound Tryz.prog 69 matchS.con := FSpec2.sound _ (enter_of Tryz.func69 (by kernel_rfl) (by kernel_rfl)) fun x h => match x, h with
  | (ts, p, none), h => (show False from h.2).elim
  | (ts, p, some q), h => match_ok2 ts p q h
end AE.Team

namespace AE.Team
open Go AE Go.Proofs AE.Soil

def uV (n : Int) : AV := .v (.int .u64 n)
def avUi : AV → Option Int
  | .v (.int .u64 n) => some n
  | _ => none
abbrev EntT := Int × Int × Bool
def sfAtM (es : List EntT) (p k : Int) : Bool := mhasM UU MM.safe [p, k] es && (mgetM UU MM.safe [p, k] es).2.2
def setBM (u : Int) (k : Nat) : Int := ((u.toNat ||| 2 ^ k : Nat) : Int)
def freeBM (u : Int) (k : Nat) : Bool := !u.toNat.testBit k
def onM (es : List EntT) (nt : Int) (ps : List Int) : Nat → Nat → Int → List Int → Bool × Int × List Int
  | 0, _, u, out => (true, u, out)
  | n + 1, i, u, out => match (List.range nt.toNat).find? fun k => freeBM u k && sfAtM es (ps.getD i 0) (k : Int) && (onM es nt ps n (i + 1) (setBM u k) (out ++ [(k : Int)])).1 with
    | some k => onM es nt ps n (i + 1) (setBM u k) (out ++ [(k : Int)])
    | none => (false, u, out)
def testM (es : List EntT) (nt : Int) (ps : List Int) (n i : Nat) (u : Int) (out : List Int) (k : Nat) : Bool := freeBM u k && sfAtM es (ps.getD i 0) (k : Int) && (onM es nt ps n (i + 1) (setBM u k) (out ++ [(k : Int)])).1
theorem onM_false {es : List EntT} {nt : Int} {ps : List Int} : ∀ (n i : Nat) (u : Int) (out : List Int), (onM es nt ps n i u out).1 = false → onM es nt ps n i u out = (false, u, out)
  | 0, i, u, out, h => by simp [onM] at h
  | n + 1, i, u, out, h => by
    rw [onM] at h ⊢
    split at h
    · rename_i k hk
      have := List.find?_some hk
      simp only [Bool.and_eq_true] at this
      rw [this.2] at h
      cases h
    · rename_i hk
      rfl
theorem on_some {es : List EntT} {nt : Int} {ps : List Int} {n i : Nat} {u : Int} {out : List Int} {k : Nat} (hk : (k : Int) < nt) (h : testM es nt ps n i u out k = true) (h0 : ∀ j, j < k → testM es nt ps n i u out j = false) : onM es nt ps (n + 1) i u out = onM es nt ps n (i + 1) (setBM u k) (out ++ [(k : Int)]) := by
  have : (List.range nt.toNat).find? (fun k => testM es nt ps n i u out k) = some k := by
    rw [List.find?_range_eq_some]
    refine ⟨h, List.mem_range.2 (by omega), fun j hj => ?_⟩
    rw [h0 j hj]; rfl
  rw [onM]
  simp only [testM] at this
  rw [this]
theorem on_none {es : List EntT} {nt : Int} {ps : List Int} {n i : Nat} {u : Int} {out : List Int} (h0 : ∀ j : Nat, (j : Int) < nt → testM es nt ps n i u out j = false) : onM es nt ps (n + 1) i u out = (false, u, out) := by
  have : (List.range nt.toNat).find? (fun k => testM es nt ps n i u out k) = none := by
    rw [List.find?_range_eq_none]
    intro j hj
    rw [h0 j (by omega)]; rfl
  rw [onM]
  simp only [testM] at this
  rw [this]
theorem has_math {u : Int} {k : Nat} (h1 : 0 ≤ u) (h2 : u < 64) (h3 : k < 6) : (IntKind.u64.wrap (BitVec.ofInt 64 (u.fdiv (2 ^ min k 64)) &&& BitVec.ofInt 64 1).toNat == 1) = !freeBM u k := by
  obtain ⟨m, rfl⟩ := Int.eq_ofNat_of_zero_le h1
  have hm : m < 64 := by omega
  have : ∀ m : Fin 64, ∀ k : Fin 6, (IntKind.u64.wrap (BitVec.ofInt 64 (((m.val : Nat) : Int).fdiv (2 ^ min k.val 64)) &&& BitVec.ofInt 64 1).toNat == 1) = !freeBM ((m.val : Nat) : Int) k.val := by decide +kernel
  exact this ⟨m, hm⟩ ⟨k, h3⟩
theorem set_math {u : Int} {k : Nat} (h1 : 0 ≤ u) (h2 : u < 64) (h3 : k < 6) : IntKind.u64.wrap (BitVec.ofInt 64 u ||| BitVec.ofInt 64 (IntKind.u64.wrap (1 * 2 ^ min k 64))).toNat = setBM u k := by
  obtain ⟨m, rfl⟩ := Int.eq_ofNat_of_zero_le h1
  have hm : m < 64 := by omega
  have : ∀ m : Fin 64, ∀ k : Fin 6, IntKind.u64.wrap (BitVec.ofInt 64 ((m.val : Nat) : Int) ||| BitVec.ofInt 64 (IntKind.u64.wrap (1 * 2 ^ min k.val 64))).toNat = setBM ((m.val : Nat) : Int) k.val := by decide +kernel
  exact this ⟨m, hm⟩ ⟨k, h3⟩
theorem set_lt {u : Int} {k : Nat} (h1 : 0 ≤ u) (h2 : u < 64) (h3 : k < 6) : 0 ≤ setBM u k ∧ setBM u k < 64 := by
  obtain ⟨m, rfl⟩ := Int.eq_ofNat_of_zero_le h1
  have hm : m < 64 := by omega
  have : ∀ m : Fin 64, ∀ k : Fin 6, 0 ≤ setBM ((m.val : Nat) : Int) k.val ∧ setBM ((m.val : Nat) : Int) k.val < 64 := by decide +kernel
  exact this ⟨m, hm⟩ ⟨k, h3⟩
theorem clear_math {u : Int} {k : Nat} (h1 : 0 ≤ u) (h2 : u < 64) (h3 : k < 6) (hf : freeBM u k = true) : IntKind.u64.wrap (BitVec.ofInt 64 (setBM u k) &&& ~~~BitVec.ofInt 64 (IntKind.u64.wrap (1 * 2 ^ min k 64))).toNat = u := by
  obtain ⟨m, rfl⟩ := Int.eq_ofNat_of_zero_le h1
  have hm : m < 64 := by omega
  have : ∀ m : Fin 64, ∀ k : Fin 6, freeBM ((m.val : Nat) : Int) k.val = true → IntKind.u64.wrap (BitVec.ofInt 64 (setBM ((m.val : Nat) : Int) k.val) &&& ~~~BitVec.ofInt 64 (IntKind.u64.wrap (1 * 2 ^ min k.val 64))).toNat = ((m.val : Nat) : Int) := by decide +kernel
  exact this ⟨m, hm⟩ ⟨k, h3⟩ hf
abbrev OnT := List EntT × Int × List Int × Nat × Int × List Int
def mapSafe : (m : MM) → List (MM.ty m) → Option (List EntT)
  | .safe, l => some l
  | _, _ => none
def avField (H : Heap UU) : AV → Option (List EntT × Int)
  | .ptr i 0 0 0 => match blkAt H i 0 with
    | some (.cells [.map m 0, n, _] _) => match blkAt H m 0, avInt n with
      | some (.map m l), some n => match mapSafe m l with
        | some l => some (l, n)
        | none => none
      | _, _ => none
    | some (.rc [.map m 0, n, _] _) => match blkAt H m 0, avInt n with
      | some (.map m l), some n => match mapSafe m l with
        | some l => some (l, n)
        | none => none
      | _, _ => none
    | _ => none
  | _ => none
def nilV : AV := .v (.slice none 0 0)
def isNilV : AV → Bool
  | .v (.slice none 0 0) => true
  | _ => false
def onH (b : Bool) (x : OnT) : Heap UU := [.one (.rc [.sl 1 0 0 x.2.2.1.length] 43), .one (.ro .int x.2.2.1), .one (.rc [.ptr 3 0 0 0] 108), .one (.rc [.map 4 0, .i x.2.1, .junk] 115), .one (.map .safe x.1), .one (.cells [uV x.2.2.2.2.1] 112), .one (.cells [match b with | true => nilV | false => .gs 7 0] 43), match b with | true => .none | false => .one (.row .int x.2.2.2.2.2 3), .one (.rc [.fn (.func 97) [] [.ptr 0 0 0 0, .ptr 2 0 0 0, .ptr 5 0 0 0, .ptr 6 0 0 0, .ptr 8 0 0 0]] 61)]
def onHL (x : OnT) : Heap UU := [.one (.rc [.sl 1 0 0 x.2.2.1.length] 43), .one (.ro .int x.2.2.1), .one (.rc [.ptr 3 0 0 0] 108), .one (.rc [.map 4 0, .i x.2.1, .junk] 115), .one (.map .safe x.1), .one (.cells [uV x.2.2.2.2.1] 112), .one (.cells [.gs 9 0] 43), .none, .one (.rc [.fn (.func 97) [] [.ptr 0 0 0 0, .ptr 2 0 0 0, .ptr 5 0 0 0, .ptr 6 0 0 0, .ptr 8 0 0 0]] 61), .one (.row .int x.2.2.2.2.2 3)]
def onS (n : Nat) : FSpec UU where
  X := Bool × OnT
  pick := fun args H => match args with
    | [i, a, b, c, d, _] => match avInt i, avCells H a, avCells H b, avCells H c, avCells H d with
      | some i, some [s], some [f], some [u], some [o] => match sliceAt .int H s, avField H f, avUi u, sliceAt .int H o with
        | some s, some f, some u, some l => some (isNilV o, f.1, f.2, s, i.toNat, u, l)
        | _, _, _, _ => none
      | _, _, _, _, _ => none
    | _ => none
  args := fun x => [.i (x.2.2.2.2.1 : Nat), .ptr 0 0 0 0, .ptr 2 0 0 0, .ptr 5 0 0 0, .ptr 6 0 0 0, .ptr 8 0 0 0]
  H := fun x => onH x.1 x.2
  R := fun x => .val ⟨.b (onM x.2.1 x.2.2.1 x.2.2.2.1 n x.2.2.2.2.1 x.2.2.2.2.2.1 x.2.2.2.2.2.2).1, [(4, 0, .map .safe x.2.1), (5, 0, .cells [uV (onM x.2.1 x.2.2.1 x.2.2.2.1 n x.2.2.2.2.1 x.2.2.2.2.2.1 x.2.2.2.2.2.2).2.1] 112), (6, 0, .cells [.gs 9 0] 43)], match x.1 with | true => [] | false => [(7, 0)], [.row .int (onM x.2.1 x.2.2.1 x.2.2.2.1 n x.2.2.2.2.1 x.2.2.2.2.2.1 x.2.2.2.2.2.2).2.2 3]⟩
  pre := fun x => (x.1 = true → x.2.2.2.2.2.2 = []) ∧ x.2.2.2.2.1 + n = x.2.2.2.1.length ∧ x.2.2.2.1.length ≤ 6 ∧ x.2.2.2.2.2.2.length = x.2.2.2.2.1 ∧ 0 ≤ x.2.2.2.2.2.1 ∧ x.2.2.2.2.2.1 < 64 ∧ 0 ≤ x.2.2.1 ∧ x.2.2.1 ≤ 6
theorem on_ok0f : ∀ x, (onS 0).pre (false, x) → FunOk Tryz.prog 97 ((onS 0).args (false, x)) ((onS 0).H (false, x)) ((onS 0).R (false, x)) := by
  rintro ⟨es, nt, ps, i, u, out⟩ ⟨hn, hx⟩
  refine fun_of (T := []) (L := fun _ => some (.inv { T := Empty, fr := fun _ => [], H := fun _ => [], mu := fun _ => 0 })) (hs := fun _ => []) hmix .nil Tryz.func97 (by kernel_rfl) (by kernel_rfl) ?_
  refine Eq.mp (α :=
      let A1 := (97 : FuncId); let A0 := nat_lit 0 = nat_lit 0 ∧ nat_lit 0 = nat_lit 0 ∧ nat_lit 0 = nat_lit 0; let A2 := Prod.snd (onM es nt ps (nat_lit 0) i u out); let A3 := (↑i : Int) == (↑(List.length ps) : Int); (A3 = true → True ∧ (Value.bool (Prod.fst (onM es nt ps (nat_lit 0) i u out)) = Value.bool true ∧ True) ∧ True ∧ ((nat_lit 0 = nat_lit 0 ∧ nat_lit 0 = nat_lit 0 ∧ List.length ps = List.length ps) ∧ True) ∧ ps = ps ∧ (A0 ∧ True) ∧ (nat_lit 0 = nat_lit 0 ∧ Value.int IntKind.i64 nt = Value.int IntKind.i64 nt ∧ True ∧ True) ∧ es = es ∧ (Value.int IntKind.u64 u = Value.int IntKind.u64 (Prod.fst A2) ∧ True) ∧ (nat_lit 0 = nat_lit 0 ∧ True) ∧ True ∧ ((Fn.func A1 = Fn.func A1 ∧ True ∧ A0 ∧ A0 ∧ A0 ∧ A0 ∧ A0 ∧ True) ∧ True) ∧ ((3 : TypeId) = (3 : TypeId) ∧ out = Prod.snd A2) ∧ True) ∧ (A3 = false → (∃ (x : Empty), False) ∧ ∀ (t : Empty), False))
    (by kernel_rfl) ?_
  simp only [eq_self, AE.goS]
  have h1 : i + 0 = ps.length := hx.1
  refine ⟨fun _ => ⟨rfl, rfl, rfl⟩, fun h => ?_⟩
  rw [← h1] at h
  simp at h

theorem on_ok0t : ∀ x, (onS 0).pre (true, x) → FunOk Tryz.prog 97 ((onS 0).args (true, x)) ((onS 0).H (true, x)) ((onS 0).R (true, x)) := by
  rintro ⟨es, nt, ps, i, u, out⟩ ⟨hn, hx⟩
  refine fun_of (T := []) (L := fun _ => some (.inv { T := Empty, fr := fun _ => [], H := fun _ => [], mu := fun _ => 0 })) (hs := fun _ => []) hmix .nil Tryz.func97 (by kernel_rfl) (by kernel_rfl) ?_
  refine Eq.mp (α :=
      let A1 := True ∧ True ∧ True ∧ True; let A2 := (97 : FuncId); let A0 := nat_lit 0 = nat_lit 0 ∧ nat_lit 0 = nat_lit 0 ∧ nat_lit 0 = nat_lit 0; let A3 := Prod.snd (onM es nt ps (nat_lit 0) i u out); let A4 := (↑i : Int) == (↑(List.length ps) : Int); (A4 = true → True ∧ (True ∧ True) ∧ ((True ∧ True) ∧ True ∧ (True ∧ True) ∧ A1 ∧ True ∧ (True ∧ True) ∧ (nat_lit 0 = nat_lit 0 ∧ True) ∧ True ∧ ((True ∧ True ∧ True ∧ A1) ∧ True) ∧ Prod.snd A3 = [] ∧ True) ∧ (Value.bool (Prod.fst (onM es nt ps (nat_lit 0) i u out)) = Value.bool true ∧ True) ∧ True ∧ ((nat_lit 0 = nat_lit 0 ∧ nat_lit 0 = nat_lit 0 ∧ List.length ps = List.length ps) ∧ True) ∧ ps = ps ∧ (A0 ∧ True) ∧ (nat_lit 0 = nat_lit 0 ∧ Value.int IntKind.i64 nt = Value.int IntKind.i64 nt ∧ True ∧ True) ∧ es = es ∧ (Value.int IntKind.u64 u = Value.int IntKind.u64 (Prod.fst A3) ∧ True) ∧ (Value.slice none (nat_lit 0) (nat_lit 0) = Value.slice none (nat_lit 0) (nat_lit 0) ∧ True) ∧ True ∧ ((Fn.func A2 = Fn.func A2 ∧ True ∧ A0 ∧ A0 ∧ A0 ∧ A0 ∧ A0 ∧ True) ∧ True) ∧ True ∧ True) ∧ (A4 = false → (∃ (x : Empty), False) ∧ ∀ (t : Empty), False))
    (by kernel_rfl) ?_
  simp only [eq_self, AE.goS]
  have h1 : i + 0 = ps.length := hx.1
  have ho : out = [] := hn rfl
  refine ⟨fun _ => ⟨ho, rfl, rfl⟩, fun h => ?_⟩
  rw [← h1] at h
  simp at h

def onL (n : Nat) (x : OnT) : LSpec UU where
  T := { k : Nat // (k : Int) ≤ x.2.1 ∧ ∀ j, j < k → (freeBM x.2.2.2.2.1 j && sfAtM x.1 (x.2.2.1.getD x.2.2.2.1 0) (j : Int) && (onM x.1 x.2.1 x.2.2.1 n (x.2.2.2.1 + 1) (setBM x.2.2.2.2.1 j) (x.2.2.2.2.2 ++ [(j : Int)])).1) = false }
  fr := fun k => [(0, .i (x.2.2.2.1 : Nat)), (1, .ptr 0 0 0 0), (2, .ptr 2 0 0 0), (3, .ptr 5 0 0 0), (4, .ptr 6 0 0 0), (5, .ptr 8 0 0 0), (7, .b false), (16, .i x.2.1), (17, .i k.1)]
  H := fun _ => onHL x
  mu := fun k => (x.2.1 - k.1).toNat
def Ton (n : Nat) : Tab UU := [(97, (onS n).con)]
theorem on_okSf (n : Nat) (hT : (Ton n).Sound Tryz.prog) : ∀ x, (onS (n + 1)).pre (false, x) → FunOk Tryz.prog 97 ((onS (n + 1)).args (false, x)) ((onS (n + 1)).H (false, x)) ((onS (n + 1)).R (false, x)) := by
  rintro ⟨es, nt, ps, i, u, out⟩ ⟨hn, hx⟩
  refine fun_of (T := Ton n) (L := fun _ => some (.inv (onL n (es, nt, ps, i, u, out)))) (hs := fun _ => []) hmix hT Tryz.func97 (by kernel_rfl) (by kernel_rfl) ?_
  refine Eq.mp (α :=
      let Ae := Int.toNat (↑i : Int); let Af := (↑(List.length ps) : Int); let A1 := nat_lit 0 = nat_lit 0 ∧ nat_lit 0 = nat_lit 0 ∧ nat_lit 0 = nat_lit 0; let Ag := Fn.func ((97 : FuncId)); let Ah := nat_lit 3 = (3 : TypeId); let Ai := Value.int IntKind.i64 (↑i : Int); let Aj := Value.bool false = Value.bool false; let A3 := A1 ∧ True; let Aa := Value.int IntKind.i64 nt = Value.int IntKind.i64 nt; let Ak := onM es nt ps (n + nat_lit 1) i u out; let Ab := (3 : TypeId) = (3 : TypeId); let Al := (0 : Int) ≤ (↑i : Int); let Am := nat_lit 0 + Ae; let A4 := (nat_lit 0 = nat_lit 0 ∧ nat_lit 0 = nat_lit 0 ∧ List.length ps = List.length ps) ∧ True; let A5 := nat_lit 0 = nat_lit 0 ∧ Aa ∧ True ∧ True; let An := Prod.snd Ak; let Ao := Ai = Ai; let Ap := Value.bool (Prod.fst Ak); let Aq := (↑i : Int) == Af; let Ar := IntKind.wrap IntKind.i64 ((↑i : Int) + (1 : Int)); let As : List Int := Prod.snd An; let A6 := Int.toNat Ar; let At := Value.int IntKind.u64 (Prod.fst An); let Au := (Ap = Value.bool true) ∧ True; let Av := (es, ((nt, ((ps, ((i, u, out))))))); let Aw := A1 ∧ A1 ∧ A1 ∧ A1 ∧ A3; let Ax := Prod.snd Av; let Ay : List EntT := Prod.fst Av; let A7 := ((Ag = Ag) ∧ True ∧ Aw) ∧ True; let Az := Prod.fst Ax; let AA := Prod.snd Ax; let AB : List Int := Prod.fst AA; let AC := Prod.snd AA; let AD := Prod.snd AC; let AE := Prod.fst AC; let AF := Prod.fst AD; let AG := True ∧ A4 ∧ ps = ps ∧ A3 ∧ A5 ∧ es = es ∧ ((Value.int IntKind.u64 u = Value.int IntKind.u64 u) ∧ True) ∧ (nat_lit 0 = nat_lit 0 ∧ True) ∧ True ∧ A7 ∧ (Ab ∧ out = out) ∧ True; let AH := True ∧ A4 ∧ ps = ps ∧ A3 ∧ A5 ∧ es = es ∧ ((Value.int IntKind.u64 u = At) ∧ True) ∧ (nat_lit 0 = nat_lit 0 ∧ True) ∧ True ∧ A7 ∧ (Ab ∧ out = As) ∧ True; let B2 := fun (k : Nat) => ∀ (j : Nat), (j < k → ((((freeBM AF j) && (sfAtM Ay (List.getD AB AE (0 : Int)) (↑j : Int))) && (Prod.fst ((onM Ay Az AB n (AE + (1 : Nat)) ((setBM AF j)) (((Prod.snd AD) ++ ([(↑j : Int)]))))))) = false)); let A0 : Type := { k : Nat // (((↑k : Int) ≤ Az) ∧ B2 k) }; let A2 := fun (x : A0) => (↑((Subtype.val x)) : Int); let AI := fun (t : A0) => Int.toNat (A2 t); let Ac := fun (x : A0) => Value.int IntKind.i64 (A2 x); let AJ := fun (t : A0) => AV.v (Ac t); let Ad := fun (t : A0) => (0 : Int) ≤ A2 t; let AK := fun (x : A0) => Int.toNat ((nt - A2 x)); let AL := fun (t : A0) => [A2 t]; let AM := fun (t : A0) => (2 : Int) ^ (min (AI t) (nat_lit 64)); let AN := fun (t : A0) => (List.getD ps Am (0 : Int)) :: ([A2 t]); let AO := fun (t : A0) => BitVec.ofInt (nat_lit 64) ((IntKind.wrap IntKind.u64 (((1 : Int) * AM t)))); let A8 := fun (t : A0) => out ++ (List.take (1 : Nat) ((List.drop (0 : Nat) (AL t)))); let A9 := fun (t : A0) => IntKind.wrap IntKind.u64 (((↑((BitVec.toNat ((BitVec.ofInt (nat_lit 64) u ||| AO t)))) : Int))); let AP := fun (t : A0) => Value.int IntKind.u64 (A9 t); let AQ := fun (t : A0) => (IntKind.wrap IntKind.u64 (((↑((BitVec.toNat (((BitVec.ofInt (nat_lit 64) ((Int.fdiv u (AM t)))) &&& (BitVec.ofInt (nat_lit 64) (1 : Int)))))) : Int)))) == (1 : Int); let AR := fun (x t : A0) => AK x < AK t; let AS := fun (t : A0) => decide ((A2 t < nt)); let AT := fun (t : A0) => !(bif (mhasM UU MM.safe (AN t) es) then (Prod.snd ((Prod.snd ((mgetM UU MM.safe (AN t) es))))) else false); let AU := fun (t x : A0) => Ao ∧ (A1 ∧ (A1 ∧ (A1 ∧ (A1 ∧ (A1 ∧ (Aj ∧ (Aa ∧ (((Value.int IntKind.i64 ((IntKind.wrap IntKind.i64 ((A2 t + (1 : Int)))))) = Ac x) ∧ True)))))))); let AW := fun (t : A0) => onM es nt ps n A6 (A9 t) (A8 t); let AX := fun (t : A0) => Prod.fst (AW t); let AY := fun (t : A0) => Prod.snd (AW t); let AZ := fun (t : A0) => Prod.fst (AY t); let B0 := fun (t : A0) => Prod.snd ((Prod.snd ((onM es nt ps n A6 ((IntKind.wrap IntKind.u64 (((↑((BitVec.toNat (((BitVec.ofInt (64 : Nat) u) ||| (BitVec.ofInt (64 : Nat) ((IntKind.wrap IntKind.u64 (((1 : Int) * ((2 : Int) ^ (min (AI t) (64 : Nat)))))))))))) : Int))))) ((out ++ (List.take (nat_lit 1) ((List.drop (nat_lit 0) (AL t)))))))))); let B1 := fun (t : A0) => ∃ (x : A0), (AU t x ∧ AG) ∧ AR x t; (Aq = true → True ∧ Au ∧ AH) ∧ (Aq = false → (∃ (x : A0), (Ao ∧ A1 ∧ A1 ∧ A1 ∧ A1 ∧ A1 ∧ Aj ∧ Aa ∧ Value.int IntKind.i64 (0 : Int) = Ac x ∧ True) ∧ AG) ∧ ∀ (t : A0), (AS t = true → Ad t ∧ (AQ t = true → True ∧ B1 t) ∧ (AQ t = false → (Al ∧ (↑i : Int) < Af) ∧ Am < List.length ps ∧ (AT t = true → True ∧ B1 t) ∧ (AT t = false → Ad t ∧ (nat_lit 1 = nat_lit 1 ∧ AJ t = AJ t ∧ True) ∧ nat_lit 1 ≤ nat_lit 1 ∧ List.length out + nat_lit 1 ≤ nat_lit 1099511627776 ∧ ((false = true → A8 t = []) ∧ A6 + n = List.length ps ∧ List.length ps ≤ nat_lit 6 ∧ List.length (A8 t) = A6 ∧ (0 : Int) ≤ A9 t ∧ A9 t < (64 : Int) ∧ (0 : Int) ≤ nt ∧ nt ≤ (6 : Int)) ∧ (Value.int IntKind.i64 Ar = Value.int IntKind.i64 (↑A6 : Int) ∧ Aw) ∧ (A4 ∧ ps = ps ∧ A3 ∧ A5 ∧ es = es ∧ (AP t = AP t ∧ True) ∧ (nat_lit 0 = nat_lit 0 ∧ True) ∧ (Ah ∧ A8 t = A8 t) ∧ A7 ∧ True) ∧ (AX t = true → True ∧ Au ∧ True ∧ A4 ∧ ps = ps ∧ A3 ∧ A5 ∧ es = es ∧ (Value.int IntKind.u64 (AZ t) = At ∧ True) ∧ (nat_lit 0 = nat_lit 0 ∧ True) ∧ True ∧ A7 ∧ (Ab ∧ B0 t = As) ∧ True) ∧ (AX t = false → Ad t ∧ ((0 : Int) = (0 : Int) ∧ Al ∧ (↑i : Int) ≤ (↑(List.length (Prod.snd (AY t))) : Int)) ∧ True ∧ ∃ (x : A0), (AU t x ∧ True ∧ A4 ∧ ps = ps ∧ A3 ∧ A5 ∧ es = es ∧ (Value.int IntKind.u64 (IntKind.wrap IntKind.u64 (↑(BitVec.toNat (BitVec.ofInt (nat_lit 64) (AZ t) &&& ~~~AO t)) : Int)) = Value.int IntKind.u64 u ∧ True) ∧ (nat_lit 0 = nat_lit 0 ∧ True) ∧ True ∧ A7 ∧ (Ah ∧ List.take Ae (B0 t) = out) ∧ True) ∧ AR x t)))) ∧ (AS t = false → True ∧ (Ap = Value.bool false ∧ True) ∧ AH)))
    (by kernel_rfl) ?_
  simp only [eq_self, AE.goS]
  have x1 : i + (n + 1) = ps.length := hx.1
  have x2 : ps.length ≤ 6 := hx.2.1
  have x3 : out.length = i := hx.2.2.1
  have x4 : 0 ≤ u := hx.2.2.2.1
  have x5 : u < 64 := hx.2.2.2.2.1
  have x6 : 0 ≤ nt := hx.2.2.2.2.2.1
  have x7 : nt ≤ 6 := hx.2.2.2.2.2.2
  have hw : IntKind.i64.wrap ((i : Int) + 1) = ((i + 1 : Nat) : Int) := sucI i (by omega)
  refine ⟨fun h => ?_, fun h => ⟨⟨⟨0, x6, fun j hj => absurd hj (Nat.not_lt_zero j)⟩, rfl⟩, fun t => ⟨fun ht => ⟨Int.natCast_nonneg _, ?_⟩, fun ht => ?_⟩⟩⟩
  · have h' : (i : Int) = (ps.length : Int) := by simpa using h
    omega
  · obtain ⟨k, hk, h0⟩ := t
    have hlt : (k : Int) < nt := ht
    have hk6 : k < 6 := by omega
    have hsl := set_lt x4 x5 hk6
    have nxt : testM es nt ps n i u out k = false → ∃ x : { k : Nat // (k : Int) ≤ nt ∧ ∀ j, j < k → testM es nt ps n i u out j = false }, IntKind.i64.wrap ((k : Int) + 1) = (x.1 : Int) ∧ (nt - (x.1 : Int)).toNat < (nt - (k : Int)).toNat := fun hf =>
      ⟨⟨k + 1, by omega, below_succ h0 hf⟩, sucI k (by omega), by show (nt - ((k + 1 : Nat) : Int)).toNat < (nt - (k : Int)).toNat; omega⟩
    simp only [has_math x4 x5 hk6, set_math x4 x5 hk6, hw, Int.toNat_natCast, List.drop_zero, List.take_succ_cons, List.take_zero]
    refine ⟨fun hu => ?_, fun hu => ⟨⟨Int.natCast_nonneg _, by omega⟩, by omega, fun hs => ?_, fun hs => ⟨Int.natCast_nonneg _, Nat.le_refl _, by omega, ⟨fun h => absurd h (by decide), by omega, x2, by rw [List.length_append, x3]; rfl, hsl.1, hsl.2, x6, x7⟩, trivial, fun hr => ?_, fun hr => ?_⟩⟩⟩
    · refine nxt ?_
      have : freeBM u k = false := by simpa using hu
      unfold testM; rw [this]; rfl
    · refine nxt ?_
      have : sfAtM es (ps.getD i 0) (k : Int) = false := by
        unfold sfAtM
        cases hh : mhasM UU MM.safe [ps.getD i 0, (k : Int)] es with
        | true => rw [hh] at hs; simpa using hs
        | false => rfl
      unfold testM; rw [this, Bool.and_false]; rfl
    all_goals
      have hfr : freeBM u k = true := by simpa using hu
      have hsf : sfAtM es (ps.getD i 0) (k : Int) = true := by
        unfold sfAtM
        cases hh : mhasM UU MM.safe [ps.getD i 0, (k : Int)] es with
        | true => rw [hh] at hs; simpa using hs
        | false => rw [hh] at hs; simp at hs
    · have ht' : testM es nt ps n i u out k = true := by unfold testM; rw [hfr, hsf, hr]; rfl
      have e := on_some hlt ht' h0
      rw [e]
      exact ⟨hr, rfl, rfl⟩
    · have ht' : testM es nt ps n i u out k = false := by unfold testM; rw [hr, Bool.and_false]
      have e := onM_false _ _ _ _ hr
      rw [e]
      obtain ⟨y, hy1, hy2⟩ := nxt ht'
      refine ⟨Int.natCast_nonneg _, ⟨Int.natCast_nonneg _, by rw [List.length_append]; show (i : Int) ≤ ((out.length + 1 : Nat) : Int); omega⟩, y, ⟨hy1, clear_math x4 x5 hk6 hfr, ?_⟩, hy2⟩
      rw [← x3]; exact List.take_left
  · obtain ⟨k, hk, h0⟩ := t
    have hge : ¬ (k : Int) < nt := ht
    have e := on_none (es := es) (nt := nt) (ps := ps) (n := n) (i := i) (u := u) (out := out) (fun j hj => h0 j (by omega))
    rw [e]
    exact ⟨rfl, rfl, rfl⟩

theorem on_okSt (n : Nat) (hT : (Ton n).Sound Tryz.prog) : ∀ x, (onS (n + 1)).pre (true, x) → FunOk Tryz.prog 97 ((onS (n + 1)).args (true, x)) ((onS (n + 1)).H (true, x)) ((onS (n + 1)).R (true, x)) := by
  rintro ⟨es, nt, ps, i, u, out⟩ ⟨hn, hx⟩
  refine fun_of (T := Ton n) (L := fun _ => some (.inv (onL n (es, nt, ps, i, u, out)))) (hs := fun _ => []) hmix hT Tryz.func97 (by kernel_rfl) (by kernel_rfl) ?_
  refine Eq.mp (α :=
      let Aa := True ∧ True ∧ True ∧ True; let Ag := Int.toNat (↑i : Int); let A1 := nat_lit 0 = nat_lit 0 ∧ nat_lit 0 = nat_lit 0 ∧ nat_lit 0 = nat_lit 0; let Ah := (↑(List.length ps) : Int); let Ai := Fn.func ((97 : FuncId)); let Aj := nat_lit 3 = (3 : TypeId); let Ak := Value.int IntKind.i64 (↑i : Int); let Al := Value.bool false = Value.bool false; let A2 := A1 ∧ True; let Ab := Value.int IntKind.i64 nt = Value.int IntKind.i64 nt; let Am := True ∧ True ∧ True ∧ Aa; let An := (Value.int IntKind.u64 u = Value.int IntKind.u64 u) ∧ True; let Ao := Am ∧ True; let Ap := onM es nt ps (n + nat_lit 1) i u out; let Ac := (3 : TypeId) = (3 : TypeId); let Aq := (0 : Int) ≤ (↑i : Int); let Ar := nat_lit 0 + Ag; let A4 := (nat_lit 0 = nat_lit 0 ∧ nat_lit 0 = nat_lit 0 ∧ List.length ps = List.length ps) ∧ True; let A5 := nat_lit 0 = nat_lit 0 ∧ Ab ∧ True ∧ True; let As := Prod.snd Ap; let At := Ak = Ak; let Au := Value.bool (Prod.fst Ap); let Av := (↑i : Int) == Ah; let Aw := IntKind.wrap IntKind.i64 ((↑i : Int) + (1 : Int)); let Ad : List Int := Prod.snd As; let A7 := Int.toNat Aw; let Ax := Value.int IntKind.u64 (Prod.fst As); let Ay := (Au = Value.bool true) ∧ True; let Az := (Value.int IntKind.u64 u = Ax) ∧ True; let AA := (es, ((nt, ((ps, ((i, u, out))))))); let AB := A1 ∧ A1 ∧ A1 ∧ A1 ∧ A2; let AC := Prod.snd AA; let AD : List EntT := Prod.fst AA; let A6 := ((Ai = Ai) ∧ True ∧ AB) ∧ True; let AE := Prod.snd AC; let AF := Prod.fst AC; let AG : List Int := Prod.fst AE; let AH := Prod.snd AE; let AI := Prod.fst AH; let AJ := Prod.snd AH; let AK := Prod.fst AJ; let AL := ((Value.slice none (nat_lit 0) (nat_lit 0) = Value.slice none (nat_lit 0) (nat_lit 0)) ∧ True) ∧ True ∧ A6 ∧ True ∧ True; let B6 := fun (k : Nat) => ∀ (j : Nat), (j < k → ((((freeBM AK j) && (sfAtM AD (List.getD AG AI (0 : Int)) (↑j : Int))) && (Prod.fst ((onM AD AF AG n (AI + (1 : Nat)) ((setBM AK j)) (((Prod.snd AJ) ++ ([(↑j : Int)]))))))) = false)); let A0 : Type := { k : Nat // (((↑k : Int) ≤ AF) ∧ B6 k) }; let A3 := fun (x : A0) => (↑((Subtype.val x)) : Int); let AM := fun (t : A0) => Int.toNat (A3 t); let Ae := fun (x : A0) => Value.int IntKind.i64 (A3 x); let AN := fun (t : A0) => AV.v (Ae t); let Af := fun (t : A0) => (0 : Int) ≤ A3 t; let AO := fun (x : A0) => Int.toNat ((nt - A3 x)); let AP := fun (t : A0) => [A3 t]; let AQ := fun (t : A0) => (2 : Int) ^ (min (AM t) (nat_lit 64)); let AR := fun (t : A0) => (List.getD ps Ar (0 : Int)) :: ([A3 t]); let AS := fun (t : A0) => BitVec.ofInt (nat_lit 64) ((IntKind.wrap IntKind.u64 (((1 : Int) * AQ t)))); let A8 := fun (t : A0) => out ++ (List.take (1 : Nat) ((List.drop (0 : Nat) (AP t)))); let A9 := fun (t : A0) => IntKind.wrap IntKind.u64 (((↑((BitVec.toNat ((BitVec.ofInt (nat_lit 64) u ||| AS t)))) : Int))); let AT := fun (t : A0) => Value.int IntKind.u64 (A9 t); let AU := fun (t : A0) => (IntKind.wrap IntKind.u64 (((↑((BitVec.toNat (((BitVec.ofInt (nat_lit 64) ((Int.fdiv u (AQ t)))) &&& (BitVec.ofInt (nat_lit 64) (1 : Int)))))) : Int)))) == (1 : Int); let AW := fun (x t : A0) => AO x < AO t; let AX := fun (t : A0) => decide ((A3 t < nt)); let AY := fun (t : A0) => !(bif (mhasM UU MM.safe (AR t) es) then (Prod.snd ((Prod.snd ((mgetM UU MM.safe (AR t) es))))) else false); let AZ := fun (t x : A0) => At ∧ (A1 ∧ (A1 ∧ (A1 ∧ (A1 ∧ (A1 ∧ (Al ∧ (Ab ∧ (((Value.int IntKind.i64 ((IntKind.wrap IntKind.i64 ((A3 t + (1 : Int)))))) = Ae x) ∧ True)))))))); let B0 := fun (t : A0) => onM es nt ps n A7 (A9 t) (A8 t); let B1 := fun (t : A0) => Prod.snd (B0 t); let B2 := fun (t : A0) => Prod.fst (B0 t); let B3 := fun (t : A0) => Prod.fst (B1 t); let B4 := fun (t : A0) => Prod.snd ((Prod.snd ((onM es nt ps n A7 ((IntKind.wrap IntKind.u64 (((↑((BitVec.toNat (((BitVec.ofInt (64 : Nat) u) ||| (BitVec.ofInt (64 : Nat) ((IntKind.wrap IntKind.u64 (((1 : Int) * ((2 : Int) ^ (min (AM t) (64 : Nat)))))))))))) : Int))))) ((out ++ (List.take (nat_lit 1) ((List.drop (nat_lit 0) (AP t)))))))))); let B5 := fun (t : A0) => ∃ (x : A0), (AZ t x ∧ True ∧ A4 ∧ ps = ps ∧ A2 ∧ A5 ∧ es = es ∧ An ∧ (nat_lit 0 = nat_lit 0 ∧ True) ∧ True ∧ A6 ∧ (Ac ∧ out = out) ∧ True) ∧ AW x t; (Av = true → True ∧ (True ∧ True) ∧ ((True ∧ True) ∧ True ∧ (True ∧ True) ∧ Aa ∧ True ∧ (True ∧ True) ∧ (nat_lit 0 = nat_lit 0 ∧ True) ∧ True ∧ Ao ∧ Ad = [] ∧ True) ∧ Ay ∧ True ∧ A4 ∧ ps = ps ∧ A2 ∧ A5 ∧ es = es ∧ Az ∧ AL) ∧ (Av = false → (∃ (x : A0), (True ∧ True ∧ True ∧ Am) ∧ ((True ∧ True) ∧ True ∧ (True ∧ True) ∧ Aa ∧ True ∧ (True ∧ True) ∧ (nat_lit 0 = nat_lit 0 ∧ True) ∧ True ∧ Ao ∧ out = [] ∧ True) ∧ (At ∧ A1 ∧ A1 ∧ A1 ∧ A1 ∧ A1 ∧ Al ∧ Ab ∧ Value.int IntKind.i64 (0 : Int) = Ae x ∧ True) ∧ True ∧ A4 ∧ ps = ps ∧ A2 ∧ A5 ∧ es = es ∧ An ∧ AL) ∧ ∀ (t : A0), (AX t = true → Af t ∧ (AU t = true → True ∧ B5 t) ∧ (AU t = false → (Aq ∧ (↑i : Int) < Ah) ∧ Ar < List.length ps ∧ (AY t = true → True ∧ B5 t) ∧ (AY t = false → Af t ∧ (nat_lit 1 = nat_lit 1 ∧ AN t = AN t ∧ True) ∧ nat_lit 1 ≤ nat_lit 1 ∧ List.length out + nat_lit 1 ≤ nat_lit 1099511627776 ∧ ((false = true → A8 t = []) ∧ A7 + n = List.length ps ∧ List.length ps ≤ nat_lit 6 ∧ List.length (A8 t) = A7 ∧ (0 : Int) ≤ A9 t ∧ A9 t < (64 : Int) ∧ (0 : Int) ≤ nt ∧ nt ≤ (6 : Int)) ∧ (Value.int IntKind.i64 Aw = Value.int IntKind.i64 (↑A7 : Int) ∧ AB) ∧ (A4 ∧ ps = ps ∧ A2 ∧ A5 ∧ es = es ∧ (AT t = AT t ∧ True) ∧ (nat_lit 0 = nat_lit 0 ∧ True) ∧ (Aj ∧ A8 t = A8 t) ∧ A6 ∧ True) ∧ (B2 t = true → True ∧ Ay ∧ True ∧ A4 ∧ ps = ps ∧ A2 ∧ A5 ∧ es = es ∧ (Value.int IntKind.u64 (B3 t) = Ax ∧ True) ∧ (nat_lit 0 = nat_lit 0 ∧ True) ∧ True ∧ A6 ∧ (Ac ∧ B4 t = Ad) ∧ True) ∧ (B2 t = false → Af t ∧ ((0 : Int) = (0 : Int) ∧ Aq ∧ (↑i : Int) ≤ (↑(List.length (Prod.snd (B1 t))) : Int)) ∧ True ∧ ∃ (x : A0), (AZ t x ∧ True ∧ A4 ∧ ps = ps ∧ A2 ∧ A5 ∧ es = es ∧ (Value.int IntKind.u64 (IntKind.wrap IntKind.u64 (↑(BitVec.toNat (BitVec.ofInt (nat_lit 64) (B3 t) &&& ~~~AS t)) : Int)) = Value.int IntKind.u64 u ∧ True) ∧ (nat_lit 0 = nat_lit 0 ∧ True) ∧ True ∧ A6 ∧ (Aj ∧ List.take Ag (B4 t) = out) ∧ True) ∧ AW x t)))) ∧ (AX t = false → True ∧ (Au = Value.bool false ∧ True) ∧ True ∧ A4 ∧ ps = ps ∧ A2 ∧ A5 ∧ es = es ∧ Az ∧ (nat_lit 0 = nat_lit 0 ∧ True) ∧ True ∧ A6 ∧ (Ac ∧ out = Ad) ∧ True)))
    (by kernel_rfl) ?_
  simp only [eq_self, AE.goS]
  have x1 : i + (n + 1) = ps.length := hx.1
  have x2 : ps.length ≤ 6 := hx.2.1
  have x3 : out.length = i := hx.2.2.1
  have x4 : 0 ≤ u := hx.2.2.2.1
  have x5 : u < 64 := hx.2.2.2.2.1
  have x6 : 0 ≤ nt := hx.2.2.2.2.2.1
  have x7 : nt ≤ 6 := hx.2.2.2.2.2.2
  have hw : IntKind.i64.wrap ((i : Int) + 1) = ((i + 1 : Nat) : Int) := sucI i (by omega)
  refine ⟨fun h => ?_, fun h => ⟨⟨⟨0, x6, fun j hj => absurd hj (Nat.not_lt_zero j)⟩, hn rfl, rfl⟩, fun t => ⟨fun ht => ⟨Int.natCast_nonneg _, ?_⟩, fun ht => ?_⟩⟩⟩
  · have h' : (i : Int) = (ps.length : Int) := by simpa using h
    omega
  · obtain ⟨k, hk, h0⟩ := t
    have hlt : (k : Int) < nt := ht
    have hk6 : k < 6 := by omega
    have hsl := set_lt x4 x5 hk6
    have nxt : testM es nt ps n i u out k = false → ∃ x : { k : Nat // (k : Int) ≤ nt ∧ ∀ j, j < k → testM es nt ps n i u out j = false }, IntKind.i64.wrap ((k : Int) + 1) = (x.1 : Int) ∧ (nt - (x.1 : Int)).toNat < (nt - (k : Int)).toNat := fun hf =>
      ⟨⟨k + 1, by omega, below_succ h0 hf⟩, sucI k (by omega), by show (nt - ((k + 1 : Nat) : Int)).toNat < (nt - (k : Int)).toNat; omega⟩
    simp only [has_math x4 x5 hk6, set_math x4 x5 hk6, hw, Int.toNat_natCast, List.drop_zero, List.take_succ_cons, List.take_zero]
    refine ⟨fun hu => ?_, fun hu => ⟨⟨Int.natCast_nonneg _, by omega⟩, by omega, fun hs => ?_, fun hs => ⟨Int.natCast_nonneg _, Nat.le_refl _, by omega, ⟨fun h => absurd h (by decide), by omega, x2, by rw [List.length_append, x3]; rfl, hsl.1, hsl.2, x6, x7⟩, trivial, fun hr => ?_, fun hr => ?_⟩⟩⟩
    · refine nxt ?_
      have : freeBM u k = false := by simpa using hu
      unfold testM; rw [this]; rfl
    · refine nxt ?_
      have : sfAtM es (ps.getD i 0) (k : Int) = false := by
        unfold sfAtM
        cases hh : mhasM UU MM.safe [ps.getD i 0, (k : Int)] es with
        | true => rw [hh] at hs; simpa using hs
        | false => rfl
      unfold testM; rw [this, Bool.and_false]; rfl
    all_goals
      have hfr : freeBM u k = true := by simpa using hu
      have hsf : sfAtM es (ps.getD i 0) (k : Int) = true := by
        unfold sfAtM
        cases hh : mhasM UU MM.safe [ps.getD i 0, (k : Int)] es with
        | true => rw [hh] at hs; simpa using hs
        | false => rw [hh] at hs; simp at hs
    · have ht' : testM es nt ps n i u out k = true := by unfold testM; rw [hfr, hsf, hr]; rfl
      have e := on_some hlt ht' h0
      rw [e]
      exact ⟨hr, rfl, rfl⟩
    · have ht' : testM es nt ps n i u out k = false := by unfold testM; rw [hr, Bool.and_false]
      have e := onM_false _ _ _ _ hr
      rw [e]
      obtain ⟨y, hy1, hy2⟩ := nxt ht'
      refine ⟨Int.natCast_nonneg _, ⟨Int.natCast_nonneg _, by rw [List.length_append]; show (i : Int) ≤ ((out.length + 1 : Nat) : Int); omega⟩, y, ⟨hy1, clear_math x4 x5 hk6 hfr, ?_⟩, hy2⟩
      rw [← x3]; exact List.take_left
  · obtain ⟨k, hk, h0⟩ := t
    have hge : ¬ (k : Int) < nt := ht
    have e := on_none (es := es) (nt := nt) (ps := ps) (n := n) (i := i) (u := u) (out := out) (fun j hj => h0 j (by omega))
    rw [e]
    exact ⟨rfl, rfl, rfl⟩

theorem on_ok (n : Nat) (h : ∀ x, (onS n).pre (false, x) → FunOk Tryz.prog 97 ((onS n).args (false, x)) ((onS n).H (false, x)) ((onS n).R (false, x))) (h' : ∀ x, (onS n).pre (true, x) → FunOk Tryz.prog 97 ((onS n).args (true, x)) ((onS n).H (true, x)) ((onS n).R (true, x))) : Sound Tryz.prog 97 (onS n).con :=
  FSpec.sound _ (enter_of Tryz.func97 (by kernel_rfl) (by kernel_rfl)) fun x hx => match x, hx with
    | (false, x), hx => h x hx
    | (true, x), hx => h' x hx
theorem on_sound : ∀ n, Sound Tryz.prog 97 (onS n).con
  | 0 => on_ok 0 on_ok0f on_ok0t
  | n + 1 => on_ok (n + 1) (on_okSf n (.cons (on_sound n) .nil)) (on_okSt n (.cons (on_sound n) .nil))
end AE.Team
