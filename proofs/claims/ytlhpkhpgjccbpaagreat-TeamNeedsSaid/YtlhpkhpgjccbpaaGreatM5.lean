/- An own symbolic executor for the model's code, and what the functions beneath the law compute, joined out of: TmQ, TmR, TmS, TmM, TmL, TmT, TmV, TmX, SoS, SoT, SoV, SoW, SoTA, SoRA, SoRB, SoX, SoZ0, SoZ1, SoRC, SoRD0. No condition. -/
import Derived.Test.YtlhpkhpgjccbpaaGreatM4

set_option linter.unusedSimpArgs false
set_option linter.unusedVariables false
set_option maxHeartbeats 0
set_option maxRecDepth 100000
namespace AE.Team
open Go AE Go.Proofs AE.Soil

def popM (a : Int) : Int := ((List.range 6).filter fun i => a.toNat.testBit i).length
def popS : FSpec UU where
  X := Int
  pick := fun args _ => match args with
    | [a] => avUi a
    | _ => none
  args := fun (x : Int) => [uV x]
  H := fun _ => []
  R := fun (x : Int) => .val ⟨.i (popM x), [], [], []⟩
  pre := fun (x : Int) => 0 ≤ x ∧ x < 64
theorem ones64_ok : ∀ x, popS.pre x → FunOk Tryz.prog 101 (popS.args x) (popS.H x) (popS.R x) := by
  intro (x : Int) h
  refine fun_of (T := []) (L := fun _ => none) (hs := fun _ => []) hmix .nil Tryz.func101 (by kernel_rfl) (by kernel_rfl) ?_
  refine Eq.mp (α :=
      let A0 := BitVec.ofInt (nat_lit 64) ((3689348814741910323 : Int)); let A1 := BitVec.ofInt (nat_lit 64) ((6148914691236517205 : Int)); let A2 := IntKind.wrap IntKind.u64 ((IntKind.wrap IntKind.u64 ((↑(BitVec.toNat ((BitVec.ofInt (nat_lit 64) (Int.fdiv x ((2 : Int) ^ nat_lit 1))) &&& A1)) : Int))) + (IntKind.wrap IntKind.u64 ((↑(BitVec.toNat (BitVec.ofInt (nat_lit 64) x &&& A1)) : Int)))); let A3 := IntKind.wrap IntKind.u64 ((IntKind.wrap IntKind.u64 ((↑(BitVec.toNat ((BitVec.ofInt (nat_lit 64) (Int.fdiv A2 ((2 : Int) ^ nat_lit 2))) &&& A0)) : Int))) + (IntKind.wrap IntKind.u64 ((↑(BitVec.toNat ((BitVec.ofInt (nat_lit 64) A2) &&& A0)) : Int)))); let A4 := IntKind.wrap IntKind.u64 ((↑(BitVec.toNat ((BitVec.ofInt (nat_lit 64) (IntKind.wrap IntKind.u64 ((Int.fdiv A3 ((2 : Int) ^ nat_lit 4)) + A3))) &&& (BitVec.ofInt (nat_lit 64) ((1085102592571150095 : Int))))) : Int)); let A5 := IntKind.wrap IntKind.u64 (A4 + (Int.fdiv A4 ((2 : Int) ^ nat_lit 8))); let A6 := IntKind.wrap IntKind.u64 (A5 + Int.fdiv A5 ((2 : Int) ^ nat_lit 16)); (0 : Int) ≤ (1 : Int) ∧ (0 : Int) ≤ (2 : Int) ∧ (0 : Int) ≤ (4 : Int) ∧ (0 : Int) ≤ (8 : Int) ∧ (0 : Int) ≤ (16 : Int) ∧ (0 : Int) ≤ (32 : Int) ∧ True ∧ (Value.int IntKind.i64 (IntKind.wrap IntKind.i64 (↑(BitVec.toNat (BitVec.ofInt (nat_lit 64) (IntKind.wrap IntKind.i64 (IntKind.wrap IntKind.u64 (A6 + Int.fdiv A6 ((2 : Int) ^ nat_lit 32)))) &&& BitVec.ofInt (nat_lit 64) (127 : Int))) : Int)) = Value.int IntKind.i64 (popM x) ∧ True) ∧ True ∧ True)
    (by kernel_rfl) ?_
  simp only [popS] at h
  refine ⟨by decide, by decide, by decide, by decide, by decide, by decide, trivial, ⟨congrArg (Value.int .i64) ?_, trivial⟩, trivial, trivial⟩
  obtain ⟨m, rfl⟩ := Int.eq_ofNat_of_zero_le h.1
  have hm : m < 64 := by omega
  clear h
  revert m
  decide +kernel

theorem ones64_sound : Sound Tryz.prog 101 popS.con := FSpec.sound _ (enter_of Tryz.func101 (by kernel_rfl) (by kernel_rfl)) ones64_ok
def Tones : Tab UU := [(101, popS.con)]
theorem Tones_ok : Tones.Sound Tryz.prog := .cons ones64_sound .nil
theorem ones_ok : ∀ x, popS.pre x → FunOk Tryz.prog 77 (popS.args x) (popS.H x) (popS.R x) := by
  intro (x : Int) h
  refine fun_of (T := Tones) (L := fun _ => none) (hs := fun _ => []) hmix Tones_ok Tryz.func77 (by kernel_rfl) (by kernel_rfl) ?_
  refine Eq.mp (α :=
      ((0 : Int) ≤ x ∧ x < (64 : Int)) ∧ (Value.int IntKind.u64 x = Value.int IntKind.u64 x ∧ True) ∧ True ∧ True ∧ (Value.int IntKind.i64 (popM x) = Value.int IntKind.i64 (popM x) ∧ True) ∧ True ∧ True)
    (by kernel_rfl) ?_
  simp only [popS] at h
  have h1 : 0 ≤ x := h.1
  have h2 : x < 64 := h.2
  simp [h1, h2]

theorem ones_sound : Sound Tryz.prog 77 popS.con := FSpec.sound _ (enter_of Tryz.func77 (by kernel_rfl) (by kernel_rfl)) ones_ok
def upToM (s : Int) (n : Nat) : List Int := ((List.range n).filter fun i => s.toNat.testBit i).map fun (i : Nat) => (i : Int)
def membersM (s : Int) : List Int := upToM s 6
theorem upTo_len (s : Int) (n : Nat) : (upToM s n).length ≤ n := by
  unfold upToM
  rw [List.length_map]
  exact Nat.le_trans (List.length_filter_le _ _) (by simp)
theorem upTo_yes {s : Int} {n : Nat} (h : s.toNat.testBit n = true) : upToM s (n + 1) = upToM s n ++ [(n : Int)] := by
  unfold upToM
  rw [List.range_succ, List.filter_append, List.map_append, List.filter_cons_of_pos h]
  rfl
theorem upTo_no {s : Int} {n : Nat} (h : s.toNat.testBit n = false) : upToM s (n + 1) = upToM s n := by
  unfold upToM
  rw [List.range_succ, List.filter_append, List.map_append, List.filter_cons_of_neg (by rw [h]; decide)]
  simp
theorem members_lt {m k : Nat} (hm : m < 64) (hk : k ≤ 6) (h : (m : Int).fdiv (2 ^ min k 64) > 0) : k < 6 := by
  rcases Nat.lt_or_eq_of_le hk with h1 | rfl
  · exact h1
  · exfalso
    have : ∀ m : Fin 64, ¬ ((m.val : Nat) : Int).fdiv (2 ^ min 6 64) > 0 := by decide +kernel
    exact this ⟨m, hm⟩ h
theorem members_end {m k : Nat} (hm : m < 64) (hk : k ≤ 6) (h : ¬ (m : Int).fdiv (2 ^ min k 64) > 0) : upToM (m : Int) k = membersM (m : Int) := by
  have : ∀ m : Fin 64, ∀ k : Fin 7, ¬ ((m.val : Nat) : Int).fdiv (2 ^ min k.val 64) > 0 → upToM ((m.val : Nat) : Int) k.val = membersM ((m.val : Nat) : Int) := by decide +kernel
  exact this ⟨m, hm⟩ ⟨k, by omega⟩ h
def membersL (s : Int) : LSpec UU where
  T := { n : Nat // n ≤ 6 }
  fr := fun n => [(0, uV s), (2, .gs 0 0), (3, .i n.1)]
  H := fun n => [.one (.row .int (upToM s n.1) 3)]
  mu := fun n => 6 - n.1
def membersS : FSpec UU where
  X := Int
  pick := fun args _ => match args with
    | [a] => avUi a
    | _ => none
  args := fun (x : Int) => [uV x]
  H := fun _ => []
  R := fun (x : Int) => .val ⟨.gs 0 0, [], [], [.row .int (membersM x) 3]⟩
  pre := fun (x : Int) => 0 ≤ x ∧ x < 64
theorem members_ok : ∀ x, membersS.pre x → FunOk Tryz.prog 71 (membersS.args x) (membersS.H x) (membersS.R x) := by
  intro (x : Int) hx
  refine fun_of (T := []) (L := fun _ => some (.inv (membersL x))) (hs := fun _ => []) hmix .nil Tryz.func71 (by kernel_rfl) (by kernel_rfl) ?_
  refine Eq.mp (α :=
      let A5 := Value.int IntKind.u64 x = Value.int IntKind.u64 x; let A0 : Type := { n : Nat // (n ≤ (6 : Nat)) }; let A6 := (3 : TypeId) = (3 : TypeId); let A3 := fun (x : A0) => Subtype.val x; let A1 := fun (x_1 : A0) => upToM x (A3 x_1); let A2 := fun (x : A0) => (↑(A3 x) : Int); let A7 := fun (x : A0) => nat_lit 6 - A3 x; let A4 := fun (x : A0) => Value.int IntKind.i64 (A2 x); let A8 := fun (t : A0) => AV.v (A4 t); let A9 := fun (t : A0) => (0 : Int) ≤ A2 t; let Aa := fun (t : A0) => Int.fdiv x (((2 : Int) ^ (min ((Int.toNat (A2 t))) (nat_lit 64)))); let Ab := fun (x t : A0) => A7 x < A7 t; let Ac := fun (t x : A0) => A5 ∧ (nat_lit 0 = nat_lit 0 ∧ (((Value.int IntKind.i64 ((IntKind.wrap IntKind.i64 ((A2 t + (1 : Int)))))) = A4 x) ∧ True)); let Ad := fun (t : A0) => decide ((Aa t > (0 : Int))); let Ae := fun (t : A0) => IntKind.wrap IntKind.u64 (↑(BitVec.toNat (((BitVec.ofInt (nat_lit 64) (Aa t)) &&& (BitVec.ofInt (nat_lit 64) (1 : Int))))) : Int) == (1 : Int); (∃ (x : A0), (True ∧ nat_lit 0 = nat_lit 0 ∧ True ∧ True) ∧ (A1 x = [] ∧ True) ∧ (A5 ∧ Value.slice none (nat_lit 0) (nat_lit 0) = Value.slice none (nat_lit 0) (nat_lit 0) ∧ Value.int IntKind.i64 (0 : Int) = A4 x ∧ True) ∧ True ∧ True ∧ True) ∧ ∀ (t : A0), A9 t ∧ (Ad t = true → A9 t ∧ (Ae t = true → (nat_lit 1 = nat_lit 1 ∧ A8 t = A8 t ∧ True) ∧ nat_lit 1 ≤ nat_lit 1 ∧ List.length (A1 t) + nat_lit 1 ≤ nat_lit 1099511627776 ∧ True ∧ ∃ (x : A0), (Ac t x ∧ True ∧ (nat_lit 3 = (3 : TypeId) ∧ A1 t ++ List.take (1 : Nat) (List.drop (0 : Nat) [A2 t]) = A1 x) ∧ True) ∧ Ab x t) ∧ (Ae t = false → True ∧ ∃ (x : A0), (Ac t x ∧ True ∧ (A6 ∧ A1 t = A1 x) ∧ True) ∧ Ab x t)) ∧ (Ad t = false → True ∧ (nat_lit 0 = nat_lit 0 ∧ True) ∧ True ∧ (A6 ∧ A1 t = membersM x) ∧ True))
    (by kernel_rfl) ?_
  simp only [eq_self, AE.goS]
  have x1 : 0 ≤ x := hx.1
  have x2 : x < 64 := hx.2
  obtain ⟨m, rfl⟩ := Int.eq_ofNat_of_zero_le x1
  have hm : m < 64 := by omega
  refine ⟨⟨⟨0, Nat.zero_le _⟩, rfl, rfl⟩, fun t => ⟨Int.natCast_nonneg _, fun ht => ⟨Int.natCast_nonneg _, fun hs => ?_, fun hs => ?_⟩, fun ht => ?_⟩⟩
  all_goals
    obtain ⟨k, hk⟩ := t
  · have hk6 : k < 6 := members_lt hm hk ht
    have hl : (upToM (m : Int) k).length ≤ k := upTo_len _ _
    refine ⟨Nat.le_refl _, by show (upToM (m : Int) k).length + 1 ≤ _; omega, ⟨k + 1, hk6⟩, ⟨sucI k (by omega), ?_⟩, by show 6 - (k + 1) < 6 - k; omega⟩
    have hb : (m : Int).toNat.testBit k = true := by
      have h := has_math (u := (m : Int)) x1 x2 hk6
      have hs' : (IntKind.u64.wrap ↑(BitVec.ofInt 64 ((m : Int).fdiv (2 ^ min k 64)) &&& BitVec.ofInt 64 1).toNat == 1) = true := hs
      rw [h] at hs'
      unfold freeBM at hs'
      simpa using hs'
    rw [show upToM (m : Int) (⟨k + 1, hk6⟩ : { n // n ≤ 6 }).1 = _ from upTo_yes hb]
    rfl
  · have hk6 : k < 6 := members_lt hm hk ht
    refine ⟨⟨k + 1, hk6⟩, ⟨sucI k (by omega), ?_⟩, by show 6 - (k + 1) < 6 - k; omega⟩
    have hb : (m : Int).toNat.testBit k = false := by
      have h := has_math (u := (m : Int)) x1 x2 hk6
      have hs' : (IntKind.u64.wrap ↑(BitVec.ofInt 64 ((m : Int).fdiv (2 ^ min k 64)) &&& BitVec.ofInt 64 1).toNat == 1) = false := hs
      rw [h] at hs'
      unfold freeBM at hs'
      simpa using hs'
    exact (upTo_no hb).symm
  · exact members_end hm hk ht

theorem members_sound : Sound Tryz.prog 71 membersS.con := FSpec.sound _ (enter_of Tryz.func71 (by kernel_rfl) (by kernel_rfl)) members_ok
def sendM (es : List EntT) (nt : Int) (ps : List Int) : List Int × Bool := ((onM es nt ps ps.length 0 0 []).2.2, (onM es nt ps ps.length 0 0 []).1)
def sendS : FSpec UU where
  X := List EntT × Int × List Int
  pick := fun args H => match args with
    | [f, l] => match avField H f, sliceAt .int H l with
      | some f, some l => some (f.1, f.2, l)
      | _, _ => none
    | _ => none
  args := fun x => [.ptr 0 0 0 0, .sl 2 0 0 x.2.2.length]
  H := fun x => [.one (.rc [.map 1 0, .i x.2.1, .junk] 115), .one (.map .safe x.1), .one (.ro .int x.2.2)]
  R := fun x => .val ⟨.tup [.gs 3 0, .b (sendM x.1 x.2.1 x.2.2).2], [(1, 0, .map .safe x.1)], [], [.row .int (sendM x.1 x.2.1 x.2.2).1 3]⟩
  pre := fun x => x.2.2.length ≤ 6 ∧ 0 ≤ x.2.1 ∧ x.2.1 ≤ 6
def Tsend (n : Nat) : Tab UU := [(97, (onS n).con)]
theorem Tsend_ok (n : Nat) : (Tsend n).Sound Tryz.prog := .cons (on_sound n) .nil
theorem send_ok : ∀ x, sendS.pre x → FunOk Tryz.prog 70 (sendS.args x) (sendS.H x) (sendS.R x) := by
  rintro ⟨es, nt, ps⟩ hx
  refine fun_of (T := Tsend ps.length) (L := fun _ => none) (hs := fun _ => []) hmix (Tsend_ok ps.length) Tryz.func70 (by kernel_rfl) (by kernel_rfl) ?_
  refine Eq.mp (α :=
      let A0 := nat_lit 0 = nat_lit 0 ∧ nat_lit 0 = nat_lit 0 ∧ nat_lit 0 = nat_lit 0; let A1 := Value.int IntKind.u64 (0 : Int); let A2 := A0 ∧ True; let A3 := nat_lit 0 = nat_lit 0 ∧ (Value.int IntKind.i64 nt = Value.int IntKind.i64 nt) ∧ True ∧ True; let A4 := A0 ∧ A2; ((true = true → ([] : List Int) = []) ∧ nat_lit 0 + List.length ps = List.length ps ∧ List.length ps ≤ nat_lit 6 ∧ nat_lit 0 = nat_lit 0 ∧ (0 : Int) ≤ (0 : Int) ∧ (0 : Int) < (64 : Int) ∧ (0 : Int) ≤ nt ∧ nt ≤ (6 : Int)) ∧ (Value.int IntKind.i64 (0 : Int) = Value.int IntKind.i64 (↑(nat_lit 0) : Int) ∧ A0 ∧ A0 ∧ A0 ∧ A4) ∧ (((nat_lit 0 = nat_lit 0 ∧ nat_lit 0 = nat_lit 0 ∧ List.length ps = List.length ps) ∧ True) ∧ ps = ps ∧ A2 ∧ A3 ∧ es = es ∧ (A1 = A1 ∧ True) ∧ (Value.slice none (nat_lit 0) (nat_lit 0) = Value.slice none (nat_lit 0) (nat_lit 0) ∧ True) ∧ True ∧ ((Fn.func (nat_lit 97) = Fn.func (97 : FuncId) ∧ True ∧ A0 ∧ A0 ∧ A0 ∧ A4) ∧ True) ∧ True) ∧ True ∧ ((nat_lit 0 = nat_lit 0 ∧ Value.bool (Prod.fst (onM es nt ps (List.length ps) (nat_lit 0) (0 : Int) [])) = Value.bool (Prod.snd (sendM es nt ps)) ∧ True) ∧ True) ∧ True ∧ A3 ∧ es = es ∧ ps = ps ∧ ((3 : TypeId) = (3 : TypeId) ∧ Prod.snd (Prod.snd (onM es nt ps (List.length ps) (0 : Nat) (0 : Int) [])) = Prod.fst (sendM es nt ps)) ∧ True)
    (by kernel_rfl) ?_
  simp only [eq_self, AE.goS]
  exact ⟨⟨fun _ => trivial, hx.1, by decide, by decide, hx.2.1, hx.2.2⟩, rfl, rfl, rfl⟩

theorem send_sound : Sound Tryz.prog 70 sendS.con := FSpec.sound _ (enter_of Tryz.func70 (by kernel_rfl) (by kernel_rfl)) send_ok
end AE.Team

namespace AE.Team
open Go AE Go.Proofs AE.Soil

theorem mErr_small {ts : List TeamT} {l : List PlotT} (h : (matchErrM ts l == 0) = true) : (ts.length : Int) ≤ 6 := by
  apply Decidable.byContradiction
  intro hn
  rw [mErr_len hn] at h
  cases h
theorem members3 : membersM 3 = [0, 1] := by decide
def entsOM (ts : List TeamT) (x : PlotsT) : List EntT := entsM ts (lPlots x) (nPlots x) 0
def sendFM (ts : List TeamT) (x : PlotsT) (s : Int) : List Int × Bool := sendM (entsOM ts x) ts.length (membersM s)
def wholeM (x : PlotsT) : Int := match x.2 with
  | none => 1
  | some _ => 3
def sendOM (ts : List TeamT) (x : PlotsT) : List Int × Int := if matchErrM ts (lPlots x) == 0 then (if (sendFM ts x (wholeM x)).2 then ((sendFM ts x (wholeM x)).1, 0) else ([], 11)) else ([], matchErrM ts (lPlots x))
def manyS (R : List TeamT × PlotsT → OOut UU) : FSpec UU where
  X := List TeamT × PlotsT
  pick := fun args H => match args with
    | [a, b] => match sliceAt .team H a, avPlots H b with
      | some a, some b => some (a, b)
      | _, _ => none
    | _ => none
  args := fun x => [.sl 0 0 0 x.1.length, .sl 1 0 0 (nPlots x.2)]
  H := fun x => .one (.ro .team x.1) :: hPlots 1 x.2
  R := R
  pre := fun x => x.1.length < 1000000 ∧ okPlots x.2
def hMany (x : PlotsT) : Nat := match x.2 with
  | none => 4
  | some _ => 6
def sendOS : FSpec2 UU where
  X := List TeamT × PlotsT
  pick := fun args H => match args with
    | [a, b] => match sliceAt .team H a, avPlots H b with
      | some a, some b => some (a, b)
      | _, _ => none
    | _ => none
  args := fun x => [.sl 0 0 0 x.1.length, .sl 1 0 0 (nPlots x.2)]
  H := fun x => .one (.ro .team x.1) :: hPlots 1 x.2
  c := fun x => (sendOM x.1 x.2).2 == 0
  R := fun x => .val ⟨.tup [.gs (hMany x.2) 0, .i 0], [], [], [.row .int (sendOM x.1 x.2).1 3]⟩
  R' := fun x => .val ⟨.tup [nilV, .i (sendOM x.1 x.2).2], [], [], []⟩
  pre := fun x => x.1.length < 1000000 ∧ okPlots x.2
def TsendO : Tab UU := [(69, matchS.con), (71, membersS.con), (70, sendS.con), (53, needS.con), (40, caughtS.con)]
theorem TsendO_ok : TsendO.Sound Tryz.prog := .cons match_sound (.cons members_sound (.cons send_sound (.cons need_sound (.cons caught_sound .nil))))

theorem sendO_ok2 (ts : List TeamT) (p q : PlotT) (hx : sendOS.pre (ts, p, some q)) : (sendOS.c (ts, p, some q) = true → FunOk Tryz.prog 21 (sendOS.args (ts, p, some q)) (sendOS.H (ts, p, some q)) (sendOS.R (ts, p, some q))) ∧ (sendOS.c (ts, p, some q) = false → FunOk Tryz.prog 21 (sendOS.args (ts, p, some q)) (sendOS.H (ts, p, some q)) (sendOS.R' (ts, p, some q))) := by
  obtain ⟨⟨long, rise, change, ps⟩, st⟩ := p
  obtain ⟨⟨long2, rise2, change2, ps2⟩, st2⟩ := q
  refine fun_ofE (T := TsendO) (L := fun _ => none) (hs := fun _ => []) (sp := fun _ => none) hmix TsendO_ok (tl := toldL 68) (toldL_ok toldSend) (it := fun _ => none) (fun _ _ h => by cases h) Tryz.func21 (by kernel_rfl) (by kernel_rfl) ?_
  refine Eq.mp (α :=
      let Ab := (130 : TypeId); let Ac := nat_lit 0 = nat_lit 0 ∧ nat_lit 0 = nat_lit 0 ∧ nat_lit 2 = nat_lit 2; let Ad := nat_lit 0 = nat_lit 0 ∧ nat_lit 0 = nat_lit 0 ∧ nat_lit 0 = nat_lit 0; let A0 := (↑(List.length ts) : Int); let Ae := Value.int IntKind.i64 (0 : Int); let A2 := Value.int IntKind.i64 (11 : Int); let A3 := Ad ∧ True; let Af := Value.int IntKind.i64 A0; let Ag := Value.slice none (nat_lit 0) (nat_lit 0) = Value.slice none (nat_lit 0) (nat_lit 0); let Ah := Ab = Ab; let Ai := (Ae = Ae) ∧ True; let A4 := (A2 = A2) ∧ True; let A5 : List PlotT := PlotT.mk (GroundT.mk long rise change ps) st :: ([PlotT.mk (GroundT.mk long2 rise2 change2 ps2) st2] : List PlotT); let A6 := Ai ∧ True; let Aj := sendOM ts ((PlotT.mk (GroundT.mk long rise change ps) st, (some (PlotT.mk (GroundT.mk long2 rise2 change2 ps2) st2)))); let Ak : List (Int × Int × Bool) := entsM ts A5 (nat_lit 2) (nat_lit 0); let Al := matchErrM ts A5; let Am := (nat_lit 0 = nat_lit 0 ∧ nat_lit 0 = nat_lit 0 ∧ List.length ts = List.length ts) ∧ Ac ∧ True; let A7 : List Int := ((↑(0 : Nat) : Int)) :: ([((↑(1 : Nat) : Int))] : List Int); let An := Prod.snd Aj; let A8 := Value.int IntKind.i64 Al; let Ao := Value.int IntKind.i64 An; let Ap : List (Int × Int × Bool) := entsM ts A5 (2 : Nat) (0 : Nat); let Aq := Al == (0 : Int); let Ar := An == (0 : Int); let As := Ar = false; let A9 := IntKind.wrap IntKind.u64 ((IntKind.wrap IntKind.u64 ((1 : Int) * ((2 : Int) ^ nat_lit 2))) - (1 : Int)); let At := Value.int IntKind.u64 A9; let Aa := Prod.snd (sendM Ak A0 A7); let Au := Value.bool Aa; let Av := ((Value.int IntKind.i64 long = Value.int IntKind.i64 long) ∧ (Value.int IntKind.i64 rise = Value.int IntKind.i64 rise) ∧ (Value.int IntKind.i64 change = Value.int IntKind.i64 change) ∧ (nat_lit 0 = nat_lit 0 ∧ nat_lit 0 = nat_lit 0 ∧ List.length ps = List.length ps) ∧ (nat_lit 0 = nat_lit 0 ∧ nat_lit 0 = nat_lit 0 ∧ List.length st = List.length st) ∧ True) ∧ ((Value.int IntKind.i64 long2 = Value.int IntKind.i64 long2) ∧ (Value.int IntKind.i64 rise2 = Value.int IntKind.i64 rise2) ∧ (Value.int IntKind.i64 change2 = Value.int IntKind.i64 change2) ∧ (nat_lit 0 = nat_lit 0 ∧ nat_lit 0 = nat_lit 0 ∧ List.length ps2 = List.length ps2) ∧ (nat_lit 0 = nat_lit 0 ∧ nat_lit 0 = nat_lit 0 ∧ List.length st2 = List.length st2) ∧ True) ∧ True; let Aw := Au = Au; let A1 := ts = ts ∧ Av ∧ ps = ps ∧ st = st ∧ ps2 = ps2 ∧ st2 = st2 ∧ True; (List.length ts < nat_lit 1000000 ∧ (List.length ps < nat_lit 1000000 ∧ List.length st < nat_lit 1000000) ∧ List.length ps2 < nat_lit 1000000 ∧ List.length st2 < nat_lit 1000000) ∧ (Aq = true → Am ∧ A1 ∧ (0 : Int) ≤ (↑(nat_lit 2) : Int) ∧ ((0 : Int) ≤ A9 ∧ A9 < (64 : Int)) ∧ (At = At ∧ True) ∧ True ∧ (nat_lit 2 ≤ nat_lit 6 ∧ (0 : Int) ≤ A0 ∧ A0 ≤ (6 : Int)) ∧ (Ad ∧ (nat_lit 9 = nat_lit 9 ∧ Ac) ∧ True) ∧ ((nat_lit 0 = nat_lit 0 ∧ Af = Af ∧ True ∧ True) ∧ Ap = Ak ∧ A7 = A7 ∧ True) ∧ True ∧ (Aa = true → (Aw ∧ A4) ∧ True ∧ Ar = true ∧ True ∧ (Value.nilIface = Value.nilIface ∧ A3) ∧ A6 ∧ True ∧ ((nat_lit 0 = nat_lit 0 ∧ Ai) ∧ True) ∧ True ∧ ts = ts ∧ Av ∧ ps = ps ∧ st = st ∧ ps2 = ps2 ∧ st2 = st2 ∧ ((3 : TypeId) = (3 : TypeId) ∧ Prod.fst (sendM Ap A0 [(↑(nat_lit 0) : Int), (↑(nat_lit 1) : Int)]) = Prod.fst Aj) ∧ True) ∧ (Aa = false → (Aw ∧ A4) ∧ True ∧ As ∧ True ∧ ((Ah ∧ A4) ∧ A3) ∧ A6 ∧ True ∧ ((Ag ∧ A2 = Ao ∧ True) ∧ True) ∧ True ∧ A1)) ∧ (Aq = false → Am ∧ A1 ∧ As ∧ True ∧ ((Ah ∧ A8 = A8 ∧ True) ∧ A3) ∧ A6 ∧ True ∧ ((Ag ∧ A8 = Ao ∧ True) ∧ True) ∧ True ∧ A1))
    (by kernel_rfl) ?_
  simp only [eq_self, AE.goS]
  have hx' : ts.length < 1000000 ∧ (ps.length < 1000000 ∧ st.length < 1000000) ∧ ps2.length < 1000000 ∧ st2.length < 1000000 := hx
  have hm : sendFM ts (⟨⟨long, rise, change, ps⟩, st⟩, some ⟨⟨long2, rise2, change2, ps2⟩, st2⟩) (wholeM (⟨⟨long, rise, change, ps⟩, st⟩, some ⟨⟨long2, rise2, change2, ps2⟩, st2⟩)) = sendM (entsM ts [⟨⟨long, rise, change, ps⟩, st⟩, ⟨⟨long2, rise2, change2, ps2⟩, st2⟩] 2 0) (ts.length : Int) [0, 1] := by
    show sendM _ _ (membersM 3) = _
    rw [members3]; rfl
  refine ⟨hx', fun h => ⟨by decide, by decide, ⟨by decide, Int.natCast_nonneg _, mErr_small h⟩, fun hs => ?_, fun hs => ?_⟩, fun h => ?_⟩
  · have e : sendOM ts (⟨⟨long, rise, change, ps⟩, st⟩, some ⟨⟨long2, rise2, change2, ps2⟩, st2⟩) = ((sendM (entsM ts [⟨⟨long, rise, change, ps⟩, st⟩, ⟨⟨long2, rise2, change2, ps2⟩, st2⟩] 2 0) (ts.length : Int) [0, 1]).1, 0) := by
      refine (if_pos h).trans ?_
      rw [hm]; exact if_pos hs
    rw [e]; exact ⟨rfl, rfl⟩
  · have e : sendOM ts (⟨⟨long, rise, change, ps⟩, st⟩, some ⟨⟨long2, rise2, change2, ps2⟩, st2⟩) = ([], 11) := by
      refine (if_pos h).trans ?_
      rw [hm]; exact if_neg (by rw [show (sendM (entsM ts [⟨⟨long, rise, change, ps⟩, st⟩, ⟨⟨long2, rise2, change2, ps2⟩, st2⟩] 2 0) (ts.length : Int) [0, 1]).2 = false from hs]; decide)
    rw [e]; exact ⟨rfl, rfl⟩
  · have e : sendOM ts (⟨⟨long, rise, change, ps⟩, st⟩, some ⟨⟨long2, rise2, change2, ps2⟩, st2⟩) = ([], matchErrM ts [⟨⟨long, rise, change, ps⟩, st⟩, ⟨⟨long2, rise2, change2, ps2⟩, st2⟩]) := if_neg (by rw [show (matchErrM ts (lPlots (⟨⟨long, rise, change, ps⟩, st⟩, some ⟨⟨long2, rise2, change2, ps2⟩, st2⟩)) == 0) = false from h]; decide)
    rw [e]; exact ⟨h, rfl⟩

theorem sendO_sound : Sound Tryz.prog 21 sendOS.con := FSpec2.sound _ (enter_of Tryz.func21 (by kernel_rfl) (by kernel_rfl)) fun x h => match x, h with
  | (ts, p, none), h => (show False from h.2).elim
  | (ts, p, some q), h => sendO_ok2 ts p q h
end AE.Team

namespace AE.Team
open Go AE Go.Proofs AE.Soil

def badSM (ts : List TeamT) (x : PlotsT) (z s : Nat) : Bool := popM (s : Int) == (z : Int) && !(sendFM ts x (s : Int)).2
def pairsM (x : PlotsT) : List (Nat × Nat) := (List.range (nPlots x + 1)).flatMap fun z => (List.range (2 ^ nPlots x)).map fun s => (z, s)
def shortM (ts : List TeamT) (x : PlotsT) : Int × Int := if matchErrM ts (lPlots x) == 0 then (match (pairsM x).find? fun p => badSM ts x p.1 p.2 with
  | some p => ((p.2 : Int), 0)
  | none => (0, 4)) else (0, matchErrM ts (lPlots x))
theorem suc64 (s : Nat) (h : s < 64) : IntKind.u64.wrap ((s : Int) + 1) = ((s + 1 : Nat) : Int) := by
  have : ∀ m : Fin 64, IntKind.u64.wrap (((m.val : Nat) : Int) + 1) = ((m.val + 1 : Nat) : Int) := by decide +kernel
  exact this ⟨s, h⟩
theorem find_pairs {f : Nat × Nat → Bool} {W : Nat} : ∀ {N z s : Nat}, z < N → s < W → (∀ a, a < z → ∀ b, b < W → f (a, b) = false) → (∀ b, b < s → f (z, b) = false) → f (z, s) = true → ((List.range N).flatMap fun z => (List.range W).map fun s => (z, s)).find? f = some (z, s)
  | 0, z, s, hz, _, _, _, _ => absurd hz (Nat.not_lt_zero _)
  | N + 1, z, s, hz, hs, ha, hb, h => by
    rw [List.range_succ, List.flatMap_append, List.find?_append]
    rcases Nat.lt_or_eq_of_le (Nat.le_of_lt_succ hz) with h1 | rfl
    · rw [find_pairs h1 hs ha hb h]; rfl
    · have e1 : ((List.range z).flatMap fun z => (List.range W).map fun s => (z, s)).find? f = none := by
        rw [List.find?_eq_none]
        intro p hp
        obtain ⟨a, ha', hp2⟩ := List.mem_flatMap.1 hp
        obtain ⟨b, hb', rfl⟩ := List.mem_map.1 hp2
        rw [ha a (List.mem_range.1 ha') b (List.mem_range.1 hb')]; decide
      rw [e1]
      simp only [List.flatMap_cons, List.flatMap_nil, List.append_nil, Option.none_or]
      rw [List.find?_map]
      have e2 : (List.range W).find? (f ∘ fun s => (z, s)) = some s := by
        rw [List.find?_range_eq_some]
        exact ⟨h, List.mem_range.2 hs, fun j hj => by show (!f (z, j)) = true; rw [hb j hj]; rfl⟩
      rw [e2]; rfl
theorem short_some {ts : List TeamT} {x : PlotsT} (h : (matchErrM ts (lPlots x) == 0) = true) {z s : Nat} (hz : z < nPlots x + 1) (hs : s < 2 ^ nPlots x) (ha : ∀ a, a < z → ∀ s, s < 2 ^ nPlots x → badSM ts x a s = false) (hb : ∀ s', s' < s → badSM ts x z s' = false) (hbt : badSM ts x z s = true) : shortM ts x = ((s : Int), 0) := by
  have e := find_pairs (f := fun p => badSM ts x p.1 p.2) hz hs ha hb hbt
  unfold shortM pairsM
  rw [if_pos h, e]
theorem short_none {ts : List TeamT} {x : PlotsT} (h : (matchErrM ts (lPlots x) == 0) = true) (ha : ∀ a, a < nPlots x + 1 → ∀ s, s < 2 ^ nPlots x → badSM ts x a s = false) : shortM ts x = (0, 4) := by
  have e : (pairsM x).find? (fun p => badSM ts x p.1 p.2) = none := by
    rw [List.find?_eq_none]
    intro p hp
    obtain ⟨a, ha', hp2⟩ := List.mem_flatMap.1 hp
    obtain ⟨b, hb', rfl⟩ := List.mem_map.1 hp2
    rw [ha a (List.mem_range.1 ha') b (List.mem_range.1 hb')]; decide
  unfold shortM
  rw [if_pos h, e]
theorem short_err {ts : List TeamT} {x : PlotsT} (h : (matchErrM ts (lPlots x) == 0) = false) : shortM ts x = (0, matchErrM ts (lPlots x)) := by
  unfold shortM
  exact if_neg (by rw [h]; decide)
theorem short_next {ts : List TeamT} {x : PlotsT} {z W : Nat} (ha : ∀ a, a < z → ∀ s, s < W → badSM ts x a s = false) (hb : ∀ s, s < W → badSM ts x z s = false) : ∀ a, a < z + 1 → ∀ s, s < W → badSM ts x a s = false := by
  intro a h s hs
  rcases Nat.lt_or_eq_of_le (Nat.le_of_lt_succ h) with h2 | rfl
  · exact ha a h2 s hs
  · exact hb s hs
def shortHc (ts : List TeamT) (x : PlotsT) : Heap UU := .one (.ro .team ts) :: hPlots 1 x ++ [.one (.cells [.i 0] 35), .one (.map .safe (entsOM ts x)), .one (.cells (cField (hMany x + 1) ts.length (nPlots x)) 115)]
def shortFr (x : PlotsT) (z : Nat) : Fr := [(4, .i 0), (5, .ptr (hMany x) 0 0 0), (6, .ptr (hMany x + 2) 0 0 0), (19, .i (nPlots x + 1 : Nat)), (20, .i z)]
def shortL (ts : List TeamT) (x : PlotsT) : LSpec UU where
  T := { z : Nat // z ≤ nPlots x + 1 ∧ ∀ a, a < z → ∀ s, s < 2 ^ nPlots x → badSM ts x a s = false }
  fr := fun z => shortFr x z.1
  H := fun _ => shortHc ts x
  mu := fun z => nPlots x + 1 - z.1
def shortL2 (ts : List TeamT) (x : PlotsT) : LSpec UU where
  T := { p : Nat × Nat // p.1 < nPlots x + 1 ∧ p.2 ≤ 2 ^ nPlots x ∧ (∀ a, a < p.1 → ∀ s, s < 2 ^ nPlots x → badSM ts x a s = false) ∧ ∀ s, s < p.2 → badSM ts x p.1 s = false }
  fr := fun p => shortFr x p.1.1 ++ [(7, .i p.1.1), (27, uV (2 ^ nPlots x : Nat)), (28, uV p.1.2)]
  H := fun _ => shortHc ts x
  mu := fun p => 2 ^ nPlots x - p.1.2
def shortS : FSpec UU := manyS fun x => .val ⟨.tup [.i (shortM x.1 x.2).1, .i (shortM x.1 x.2).2], [], [], []⟩
def Tshort : Tab UU := [(69, matchS.con), (77, popS.con), (71, membersS.con), (70, sendS.con), (40, caughtS.con)]
theorem Tshort_ok : Tshort.Sound Tryz.prog := .cons match_sound (.cons ones_sound (.cons members_sound (.cons send_sound (.cons caught_sound .nil))))
def shortRule (ts : List TeamT) (x : PlotsT) (k : Nat) : Option (LRule UU) := match Nat.beq k 4 with
  | true => some (.inv (shortL ts x))
  | false => some (.invR (shortL2 ts x) fun a b => b.1.1 = a.1.1)

theorem short_ok2 (ts : List TeamT) (p q : PlotT) (hx : shortS.pre (ts, p, some q)) : FunOk Tryz.prog 23 (shortS.args (ts, p, some q)) (shortS.H (ts, p, some q)) (shortS.R (ts, p, some q)) := by
  obtain ⟨⟨long, rise, change, ps⟩, st⟩ := p
  obtain ⟨⟨long2, rise2, change2, ps2⟩, st2⟩ := q
  refine fun_ofG (T := Tshort) (L := shortRule ts (⟨⟨long, rise, change, ps⟩, st⟩, some ⟨⟨long2, rise2, change2, ps2⟩, st2⟩)) (hs := fun _ => []) (sp := fun _ => none) hmix Tshort_ok (tl := toldL 76) (toldL_ok toldShort) (it := fun _ => none) (fun _ _ h => by cases h) Tryz.func23 (by kernel_rfl) (by kernel_rfl) ?_
  refine Eq.mp (α :=
      let As := (130 : TypeId); let A1 := nat_lit 0 = nat_lit 0 ∧ nat_lit 0 = nat_lit 0 ∧ nat_lit 0 = nat_lit 0; let At := Value.int IntKind.i64 (↑(nat_lit 2) : Int); let Ac := Value.int IntKind.u64 (↑(nat_lit 4) : Int); let Ad := Value.int IntKind.i64 (↑(nat_lit 3) : Int); let A4 := Value.int IntKind.i64 (0 : Int); let A9 := (↑(List.length ts) : Int); let Ae := Value.int IntKind.i64 (4 : Int); let Af := A1 ∧ True; let Au := Value.int IntKind.i64 A9; let Av := Af ∧ True ∧ True; let Aw := Value.nilIface = Value.nilIface ∧ Af; let B5 := DfE.call (Fn.func (nat_lit 76)) ([(AV.ptr (6 : Nat) (nat_lit 0) (nat_lit 0) (nat_lit 0))] : List AV) []; let Ag := Ad = Ad; let A5 := A4 = A4; let Ah := A5 ∧ True; let A6 := (PlotT.mk (GroundT.mk long rise change ps) st, (some (PlotT.mk (GroundT.mk long2 rise2 change2 ps2) st2))); let Ax : List PlotT := PlotT.mk (GroundT.mk long rise change ps) st :: ([PlotT.mk (GroundT.mk long2 rise2 change2 ps2) st2] : List PlotT); let Ay := Ah ∧ True; let Az : List DfE := [B5]; let AA := nPlots A6; let AB := shortM ts A6; let Aa : List EntT := entsOM ts A6; let AC := matchErrM ts Ax; let AD := (nat_lit 0 = nat_lit 0 ∧ nat_lit 0 = nat_lit 0 ∧ List.length ts = List.length ts) ∧ (nat_lit 0 = nat_lit 0 ∧ nat_lit 0 = nat_lit 0 ∧ nat_lit 2 = nat_lit 2) ∧ True; let AE := Au = Au; let Ai := Value.int IntKind.i64 AC; let Aj := Value.int IntKind.i64 (Prod.snd AB); let AF := Value.int IntKind.i64 (Prod.fst AB); let AG := AA + (1 : Nat); let AH := AC == (0 : Int); let B6 := fun (p : Nat × Nat) => ∀ (s : Nat), ((s < Prod.snd p) → ((badSM ts A6 (Prod.fst p) s) = false)); let AI := (2 : Nat) ^ AA; let AJ := A4 = AF; let Ak := Az = Az; let AK := (nat_lit 0 = nat_lit 0 ∧ AE ∧ (At = At) ∧ True) ∧ True; let AL := Aa = Aa; let AM := fun (a : Nat) => ∀ (s : Nat), ((s < AI) → ((badSM ts A6 a s) = false)); let B7 := fun (z : Nat) => ∀ (a : Nat), (a < z → AM a); let B8 := fun (p : Nat × Nat) => ∀ (a : Nat), ((a < Prod.fst p) → AM a); let A2 : Type := { z : Nat // ((z ≤ AG) ∧ B7 z) }; let AN := fun (x : A2) => Subtype.val x; let AO := fun (x : A2) => (↑(AN x) : Int); let Al := ((Value.int IntKind.i64 long = Value.int IntKind.i64 long) ∧ (Value.int IntKind.i64 rise = Value.int IntKind.i64 rise) ∧ (Value.int IntKind.i64 change = Value.int IntKind.i64 change) ∧ (nat_lit 0 = nat_lit 0 ∧ nat_lit 0 = nat_lit 0 ∧ List.length ps = List.length ps) ∧ (nat_lit 0 = nat_lit 0 ∧ nat_lit 0 = nat_lit 0 ∧ List.length st = List.length st) ∧ True) ∧ ((Value.int IntKind.i64 long2 = Value.int IntKind.i64 long2) ∧ (Value.int IntKind.i64 rise2 = Value.int IntKind.i64 rise2) ∧ (Value.int IntKind.i64 change2 = Value.int IntKind.i64 change2) ∧ (nat_lit 0 = nat_lit 0 ∧ nat_lit 0 = nat_lit 0 ∧ List.length ps2 = List.length ps2) ∧ (nat_lit 0 = nat_lit 0 ∧ nat_lit 0 = nat_lit 0 ∧ List.length st2 = List.length st2) ∧ True) ∧ True; let AP := fun (x : A2) => nat_lit 3 - AN x; let Am := fun (x : A2) => Value.int IntKind.i64 (AO x); let An := ts = ts ∧ Al ∧ ps = ps ∧ st = st ∧ ps2 = ps2 ∧ st2 = st2 ∧ True; let Ao := True ∧ An; let A0 : Type := { p : Nat × Nat // ((Prod.fst p < AG) ∧ (Prod.snd p ≤ AI) ∧ B8 p ∧ B6 p) }; let AQ := fun (x : A0) => Subtype.val x; let A7 := fun (x : A0) => Prod.fst (AQ x); let AR := fun (x : A0) => Prod.snd (AQ x); let Ap := fun (x : A0) => (↑(A7 x) : Int); let A3 := fun (x : A0) => (↑(AR x) : Int); let A8 := fun (t : A0) => membersM (A3 t); let AS := fun (x : A0) => nat_lit 4 - AR x; let Aq := fun (x : A0) => Value.int IntKind.i64 (Ap x); let Ab := fun (x : A0) => Value.int IntKind.u64 (A3 x); let AT := fun (t : A0) => List.length (A8 t); let AU := fun (t : A0) => !(Prod.snd ((sendM Aa A9 (A8 t)))); let Ar := Av ∧ ts = ts ∧ Al ∧ ps = ps ∧ st = st ∧ ps2 = ps2 ∧ st2 = st2 ∧ Ah ∧ AL ∧ AK; let AW := fun (t : A2) => decide ((AO t < (↑(nat_lit 3) : Int))); let AX := fun (t : A2) (x : A0) => Am t = Aq x; let AY := fun (t x : A0) => A7 t = A7 x; let AZ := fun (t x : A0) => Aq t = Aq x; let B0 := fun (t : A0) => (popM (A3 t)) != Ap t; let B1 := fun (t : A0) => (Ab t = Ab t) ∧ True; let B2 := fun (t : A0) => ((0 : Int) ≤ A3 t) ∧ (A3 t < (64 : Int)); let B3 := fun (t : A0) => decide ((A3 t < (↑(nat_lit 4) : Int))); let B4 := fun (t x : A0) => ∃ (x_1 : A0), ((A5 ∧ (A1 ∧ (A1 ∧ (Ag ∧ (AZ t x_1 ∧ (AZ t x_1 ∧ ((Ac = Ac) ∧ (((Value.int IntKind.u64 ((IntKind.wrap IntKind.u64 ((A3 t + (1 : Int)))))) = Ab x_1) ∧ True)))))))) ∧ Ar) ∧ (AS x_1 < AS t) ∧ AY x_1 x; (List.length ts < nat_lit 1000000 ∧ (List.length ps < nat_lit 1000000 ∧ List.length st < nat_lit 1000000) ∧ List.length ps2 < nat_lit 1000000 ∧ List.length st2 < nat_lit 1000000) ∧ (AH = true → AD ∧ An ∧ (∃ (x : A2), (A5 ∧ A1 ∧ A1 ∧ Value.int IntKind.i64 (IntKind.wrap IntKind.i64 ((↑(nat_lit 2) : Int) + (1 : Int))) = Ad ∧ A4 = Am x ∧ True) ∧ Av ∧ ts = ts ∧ Al ∧ ps = ps ∧ st = st ∧ ps2 = ps2 ∧ st2 = st2 ∧ Ah ∧ entsM ts Ax (2 : Nat) (0 : Nat) = Aa ∧ AK) ∧ ∀ (t : A2), (AW t = true → (0 : Int) ≤ (↑(nat_lit 2) : Int) ∧ ∃ (x : A0), ((A5 ∧ A1 ∧ A1 ∧ Ag ∧ AX t x ∧ AX t x ∧ Value.int IntKind.u64 (IntKind.wrap IntKind.u64 ((1 : Int) * (2 : Int) ^ nat_lit 2)) = Ac ∧ Value.int IntKind.u64 (0 : Int) = Ab x ∧ True) ∧ Ar) ∧ A7 x = A7 x ∧ ∀ (t_1 : A0), AY t_1 x → (B3 t_1 = true → B2 t_1 ∧ B1 t_1 ∧ True ∧ (B0 t_1 = true → Ak ∧ B4 t_1 x) ∧ (B0 t_1 = false → B2 t_1 ∧ B1 t_1 ∧ True ∧ (AT t_1 ≤ nat_lit 6 ∧ (0 : Int) ≤ A9 ∧ A9 ≤ (6 : Int)) ∧ (A1 ∧ (nat_lit 9 = nat_lit 9 ∧ nat_lit 0 = nat_lit 0 ∧ nat_lit 0 = nat_lit 0 ∧ List.length (A8 t_1) = AT t_1) ∧ True) ∧ ((nat_lit 0 = nat_lit 0 ∧ AE ∧ True ∧ True) ∧ AL ∧ A8 t_1 = A8 t_1 ∧ True) ∧ (AU t_1 = true → True ∧ Aw ∧ Ay ∧ True ∧ ((Value.int IntKind.i64 (IntKind.wrap IntKind.i64 (A3 t_1)) = AF ∧ A4 = Aj ∧ True) ∧ True) ∧ Ao) ∧ (AU t_1 = false → Ak ∧ B4 t_1 x))) ∧ (B3 t_1 = false → Ak ∧ ∃ (x : A2), ((A5 ∧ A1 ∧ A1 ∧ Ag ∧ Value.int IntKind.i64 (IntKind.wrap IntKind.i64 (Ap t_1 + (1 : Int))) = Am x ∧ True) ∧ Ar) ∧ AP x < AP t)) ∧ (AW t = false → True ∧ Aw ∧ ((Ae = Ae ∧ True) ∧ True) ∧ True ∧ ((AJ ∧ Ae = Aj ∧ True) ∧ True) ∧ Ao)) ∧ (AH = false → AD ∧ An ∧ True ∧ ((As = As ∧ Ai = Ai ∧ True) ∧ Af) ∧ Ay ∧ True ∧ ((AJ ∧ Ai = Aj ∧ True) ∧ True) ∧ Ao))
    (by kernel_rfl) ?_
  simp only [eq_self, AE.goS]
  have hx' : ts.length < 1000000 ∧ (ps.length < 1000000 ∧ st.length < 1000000) ∧ ps2.length < 1000000 ∧ st2.length < 1000000 := hx
  refine ⟨hx', fun h => ⟨⟨⟨0, Nat.zero_le _, fun a ha => absurd ha (Nat.not_lt_zero a)⟩, ⟨by decide, rfl⟩, rfl⟩, fun t => ⟨fun ht => ⟨by decide, ?_⟩, fun ht => ?_⟩⟩, fun h => ?_⟩
  · obtain ⟨z, hz, h0⟩ := t
    have hlt : z < 2 + 1 := by have h1 : (z : Int) < ((2 + 1 : Nat) : Int) := ht; omega
    refine ⟨⟨(z, 0), hlt, Nat.zero_le _, h0, fun s hs => absurd hs (Nat.not_lt_zero s)⟩, ⟨rfl, rfl, by decide, rfl⟩, ?_⟩
    rintro ⟨⟨z2, s⟩, hz2, hs2, ha, hb⟩ hr
    have hr' : z2 = z := hr
    subst hr'
    refine ⟨fun hs => ?_, fun hs => ?_⟩
    · have hsl : s < 4 := by have h1 : (s : Int) < ((4 : Nat) : Int) := hs; omega
      have hs64 : 0 ≤ (s : Int) ∧ (s : Int) < 64 := ⟨Int.natCast_nonneg _, by omega⟩
      have hsu : IntKind.u64.wrap ((s : Int) + 1) = ((s + 1 : Nat) : Int) := suc64 s (by omega)
      have nxt : badSM ts (⟨⟨long, rise, change, ps⟩, st⟩, some ⟨⟨long2, rise2, change2, ps2⟩, st2⟩) z2 s = false → ∃ x : { p : Nat × Nat // p.1 < nPlots (⟨⟨long, rise, change, ps⟩, st⟩, some ⟨⟨long2, rise2, change2, ps2⟩, st2⟩) + 1 ∧ p.2 ≤ 2 ^ nPlots (⟨⟨long, rise, change, ps⟩, st⟩, some ⟨⟨long2, rise2, change2, ps2⟩, st2⟩) ∧ (∀ a, a < p.1 → ∀ s, s < 2 ^ nPlots (⟨⟨long, rise, change, ps⟩, st⟩, some ⟨⟨long2, rise2, change2, ps2⟩, st2⟩) → badSM ts (⟨⟨long, rise, change, ps⟩, st⟩, some ⟨⟨long2, rise2, change2, ps2⟩, st2⟩) a s = false) ∧ ∀ s, s < p.2 → badSM ts (⟨⟨long, rise, change, ps⟩, st⟩, some ⟨⟨long2, rise2, change2, ps2⟩, st2⟩) p.1 s = false }, ((z2 : Int) = (x.1.1 : Int) ∧ (z2 : Int) = (x.1.1 : Int) ∧ IntKind.u64.wrap ((s : Int) + 1) = (x.1.2 : Int)) ∧ 4 - x.1.2 < 4 - s ∧ x.1.1 = z2 := fun hb2 =>
        ⟨⟨(z2, s + 1), hz2, hsl, ha, below_succ hb hb2⟩, ⟨rfl, rfl, hsu⟩, by show 4 - (s + 1) < 4 - s; omega, rfl⟩
      refine ⟨hs64, fun hp => nxt ?_, fun hp => ⟨hs64, ⟨upTo_len _ _, Int.natCast_nonneg _, mErr_small h⟩, fun hn => ?_, fun hn => nxt ?_⟩⟩
      · have hp' : (popM (s : Int) == (z2 : Int)) = false := by simpa [bne] using hp
        unfold badSM; rw [hp']; rfl
      · have hp' : (popM (s : Int) == (z2 : Int)) = true := by simpa [bne] using hp
        have hbt : badSM ts (⟨⟨long, rise, change, ps⟩, st⟩, some ⟨⟨long2, rise2, change2, ps2⟩, st2⟩) z2 s = true := by
          unfold badSM; rw [hp']
          exact hn
        have e := short_some (x := (⟨⟨long, rise, change, ps⟩, st⟩, some ⟨⟨long2, rise2, change2, ps2⟩, st2⟩)) h hz2 hsl ha hb hbt
        rw [e]
        exact ⟨by rw [wrap_id (by omega) (by omega)], rfl⟩
      · have hn' : (!(sendFM ts (⟨⟨long, rise, change, ps⟩, st⟩, some ⟨⟨long2, rise2, change2, ps2⟩, st2⟩) (s : Int)).2) = false := hn
        unfold badSM; rw [hn', Bool.and_false]
    · have hse : s = 4 := by
        have h1 : ¬ (s : Int) < ((4 : Nat) : Int) := hs
        have h2 : s ≤ 4 := hs2
        omega
      subst hse
      exact ⟨⟨z2 + 1, hz2, short_next ha hb⟩, sucI z2 (by omega), by show 2 + 1 - (z2 + 1) < 2 + 1 - z2; omega⟩
  · obtain ⟨z, hz, h0⟩ := t
    have hze : z = 2 + 1 := by
      have h1 : ¬ (z : Int) < ((2 + 1 : Nat) : Int) := ht
      have h2 : z ≤ 2 + 1 := hz
      omega
    subst hze
    have e := short_none (x := (⟨⟨long, rise, change, ps⟩, st⟩, some ⟨⟨long2, rise2, change2, ps2⟩, st2⟩)) h h0
    rw [e]; exact ⟨rfl, rfl⟩
  · have e := short_err (x := (⟨⟨long, rise, change, ps⟩, st⟩, some ⟨⟨long2, rise2, change2, ps2⟩, st2⟩)) h
    rw [e]; exact ⟨rfl, rfl⟩

theorem short_sound : Sound Tryz.prog 23 shortS.con := FSpec.sound _ (enter_of Tryz.func23 (by kernel_rfl) (by kernel_rfl)) fun x h => match x, h with
  | (ts, p, none), h => (show False from h.2).elim
  | (ts, p, some q), h => short_ok2 ts p q h
end AE.Team

namespace AE.Team
open Go AE Go.Proofs AE.Soil

def Tcaught : Tab UU := [(40, caughtS.con)]
theorem Tcaught_ok : Tcaught.Sound Tryz.prog := .cons caught_sound .nil
theorem tdRests_ok : TdOk Tryz.prog 54 (tdOf2 (U := UU) Tryz.prog Tcaught Tryz.f54 (restOf (bodyOf Tryz.f54)) 40) :=
  tdOf2_ok hmix Tcaught_ok Tryz.func54 (enter_of Tryz.func54 (by kernel_rfl) (by kernel_rfl)) rfl rfl rfl rfl rfl rfl rfl rfl rfl
def trialM (l : List StepT) (w : List Span) (h : HorT) (i : Nat) (now : Int) : TrialT := ((l, w), stpM l i, h, now)
def tryM (l : List StepT) (w : List Span) (h : HorT) (i : Nat) (now : Int) : Int × Bool := firstM (fun m => suitM (.inr (trialM l w h i now)) m) h.2.2.2.1
def goM (l : List StepT) (w : List Span) (h : HorT) : Nat → List Int × Int
  | 0 => ([], h.1)
  | i + 1 => ((goM l w h i).1 ++ [(tryM l w h i (goM l w h i).2).1], stepM (trialM l w h i (goM l w h i).2) (restM h (tryM l w h i (goM l w h i).2).1 (goM l w h i).2))
def okAtM (l : List StepT) (w : List Span) (h : HorT) (i : Nat) : Bool := (tryM l w h i (goM l w h i).2).2
def restsErrM (t : TeamT) (p : PlotT) : Int := if p.steps.any (fun s => sfM none s) then 1 else if openErrM t p true == 0 then (if (List.range p.steps.length).all (fun i => okAtM p.steps (worksM p) (worstM t) i) then 0 else 11) else openErrM t p true
def restsM (t : TeamT) (p : PlotT) : List Int × Int := if restsErrM t p == 0 then ((goM p.steps (worksM p) (worstM t) p.steps.length).1, 0) else ([], restsErrM t p)
theorem go_len (l : List StepT) (w : List Span) (h : HorT) : ∀ i, (goM l w h i).1.length = i
  | 0 => rfl
  | i + 1 => by simp [goM, go_len l w h i]
theorem step_rest {l : List StepT} {w : List Span} {h : HorT} {i : Nat} {now m : Int} (hr : (stpM l i).1 = true) : stepM (trialM l w h i now) m = restM h (l.getD i (0, 0, 0)).2.2 m := by
  unfold stepM
  rw [if_pos (show (trialM l w h i now).2.1.1 = true from hr)]
  rfl
theorem step_furrow {l : List StepT} {w : List Span} {h : HorT} {i : Nat} {now m : Int} (hr : (stpM l i).1 = false) : stepM (trialM l w h i now) m = furrowM h (w.getD i (0, 0)) m := by
  unfold stepM
  rw [if_neg (show ¬ (trialM l w h i now).2.1.1 = true from by rw [show (trialM l w h i now).2.1.1 = false from hr]; decide)]
  rfl
theorem rests_any {t : TeamT} {p : PlotT} (h : (!p.steps.any fun s => sfM none s) = false) : restsM t p = ([], 1) := by
  have h' : (p.steps.any fun s => sfM none s) = true := by simpa using h
  have e : restsErrM t p = 1 := by unfold restsErrM; rw [if_pos h']
  unfold restsM; rw [e]; rfl
theorem rests_open {t : TeamT} {p : PlotT} (h : (!p.steps.any fun s => sfM none s) = true) (ho : (openErrM t p true == 0) = false) : restsM t p = ([], openErrM t p true) := by
  have h' : ¬ (p.steps.any fun s => sfM none s) = true := by simpa using h
  have e : restsErrM t p = openErrM t p true := by unfold restsErrM; rw [if_neg h', if_neg (by rw [ho]; decide)]
  unfold restsM; rw [e, if_neg (by rw [ho]; decide)]
theorem rests_bad {t : TeamT} {p : PlotT} (h : (!p.steps.any fun s => sfM none s) = true) (ho : (openErrM t p true == 0) = true) {i : Nat} (hi : i < p.steps.length) (hb : okAtM p.steps (worksM p) (worstM t) i = false) : restsM t p = ([], 11) := by
  have h' : ¬ (p.steps.any fun s => sfM none s) = true := by simpa using h
  have hall : ¬ ((List.range p.steps.length).all fun i => okAtM p.steps (worksM p) (worstM t) i) = true := by
    intro hh
    rw [List.all_eq_true] at hh
    have := hh i (List.mem_range.2 hi)
    rw [hb] at this; cases this
  have e : restsErrM t p = 11 := by unfold restsErrM; rw [if_neg h', if_pos ho, if_neg hall]
  unfold restsM; rw [e]; rfl
theorem rests_ok' {t : TeamT} {p : PlotT} (h : (!p.steps.any fun s => sfM none s) = true) (ho : (openErrM t p true == 0) = true) (hk : ∀ i, i < p.steps.length → okAtM p.steps (worksM p) (worstM t) i = true) : restsM t p = ((goM p.steps (worksM p) (worstM t) p.steps.length).1, 0) := by
  have h' : ¬ (p.steps.any fun s => sfM none s) = true := by simpa using h
  have hall : ((List.range p.steps.length).all fun i => okAtM p.steps (worksM p) (worstM t) i) = true := by
    rw [List.all_eq_true]
    intro i hi
    exact hk i (List.mem_range.1 hi)
  have e : restsErrM t p = 0 := by unfold restsErrM; rw [if_neg h', if_pos ho, if_pos hall]
  unfold restsM; rw [e]; rfl
def restsL (t : TeamT) (p : PlotT) : LSpec UU where
  T := { i : Nat // i ≤ p.steps.length ∧ ∀ j, j < i → okAtM p.steps (worksM p) (worstM t) j = true }
  fr := fun i => [(2, .ptr 2 0 0 0), (3, .ptr 3 0 0 0), (4, .ptr 4 0 0 0), (5, .ptr 5 0 0 0), (6, .ptr 7 0 0 0), (7, .ptr 8 0 0 0), (8, .ptr 9 0 0 0), (30, .gs 10 0), (31, .i p.steps.length), (32, .i i.1)]
  H := fun i => hPlot p ++ [.one (.cells [.i t.1.1, .i t.1.2, .i t.2.1.1, .i t.2.1.2, .i t.2.2.1.1, .i t.2.2.1.2, .i t.2.2.2] 25), .one (.cells (cPlot p 0 1) 31), .one (.cells [.gs 11 0] 43), .one (.cells [.i 0] 35), .one (.row .span (worksM p) 23), .one (.cells (cPlot p 0 1 ++ [.gs 6 0]) 136), .one (.cells (lHor (worstM t)) 75), .one (.cells [.i (goM p.steps (worksM p) (worstM t) i.1).2] 3), .one (.row (.stp 7) (stepsM p.steps) 99), .one (.row .int (goM p.steps (worksM p) (worstM t) i.1).1 3)]
  mu := fun i => p.steps.length - i.1
def restsS : FSpec UU := oneS fun x => .val ⟨.tup [.gs 2 0, .i (restsM x.1 x.2).2], [], [], [.row .int (restsM x.1 x.2).1 3]⟩
def Trests : Tab UU := [(55, anySr.con), (53, needS.con), (41, openTS.con), (42, casesS.con), (57, stepsS.con), (60, firstS.con), (58, restedS.con), (152, doRS.con), (153, doFS.con), (40, caughtS.con)]
theorem Trests_ok : Trests.Sound Tryz.prog := .cons anyS_sound (.cons need_sound (.cons openT_sound (.cons cases_sound (.cons steps_sound (.cons first_sound (.cons rested_sound (.cons doR_sound (.cons doF_sound (.cons caught_sound .nil)))))))))
theorem rests_ok : ∀ x, restsS.pre x → FunOk Tryz.prog 16 (restsS.args x) (restsS.H x) (restsS.R x) := by
  rintro ⟨⟨⟨s0, s1⟩, ⟨l0, l1⟩, ⟨g0, g1⟩, full⟩, ⟨⟨long, rise, change, ps⟩, st⟩⟩ hx
  refine fun_ofT (T := Trests) (L := fun _ => some (.inv (restsL ((s0, s1), (l0, l1), (g0, g1), full) ⟨⟨long, rise, change, ps⟩, st⟩))) (hs := fun _ => []) (sp := fun _ => none) hmix Trests_ok (tdAt_ok tdRests_ok) (it := fun _ => none) (fun _ _ h => by cases h) Tryz.func16 (by kernel_rfl) (by kernel_rfl) ?_
  refine Eq.mp (α :=
      let AS := (23 : TypeId); let AT := (99 : TypeId); let AU := (138 : TypeId); let AW := (139 : TypeId); let AX := (130 : TypeId); let Ac := (nat_lit 0 = nat_lit 0 ∧ True ∧ True) ∧ True; let A1 := nat_lit 0 = nat_lit 0 ∧ nat_lit 0 = nat_lit 0 ∧ nat_lit 0 = nat_lit 0; let Ap := Fn.func ((88 : FuncId)); let Aq := Fn.func ((87 : FuncId)); let Ar := st = st ∧ True; let Ad := List.length st < nat_lit 1000000; let As := (↑(List.length st) : Int); let At := Value.int IntKind.i64 (1 : Int); let Ae := Value.int IntKind.i64 (0 : Int); let Au := True ∧ True ∧ True ∧ True ∧ True ∧ True; let Av := Value.int IntKind.i64 (11 : Int); let A3 := A1 ∧ True; let AY := (true, (0 : Int)); let AZ := Value.int IntKind.i64 full = Value.int IntKind.i64 full; let B0 := Value.int IntKind.i64 long = Value.int IntKind.i64 long; let B1 := Value.int IntKind.i64 rise = Value.int IntKind.i64 rise; let B2 := Value.int IntKind.i64 change = Value.int IntKind.i64 change; let B3 := True ∧ Au; let BW := List.any st fun (y : StepT) => sfM none y; let Aw := List.length (worksM (PlotT.mk (GroundT.mk long rise change ps) st)); let B4 := True ∧ B3; let Ax := Value.int IntKind.i64 As; let A6 := Value.slice none (nat_lit 0) (nat_lit 0) = Value.slice none (nat_lit 0) (nat_lit 0); let Ay := !BW; let B5 := ((0 : Int), (0 : Int)); let B6 := List.length (stepsM st); let Az := AT = AT; let B7 := Value.bool Ay; let AA := AX = AX; let B8 := nat_lit 0 = nat_lit 0 ∧ nat_lit 0 = nat_lit 0 ∧ List.length ps = List.length ps; let B9 := (st, worksM (PlotT.mk (GroundT.mk long rise change ps) st)); let A7 := nat_lit 0 = nat_lit 0 ∧ nat_lit 0 = nat_lit 0 ∧ List.length st = List.length st; let Ba := ps = ps ∧ Ar; let Af := A1 ∧ A3; let Bb := (0 : Int) != (0 : Int); let Ag := True ∧ ps = ps ∧ st = st ∧ True ∧ True; let Bc := (1 : Int) != (0 : Int); let Bd := (11 : Int) != (0 : Int); let Be := Ae = Ae; let Bf := (Ap = Ap) ∧ True ∧ True; let Bg := (At = At) ∧ True; let Ah := Be ∧ True; let AB := Af ∧ True ∧ True; let Bh := (Av = Av) ∧ True; let AC := worksM (PlotT.mk (GroundT.mk long rise change ps) st) = worksM (PlotT.mk (GroundT.mk long rise change ps) st); let Ai := Ah ∧ True; let BX := DfE.call (Fn.func (nat_lit 54)) ((AV.ptr (5 : Nat) (nat_lit 0) (nat_lit 0) (nat_lit 0)) :: ([(AV.ptr (4 : Nat) (nat_lit 0) (nat_lit 0) (nat_lit 0))] : List AV) : List AV) []; let AD := ((s0, s1), (((l0, l1), (((g0, g1), full))))); let A2 := worstM AD; let Bi : List DfE := [BX]; let Bj := (True ∧ True ∧ True ∧ True ∧ A7 ∧ True ∧ True) ∧ Ar; let AE := (AS = AS) ∧ AC; let Bk := (nat_lit 6 = nat_lit 6 ∧ nat_lit 0 = nat_lit 0 ∧ nat_lit 0 = nat_lit 0 ∧ (List.length (worksM (PlotT.mk (GroundT.mk long rise change ps) st))) = Aw) ∧ True; let Bl := restsM AD (PlotT.mk (GroundT.mk long rise change ps) st); let AF := openErrM AD (PlotT.mk (GroundT.mk long rise change ps) st) true; let Bm := Prod.snd A2; let Bn : List Int := Prod.fst Bl; let AG := Value.int IntKind.i64 AF; let AH := Value.int IntKind.i64 (Prod.fst A2); let Aj := Value.int IntKind.i64 (Prod.snd Bl); let Bo := Prod.snd Bm; let AI := Value.int IntKind.i64 (Prod.fst Bm); let Bp := Prod.snd Bo; let Bq := (B7 = B7) ∧ Bg; let Br := AF != (0 : Int); let Bs := AF == (0 : Int); let Ak := Prod.snd Bp; let AJ := Value.int IntKind.i64 (Prod.fst Bo); let Al := True ∧ True ∧ (Bn = []) ∧ True; let Bt := (Ae = Aj) ∧ True; let AK := Value.int IntKind.i64 (Prod.fst Bp); let Bu := (Av = Aj) ∧ True; let BY := fun (i : Nat) => ∀ (j : Nat), (j < i → ((okAtM (PlotT.steps (PlotT.mk (GroundT.mk long rise change ps) st)) (worksM (PlotT.mk (GroundT.mk long rise change ps) st)) A2 j) = true)); let Am := B0 ∧ B1 ∧ B2 ∧ B8 ∧ A7 ∧ True; let Bv := Bi = Bi; let AL := B0 ∧ B1 ∧ B2 ∧ B8 ∧ A7 ∧ nat_lit 0 = nat_lit 0 ∧ True; let A8 := (Value.int IntKind.i64 s0 = Value.int IntKind.i64 s0) ∧ (Value.int IntKind.i64 s1 = Value.int IntKind.i64 s1) ∧ (Value.int IntKind.i64 l0 = Value.int IntKind.i64 l0) ∧ (Value.int IntKind.i64 l1 = Value.int IntKind.i64 l1) ∧ (Value.int IntKind.i64 g0 = Value.int IntKind.i64 g0) ∧ (Value.int IntKind.i64 g1 = Value.int IntKind.i64 g1) ∧ AZ ∧ True; let A0 : Type := { i : Nat // ((i ≤ (List.length (PlotT.steps (PlotT.mk (GroundT.mk long rise change ps) st)))) ∧ BY i) }; let AM := fun (x : A0) => Subtype.val x; let A4 := fun (x : A0) => (↑(AM x) : Int); let Bw := fun (t : A0) => Int.toNat (A4 t); let Bx := fun (x : A0) => Value.int IntKind.i64 (A4 x); let By := fun (x : A0) => List.length st - AM x; let Bz := fun (t : A0) => nat_lit 0 + Bw t; let AN := fun (t : A0) => List.getD (stepsM st) (Bz t) AY; let An := fun (t : A0) => Prod.fst (AN t); let A9 := fun (t : A0) => Prod.snd (AN t); let BA := fun (x : A0) => goM st (worksM (PlotT.mk (GroundT.mk long rise change ps) st)) A2 (AM x); let BB := fun (t : A0) => Int.toNat (A9 t); let BC := fun (t : A0) => Value.int IntKind.i64 (A9 t); let AO := fun (x : A0) => Prod.snd (BA x); let Aa := fun (x : A0) => Prod.fst (BA x); let Ab := fun (x : A0) => Value.int IntKind.i64 (AO x); let BD := fun (t : A0) => (0 : Int) ≤ A9 t; let BE := A8 ∧ Am ∧ Value.bool true = Value.bool true ∧ True; let BF := fun (t : A0) => (A2, AO t); let BG := True ∧ True ∧ Ac ∧ Al ∧ ((A6 ∧ (At = Aj) ∧ True) ∧ True) ∧ Ag; let BH := fun (x t : A0) => By x < By t; let BI := True ∧ True ∧ Ac ∧ Al ∧ ((A6 ∧ (AG = Aj) ∧ True) ∧ True) ∧ Ag; let BJ := fun (t : A0) => decide ((A4 t < As)); let BK := fun (t : A0) => True ∧ (ps = ps ∧ (st = st ∧ ((((3 : TypeId) = (3 : TypeId)) ∧ Aa t = Bn) ∧ True))); let Ao := fun (t : A0) => A1 ∧ (BC t = BC t) ∧ True; let BL := fun (t : A0) => (Ab t = Ab t) ∧ True; let BM := fun (t : A0) => BD t ∧ A9 t < As; let BN := fun (t x : A0) => A1 ∧ (A1 ∧ (A1 ∧ (A1 ∧ (A1 ∧ (A1 ∧ (A1 ∧ (nat_lit 0 = nat_lit 0 ∧ ((Ax = Ax) ∧ (((Value.int IntKind.i64 ((IntKind.wrap IntKind.i64 ((A4 t + (1 : Int)))))) = Bx x) ∧ True))))))))); let BO := fun (t : A0) => firstM (fun (n : Int) => (suitM ((Sum.inr (((B9, ((AN t, BF t))))))) n)) full; let BP := fun (t : A0) => Prod.fst (BO t); let AP := fun (t : A0) => Prod.snd (BO t); let BQ := fun (t : A0) => Value.bool (AP t); let BZ := fun (t : A0) => firstM (fun (n : Int) => (suitM ((Sum.inr (((B9, (((List.getD (stepsM st) (((0 : Nat) + Bw t)) AY), BF t))))))) n)) full; let AQ := fun (t : A0) => Value.int IntKind.i64 (BP t); let BR := fun (t : A0) => AV.v (AQ t); let AR := fun (t : A0) => restM A2 (BP t) (AO t); let BS := fun (t : A0) => Value.int IntKind.i64 (AR t); let A5 := (AH = AH) ∧ (AI = AI) ∧ (AJ = AJ) ∧ (AK = AK) ∧ ((Ak = Ak) ∧ Bf ∧ (Aq = Aq) ∧ True ∧ True) ∧ True; let BT := fun (t x : A0) => ((nat_lit 3 = (3 : TypeId)) ∧ ((Aa t ++ (List.take (1 : Nat) ((List.drop (0 : Nat) (([(Prod.fst (BZ t))])))))) = Aa x)) ∧ True; let BU := fun (t : A0) => (BQ t = BQ t) ∧ Bh; let BV := fun (t : A0) => BS t = BS t; Ad ∧ (A7 ∧ (Fn.func (nat_lit 56) = Fn.func (56 : FuncId) ∧ True ∧ True) ∧ True) ∧ Ar ∧ True ∧ (Ay = true → Bq ∧ True ∧ (List.length ps < nat_lit 1000000 ∧ Ad) ∧ (Bs = true → BE ∧ Ba ∧ True ∧ (A8 ∧ True) ∧ True ∧ ((0 : Int) ≤ (0 : Int) ∧ (0 : Int) < (↑(nat_lit 2) : Int)) ∧ Ad ∧ A3 ∧ Bj ∧ (∃ (x : A0), (True ∧ True ∧ True ∧ B4) ∧ (True ∧ True ∧ B4 ∧ Au ∧ (nat_lit 0 = nat_lit 0 ∧ True) ∧ (True ∧ True) ∧ True ∧ B3 ∧ Au ∧ (True ∧ True) ∧ True ∧ Aa x = [] ∧ True) ∧ (A1 ∧ A1 ∧ A1 ∧ A1 ∧ A1 ∧ A1 ∧ A1 ∧ nat_lit 0 = nat_lit 0 ∧ Value.int IntKind.i64 (↑(List.length (stepsM st)) : Int) = Ax ∧ Ae = Bx x ∧ True) ∧ AB ∧ ps = ps ∧ st = st ∧ A8 ∧ Am ∧ (A6 ∧ True) ∧ Ah ∧ AE ∧ AL ∧ (Value.int IntKind.i64 s0 = AH ∧ Value.int IntKind.i64 l1 = AI ∧ Value.int IntKind.i64 g0 = AJ ∧ Value.int IntKind.i64 full = AK ∧ ((Ak = true → Bf) ∧ (Ak = false → Ap = Aq ∧ True ∧ True)) ∧ True) ∧ (Value.int IntKind.i64 s0 = Ab x ∧ True) ∧ (Az ∧ stepsM st = stepsM st) ∧ True ∧ True) ∧ ∀ (t : A0), (BJ t = true → ((0 : Int) ≤ A4 t ∧ A4 t < (↑B6 : Int)) ∧ Bz t < B6 ∧ ((Aw = List.length st ∧ Ad ∧ BM t) ∧ full < (1000000000000 : Int)) ∧ (Be ∧ AZ ∧ (Fn.func (nat_lit 59) = Fn.func (59 : FuncId) ∧ True ∧ A1 ∧ Af) ∧ True) ∧ ((True ∧ True ∧ True ∧ True ∧ A7 ∧ Bk) ∧ st = st ∧ AC ∧ ((An t = An t ∧ (AU = AU ∧ Ao t) ∧ AW = AW ∧ Ao t) ∧ True) ∧ A5 ∧ BL t ∧ ((Fn.func (nat_lit 58) = Fn.func (58 : FuncId) ∧ True ∧ Af) ∧ True) ∧ True) ∧ True ∧ (AP t = true → BU t ∧ True ∧ (nat_lit 1 = nat_lit 1 ∧ BR t = BR t ∧ True) ∧ nat_lit 1 ≤ nat_lit 1 ∧ List.length (Aa t) + nat_lit 1 ≤ nat_lit 1099511627776 ∧ True ∧ (AQ t = AQ t ∧ Af) ∧ (A5 ∧ BL t ∧ True) ∧ (An t = true → BM t ∧ (Ao t ∧ A5 ∧ BV t ∧ True) ∧ Bj ∧ Bv ∧ ∃ (x : A0), (BN t x ∧ AB ∧ ps = ps ∧ st = st ∧ A8 ∧ Am ∧ (nat_lit 0 = nat_lit 0 ∧ True) ∧ Ah ∧ AE ∧ AL ∧ A5 ∧ (Value.int IntKind.i64 (restM A2 (Prod.snd (Prod.snd (List.getD st (BB t) ((0 : Int), B5)))) (AR t)) = Ab x ∧ True) ∧ (Az ∧ stepsM st = stepsM st) ∧ BT t x) ∧ BH x t) ∧ (An t = false → (BD t ∧ A9 t < (↑Aw : Int)) ∧ (Ao t ∧ A5 ∧ BV t ∧ True) ∧ ((True ∧ True ∧ True ∧ True ∧ True ∧ Bk) ∧ AC ∧ True) ∧ Bv ∧ ∃ (x : A0), (BN t x ∧ AB ∧ ps = ps ∧ st = st ∧ A8 ∧ Am ∧ (nat_lit 0 = nat_lit 0 ∧ True) ∧ Ah ∧ AE ∧ AL ∧ A5 ∧ (Value.int IntKind.i64 (furrowM A2 (List.getD (worksM (PlotT.mk (GroundT.mk long rise change ps) st)) (BB t) B5) (AR t)) = Ab x ∧ True) ∧ (Az ∧ stepsM st = stepsM st) ∧ BT t x) ∧ BH x t)) ∧ (AP t = false → BU t ∧ True ∧ True ∧ ((AA ∧ Bh) ∧ A3) ∧ Ai ∧ (Bd = true → True ∧ True ∧ Ac ∧ Al ∧ ((A6 ∧ Bu) ∧ True) ∧ Ag) ∧ (Bd = false → True ∧ True ∧ ((nat_lit 0 = nat_lit 0 ∧ Bu) ∧ True) ∧ BK t))) ∧ (BJ t = false → True ∧ (Value.nilIface = Value.nilIface ∧ A3) ∧ Ai ∧ (Bb = true → True ∧ True ∧ Ac ∧ Al ∧ ((A6 ∧ Bt) ∧ True) ∧ Ag) ∧ (Bb = false → True ∧ True ∧ ((nat_lit 0 = nat_lit 0 ∧ Bt) ∧ True) ∧ BK t))) ∧ (Bs = false → BE ∧ Ba ∧ True ∧ ((AA ∧ AG = AG ∧ True) ∧ A3) ∧ Ai ∧ (Br = true → BI) ∧ (Br = false → BI))) ∧ (Ay = false → Bq ∧ True ∧ True ∧ ((AA ∧ Bg) ∧ A3) ∧ Ai ∧ (Bc = true → BG) ∧ (Bc = false → BG)))
    (by kernel_rfl) ?_
  simp only [eq_self, AE.goS]
  have h1 : ps.length < 1000000 := hx.1
  have h2 : st.length < 1000000 := hx.2
  have hw : (worksM ⟨⟨long, rise, change, ps⟩, st⟩).length = st.length := works_len _
  refine ⟨h2, fun hany => ⟨⟨h1, h2⟩, fun hop => ⟨⟨by decide, by decide⟩, h2, ⟨⟨0, Nat.zero_le _, fun j hj => absurd hj (Nat.not_lt_zero j)⟩, rfl, ⟨by rw [steps_len], rfl⟩, ⟨rfl, rfl, rfl, rfl, (fun _ => trivial), (fun h => nomatch (show true = false from h))⟩, rfl⟩, fun t => ⟨fun ht => ?_, fun ht => ?_⟩⟩, fun hop => ?_⟩, fun hany => ?_⟩
  · obtain ⟨i, hi, h0⟩ := t
    have hlt : i < st.length := by have h1 : (i : Int) < (st.length : Int) := ht; omega
    have hg' := steps_get st i hlt
    have hsl := steps_len st
    have hfull : full < 1000000000000 := by
      have := team_full (open_team hop)
      have h' : full ≤ 10000 := this
      omega
    have hgl := go_len st (worksM ⟨⟨long, rise, change, ps⟩, st⟩) (worstM ((s0, s1), (l0, l1), (g0, g1), full)) i
    simp only [hg', hsl]
    refine ⟨⟨Int.natCast_nonneg _, ht⟩, hlt, ⟨⟨hw, h2, Int.natCast_nonneg _, ht⟩, hfull⟩, fun hok => ⟨Nat.le_refl _, by show (goM st (worksM ⟨⟨long, rise, change, ps⟩, st⟩) (worstM ((s0, s1), (l0, l1), (g0, g1), full)) i).1.length + 1 ≤ _; omega, fun hr => ⟨⟨Int.natCast_nonneg _, ht⟩, ⟨i + 1, hlt, below_succ h0 hok⟩, ⟨sucI i (by omega), ?_, rfl⟩, dec1 hlt⟩, fun hr => ⟨⟨Int.natCast_nonneg _, by rw [hw]; exact ht⟩, ⟨i + 1, hlt, below_succ h0 hok⟩, ⟨sucI i (by omega), ?_, rfl⟩, dec1 hlt⟩⟩, fun hbad => ⟨fun _ => ?_, fun h => absurd h (by decide)⟩⟩
    · exact (step_rest hr).symm
    · exact (step_furrow hr).symm
    · have e := rests_bad (t := ((s0, s1), (l0, l1), (g0, g1), full)) (p := ⟨⟨long, rise, change, ps⟩, st⟩) hany hop hlt hbad
      rw [e]; exact ⟨rfl, rfl⟩
  · obtain ⟨i, hi, h0⟩ := t
    have hie : i = st.length := by have h1 : ¬ (i : Int) < (st.length : Int) := ht; omega
    have e := rests_ok' (t := ((s0, s1), (l0, l1), (g0, g1), full)) (p := ⟨⟨long, rise, change, ps⟩, st⟩) hany hop (fun j hj => h0 j (by rw [hie]; exact hj))
    rw [e]
    refine ⟨fun h => absurd h (by decide), fun _ => ⟨rfl, ?_⟩⟩
    subst hie; rfl
  · have e := rests_open (t := ((s0, s1), (l0, l1), (g0, g1), full)) (p := ⟨⟨long, rise, change, ps⟩, st⟩) hany hop
    rw [e]; exact ⟨fun _ => ⟨rfl, rfl⟩, fun _ => ⟨rfl, rfl⟩⟩
  · have e := rests_any (t := ((s0, s1), (l0, l1), (g0, g1), full)) (p := ⟨⟨long, rise, change, ps⟩, st⟩) hany
    rw [e]; exact ⟨fun _ => ⟨rfl, rfl⟩, fun _ => ⟨rfl, rfl⟩⟩

theorem rests_sound : Sound Tryz.prog 16 restsS.con := FSpec.sound _ (enter_of Tryz.func16 (by kernel_rfl) (by kernel_rfl)) rests_ok
end AE.Team

namespace AE.Team
open Go AE Go.Proofs AE.Soil

def horM (t : TeamT) (b : Bool) : HorT := if b then worstM t else bestM t
def endM (t : TeamT) (p : PlotT) (b : Bool) (n : Nat) : Int := nowM p.steps (worksM p) (horM t b) n
def leftHc (t : TeamT) (p : PlotT) (n : Int) (a b : Int) : Heap UU := hPlot p ++ [.one (.cells [.i t.1.1, .i t.1.2, .i t.2.1.1, .i t.2.1.2, .i t.2.2.1.1, .i t.2.2.1.2, .i t.2.2.2] 25), .one (.cells (cPlot p 0 1) 31), .one (.cells [.i n] 3), .one (.cells [.i 0, .i 0] 23), .one (.cells [.i 0] 35), .one (.row .span (worksM p) 23), .one (.cells (cPlot p 0 1 ++ [.gs 7 0]) 136), .one (.cells [.i a, .i b] 58)]
def leftFr (t : TeamT) (k : Int) : Fr := [(3, .ptr 2 0 0 0), (4, .ptr 3 0 0 0), (5, .ptr 4 0 0 0), (6, .ptr 5 0 0 0), (7, .ptr 6 0 0 0), (8, .ptr 8 0 0 0), (9, .ptr 9 0 0 0), (24, .agg [.i t.1.1, .i t.2.1.2, .i t.2.2.1.1, .i t.2.2.2, .fn (.func 88) [] [], .i t.1.2, .i t.2.1.1, .i t.2.2.1.2, .i t.2.2.2, .fn (.func 87) [] []]), (25, .i k)]
def leftIt (t : TeamT) (p : PlotT) (n : Int) (b : Bool) (y : Nat) (_ : Nat) : Option (LRule UU) := some (.inv {
  T := { i : Nat // i ≤ p.steps.length }
  fr := fun i => [(0, .fn (.yield y) [] []), (1, .ptr 13 0 0 0), (2, .ptr 12 0 0 0), (4, .i (endM t p b i.1)), (10, .gs 14 0), (11, .i p.steps.length), (12, .i i.1)]
  H := fun i => (match b with
    | true => leftHc t p n (endM t p true (min i.1 n.toNat)) 0 ++ [.one (.cells [.i 0] 3)]
    | false => leftHc t p n (endM t p true n.toNat) (endM t p false (min i.1 n.toNat)) ++ [.one (.cells [.i 1] 3)]) ++ [.one (.cells (lHor (horM t b)) 75), .one (.cells [.ptr 8 0 0 0] 71), .one (.cells (lHor (horM t b)) 75), .one (.row (.stp 8) (stepsM p.steps) 99)]
  mu := fun i => p.steps.length - i.1 })
def firstRound (H : Heap UU) : Bool := match blkAt H 10 0 with
  | some (.cells [.v (.int _ k)] _) => Nat.beq k.toNat 0
  | _ => false
def itSel (sel : Heap UU → Bool) (i j : ItW UU) : ItW UU where
  g := i.g
  fn := i.fn
  run := fun Y l m fr H K => match sel H with
    | true => i.run Y l m fr H K
    | false => j.run Y l m fr H K
theorem itSel_ok {P : Program} {sel : Heap UU → Bool} {i j : ItW UU} (hi : ItOk P i) (hj : ItOk P j) (hf : j.fn = i.fn) : ItOk P (itSel sel i j) where
  fn := hi.fn
  body := hi.body
  res := hi.res
  enters := hi.enters
  walk := fun Y l fr H K h => by
    simp only [itSel] at h ⊢
    split at h
    · exact hi.walk Y l fr H K h
    · have := hj.walk Y l fr H K h
      rw [hf] at this
      exact this
theorem open_is {t : TeamT} {p : PlotT} {is : Bool} (h : (openErrM t p is == 0) = true) : is = true := by
  unfold openErrM at h
  cases is with
  | true => rfl
  | false => split at h <;> simp at h
def leftM (t : TeamT) (p : PlotT) (n : Int) : Span × Int := if openErrM t p (inM n 0 p.steps.length) == 0 then ((endM t p true n.toNat, endM t p false n.toNat), 0) else ((0, 0), openErrM t p (inM n 0 p.steps.length))
def leftS : FSpec UU where
  X := TeamT × PlotT × Int
  pick := fun args H => match args with
    | [t, p, n] => match avTeam t, avPlot H p, avInt n with
      | some t, some p, some n => some (t, p, n)
      | _, _, _ => none
    | _ => none
  args := fun x => [vTeam x.1, vPlot x.2.1 0 1, .i x.2.2]
  H := fun x => hPlot x.2.1
  R := fun x => .val ⟨.tup [vSpan (leftM x.1 x.2.1 x.2.2).1, .i (leftM x.1 x.2.1 x.2.2).2], [], [], []⟩
  pre := fun x => x.2.1.g.pits.length < 1000000 ∧ x.2.1.steps.length < 1000000
def Tleft : Tab UU := [(41, openTS.con), (42, casesS.con), (49, behindS.con), (48, withinS.con), (40, caughtS.con)]
theorem Tleft_ok : Tleft.Sound Tryz.prog := .cons openT_sound (.cons cases_sound (.cons behind_sound (.cons twithin_sound (.cons caught_sound .nil))))
theorem left_ok : ∀ x, leftS.pre x → FunOk Tryz.prog 12 (leftS.args x) (leftS.H x) (leftS.R x) := by
  rintro ⟨⟨⟨s0, s1⟩, ⟨l0, l1⟩, ⟨g0, g1⟩, full⟩, ⟨⟨long, rise, change, ps⟩, st⟩, n⟩ hx
  refine fun_ofG (T := Tleft) (L := fun _ => some (.steps [(leftFr ((s0, s1), (l0, l1), (g0, g1), full) 0, leftHc ((s0, s1), (l0, l1), (g0, g1), full) ⟨⟨long, rise, change, ps⟩, st⟩ n 0 0), (leftFr ((s0, s1), (l0, l1), (g0, g1), full) 1, leftHc ((s0, s1), (l0, l1), (g0, g1), full) ⟨⟨long, rise, change, ps⟩, st⟩ n (endM ((s0, s1), (l0, l1), (g0, g1), full) ⟨⟨long, rise, change, ps⟩, st⟩ true n.toNat) 0), (leftFr ((s0, s1), (l0, l1), (g0, g1), full) 2, leftHc ((s0, s1), (l0, l1), (g0, g1), full) ⟨⟨long, rise, change, ps⟩, st⟩ n (endM ((s0, s1), (l0, l1), (g0, g1), full) ⟨⟨long, rise, change, ps⟩, st⟩ true n.toNat) (endM ((s0, s1), (l0, l1), (g0, g1), full) ⟨⟨long, rise, change, ps⟩, st⟩ false n.toNat))])) (hs := fun _ => []) (sp := fun _ => none) hmix Tleft_ok (tl := toldL 47) (toldL_ok toldLeft) (it := onlyAt 11 (itSel firstRound (itOf Tryz.prog Tit 89 Tryz.f89 (leftIt ((s0, s1), (l0, l1), (g0, g1), full) ⟨⟨long, rise, change, ps⟩, st⟩ n true) (fun _ => []) (fun _ => none)) (itOf Tryz.prog Tit 89 Tryz.f89 (leftIt ((s0, s1), (l0, l1), (g0, g1), full) ⟨⟨long, rise, change, ps⟩, st⟩ n false) (fun _ => []) (fun _ => none)))) (onlyAt_ok (itSel_ok itB_ok itB_ok rfl)) Tryz.func12 (by kernel_rfl) (by kernel_rfl) ?_
  refine Eq.mp (α :=
      let Bc := (23 : TypeId); let Bd := (99 : TypeId); let Be := (130 : TypeId); let A1 := nat_lit 0 = nat_lit 0 ∧ nat_lit 0 = nat_lit 0 ∧ nat_lit 0 = nat_lit 0; let Av := Fn.func ((87 : FuncId)); let Aw := Fn.func ((88 : FuncId)); let Bf := st = st ∧ True; let Ai := fun (l : Nat) => Fn.yield l = Fn.yield l ∧ True ∧ True; let Aj := Value.int IntKind.i64 (0 : Int); let Ax := (↑(List.length st) : Int); let AM := List.length st < nat_lit 1000000; let AN := Value.int IntKind.i64 (1 : Int); let A3 := A1 ∧ True; let Bg := Value.int IntKind.i64 n = Value.int IntKind.i64 n; let AO := Value.int IntKind.i64 s0 = Value.int IntKind.i64 s0; let AP := Value.int IntKind.i64 s1 = Value.int IntKind.i64 s1; let AQ := Value.int IntKind.i64 l0 = Value.int IntKind.i64 l0; let AR := Value.int IntKind.i64 l1 = Value.int IntKind.i64 l1; let AS := Value.int IntKind.i64 g0 = Value.int IntKind.i64 g0; let Bh := Value.int IntKind.i64 long = Value.int IntKind.i64 long; let AT := Value.int IntKind.i64 g1 = Value.int IntKind.i64 g1; let Bi := Value.int IntKind.i64 rise = Value.int IntKind.i64 rise; let Am := Value.int IntKind.i64 full = Value.int IntKind.i64 full; let Bj := Value.int IntKind.i64 change = Value.int IntKind.i64 change; let A7 := Bg ∧ True; let Bk := List.length (worksM (PlotT.mk (GroundT.mk long rise change ps) st)); let Ay := Value.int IntKind.i64 Ax; let Bl := (True ∧ True ∧ True ∧ True ∧ True ∧ True ∧ True) ∧ True; let AU := A3 ∧ True ∧ True; let Bm := ((0 : Int), (0 : Int)); let Bn := List.length (stepsM st); let Aa := Bd = Bd; let Bo := nat_lit 0 = nat_lit 0 ∧ nat_lit 0 = nat_lit 0 ∧ List.length ps = List.length ps; let AV := ps = ps ∧ Bf; let AW := nat_lit 0 = nat_lit 0 ∧ nat_lit 0 = nat_lit 0 ∧ List.length st = List.length st; let Bp := inM n (0 : Int) Ax; let AX := Value.nilIface = Value.nilIface ∧ A3; let Az := True ∧ AV; let Bq := Value.bool Bp; let AY := Aj = Aj; let A0 : Type := { i : Nat // (i ≤ (List.length (PlotT.steps (PlotT.mk (GroundT.mk long rise change ps) st)))) }; let Br := (Aw = Av) ∧ True ∧ True; let AA := (Av = Av) ∧ True ∧ True; let Bs := (Av = Aw) ∧ True ∧ True; let AB := (Aw = Aw) ∧ True ∧ True; let An := fun (x : A0) => Subtype.val x; let A2 := AY ∧ True; let Ao := (AN = AN) ∧ True; let Bt := worksM (PlotT.mk (GroundT.mk long rise change ps) st) = worksM (PlotT.mk (GroundT.mk long rise change ps) st); let AC := A2 ∧ True; let Af := fun (x : A0) => (↑(An x) : Int); let Bu := fun (x : A0) => min (An x) (Int.toNat n); let Bv := Ay = Ay; let Bw := fun (x : A0) => Value.int IntKind.i64 (Af x); let Ag := ((0 : Int) ≤ (0 : Int)) ∧ ((0 : Int) < (↑(nat_lit 2) : Int)); let Ah := ((0 : Int) ≤ (1 : Int)) ∧ ((1 : Int) < (↑(nat_lit 2) : Int)); let Bx := decide ((0 : Int) < (2 : Int)); let By := decide ((1 : Int) < (2 : Int)); let Bz := decide ((2 : Int) < (2 : Int)); let Ab := ((s0, s1), (((l0, l1), (((g0, g1), full))))); let BA := fun (x : A0) => List.length st - An x; let AD := horM Ab true; let AE := horM Ab false; let BB := fun (t : A0) => nat_lit 0 + (Int.toNat (Af t)); let AF := (True ∧ True ∧ True ∧ True ∧ AW ∧ True ∧ True) ∧ Bf; let A8 := (Bc = Bc) ∧ Bt; let BC := leftM Ab (PlotT.mk (GroundT.mk long rise change ps) st) n; let BD := fun (x : A0) => (Aj = Bw x) ∧ True; let A5 := AY ∧ A2; let BE := Prod.snd AD; let BF := Prod.snd AE; let AG := AB ∧ AA; let BG := Prod.fst BC; let AZ := Value.int IntKind.i64 (Prod.fst AD); let B0 := Value.int IntKind.i64 (Prod.fst AE); let AH := Value.int IntKind.i64 (endM Ab (PlotT.mk (GroundT.mk long rise change ps) st) true (Int.toNat n)); let BH := Value.int IntKind.i64 (endM Ab (PlotT.mk (GroundT.mk long rise change ps) st) false (Int.toNat n)); let BI := Value.int IntKind.i64 (Prod.snd BC); let BJ := Prod.snd BE; let BK := Prod.snd BF; let BL := Value.int IntKind.i64 (Prod.snd BG); let BM := Value.int IntKind.i64 (Prod.fst BG); let BN := Value.int IntKind.i64 s0 = AZ; let BO := Value.int IntKind.i64 s1 = B0; let B1 := Value.int IntKind.i64 (Prod.fst BE); let B2 := Value.int IntKind.i64 (Prod.fst BF); let BP := fun (t : A0) => BB t < Bn; let BQ := Prod.snd BJ; let BR := Prod.snd BK; let BS := openErrM Ab (PlotT.mk (GroundT.mk long rise change ps) st) Bp; let Ap := Prod.snd BQ; let Aq := Prod.snd BR; let B3 := Value.int IntKind.i64 (Prod.fst BJ); let B4 := Value.int IntKind.i64 (Prod.fst BK); let BT := Value.int IntKind.i64 l1 = B1; let BU := Value.int IntKind.i64 l0 = B2; let B5 := (Aj = BI) ∧ True; let B6 := Value.int IntKind.i64 BS; let BV := fun (t : A0) => List.getD (stepsM st) (BB t) ((true, (0 : Int))); let B7 := Value.int IntKind.i64 (Prod.fst BQ); let B8 := Value.int IntKind.i64 (Prod.fst BR); let BW := fun (t : A0) => decide ((Af t < n)); let B9 := fun (x : A0) => endM Ab (PlotT.mk (GroundT.mk long rise change ps) st) true (An x); let Ba := fun (x : A0) => endM Ab (PlotT.mk (GroundT.mk long rise change ps) st) false (An x); let BX := (Aj = BL) ∧ True; let BY := fun (t : A0) => Prod.fst (BV t); let Ar := fun (t : A0) => Prod.snd (BV t); let BZ := Value.int IntKind.i64 g0 = B3; let C0 := Value.int IntKind.i64 g1 = B4; let AI := fun (t : A0) => BW t = true; let AJ := fun (t : A0) => BW t = false; let C1 := fun (t : A0) => Int.toNat (Ar t); let As := fun (x : A0) => Value.int IntKind.i64 (B9 x); let At := fun (x : A0) => Value.int IntKind.i64 (Ba x); let C2 := fun (t : A0) => BY t = true; let C3 := fun (t : A0) => BY t = false; let C4 := fun (t : A0) => Value.int IntKind.i64 (Ar t); let C5 := Value.int IntKind.i64 full = B7; let C6 := Value.int IntKind.i64 full = B8; let A6 := Bh ∧ Bi ∧ Bj ∧ Bo ∧ AW ∧ True; let Ae := fun (x t : A0) => BA x < BA t; let A9 := Bh ∧ Bi ∧ Bj ∧ Bo ∧ AW ∧ nat_lit 0 = nat_lit 0 ∧ True; let C7 := BS == (0 : Int); let Ak := fun (x : A0) => Value.int IntKind.i64 ((endM Ab (PlotT.mk (GroundT.mk long rise change ps) st) true (Bu x))); let Al := fun (x : A0) => Value.int IntKind.i64 ((endM Ab (PlotT.mk (GroundT.mk long rise change ps) st) false (Bu x))); let C8 := (True ∧ True ∧ True ∧ True ∧ True ∧ (nat_lit 7 = nat_lit 7 ∧ nat_lit 0 = nat_lit 0 ∧ nat_lit 0 = nat_lit 0 ∧ (List.length (worksM (PlotT.mk (GroundT.mk long rise change ps) st))) = Bk) ∧ True) ∧ Bt ∧ True; let C9 := fun (t : A0) => (0 : Int) ≤ Ar t; let A4 := AO ∧ AP ∧ AQ ∧ AR ∧ AS ∧ AT ∧ Am ∧ True; let Ca := fun (t : A0) => ((0 : Int) ≤ Af t) ∧ (Af t < ((↑Bn : Int))); let Cb := fun (t : A0) => decide ((Af t < Ax)); let Cc := fun (t : A0) => Cb t = true; let Cd := fun (t : A0) => Cb t = false; let Ce := fun (t : A0) => List.getD (worksM (PlotT.mk (GroundT.mk long rise change ps) st)) (C1 t) Bm; let Au := AH = AH; let Cf := AH = BM; let Cg := fun (t : A0) => Prod.snd ((Prod.snd ((List.getD st (C1 t) (((0 : Int), Bm)))))); let AK := fun (t x : A0) => nat_lit 0 = nat_lit 0 ∧ (Bv ∧ (((Value.int IntKind.i64 ((IntKind.wrap IntKind.i64 ((Af t + (1 : Int)))))) = Bw x) ∧ True)); let Ch := (Aj = BM) ∧ BX; let Bb := AO ∧ AR ∧ AS ∧ Am ∧ AB ∧ AP ∧ AQ ∧ AT ∧ Am ∧ AA ∧ True; let Ci := fun (t : A0) => (At t = At t) ∧ True; let AL := fun (t : A0) => A1 ∧ (C4 t = C4 t) ∧ True; let Cj := fun (t : A0) => C9 t ∧ Ar t < Ax; let Ck := fun (t : A0) => C9 t ∧ (Ar t < ((↑Bk : Int))); let Cl := fun (t x : A0) => (Ak t = Ak x) ∧ A2; let Cm := A4 ∧ A6 ∧ (Bq = Bq) ∧ True; let Cn := fun (t : A0) => Value.int IntKind.i64 ((furrowM AD (Ce t) (B9 t))); let Co := fun (t : A0) => Value.int IntKind.i64 ((furrowM AE (Ce t) (Ba t))); let Cp := fun (t : A0) => Value.int IntKind.i64 ((restM AD (Cg t) (B9 t))); let Cq := fun (t : A0) => Value.int IntKind.i64 ((restM AE (Cg t) (Ba t))); let Cr := fun (t x : A0) => Au ∧ (Al t = Al x) ∧ True; let Cs := fun (l : Nat) (t x : A0) => Ai l ∧ A1 ∧ A1 ∧ (Cn t = As x) ∧ AK t x; let Ct := fun (l : Nat) (t x : A0) => Ai l ∧ A1 ∧ A1 ∧ (Co t = At x) ∧ AK t x; let Cu := fun (l : Nat) (t x : A0) => Ai l ∧ A1 ∧ A1 ∧ (Cp t = As x) ∧ AK t x; let Cv := fun (l : Nat) (t x : A0) => Ai l ∧ A1 ∧ A1 ∧ (Cq t = At x) ∧ AK t x; let Ad := (AZ = AZ) ∧ (B1 = B1) ∧ (B3 = B3) ∧ (B7 = B7) ∧ ((Ap = Ap) ∧ AG) ∧ True; let Ac := (B0 = B0) ∧ (B2 = B2) ∧ (B4 = B4) ∧ (B8 = B8) ∧ ((Aq = Aq) ∧ AG) ∧ True; let Cw := fun (t : A0) => Ad ∧ (As t = As t) ∧ True; True ∧ (Bg ∧ AY ∧ Bv ∧ True) ∧ True ∧ (List.length ps < nat_lit 1000000 ∧ AM) ∧ (C7 = true → Cm ∧ AV ∧ True ∧ (A4 ∧ True) ∧ True ∧ ((A1 ∧ A1 ∧ A1 ∧ A1 ∧ A1 ∧ A1 ∧ A1 ∧ Bb ∧ A2) ∧ AU ∧ ps = ps ∧ st = st ∧ A4 ∧ A6 ∧ A7 ∧ A5 ∧ A2 ∧ A8 ∧ A9 ∧ A5 ∧ True) ∧ (Bx = true → Ag ∧ Ag ∧ True ∧ (A1 ∧ (AO ∧ AR ∧ AS ∧ Am ∧ ((true = true → AB) ∧ (true = false → Br)) ∧ True) ∧ True) ∧ Bl ∧ ∀ (l : Nat), AM ∧ A3 ∧ AF ∧ (∃ (x : A0), (Ai l ∧ A1 ∧ A1 ∧ Value.int IntKind.i64 s0 = As x ∧ nat_lit 0 = nat_lit 0 ∧ Value.int IntKind.i64 (↑(List.length (stepsM st)) : Int) = Ay ∧ BD x) ∧ True ∧ ps = ps ∧ st = st ∧ A4 ∧ A6 ∧ A7 ∧ A5 ∧ A2 ∧ A8 ∧ A9 ∧ (Value.int IntKind.i64 s0 = Ak x ∧ A2) ∧ A2 ∧ (BN ∧ BT ∧ BZ ∧ C5 ∧ ((Ap = true → AB) ∧ (Ap = false → Br)) ∧ True) ∧ A3 ∧ (BN ∧ BT ∧ BZ ∧ C5 ∧ (true = Ap ∧ AG) ∧ True) ∧ (Aa ∧ stepsM st = stepsM st) ∧ True) ∧ ∀ (t : A0), (Cc t → Ca t ∧ BP t ∧ (C2 t → Cj t ∧ (AL t ∧ Cw t) ∧ AF ∧ l = l ∧ True ∧ (AI t → Ag ∧ True ∧ ∃ (x : A0), (Cu l t x ∧ True ∧ ps = ps ∧ st = st ∧ A4 ∧ A6 ∧ A7 ∧ A5 ∧ A2 ∧ A8 ∧ A9 ∧ (Cp t = Ak x ∧ A2) ∧ A2 ∧ Ad ∧ A3 ∧ Ad ∧ (Aa ∧ stepsM st = stepsM st) ∧ True) ∧ Ae x t) ∧ (AJ t → True ∧ ∃ (x : A0), (Cu l t x ∧ True ∧ ps = ps ∧ st = st ∧ A4 ∧ A6 ∧ A7 ∧ A5 ∧ A2 ∧ A8 ∧ A9 ∧ Cl t x ∧ A2 ∧ Ad ∧ A3 ∧ Ad ∧ (Aa ∧ stepsM st = stepsM st) ∧ True) ∧ Ae x t)) ∧ (C3 t → Ck t ∧ (AL t ∧ Cw t) ∧ C8 ∧ l = l ∧ True ∧ (AI t → Ag ∧ True ∧ ∃ (x : A0), (Cs l t x ∧ True ∧ ps = ps ∧ st = st ∧ A4 ∧ A6 ∧ A7 ∧ A5 ∧ A2 ∧ A8 ∧ A9 ∧ (Cn t = Ak x ∧ A2) ∧ A2 ∧ Ad ∧ A3 ∧ Ad ∧ (Aa ∧ stepsM st = stepsM st) ∧ True) ∧ Ae x t) ∧ (AJ t → True ∧ ∃ (x : A0), (Cs l t x ∧ True ∧ ps = ps ∧ st = st ∧ A4 ∧ A6 ∧ A7 ∧ A5 ∧ A2 ∧ A8 ∧ A9 ∧ Cl t x ∧ A2 ∧ Ad ∧ A3 ∧ Ad ∧ (Aa ∧ stepsM st = stepsM st) ∧ True) ∧ Ae x t))) ∧ (Cd t → ((A1 ∧ A1 ∧ A1 ∧ A1 ∧ A1 ∧ A1 ∧ A1 ∧ Bb ∧ Value.int IntKind.i64 (IntKind.wrap IntKind.i64 ((0 : Int) + (1 : Int))) = AN ∧ True) ∧ AU ∧ ps = ps ∧ st = st ∧ A4 ∧ A6 ∧ A7 ∧ A5 ∧ A2 ∧ A8 ∧ A9 ∧ (Ak t = AH ∧ A2) ∧ True) ∧ (By = true → Ah ∧ Ah ∧ True ∧ (A1 ∧ (AP ∧ AQ ∧ AT ∧ Am ∧ ((false = true → Bs) ∧ (false = false → AA)) ∧ True) ∧ True) ∧ Bl ∧ ∀ (l : Nat), AM ∧ A3 ∧ AF ∧ (∃ (x : A0), (Ai l ∧ A1 ∧ A1 ∧ Value.int IntKind.i64 s1 = At x ∧ nat_lit 0 = nat_lit 0 ∧ Value.int IntKind.i64 (↑(List.length (stepsM st)) : Int) = Ay ∧ BD x) ∧ True ∧ ps = ps ∧ st = st ∧ A4 ∧ A6 ∧ A7 ∧ A5 ∧ A2 ∧ A8 ∧ A9 ∧ (Au ∧ Value.int IntKind.i64 s1 = Al x ∧ True) ∧ Ao ∧ (BO ∧ BU ∧ C0 ∧ C6 ∧ ((Aq = true → Bs) ∧ (Aq = false → AA)) ∧ True) ∧ A3 ∧ (BO ∧ BU ∧ C0 ∧ C6 ∧ (false = Aq ∧ AG) ∧ True) ∧ (Aa ∧ stepsM st = stepsM st) ∧ True) ∧ ∀ (t : A0), (Cc t → Ca t ∧ BP t ∧ (C2 t → Cj t ∧ (AL t ∧ Ac ∧ Ci t) ∧ AF ∧ l = l ∧ True ∧ (AI t → Ah ∧ True ∧ ∃ (x : A0), (Cv l t x ∧ True ∧ ps = ps ∧ st = st ∧ A4 ∧ A6 ∧ A7 ∧ A5 ∧ A2 ∧ A8 ∧ A9 ∧ (Au ∧ Cq t = Al x ∧ True) ∧ Ao ∧ Ac ∧ A3 ∧ Ac ∧ (Aa ∧ stepsM st = stepsM st) ∧ True) ∧ Ae x t) ∧ (AJ t → True ∧ ∃ (x : A0), (Cv l t x ∧ True ∧ ps = ps ∧ st = st ∧ A4 ∧ A6 ∧ A7 ∧ A5 ∧ A2 ∧ A8 ∧ A9 ∧ Cr t x ∧ Ao ∧ Ac ∧ A3 ∧ Ac ∧ (Aa ∧ stepsM st = stepsM st) ∧ True) ∧ Ae x t)) ∧ (C3 t → Ck t ∧ (AL t ∧ Ac ∧ Ci t) ∧ C8 ∧ l = l ∧ True ∧ (AI t → Ah ∧ True ∧ ∃ (x : A0), (Ct l t x ∧ True ∧ ps = ps ∧ st = st ∧ A4 ∧ A6 ∧ A7 ∧ A5 ∧ A2 ∧ A8 ∧ A9 ∧ (Au ∧ Co t = Al x ∧ True) ∧ Ao ∧ Ac ∧ A3 ∧ Ac ∧ (Aa ∧ stepsM st = stepsM st) ∧ True) ∧ Ae x t) ∧ (AJ t → True ∧ ∃ (x : A0), (Ct l t x ∧ True ∧ ps = ps ∧ st = st ∧ A4 ∧ A6 ∧ A7 ∧ A5 ∧ A2 ∧ A8 ∧ A9 ∧ Cr t x ∧ Ao ∧ Ac ∧ A3 ∧ Ac ∧ (Aa ∧ stepsM st = stepsM st) ∧ True) ∧ Ae x t))) ∧ (Cd t → ((A1 ∧ A1 ∧ A1 ∧ A1 ∧ A1 ∧ A1 ∧ A1 ∧ Bb ∧ Value.int IntKind.i64 (IntKind.wrap IntKind.i64 ((1 : Int) + (1 : Int))) = Value.int IntKind.i64 (2 : Int) ∧ True) ∧ AU ∧ ps = ps ∧ st = st ∧ A4 ∧ A6 ∧ A7 ∧ A5 ∧ A2 ∧ A8 ∧ A9 ∧ (Au ∧ Al t = BH ∧ True) ∧ True) ∧ (Bz = true → ((0 : Int) ≤ (2 : Int) ∧ (2 : Int) < (↑(nat_lit 2) : Int)) ∧ False) ∧ (Bz = false → Ag ∧ Ah ∧ True ∧ AX ∧ AC ∧ True ∧ (((Cf ∧ BH = BL ∧ True) ∧ B5) ∧ True) ∧ Az))) ∧ (By = false → Ag ∧ Ah ∧ True ∧ AX ∧ AC ∧ True ∧ (((Cf ∧ BX) ∧ B5) ∧ True) ∧ Az))) ∧ (Bx = false → Ag ∧ Ah ∧ True ∧ AX ∧ AC ∧ True ∧ ((Ch ∧ B5) ∧ True) ∧ Az)) ∧ (C7 = false → Cm ∧ AV ∧ True ∧ ((Be = Be ∧ B6 = B6 ∧ True) ∧ A3) ∧ AC ∧ True ∧ ((Ch ∧ B6 = BI ∧ True) ∧ True) ∧ Az))
    (by kernel_rfl) ?_
  simp only [eq_self, AE.goS]
  have h1 : ps.length < 1000000 := hx.1
  have h2 : st.length < 1000000 := hx.2
  have hw : (worksM ⟨⟨long, rise, change, ps⟩, st⟩).length = st.length := works_len _
  refine ⟨⟨h1, h2⟩, fun h => ?_, fun h => ?_⟩
  · have hn := open_is h
    have hn1 : 0 ≤ n ∧ n ≤ (st.length : Int) := by
      have hn' : inM n 0 (st.length : Int) = true := hn
      unfold inM at hn'
      simp only [Bool.and_eq_true, decide_eq_true_eq] at hn'
      exact hn'
    have e : leftM ((s0, s1), (l0, l1), (g0, g1), full) ⟨⟨long, rise, change, ps⟩, st⟩ n = ((endM ((s0, s1), (l0, l1), (g0, g1), full) ⟨⟨long, rise, change, ps⟩, st⟩ true n.toNat, endM ((s0, s1), (l0, l1), (g0, g1), full) ⟨⟨long, rise, change, ps⟩, st⟩ false n.toNat), 0) := by
      unfold leftM
      exact if_pos h
    have hsl := steps_len st
    rw [e]
    refine ⟨fun _ => ⟨⟨by decide, by decide⟩, ⟨by decide, by decide⟩, ⟨fun _ => trivial, fun h => absurd h (by decide)⟩, fun _ => ⟨h2, ⟨⟨0, Nat.zero_le _⟩, ⟨rfl, by rw [hsl], rfl⟩, by simp only [Nat.zero_min]; rfl, ⟨rfl, rfl, rfl, rfl, fun _ => trivial, fun h => nomatch (show true = false from h)⟩, rfl, rfl, rfl, rfl, rfl⟩, fun t => ⟨fun ht => ?_, fun ht => ?_⟩⟩⟩, fun h => absurd (by decide) h⟩
    · obtain ⟨i, hi⟩ := t
      have hlt : i < st.length := by have h1 : (i : Int) < (st.length : Int) := ht; omega
      have hg' := steps_get st i hlt
      have hsl := steps_len st
      simp only [hg', hsl]
      refine ⟨⟨Int.natCast_nonneg _, ht⟩, hlt, fun hr => ?_, fun hr => ?_⟩
      · have e := now_rest (worksM ⟨⟨long, rise, change, ps⟩, st⟩) (horM ((s0, s1), (l0, l1), (g0, g1), full) true) hr
        refine ⟨⟨Int.natCast_nonneg _, ht⟩, fun h => ⟨⟨by decide, by decide⟩, ⟨i + 1, hlt⟩, ⟨⟨e.symm, sucI i (by omega)⟩, ?_⟩, dec1 hlt⟩, fun h => ⟨⟨i + 1, hlt⟩, ⟨⟨e.symm, sucI i (by omega)⟩, ?_⟩, dec1 hlt⟩⟩
        · have h' : (i : Int) < n := h
          have hm : min (i + 1) n.toNat = i + 1 := by omega
          rw [hm]; exact e.symm
        · have h' : ¬ (i : Int) < n := h
          have hm : min i n.toNat = min (i + 1) n.toNat := by omega
          rw [← hm]
      · have e := now_furrow (worksM ⟨⟨long, rise, change, ps⟩, st⟩) (horM ((s0, s1), (l0, l1), (g0, g1), full) true) hr
        refine ⟨⟨Int.natCast_nonneg _, by rw [hw]; exact ht⟩, fun h => ⟨⟨by decide, by decide⟩, ⟨i + 1, hlt⟩, ⟨⟨e.symm, sucI i (by omega)⟩, ?_⟩, dec1 hlt⟩, fun h => ⟨⟨i + 1, hlt⟩, ⟨⟨e.symm, sucI i (by omega)⟩, ?_⟩, dec1 hlt⟩⟩
        · have h' : (i : Int) < n := h
          have hm : min (i + 1) n.toNat = i + 1 := by omega
          rw [hm]; exact e.symm
        · have h' : ¬ (i : Int) < n := h
          have hm : min i n.toNat = min (i + 1) n.toNat := by omega
          rw [← hm]
    · obtain ⟨i, hi⟩ := t
      have hie : i = st.length := by have h1 : ¬ (i : Int) < (st.length : Int) := ht; omega
      have hm : min i n.toNat = n.toNat := by omega
      refine ⟨⟨by decide, by rw [hm]⟩, fun _ => ⟨⟨by decide, by decide⟩, ⟨by decide, by decide⟩, ⟨fun h => absurd h (by decide), fun _ => trivial⟩, fun _ => ⟨h2, ⟨⟨0, Nat.zero_le _⟩, ⟨rfl, by rw [hsl], rfl⟩, by simp only [Nat.zero_min]; rfl, ⟨rfl, rfl, rfl, rfl, (fun h => nomatch (show false = true from h)), fun _ => trivial⟩, rfl, rfl, rfl, rfl, rfl⟩, fun t => ⟨fun ht => ?_, fun ht => ?_⟩⟩⟩, fun h => absurd (by decide) h⟩
      · obtain ⟨i, hi⟩ := t
        have hlt : i < st.length := by have h1 : (i : Int) < (st.length : Int) := ht; omega
        have hg' := steps_get st i hlt
        have hsl := steps_len st
        simp only [hg', hsl]
        refine ⟨⟨Int.natCast_nonneg _, ht⟩, hlt, fun hr => ?_, fun hr => ?_⟩
        · have e := now_rest (worksM ⟨⟨long, rise, change, ps⟩, st⟩) (horM ((s0, s1), (l0, l1), (g0, g1), full) false) hr
          refine ⟨⟨Int.natCast_nonneg _, ht⟩, fun h => ⟨⟨by decide, by decide⟩, ⟨i + 1, hlt⟩, ⟨⟨e.symm, sucI i (by omega)⟩, ?_⟩, dec1 hlt⟩, fun h => ⟨⟨i + 1, hlt⟩, ⟨⟨e.symm, sucI i (by omega)⟩, ?_⟩, dec1 hlt⟩⟩
          · have h' : (i : Int) < n := h
            have hm : min (i + 1) n.toNat = i + 1 := by omega
            rw [hm]; exact e.symm
          · have h' : ¬ (i : Int) < n := h
            have hm : min i n.toNat = min (i + 1) n.toNat := by omega
            rw [← hm]
        · have e := now_furrow (worksM ⟨⟨long, rise, change, ps⟩, st⟩) (horM ((s0, s1), (l0, l1), (g0, g1), full) false) hr
          refine ⟨⟨Int.natCast_nonneg _, by rw [hw]; exact ht⟩, fun h => ⟨⟨by decide, by decide⟩, ⟨i + 1, hlt⟩, ⟨⟨e.symm, sucI i (by omega)⟩, ?_⟩, dec1 hlt⟩, fun h => ⟨⟨i + 1, hlt⟩, ⟨⟨e.symm, sucI i (by omega)⟩, ?_⟩, dec1 hlt⟩⟩
          · have h' : (i : Int) < n := h
            have hm : min (i + 1) n.toNat = i + 1 := by omega
            rw [hm]; exact e.symm
          · have h' : ¬ (i : Int) < n := h
            have hm : min i n.toNat = min (i + 1) n.toNat := by omega
            rw [← hm]
      · obtain ⟨i, hi⟩ := t
        have hie : i = st.length := by have h1 : ¬ (i : Int) < (st.length : Int) := ht; omega
        have hm : min i n.toNat = n.toNat := by omega
        refine ⟨⟨by decide, by rw [hm]⟩, fun h => absurd h (by decide), fun _ => ⟨⟨by decide, by decide⟩, ⟨by decide, by decide⟩, ⟨rfl, rfl⟩, rfl⟩⟩
  · have e : leftM ((s0, s1), (l0, l1), (g0, g1), full) ⟨⟨long, rise, change, ps⟩, st⟩ n = ((0, 0), openErrM ((s0, s1), (l0, l1), (g0, g1), full) ⟨⟨long, rise, change, ps⟩, st⟩ (inM n 0 (st.length : Int))) := by
      unfold leftM
      exact if_neg (by rw [h]; decide)
    rw [e]
    exact ⟨⟨rfl, rfl⟩, rfl⟩

theorem left_sound : Sound Tryz.prog 12 leftS.con := FSpec.sound _ (enter_of Tryz.func12 (by kernel_rfl) (by kernel_rfl)) left_ok
end AE.Team

namespace AE.Team
open Go AE Go.Proofs AE.Soil

def tspanS : FSpec UU where
  X := Span
  pick := fun args _ => match args with
    | [a, b] => match avInt a, avInt b with
      | some a, some b => some (a, b)
      | _, _ => none
    | _ => none
  args := fun (x : Span) => [.i x.1, .i x.2]
  H := fun _ => []
  R := fun (x : Span) => .val ⟨vSpan x, [], [], []⟩
theorem tspan_ok : ∀ x, tspanS.pre x → FunOk Tryz.prog 38 (tspanS.args x) (tspanS.H x) (tspanS.R x) := by
  rintro ⟨a, b⟩ _
  refine fun_of (T := []) (L := fun _ => none) (hs := fun _ => []) hmix .nil Tryz.func38 (by kernel_rfl) (by kernel_rfl) ?_
  refine Eq.mp (α :=
      True ∧ ((Value.int IntKind.i64 a = Value.int IntKind.i64 a ∧ Value.int IntKind.i64 b = Value.int IntKind.i64 b ∧ True) ∧ True) ∧ True ∧ True)
    (by kernel_rfl) ?_
  simp

theorem tspan_sound : Sound Tryz.prog 38 tspanS.con := FSpec.sound _ (enter_of Tryz.func38 (by kernel_rfl) (by kernel_rfl)) tspan_ok
abbrev pA : PitT := (2, (300, 320), (10, 12), (4, 6), 4, 5)
abbrev pB : PitT := (8, (500, 520), (5, 6), (3, 5), 9, 11)
def nullS (R : OOut UU) : FSpec UU where
  X := Unit
  pick := fun args _ => match args with
    | [] => some ()
    | _ => none
  args := fun _ => []
  H := fun _ => []
  R := fun _ => R
def groundTS : FSpec UU := nullS (.val ⟨.agg [.i 10, .i 50, .i 2, .gs 0 0], [], [], [.row .pit [pA, pB] 151]⟩)
def TexSpan : Tab UU := [(38, tspanS.con)]
theorem TexSpan_ok : TexSpan.Sound Tryz.prog := .cons tspan_sound .nil
theorem groundT_ok : ∀ x, groundTS.pre x → FunOk Tryz.prog 83 (groundTS.args x) (groundTS.H x) (groundTS.R x) := by
  intro x _
  refine fun_of (T := TexSpan) (L := fun _ => none) (hs := fun _ => []) hmix TexSpan_ok Tryz.func83 (by kernel_rfl) (by kernel_rfl) ?_
  refine Eq.mp (α :=
      let A0 := Value.int IntKind.i64 (5 : Int); let A1 := Value.int IntKind.i64 (3 : Int); let A2 := Value.int IntKind.i64 (4 : Int); let A3 := Value.int IntKind.i64 (6 : Int); let A4 := Value.int IntKind.i64 (2 : Int); let A5 := Value.int IntKind.i64 (9 : Int); let A6 := Value.int IntKind.i64 (10 : Int); let A7 := Value.int IntKind.i64 (11 : Int); let A8 := Value.int IntKind.i64 (12 : Int); let Ae := Value.int IntKind.i64 (50 : Int); let A9 := Value.int IntKind.i64 (500 : Int); let Aa := Value.int IntKind.i64 (320 : Int); let Ab := Value.int IntKind.i64 (520 : Int); let Ac := Value.int IntKind.i64 (300 : Int); let Af := AV.v A3; let Ag := AV.v A2; let Ah := AV.v A5; let Ai := AV.v A4; let Aj := AV.v A0; let Ak := AV.v A1; let Al := AV.v (Value.int IntKind.i64 (8 : Int)); let Am := AV.v A8; let An := AV.v A7; let Ao := AV.v A6; let Ap := AV.v A9; let Aq := AV.v Ab; let Ar := AV.v Ac; let As := AV.v Aa; let At := A2 = A2; let Au := A0 = A0; let Av := A6 = A6; let Aw := Af = Af; let Ax := Au ∧ True; let Ad := Aj = Aj; let Ay := Ag = Ag; let Az := (A3 = A3) ∧ True; let AA : List (Int × Span × Span × Span × Span) := [((2 : Int), (((((300 : Int), (320 : Int))), (((((10 : Int), (12 : Int))), (((((4 : Int), (6 : Int))), (((4 : Int), (5 : Int)))))))))), ((8 : Int), (((((500 : Int), (520 : Int))), (((((5 : Int), (6 : Int))), (((((3 : Int), (5 : Int))), (((9 : Int), (11 : Int))))))))))]; True ∧ (Ac = Ac ∧ Aa = Aa ∧ True) ∧ True ∧ True ∧ (Av ∧ A8 = A8 ∧ True) ∧ True ∧ True ∧ (At ∧ Az) ∧ True ∧ True ∧ (At ∧ Ax) ∧ True ∧ True ∧ (A9 = A9 ∧ Ab = Ab ∧ True) ∧ True ∧ True ∧ (Au ∧ Az) ∧ True ∧ True ∧ (A1 = A1 ∧ Ax) ∧ True ∧ True ∧ (A5 = A5 ∧ A7 = A7 ∧ True) ∧ True ∧ (nat_lit 2 = nat_lit 2 ∧ Ai = Ai ∧ Ar = Ar ∧ As = As ∧ Ao = Ao ∧ Am = Am ∧ Ay ∧ Aw ∧ Ay ∧ Ad ∧ Al = Al ∧ Ap = Ap ∧ Aq = Aq ∧ Ad ∧ Aw ∧ Ak = Ak ∧ Ad ∧ Ah = Ah ∧ An = An ∧ True) ∧ True ∧ ((Av ∧ Ae = Ae ∧ A4 = A4 ∧ nat_lit 0 = nat_lit 0 ∧ True) ∧ True) ∧ True ∧ (nat_lit 151 = (151 : TypeId) ∧ AA = AA) ∧ True)
    (by kernel_rfl) ?_
  simp

theorem groundT_sound : Sound Tryz.prog 83 groundTS.con := FSpec.sound _ (enter_of Tryz.func83 (by kernel_rfl) (by kernel_rfl)) groundT_ok
def stepsTM (b : Bool) : List StepT := match b with
  | true => [(4, 6, 0), (0, 0, 2), (5, 5, 0)]
  | false => [(4, 6, 0), (5, 5, 0)]
def plotTS : FSpec UU where
  X := Bool
  pick := fun args _ => match args with
    | [a] => avBool a
    | _ => none
  args := fun b => [.v (.bool b)]
  H := fun _ => []
  R := fun b => .val ⟨.agg [.i 10, .i 50, .i 2, .gs 0 0, .gs 1 0], [], [], [.row .pit [pA, pB] 151, .row .tstep (stepsTM b) 92]⟩
def TexGround : Tab UU := [(83, groundTS.con)]
theorem TexGround_ok : TexGround.Sound Tryz.prog := .cons groundT_sound .nil
theorem plotT_ok1 : FunOk Tryz.prog 35 (plotTS.args true) (plotTS.H true) (plotTS.R true) := by
  refine fun_of (T := TexGround) (L := fun _ => none) (hs := fun _ => []) hmix TexGround_ok Tryz.func35 (by kernel_rfl) (by kernel_rfl) ?_
  refine Eq.mp (α :=
      let A2 := nat_lit 2 ≤ nat_lit 1099511627776; let A3 := (151 : TypeId); let A4 := nat_lit 92 = ((92 : TypeId)); let A0 := Value.int IntKind.i64 (2 : Int); let A5 := Value.int IntKind.i64 (10 : Int); let A6 := Value.int IntKind.i64 (50 : Int); let A7 := AV.v (Value.int IntKind.i64 (4 : Int)); let A8 := AV.v (Value.int IntKind.i64 (0 : Int)); let A9 := AV.v (Value.int IntKind.i64 (6 : Int)); let Aa := AV.v (Value.int IntKind.i64 (5 : Int)); let Ab := AV.v A0; let Ac := A3 = A3; let Ad := Aa = Aa; let A1 := A8 = A8; let Ae := A1 ∧ True; let Af := ((4 : Int), (((6 : Int), (0 : Int)))); let Ag : List (Int × Int × Int) := [(((5 : Int), (((5 : Int), (0 : Int)))))]; let Ah := nat_lit 1 = nat_lit 1 ∧ Ad ∧ Ad ∧ Ae; let Ai := ((A5 = A5) ∧ (A6 = A6) ∧ (A0 = A0) ∧ nat_lit 0 = nat_lit 0 ∧ nat_lit 0 = nat_lit 0 ∧ True) ∧ True; let Aj : List (Int × Span × Span × Span × Span) := [((2 : Int), (((((300 : Int), (320 : Int))), (((((10 : Int), (12 : Int))), (((((4 : Int), (6 : Int))), (((4 : Int), (5 : Int)))))))))), (((8 : Int), (((((500 : Int), (520 : Int))), (((((5 : Int), (6 : Int))), (((((3 : Int), (5 : Int))), (((9 : Int), (11 : Int)))))))))))]; let Ak := Aj = Aj; True ∧ True ∧ True ∧ (nat_lit 1 = nat_lit 1 ∧ A7 = A7 ∧ A9 = A9 ∧ Ae) ∧ (true = true → (nat_lit 1 = nat_lit 1 ∧ A1 ∧ A1 ∧ Ab = Ab ∧ True) ∧ nat_lit 1 ≤ nat_lit 1 ∧ A2 ∧ Ah ∧ nat_lit 1 ≤ nat_lit 1 ∧ nat_lit 3 ≤ nat_lit 1099511627776 ∧ True ∧ Ai ∧ True ∧ (Ac ∧ Ak) ∧ (A4 ∧ Af :: ((0 : Int), (0 : Int), (2 : Int)) :: Ag = stepsTM true) ∧ True) ∧ (true = false → Ah ∧ nat_lit 1 ≤ nat_lit 1 ∧ A2 ∧ True ∧ Ai ∧ True ∧ (Ac ∧ Ak) ∧ (A4 ∧ Af :: Ag = stepsTM true) ∧ True))
    (by kernel_rfl) ?_
  simp [stepsTM]

theorem plotT_ok2 : FunOk Tryz.prog 35 (plotTS.args false) (plotTS.H false) (plotTS.R false) := by
  refine fun_of (T := TexGround) (L := fun _ => none) (hs := fun _ => []) hmix TexGround_ok Tryz.func35 (by kernel_rfl) (by kernel_rfl) ?_
  refine Eq.mp (α :=
      let A2 := nat_lit 2 ≤ nat_lit 1099511627776; let A3 := (151 : TypeId); let A4 := nat_lit 92 = ((92 : TypeId)); let A0 := Value.int IntKind.i64 (2 : Int); let A5 := Value.int IntKind.i64 (10 : Int); let A6 := Value.int IntKind.i64 (50 : Int); let A7 := AV.v (Value.int IntKind.i64 (4 : Int)); let A8 := AV.v (Value.int IntKind.i64 (0 : Int)); let A9 := AV.v (Value.int IntKind.i64 (6 : Int)); let Aa := AV.v (Value.int IntKind.i64 (5 : Int)); let Ab := AV.v A0; let Ac := A3 = A3; let Ad := Aa = Aa; let A1 := A8 = A8; let Ae := A1 ∧ True; let Af := ((4 : Int), (((6 : Int), (0 : Int)))); let Ag : List (Int × Int × Int) := [(((5 : Int), (((5 : Int), (0 : Int)))))]; let Ah := nat_lit 1 = nat_lit 1 ∧ Ad ∧ Ad ∧ Ae; let Ai := ((A5 = A5) ∧ (A6 = A6) ∧ (A0 = A0) ∧ nat_lit 0 = nat_lit 0 ∧ nat_lit 0 = nat_lit 0 ∧ True) ∧ True; let Aj : List (Int × Span × Span × Span × Span) := [((2 : Int), (((((300 : Int), (320 : Int))), (((((10 : Int), (12 : Int))), (((((4 : Int), (6 : Int))), (((4 : Int), (5 : Int)))))))))), (((8 : Int), (((((500 : Int), (520 : Int))), (((((5 : Int), (6 : Int))), (((((3 : Int), (5 : Int))), (((9 : Int), (11 : Int)))))))))))]; let Ak := Aj = Aj; True ∧ True ∧ True ∧ (nat_lit 1 = nat_lit 1 ∧ A7 = A7 ∧ A9 = A9 ∧ Ae) ∧ (false = true → (nat_lit 1 = nat_lit 1 ∧ A1 ∧ A1 ∧ Ab = Ab ∧ True) ∧ nat_lit 1 ≤ nat_lit 1 ∧ A2 ∧ Ah ∧ nat_lit 1 ≤ nat_lit 1 ∧ nat_lit 3 ≤ nat_lit 1099511627776 ∧ True ∧ Ai ∧ True ∧ (Ac ∧ Ak) ∧ (A4 ∧ Af :: ((0 : Int), (0 : Int), (2 : Int)) :: Ag = stepsTM false) ∧ True) ∧ (false = false → Ah ∧ nat_lit 1 ≤ nat_lit 1 ∧ A2 ∧ True ∧ Ai ∧ True ∧ (Ac ∧ Ak) ∧ (A4 ∧ Af :: Ag = stepsTM false) ∧ True))
    (by kernel_rfl) ?_
  simp [stepsTM]

theorem plotT_sound : Sound Tryz.prog 35 plotTS.con := FSpec.sound _ (enter_of Tryz.func35 (by kernel_rfl) (by kernel_rfl)) fun x _ => match x with
  | true => plotT_ok1
  | false => plotT_ok2
def otherTS : FSpec UU := nullS (.val ⟨.agg [.i 10, .i 50, .i 2, .gs 0 0, .gs 1 0], [], [], [.row .pit [pA, pB] 151, .row .tstep [(5, 5, 0)] 92]⟩)
theorem otherT_ok : ∀ x, otherTS.pre x → FunOk Tryz.prog 37 (otherTS.args x) (otherTS.H x) (otherTS.R x) := by
  intro x _
  refine fun_of (T := TexGround) (L := fun _ => none) (hs := fun _ => []) hmix TexGround_ok Tryz.func37 (by kernel_rfl) (by kernel_rfl) ?_
  refine Eq.mp (α :=
      let A0 := (151 : TypeId); let A1 := Value.int IntKind.i64 (2 : Int); let A2 := Value.int IntKind.i64 (10 : Int); let A3 := Value.int IntKind.i64 (50 : Int); let A4 := AV.v (Value.int IntKind.i64 (5 : Int)); let A5 := AV.v (Value.int IntKind.i64 (0 : Int)); let A6 := A4 = A4; let A7 : List (Int × Int × Int) := [(((5 : Int), (((5 : Int), (0 : Int)))))]; let A8 : List (Int × Span × Span × Span × Span) := [((2 : Int), (((((300 : Int), (320 : Int))), (((((10 : Int), (12 : Int))), (((((4 : Int), (6 : Int))), (((4 : Int), (5 : Int)))))))))), ((8 : Int), (((((500 : Int), (520 : Int))), (((((5 : Int), (6 : Int))), (((((3 : Int), (5 : Int))), (((9 : Int), (11 : Int))))))))))]; True ∧ True ∧ True ∧ (nat_lit 1 = nat_lit 1 ∧ A6 ∧ A6 ∧ A5 = A5 ∧ True) ∧ True ∧ ((A2 = A2 ∧ A3 = A3 ∧ A1 = A1 ∧ nat_lit 0 = nat_lit 0 ∧ nat_lit 0 = nat_lit 0 ∧ True) ∧ True) ∧ True ∧ (A0 = A0 ∧ A8 = A8) ∧ (nat_lit 92 = (92 : TypeId) ∧ A7 = A7) ∧ True)
    (by kernel_rfl) ?_
  simp

theorem otherT_sound : Sound Tryz.prog 37 otherTS.con := FSpec.sound _ (enter_of Tryz.func37 (by kernel_rfl) (by kernel_rfl)) otherT_ok
def horsesTS : FSpec UU := nullS (.val ⟨.agg [.i 100, .i 110, .i 5, .i 6, .i 10, .i 12, .i 120], [], [], []⟩)
def weakTS : FSpec UU := nullS (.val ⟨.agg [.i 90, .i 95, .i 5, .i 6, .i 10, .i 12, .i 120], [], [], []⟩)
theorem horsesT_ok : ∀ x, horsesTS.pre x → FunOk Tryz.prog 36 (horsesTS.args x) (horsesTS.H x) (horsesTS.R x) := by
  intro x _
  refine fun_of (T := TexSpan) (L := fun _ => none) (hs := fun _ => []) hmix TexSpan_ok Tryz.func36 (by kernel_rfl) (by kernel_rfl) ?_
  refine Eq.mp (α :=
      let A3 := Value.int IntKind.i64 (6 : Int); let A4 := Value.int IntKind.i64 (5 : Int); let A5 := Value.int IntKind.i64 (10 : Int); let A0 := Value.int IntKind.i64 (12 : Int); let A6 := Value.int IntKind.i64 (120 : Int); let A1 := Value.int IntKind.i64 (100 : Int); let A2 := Value.int IntKind.i64 (110 : Int); let A7 := A3 = A3; let A8 := A4 = A4; let A9 := A5 = A5; True ∧ (A1 = A1 ∧ A2 = A2 ∧ True) ∧ True ∧ True ∧ (A8 ∧ A7 ∧ True) ∧ True ∧ True ∧ (A9 ∧ A0 = A0 ∧ True) ∧ True ∧ True ∧ ((A1 = A1 ∧ A2 = A2 ∧ A8 ∧ A7 ∧ A9 ∧ A0 = A0 ∧ A6 = A6 ∧ True) ∧ True) ∧ True ∧ True)
    (by kernel_rfl) ?_
  simp

theorem horsesT_sound : Sound Tryz.prog 36 horsesTS.con := FSpec.sound _ (enter_of Tryz.func36 (by kernel_rfl) (by kernel_rfl)) horsesT_ok
def TexWeak : Tab UU := [(38, tspanS.con), (36, horsesTS.con)]
theorem TexWeak_ok : TexWeak.Sound Tryz.prog := .cons tspan_sound (.cons horsesT_sound .nil)
theorem weakT_ok : ∀ x, weakTS.pre x → FunOk Tryz.prog 34 (weakTS.args x) (weakTS.H x) (weakTS.R x) := by
  intro x _
  refine fun_of (T := TexWeak) (L := fun _ => none) (hs := fun _ => []) hmix TexWeak_ok Tryz.func34 (by kernel_rfl) (by kernel_rfl) ?_
  refine Eq.mp (α :=
      let A2 := Value.int IntKind.i64 (6 : Int); let A3 := Value.int IntKind.i64 (5 : Int); let A0 := Value.int IntKind.i64 (90 : Int); let A1 := Value.int IntKind.i64 (95 : Int); let A4 := Value.int IntKind.i64 (10 : Int); let A5 := Value.int IntKind.i64 (12 : Int); let A6 := Value.int IntKind.i64 (120 : Int); True ∧ True ∧ True ∧ True ∧ (A0 = A0 ∧ A1 = A1 ∧ True) ∧ True ∧ True ∧ ((A0 = A0 ∧ A1 = A1 ∧ A3 = A3 ∧ A2 = A2 ∧ A4 = A4 ∧ A5 = A5 ∧ A6 = A6 ∧ True) ∧ True) ∧ True ∧ True)
    (by kernel_rfl) ?_
  simp

theorem weakT_sound : Sound Tryz.prog 34 weakTS.con := FSpec.sound _ (enter_of Tryz.func34 (by kernel_rfl) (by kernel_rfl)) weakT_ok
def sameM (a b : List Int) : Bool := decide (a = b)
def intsL (a b : List Int) : LSpec UU where
  T := { i : Nat // i ≤ a.length ∧ ∀ j, j < i → a.getD j 0 = b.getD j 0 }
  fr := fun i => [(0, .sl 0 0 0 a.length), (1, .sl 1 0 0 b.length), (4, .b false), (5, .i i.1)]
  H := fun _ => [.one (.ro .int a), .one (.ro .int b)]
  mu := fun i => a.length - i.1
def intsS : FSpec UU where
  X := List Int × List Int
  pick := fun args H => match args with
    | [a, b] => match sliceAt .int H a, sliceAt .int H b with
      | some a, some b => some (a, b)
      | _, _ => none
    | _ => none
  args := fun x => [.sl 0 0 0 x.1.length, .sl 1 0 0 x.2.length]
  H := fun x => [.one (.ro .int x.1), .one (.ro .int x.2)]
  R := fun x => .val ⟨.b (sameM x.1 x.2), [], [], []⟩
  pre := fun x => x.1.length < 1000000
theorem ints_ok : ∀ x, intsS.pre x → FunOk Tryz.prog 20 (intsS.args x) (intsS.H x) (intsS.R x) := by
  rintro ⟨a, b⟩ hx
  refine fun_of (T := []) (L := fun _ => some (.inv (intsL a b))) (hs := fun _ => []) hmix .nil Tryz.func20 (by kernel_rfl) (by kernel_rfl) ?_
  refine Eq.mp (α :=
      let A5 := (↑(List.length b) : Int); let A4 := (↑(List.length a) : Int); let A6 := Value.bool false = Value.bool false; let A7 := nat_lit 0 = nat_lit 0 ∧ nat_lit 0 = nat_lit 0 ∧ List.length a = List.length a; let A8 := nat_lit 0 = nat_lit 0 ∧ nat_lit 0 = nat_lit 0 ∧ List.length b = List.length b; let A2 := True ∧ a = a ∧ b = b ∧ True; let A9 := A4 != A5; let Ah := fun (i : Nat) => ∀ (j : Nat), (j < i → ((List.getD a j (0 : Int)) = (List.getD b j (0 : Int)))); let Aa := True ∧ ((Value.bool (sameM a b) = Value.bool false) ∧ True) ∧ A2; let A0 : Type := { i : Nat // ((i ≤ List.length a) ∧ Ah i) }; let Ab := fun (x : A0) => Subtype.val x; let A1 := fun (x : A0) => (↑(Ab x) : Int); let Ac := fun (x : A0) => Value.int IntKind.i64 (A1 x); let Ad := fun (x : A0) => List.length a - Ab x; let Ae := fun (t : A0) => (0 : Int) ≤ A1 t; let A3 := fun (t : A0) => nat_lit 0 + (Int.toNat (A1 t)); let Af := fun (t : A0) => decide (A1 t < A4); let Ag := fun (t : A0) => List.getD a (A3 t) (0 : Int) != List.getD b (A3 t) (0 : Int); (A9 = true → Aa) ∧ (A9 = false → (∃ (x : A0), (A7 ∧ A8 ∧ A6 ∧ Value.int IntKind.i64 (0 : Int) = Ac x ∧ True) ∧ A2) ∧ ∀ (t : A0), (Af t = true → (Ae t ∧ A1 t < A4) ∧ A3 t < List.length a ∧ (Ae t ∧ A1 t < A5) ∧ A3 t < List.length b ∧ (Ag t = true → Aa) ∧ (Ag t = false → True ∧ ∃ (x : A0), ((A7 ∧ A8 ∧ A6 ∧ Value.int IntKind.i64 (IntKind.wrap IntKind.i64 (A1 t + (1 : Int))) = Ac x ∧ True) ∧ A2) ∧ Ad x < Ad t)) ∧ (Af t = false → True ∧ (Value.bool (sameM a b) = Value.bool true ∧ True) ∧ A2)))
    (by kernel_rfl) ?_
  simp only [eq_self, AE.goS]
  have hx' : a.length < 1000000 := hx
  refine ⟨fun h => ?_, fun h => ⟨⟨⟨0, Nat.zero_le _, fun j hj => absurd hj (Nat.not_lt_zero j)⟩, rfl⟩, fun t => ⟨fun ht => ?_, fun ht => ?_⟩⟩⟩
  · have h' : ¬ (a.length : Int) = (b.length : Int) := by simpa [bne] using h
    exact decide_eq_false fun e => h' (by rw [e])
  · obtain ⟨i, hi, h0⟩ := t
    have hlt : i < a.length := by have h1 : (i : Int) < (a.length : Int) := ht; omega
    have hl : (a.length : Int) = (b.length : Int) := by simpa [bne] using h
    refine ⟨⟨Int.natCast_nonneg _, ht⟩, hlt, ⟨Int.natCast_nonneg _, by rw [← hl]; exact ht⟩, by show i < b.length; omega, fun hd => ?_, fun hd => ?_⟩
    · have hd' : ¬ a.getD i 0 = b.getD i 0 := by simpa [bne] using hd
      exact decide_eq_false fun e => hd' (by rw [e])
    · have hd' : a.getD i 0 = b.getD i 0 := by simpa [bne] using hd
      exact ⟨⟨i + 1, hlt, below_succ h0 hd'⟩, sucI i (by omega), dec1 hlt⟩
  · obtain ⟨i, hi, h0⟩ := t
    have hie : i = a.length := by have h1 : ¬ (i : Int) < (a.length : Int) := ht; omega
    have hl : (a.length : Int) = (b.length : Int) := by simpa [bne] using h
    refine decide_eq_true (List.ext_getElem (by omega) fun j h1 h2 => ?_)
    have := h0 j (by omega)
    simpa [List.getD_eq_getElem?_getD, h1, h2] using this

theorem ints_sound : Sound Tryz.prog 20 intsS.con := FSpec.sound _ (enter_of Tryz.func20 (by kernel_rfl) (by kernel_rfl)) ints_ok
end AE.Team

namespace AE.Team
open Go AE Go.Proofs AE.Soil

theorem v1 : comesM ((90, 95), (5, 6), (10, 12), 120) ⟨⟨10, 50, 2, [pA, pB]⟩, [(4, 6, 0), (0, 0, 2), (5, 5, 0)]⟩ = (1, 0) := by decide +kernel
theorem v2 : leftM ((100, 110), (5, 6), (10, 12), 120) ⟨⟨10, 50, 2, [pA, pB]⟩, [(4, 6, 0), (0, 0, 2), (5, 5, 0)]⟩ 3 = ((6, 63), 0) := by decide +kernel
theorem v3 : failsM ((90, 95), (5, 6), (10, 12), 120) ⟨⟨10, 50, 2, [pA, pB]⟩, [(4, 6, 0), (0, 0, 2), (5, 5, 0)]⟩ = (2, false, 0) := by decide +kernel
theorem v4 : restsM ((100, 110), (5, 6), (10, 12), 120) ⟨⟨10, 50, 2, [pA, pB]⟩, [(4, 6, 0), (5, 5, 0)]⟩ = ([0, 2], 0) := by decide +kernel
theorem v5 : leastM ((100, 110), (5, 6), (10, 12), 120) ⟨⟨10, 50, 2, [pA, pB]⟩, [(4, 6, 0), (0, 0, 2), (5, 5, 0)]⟩ = (94, 0) := by decide +kernel
theorem v6 : sendOM [((90, 95), (5, 6), (10, 12), 120), ((100, 110), (5, 6), (10, 12), 120)] (⟨⟨10, 50, 2, [pA, pB]⟩, [(4, 6, 0), (0, 0, 2), (5, 5, 0)]⟩, some ⟨⟨10, 50, 2, [pA, pB]⟩, [(5, 5, 0)]⟩) = ([1, 0], 0) := by decide +kernel
theorem v7 : shortM [((90, 95), (5, 6), (10, 12), 120)] (⟨⟨10, 50, 2, [pA, pB]⟩, [(5, 5, 0)]⟩, some ⟨⟨10, 50, 2, [pA, pB]⟩, [(4, 6, 0), (0, 0, 2), (5, 5, 0)]⟩) = (2, 0) := by decide +kernel
theorem w1 : comesM ((100, 110), (5, 6), (10, 12), 120) ⟨⟨10, 50, 2, [pA, pB]⟩, [(4, 6, 0), (0, 0, 2), (5, 5, 0)]⟩ = (2, 0) := by decide +kernel
theorem w2 : leftM ((100, 110), (5, 6), (10, 12), 120) ⟨⟨10, 50, 2, [pA, pB]⟩, [(4, 6, 0), (0, 0, 2), (5, 5, 0)]⟩ 0 = ((100, 110), 0) := by decide +kernel
theorem w3 : leftM ((100, 110), (5, 6), (10, 12), 120) ⟨⟨10, 50, 2, [pA, pB]⟩, [(4, 6, 0), (0, 0, 2), (5, 5, 0)]⟩ 1 = ((15, 57), 0) := by decide +kernel
theorem w4 : leftM ((100, 110), (5, 6), (10, 12), 120) ⟨⟨10, 50, 2, [pA, pB]⟩, [(4, 6, 0), (0, 0, 2), (5, 5, 0)]⟩ 2 = ((35, 81), 0) := by decide +kernel
def aliveS : FSpec UU := nullS (.val ⟨.b true, [], [], []⟩)
def Talive : Tab UU := [(34, weakTS.con), (36, horsesTS.con), (35, plotTS.con), (37, otherTS.con), (38, tspanS.con), (20, intsS.con), (10, comesS.con), (12, leftS.con), (14, failsS.con), (16, restsS.con), (18, leastS.con), (21, sendOS.con), (23, shortS.con)]
theorem Talive_ok : Talive.Sound Tryz.prog := .cons weakT_sound (.cons horsesT_sound (.cons plotT_sound (.cons otherT_sound (.cons tspan_sound (.cons ints_sound (.cons comes_sound (.cons left_sound (.cons fails_sound (.cons rests_sound (.cons least_sound (.cons sendO_sound (.cons short_sound .nil))))))))))))
theorem alive_ok : ∀ x, aliveS.pre x → FunOk Tryz.prog 9 (aliveS.args x) (aliveS.H x) (aliveS.R x) := by
  intro x _
  refine fun_of (T := Talive) (L := fun _ => none) (hs := fun _ => []) hmix Talive_ok Tryz.func9 (by kernel_rfl) (by kernel_rfl) ?_
  refine Eq.mp (α :=
      let A0 := nat_lit 0 = nat_lit 0 ∧ nat_lit 0 = nat_lit 0 ∧ nat_lit 2 = nat_lit 2; let A6 := nat_lit 0 = nat_lit 0 ∧ nat_lit 0 = nat_lit 0 ∧ nat_lit 3 = nat_lit 3; let Ad := nat_lit 0 = nat_lit 0 ∧ nat_lit 0 = nat_lit 0 ∧ nat_lit 1 = nat_lit 1; let Ak := Value.int IntKind.i64 (2 : Int); let Al := Value.int IntKind.i64 (5 : Int); let Am := Value.int IntKind.i64 (6 : Int); let AI := Value.int IntKind.i64 (3 : Int); let An := Value.int IntKind.i64 (90 : Int); let Ao := Value.int IntKind.i64 (10 : Int); let Ap := Value.int IntKind.i64 (12 : Int); let Aq := Value.int IntKind.i64 (50 : Int); let AJ := Value.int IntKind.i64 (63 : Int); let Ar := Value.int IntKind.i64 (95 : Int); let As := Value.int IntKind.i64 (100 : Int); let At := Value.int IntKind.i64 (120 : Int); let Au := Value.int IntKind.i64 (110 : Int); let AK := AV.v Am; let AL := AV.v Ak; let AM := AV.v (Value.int IntKind.i64 (0 : Int)); let AN := AV.v (Value.int IntKind.i64 (1 : Int)); let AO := AV.v Al; let AP := AV.v An; let AQ := AV.v Ao; let AR := AV.v Ap; let AS := AV.v Aq; let AT := AV.v Ar; let A7 := Value.bool true = Value.bool true ∧ True; let AU := AV.v Au; let AW := AV.v As; let AX := AV.v At; let AY := nat_lit 2 < nat_lit 1000000 ∧ nat_lit 1 < nat_lit 1000000; let A9 := nat_lit 2 < nat_lit 1000000 ∧ nat_lit 3 < nat_lit 1000000; let AZ := nat_lit 9 = nat_lit 9 ∧ A0; let B0 := ((5 : Int), (6 : Int)); let B1 := ((10 : Int), (12 : Int)); let A1 := True ∧ (Value.bool true = Value.bool false ∧ True) ∧ True ∧ True; let B2 := Am = Am; let A3 := Ak = Ak; let B3 := (0 : Int) == (0 : Int); let A4 := Aq = Aq; let A2 := Ao = Ao; let A8 := AL = AL; let B4 := AO = AO; let B5 := AM = AM; let B6 := AK = AK; let Aa := AS = AS; let B7 := AT = AT; let B8 := AP = AP; let A5 := AQ = AQ; let B9 := AR = AR; let Ba := AX = AX; let Bb := ((5 : Int), (((5 : Int), (0 : Int)))); let Bc := ((4 : Int), (((6 : Int), (0 : Int)))); let Bd := (((25 : Nat) = (25 : Nat)) ∧ A0) ∧ True; let Be := (((24 : Nat) = (24 : Nat)) ∧ A0) ∧ True; let Ai : List Int := (1 : Int) :: ([(0 : Int)] : List Int); let Av : List Int := (0 : Int) :: ([(2 : Int)] : List Int); let Aw : List Int := ((↑(1 : Nat) : Int)) :: ([((↑(0 : Nat) : Int))] : List Int); let Bf := nat_lit 1 < nat_lit 1000000 ∧ AY ∧ A9; let Bg : List StepT := [Bb]; let Bh := sameM [] Ai; let Ax : List (Int × Int × Int) := [Bb]; let Bi := B2 ∧ (AJ = AJ) ∧ True; let Bj := (B0, ((B1, (120 : Int)))); let Bk := (((12 : Nat) = (12 : Nat)) ∧ A0) ∧ ((((17 : Nat) = (17 : Nat)) ∧ A0) ∧ True); let Bl := nat_lit 2 = nat_lit 2 ∧ B5 ∧ A8 ∧ True; let Bm := nat_lit 2 = nat_lit 2 ∧ (AN = AN) ∧ B5 ∧ True; let Ab : List StepT := Bc :: Bg; let Bn := sameM Aw Ai; let Bo := (Ai = Ai) ∧ True; let Bp := (Av = Av) ∧ True; let Aj := ((((90 : Int), (95 : Int))), Bj); let Ae := ((((100 : Int), (110 : Int))), Bj); let Af := worstM Ae; let Bq := Ax = Ax; let Ay := Prod.fst Af; let Az : List (Span × Span × Span × Int) := [Aj]; let AA : List StepT := Bc :: ((((0 : Int), (((0 : Int), (2 : Int))))) :: Bg : List StepT); let Br := (Al = Al) ∧ B2 ∧ A2 ∧ (Ap = Ap) ∧ (At = At) ∧ True; let Bs := B4 ∧ B6 ∧ A5 ∧ B9 ∧ Ba ∧ True; let Bt := (An = An) ∧ (Ar = Ar) ∧ Br; let AB := (As = As) ∧ (Au = Au) ∧ Br; let AC : List (Span × Span × Span × Int) := Aj :: ([Ae] : List (Span × Span × Span × Int)); let Bu := Az = Az; let Bv := nat_lit 1 = nat_lit 1 ∧ B8 ∧ B7 ∧ Bs; let Bw := AA = AA; let AD : List (Int × Span × Span × Span × Span) := (((2 : Int), (((((300 : Int), (320 : Int))), ((B1, (((((4 : Int), (6 : Int))), (((4 : Int), (5 : Int))))))))))) :: ([(((8 : Int), (((((500 : Int), (520 : Int))), ((B0, (((((3 : Int), (5 : Int))), (((9 : Int), (11 : Int)))))))))))] : List (Int × Span × Span × Span × Span)); let AE := GroundT.mk (10 : Int) (50 : Int) (2 : Int) AD; let Bx := PlotT.mk AE Ax; let By := PlotT.mk AE Ab; let AF : List Span := worksM By; let Ac := PlotT.mk AE AA; let Bz := (Prod.snd (restsM Ae By)) == (0 : Int); let BA := Bz = true; let BB := failsM Aj Ac; let BC := comesM Aj Ac; let BD := leastM Ae Ac; let BE := Prod.snd BB; let BF := leftM Ae Ac (3 : Int); let BG := Prod.fst BF; let BH := !(Prod.fst BE); let BI := (Bz = false) → A1; let BJ := BH = true; let BK := (Prod.fst BC) == (1 : Int); let BL := (Prod.snd BC) == (0 : Int); let BM := (Prod.snd BD) == (0 : Int); let BN := (Prod.fst BD) == (94 : Int); let BO := (Prod.fst BB) == (2 : Int); let BP := BK = true; let BQ := BL = true; let BR := BM = true; let BS := BN = true; let BT := BO = true; let BU := (Prod.snd BE) == (0 : Int); let BV := (Prod.snd BF) == (0 : Int); let BW := BU = true; let BX := BV = true; let BY := (BH = false) → A1; let BZ := (BL = false) → A1; let C0 := (BK = false) → A1; let Ag := AD = AD; let C1 := (BM = false) → A1; let C2 := (BN = false) → A1; let C3 := (BO = false) → A1; let C4 := (BU = false) → A1; let C5 := (BV = false) → A1; let C6 := Prod.fst (tryM Ab AF Af (0 : Nat) Ay); let Ah := Ag ∧ Bw ∧ True; let C7 := shortM Az ((Bx, (some Ac))); let C8 := (Prod.fst C7) == (2 : Int); let C9 := (Prod.snd (sendOM AC ((Ac, (some Bx))))) == (0 : Int); let Ca := ((Prod.fst BG) == (6 : Int)) && (((Prod.snd BG) == (63 : Int)) && true); let Cb := Ca = true; let Cc := (Ca = false) → A1; let Cd := Ag ∧ Bq ∧ Ah; let Ce := (AC = AC) ∧ ((A2 ∧ A4 ∧ A3 ∧ (nat_lit 13 = nat_lit 13 ∧ A0) ∧ (nat_lit 14 = nat_lit 14 ∧ A6) ∧ True) ∧ (A2 ∧ A4 ∧ A3 ∧ (nat_lit 15 = nat_lit 15 ∧ A0) ∧ (nat_lit 16 = nat_lit 16 ∧ Ad) ∧ True) ∧ True) ∧ Ag ∧ Bw ∧ Ag ∧ Bq ∧ True; let Cf := ((C8 = true) → (True ∧ ((((Value.bool ((Prod.snd C7) == (0 : Int))) = Value.bool true) ∧ True) ∧ True ∧ True))) ∧ ((C8 = false) → A1); let AG : List Int := C6 :: ([(Prod.fst (tryM Ab AF Af (1 : Nat) (stepM (trialM Ab AF Af (0 : Nat) Ay) (restM Af C6 Ay))))] : List Int); let AH := sameM AG Av; let Cg := AH = false; let Ch := AG = AG; True ∧ True ∧ True ∧ True ∧ A7 ∧ True ∧ A9 ∧ (Bt ∧ (A2 ∧ A4 ∧ A3 ∧ (nat_lit 0 = nat_lit 0 ∧ A0) ∧ (nat_lit 1 = nat_lit 1 ∧ A6) ∧ True) ∧ True) ∧ Ah ∧ True ∧ True ∧ True ∧ True ∧ A7 ∧ True ∧ A9 ∧ (AB ∧ (A2 ∧ A4 ∧ A3 ∧ (nat_lit 2 = nat_lit 2 ∧ A0) ∧ (nat_lit 3 = nat_lit 3 ∧ A6) ∧ True) ∧ AI = AI ∧ True) ∧ Ah ∧ True ∧ True ∧ True ∧ True ∧ A7 ∧ True ∧ A9 ∧ (Bt ∧ (A2 ∧ A4 ∧ A3 ∧ (nat_lit 5 = nat_lit 5 ∧ A0) ∧ (nat_lit 6 = nat_lit 6 ∧ A6) ∧ True) ∧ True) ∧ Ah ∧ True ∧ True ∧ True ∧ True ∧ (Value.bool false = Value.bool false ∧ True) ∧ True ∧ (nat_lit 2 < nat_lit 1000000 ∧ nat_lit 2 < nat_lit 1000000) ∧ (AB ∧ (A2 ∧ A4 ∧ A3 ∧ (nat_lit 7 = nat_lit 7 ∧ A0) ∧ (nat_lit 8 = nat_lit 8 ∧ A0) ∧ True) ∧ True) ∧ (Ag ∧ Ab = Ab ∧ True) ∧ True ∧ True ∧ True ∧ True ∧ A7 ∧ True ∧ A9 ∧ (AB ∧ (A2 ∧ A4 ∧ A3 ∧ (nat_lit 10 = nat_lit 10 ∧ A0) ∧ (nat_lit 11 = nat_lit 11 ∧ A6) ∧ True) ∧ True) ∧ Ah ∧ True ∧ True ∧ True ∧ True ∧ True ∧ True ∧ (nat_lit 2 = nat_lit 2 ∧ B8 ∧ B7 ∧ B4 ∧ B6 ∧ A5 ∧ B9 ∧ Ba ∧ AW = AW ∧ AU = AU ∧ Bs) ∧ True ∧ A7 ∧ True ∧ True ∧ True ∧ True ∧ (nat_lit 2 = nat_lit 2 ∧ A5 ∧ Aa ∧ A8 ∧ AV.gs (nat_lit 13) (nat_lit 0) = AV.gs (nat_lit 13) (nat_lit 0) ∧ AV.gs (nat_lit 14) (nat_lit 0) = AV.gs (nat_lit 14) (nat_lit 0) ∧ A5 ∧ Aa ∧ A8 ∧ AV.gs (nat_lit 15) (nat_lit 0) = AV.gs (nat_lit 15) (nat_lit 0) ∧ AV.gs (nat_lit 16) (nat_lit 0) = AV.gs (nat_lit 16) (nat_lit 0) ∧ True) ∧ (nat_lit 2 < nat_lit 1000000 ∧ A9 ∧ AY) ∧ (true = true → Bk ∧ Ce ∧ True ∧ True ∧ True ∧ Bv ∧ True ∧ True ∧ True ∧ True ∧ A7 ∧ True ∧ (nat_lit 2 = nat_lit 2 ∧ A5 ∧ Aa ∧ A8 ∧ AV.gs (nat_lit 20) (nat_lit 0) = AV.gs (nat_lit 20) (nat_lit 0) ∧ AV.gs (nat_lit 21) (nat_lit 0) = AV.gs (nat_lit 21) (nat_lit 0) ∧ A5 ∧ Aa ∧ A8 ∧ AV.gs (nat_lit 22) (nat_lit 0) = AV.gs (nat_lit 22) (nat_lit 0) ∧ AV.gs (nat_lit 23) (nat_lit 0) = AV.gs (nat_lit 23) (nat_lit 0) ∧ True) ∧ Bf ∧ (((19 : Nat) = (19 : Nat) ∧ Ad) ∧ Be) ∧ (Bu ∧ ((A2 ∧ A4 ∧ A3 ∧ (nat_lit 20 = nat_lit 20 ∧ A0) ∧ (nat_lit 21 = nat_lit 21 ∧ Ad) ∧ True) ∧ (A2 ∧ A4 ∧ A3 ∧ (nat_lit 22 = nat_lit 22 ∧ A0) ∧ (nat_lit 23 = nat_lit 23 ∧ A6) ∧ True) ∧ True) ∧ Cd) ∧ (BP → (BQ → True ∧ Bi ∧ True ∧ (Cb → (BX → (BT → (BJ → (BW → Bl ∧ nat_lit 2 < nat_lit 1000000 ∧ (AZ ∧ Bd) ∧ (Ch ∧ Bp) ∧ (AH = true → (BA → (BS → (BR → Bm ∧ nat_lit 2 < nat_lit 1000000 ∧ ((nat_lit 18 = nat_lit 18 ∧ A0) ∧ ((26 : Nat) = (26 : Nat) ∧ A0) ∧ True) ∧ (Aw = Aw ∧ Bo) ∧ (Bn = true → (B3 = true → Cf) ∧ (B3 = false → A1)) ∧ (Bn = false → A1)) ∧ C1) ∧ C2) ∧ BI) ∧ (Cg → A1)) ∧ C4) ∧ BY) ∧ C3) ∧ C5) ∧ Cc) ∧ BZ) ∧ C0) ∧ (true = false → Bk ∧ Ce ∧ True ∧ True ∧ True ∧ Bv ∧ True ∧ True ∧ True ∧ True ∧ A7 ∧ True ∧ (nat_lit 2 = nat_lit 2 ∧ A5 ∧ Aa ∧ A8 ∧ AV.gs (nat_lit 19) (nat_lit 0) = AV.gs (nat_lit 19) (nat_lit 0) ∧ AV.gs (nat_lit 20) (nat_lit 0) = AV.gs (nat_lit 20) (nat_lit 0) ∧ A5 ∧ Aa ∧ A8 ∧ AV.gs (nat_lit 21) (nat_lit 0) = AV.gs (nat_lit 21) (nat_lit 0) ∧ AV.gs (nat_lit 22) (nat_lit 0) = AV.gs (nat_lit 22) (nat_lit 0) ∧ True) ∧ Bf ∧ (((18 : Nat) = (18 : Nat) ∧ Ad) ∧ ((23 : Nat) = (23 : Nat) ∧ A0) ∧ True) ∧ (Bu ∧ ((A2 ∧ A4 ∧ A3 ∧ (nat_lit 19 = nat_lit 19 ∧ A0) ∧ (nat_lit 20 = nat_lit 20 ∧ Ad) ∧ True) ∧ (A2 ∧ A4 ∧ A3 ∧ (nat_lit 21 = nat_lit 21 ∧ A0) ∧ (nat_lit 22 = nat_lit 22 ∧ A6) ∧ True) ∧ True) ∧ Cd) ∧ (BP → (BQ → True ∧ Bi ∧ True ∧ (Cb → (BX → (BT → (BJ → (BW → Bl ∧ nat_lit 2 < nat_lit 1000000 ∧ (AZ ∧ Be) ∧ (Ch ∧ Bp) ∧ (AH = true → (BA → (BS → (BR → Bm ∧ nat_lit 0 < nat_lit 1000000 ∧ (nat_lit 0 = nat_lit 0 ∧ True ∧ True) ∧ (([] : List Int) = [] ∧ True ∧ True) ∧ (nat_lit 0 = nat_lit 0 ∧ Bd) ∧ (True ∧ Bo) ∧ (Bh = true → (C9 = true → Cf) ∧ (C9 = false → A1)) ∧ (Bh = false → A1)) ∧ C1) ∧ C2) ∧ BI) ∧ (Cg → A1)) ∧ C4) ∧ BY) ∧ C3) ∧ C5) ∧ Cc) ∧ BZ) ∧ C0))
    (by kernel_rfl) ?_
  simp only [eq_self, AE.goS]
  simp only [v1, v2, v3, v5, v7, Nat.reduceLT, Int.reduceBEq, beq_self_eq_true, Bool.and_self, Bool.not_false, forall_const, true_and, and_true]
  simp only [v4, v6, Bool.true_eq_false, Bool.false_eq_true, beq_self_eq_true, forall_const, imp_false, imp_self, and_self, and_true, true_and, implies_true, false_implies, not_true_eq_false]
  decide +kernel

theorem alive_sound : Sound Tryz.prog 9 aliveS.con := FSpec.sound _ (enter_of Tryz.func9 (by kernel_rfl) (by kernel_rfl)) alive_ok
end AE.Team

namespace AE.Team
open Go AE Go.Proofs AE.Soil

theorem fin_ok : ∀ x, withinS.pre x → FunOk Tryz.prog 50 (withinS.args x) (withinS.H x) (withinS.R x) := by
  rintro ⟨n, lo, hi⟩ _
  refine fun_of (T := []) (L := fun _ => none) (hs := fun _ => []) hmix .nil Tryz.func50 (by kernel_rfl) (by kernel_rfl) ?_
  refine Eq.mp (α :=
      let A0 := decide (lo ≤ n); (A0 = true → True ∧ (Value.bool (decide (n ≤ hi)) = Value.bool (inM n lo hi) ∧ True) ∧ True ∧ True) ∧ (A0 = false → True ∧ (Value.bool (inM n lo hi) = Value.bool false ∧ True) ∧ True ∧ True))
    (by kernel_rfl) ?_
  simp only [eq_self, AE.goS]
  simp only [inM]
  simp +contextual
  omega

theorem fin_sound : Sound Tryz.prog 50 withinS.con := FSpec.sound _ (enter_of Tryz.func50 (by kernel_rfl) (by kernel_rfl)) fin_ok
def fspanM (s : Span) (lo hi : Int) : Bool := decide (lo ≤ s.1) && decide (s.1 ≤ s.2) && decide (s.2 ≤ hi)
def fspanS : FSpec UU where
  X := Span × Int × Int
  pick := fun args _ => match args with
    | [s, a, b] => match avSpan s, avInt a, avInt b with
      | some s, some a, some b => some (s, a, b)
      | _, _, _ => none
    | _ => none
  args := fun x => [vSpan x.1, .i x.2.1, .i x.2.2]
  H := fun _ => []
  R := fun x => .val ⟨.b (fspanM x.1 x.2.1 x.2.2), [], [], []⟩
theorem fspan_ok : ∀ x, fspanS.pre x → FunOk Tryz.prog 78 (fspanS.args x) (fspanS.H x) (fspanS.R x) := by
  rintro ⟨⟨s0, s1⟩, lo, hi⟩ _
  refine fun_of (T := []) (L := fun _ => none) (hs := fun _ => []) hmix .nil Tryz.func78 (by kernel_rfl) (by kernel_rfl) ?_
  refine Eq.mp (α :=
      let A0 := Value.bool (fspanM (s0, s1) lo hi); let A1 := (A0 = Value.bool false ∧ True) ∧ True ∧ True; let A2 := decide (s0 ≤ s1); let A3 := decide (lo ≤ s0); (A3 = true → (A2 = true → True ∧ (Value.bool (decide (s1 ≤ hi)) = A0 ∧ True) ∧ True ∧ True) ∧ (A2 = false → True ∧ A1)) ∧ (A3 = false → True ∧ A1))
    (by kernel_rfl) ?_
  simp only [eq_self, AE.goS]
  simp only [fspanM]
  simp +contextual
  omega

theorem fspan_sound : Sound Tryz.prog 78 fspanS.con := FSpec.sound _ (enter_of Tryz.func78 (by kernel_rfl) (by kernel_rfl)) fspan_ok
theorem fspan_eq (s : Span) (hi : Int) : fspanM s 0 hi = spanM s hi := by
  unfold fspanM spanM
  simp [Bool.and_assoc]
def Tfteam : Tab UU := [(50, withinS.con), (78, fspanS.con)]
theorem Tfteam_ok : Tfteam.Sound Tryz.prog := .cons fin_sound (.cons fspan_sound .nil)
theorem fTeam_ok : ∀ x, isTeamS.pre x → FunOk Tryz.prog 25 (isTeamS.args x) (isTeamS.H x) (isTeamS.R x) := by
  rintro ⟨⟨s0, s1⟩, ⟨l0, l1⟩, ⟨g0, g1⟩, full⟩ _
  refine fun_of (T := Tfteam) (L := fun _ => none) (hs := fun _ => []) hmix Tfteam_ok Tryz.func25 (by kernel_rfl) (by kernel_rfl) ?_
  refine Eq.mp (α :=
      let A2 := (10000 : Int); let A3 := Value.int IntKind.i64 (0 : Int); let A4 := Value.int IntKind.i64 (100 : Int); let A5 := Value.int IntKind.i64 (1000 : Int); let A6 := Value.int IntKind.i64 full = Value.int IntKind.i64 full; let A7 := Value.int IntKind.i64 A2; let A8 := fspanM (s0, s1) (0 : Int) full; let A9 := inM full (0 : Int) A2; let Aa := fspanM (l0, l1) (0 : Int) (100 : Int); let A0 := A3 = A3; let Ab := Value.bool (teamM (((s0, s1), (((l0, l1), (((g0, g1), full))))))); let A1 := (Ab = Value.bool false ∧ True) ∧ True ∧ True; True ∧ (A6 ∧ A0 ∧ A7 = A7 ∧ True) ∧ True ∧ (A9 = true → True ∧ ((Value.int IntKind.i64 s0 = Value.int IntKind.i64 s0 ∧ Value.int IntKind.i64 s1 = Value.int IntKind.i64 s1 ∧ True) ∧ A0 ∧ A6 ∧ True) ∧ True ∧ (A8 = true → True ∧ ((Value.int IntKind.i64 l0 = Value.int IntKind.i64 l0 ∧ Value.int IntKind.i64 l1 = Value.int IntKind.i64 l1 ∧ True) ∧ A0 ∧ A4 = A4 ∧ True) ∧ True ∧ (Aa = true → True ∧ ((Value.int IntKind.i64 g0 = Value.int IntKind.i64 g0 ∧ Value.int IntKind.i64 g1 = Value.int IntKind.i64 g1 ∧ True) ∧ A0 ∧ A5 = A5 ∧ True) ∧ True ∧ True ∧ (Value.bool (fspanM (g0, g1) (0 : Int) (1000 : Int)) = Ab ∧ True) ∧ True ∧ True) ∧ (Aa = false → True ∧ A1)) ∧ (A8 = false → True ∧ A1)) ∧ (A9 = false → True ∧ A1))
    (by kernel_rfl) ?_
  simp only [eq_self, AE.goS]
  simp only [fspan_eq]
  unfold teamM
  dsimp only
  generalize inM full 0 10000 = q1
  generalize spanM (s0, s1) full = q2
  generalize spanM (l0, l1) 100 = q3
  generalize spanM (g0, g1) 1000 = q4
  revert q1 q2 q3 q4
  decide

theorem fTeam_sound : Sound Tryz.prog 25 isTeamS.con := FSpec.sound _ (enter_of Tryz.func25 (by kernel_rfl) (by kernel_rfl)) fTeam_ok
def fwithS : FSpec UU where
  X := TeamT × Int
  pick := fun args _ => match args with
    | [t, n] => match avTeam t, avInt n with
      | some t, some n => some (t, n)
      | _, _ => none
    | _ => none
  args := fun x => [vTeam x.1, .i x.2]
  H := fun _ => []
  R := fun x => .val ⟨vTeam (withM x.1 x.2), [], [], []⟩
theorem fwith_ok : ∀ x, fwithS.pre x → FunOk Tryz.prog 67 (fwithS.args x) (fwithS.H x) (fwithS.R x) := by
  rintro ⟨⟨⟨s0, s1⟩, ⟨l0, l1⟩, ⟨g0, g1⟩, full⟩, n⟩ _
  refine fun_of (T := []) (L := fun _ => none) (hs := fun _ => []) hmix .nil Tryz.func67 (by kernel_rfl) (by kernel_rfl) ?_
  refine Eq.mp (α :=
      let A0 := ((s0, s1), (l0, l1), (g0, g1), full); let A1 := Prod.fst (withM A0 n); let A2 := Prod.snd (withM A0 n); let A3 := Prod.snd A2; let A4 := Prod.fst A2; let A5 := Prod.fst A3; True ∧ ((Value.int IntKind.i64 n = Value.int IntKind.i64 (Prod.fst A1) ∧ Value.int IntKind.i64 n = Value.int IntKind.i64 (Prod.snd A1) ∧ Value.int IntKind.i64 l0 = Value.int IntKind.i64 (Prod.fst A4) ∧ Value.int IntKind.i64 l1 = Value.int IntKind.i64 (Prod.snd A4) ∧ Value.int IntKind.i64 g0 = Value.int IntKind.i64 (Prod.fst A5) ∧ Value.int IntKind.i64 g1 = Value.int IntKind.i64 (Prod.snd A5) ∧ Value.int IntKind.i64 full = Value.int IntKind.i64 (Prod.snd A3) ∧ True) ∧ True) ∧ True ∧ True)
    (by kernel_rfl) ?_
  simp [withM]

theorem fwith_sound : Sound Tryz.prog 67 fwithS.con := FSpec.sound _ (enter_of Tryz.func67 (by kernel_rfl) (by kernel_rfl)) fwith_ok
def largeM (p : PlotT) : Bool := decide (max (p.steps.length : Int) (p.g.pits.length : Int) > 40)
def largeS : FSpec UU where
  X := PlotT
  pick := fun args H => match args with
    | [a] => avPlot H a
    | _ => none
  args := fun (x : PlotT) => [vPlot x 0 1]
  H := fun (x : PlotT) => hPlot x
  R := fun (x : PlotT) => .val ⟨.b (largeM x), [], [], []⟩
theorem large_ok : ∀ x, largeS.pre x → FunOk Tryz.prog 7 (largeS.args x) (largeS.H x) (largeS.R x) := by
  rintro ⟨⟨long, rise, change, ps⟩, st⟩ _
  refine fun_of (T := []) (L := fun _ => none) (hs := fun _ => []) hmix .nil Tryz.func7 (by kernel_rfl) (by kernel_rfl) ?_
  refine Eq.mp (α :=
      True ∧ (Value.bool (decide (max (↑(List.length st) : Int) (↑(List.length ps) : Int) > (40 : Int))) = Value.bool (largeM (PlotT.mk (GroundT.mk long rise change ps) st)) ∧ True) ∧ True ∧ ps = ps ∧ st = st ∧ True)
    (by kernel_rfl) ?_
  simp only [eq_self, AE.goS]
  rfl

theorem large_sound : Sound Tryz.prog 7 largeS.con := FSpec.sound _ (enter_of Tryz.func7 (by kernel_rfl) (by kernel_rfl)) large_ok
def fAtS : FSpec UU where
  X := GroundT × Int
  pick := fun args H => match args with
    | [a, b] => match avGround H a, avInt b with
      | some a, some b => some (a, b)
      | _, _ => none
    | _ => none
  args := fun x => [vGround x.1 0, .i x.2]
  H := fun x => [.one (.ro .pit x.1.pits)]
  R := fun x => .val ⟨.b (inM x.2 0 x.1.long), [], [], []⟩
def TfAt : Tab UU := [(102, withinS.con)]
theorem TfAt_ok : TfAt.Sound Tryz.prog := .cons rin_sound .nil
theorem fAt_ok : ∀ x, fAtS.pre x → FunOk Tryz.prog 80 (fAtS.args x) (fAtS.H x) (fAtS.R x) := by
  rintro ⟨⟨long, rise, change, ps⟩, n⟩ _
  refine fun_of (T := TfAt) (L := fun _ => none) (hs := fun _ => []) hmix TfAt_ok Tryz.func80 (by kernel_rfl) (by kernel_rfl) ?_
  refine Eq.mp (α :=
      let A0 := inM n (0 : Int) long; let A1 := Value.int IntKind.i64 (0 : Int); True ∧ (Value.int IntKind.i64 n = Value.int IntKind.i64 n ∧ A1 = A1 ∧ Value.int IntKind.i64 long = Value.int IntKind.i64 long ∧ True) ∧ True ∧ True ∧ (Value.bool A0 = Value.bool A0 ∧ True) ∧ True ∧ ps = ps ∧ True)
    (by kernel_rfl) ?_
  simp

theorem fAt_sound : Sound Tryz.prog 80 fAtS.con := FSpec.sound _ (enter_of Tryz.func80 (by kernel_rfl) (by kernel_rfl)) fAt_ok
theorem hard_arg (g : GroundT) : ((hardOM g 0).2 == 1) = !groundM g := by
  unfold hardOM Soil.openErrM
  cases groundM g with
  | false => rfl
  | true =>
    cases [(0 : Int)].all (askM .place g.long) with
    | false => rfl
    | true => cases lookM g <;> rfl
theorem plot_eq (p : PlotT) : isPlotM p = (groundM p.g && decide ((p.steps.length : Int) ≤ 12) && !(p.steps.any fun s => sfM (some p.g.long) s)) := by
  unfold isPlotM
  rw [hard_arg]
  congr 1
  cases groundM p.g with
  | false => rfl
  | true =>
    by_cases h : (p.steps.length : Int) > 12
    · rw [decide_eq_true h, decide_eq_false (show ¬ (p.steps.length : Int) ≤ 12 by omega)]; rfl
    · rw [decide_eq_false h, decide_eq_true (show (p.steps.length : Int) ≤ 12 by omega)]; rfl
theorem plot_no {p : PlotT} {i : Nat} (hi : i < p.steps.length) (h : sfM (some p.g.long) (p.steps.getD i (0, 0, 0)) = true) : isPlotM p = false := by
  have : (p.steps.any fun s => sfM (some p.g.long) s) = true := by
    rw [List.any_eq_true]
    refine ⟨p.steps.getD i (0, 0, 0), ?_, h⟩
    rw [List.getD_eq_getElem?_getD, List.getElem?_eq_getElem hi]
    exact List.getElem_mem hi
  rw [plot_eq, this, Bool.not_true, Bool.and_false]
def fPlotL (p : PlotT) : LSpec UU where
  T := { i : Nat // i ≤ p.steps.length ∧ ∀ j, j < i → sfM (some p.g.long) (p.steps.getD j (0, 0, 0)) = false }
  fr := fun i => [(1, .ptr 2 0 0 0), (2, .b false), (3, .i i.1)]
  H := fun _ => hPlot p ++ [.one (.cells (cPlot p 0 1) 31)]
  mu := fun i => p.steps.length - i.1
def TfPlot : Tab UU := [(79, isGroundS.con), (80, fAtS.con), (50, withinS.con)]
theorem TfPlot_ok : TfPlot.Sound Tryz.prog := .cons rGround_sound (.cons fAt_sound (.cons fin_sound .nil))
theorem fPlot_ok : ∀ x, isPlotS.pre x → FunOk Tryz.prog 26 (isPlotS.args x) (isPlotS.H x) (isPlotS.R x) := by
  rintro ⟨⟨long, rise, change, ps⟩, st⟩ hx
  refine fun_of (T := TfPlot) (L := fun _ => some (.inv (fPlotL ⟨⟨long, rise, change, ps⟩, st⟩))) (hs := fun _ => []) hmix TfPlot_ok Tryz.func26 (by kernel_rfl) (by kernel_rfl) ?_
  refine Eq.mp (α :=
      let A9 := nat_lit 0 = nat_lit 0 ∧ nat_lit 0 = nat_lit 0 ∧ nat_lit 0 = nat_lit 0; let A3 := ps = ps ∧ True; let Aa := (↑(List.length st) : Int); let A4 := Value.int IntKind.i64 (0 : Int); let Ab := Value.bool false = Value.bool false; let Ac := Value.int IntKind.i64 (600 : Int); let Ad := Value.int IntKind.i64 rise = Value.int IntKind.i64 rise; let Ae := Value.int IntKind.i64 long = Value.int IntKind.i64 long; let Af := Value.int IntKind.i64 change = Value.int IntKind.i64 change; let Ag := Value.bool (isPlotM (PlotT.mk (GroundT.mk long rise change ps) st)); let Ah := nat_lit 0 = nat_lit 0 ∧ nat_lit 0 = nat_lit 0 ∧ List.length ps = List.length ps; let Ai := True ∧ ps = ps ∧ st = st ∧ True; let Aj := ((0 : Int), (((0 : Int), (0 : Int)))); let A1 := True ∧ ((Ag = Value.bool false) ∧ True) ∧ Ai; let Ak := decide (Aa > (12 : Int)); let A5 := Ae ∧ Ad ∧ Af ∧ Ah ∧ True; let AD := fun (i : Nat) => ∀ (j : Nat), (j < i → ((sfM (some (GroundT.long (PlotT.g (PlotT.mk (GroundT.mk long rise change ps) st)))) ((List.getD (PlotT.steps (PlotT.mk (GroundT.mk long rise change ps) st)) j Aj))) = false)); let A0 : Type := { i : Nat // ((i ≤ (List.length (PlotT.steps (PlotT.mk (GroundT.mk long rise change ps) st)))) ∧ AD i) }; let Al := fun (x : A0) => Subtype.val x; let A2 := fun (x : A0) => (↑(Al x) : Int); let Am := True ∧ ps = ps ∧ st = st ∧ (Ae ∧ Ad ∧ Af ∧ Ah ∧ (nat_lit 0 = nat_lit 0 ∧ nat_lit 0 = nat_lit 0 ∧ List.length st = List.length st) ∧ True) ∧ True; let An := fun (x : A0) => Value.int IntKind.i64 (A2 x); let Ao := fun (x : A0) => List.length st - Al x; let Ap := fun (t : A0) => nat_lit 0 + (Int.toNat (A2 t)); let Aq := fun (t : A0) => A2 t < Aa; let Ar := fun (t : A0) => List.getD st (Ap t) Aj; let As := fun (t : A0) => Prod.snd (Ar t); let A6 := fun (t : A0) => Prod.fst (Ar t); let A7 := fun (t : A0) => Prod.fst (As t); let A8 := fun (t : A0) => Prod.snd (As t); let At := fun (t : A0) => Value.int IntKind.i64 (A6 t); let Au := fun (t : A0) => Value.int IntKind.i64 (A8 t); let Av := fun (t : A0) => Value.int IntKind.i64 (A7 t); let Aw := fun (t : A0) => !(inM (A6 t) (0 : Int) long); let Ax := fun (t : A0) => !(inM (A7 t) (0 : Int) long); let Ay := fun (t : A0) => !(inM (A8 t) (0 : Int) (600 : Int)); let Az := fun (t : A0) => A8 t == (0 : Int); let AA := fun (t : A0) => decide (Aq t); let AB := fun (t : A0) => decide ((A6 t > A7 t)); let AC := fun (t : A0) => ∃ (x : A0), ((A9 ∧ (Ab ∧ (((Value.int IntKind.i64 ((IntKind.wrap IntKind.i64 ((A2 t + (1 : Int)))))) = An x) ∧ True))) ∧ Am) ∧ Ao x < Ao t; List.length ps < nat_lit 1000000 ∧ (A5 ∧ True) ∧ A3 ∧ ((!groundM (GroundT.mk long rise change ps)) = true → A1) ∧ ((!groundM (GroundT.mk long rise change ps)) = false → (Ak = true → A1) ∧ (Ak = false → (∃ (x : A0), (A9 ∧ Ab ∧ A4 = An x ∧ True) ∧ Am) ∧ ∀ (t : A0), (AA t = true → ((0 : Int) ≤ A2 t ∧ Aq t) ∧ Ap t < List.length st ∧ True ∧ (Au t = Au t ∧ A4 = A4 ∧ Ac = Ac ∧ True) ∧ True ∧ (Ay t = true → A1) ∧ (Ay t = false → (Az t = true → (AB t = true → A1) ∧ (AB t = false → True ∧ (A5 ∧ At t = At t ∧ True) ∧ A3 ∧ (Aw t = true → A1) ∧ (Aw t = false → True ∧ (A5 ∧ Av t = Av t ∧ True) ∧ A3 ∧ (Ax t = true → A1) ∧ (Ax t = false → True ∧ AC t)))) ∧ (Az t = false → True ∧ AC t))) ∧ (AA t = false → True ∧ (Ag = Value.bool true ∧ True) ∧ Ai))))
    (by kernel_rfl) ?_
  simp only [eq_self, AE.goS]
  have h1 : ps.length < 1000000 := hx.1
  have h2 : st.length < 9223372036854775808 := hx.2
  refine ⟨h1, fun hg => ?_, fun hg => ⟨fun hl => ?_, fun hl => ⟨⟨⟨0, Nat.zero_le _, fun j hj => absurd hj (Nat.not_lt_zero j)⟩, rfl⟩, fun t => ⟨fun ht => ?_, fun ht => ?_⟩⟩⟩⟩
  · rw [plot_eq, show groundM ⟨long, rise, change, ps⟩ = false by simpa using hg]; rfl
  · rw [plot_eq, show decide ((st.length : Int) ≤ 12) = false from decide_eq_false (by omega), Bool.and_false]; rfl
  · obtain ⟨i, hi, h0⟩ := t
    have hlt : i < st.length := by have h1 : (i : Int) < (st.length : Int) := ht; omega
    have hno := plot_no (p := ⟨⟨long, rise, change, ps⟩, st⟩) hlt
    have nxt : sfM (some long) (st.getD i (0, 0, 0)) = false → ∃ x : { i : Nat // i ≤ st.length ∧ ∀ j, j < i → sfM (some long) (st.getD j (0, 0, 0)) = false }, IntKind.i64.wrap ((i : Int) + 1) = (x.1 : Int) ∧ st.length - x.1 < st.length - i := fun hf =>
      ⟨⟨i + 1, hlt, below_succ h0 hf⟩, sucI i (by omega), dec1 hlt⟩
    simp only
    revert hno nxt
    generalize st.getD i (0, 0, 0) = s
    obtain ⟨a, b, c⟩ := s
    intro hno nxt
    simp only [sfM, okStepM] at hno nxt
    refine ⟨⟨Int.natCast_nonneg _, ht⟩, hlt, fun hc => hno ?_, fun hc => ⟨fun h0 => ⟨fun hab => hno ?_, fun hab => ⟨fun ha => hno ?_, fun ha => ⟨fun hb => hno ?_, fun hb => nxt ?_⟩⟩⟩, fun h0 => nxt ?_⟩⟩
    all_goals simp only [inM, Bool.not_eq_true', Bool.not_eq_false', Bool.and_eq_true, decide_eq_true_eq, Bool.and_eq_false_iff, decide_eq_false_iff_not, beq_iff_eq, Bool.or_eq_true, Bool.or_eq_false_iff, Bool.not_eq_false, beq_eq_false_iff_ne, ne_eq] at *
    all_goals omega
  · obtain ⟨i, hi, h0⟩ := t
    have hie : i = st.length := by have h1 : ¬ (i : Int) < (st.length : Int) := ht; omega
    rw [plot_eq, show groundM ⟨long, rise, change, ps⟩ = true by simpa using hg, show decide ((st.length : Int) ≤ 12) = true from decide_eq_true (by omega)]
    have : (st.any fun s => sfM (some long) s) = false := by
      rw [List.any_eq_false]
      intro x hx
      obtain ⟨j, hj, rfl⟩ := List.getElem_of_mem hx
      have := h0 j (by omega)
      simpa [List.getD_eq_getElem?_getD, hj] using this
    rw [this]; rfl

theorem fPlot_sound : Sound Tryz.prog 26 isPlotS.con := FSpec.sound _ (enter_of Tryz.func26 (by kernel_rfl) (by kernel_rfl)) fPlot_ok
end AE.Team

namespace AE.Soil
open Go AE Go.Proofs

end AE.Soil

namespace AE.Soil
open Go AE Go.Proofs

def strStepM (c n : Int) (k : Int) (p : Int × Int × Int) : Int × Int × Int := if c = W (1 * 2 ^ n.toNat) then (if W (k - p.2.2) > W (p.2.1 - p.1) then (p.2.2, k, p.2.2) else p) else (p.1, p.2.1, W (k + 1))
def strAtM (l : List Mix3) (n : Int) : Nat → Int × Int × Int
  | 0 => (0, -1, 0)
  | k + 1 => strStepM (classesM (l.getD k m0)) n k (strAtM l n k)
def strErrM (g : GroundT) (n : Int) : Int := openErrM g .cls [n]
def strEndM (l : List Mix3) (n : Int) (k : Nat) : Int × Int × Int := if (strAtM l n k).2.1 ≥ 0 then ((strAtM l n k).1, (strAtM l n k).2.1, 0) else (0, 0, 4)
def strOM (g : GroundT) (n : Int) : Int × Int × Int := if strErrM g n == 0 then strEndM (boxesM g) n (nM g) else (0, 0, strErrM g n)
end AE.Soil

namespace AE.Soil
open Go AE Go.Proofs

end AE.Soil

namespace AE.Soil
open Go AE Go.Proofs

abbrev pA : PitT := (2, (300, 320), (10, 12), (4, 6), 4, 5)
abbrev pB : PitT := (8, (500, 520), (5, 6), (3, 5), 9, 11)
theorem c1 : hardOM ⟨10, 50, 2, [pA, pB]⟩ 5 = ((350, 470), 0) := by decide +kernel
theorem c2 : partsOM ⟨10, 50, 2, [pA, pB]⟩ 5 = (((4, 12), (0, 11), 3, 11), 0) := by decide +kernel
theorem c3 : classOM ⟨10, 50, 2, [pA, pB]⟩ 3 = (3, 0) := by decide +kernel
theorem c4 : strOM ⟨10, 50, 2, [pA, pB]⟩ 3 = (8, 8, 0) := by decide +kernel
end AE.Soil

namespace AE.Soil
open Go AE Go.Proofs

theorem getD_mem {α : Type} {l : List α} {i : Nat} (d : α) (h : i < l.length) : l.getD i d ∈ l := by
  rw [List.getD_eq_getElem?_getD, List.getElem?_eq_getElem h]; exact List.getElem_mem h
structure AQ where
  n : Int
  wide : Int
  high : Int
  a : Int
  l : List Int
def rclayM (m : Int × Int) : Int := W (W (20 - m.1) - m.2)
def rclayS : FSpec UU where
  X := Int × Int
  pick := fun args _ => match args with
    | [.agg [a, b]] => match avInt a, avInt b with
      | some a, some b => some (a, b)
      | _, _ => none
    | _ => none
  args := fun x => [.agg [.i x.1, .i x.2]]
  H := fun _ => []
  R := fun x => .val ⟨.i (rclayM x), [], [], []⟩
theorem rclay_ok : ∀ x, rclayS.pre x → FunOk Tryz.prog 118 (rclayS.args x) (rclayS.H x) (rclayS.R x) := by
  rintro ⟨a, b⟩ _
  refine fun_of (T := []) (L := fun _ => none) (hs := fun _ => []) hmix .nil Tryz.func118 (by kernel_rfl) (by kernel_rfl) ?_
  refine Eq.mp (α :=
      True ∧ (Value.int IntKind.i64 (IntKind.wrap IntKind.i64 (IntKind.wrap IntKind.i64 ((20 : Int) - a) - b)) = Value.int IntKind.i64 (rclayM (a, b)) ∧ True) ∧ True ∧ True)
    (by kernel_rfl) ?_
  simp [rclayM]

theorem rclay_sound : Sound Tryz.prog 118 rclayS.con := FSpec.sound _ (enter_of Tryz.func118 (by kernel_rfl) (by kernel_rfl)) rclay_ok
end AE.Soil

namespace AE.Soil
open Go AE Go.Proofs

def avGr2 (H : Heap UU) : List AV → Option (GroundT × Int)
  | [a, b] => match avGround H a, avInt b with
    | some a, some b => some (a, b)
    | _, _ => none
  | _ => none

abbrev M2 := Int × Int
def rnearM (c : Int) (a b : M2) : Bool := inM (W (a.1 - b.1)) (W (0 - c)) c && inM (W (a.2 - b.2)) (W (0 - c)) c && inM (W (rclayM a - rclayM b)) (W (0 - c)) c
structure NQ where
  g : GroundT
  a : M2
  b : M2
def rnearS : FSpec UU where
  X := NQ
  pick := fun args H => match args with
    | [g, .agg [a, b], .agg [c, d]] => match avGround H g, avInt a, avInt b, avInt c, avInt d with
      | some g, some a, some b, some c, some d => some ⟨g, (a, b), (c, d)⟩
      | _, _, _, _, _ => none
    | _ => none
  args := fun x => [vGround x.g 0, .agg [.i x.a.1, .i x.a.2], .agg [.i x.b.1, .i x.b.2]]
  H := fun x => [.one (.ro .pit x.g.pits)]
  R := fun x => .val ⟨.b (rnearM x.g.change x.a x.b), [], [], []⟩
def Trnear : Tab UU := [(102, withinS.con), (118, rclayS.con)]
theorem Trnear_ok : Trnear.Sound Tryz.prog := .cons rin_sound (.cons rclay_sound .nil)
theorem rnear_ok : ∀ x, rnearS.pre x → FunOk Tryz.prog 112 (rnearS.args x) (rnearS.H x) (rnearS.R x) := by
  rintro ⟨⟨long, rise, change, ps⟩, ⟨a, b⟩, ⟨c, d⟩⟩ _
  refine fun_of (T := Trnear) (L := fun _ => none) (hs := fun _ => []) hmix Trnear_ok Tryz.func112 (by kernel_rfl) (by kernel_rfl) ?_
  refine Eq.mp (α :=
      let A5 := True ∧ ps = ps ∧ True; let A1 := (Value.int IntKind.i64 change = Value.int IntKind.i64 change) ∧ True; let A6 := Value.bool (rnearM change (a, b) (c, d)); let A2 := IntKind.wrap IntKind.i64 (b - d); let A3 := IntKind.wrap IntKind.i64 (a - c); let A7 := Value.int IntKind.i64 A3; let A8 := Value.int IntKind.i64 A2; let A0 := IntKind.wrap IntKind.i64 ((0 : Int) - change); let A9 := Value.int IntKind.i64 A0; let Aa := IntKind.wrap IntKind.i64 (rclayM (a, b) - rclayM (c, d)); let Ab := Value.int IntKind.i64 Aa; let Ac := True ∧ ((A6 = Value.bool false) ∧ True) ∧ A5; let A4 := A9 = A9; True ∧ (A7 = A7 ∧ A4 ∧ A1) ∧ True ∧ (inM A3 A0 change = true → True ∧ (A8 = A8 ∧ A4 ∧ A1) ∧ True ∧ (inM A2 A0 change = true → True ∧ ((Value.int IntKind.i64 a = Value.int IntKind.i64 a ∧ Value.int IntKind.i64 b = Value.int IntKind.i64 b ∧ True) ∧ True) ∧ True ∧ True ∧ ((Value.int IntKind.i64 c = Value.int IntKind.i64 c ∧ Value.int IntKind.i64 d = Value.int IntKind.i64 d ∧ True) ∧ True) ∧ True ∧ True ∧ (Ab = Ab ∧ A4 ∧ A1) ∧ True ∧ True ∧ (Value.bool (inM Aa A0 change) = A6 ∧ True) ∧ A5) ∧ (inM A2 A0 change = false → Ac)) ∧ (inM A3 A0 change = false → Ac))
    (by kernel_rfl) ?_
  simp only [eq_self, AE.goS]
  unfold rnearM
  dsimp only
  generalize inM (W (a - c)) (W (0 - change)) change = x
  generalize inM (W (b - d)) (W (0 - change)) change = y
  generalize inM (W (rclayM (a, b) - rclayM (c, d))) (W (0 - change)) change = z
  revert x y z; decide

theorem rnear_sound : Sound Tryz.prog 112 rnearS.con := FSpec.sound _ (enter_of Tryz.func112 (by kernel_rfl) (by kernel_rfl)) rnear_ok
def rfit1M (k : Int) (m : M2) (p : PitT) : Bool := !(p.1 == k) || (inM m.1 p.2.2.1.1 p.2.2.1.2 && inM m.2 p.2.2.2.1.1 p.2.2.2.1.2 && inM (rclayM m) p.2.2.2.2.1 p.2.2.2.2.2)
def rfitM (l : List PitT) (k : Int) (m : M2) : Bool := l.all (rfit1M k m)
def rfitL (g : GroundT) (k : Int) (m : M2) : LSpec UU where
  T := { i : Nat // i ≤ g.pits.length ∧ (g.pits.take i).all (rfit1M k m) = true }
  fr := fun i => [(1, .i k), (3, .ptr 1 0 0 0), (5, .ptr 2 0 0 0), (7, .i i.1)]
  H := fun _ => [.one (.ro .pit g.pits), .one (.cells (cGround g 0) 28), .one (.cells [.i m.1, .i m.2] 154)]
  mu := fun i => g.pits.length - i.1
structure FQ where
  g : GroundT
  k : Int
  m : M2
def rfitS : FSpec UU where
  X := FQ
  pick := fun args H => match args with
    | [g, k, .agg [a, b]] => match avGround H g, avInt k, avInt a, avInt b with
      | some g, some k, some a, some b => some ⟨g, k, (a, b)⟩
      | _, _, _, _ => none
    | _ => none
  args := fun x => [vGround x.g 0, .i x.k, .agg [.i x.m.1, .i x.m.2]]
  H := fun x => [.one (.ro .pit x.g.pits)]
  R := fun x => .val ⟨.b (rfitM x.g.pits x.k x.m), [], [], []⟩
  pre := fun x => x.g.pits.length < 1000
theorem rfit_ok : ∀ x, rfitS.pre x → FunOk Tryz.prog 113 (rfitS.args x) (rfitS.H x) (rfitS.R x) := by
  rintro ⟨⟨long, rise, change, ps⟩, k, ⟨a, b⟩⟩ hx
  refine fun_of (T := Trnear) (L := fun _ => some (.inv (rfitL ⟨long, rise, change, ps⟩ k (a, b)))) (hs := fun _ => []) hmix Trnear_ok Tryz.func113 (by kernel_rfl) (by kernel_rfl) ?_
  refine Eq.mp (α :=
      let A2 := nat_lit 0 = nat_lit 0 ∧ nat_lit 0 = nat_lit 0 ∧ nat_lit 0 = nat_lit 0; let A5 := Value.bool (rfitM ps k (a, b)); let A6 := Value.int IntKind.i64 (rclayM (a, b)); let A7 := True ∧ ps = ps ∧ True; let A8 := Value.int IntKind.i64 a = Value.int IntKind.i64 a; let A9 := Value.int IntKind.i64 b = Value.int IntKind.i64 b; let Aa := Value.int IntKind.i64 k = Value.int IntKind.i64 k; let A3 := ((0 : Int), (0 : Int)); let Ab := (A8 ∧ A9 ∧ True) ∧ True; let A4 := True ∧ ((A5 = Value.bool false) ∧ True) ∧ A7; let A0 : Type := { i : Nat // ((i ≤ (List.length (GroundT.pits (GroundT.mk long rise change ps)))) ∧ ((List.all ((List.take i (GroundT.pits (GroundT.mk long rise change ps)))) (rfit1M k (a, b))) = true)) }; let Ac := fun (x : A0) => Subtype.val x; let A1 := fun (x : A0) => (↑(Ac x) : Int); let Ad := fun (x : A0) => Value.int IntKind.i64 (A1 x); let Ae := fun (x : A0) => List.length ps - Ac x; let Af := fun (t : A0) => nat_lit 0 + (Int.toNat (A1 t)); let Ag := fun (t : A0) => A1 t < ((↑(List.length ps) : Int)); let Ah := True ∧ ps = ps ∧ ((Value.int IntKind.i64 long = Value.int IntKind.i64 long) ∧ (Value.int IntKind.i64 rise = Value.int IntKind.i64 rise) ∧ (Value.int IntKind.i64 change = Value.int IntKind.i64 change) ∧ (nat_lit 0 = nat_lit 0 ∧ nat_lit 0 = nat_lit 0 ∧ List.length ps = List.length ps) ∧ True) ∧ Ab; let Ai := fun (t : A0) => decide (Ag t); let Aj := fun (t : A0) => List.getD ps (Af t) (((0 : Int), ((A3, ((A3, ((A3, A3)))))))); let Ak := fun (t : A0) => (Prod.fst (Aj t)) == k; let Al := fun (t : A0) => Prod.snd ((Prod.snd (Aj t))); let Am := fun (t : A0) => Prod.fst (Al t); let An := fun (t : A0) => Prod.snd (Al t); let Ao := fun (t : A0) => Prod.snd (Am t); let Ap := fun (t : A0) => Prod.fst (Am t); let Aq := fun (t : A0) => Prod.fst (An t); let Ar := fun (t : A0) => Prod.snd (An t); let As := fun (t : A0) => Value.int IntKind.i64 (Ao t); let At := fun (t : A0) => Value.int IntKind.i64 (Ap t); let Au := fun (t : A0) => Prod.snd (Aq t); let Av := fun (t : A0) => Prod.snd (Ar t); let Aw := fun (t : A0) => Prod.fst (Aq t); let Ax := fun (t : A0) => Prod.fst (Ar t); let Ay := fun (t : A0) => Value.int IntKind.i64 (Au t); let Az := fun (t : A0) => Value.int IntKind.i64 (Ax t); let AA := fun (t : A0) => Value.int IntKind.i64 (Av t); let AB := fun (t : A0) => Value.int IntKind.i64 (Aw t); let AC := fun (t : A0) => !(inM a (Ap t) (Ao t)); let AD := fun (t : A0) => inM b (Aw t) (Au t); let AE := fun (t : A0) => inM (rclayM (a, b)) (Ax t) (Av t); let AF := fun (t : A0) => ∃ (x : A0), (((Aa ∧ (A2 ∧ (A2 ∧ (((Value.int IntKind.i64 ((IntKind.wrap IntKind.i64 ((A1 t + (1 : Int)))))) = Ad x) ∧ True)))) ∧ Ah) ∧ Ae x < Ae t); (∃ (x : A0), (Aa ∧ A2 ∧ A2 ∧ Value.int IntKind.i64 (0 : Int) = Ad x ∧ True) ∧ Ah) ∧ ∀ (t : A0), (Ai t = true → ((0 : Int) ≤ A1 t ∧ Ag t) ∧ Af t < List.length ps ∧ (Ak t = true → True ∧ (A8 ∧ At t = At t ∧ As t = As t ∧ True) ∧ True ∧ (AC t = true → A4) ∧ (AC t = false → True ∧ (A9 ∧ AB t = AB t ∧ Ay t = Ay t ∧ True) ∧ True ∧ ((!AD t) = true → A4) ∧ ((!AD t) = false → True ∧ Ab ∧ True ∧ True ∧ (A6 = A6 ∧ Az t = Az t ∧ AA t = AA t ∧ True) ∧ True ∧ ((!AE t) = true → A4) ∧ ((!AE t) = false → True ∧ AF t)))) ∧ (Ak t = false → True ∧ AF t)) ∧ (Ai t = false → True ∧ (A5 = Value.bool true ∧ True) ∧ A7))
    (by kernel_rfl) ?_
  simp only [eq_self, AE.goS]
  have hxl : ps.length < 1000 := hx
  refine ⟨⟨⟨0, Nat.zero_le _, rfl⟩, rfl⟩, fun t => ⟨fun ht => ?_, fun ht => ?_⟩⟩
  · obtain ⟨i, hi, ha⟩ := t
    have hlt : i < ps.length := by have h0 : (i : Int) < (ps.length : Int) := ht; omega
    have bad : rfit1M k (a, b) (ps.getD i pit0) = false → rfitM ps k (a, b) = false := fun h => by
      unfold rfitM
      rw [List.all_eq_false]
      exact ⟨_, getD_mem pit0 hlt, by rw [h]; decide⟩
    have good : rfit1M k (a, b) (ps.getD i pit0) = true → ∃ x : { i // i ≤ ps.length ∧ (ps.take i).all (rfit1M k (a, b)) = true }, IntKind.i64.wrap ((i : Int) + 1) = (x.1 : Int) ∧ ps.length - x.1 < ps.length - i := fun h =>
      ⟨⟨i + 1, hlt, by rw [take_snoc ps i hlt pit0, List.all_append, ha, List.all_cons, h]; rfl⟩, sucI i (by omega), dec1 hlt⟩
    have e : rfit1M k (a, b) (ps.getD i pit0) = (!((ps.getD i pit0).1 == k) || (inM a (ps.getD i pit0).2.2.1.1 (ps.getD i pit0).2.2.1.2 && inM b (ps.getD i pit0).2.2.2.1.1 (ps.getD i pit0).2.2.2.1.2 && inM (rclayM (a, b)) (ps.getD i pit0).2.2.2.2.1 (ps.getD i pit0).2.2.2.2.2)) := rfl
    refine ⟨⟨Int.natCast_nonneg _, ht⟩, hlt, ?_⟩
    rw [e] at bad good
    revert bad good
    generalize (∃ x : { i // i ≤ ps.length ∧ (ps.take i).all (rfit1M k (a, b)) = true }, IntKind.i64.wrap ((i : Int) + 1) = (x.1 : Int) ∧ ps.length - x.1 < ps.length - i) = Q
    generalize (rfitM ps k (a, b) = false) = F
    generalize ((ps.getD i pit0).1 == k) = q0
    generalize inM a (ps.getD i pit0).2.2.1.1 (ps.getD i pit0).2.2.1.2 = q1
    generalize inM b (ps.getD i pit0).2.2.2.1.1 (ps.getD i pit0).2.2.2.1.2 = q2
    generalize inM (rclayM (a, b)) (ps.getD i pit0).2.2.2.2.1 (ps.getD i pit0).2.2.2.2.2 = q3
    intro bad good
    cases q0 <;> cases q1 <;> cases q2 <;> cases q3 <;> simp at bad good ⊢ <;> first | exact bad | exact good
  · obtain ⟨i, hi, ha⟩ := t
    have hie : i = ps.length := by have h0 : ¬ (i : Int) < (ps.length : Int) := ht; omega
    subst hie
    rw [List.take_length] at ha
    exact ha

theorem rfit_sound : Sound Tryz.prog 113 rfitS.con := FSpec.sound _ (enter_of Tryz.func113 (by kernel_rfl) (by kernel_rfl)) rfit_ok
def rowM (s : Nat) (t : Nat) : List M2 := (List.range t).map fun (b : Nat) => ((s : Int), (b : Int))
def rowsM : Nat → List M2
  | 0 => []
  | s + 1 => rowsM s ++ rowM s (21 - s)
def allM (l : List PitT) : List M2 := rowsM (21 + 0 * l.length)
theorem all_rows (l : List PitT) : allM l = rowsM 21 := by unfold allM; rw [Nat.zero_mul]
def mixL1 : LSpec UU where
  T := { s : Nat // s ≤ 21 }
  fr := fun s => [(1, .gs 0 0), (2, .i s.1)]
  H := fun s => [.one (.row .rmix (rowsM s.1) 154)]
  mu := fun s => 21 - s.1
def mixL2 : LSpec UU where
  T := { p : Nat × Nat // p.1 < 21 ∧ p.2 ≤ 21 - p.1 }
  fr := fun p => [(1, .gs 0 0), (2, .i p.1.1), (3, .i p.1.2)]
  H := fun p => [.one (.row .rmix (rowsM p.1.1 ++ rowM p.1.1 p.1.2) 154)]
  mu := fun p => 21 - p.1.2
def mixLs (k : Nat) : Option (LRule UU) :=
  match k with
  | 3 => some (.inv mixL1)
  | 6 => some (.invR mixL2 fun x y => y.1.1 = x.1.1)
  | _ => none
def mixesS : FSpec UU where
  X := List PitT
  pick := fun args H => match args with
    | [] => sliceAt .pit H (.sl 0 0 0 0)
    | _ => none
  args := fun _ => []
  H := fun _ => []
  R := fun (x : List PitT) => .val ⟨.gs 0 0, [], [], [.row .rmix (allM x) 154]⟩
theorem mixes_ok : ∀ x, mixesS.pre x → FunOk Tryz.prog 111 (mixesS.args x) (mixesS.H x) (mixesS.R x) := by
  intro (x : List PitT) _
  refine fun_of (T := []) (L := mixLs) (hs := fun _ => []) hmix .nil Tryz.func111 (by kernel_rfl) (by kernel_rfl) ?_
  refine Eq.mp (α :=
      let A8 := (154 : TypeId); let Ae := Value.int IntKind.i64 (0 : Int); let A1 : Type := { s : Nat // (s ≤ (21 : Nat)) }; let A9 := fun (x : A1) => Subtype.val x; let Aa := A8 = A8; let A4 := fun (x : A1) => rowsM (A9 x); let Af := fun (x : A1) => (↑(A9 x) : Int); let Ag := fun (x : A1) => nat_lit 21 - A9 x; let Ab := fun (x : A1) => Value.int IntKind.i64 (Af x); let A0 : Type := { p : Nat × Nat // ((Prod.fst p < (21 : Nat)) ∧ (Prod.snd p ≤ ((21 : Nat) - Prod.fst p))) }; let Ah := fun (x : A0) => Subtype.val x; let Ac := fun (x : A0) => Prod.snd (Ah x); let A2 := fun (x : A0) => Prod.fst (Ah x); let A5 := fun (x : A0) => (↑(A2 x) : Int); let A6 := fun (x : A0) => (↑(Ac x) : Int); let Ai := fun (x : A0) => nat_lit 21 - Ac x; let A7 := fun (x : A0) => Value.int IntKind.i64 (A5 x); let Ad := fun (x : A0) => Value.int IntKind.i64 (A6 x); let Aj := fun (t : A0) => AV.v (A7 t); let Ak := fun (t : A0) => AV.v (Ad t); let Al := fun (t : A1) => decide ((Af t ≤ (20 : Int))); let Am := fun (t x : A0) => A2 t = A2 x; let A3 := fun (x : A0) => (rowsM (A2 x)) ++ (rowM (A2 x) (Ac x)); let An := fun (t : A0) => decide (IntKind.wrap IntKind.i64 (A5 t + A6 t) ≤ (20 : Int)); (∃ (x : A1), (nat_lit 0 = nat_lit 0 ∧ True ∧ True) ∧ (A4 x = [] ∧ True) ∧ (Value.slice none (nat_lit 0) (nat_lit 0) = Value.slice none (nat_lit 0) (nat_lit 0) ∧ Ae = Ab x ∧ True) ∧ True ∧ True ∧ True) ∧ ∀ (t : A1), (Al t = true → ∃ (x : A0), ((nat_lit 0 = nat_lit 0 ∧ Ab t = A7 x ∧ Ae = Ad x ∧ True) ∧ True ∧ (Aa ∧ A4 t = A3 x) ∧ True) ∧ A2 x = A2 x ∧ ∀ (t_1 : A0), Am t_1 x → (An t_1 = true → (nat_lit 1 = nat_lit 1 ∧ Aj t_1 = Aj t_1 ∧ Ak t_1 = Ak t_1 ∧ True) ∧ nat_lit 1 ≤ nat_lit 1 ∧ List.length (A3 t_1) + nat_lit 1 ≤ nat_lit 1099511627776 ∧ True ∧ ∃ (x_1 : A0), ((nat_lit 0 = nat_lit 0 ∧ A7 t_1 = A7 x_1 ∧ Value.int IntKind.i64 (IntKind.wrap IntKind.i64 (A6 t_1 + (1 : Int))) = Ad x_1 ∧ True) ∧ True ∧ (nat_lit 154 = A8 ∧ A3 t_1 ++ List.take (1 : Nat) (List.drop (0 : Nat) [(A5 t_1, A6 t_1)]) = A3 x_1) ∧ True) ∧ Ai x_1 < Ai t_1 ∧ Am x_1 x) ∧ (An t_1 = false → True ∧ ∃ (x : A1), ((nat_lit 0 = nat_lit 0 ∧ Value.int IntKind.i64 (IntKind.wrap IntKind.i64 (A5 t_1 + (1 : Int))) = Ab x ∧ True) ∧ True ∧ (Aa ∧ A3 t_1 = A4 x) ∧ True) ∧ Ag x < Ag t)) ∧ (Al t = false → True ∧ (nat_lit 0 = nat_lit 0 ∧ True) ∧ True ∧ (Aa ∧ A4 t = allM x) ∧ True))
    (by kernel_rfl) ?_
  simp only [eq_self, AE.goS]
  refine ⟨⟨⟨0, Nat.zero_le _⟩, rfl, rfl⟩, fun t => ⟨fun ht => ?_, fun ht => ?_⟩⟩
  · obtain ⟨s, hs⟩ := t
    have hs' : (s : Int) ≤ 20 := ht
    refine ⟨⟨(s, 0), by show s < 21; omega, Nat.zero_le _⟩, ⟨⟨rfl, rfl⟩, (List.append_nil _).symm⟩, fun p hp => ?_⟩
    obtain ⟨⟨s', j⟩, h1, h2⟩ := p
    have hp' : s' = s := hp
    subst hp'
    have h2' : j ≤ 21 - s' := h2
    have hw : IntKind.i64.wrap ((s' : Int) + (j : Int)) = (s' : Int) + (j : Int) := wrap_id (by omega) (by omega)
    have hlen : (rowsM s' ++ rowM s' j).length + 1 ≤ 1099511627776 := by
      have hr : ∀ s, (rowsM s).length ≤ 21 * s := fun s => by
        induction s with
        | zero => exact Nat.le_refl _
        | succ s ih => unfold rowsM; rw [List.length_append]; simp only [rowM, List.length_map, List.length_range]; omega
      have := hr s'
      rw [List.length_append]
      simp only [rowM, List.length_map, List.length_range]
      omega
    show (IntKind.i64.wrap ((s' : Int) + (j : Int)) ≤ 20 → _) ∧ _
    refine ⟨fun hj => ⟨Nat.le_refl _, hlen, ⟨(s', j + 1), h1, ?_⟩, ⟨⟨rfl, sucI j (by omega)⟩, ?_⟩, ?_, rfl⟩, fun hj => ⟨⟨s' + 1, by omega⟩, ⟨sucI s' (by omega), ?_⟩, ?_⟩⟩
    · rw [hw] at hj
      show j + 1 ≤ 21 - s'; omega
    · show rowsM s' ++ rowM s' j ++ [((s' : Int), (j : Int))] = rowsM s' ++ rowM s' (j + 1)
      rw [List.append_assoc]
      unfold rowM
      rw [List.range_succ, List.map_append]; rfl
    · rw [hw] at hj
      show 21 - (j + 1) < 21 - j; omega
    · have hj' : ¬ IntKind.i64.wrap ((s' : Int) + (j : Int)) ≤ 20 := hj
      rw [hw] at hj'
      have : j = 21 - s' := by omega
      subst this
      rfl
    · show 21 - (s' + 1) < 21 - s'; omega
  · obtain ⟨s, hs⟩ := t
    have : s = 21 := by have h0 : ¬ (s : Int) ≤ 20 := ht; omega
    subst this
    exact (all_rows x).symm

theorem mixes_sound : Sound Tryz.prog 111 mixesS.con := FSpec.sound _ (enter_of Tryz.func111 (by kernel_rfl) (by kernel_rfl)) mixes_ok
end AE.Soil

namespace AE.Soil
open Go AE Go.Proofs

def canPM (c : Int) (first : Bool) (prev : List M2) (m : M2) : Bool := first || prev.any fun a => rnearM c a m
def takesM (g : GroundT) (x : Int) (first : Bool) (prev : List M2) (m : M2) : Bool := canPM g.change first prev m && rfitM g.pits x m
def stepLM (g : GroundT) (x : Int) (first : Bool) (prev : List M2) : List M2 := (allM g.pits).filter (takesM g x first prev)
def chM (g : GroundT) (e st : Int) : Nat → List M2
  | 0 => stepLM g e true []
  | k + 1 => stepLM g (e + st * ((k + 1 : Nat) : Int)) false (chM g e st k)
def prM (g : GroundT) (e st : Int) : Nat → List M2
  | 0 => []
  | k + 1 => chM g e st k
def firstM (k : Nat) : Bool := k == 0
def xAtM (e st : Int) (k : Nat) : Int := e + st * (k : Int)
theorem ch_step (g : GroundT) (e st : Int) : ∀ k, chM g e st k = stepLM g (xAtM e st k) (firstM k) (prM g e st k)
  | 0 => by unfold xAtM; simp [chM, firstM, prM]
  | k + 1 => rfl
structure AlQ where
  g : GroundT
  at_ : Int
  e : Int
  st : Int
def alN (x : AlQ) : Nat := ((x.at_ - x.e) * x.st).toNat
def someM (x : AlQ) (k i : Nat) : List M2 := ((allM x.g.pits).take i).filter (takesM x.g (xAtM x.e x.st k) (firstM k) (prM x.g x.e x.st k))
def mAtM (l : List PitT) (i : Nat) : M2 := (allM l).getD i (0, 0)
def canAtM (x : AlQ) (k i j : Nat) : Bool := canPM x.g.change (firstM k) ((prM x.g x.e x.st k).take j) (mAtM x.g.pits i)
theorem all_len (l : List PitT) : (allM l).length = 231 := by rw [all_rows]; rfl
theorem some_len (x : AlQ) (k i : Nat) : (someM x k i).length ≤ 231 := by
  have h1 : (someM x k i).length ≤ ((allM x.g.pits).take i).length := List.length_filter_le _ _
  rw [List.length_take, all_len] at h1
  omega
theorem some_yes (x : AlQ) {k i : Nat} (hi : i < (allM x.g.pits).length) (h : takesM x.g (xAtM x.e x.st k) (firstM k) (prM x.g x.e x.st k) (mAtM x.g.pits i) = true) : someM x k (i + 1) = someM x k i ++ [mAtM x.g.pits i] := by
  unfold someM
  rw [take_snoc _ i hi (0, 0), List.filter_append]
  congr 1
  exact List.filter_cons_of_pos h
theorem some_no (x : AlQ) {k i : Nat} (hi : i < (allM x.g.pits).length) (h : takesM x.g (xAtM x.e x.st k) (firstM k) (prM x.g x.e x.st k) (mAtM x.g.pits i) = false) : someM x k (i + 1) = someM x k i := by
  unfold someM
  rw [take_snoc _ i hi (0, 0), List.filter_append]
  have e : List.filter (takesM x.g (xAtM x.e x.st k) (firstM k) (prM x.g x.e x.st k)) [(allM x.g.pits).getD i (0, 0)] = [] := by
    refine List.filter_cons_of_neg ?_
    have h' : takesM x.g (xAtM x.e x.st k) (firstM k) (prM x.g x.e x.st k) ((allM x.g.pits).getD i (0, 0)) = false := h
    rw [h']; decide
  rw [e, List.append_nil]
theorem al_tail (x : AlQ) (hps : x.g.pits.length < 1000) {k i : Nat} (hk : k ≤ alN x) (hi : i < (allM x.g.pits).length) {c : Bool} (hc : c = canPM x.g.change (firstM k) (prM x.g x.e x.st k) (mAtM x.g.pits i)) :
    (c = true → (0 ≤ (i : Int) ∧ (i : Int) < ((allM x.g.pits).length : Int)) ∧ i < (allM x.g.pits).length ∧ x.g.pits.length < 1000 ∧
      (rfitM x.g.pits (xAtM x.e x.st k) ((allM x.g.pits).getD i (0, 0)) = true → (0 ≤ (i : Int) ∧ (i : Int) < ((allM x.g.pits).length : Int)) ∧ i < (allM x.g.pits).length ∧ 1 ≤ 1 ∧ (someM x k i).length + 1 ≤ 1099511627776 ∧
        ∃ y : { p : Nat × Nat // p.1 ≤ alN x ∧ p.2 ≤ (allM x.g.pits).length }, ((xAtM x.e x.st k = xAtM x.e x.st y.1.1 ∧ IntKind.i64.wrap ((i : Int) + 1) = (y.1.2 : Int)) ∧ prM x.g x.e x.st k = prM x.g x.e x.st y.1.1 ∧ someM x k i ++ List.take 1 (List.drop 0 [(((allM x.g.pits).getD i (0, 0)).1, ((allM x.g.pits).getD i (0, 0)).2)]) = someM x y.1.1 y.1.2) ∧ (allM x.g.pits).length - y.1.2 < (allM x.g.pits).length - i ∧ y.1.1 = k) ∧
      (rfitM x.g.pits (xAtM x.e x.st k) ((allM x.g.pits).getD i (0, 0)) = false → ∃ y : { p : Nat × Nat // p.1 ≤ alN x ∧ p.2 ≤ (allM x.g.pits).length }, ((xAtM x.e x.st k = xAtM x.e x.st y.1.1 ∧ IntKind.i64.wrap ((i : Int) + 1) = (y.1.2 : Int)) ∧ prM x.g x.e x.st k = prM x.g x.e x.st y.1.1 ∧ someM x k i = someM x y.1.1 y.1.2) ∧ (allM x.g.pits).length - y.1.2 < (allM x.g.pits).length - i ∧ y.1.1 = k)) ∧
    (c = false → ∃ y : { p : Nat × Nat // p.1 ≤ alN x ∧ p.2 ≤ (allM x.g.pits).length }, ((xAtM x.e x.st k = xAtM x.e x.st y.1.1 ∧ IntKind.i64.wrap ((i : Int) + 1) = (y.1.2 : Int)) ∧ prM x.g x.e x.st k = prM x.g x.e x.st y.1.1 ∧ someM x k i = someM x y.1.1 y.1.2) ∧ (allM x.g.pits).length - y.1.2 < (allM x.g.pits).length - i ∧ y.1.1 = k) := by
  have hl := all_len x.g.pits
  have hsl := some_len x k i
  have hsu := sucI i (by omega)
  refine ⟨fun h => ⟨⟨Int.natCast_nonneg _, by omega⟩, hi, hps, fun hf => ⟨⟨Int.natCast_nonneg _, by omega⟩, hi, Nat.le_refl _, by omega, ⟨(k, i + 1), hk, hi⟩, ⟨⟨rfl, hsu⟩, rfl, ?_⟩, dec1 hi, rfl⟩, fun hf => ⟨⟨(k, i + 1), hk, hi⟩, ⟨⟨rfl, hsu⟩, rfl, ?_⟩, dec1 hi, rfl⟩⟩, fun h => ⟨⟨(k, i + 1), hk, hi⟩, ⟨⟨rfl, hsu⟩, rfl, ?_⟩, dec1 hi, rfl⟩⟩
  · refine (some_yes x hi ?_).symm
    unfold takesM
    rw [← hc, h]; exact hf
  · refine (some_no x hi ?_).symm
    unfold takesM
    rw [← hc, h]; exact hf
  · refine (some_no x hi ?_).symm
    unfold takesM
    rw [← hc, h]; rfl
def alF (x : AlQ) (k : Nat) : Fr := [(1, .i x.at_), (2, .i x.e), (3, .i x.st), (4, .ptr 1 0 0 0), (9, .gs 2 0), (10, .gs 3 0), (11, .i (xAtM x.e x.st k))]
def alH (x : AlQ) (k : Nat) : Heap UU := [.one (.ro .pit x.g.pits), .one (.cells (cGround x.g 0) 28), .one (.row .rmix (allM x.g.pits) 154), .one (.row .rmix (prM x.g x.e x.st k) 154)]
def alL1 (x : AlQ) : LSpec UU where
  T := { k : Nat // k ≤ alN x }
  fr := fun k => alF x k.1
  H := fun k => alH x k.1
  mu := fun k => alN x - k.1
def alL2 (x : AlQ) : LSpec UU where
  T := { p : Nat × Nat // p.1 ≤ alN x ∧ p.2 ≤ (allM x.g.pits).length }
  fr := fun p => alF x p.1.1 ++ [(12, .gs 4 0), (13, .i p.1.2)]
  H := fun p => alH x p.1.1 ++ [.one (.row .rmix (someM x p.1.1 p.1.2) 154)]
  mu := fun p => (allM x.g.pits).length - p.1.2
def alL3 (x : AlQ) : LSpec UU where
  T := { p : Nat × Nat × Nat // p.1 ≤ alN x ∧ p.2.1 < (allM x.g.pits).length ∧ p.2.2 ≤ (prM x.g x.e x.st p.1).length }
  fr := fun p => alF x p.1.1 ++ [(12, .gs 4 0), (13, .i p.1.2.1), (14, .b (canAtM x p.1.1 p.1.2.1 p.1.2.2)), (15, .i p.1.2.2)]
  H := fun p => alH x p.1.1 ++ [.one (.row .rmix (someM x p.1.1 p.1.2.1) 154)]
  mu := fun p => (prM x.g x.e x.st p.1.1).length - p.1.2.2
def alLs (x : AlQ) (k : Nat) : Option (LRule UU) :=
  match k with
  | 5 => some (.inv (alL1 x))
  | 7 => some (.invR (alL2 x) fun a b => b.1.1 = a.1.1)
  | 11 => some (.invR (alL3 x) fun a b => b.1.1 = a.1.1 ∧ b.1.2.1 = a.1.2.1)
  | _ => none
def Talong : Tab UU := [(111, mixesS.con), (112, rnearS.con), (113, rfitS.con)]
theorem Talong_ok : Talong.Sound Tryz.prog := .cons mixes_sound (.cons rnear_sound (.cons rfit_sound .nil))
def alongS : FSpec UU where
  X := AlQ
  pick := fun args H => match args with
    | [g, a, b, c] => match avGround H g, avInt a, avInt b, avInt c with
      | some g, some a, some b, some c => some ⟨g, a, b, c⟩
      | _, _, _, _ => none
    | _ => none
  args := fun x => [vGround x.g 0, .i x.at_, .i x.e, .i x.st]
  H := fun x => [.one (.ro .pit x.g.pits)]
  R := fun x => .val ⟨.gs 1 0, [], [], [.row .rmix (chM x.g x.e x.st (alN x)) 154]⟩
  pre := fun x => x.g.pits.length < 1000 ∧ (0 ≤ x.e ∧ x.e ≤ 40) ∧ (0 ≤ x.at_ ∧ x.at_ ≤ 40) ∧ ((x.st = 1 ∧ x.e ≤ x.at_) ∨ (x.st = -1 ∧ x.at_ ≤ x.e))
theorem along_ok : ∀ x, alongS.pre x → FunOk Tryz.prog 104 (alongS.args x) (alongS.H x) (alongS.R x) := by
  rintro ⟨⟨long, rise, change, ps⟩, a, e, st⟩ hx
  refine fun_of (T := Talong) (L := alLs ⟨⟨long, rise, change, ps⟩, a, e, st⟩) (hs := fun _ => []) hmix Talong_ok Tryz.func104 (by kernel_rfl) (by kernel_rfl) ?_
  refine Eq.mp (α :=
      let An := (154 : TypeId); let AD := True ∧ True ∧ True ∧ True ∧ True; let Aa := nat_lit 0 = nat_lit 0 ∧ nat_lit 0 = nat_lit 0 ∧ nat_lit 0 = nat_lit 0; let AE := ps = ps ∧ True; let Ao := alN (AlQ.mk (GroundT.mk long rise change ps) a e st); let AF := Value.int IntKind.i64 (0 : Int); let Ab := Value.int IntKind.i64 a = Value.int IntKind.i64 a; let Ac := Value.int IntKind.i64 st = Value.int IntKind.i64 st; let Ad := Value.int IntKind.i64 e = Value.int IntKind.i64 e; let AG := (↑(List.length (allM ps)) : Int); let AH := Value.slice none (nat_lit 0) (nat_lit 0) = Value.slice none (nat_lit 0) (nat_lit 0); let Ap := ((0 : Int), (0 : Int)); let AI := True ∧ True ∧ True ∧ True ∧ True ∧ nat_lit 0 = nat_lit 0 ∧ True ∧ True; let AJ := List.length (allM (GroundT.pits (AlQ.g (AlQ.mk (GroundT.mk long rise change ps) a e st)))); let A2 := An = An; let A5 : Type := { k : Nat // (k ≤ Ao) }; let Aq := fun (x : A5) => Subtype.val x; let AK := Int.toNat ((a - e) * st); let Ar := fun (x : A5) => prM (GroundT.mk long rise change ps) e st (Aq x); let As := fun (x : A5) => Value.int IntKind.i64 ((xAtM e st (Aq x))); let A6 := A2 ∧ allM ps = allM ps; let AL := fun (x : A5) => AK - Aq x; let A1 : Type := { p : Nat × Nat // ((Prod.fst p ≤ Ao) ∧ Prod.snd p ≤ AJ) }; let AM := fun (x : A1) => Subtype.val x; let A7 := fun (x : A1) => Prod.fst (AM x); let At := fun (x : A1) => Prod.snd (AM x); let A3 := (Value.int IntKind.i64 long = Value.int IntKind.i64 long) ∧ (Value.int IntKind.i64 rise = Value.int IntKind.i64 rise) ∧ (Value.int IntKind.i64 change = Value.int IntKind.i64 change) ∧ (nat_lit 0 = nat_lit 0 ∧ nat_lit 0 = nat_lit 0 ∧ List.length ps = List.length ps) ∧ True; let Aj := fun (x : A1) => xAtM e st (A7 x); let AN := fun (x : A1) => (↑(At x) : Int); let Au := fun (x : A1) => prM (GroundT.mk long rise change ps) e st (A7 x); let Av := fun (x : A1) => Value.int IntKind.i64 (Aj x); let Aw := fun (x : A1) => Value.int IntKind.i64 (AN x); let AO := fun (t : A1) => Aj t == a; let AP := fun (x : A1) => List.length (allM ps) - At x; let AQ := fun (t x : A1) => A7 t = A7 x; let A0 : Type := { p : Nat × Nat × Nat // ((Prod.fst p ≤ Ao) ∧ ((Prod.fst (Prod.snd p)) < AJ) ∧ (Prod.snd (Prod.snd p)) ≤ (List.length ((prM (AlQ.g (AlQ.mk (GroundT.mk long rise change ps) a e st)) (AlQ.e (AlQ.mk (GroundT.mk long rise change ps) a e st)) (AlQ.st (AlQ.mk (GroundT.mk long rise change ps) a e st)) (Prod.fst p))))) }; let AR := fun (x : A0) => Subtype.val x; let A4 := fun (x : A0) => Prod.fst (AR x); let AS := fun (x : A0) => Prod.snd (AR x); let Ae := fun (x : A1) => someM (AlQ.mk (GroundT.mk long rise change ps) a e st) (A7 x) (At x); let AT := fun (x : A0) => xAtM e st (A4 x); let Ax := fun (x : A0) => Prod.snd (AS x); let A8 := fun (x : A0) => Prod.fst (AS x); let Af := fun (x : A0) => Value.int IntKind.i64 (AT x); let A9 := fun (x : A0) => prM (GroundT.mk long rise change ps) e st (A4 x); let Ah := fun (x : A0) => (↑(Ax x) : Int); let Ai := fun (x : A0) => (↑(A8 x) : Int); let AU := fun (t : A0) => Int.toNat (Ai t); let AW := fun (x : A0) => Value.int IntKind.i64 (Ah x); let Ay := fun (x : A0) => Value.int IntKind.i64 (Ai x); let AX := fun (t : A0) => List.length (A9 t); let AY := fun (t : A0) => nat_lit 0 + (Int.toNat (Ah t)); let AZ := fun (t : A0) => nat_lit 0 + AU t; let Az := fun (t : A0) => AZ t < List.length (allM ps); let Ak := fun (t : A0) => List.getD (allM ps) (AZ t) Ap; let B0 := fun (t : A0) => Prod.fst (Ak t); let B1 := fun (t : A0) => List.getD (allM ps) (((0 : Nat) + AU t)) Ap; let B2 := fun (t : A1) => decide ((AN t < AG)); let AA := fun (t : A0) => Value.int IntKind.i64 ((Prod.snd (Ak t))); let AB := fun (t : A0) => Value.int IntKind.i64 (B0 t); let B3 := fun (t : A0) => AV.v (AA t); let B4 := fun (t : A0) (x : A1) => A2 ∧ A9 t = Au x; let Ag := fun (x : A0) => someM (AlQ.mk (GroundT.mk long rise change ps) a e st) (A4 x) (A8 x); let B5 := fun (x t x_1 : A1) => (AP x < AP t) ∧ AQ x x_1; let B6 := fun (x : A0) => (List.length (A9 x)) - Ax x; let B7 := fun (t : A0) => Ah t < ((↑(AX t) : Int)); let Al := fun (t : A0) => ((0 : Int) ≤ Ai t) ∧ Ai t < AG; let AC := fun (t : A0) => List.getD (A9 t) (AY t) Ap; let B8 := fun (t : A0) => rfitM ps (AT t) (Ak t); let B9 := fun (t : A0) => Value.int IntKind.i64 ((Prod.fst (AC t))); let Ba := fun (t : A0) => Value.int IntKind.i64 ((Prod.snd (AC t))); let Am := fun (x : A0) => canAtM (AlQ.mk (GroundT.mk long rise change ps) a e st) (A4 x) (A8 x) (Ax x); let Bb := fun (t : A0) => !Am t; let Bc := fun (x : A0) => Value.bool (Am x); let Bd := fun (t : A0) => Am t = true; let Be := fun (t : A0) (x : A1) => Ab ∧ (Ad ∧ (Ac ∧ (Aa ∧ (nat_lit 0 = nat_lit 0 ∧ (nat_lit 0 = nat_lit 0 ∧ ((Af t = Av x) ∧ (nat_lit 0 = nat_lit 0 ∧ (((Value.int IntKind.i64 ((IntKind.wrap IntKind.i64 ((Ai t + (1 : Int)))))) = Aw x) ∧ True)))))))); let Bf := fun (t x : A0) => (A4 t = A4 x) ∧ A8 t = A8 x; let Bg := fun (t : A0) => decide (B7 t); let Bh := fun (t : A0) => ((AB t = AB t) ∧ (AA t = AA t) ∧ True) ∧ True; let Bl := fun (t : A0) (t_1 x : A1) => ∃ (x_1 : A1), ((Be t x_1 ∧ True ∧ ps = ps ∧ A3 ∧ A6 ∧ B4 t x_1 ∧ (A2 ∧ Ag t = Ae x_1) ∧ True) ∧ B5 x_1 t_1 x); let Bi := fun (t : A0) (t_1 x : A1) => True ∧ Bl t t_1 x; let Bj := fun (t : A0) (t_1 x : A1) => (Am t = false) → Bi t t_1 x; let Bm := fun (t : A0) (t_1 x : A1) => ∃ (x_1 : A1), ((Be t x_1 ∧ (True ∧ (ps = ps ∧ (A3 ∧ (A6 ∧ (B4 t x_1 ∧ (((nat_lit 154 = An) ∧ ((Ag t ++ (List.take (1 : Nat) ((List.drop (0 : Nat) (([((B0 t, (Prod.snd (B1 t))))])))))) = Ae x_1)) ∧ True))))))) ∧ B5 x_1 t_1 x); let Bk := fun (t : A0) (t_1 x : A1) => Az t ∧ ((List.length ps < nat_lit 1000) ∧ ((A3 ∧ (Af t = Af t) ∧ Bh t) ∧ (AE ∧ (((B8 t = true) → (Al t ∧ Az t ∧ (nat_lit 1 = nat_lit 1 ∧ ((AV.v (AB t)) = (AV.v ((Value.int IntKind.i64 ((Prod.fst (B1 t))))))) ∧ (B3 t = B3 t) ∧ True) ∧ nat_lit 1 ≤ nat_lit 1 ∧ (((List.length (Ag t)) + nat_lit 1) ≤ nat_lit 1099511627776) ∧ True ∧ Bm t t_1 x)) ∧ ((B8 t = false) → Bi t t_1 x))))); True ∧ True ∧ True ∧ (∃ (x : A5), AI ∧ (True ∧ AD ∧ True ∧ Ar x = [] ∧ True) ∧ (Ab ∧ Ad ∧ Ac ∧ Aa ∧ nat_lit 0 = nat_lit 0 ∧ AH ∧ Value.int IntKind.i64 e = As x ∧ True) ∧ True ∧ ps = ps ∧ A3 ∧ A6 ∧ True ∧ True) ∧ ∀ (t : A5), ∃ (x : A1), ((True ∧ True ∧ AI) ∧ (True ∧ AD ∧ True ∧ True ∧ Ae x = [] ∧ True) ∧ (Ab ∧ Ad ∧ Ac ∧ Aa ∧ nat_lit 0 = nat_lit 0 ∧ nat_lit 0 = nat_lit 0 ∧ As t = Av x ∧ AH ∧ AF = Aw x ∧ True) ∧ True ∧ ps = ps ∧ A3 ∧ A6 ∧ (A2 ∧ Ar t = Au x) ∧ True ∧ True) ∧ A7 x = A7 x ∧ ∀ (t_1 : A1), AQ t_1 x → (B2 t_1 = true → ∃ (x_1 : A0), ((Ab ∧ Ad ∧ Ac ∧ Aa ∧ nat_lit 0 = nat_lit 0 ∧ nat_lit 0 = nat_lit 0 ∧ Av t_1 = Af x_1 ∧ nat_lit 0 = nat_lit 0 ∧ Aw t_1 = Ay x_1 ∧ Value.bool (Aj t_1 == e) = Bc x_1 ∧ AF = AW x_1 ∧ True) ∧ True ∧ ps = ps ∧ A3 ∧ A6 ∧ (A2 ∧ Au t_1 = A9 x_1) ∧ (A2 ∧ Ae t_1 = Ag x_1) ∧ True) ∧ (A4 x_1 = A4 x_1 ∧ A8 x_1 = A8 x_1) ∧ ∀ (t : A0), Bf t x_1 → (Bg t = true → (Bb t = true → ((0 : Int) ≤ Ah t ∧ B7 t) ∧ AY t < AX t ∧ Al t ∧ Az t ∧ True ∧ (A3 ∧ (B9 t = B9 t ∧ Ba t = Ba t ∧ True) ∧ Bh t) ∧ AE ∧ True ∧ ∃ (x : A0), ((Ab ∧ Ad ∧ Ac ∧ Aa ∧ nat_lit 0 = nat_lit 0 ∧ nat_lit 0 = nat_lit 0 ∧ Af t = Af x ∧ nat_lit 0 = nat_lit 0 ∧ Ay t = Ay x ∧ Value.bool (rnearM change (AC t) (Ak t)) = Bc x ∧ Value.int IntKind.i64 (IntKind.wrap IntKind.i64 (Ah t + (1 : Int))) = AW x ∧ True) ∧ True ∧ ps = ps ∧ A3 ∧ A6 ∧ (A2 ∧ A9 t = A9 x) ∧ (A2 ∧ Ag t = Ag x) ∧ True) ∧ B6 x < B6 t ∧ Bf x x_1) ∧ (Bb t = false → (Bd t → Al t ∧ Bk t t_1 x) ∧ Bj t t_1 x)) ∧ (Bg t = false → (Bd t → Al t ∧ Bk t t_1 x) ∧ Bj t t_1 x)) ∧ (B2 t_1 = false → (AO t_1 = true → True ∧ (nat_lit 0 = nat_lit 0 ∧ True) ∧ True ∧ ps = ps ∧ (A2 ∧ Ae t_1 = chM (GroundT.mk long rise change ps) e st AK) ∧ True) ∧ (AO t_1 = false → True ∧ ∃ (x : A5), ((Ab ∧ Ad ∧ Ac ∧ Aa ∧ nat_lit 0 = nat_lit 0 ∧ nat_lit 0 = nat_lit 0 ∧ Value.int IntKind.i64 (IntKind.wrap IntKind.i64 (Aj t_1 + st)) = As x ∧ True) ∧ True ∧ ps = ps ∧ A3 ∧ A6 ∧ (A2 ∧ Ae t_1 = Ar x) ∧ True) ∧ AL x < AL t)))
    (by kernel_rfl) ?_
  simp only [eq_self, AE.goS]
  obtain ⟨h1, ⟨he0, he1⟩, ⟨ha0, ha1⟩, hst⟩ := hx
  have hps : ps.length < 1000 := h1
  have he0' : 0 ≤ e := he0
  have he1' : e ≤ 40 := he1
  have ha0' : 0 ≤ a := ha0
  have ha1' : a ≤ 40 := ha1
  have hst' : (st = 1 ∧ e ≤ a) ∨ (st = -1 ∧ a ≤ e) := hst
  obtain ⟨Q, hQ⟩ : ∃ Q : AlQ, Q = ⟨⟨long, rise, change, ps⟩, a, e, st⟩ := ⟨_, rfl⟩
  have hal := all_len ps
  have hn : (alN Q : Int) = (a - e) * st := by
    rw [hQ]
    show (((a - e) * st).toNat : Int) = _
    rcases hst' with ⟨h, h'⟩ | ⟨h, h'⟩ <;> subst h <;> omega
  have hxk : ∀ k : Nat, xAtM e st k = e + st * (k : Int) := fun _ => rfl
  have hfirst : ∀ k : Nat, (xAtM e st k == e) = firstM k := fun k => by
    rw [hxk]
    unfold firstM
    rcases hst' with ⟨h, _⟩ | ⟨h, _⟩ <;> subst h
    · cases k with
      | zero => simp
      | succ k => rw [beq_eq_false_iff_ne.2 (by omega), beq_eq_false_iff_ne.2 (by omega)]
    · cases k with
      | zero => simp
      | succ k => rw [beq_eq_false_iff_ne.2 (by omega), beq_eq_false_iff_ne.2 (by omega)]
  have hn40 : alN Q ≤ 40 := by rcases hst' with ⟨h, _⟩ | ⟨h, _⟩ <;> subst h <;> omega
  have hend : ∀ k : Nat, k ≤ alN Q → ((xAtM e st k == a) = true ↔ k = alN Q) := fun k hk => by
    rw [hxk, beq_iff_eq]
    rcases hst' with ⟨h, _⟩ | ⟨h, _⟩ <;> subst h <;> omega
  have hnext : ∀ k : Nat, k ≤ 40 → IntKind.i64.wrap (xAtM e st k + st) = xAtM e st (k + 1) := fun k hk => by
    rw [hxk, hxk]
    rcases hst' with ⟨h, _⟩ | ⟨h, _⟩ <;> subst h <;> (rw [wrap_id (by omega) (by omega)]; omega)
  rw [show ((a - e) * st).toNat = alN Q by rw [hQ]; rfl]
  rw [← hQ]
  refine ⟨⟨⟨0, Nat.zero_le _⟩, rfl, by show e = e + st * ((0 : Nat) : Int); simp⟩, fun t => ?_⟩
  obtain ⟨k, hk⟩ := t
  refine ⟨⟨(k, 0), hk, Nat.zero_le _⟩, ⟨rfl, ⟨rfl, rfl⟩, rfl⟩, fun p hp => ?_⟩
  obtain ⟨⟨k', i⟩, p1, p2⟩ := p
  have hp' : k' = k := hp
  subst hp'
  refine ⟨fun hi => ?_, fun hi => ?_⟩
  · have hlt : i < (allM ps).length := by have h0 : (i : Int) < ((allM ps).length : Int) := hi; omega
    refine ⟨⟨(k', i, 0), p1, hlt, Nat.zero_le _⟩, ⟨⟨rfl, rfl, ?_, rfl⟩, rfl, rfl⟩, fun q hq => ?_⟩
    · show (xAtM e st k' == e) = (firstM k' || List.any [] _)
      rw [hfirst, List.any_nil, Bool.or_false]
    obtain ⟨⟨k2, i2, j⟩, q1, q2, q3⟩ := q
    have hq1 : k2 = k' := hq.1
    have hq2 : i2 = i := hq.2
    subst hq1 hq2
    have hcan : ∀ j, canAtM Q k2 i2 j = (firstM k2 || ((prM ⟨long, rise, change, ps⟩ e st k2).take j).any fun a => rnearM change a (mAtM ps i2)) := fun j => by rw [hQ]; rfl
    have hfull : canPM change (firstM k2) (prM ⟨long, rise, change, ps⟩ e st k2) (mAtM ps i2) = (firstM k2 || (prM ⟨long, rise, change, ps⟩ e st k2).any fun a => rnearM change a (mAtM ps i2)) := rfl
    have tail := fun (c : Bool) (hc : c = canPM change (firstM k2) (prM ⟨long, rise, change, ps⟩ e st k2) (mAtM ps i2)) => al_tail Q (by rw [hQ]; exact hps) (k := k2) (i := i2) p1 (by rw [hQ]; exact hlt) (c := c) (by rw [hQ]; exact hc)
    have hmono : canAtM Q k2 i2 j = true → canAtM Q k2 i2 j = canPM change (firstM k2) (prM ⟨long, rise, change, ps⟩ e st k2) (mAtM ps i2) := fun h => by
      rw [h, hfull]
      rw [hcan] at h
      rcases Bool.or_eq_true _ _ ▸ h with h | h
      · rw [h]; rfl
      · obtain ⟨z, hz, hn⟩ := List.any_eq_true.1 h
        have : (prM ⟨long, rise, change, ps⟩ e st k2).any (fun a => rnearM change a (mAtM ps i2)) = true := List.any_eq_true.2 ⟨z, List.mem_of_mem_take hz, hn⟩
        rw [this, Bool.or_true]
    have hle : j ≤ (prM ⟨long, rise, change, ps⟩ e st k2).length := q3
    refine ⟨fun hj => ⟨fun hc => ?_, fun hc => ?_⟩, fun hj => ?_⟩
    · have hlj : j < (prM ⟨long, rise, change, ps⟩ e st k2).length := by have h0 : (j : Int) < ((prM ⟨long, rise, change, ps⟩ e st k2).length : Int) := hj; omega
      have hc' : canAtM Q k2 i2 j = false := by
        have h0 : (!canAtM Q k2 i2 j) = true := hc
        simpa using h0
      have hj1000 : j < 1000 := by
        have : (prM ⟨long, rise, change, ps⟩ e st k2).length ≤ 231 := by
          cases k2 with
          | zero => exact Nat.zero_le _
          | succ k => 
            show (chM _ _ _ k).length ≤ 231
            rw [ch_step]
            have := List.length_filter_le (takesM ⟨long, rise, change, ps⟩ (xAtM e st k) (firstM k) (prM ⟨long, rise, change, ps⟩ e st k)) (allM ps)
            rw [hal] at this
            exact this
        omega
      refine ⟨⟨Int.natCast_nonneg _, hj⟩, hlj, ⟨Int.natCast_nonneg _, hi⟩, hlt, ⟨(k2, i2, j + 1), p1, hlt, hlj⟩, ⟨⟨rfl, rfl, ?_, sucI j (by omega)⟩, rfl, rfl⟩, ?_, rfl, rfl⟩
      · show rnearM change ((prM ⟨long, rise, change, ps⟩ e st k2).getD j (0, 0)) ((allM ps).getD i2 (0, 0)) = canAtM Q k2 i2 (j + 1)
        rw [hcan, take_snoc _ j hlj (0, 0), List.any_append, ← Bool.or_assoc, ← hcan, hc', Bool.false_or]
        simp [mAtM]
      · show (prM ⟨long, rise, change, ps⟩ e st k2).length - (j + 1) < (prM ⟨long, rise, change, ps⟩ e st k2).length - j; omega
    · have hc' : canAtM Q k2 i2 j = true := by
        have h0 : (!canAtM Q k2 i2 j) = false := hc
        simpa using h0
      have h := tail (canAtM Q k2 i2 j) (hmono hc')
      subst hQ
      exact h
    · have hlj : j = (prM ⟨long, rise, change, ps⟩ e st k2).length := by have h0 : ¬ (j : Int) < ((prM ⟨long, rise, change, ps⟩ e st k2).length : Int) := hj; omega
      have h := tail (canAtM Q k2 i2 j) (by rw [hcan, hfull, hlj, List.take_length])
      subst hQ
      exact h
  · have hie : i = (allM ps).length := by have h0 : ¬ (i : Int) < ((allM ps).length : Int) := hi; have h1 : i ≤ (allM ps).length := p2; omega
    subst hie
    have hdone : someM Q k' (allM ps).length = chM ⟨long, rise, change, ps⟩ e st k' := by
      rw [ch_step, hQ]
      show ((allM ps).take (allM ps).length).filter _ = _
      rw [List.take_length]; rfl
    refine ⟨fun h => ?_, fun h => ⟨⟨k' + 1, ?_⟩, ⟨hnext k' (by have : k' ≤ alN Q := hk; omega), hdone⟩, ?_⟩⟩
    · have := (hend k' hk).1 h
      show someM Q k' (allM ps).length = _
      rw [hdone, ← this]
    · have hne : k' ≠ alN Q := fun hc => by
        have := (hend k' hk).2 hc
        rw [show (xAtM e st k' == a) = false from h] at this; cases this
      have : k' ≤ alN Q := hk
      omega
    · have hne : k' ≠ alN Q := fun hc => by
        have := (hend k' hk).2 hc
        rw [show (xAtM e st k' == a) = false from h] at this; cases this
      have : k' ≤ alN Q := hk
      show alN Q - (k' + 1) < alN Q - k'; omega

theorem along_sound : Sound Tryz.prog 104 alongS.con := FSpec.sound _ (enter_of Tryz.func104 (by kernel_rfl) (by kernel_rfl)) along_ok
end AE.Soil

namespace AE.Soil
open Go AE Go.Proofs

def D (p k : Int) : Int := max (k - p) (p - k)
theorem D_nonneg (p k : Int) : 0 ≤ D p k := by unfold D; omega
theorem D_self (p : Int) : D p p = 0 := by unfold D; omega
theorem D_tri (p j k : Int) : D p k ≤ D p j + D j k := by unfold D; omega
theorem D_le {p k n : Int} (h1 : 0 ≤ p) (h2 : p ≤ n) (h3 : 0 ≤ k) (h4 : k ≤ n) : D p k ≤ n := by unfold D; omega
theorem D_suc (k : Int) : D k (k + 1) = 1 := by unfold D; omega
theorem D_pre (k : Int) : D (k + 1) k = 1 := by unfold D; omega
theorem DR_tri (p j k r : Int) (hr : 0 ≤ r) : D p k * r ≤ D p j * r + D j k * r := by
  rw [← Int.add_mul]; exact Int.mul_le_mul_of_nonneg_right (D_tri p j k) hr
theorem DR_nonneg (p k r : Int) (hr : 0 ≤ r) : 0 ≤ D p k * r := Int.mul_nonneg (D_nonneg p k) hr
theorem DR_le {p k n r m : Int} (h : D p k ≤ n) (hr : 0 ≤ r) (hm : r ≤ m) (hn : 0 ≤ n) : D p k * r ≤ n * m := Int.mul_le_mul h hm hr hn

def Pl (g : GroundT) (k : Int) : Prop := 0 ≤ k ∧ k ≤ g.long
theorem far_eq {g : GroundT} (hg : GOk g) {p : PitT} (hp : PitOk g.long p) {k : Int} (hk : Pl g k) : farM p k g.rise = D p.1 k * g.rise ∧ 0 ≤ D p.1 k * g.rise ∧ D p.1 k * g.rise ≤ 40000 := by
  have h1 := hp.at_
  have h2 := hg.long
  have h3 := hg.rise
  have h4 : D p.1 k ≤ 40 := D_le h1.1 (by omega) hk.1 (by have := hk.2; omega)
  have h5 := DR_nonneg p.1 k g.rise h3.1
  have h6 : D p.1 k * g.rise ≤ 40000 := DR_le h4 h3.1 h3.2 (by omega)
  have hk1 := hk.1
  have hk2 := hk.2
  refine ⟨?_, h5, h6⟩
  unfold farM
  rw [show W (k - p.1) = k - p.1 from wrap_id (by omega) (by omega), show W (p.1 - k) = p.1 - k from wrap_id (by omega) (by omega)]
  exact wrap_id (by show _ ≤ D p.1 k * g.rise; omega) (by show D p.1 k * g.rise ≤ _; omega)
theorem dug_eq {g : GroundT} (hg : GOk g) {p : PitT} (hp : PitOk g.long p) {k : Int} (hk : Pl g k) : dugM p k g.rise = (p.2.1.1 - D p.1 k * g.rise, p.2.1.2 + D p.1 k * g.rise) := by
  obtain ⟨h1, h2, h3⟩ := far_eq hg hp hk
  have h4 : 0 ≤ p.2.1.1 ∧ p.2.1.1 ≤ p.2.1.2 ∧ p.2.1.2 ≤ 1000 := hp.hard
  unfold dugM
  rw [h1]
  rw [show W (p.2.1.1 - D p.1 k * g.rise) = p.2.1.1 - D p.1 k * g.rise from wrap_id (by omega) (by omega), show W (p.2.1.2 + D p.1 k * g.rise) = p.2.1.2 + D p.1 k * g.rise from wrap_id (by omega) (by omega)]
theorem fold_lo {α : Type} (f : α → Span) (v : Int) : ∀ (l : List α) (s : Span), (l.foldl (fun s t => bothM s (f t)) s).1 ≤ v ↔ s.1 ≤ v ∧ ∀ t ∈ l, (f t).1 ≤ v
  | [], s => by simp
  | x :: l, s => by
    rw [List.foldl_cons, fold_lo f v l]
    simp only [bothM, List.forall_mem_cons]
    constructor
    · rintro ⟨h1, h2⟩; exact ⟨by omega, by omega, h2⟩
    · rintro ⟨h1, h2, h3⟩; exact ⟨by omega, h3⟩
theorem fold_hi {α : Type} (f : α → Span) (v : Int) : ∀ (l : List α) (s : Span), v ≤ (l.foldl (fun s t => bothM s (f t)) s).2 ↔ v ≤ s.2 ∧ ∀ t ∈ l, v ≤ (f t).2
  | [], s => by simp
  | x :: l, s => by
    rw [List.foldl_cons, fold_hi f v l]
    simp only [bothM, List.forall_mem_cons]
    constructor
    · rintro ⟨h1, h2⟩; exact ⟨by omega, by omega, h2⟩
    · rintro ⟨h1, h2, h3⟩; exact ⟨by omega, h3⟩
theorem hard_lo {g : GroundT} (hg : GOk g) {k : Int} (hk : Pl g k) (v : Int) : (hardM g k).1 ≤ v ↔ 0 ≤ v ∧ ∀ p ∈ g.pits, p.2.1.1 - D p.1 k * g.rise ≤ v := by
  unfold hardM hardTM
  rw [fold_lo (fun t => tellM t k g.rise), tells_eq]
  simp only [List.forall_mem_cons, List.forall_mem_map, tellM, if_true]
  constructor
  · rintro ⟨h1, _, h3⟩
    refine ⟨h1, fun p hp => ?_⟩
    have := h3 p hp
    simp only [Bool.false_eq_true, if_false] at this
    rw [dug_eq hg (hg.pits p hp) hk] at this; exact this
  · rintro ⟨h1, h3⟩
    refine ⟨h1, h1, fun p hp => ?_⟩
    simp only [Bool.false_eq_true, if_false]
    rw [dug_eq hg (hg.pits p hp) hk]; exact h3 p hp
theorem hard_hi {g : GroundT} (hg : GOk g) {k : Int} (hk : Pl g k) (v : Int) : v ≤ (hardM g k).2 ↔ v ≤ 1000 ∧ ∀ p ∈ g.pits, v ≤ p.2.1.2 + D p.1 k * g.rise := by
  unfold hardM hardTM
  rw [fold_hi (fun t => tellM t k g.rise), tells_eq]
  simp only [List.forall_mem_cons, List.forall_mem_map, tellM, if_true]
  constructor
  · rintro ⟨h1, _, h3⟩
    refine ⟨h1, fun p hp => ?_⟩
    have := h3 p hp
    simp only [Bool.false_eq_true, if_false] at this
    rw [dug_eq hg (hg.pits p hp) hk] at this; exact this
  · rintro ⟨h1, h3⟩
    refine ⟨h1, h1, fun p hp => ?_⟩
    simp only [Bool.false_eq_true, if_false]
    rw [dug_eq hg (hg.pits p hp) hk]; exact h3 p hp
theorem hard_ge0 {g : GroundT} (hg : GOk g) {k : Int} (hk : Pl g k) : 0 ≤ (hardM g k).1 := ((hard_lo hg hk _).1 (Int.le_refl _)).1
theorem hard_le1000 {g : GroundT} (hg : GOk g) {k : Int} (hk : Pl g k) : (hardM g k).2 ≤ 1000 := ((hard_hi hg hk _).1 (Int.le_refl _)).1
theorem lip_lo {g : GroundT} (hg : GOk g) {j k : Int} (hj : Pl g j) (hk : Pl g k) : (hardM g j).1 ≤ (hardM g k).1 + D j k * g.rise := by
  obtain ⟨h1, h2⟩ := (hard_lo hg hk _).1 (Int.le_refl _)
  refine (hard_lo hg hj _).2 ⟨by have := DR_nonneg j k g.rise hg.rise.1; omega, fun p hp => ?_⟩
  have := h2 p hp
  have := DR_tri p.1 j k g.rise hg.rise.1
  omega
theorem lip_hi {g : GroundT} (hg : GOk g) {j k : Int} (hj : Pl g j) (hk : Pl g k) : (hardM g k).2 ≤ (hardM g j).2 + D j k * g.rise := by
  obtain ⟨h1, h2⟩ := (hard_hi hg hk _).1 (Int.le_refl _)
  have : (hardM g k).2 - D j k * g.rise ≤ (hardM g j).2 := by
    refine (hard_hi hg hj _).2 ⟨by have := DR_nonneg j k g.rise hg.rise.1; omega, fun p hp => ?_⟩
    have := h2 p hp
    have := DR_tri p.1 j k g.rise hg.rise.1
    omega
  omega
structure HTr (g : GroundT) (h : Int → Int) : Prop where
  bound : ∀ k, Pl g k → 0 ≤ h k ∧ h k ≤ 1000
  step : ∀ k, Pl g k → Pl g (k + 1) → h (k + 1) ≤ h k + g.rise ∧ h k ≤ h (k + 1) + g.rise
  pits : ∀ p ∈ g.pits, p.2.1.1 ≤ h p.1 ∧ h p.1 ≤ p.2.1.2
theorem HTr.up {g : GroundT} {h : Int → Int} (t : HTr g h) {k : Int} (hk : Pl g k) : ∀ n : Nat, Pl g (k + n) → h (k + n) ≤ h k + n * g.rise ∧ h k ≤ h (k + n) + n * g.rise
  | 0, _ => by simp
  | n + 1, hn => by
    have hk1 := hk.1
    have hk2 := hk.2
    have hn1 : 0 ≤ k + ((n + 1 : Nat) : Int) := hn.1
    have hn2 : k + ((n + 1 : Nat) : Int) ≤ g.long := hn.2
    have hp : Pl g (k + n) := ⟨by omega, by omega⟩
    obtain ⟨i1, i2⟩ := t.up hk n hp
    have he : k + ((n + 1 : Nat) : Int) = k + n + 1 := by omega
    obtain ⟨s1, s2⟩ := t.step (k + n) hp (by rw [← he]; exact hn)
    have hm : ((n + 1 : Nat) : Int) * g.rise = n * g.rise + g.rise := by rw [Int.natCast_succ, Int.add_mul, Int.one_mul]
    rw [he, hm]
    exact ⟨by omega, by omega⟩
theorem HTr.lip {g : GroundT} {h : Int → Int} (t : HTr g h) {j k : Int} (hj : Pl g j) (hk : Pl g k) : h j ≤ h k + D j k * g.rise ∧ h k ≤ h j + D j k * g.rise := by
  rcases Int.le_total j k with hl | hl
  · obtain ⟨n, hn⟩ := Int.eq_ofNat_of_zero_le (show 0 ≤ k - j by omega)
    have he : k = j + n := by omega
    subst he
    have := t.up hj n hk
    have hd : D j (j + n) = n := by unfold D; omega
    rw [hd]; omega
  · obtain ⟨n, hn⟩ := Int.eq_ofNat_of_zero_le (show 0 ≤ j - k by omega)
    have he : j = k + n := by omega
    subst he
    have := t.up hk n hj
    have hd : D (k + n) k = n := by unfold D; omega
    rw [hd]; omega
theorem HTr.inside {g : GroundT} (hg : GOk g) {h : Int → Int} (t : HTr g h) {k : Int} (hk : Pl g k) : (hardM g k).1 ≤ h k ∧ h k ≤ (hardM g k).2 := by
  obtain ⟨b1, b2⟩ := t.bound k hk
  refine ⟨(hard_lo hg hk _).2 ⟨b1, fun p hp => ?_⟩, (hard_hi hg hk _).2 ⟨b2, fun p hp => ?_⟩⟩
  · have := t.lip (hg.pits p hp).at_ hk
    have := t.pits p hp
    omega
  · have := t.lip (hg.pits p hp).at_ hk
    have := t.pits p hp
    omega
def HOk (g : GroundT) : Prop := ∀ k, Pl g k → (hardM g k).1 ≤ (hardM g k).2
theorem hard_pit {g : GroundT} (hg : GOk g) {p : PitT} (hp : p ∈ g.pits) : p.2.1.1 ≤ (hardM g p.1).1 ∧ (hardM g p.1).2 ≤ p.2.1.2 := by
  have hk : Pl g p.1 := (hg.pits p hp).at_
  have h1 := ((hard_lo hg hk _).1 (Int.le_refl _)).2 p hp
  have h2 := ((hard_hi hg hk _).1 (Int.le_refl _)).2 p hp
  rw [D_self] at h1 h2
  omega
theorem HOk.low {g : GroundT} (hg : GOk g) (h : HOk g) : HTr g fun k => (hardM g k).1 where
  bound := fun k hk => ⟨hard_ge0 hg hk, Int.le_trans (h k hk) (hard_le1000 hg hk)⟩
  step := fun k hk hk1 => by
    have h1 := lip_lo hg hk1 hk
    have h2 := lip_lo hg hk hk1
    rw [D_pre, Int.one_mul] at h1
    rw [D_suc, Int.one_mul] at h2
    exact ⟨h1, h2⟩
  pits := fun p hp => by
    have h1 := hard_pit hg hp
    have h2 := h p.1 (hg.pits p hp).at_
    exact ⟨h1.1, by omega⟩
theorem HTr.ok {g : GroundT} (hg : GOk g) {h : Int → Int} (t : HTr g h) : HOk g := fun k hk => by
  have := t.inside hg hk
  omega
theorem hok_iff {g : GroundT} (hg : GOk g) : HOk g ↔ ∃ h, HTr g h := ⟨fun h => ⟨_, h.low hg⟩, fun ⟨_, t⟩ => t.ok hg⟩

theorem place_of {g : GroundT} (hg : GOk g) {k : Int} (hk : Pl g k) : ∃ j : Nat, k = (j : Int) ∧ j < nM g := by
  obtain ⟨h0, h1, h2⟩ := n_ok hg
  obtain ⟨j, rfl⟩ := Int.eq_ofNat_of_zero_le hk.1
  exact ⟨j, rfl, by have := hk.2; omega⟩
theorem pl_of {g : GroundT} (hg : GOk g) {j : Nat} (h : j < nM g) : Pl g (j : Int) := by
  obtain ⟨h0, h1, h2⟩ := n_ok hg
  exact ⟨by omega, by omega⟩
theorem look_iff (g : GroundT) : lookM g = true ↔ ∀ j, j < nM g → (hardM g (j : Int)).1 ≤ (hardM g (j : Int)).2 ∧ noneM ((boxesM g).getD j m0) = false := by
  unfold lookM
  rw [List.all_eq_true]
  simp only [List.mem_range]
  constructor
  · intro h j hj
    have h' := h j hj
    unfold badM at h'
    simp only [Bool.not_or, Bool.and_eq_true, Bool.not_eq_true', decide_eq_false_iff_not] at h'
    exact ⟨by omega, h'.2⟩
  · intro h j hj
    have h' := h j hj
    unfold badM
    simp only [Bool.not_or, Bool.and_eq_true, Bool.not_eq_true', decide_eq_false_iff_not]
    exact ⟨by omega, h'.2⟩
theorem look_hok {g : GroundT} (hg : GOk g) (h : lookM g = true) : HOk g := fun k hk => by
  obtain ⟨j, rfl, hj⟩ := place_of hg hk
  exact ((look_iff g).1 h j hj).1
theorem err_of {g : GroundT} (hg : groundM g = true) {a : Ask} {l : List Int} (ha : l.all (askM a g.long) = true) : openErrM g a l = if lookM g then 0 else 10 := open_look hg ha
theorem hard_told {g : GroundT} (hg : groundM g = true) {k : Int} (hk : Pl g k) : hardOM g k = if lookM g then (hardM g k, 0) else ((0, 0), 10) := by
  have ha : [k].all (askM .place g.long) = true := by simp [askM, inM]; exact hk
  unfold hardOM
  rw [err_of hg ha]
  cases lookM g <;> rfl
def sumM (g : GroundT) (a : Nat) : Nat → Span
  | 0 => (0, 0)
  | i + 1 => ((sumM g a i).1 + (hardM g ((a + i : Nat) : Int)).1, (sumM g a i).2 + (hardM g ((a + i : Nat) : Int)).2)
theorem sum_bound {g : GroundT} (hg : GOk g) (h : HOk g) (a : Nat) : ∀ i, a + i ≤ nM g → 0 ≤ (sumM g a i).1 ∧ (sumM g a i).1 ≤ (sumM g a i).2 ∧ (sumM g a i).2 ≤ 1000 * i
  | 0, _ => by simp [sumM]
  | i + 1, hi => by
    obtain ⟨h1, h2, h3⟩ := sum_bound hg h a i (by omega)
    have hk := pl_of hg (show a + i < nM g by omega)
    have := hard_ge0 hg hk
    have := h _ hk
    have := hard_le1000 hg hk
    simp only [sumM]
    omega
theorem workAt_eq {g : GroundT} (hg : GOk g) (h : HOk g) (a : Int) : ∀ i, a.toNat + i ≤ nM g → workAtM g a i = sumM g a.toNat i
  | 0, _ => rfl
  | i + 1, hi => by
    have e := workAt_eq hg h a i (by omega)
    obtain ⟨h1, h2, h3⟩ := sum_bound hg h a.toNat i (by omega)
    have hn := (n_ok hg).2.2
    have hk := pl_of hg (show a.toNat + i < nM g by omega)
    have := hard_ge0 hg hk
    have := h _ hk
    have := hard_le1000 hg hk
    rw [workAtM, e, hards_get (by omega), sumM, show W ((sumM g a.toNat i).1 + (hardM g ((a.toNat + i : Nat) : Int)).1) = _ from wrap_id (by omega) (by omega), show W ((sumM g a.toNat i).2 + (hardM g ((a.toNat + i : Nat) : Int)).2) = _ from wrap_id (by omega) (by omega)]
theorem work_told {g : GroundT} (hg : groundM g = true) {a b : Int} (ha : Pl g a) (hb : Pl g b) (hab : a ≤ b) : workOM g a b = if lookM g then (sumM g a.toNat (b.toNat + 1 - a.toNat), 0) else ((0, 0), 10) := by
  have hs : [a, b].all (askM (.span (spanOkM a b)) g.long) = true := by simp [askM, inM, spanOkM]; exact ⟨⟨ha, hab⟩, hb, hab⟩
  have hok := ground_ok hg
  have hn := n_ok hok
  have hb2 := hb.2
  have hb1 := hb.1
  have ha1 := ha.1
  unfold workOM workErrM
  rw [err_of hg hs]
  cases hl : lookM g with
  | false => rfl
  | true =>
    have hw : W (b + 1) = b + 1 := wrap_id (by omega) (by omega)
    have e : workNM a b = b.toNat + 1 - a.toNat := by unfold workNM; rw [hw]; omega
    show (workAtM g a (workNM a b), (0 : Int)) = _
    rw [e, workAt_eq hok (look_hok hok hl) a _ (by omega)]; rfl
end AE.Soil

namespace AE.Soil
open Go AE Go.Proofs

abbrev T3 := Int × Int × Int
def Ok3 (x : T3) : Prop := x.1 + x.2.1 + x.2.2 = 20 ∧ 0 ≤ x.1 ∧ 0 ≤ x.2.1 ∧ 0 ≤ x.2.2
def In (s : Span) (n : Int) : Prop := s.1 ≤ n ∧ n ≤ s.2
def Mem (m : Mix3) (x : T3) : Prop := x.1 + x.2.1 + x.2.2 = 20 ∧ In m.1 x.1 ∧ In m.2.1 x.2.1 ∧ In m.2.2 x.2.2
structure Tight (m : Mix3) : Prop where
  a : 0 ≤ m.1.1 ∧ m.1.1 ≤ m.1.2 ∧ m.1.2 ≤ 20
  b : 0 ≤ m.2.1.1 ∧ m.2.1.1 ≤ m.2.1.2 ∧ m.2.1.2 ≤ 20
  c : 0 ≤ m.2.2.1 ∧ m.2.2.1 ≤ m.2.2.2 ∧ m.2.2.2 ≤ 20
  la : 20 ≤ m.1.1 + m.2.1.2 + m.2.2.2
  lb : 20 ≤ m.1.2 + m.2.1.1 + m.2.2.2
  lc : 20 ≤ m.1.2 + m.2.1.2 + m.2.2.1
  ha : m.1.2 + m.2.1.1 + m.2.2.1 ≤ 20
  hb : m.1.1 + m.2.1.2 + m.2.2.1 ≤ 20
  hc : m.1.1 + m.2.1.1 + m.2.2.2 ≤ 20
def Bd1 (n : Int) : Prop := -60 ≤ n ∧ n ≤ 60
structure Bd (m : Mix3) : Prop where
  a : Bd1 m.1.1 ∧ Bd1 m.1.2
  b : Bd1 m.2.1.1 ∧ Bd1 m.2.1.2
  c : Bd1 m.2.2.1 ∧ Bd1 m.2.2.2
def Good (m : Mix3) : Prop := (noneM m = true ∧ Bd m) ∨ Tight m
theorem none_iff (m : Mix3) : noneM m = true ↔ (m.1.1 > m.1.2 ∨ m.2.1.1 > m.2.1.2) ∨ m.2.2.1 > m.2.2.2 := by simp [noneM]
theorem some_iff (m : Mix3) : noneM m = false ↔ m.1.1 ≤ m.1.2 ∧ m.2.1.1 ≤ m.2.1.2 ∧ m.2.2.1 ≤ m.2.2.2 := by
  cases h : noneM m with
  | true => rw [none_iff] at h; constructor <;> intro h2 <;> first | (cases h2; done) | omega
  | false =>
    have : ¬ noneM m = true := by rw [h]; decide
    rw [none_iff] at this
    exact ⟨fun _ => by omega, fun _ => rfl⟩
theorem Tight.some {m : Mix3} (h : Tight m) : noneM m = false := (some_iff m).2 ⟨h.a.2.1, h.b.2.1, h.c.2.1⟩
theorem Tight.bd {m : Mix3} (h : Tight m) : Bd m where
  a := by have := h.a; unfold Bd1; omega
  b := by have := h.b; unfold Bd1; omega
  c := by have := h.c; unfold Bd1; omega
theorem Good.bd {m : Mix3} (h : Good m) : Bd m := by
  rcases h with h | h
  · exact h.2
  · exact h.bd
theorem Good.tight {m : Mix3} (h : Good m) (hs : noneM m = false) : Tight m := by
  rcases h with h | h
  · rw [h.1] at hs; cases hs
  · exact h
theorem pt3 {p1 q1 p2 q2 p3 q3 s : Int} (h1 : p1 ≤ q1) (h2 : p2 ≤ q2) (h3 : p3 ≤ q3) (hl : p1 + p2 + p3 ≤ s) (hh : s ≤ q1 + q2 + q3) : ∃ x : T3, x.1 + x.2.1 + x.2.2 = s ∧ In (p1, q1) x.1 ∧ In (p2, q2) x.2.1 ∧ In (p3, q3) x.2.2 := by
  obtain ⟨a, ha⟩ : ∃ a, a = max p1 (s - q2 - q3) := ⟨_, rfl⟩
  obtain ⟨b, hb⟩ : ∃ b, b = max p2 (s - a - q3) := ⟨_, rfl⟩
  refine ⟨(a, b, s - a - b), ?_, ⟨?_, ?_⟩, ⟨?_, ?_⟩, ?_, ?_⟩ <;> dsimp only <;> omega
theorem Tight.lowA {m : Mix3} (h : Tight m) {v : Int} (hv : In m.1 v) : ∃ x, Mem m x ∧ x.1 = v := by
  obtain ⟨ha, hb, hc, la, lb, lc, ka, kb, kc⟩ := h
  obtain ⟨v1, v2⟩ := hv
  obtain ⟨x, h1, h2, h3, h4⟩ := pt3 (p1 := v) (q1 := v) (p2 := m.2.1.1) (q2 := m.2.1.2) (p3 := m.2.2.1) (q3 := m.2.2.2) (s := 20) (Int.le_refl _) hb.2.1 hc.2.1 (by omega) (by omega)
  have e : x.1 = v := by have := h2.1; have := h2.2; dsimp only at *; omega
  exact ⟨x, ⟨h1, by rw [e]; exact ⟨v1, v2⟩, h3, h4⟩, e⟩
theorem Tight.ex {m : Mix3} (h : Tight m) : ∃ x, Mem m x := by
  obtain ⟨x, hx, _⟩ := h.lowA ⟨Int.le_refl _, h.a.2.1⟩
  exact ⟨x, hx⟩
theorem Mem.some {m : Mix3} {x : T3} (h : Mem m x) : noneM m = false := by
  obtain ⟨_, h1, h2, h3⟩ := h
  exact (some_iff m).2 ⟨Int.le_trans h1.1 h1.2, Int.le_trans h2.1 h2.2, Int.le_trans h3.1 h3.2⟩
theorem Good.ex_iff {m : Mix3} (h : Good m) : noneM m = false ↔ ∃ x, Mem m x := ⟨fun hs => (h.tight hs).ex, fun ⟨_, hx⟩ => hx.some⟩
theorem Mem.ok3 {m : Mix3} (h : Good m) {x : T3} (hx : Mem m x) : Ok3 x := by
  have t := h.tight hx.some
  obtain ⟨h0, h1, h2, h3⟩ := hx
  exact ⟨h0, Int.le_trans t.a.1 h1.1, Int.le_trans t.b.1 h2.1, Int.le_trans t.c.1 h3.1⟩
theorem one_eq {a b c : Span} (hb : Bd1 b.1 ∧ Bd1 b.2) (hc : Bd1 c.1 ∧ Bd1 c.2) : oneM a b c = (max (max 0 a.1) (20 - b.2 - c.2), min (min 20 a.2) (20 - b.1 - c.1)) := by
  obtain ⟨⟨b1, b2⟩, b3, b4⟩ := hb
  obtain ⟨⟨c1, c2⟩, c3, c4⟩ := hc
  unfold oneM
  rw [show W (20 - b.2) = 20 - b.2 from wrap_id (by omega) (by omega), show W (20 - b.1) = 20 - b.1 from wrap_id (by omega) (by omega), show W (20 - b.2 - c.2) = 20 - b.2 - c.2 from wrap_id (by omega) (by omega), show W (20 - b.1 - c.1) = 20 - b.1 - c.1 from wrap_id (by omega) (by omega)]
theorem tight_eq {m : Mix3} (h : Bd m) : tightM m = ((max (max 0 m.1.1) (20 - m.2.1.2 - m.2.2.2), min (min 20 m.1.2) (20 - m.2.1.1 - m.2.2.1)), (max (max 0 m.2.1.1) (20 - m.1.2 - m.2.2.2), min (min 20 m.2.1.2) (20 - m.1.1 - m.2.2.1)), (max (max 0 m.2.2.1) (20 - m.1.2 - m.2.1.2), min (min 20 m.2.2.2) (20 - m.1.1 - m.2.1.1))) := by
  unfold tightM
  rw [one_eq h.b h.c, one_eq h.a h.c, one_eq h.a h.b]
theorem max3 {L a b c : Int} (h : L = max (max a b) c) : a ≤ L ∧ b ≤ L ∧ c ≤ L ∧ (L = a ∨ L = b ∨ L = c) := by omega
theorem min3 {L a b c : Int} (h : L = min (min a b) c) : L ≤ a ∧ L ≤ b ∧ L ≤ c ∧ (L = a ∨ L = b ∨ L = c) := by omega
theorem tight_mem {m : Mix3} (h : Bd m) (x : T3) : Mem (tightM m) x ↔ Mem m x ∧ Ok3 x := by
  rw [tight_eq h]
  unfold Mem Ok3 In
  dsimp only
  simp only [Int.max_le, Int.le_min]
  constructor
  · rintro ⟨h0, h1, h2, h3⟩
    exact ⟨⟨h0, ⟨h1.1.1.2, h1.2.1.2⟩, ⟨h2.1.1.2, h2.2.1.2⟩, ⟨h3.1.1.2, h3.2.1.2⟩⟩, h0, h1.1.1.1, h2.1.1.1, h3.1.1.1⟩
  · rintro ⟨⟨h0, h1, h2, h3⟩, _, h4, h5, h6⟩
    refine ⟨h0, ⟨⟨⟨h4, h1.1⟩, ?_⟩, ⟨?_, h1.2⟩, ?_⟩, ⟨⟨⟨h5, h2.1⟩, ?_⟩, ⟨?_, h2.2⟩, ?_⟩, ⟨⟨h6, h3.1⟩, ?_⟩, ⟨?_, h3.2⟩, ?_⟩ <;> omega
theorem end_lo {a1 a2 b1 b2 c1 c2 La Ha Lb Hb Lc Hc : Int} (la : La = max (max 0 a1) (20 - b2 - c2)) (ha : Ha = min (min 20 a2) (20 - b1 - c1)) (lb : Lb = max (max 0 b1) (20 - a2 - c2)) (hb : Hb = min (min 20 b2) (20 - a1 - c1)) (lc : Lc = max (max 0 c1) (20 - a2 - b2)) (hc : Hc = min (min 20 c2) (20 - a1 - b1))
    (na : La ≤ Ha) (nb : Lb ≤ Hb) (nc : Lc ≤ Hc) : 20 ≤ La + Hb + Hc := by
  obtain ⟨f1, f2, f3, _⟩ := max3 la
  obtain ⟨_, _, f6, _⟩ := min3 ha
  obtain ⟨g1, g2, _, _⟩ := max3 lb
  obtain ⟨_, f9, _, f7⟩ := min3 hb
  obtain ⟨g3, g4, _, _⟩ := max3 lc
  obtain ⟨_, f10, _, f8⟩ := min3 hc
  clear la ha lb hb lc hc
  rcases f7 with e1 | e1 | e1 <;> rcases f8 with e2 | e2 | e2 <;> omega
theorem end_hi {a1 a2 b1 b2 c1 c2 La Ha Lb Hb Lc Hc : Int} (la : La = max (max 0 a1) (20 - b2 - c2)) (ha : Ha = min (min 20 a2) (20 - b1 - c1)) (lb : Lb = max (max 0 b1) (20 - a2 - c2)) (hb : Hb = min (min 20 b2) (20 - a1 - c1)) (lc : Lc = max (max 0 c1) (20 - a2 - b2)) (hc : Hc = min (min 20 c2) (20 - a1 - b1))
    (na : La ≤ Ha) (nb : Lb ≤ Hb) (nc : Lc ≤ Hc) (wb : 0 ≤ b1 ∨ a2 + c1 ≤ 20) (wc : 0 ≤ c1 ∨ a2 + b1 ≤ 20) : Ha + Lb + Lc ≤ 20 := by
  obtain ⟨f1, f2, f3, _⟩ := max3 la
  obtain ⟨h1, h2, h3, _⟩ := min3 ha
  obtain ⟨g1, g2, _, f7⟩ := max3 lb
  obtain ⟨k1, k2, k3, _⟩ := min3 hb
  obtain ⟨g3, g4, _, f8⟩ := max3 lc
  obtain ⟨k4, k5, k6, _⟩ := min3 hc
  clear la ha lb hb lc hc
  rcases f7 with e1 | e1 | e1 <;> rcases f8 with e2 | e2 | e2 <;> omega
theorem six_ends {a1 a2 b1 b2 c1 c2 La Ha Lb Hb Lc Hc : Int} (la : La = max (max 0 a1) (20 - b2 - c2)) (ha : Ha = min (min 20 a2) (20 - b1 - c1)) (lb : Lb = max (max 0 b1) (20 - a2 - c2)) (hb : Hb = min (min 20 b2) (20 - a1 - c1)) (lc : Lc = max (max 0 c1) (20 - a2 - b2)) (hc : Hc = min (min 20 c2) (20 - a1 - b1))
    (na : La ≤ Ha) (nb : Lb ≤ Hb) (nc : Lc ≤ Hc) (wab : 0 ≤ b1 ∨ a2 + c1 ≤ 20) (wac : 0 ≤ c1 ∨ a2 + b1 ≤ 20) (wba : 0 ≤ a1 ∨ b2 + c1 ≤ 20) (wbc : 0 ≤ c1 ∨ b2 + a1 ≤ 20) (wca : 0 ≤ a1 ∨ c2 + b1 ≤ 20) (wcb : 0 ≤ b1 ∨ c2 + a1 ≤ 20) : Tight ((La, Ha), (Lb, Hb), (Lc, Hc)) := by
  have s1 : 20 - c2 - b2 = 20 - b2 - c2 := by omega
  have s2 : 20 - c1 - b1 = 20 - b1 - c1 := by omega
  have s3 : 20 - c2 - a2 = 20 - a2 - c2 := by omega
  have s4 : 20 - c1 - a1 = 20 - a1 - c1 := by omega
  have s5 : 20 - b2 - a2 = 20 - a2 - b2 := by omega
  have s6 : 20 - b1 - a1 = 20 - a1 - b1 := by omega
  have r1 := end_lo la ha lb hb lc hc na nb nc
  have r2 := end_lo (a1 := b1) (a2 := b2) (b1 := a1) (b2 := a2) (c1 := c1) (c2 := c2) lb hb la ha (by rw [s5]; exact lc) (by rw [s6]; exact hc) nb na nc
  have r3 := end_lo (a1 := c1) (a2 := c2) (b1 := a1) (b2 := a2) (c1 := b1) (c2 := b2) lc hc (by rw [s1]; exact la) (by rw [s2]; exact ha) (by rw [s3]; exact lb) (by rw [s4]; exact hb) nc na nb
  have t1 := end_hi la ha lb hb lc hc na nb nc wab wac
  have t2 := end_hi (a1 := b1) (a2 := b2) (b1 := a1) (b2 := a2) (c1 := c1) (c2 := c2) lb hb la ha (by rw [s5]; exact lc) (by rw [s6]; exact hc) nb na nc wba wbc
  have t3 := end_hi (a1 := c1) (a2 := c2) (b1 := a1) (b2 := a2) (c1 := b1) (c2 := b2) lc hc (by rw [s1]; exact la) (by rw [s2]; exact ha) (by rw [s3]; exact lb) (by rw [s4]; exact hb) nc na nb wca wcb
  have f1 := (max3 la).1
  have f2 := (min3 ha).1
  have f3 := (max3 lb).1
  have f4 := (min3 hb).1
  have f5 := (max3 lc).1
  have f6 := (min3 hc).1
  exact ⟨⟨f1, na, f2⟩, ⟨f3, nb, f4⟩, ⟨f5, nc, f6⟩, r1, by show 20 ≤ Ha + Lb + Hc; clear la ha lb hb lc hc; omega, by show 20 ≤ Ha + Hb + Lc; clear la ha lb hb lc hc; omega, t1, by show La + Hb + Lc ≤ 20; clear la ha lb hb lc hc; omega, by show La + Lb + Hc ≤ 20; clear la ha lb hb lc hc; omega⟩
structure Pw (m : Mix3) : Prop where
  ab : 0 ≤ m.2.1.1 ∨ m.1.2 + m.2.2.1 ≤ 20
  ac : 0 ≤ m.2.2.1 ∨ m.1.2 + m.2.1.1 ≤ 20
  ba : 0 ≤ m.1.1 ∨ m.2.1.2 + m.2.2.1 ≤ 20
  bc : 0 ≤ m.2.2.1 ∨ m.2.1.2 + m.1.1 ≤ 20
  ca : 0 ≤ m.1.1 ∨ m.2.2.2 + m.2.1.1 ≤ 20
  cb : 0 ≤ m.2.1.1 ∨ m.2.2.2 + m.1.1 ≤ 20
theorem tight_good {m : Mix3} (h : Bd m) (w : Pw m) (hs : noneM (tightM m) = false) : Tight (tightM m) := by
  rw [tight_eq h] at hs ⊢
  obtain ⟨na, nb, nc⟩ := (some_iff _).1 hs
  exact six_ends rfl rfl rfl rfl rfl rfl na nb nc w.ab w.ac w.ba w.bc w.ca w.cb
theorem tight_bd {m : Mix3} (h : Bd m) (ha : m.1.1 ≤ 20 ∧ 0 ≤ m.1.2) (hb : m.2.1.1 ≤ 20 ∧ 0 ≤ m.2.1.2) (hc : m.2.2.1 ≤ 20 ∧ 0 ≤ m.2.2.2) : Bd (tightM m) := by
  rw [tight_eq h]
  obtain ⟨⟨⟨a1, a2⟩, a3, a4⟩, ⟨⟨b1, b2⟩, b3, b4⟩, ⟨c1, c2⟩, c3, c4⟩ := h
  have up : ∀ x y z : Int, x ≤ 20 → 0 ≤ y → 0 ≤ z → Bd1 (max (max 0 x) (20 - y - z)) := fun x y z _ _ _ => by unfold Bd1; omega
  have dn : ∀ x y z : Int, 0 ≤ x → y ≤ 20 → z ≤ 20 → Bd1 (min (min 20 x) (20 - y - z)) := fun x y z _ _ _ => by unfold Bd1; omega
  exact ⟨⟨up _ _ _ ha.1 hb.2 hc.2, dn _ _ _ ha.2 hb.1 hc.1⟩, ⟨up _ _ _ hb.1 ha.2 hc.2, dn _ _ _ hb.2 ha.1 hc.1⟩, ⟨up _ _ _ hc.1 ha.2 hb.2, dn _ _ _ hc.2 ha.1 hb.1⟩⟩
theorem meet_mem (m o : Mix3) (x : T3) : Mem (meetM m o) x ↔ Mem m x ∧ Mem o x := by
  unfold Mem meetM bothM In
  dsimp only
  constructor
  · rintro ⟨h0, h1, h2, h3⟩
    exact ⟨⟨h0, by omega, by omega, by omega⟩, h0, by omega, by omega, by omega⟩
  · rintro ⟨⟨h0, h1, h2, h3⟩, _, h4, h5, h6⟩
    exact ⟨h0, by omega, by omega, by omega⟩
theorem meet_bd {m o : Mix3} (h : Bd m) (k : Bd o) : Bd (meetM m o) := by
  obtain ⟨ha, hb, hc⟩ := h
  obtain ⟨ka, kb, kc⟩ := k
  unfold Bd1 at *
  constructor <;> unfold meetM bothM Bd1 <;> dsimp only <;> omega
theorem and_mem {m o : Mix3} (h : Good m) (k : Bd o) (x : T3) : Mem (andM m o) x ↔ Mem m x ∧ Mem o x := by
  unfold andM
  by_cases hc : meetM m o = m ∨ noneM (meetM m o) = true
  · rw [if_pos hc]; exact meet_mem m o x
  · rw [if_neg hc, tight_mem (meet_bd h.bd k), meet_mem]
    exact ⟨fun hx => hx.1, fun hx => ⟨hx, hx.1.ok3 h⟩⟩
theorem and_good {m o : Mix3} (h : Good m) (k : Bd o) : Good (andM m o) := by
  unfold andM
  by_cases hc : meetM m o = m ∨ noneM (meetM m o) = true
  · rw [if_pos hc]
    rcases hc with hc | hc
    · rw [hc]; exact h
    · exact .inl ⟨hc, meet_bd h.bd k⟩
  · rw [if_neg hc]
    have hb := meet_bd h.bd k
    have hs : noneM (meetM m o) = false := by simpa using fun h => hc (.inr h)
    obtain ⟨h1, h2, h3⟩ := (some_iff _).1 hs
    have b1 : (meetM m o).1.1 ≤ (meetM m o).1.2 ∧ (meetM m o).1.2 ≤ m.1.2 ∧ m.1.1 ≤ (meetM m o).1.1 := ⟨h1, by unfold meetM bothM; dsimp only; omega, by unfold meetM bothM; dsimp only; omega⟩
    have b2 : (meetM m o).2.1.1 ≤ (meetM m o).2.1.2 ∧ (meetM m o).2.1.2 ≤ m.2.1.2 ∧ m.2.1.1 ≤ (meetM m o).2.1.1 := ⟨h2, by unfold meetM bothM; dsimp only; omega, by unfold meetM bothM; dsimp only; omega⟩
    have b3 : (meetM m o).2.2.1 ≤ (meetM m o).2.2.2 ∧ (meetM m o).2.2.2 ≤ m.2.2.2 ∧ m.2.2.1 ≤ (meetM m o).2.2.1 := ⟨h3, by unfold meetM bothM; dsimp only; omega, by unfold meetM bothM; dsimp only; omega⟩
    have hm : noneM m = false := (some_iff m).2 ⟨by omega, by omega, by omega⟩
    have t := h.tight hm
    have ta := t.a
    have tb := t.b
    have tc := t.c
    cases hn : noneM (tightM (meetM m o)) with
    | false => exact .inr (tight_good hb ⟨.inl (by omega), .inl (by omega), .inl (by omega), .inl (by omega), .inl (by omega), .inl (by omega)⟩ hn)
    | true => exact .inl ⟨hn, tight_bd hb ⟨by omega, by omega⟩ ⟨by omega, by omega⟩ ⟨by omega, by omega⟩⟩
def Near (c : Int) (x y : T3) : Prop := (x.1 - y.1 ≤ c ∧ y.1 - x.1 ≤ c) ∧ (x.2.1 - y.2.1 ≤ c ∧ y.2.1 - x.2.1 ≤ c) ∧ (x.2.2 - y.2.2 ≤ c ∧ y.2.2 - x.2.2 ≤ c)
theorem Near.symm {c : Int} {x y : T3} (h : Near c x y) : Near c y x := ⟨h.1.symm, h.2.1.symm, h.2.2.symm⟩
theorem wide_eq {s : Span} {c : Int} (hs : 0 ≤ s.1 ∧ s.2 ≤ 20) (h2 : s.1 ≤ 20 ∧ 0 ≤ s.2) (hc : 0 ≤ c ∧ c ≤ 20) : wideM s c = (s.1 - c, s.2 + c) := by
  unfold wideM
  rw [show W (s.1 - c) = s.1 - c from wrap_id (by omega) (by omega), show W (s.2 + c) = s.2 + c from wrap_id (by omega) (by omega)]
theorem next_eq {m : Mix3} (h : Tight m) {c : Int} (hc : 0 ≤ c ∧ c ≤ 20) : nextM m c = tightM ((m.1.1 - c, m.1.2 + c), (m.2.1.1 - c, m.2.1.2 + c), (m.2.2.1 - c, m.2.2.2 + c)) := by
  have ta := h.a
  have tb := h.b
  have tc := h.c
  unfold nextM
  rw [h.some, if_neg (by decide), wide_eq ⟨by omega, by omega⟩ ⟨by omega, by omega⟩ hc, wide_eq ⟨by omega, by omega⟩ ⟨by omega, by omega⟩ hc, wide_eq ⟨by omega, by omega⟩ ⟨by omega, by omega⟩ hc]
theorem next_bd {m : Mix3} (h : Tight m) {c : Int} (hc : 0 ≤ c ∧ c ≤ 20) : Bd ((m.1.1 - c, m.1.2 + c), (m.2.1.1 - c, m.2.1.2 + c), (m.2.2.1 - c, m.2.2.2 + c)) := by
  have ta := h.a
  have tb := h.b
  have tc := h.c
  constructor <;> unfold Bd1 <;> dsimp only <;> omega
theorem cut2 {l h y c : Int} (h0 : l ≤ h) (h1 : l - c ≤ y) (h2 : y ≤ h + c) (hc : 0 ≤ c) : ∃ p q : Int, l ≤ p ∧ y - c ≤ p ∧ q ≤ h ∧ q ≤ y + c ∧ (p = l ∨ p = y - c) ∧ (q = h ∨ q = y + c) ∧ p ≤ q := ⟨max l (y - c), min h (y + c), by omega, by omega, by omega, by omega, by omega, by omega, by omega⟩
theorem next_mem {m : Mix3} (h : Good m) {c : Int} (hc : 0 ≤ c ∧ c ≤ 20) (y : T3) : Mem (nextM m c) y ↔ Ok3 y ∧ ∃ x, Mem m x ∧ Near c x y := by
  cases hs : noneM m with
  | true =>
    have e : nextM m c = m := by unfold nextM; rw [hs]; rfl
    rw [e]
    constructor
    · intro hy; have := hy.some; rw [hs] at this; cases this
    · rintro ⟨_, x, hx, _⟩; have := hx.some; rw [hs] at this; cases this
  | false =>
    have t := h.tight hs
    rw [next_eq t hc, tight_mem (next_bd t hc)]
    constructor
    · rintro ⟨⟨h0, ⟨h1, h2⟩, ⟨h3, h4⟩, h5, h6⟩, hy⟩
      refine ⟨hy, ?_⟩
      dsimp only at h1 h2 h3 h4 h5 h6
      obtain ⟨ta, tb, tc, la, lb, lc, ka, kb, kc⟩ := t
      obtain ⟨p1, q1, a1, a2, a3, a4, g1, k1, r1⟩ := cut2 (y := y.1) ta.2.1 h1 h2 hc.1
      obtain ⟨p2, q2, b1, b2, b3, b4, g2, k2, r2⟩ := cut2 (y := y.2.1) tb.2.1 h3 h4 hc.1
      obtain ⟨p3, q3, c1, c2, c3, c4, g3, k3, r3⟩ := cut2 (y := y.2.2) tc.2.1 h5 h6 hc.1
      have hy1 := hy.1
      have rl : p1 + p2 + p3 ≤ 20 := by
        clear k1 k2 k3 r1 r2 r3 a1 a2 a3 a4 b1 b2 b3 b4 c1 c2 c3 c4
        rcases g1 with g1 | g1 <;> rcases g2 with g2 | g2 <;> rcases g3 with g3 | g3 <;> omega
      have rh : 20 ≤ q1 + q2 + q3 := by
        clear g1 g2 g3 r1 r2 r3 rl a1 a2 a3 a4 b1 b2 b3 b4 c1 c2 c3 c4
        rcases k1 with k1 | k1 <;> rcases k2 with k2 | k2 <;> rcases k3 with k3 | k3 <;> omega
      obtain ⟨x, x0, ⟨x1, x2⟩, ⟨x3, x4⟩, x5, x6⟩ := pt3 r1 r2 r3 rl rh
      dsimp only at x1 x2 x3 x4 x5 x6
      exact ⟨x, ⟨x0, ⟨by omega, by omega⟩, ⟨by omega, by omega⟩, by omega, by omega⟩, ⟨by omega, by omega⟩, ⟨by omega, by omega⟩, by omega, by omega⟩
    · rintro ⟨hy, x, ⟨x0, ⟨x1, x2⟩, ⟨x3, x4⟩, x5, x6⟩, ⟨n1, n2⟩, ⟨n3, n4⟩, n5, n6⟩
      exact ⟨⟨hy.1, ⟨by dsimp only; omega, by dsimp only; omega⟩, ⟨by dsimp only; omega, by dsimp only; omega⟩, by dsimp only; omega, by dsimp only; omega⟩, hy⟩
theorem next_good {m : Mix3} (h : Good m) {c : Int} (hc : 0 ≤ c ∧ c ≤ 20) : Good (nextM m c) := by
  cases hs : noneM m with
  | true =>
    have e : nextM m c = m := by unfold nextM; rw [hs]; rfl
    rw [e]; exact h
  | false =>
    have t := h.tight hs
    obtain ⟨x, hx⟩ := t.ex
    have hm := (next_mem h hc x).2 ⟨hx.ok3 h, x, hx, ⟨by omega, by omega⟩, ⟨by omega, by omega⟩, by omega, by omega⟩
    have hn := hm.some
    rw [next_eq t hc] at hn ⊢
    obtain ⟨ta, tb, tc, la, lb, lc, ka, kb, kc⟩ := t
    exact .inr (tight_good (next_bd (h.tight hs) hc) ⟨.inr (by dsimp only; omega), .inr (by dsimp only; omega), .inr (by dsimp only; omega), .inr (by dsimp only; omega), .inr (by dsimp only; omega), .inr (by dsimp only; omega)⟩ hn)
theorem next_bd' {m : Mix3} (h : Good m) {c : Int} (hc : 0 ≤ c ∧ c ≤ 20) : Bd (nextM m c) := (next_good h hc).bd
end AE.Soil

namespace AE.Soil
open Go AE Go.Proofs

def Al (g : GroundT) (k : Nat) (x : T3) : Prop := Ok3 x ∧ ∀ p ∈ g.pits, p.1 = (k : Int) → In p.2.2.1 x.1 ∧ In p.2.2.2.1 x.2.1 ∧ In p.2.2.2.2 x.2.2
theorem any_tight : Tight anyM := ⟨by decide, by decide, by decide, by decide, by decide, by decide, by decide, by decide, by decide⟩
theorem any_mem (x : T3) : Mem anyM x ↔ Ok3 x := by
  unfold Mem Ok3 In anyM
  dsimp only
  constructor
  · rintro ⟨h0, h1, h2, h3⟩; exact ⟨h0, h1.1, h2.1, h3.1⟩
  · rintro ⟨h0, h1, h2, h3⟩; exact ⟨h0, ⟨h1, by omega⟩, ⟨h2, by omega⟩, h3, by omega⟩
theorem pit_bd {n : Int} {p : PitT} (h : PitOk n p) : Bd p.2.2 := by
  obtain ⟨_, _, h1, h2, h3⟩ := h
  unfold SpOk at h1 h2 h3
  constructor <;> unfold Bd1 <;> omega
theorem pit_uniq {l : List PitT} (h : l.Pairwise fun p q => p.1 < q.1) {p q : PitT} (hp : p ∈ l) (hq : q ∈ l) (e : p.1 = q.1) : p = q := by
  obtain ⟨i, hi, rfl⟩ := List.getElem_of_mem hp
  obtain ⟨j, hj, rfl⟩ := List.getElem_of_mem hq
  rcases Nat.lt_trichotomy i j with hlt | rfl | hlt
  · have := List.pairwise_iff_getElem.1 h i j hi hj hlt; omega
  · rfl
  · have := List.pairwise_iff_getElem.1 h j i hj hi hlt; omega
theorem mixAt_ok {g : GroundT} (hg : GOk g) (k : Nat) : Good (mixAtM (pmapM g.pits) (k : Int)) ∧ ∀ x, Mem (mixAtM (pmapM g.pits) (k : Int)) x ↔ Al g k x := by
  cases hf : mfind UU MM.pits [(k : Int)] (pmapM g.pits) with
  | none =>
    have e : mixAtM (pmapM g.pits) (k : Int) = anyM := mixAt_no (by unfold mhasM; rw [hf]; rfl)
    rw [e]
    refine ⟨.inr any_tight, fun x => ?_⟩
    rw [any_mem]
    refine ⟨fun h => ⟨h, fun p hp hk => ?_⟩, fun h => h.1⟩
    have hn := List.find?_eq_none.1 hf (p.1, p.2.2) (List.mem_map.2 ⟨p, hp, rfl⟩)
    exact absurd (by rw [← hk]; exact decide_eq_true rfl) hn
  | some v =>
    have hm := List.mem_of_find?_eq_some hf
    have hk : [(k : Int)] = UU.mkey MM.pits v := of_decide_eq_true (List.find?_some (p := fun e => decide ([(k : Int)] = UU.mkey MM.pits e)) hf)
    obtain ⟨p, hp, hpe⟩ := List.mem_map.1 (show v ∈ g.pits.map (fun p => (p.1, p.2.2)) from hm)
    have hpk : p.1 = (k : Int) := by
      have h1 : [(k : Int)] = [v.1] := hk
      rw [← hpe] at h1
      exact (List.cons.inj h1).1.symm
    have e : mixAtM (pmapM g.pits) (k : Int) = andM anyM p.2.2 := by
      rw [mixAt_yes (by unfold mhasM; rw [hf]; rfl)]
      unfold mgetM
      rw [hf, ← hpe]; rfl
    rw [e]
    have hb := pit_bd (hg.pits p hp)
    refine ⟨and_good (.inr any_tight) hb, fun x => ?_⟩
    rw [and_mem (.inr any_tight) hb, any_mem]
    constructor
    · rintro ⟨h1, h2⟩
      refine ⟨h1, fun q hq hqk => ?_⟩
      rw [pit_uniq hg.inc hq hp (by rw [hqk, hpk])]
      exact h2.2
    · rintro ⟨h1, h2⟩
      exact ⟨h1, h1.1, h2 p hp hpk⟩
def Ch (A : Nat → T3 → Prop) (c : Int) : Nat → T3 → Prop
  | 0, x => A 0 x
  | k + 1, x => A (k + 1) x ∧ ∃ y, Ch A c k y ∧ Near c y x
theorem Ch.head {A : Nat → T3 → Prop} {c : Int} : ∀ {k : Nat} {x : T3}, Ch A c k x → A k x
  | 0, _, h => h
  | _ + 1, _, h => h.1
theorem ch_ex {A : Nat → T3 → Prop} {c : Int} : ∀ {k : Nat} {x : T3}, Ch A c k x → ∃ m : Nat → T3, m k = x ∧ (∀ i, i ≤ k → Ch A c i (m i)) ∧ ∀ i, i < k → Near c (m i) (m (i + 1))
  | 0, x, h => ⟨fun _ => x, rfl, fun i hi => by rw [Nat.le_zero.1 hi]; exact h, fun i hi => absurd hi (Nat.not_lt_zero i)⟩
  | k + 1, x, h => by
    obtain ⟨ha, y, hy, hn⟩ := h
    obtain ⟨m, hm, h1, h2⟩ := ch_ex hy
    refine ⟨fun i => if i ≤ k then m i else x, if_neg (by omega), fun i hi => ?_, fun i hi => ?_⟩
    · show Ch A c i (if i ≤ k then m i else x)
      by_cases hc : i ≤ k
      · rw [if_pos hc]; exact h1 i hc
      · rw [if_neg hc]
        have : i = k + 1 := by omega
        subst this
        exact ⟨ha, y, hy, hn⟩
    · show Near c (if i ≤ k then m i else x) (if i + 1 ≤ k then m (i + 1) else x)
      rw [if_pos (by omega : i ≤ k)]
      by_cases hc : i + 1 ≤ k
      · rw [if_pos hc]; exact h2 i (by omega)
      · rw [if_neg hc]
        have : i = k := by omega
        subst this
        rw [hm]; exact hn
theorem ch_of {A : Nat → T3 → Prop} {c : Int} {m : Nat → T3} : ∀ {k : Nat}, (∀ i, i ≤ k → A i (m i)) → (∀ i, i < k → Near c (m i) (m (i + 1))) → Ch A c k (m k)
  | 0, h, _ => h 0 (Nat.le_refl 0)
  | k + 1, h, hn => ⟨h _ (Nat.le_refl _), m k, ch_of (fun i hi => h i (by omega)) (fun i hi => hn i (by omega)), hn k (by omega)⟩
theorem ch_iff {A B : Nat → T3 → Prop} {c : Int} : ∀ {k : Nat} {x : T3}, (∀ i, i ≤ k → ∀ x, A i x ↔ B i x) → (Ch A c k x ↔ Ch B c k x)
  | 0, x, h => h 0 (Nat.le_refl 0) x
  | k + 1, x, h => by
    unfold Ch
    rw [h (k + 1) (Nat.le_refl _) x]
    constructor
    · rintro ⟨h1, y, h2, h3⟩; exact ⟨h1, y, (ch_iff fun i hi => h i (by omega)).1 h2, h3⟩
    · rintro ⟨h1, y, h2, h3⟩; exact ⟨h1, y, (ch_iff fun i hi => h i (by omega)).2 h2, h3⟩
theorem acc_ok {l : List Mix3} {b : Bool} {c : Int} (hc : 0 ≤ c ∧ c ≤ 20) (hl : ∀ j, j < l.length → Good (l.getD j m0)) : ∀ k, k < l.length → Good (accM l b c k) ∧ ∀ x, Mem (accM l b c k) x ↔ Ch (fun i x => Mem (l.getD (idxM l.length b i) m0) x) c k x
  | 0, hk => ⟨hl _ (idx_lt b hk), fun x => Iff.rfl⟩
  | k + 1, hk => by
    obtain ⟨h1, h2⟩ := acc_ok hc hl k (by omega)
    have hg := hl _ (idx_lt b hk)
    refine ⟨and_good hg (next_bd' h1 hc), fun x => ?_⟩
    show Mem (andM (l.getD (idxM l.length b (k + 1)) m0) (nextM (accM l b c k) c)) x ↔ _
    rw [and_mem hg (next_bd' h1 hc), next_mem h1 hc]
    constructor
    · rintro ⟨h3, _, y, h4, h5⟩; exact ⟨h3, y, (h2 y).1 h4, h5⟩
    · rintro ⟨h3, y, h4, h5⟩; exact ⟨h3, h3.ok3 hg, y, (h2 y).2 h4, h5⟩
theorem pass_at {l : List Mix3} {b : Bool} {c : Int} {j : Nat} (hj : j < l.length) : (passM l b c l.length).getD j m0 = accM l b c (idxM l.length b j) := by
  unfold passM
  rw [map_get _ _ _ _ hj, if_pos (idx_lt b hj)]
theorem stage0 {g : GroundT} (hg : GOk g) {j : Nat} (hj : j < nM g) : Good ((stageM g 0).getD j m0) ∧ ∀ x, Mem ((stageM g 0).getD j m0) x ↔ Al g j x := by
  have e : (stageM g 0).getD j m0 = mixAtM (pmapM g.pits) (j : Int) := by
    unfold stageM mixesM
    rw [map_get _ _ _ _ hj, if_pos hj]
  rw [e]; exact mixAt_ok hg j
theorem stage1 {g : GroundT} (hg : GOk g) {j : Nat} (hj : j < nM g) : Good ((stageM g 1).getD j m0) ∧ ∀ x, Mem ((stageM g 1).getD j m0) x ↔ Ch (Al g) g.change j x := by
  have hlen := stage_len g 0
  have e : (stageM g 1).getD j m0 = accM (stageM g 0) false g.change j := by
    have := pass_at (l := stageM g 0) (b := false) (c := g.change) (j := j) (by omega)
    rw [hlen] at this; exact this
  rw [e]
  obtain ⟨h1, h2⟩ := acc_ok (l := stageM g 0) (b := false) hg.change (fun i hi => (stage0 hg (by omega)).1) j (by omega)
  refine ⟨h1, fun x => ?_⟩
  rw [h2]
  exact ch_iff fun i hi x => (stage0 hg (by show (idxM _ false i) < _; unfold idxM; rw [if_neg (by decide)]; omega)).2 x
theorem stage2 {g : GroundT} (hg : GOk g) {j : Nat} (hj : j < nM g) : Good ((boxesM g).getD j m0) ∧ ∀ x, Mem ((boxesM g).getD j m0) x ↔ Ch (fun i => Ch (Al g) g.change (nM g - 1 - i)) g.change (nM g - 1 - j) x := by
  have hlen := stage_len g 1
  have e : (boxesM g).getD j m0 = accM (stageM g 1) true g.change (nM g - 1 - j) := by
    have := pass_at (l := stageM g 1) (b := true) (c := g.change) (j := j) (by omega)
    rw [hlen] at this; exact this
  rw [e]
  obtain ⟨h1, h2⟩ := acc_ok (l := stageM g 1) (b := true) hg.change (fun i hi => (stage1 hg (by omega)).1) (nM g - 1 - j) (by omega)
  refine ⟨h1, fun x => ?_⟩
  rw [h2, hlen]
  exact ch_iff fun i hi x => (stage1 hg (by unfold idxM; rw [if_pos rfl]; omega)).2 x
structure MTr (g : GroundT) (m : Nat → T3) : Prop where
  al : ∀ k, k < nM g → Al g k (m k)
  near : ∀ k, k + 1 < nM g → Near g.change (m k) (m (k + 1))
theorem both_truth {g : GroundT} {j : Nat} (hj : j < nM g) {x : T3} (h1 : Ch (Al g) g.change j x) (h2 : Ch (fun i => Al g (nM g - 1 - i)) g.change (nM g - 1 - j) x) : ∃ m, MTr g m ∧ m j = x := by
  obtain ⟨l, hl, l1, l2⟩ := ch_ex h1
  obtain ⟨r, hr, r1, r2⟩ := ch_ex h2
  refine ⟨fun i => if i ≤ j then l i else r (nM g - 1 - i), ⟨fun k hk => ?_, fun k hk => ?_⟩, by show (if j ≤ j then l j else _) = x; rw [if_pos (Nat.le_refl j)]; exact hl⟩
  · show Al g k (if k ≤ j then l k else r (nM g - 1 - k))
    by_cases hc : k ≤ j
    · rw [if_pos hc]; exact (l1 k hc).head
    · rw [if_neg hc]
      have := (r1 (nM g - 1 - k) (by omega)).head
      rwa [show nM g - 1 - (nM g - 1 - k) = k by omega] at this
  · show Near g.change (if k ≤ j then l k else r (nM g - 1 - k)) (if k + 1 ≤ j then l (k + 1) else r (nM g - 1 - (k + 1)))
    by_cases hc : k + 1 ≤ j
    · rw [if_pos hc, if_pos (by omega)]; exact l2 k (by omega)
    · rw [if_neg hc]
      have hn := r2 (nM g - 1 - (k + 1)) (by omega)
      rw [show nM g - 1 - (k + 1) + 1 = nM g - 1 - k by omega] at hn
      by_cases hc2 : k ≤ j
      · rw [if_pos hc2]
        have : k = j := by omega
        subst this
        rw [hl, ← hr]; exact hn.symm
      · rw [if_neg hc2]; exact hn.symm
theorem MTr.fwd {g : GroundT} {m : Nat → T3} (t : MTr g m) {j : Nat} (hj : j < nM g) : Ch (Al g) g.change j (m j) := ch_of (fun i hi => t.al i (by omega)) (fun i hi => t.near i (by omega))
theorem MTr.bwd {g : GroundT} {m : Nat → T3} (t : MTr g m) {j : Nat} (hj : j < nM g) : Ch (fun i => Al g (nM g - 1 - i)) g.change (nM g - 1 - j) (m j) := by
  have := ch_of (A := fun i => Al g (nM g - 1 - i)) (c := g.change) (m := fun i => m (nM g - 1 - i)) (k := nM g - 1 - j) (fun i hi => t.al _ (by omega)) (fun i hi => by
    have := t.near (nM g - 1 - (i + 1)) (by omega)
    rw [show nM g - 1 - (i + 1) + 1 = nM g - 1 - i by omega] at this
    exact this.symm)
  rwa [show nM g - 1 - (nM g - 1 - j) = j by omega] at this
theorem box_truth {g : GroundT} (hg : GOk g) {j : Nat} (hj : j < nM g) (x : T3) : Mem ((boxesM g).getD j m0) x ↔ ∃ m, MTr g m ∧ m j = x := by
  rw [(stage2 hg hj).2]
  constructor
  · intro h
    obtain ⟨r, hr, r1, _⟩ := ch_ex h
    have h1 := (r1 (nM g - 1 - j) (Nat.le_refl _)).head
    rw [hr, show nM g - 1 - (nM g - 1 - j) = j by omega] at h1
    refine both_truth hj h1 ?_
    obtain ⟨r, rfl, r1, r2⟩ := ch_ex h
    exact ch_of (fun i hi => (r1 i hi).head.head) r2
  · rintro ⟨m, t, rfl⟩
    have := ch_of (A := fun i => Ch (Al g) g.change (nM g - 1 - i)) (c := g.change) (m := fun i => m (nM g - 1 - i)) (k := nM g - 1 - j) (fun i hi => t.fwd (by omega)) (fun i hi => by
      have := t.near (nM g - 1 - (i + 1)) (by omega)
      rw [show nM g - 1 - (i + 1) + 1 = nM g - 1 - i by omega] at this
      exact this.symm)
    rwa [show nM g - 1 - (nM g - 1 - j) = j by omega] at this
theorem box_some {g : GroundT} (hg : GOk g) {j : Nat} (hj : j < nM g) : noneM ((boxesM g).getD j m0) = false ↔ ∃ m, MTr g m := by
  rw [(stage2 hg hj).1.ex_iff]
  constructor
  · rintro ⟨x, hx⟩
    obtain ⟨m, t, _⟩ := (box_truth hg hj x).1 hx
    exact ⟨m, t⟩
  · rintro ⟨m, t⟩
    exact ⟨m j, (box_truth hg hj _).2 ⟨m, t, rfl⟩⟩
theorem look_truth {g : GroundT} (hg : GOk g) : lookM g = true ↔ (∃ h, HTr g h) ∧ ∃ m, MTr g m := by
  rw [look_iff]
  obtain ⟨n0, n1, n2⟩ := n_ok hg
  constructor
  · intro h
    refine ⟨(hok_iff hg).1 fun k hk => ?_, (box_some hg n1).1 (h 0 n1).2⟩
    obtain ⟨j, rfl, hj⟩ := place_of hg hk
    exact (h j hj).1
  · rintro ⟨⟨h, t⟩, hm⟩ j hj
    exact ⟨t.ok hg _ (pl_of hg hj), (box_some hg hj).2 hm⟩
end AE.Soil

namespace AE.Soil
open Go AE Go.Proofs

def eq2M (x y : M2) : Bool := x.1 == y.1 && (x.2 == y.2 && true)
def innM (x : M2) (b : List M2) : List M2 := (b.filter (eq2M x)).map fun _ => x
def crossM (a b : List M2) : List M2 := a.flatMap fun x => innM x b
def fwM (g : GroundT) (at_ : Int) : List M2 := chM g 0 1 ((at_ - 0) * 1).toNat
def bwM (g : GroundT) (at_ : Int) : List M2 := chM g g.long (-1) ((at_ - g.long) * (-1)).toNat
def rMixM (g : GroundT) (at_ : Int) : List M2 := crossM (fwM g at_) (bwM g at_)
theorem ch_len (g : GroundT) (e st : Int) (k : Nat) : (chM g e st k).length ≤ 231 := by
  rw [ch_step]
  have := List.length_filter_le (takesM g (xAtM e st k) (firstM k) (prM g e st k)) (allM g.pits)
  rw [all_len] at this
  exact this
theorem inn_len (x : M2) (b : List M2) : (innM x b).length ≤ b.length := by unfold innM; rw [List.length_map]; exact List.length_filter_le _ _
theorem cross_len (a b : List M2) : ∀ i, i ≤ a.length → (crossM (a.take i) b).length ≤ i * b.length
  | 0, _ => by simp [crossM]
  | i + 1, h => by
    have := cross_len a b i (by omega)
    have h2 := inn_len (a.getD i (0, 0)) b
    unfold crossM at *
    rw [take_snoc a i h (0, 0), List.flatMap_append, List.length_append, Nat.add_mul, Nat.one_mul]
    simp only [List.flatMap_cons, List.flatMap_nil, List.append_nil]
    omega
theorem cross_suc (a b : List M2) {i : Nat} (h : i < a.length) : crossM (a.take (i + 1)) b = crossM (a.take i) b ++ innM (a.getD i (0, 0)) b := by
  unfold crossM
  rw [take_snoc a i h (0, 0), List.flatMap_append]
  simp
theorem inn_yes (x : M2) (b : List M2) {k : Nat} (h : k < b.length) (he : eq2M x (b.getD k (0, 0)) = true) : innM x (b.take (k + 1)) = innM x (b.take k) ++ [x] := by
  unfold innM
  rw [take_snoc b k h (0, 0), List.filter_append, List.map_append]
  congr 1
  rw [List.filter_cons_of_pos he]; rfl
theorem inn_no (x : M2) (b : List M2) {k : Nat} (h : k < b.length) (he : eq2M x (b.getD k (0, 0)) = false) : innM x (b.take (k + 1)) = innM x (b.take k) := by
  unfold innM
  rw [take_snoc b k h (0, 0), List.filter_append, List.map_append, List.filter_cons_of_neg (by rw [he]; decide)]
  simp
def mxH (g : GroundT) (at_ : Int) (out : List M2) : Heap UU := [.one (.ro .pit g.pits), .one (.row .rmix (fwM g at_) 154), .one (.row .rmix (bwM g at_) 154), .one (.row .rmix out 154)]
def mxL1 (g : GroundT) (at_ : Int) : LSpec UU where
  T := { i : Nat // i ≤ (fwM g at_).length }
  fr := fun i => [(5, .gs 1 0), (6, .gs 2 0), (7, .gs 3 0), (8, .i i.1)]
  H := fun i => mxH g at_ (crossM ((fwM g at_).take i.1) (bwM g at_))
  mu := fun i => (fwM g at_).length - i.1
def mxL2 (g : GroundT) (at_ : Int) : LSpec UU where
  T := { p : Nat × Nat // p.1 < (fwM g at_).length ∧ p.2 ≤ (bwM g at_).length }
  fr := fun p => [(5, .gs 1 0), (6, .gs 2 0), (7, .gs 3 0), (8, .i p.1.1), (9, .i p.1.2)]
  H := fun p => mxH g at_ (crossM ((fwM g at_).take p.1.1) (bwM g at_) ++ innM ((fwM g at_).getD p.1.1 (0, 0)) ((bwM g at_).take p.1.2))
  mu := fun p => (bwM g at_).length - p.1.2
def mxLs (g : GroundT) (at_ : Int) (k : Nat) : Option (LRule UU) :=
  match k with
  | 4 => some (.inv (mxL1 g at_))
  | 7 => some (.invR (mxL2 g at_) fun a b => b.1.1 = a.1.1)
  | _ => none
def Tmx : Tab UU := [(104, alongS.con)]
theorem Tmx_ok : Tmx.Sound Tryz.prog := .cons along_sound .nil
def rmixS : FSpec UU where
  X := GroundT × Int
  pick := fun args H => avGr2 H args
  args := fun x => [vGround x.1 0, .i x.2]
  H := fun x => [.one (.ro .pit x.1.pits)]
  R := fun x => .val ⟨.gs 1 0, [], [], [.row .rmix (rMixM x.1 x.2) 154]⟩
  pre := fun x => x.1.pits.length < 1000 ∧ (0 ≤ x.1.long ∧ x.1.long ≤ 40) ∧ (0 ≤ x.2 ∧ x.2 ≤ x.1.long)
theorem rmix_ok : ∀ x, rmixS.pre x → FunOk Tryz.prog 82 (rmixS.args x) (rmixS.H x) (rmixS.R x) := by
  rintro ⟨⟨long, rise, change, ps⟩, a⟩ hx
  refine fun_of (T := Tmx) (L := mxLs ⟨long, rise, change, ps⟩ a) (hs := fun _ => []) hmix Tmx_ok Tryz.func82 (by kernel_rfl) (by kernel_rfl) ?_
  refine Eq.mp (α :=
      let Ad := (154 : TypeId); let Ak := ps = ps ∧ True; let Al := List.length ps < nat_lit 1000; let Am := Value.int IntKind.i64 (1 : Int); let A8 := Value.int IntKind.i64 (0 : Int); let Ae := List.length (fwM (GroundT.mk long rise change ps) a); let An := List.length (bwM (GroundT.mk long rise change ps) a); let A3 := (-1 : Int); let Ao := (0 : Int) ≤ a; let Ap := Value.int IntKind.i64 a = Value.int IntKind.i64 a; let Aq := Value.int IntKind.i64 long = Value.int IntKind.i64 long; let Ar := List.length (fwM (GroundT.mk long rise change ps) a); let As := List.length (bwM (GroundT.mk long rise change ps) a); let A9 := ((0 : Int), (0 : Int)); let At := Value.int IntKind.i64 A3; let A2 := Ad = Ad; let Au := (↑Ar : Int); let A1 : Type := { i : Nat // (i ≤ Ae) }; let Af := fun (x : A1) => Subtype.val x; let Av := Ao ∧ (a ≤ (40 : Int)); let Aw := fun (x : A1) => (↑(Af x) : Int); let Ag := fun (x : A1) => Value.int IntKind.i64 (Aw x); let Aa := A2 ∧ bwM (GroundT.mk long rise change ps) a = bwM (GroundT.mk long rise change ps) a; let Ab := A2 ∧ fwM (GroundT.mk long rise change ps) a = fwM (GroundT.mk long rise change ps) a; let Ax := fun (x : A1) => Ae - Af x; let Ac := fun (x : A1) => crossM ((List.take (Af x) (fwM (GroundT.mk long rise change ps) a))) (bwM (GroundT.mk long rise change ps) a); let A0 : Type := { p : Nat × Nat // ((Prod.fst p < Ae) ∧ Prod.snd p ≤ An) }; let Ay := fun (x : A0) => Subtype.val x; let Ah := fun (x : A0) => Prod.snd (Ay x); let A4 := fun (x : A0) => Prod.fst (Ay x); let A6 := fun (x : A0) => (↑(A4 x) : Int); let A7 := fun (x : A0) => (↑(Ah x) : Int); let Az := Aq ∧ (Value.int IntKind.i64 rise = Value.int IntKind.i64 rise) ∧ (Value.int IntKind.i64 change = Value.int IntKind.i64 change) ∧ (nat_lit 0 = nat_lit 0 ∧ nat_lit 0 = nat_lit 0 ∧ List.length ps = List.length ps) ∧ True; let AA := fun (t : A0) => Int.toNat (A6 t); let Ai := fun (x : A0) => Value.int IntKind.i64 (A6 x); let AB := fun (x : A0) => Value.int IntKind.i64 (A7 x); let AC := fun (t : A0) => nat_lit 0 + (Int.toNat (A7 t)); let AD := fun (t : A0) => nat_lit 0 + AA t; let AE := fun (x : A0) => An - Ah x; let AF := fun (t : A0) => A7 t < ((↑As : Int)); let AG := fun (t : A0) => AD t < Ar; let AH := fun (t : A0) => List.getD (bwM (GroundT.mk long rise change ps) a) (AC t) A9; let AI := fun (t : A0) => List.getD (fwM (GroundT.mk long rise change ps) a) (AD t) A9; let AJ := fun (t : A0) => Prod.snd (AI t); let Aj := fun (t : A0) => Prod.fst (AI t); let AK := fun (t : A1) => decide ((Aw t < Au)); let AL := fun (t : A0) => List.getD (fwM (GroundT.mk long rise change ps) a) (((0 : Nat) + AA t)) A9; let AM := fun (t x : A0) => A4 t = A4 x; let AN := fun (t : A0) => AV.v ((Value.int IntKind.i64 (AJ t))); let AO := fun (t : A0) => ((0 : Int) ≤ A6 t) ∧ A6 t < Au; let AP := fun (t : A0) => decide (AF t); let AQ := fun (t : A0) => Aj t == (Prod.fst (AH t)); let AR := fun (t : A0) => (AJ t == (Prod.snd (AH t))) && true; let A5 := fun (x : A0) => (crossM ((List.take (A4 x) (fwM (GroundT.mk long rise change ps) a))) (bwM (GroundT.mk long rise change ps) a)) ++ (innM ((List.getD (fwM (GroundT.mk long rise change ps) a) (A4 x) A9)) ((List.take (Ah x) (bwM (GroundT.mk long rise change ps) a)))); let AS := fun (x t x_1 : A0) => (AE x < AE t) ∧ AM x x_1; let AT := fun (t x : A0) => nat_lit 0 = nat_lit 0 ∧ ((Ai t = Ai x) ∧ (((Value.int IntKind.i64 ((IntKind.wrap IntKind.i64 ((A7 t + (1 : Int)))))) = AB x) ∧ True)); (Al ∧ ((0 : Int) ≤ (0 : Int) ∧ (0 : Int) ≤ (40 : Int)) ∧ Av ∧ ((1 : Int) = (1 : Int) ∧ Ao ∨ (1 : Int) = A3 ∧ a ≤ (0 : Int))) ∧ (Az ∧ Ap ∧ A8 = A8 ∧ Am = Am ∧ True) ∧ Ak ∧ (Al ∧ ((0 : Int) ≤ long ∧ long ≤ (40 : Int)) ∧ Av ∧ (A3 = (1 : Int) ∧ long ≤ a ∨ A3 = A3 ∧ a ≤ long)) ∧ (Az ∧ Ap ∧ Aq ∧ At = At ∧ True) ∧ Ak ∧ (∃ (x : A1), (True ∧ True ∧ nat_lit 0 = nat_lit 0 ∧ True ∧ True) ∧ (True ∧ True ∧ True ∧ Ac x = [] ∧ True) ∧ (nat_lit 0 = nat_lit 0 ∧ nat_lit 0 = nat_lit 0 ∧ Value.slice none (nat_lit 0) (nat_lit 0) = Value.slice none (nat_lit 0) (nat_lit 0) ∧ A8 = Ag x ∧ True) ∧ True ∧ ps = ps ∧ (A2 ∧ chM (GroundT.mk long rise change ps) (0 : Int) (1 : Int) (Int.toNat ((a - (0 : Int)) * (1 : Int))) = fwM (GroundT.mk long rise change ps) a) ∧ (A2 ∧ chM (GroundT.mk long rise change ps) long A3 (Int.toNat ((a - long) * A3)) = bwM (GroundT.mk long rise change ps) a) ∧ True ∧ True) ∧ ∀ (t : A1), (AK t = true → ∃ (x : A0), ((nat_lit 0 = nat_lit 0 ∧ nat_lit 0 = nat_lit 0 ∧ nat_lit 0 = nat_lit 0 ∧ Ag t = Ai x ∧ A8 = AB x ∧ True) ∧ True ∧ ps = ps ∧ Ab ∧ Aa ∧ (A2 ∧ Ac t = A5 x) ∧ True) ∧ A4 x = A4 x ∧ ∀ (t_1 : A0), AM t_1 x → (AP t_1 = true → AO t_1 ∧ AG t_1 ∧ ((0 : Int) ≤ A7 t_1 ∧ AF t_1) ∧ AC t_1 < As ∧ ((AQ t_1 && AR t_1) = true → AO t_1 ∧ AG t_1 ∧ (nat_lit 1 = nat_lit 1 ∧ AV.v (Value.int IntKind.i64 (Aj t_1)) = AV.v (Value.int IntKind.i64 (Prod.fst (AL t_1))) ∧ AN t_1 = AN t_1 ∧ True) ∧ nat_lit 1 ≤ nat_lit 1 ∧ List.length (A5 t_1) + nat_lit 1 ≤ nat_lit 1099511627776 ∧ True ∧ ∃ (x_1 : A0), ((nat_lit 0 = nat_lit 0 ∧ nat_lit 0 = nat_lit 0 ∧ AT t_1 x_1) ∧ True ∧ ps = ps ∧ Ab ∧ Aa ∧ (nat_lit 154 = Ad ∧ A5 t_1 ++ List.take (1 : Nat) (List.drop (0 : Nat) [(Aj t_1, Prod.snd (AL t_1))]) = A5 x_1) ∧ True) ∧ AS x_1 t_1 x) ∧ ((AQ t_1 && AR t_1) = false → True ∧ ∃ (x_1 : A0), ((nat_lit 0 = nat_lit 0 ∧ nat_lit 0 = nat_lit 0 ∧ AT t_1 x_1) ∧ True ∧ ps = ps ∧ Ab ∧ Aa ∧ (A2 ∧ A5 t_1 = A5 x_1) ∧ True) ∧ AS x_1 t_1 x)) ∧ (AP t_1 = false → True ∧ ∃ (x : A1), ((nat_lit 0 = nat_lit 0 ∧ nat_lit 0 = nat_lit 0 ∧ nat_lit 0 = nat_lit 0 ∧ Value.int IntKind.i64 (IntKind.wrap IntKind.i64 (A6 t_1 + (1 : Int))) = Ag x ∧ True) ∧ True ∧ ps = ps ∧ Ab ∧ Aa ∧ (A2 ∧ A5 t_1 = Ac x) ∧ True) ∧ Ax x < Ax t)) ∧ (AK t = false → True ∧ (nat_lit 0 = nat_lit 0 ∧ True) ∧ True ∧ ps = ps ∧ (A2 ∧ Ac t = rMixM (GroundT.mk long rise change ps) a) ∧ True))
    (by kernel_rfl) ?_
  simp only [eq_self, AE.goS]
  obtain ⟨h1, ⟨l0, l1⟩, a0, a1⟩ := hx
  have hps : ps.length < 1000 := h1
  have l0' : 0 ≤ long := l0
  have l1' : long ≤ 40 := l1
  have a0' : 0 ≤ a := a0
  have a1' : a ≤ long := a1
  have hA : (fwM ⟨long, rise, change, ps⟩ a).length ≤ 231 := ch_len _ _ _ _
  have hB : (bwM ⟨long, rise, change, ps⟩ a).length ≤ 231 := ch_len _ _ _ _
  refine ⟨⟨hps, ⟨Int.le_refl _, by decide⟩, ⟨a0', by omega⟩, .inl a0'⟩, ⟨hps, ⟨l0', l1'⟩, ⟨a0', by omega⟩, .inr a1'⟩, ⟨⟨0, Nat.zero_le _⟩, rfl, rfl, rfl, rfl⟩, ?_⟩
  have hM : rMixM ⟨long, rise, change, ps⟩ a = crossM (fwM ⟨long, rise, change, ps⟩ a) (bwM ⟨long, rise, change, ps⟩ a) := rfl
  rw [hM]
  revert hA hB
  generalize fwM ⟨long, rise, change, ps⟩ a = A
  generalize bwM ⟨long, rise, change, ps⟩ a = B
  intro hA hB t
  refine ⟨fun ht => ?_, fun ht => ?_⟩
  · obtain ⟨i, hi⟩ := t
    have hlt : i < A.length := by have h0 : (i : Int) < (A.length : Int) := ht; omega
    refine ⟨⟨(i, 0), hlt, Nat.zero_le _⟩, ⟨⟨rfl, rfl⟩, ?_⟩, fun p hp => ?_⟩
    · show crossM (A.take i) B = crossM (A.take i) B ++ innM (A.getD i (0, 0)) []
      rw [show innM (A.getD i (0, 0)) [] = [] from rfl, List.append_nil]
    obtain ⟨⟨i', k⟩, p1, p2⟩ := p
    have hp' : i' = i := hp
    subst hp'
    have hcl := cross_len A B i' (by omega)
    have hmul : i' * B.length ≤ 231 * 231 := Nat.mul_le_mul (by omega) hB
    refine ⟨fun hk => ?_, fun hk => ?_⟩
    · have hkl : k < B.length := by have h0 : (k : Int) < (B.length : Int) := hk; omega
      have hin := inn_len (A.getD i' (0, 0)) (B.take k)
      rw [List.length_take] at hin
      have hbd : (crossM (A.take i') B ++ innM (A.getD i' (0, 0)) (B.take k)).length + 1 ≤ 1099511627776 := by rw [List.length_append]; omega
      refine ⟨⟨Int.natCast_nonneg _, ht⟩, hlt, ⟨Int.natCast_nonneg _, hk⟩, hkl, fun he => ⟨⟨Int.natCast_nonneg _, ht⟩, hlt, Nat.le_refl _, hbd, ⟨(i', k + 1), p1, hkl⟩, ⟨⟨rfl, sucI k (by omega)⟩, ?_⟩, dec1 hkl, rfl⟩, fun he => ⟨⟨(i', k + 1), p1, hkl⟩, ⟨⟨rfl, sucI k (by omega)⟩, ?_⟩, dec1 hkl, rfl⟩⟩
      · show crossM (A.take i') B ++ innM (A.getD i' (0, 0)) (B.take k) ++ [A.getD i' (0, 0)] = crossM (A.take i') B ++ innM (A.getD i' (0, 0)) (B.take (k + 1))
        rw [inn_yes _ _ hkl he, List.append_assoc]
      · show crossM (A.take i') B ++ innM (A.getD i' (0, 0)) (B.take k) = crossM (A.take i') B ++ innM (A.getD i' (0, 0)) (B.take (k + 1))
        rw [inn_no _ _ hkl he]
    · have hkl : k = B.length := by have h0 : ¬ (k : Int) < (B.length : Int) := hk; have h1 : k ≤ B.length := p2; omega
      refine ⟨⟨i' + 1, hlt⟩, ⟨sucI i' (by omega), ?_⟩, dec1 hlt⟩
      show crossM (A.take i') B ++ innM (A.getD i' (0, 0)) (B.take k) = crossM (A.take (i' + 1)) B
      rw [cross_suc A B hlt, hkl, List.take_length]
  · obtain ⟨i, hi⟩ := t
    have hie : i = A.length := by have h0 : ¬ (i : Int) < (A.length : Int) := ht; omega
    subst hie
    show crossM (A.take A.length) B = _
    rw [List.take_length]

theorem rmix_sound : Sound Tryz.prog 82 rmixS.con := FSpec.sound _ (enter_of Tryz.func82 (by kernel_rfl) (by kernel_rfl)) rmix_ok
end AE.Soil

namespace AE.Soil
open Go AE Go.Proofs

def d0 : Span := (0, 0)
def base0M (g : GroundT) (i : Nat) : List Span := (List.range i).map fun _ => ((0 : Int), (1000 : Int))
def base1M (g : GroundT) : Nat → List Span
  | 0 => base0M g (nM g)
  | i + 1 => (base1M g i).set (g.pits.getD i pit0).1.toNat (g.pits.getD i pit0).2.1
def pairM (r : Int) (l : List Span) (x : Nat) : List Span :=
  (l.set (x - 1) (max (l.getD (x - 1) (0, 0)).1 (W ((l.getD x (0, 0)).1 - r)), min (l.getD (x - 1) (0, 0)).2 (W ((l.getD x (0, 0)).2 + r)))).set x (max (l.getD x (0, 0)).1 (W ((l.getD (x - 1) (0, 0)).1 - r)), min (l.getD x (0, 0)).2 (W ((l.getD (x - 1) (0, 0)).2 + r)))
def sweepM (r : Int) (l : List Span) : Nat → List Span
  | 0 => l
  | x + 1 => pairM r (sweepM r l x) (x + 1)
def roundM (g : GroundT) : Nat → List Span
  | 0 => base1M g g.pits.length
  | k + 1 => sweepM g.rise (roundM g k) (nM g - 1)
theorem pair_len (r : Int) (l : List Span) (x : Nat) : (pairM r l x).length = l.length := by unfold pairM; rw [List.length_set, List.length_set]
theorem sweep_len (r : Int) (l : List Span) : ∀ x, (sweepM r l x).length = l.length
  | 0 => rfl
  | x + 1 => by unfold sweepM; rw [pair_len, sweep_len r l x]
theorem base1_len (g : GroundT) : ∀ i, (base1M g i).length = nM g
  | 0 => by simp [base1M, base0M]
  | i + 1 => by unfold base1M; rw [List.length_set, base1_len g i]
theorem round_len (g : GroundT) : ∀ k, (roundM g k).length = nM g
  | 0 => base1_len g _
  | k + 1 => by unfold roundM; rw [sweep_len, round_len g k]
theorem getD_set {α : Type} (l : List α) (i j : Nat) (x d : α) (hi : i < l.length) : (l.set i x).getD j d = if i = j then x else l.getD j d := by
  rw [List.getD_eq_getElem?_getD, List.getElem?_set]
  split
  · simp [hi]
  · rw [List.getD_eq_getElem?_getD]
structure Snd (g : GroundT) (l : List Span) : Prop where
  len : l.length = nM g
  lo : ∀ k : Nat, k < nM g → 0 ≤ (l.getD k (0, 0)).1 ∧ (l.getD k (0, 0)).1 ≤ (hardM g (k : Int)).1
  hi : ∀ k : Nat, k < nM g → (hardM g (k : Int)).2 ≤ (l.getD k (0, 0)).2 ∧ (l.getD k (0, 0)).2 ≤ 1000
theorem lo_le {g : GroundT} (hg : GOk g) {k : Int} (hk : Pl g k) : (hardM g k).1 ≤ 1000 := by
  refine (hard_lo hg hk 1000).2 ⟨by decide, fun p hp => ?_⟩
  have h := (hg.pits p hp).hard
  have := h.1; have := h.2.1; have := h.2.2
  have := DR_nonneg p.1 k g.rise hg.rise.1
  omega
theorem hi_ge {g : GroundT} (hg : GOk g) {k : Int} (hk : Pl g k) : 0 ≤ (hardM g k).2 := by
  refine (hard_hi hg hk 0).2 ⟨by decide, fun p hp => ?_⟩
  have h := (hg.pits p hp).hard
  have := h.1; have := h.2.1; have := h.2.2
  have := DR_nonneg p.1 k g.rise hg.rise.1
  omega
theorem base1_suc (g : GroundT) (i : Nat) : base1M g (i + 1) = (base1M g i).set (g.pits.getD i pit0).1.toNat (g.pits.getD i pit0).2.1 := rfl
theorem base1_snd {g : GroundT} (hg : GOk g) : ∀ i, i ≤ g.pits.length → Snd g (base1M g i)
  | 0, _ => by
    have e : ∀ k : Nat, k < nM g → (base1M g 0).getD k (0, 0) = (0, 1000) := fun k hk => by
      show (base0M g (nM g)).getD k (0, 0) = _
      unfold base0M
      rw [map_get _ _ _ _ hk]
    refine ⟨base1_len g 0, fun k hk => ?_, fun k hk => ?_⟩
    · rw [e k hk]; exact ⟨Int.le_refl _, hard_ge0 hg (pl_of hg hk)⟩
    · rw [e k hk]; exact ⟨hard_le1000 hg (pl_of hg hk), Int.le_refl _⟩
  | i + 1, h => by
    obtain ⟨h1, h2, h3⟩ := base1_snd hg i (by omega)
    have hm : g.pits.getD i pit0 ∈ g.pits := by rw [List.getD_eq_getElem?_getD, List.getElem?_eq_getElem (show i < g.pits.length by omega)]; exact List.getElem_mem _
    have hp := hg.pits _ hm
    have hpt := hard_pit hg hm
    have hat := hp.at_
    have hh := hp.hard
    have hn := (n_ok hg).1
    have hlt : (g.pits.getD i pit0).1.toNat < (base1M g i).length := by rw [h1]; omega
    refine ⟨base1_len g _, fun k hk => ?_, fun k hk => ?_⟩
    · rw [base1_suc, getD_set _ _ _ _ _ hlt]
      split
      · rename_i he
        have e : ((k : Nat) : Int) = (g.pits.getD i pit0).1 := by omega
        rw [e]; exact ⟨hh.1, hpt.1⟩
      · exact h2 k hk
    · rw [base1_suc, getD_set _ _ _ _ _ hlt]
      split
      · rename_i he
        have e : ((k : Nat) : Int) = (g.pits.getD i pit0).1 := by omega
        rw [e]; exact ⟨hpt.2, hh.2.2⟩
      · exact h3 k hk
theorem pair_get {g : GroundT} (hg : GOk g) {l : List Span} (h : Snd g l) {x : Nat} (h0 : 0 < x) (hx : x < nM g) (k : Nat) : (pairM g.rise l x).getD k (0, 0) = if x = k then (max (l.getD x (0, 0)).1 ((l.getD (x - 1) (0, 0)).1 - g.rise), min (l.getD x (0, 0)).2 ((l.getD (x - 1) (0, 0)).2 + g.rise)) else if x - 1 = k then (max (l.getD (x - 1) (0, 0)).1 ((l.getD x (0, 0)).1 - g.rise), min (l.getD (x - 1) (0, 0)).2 ((l.getD x (0, 0)).2 + g.rise)) else l.getD k (0, 0) := by
  have hr := hg.rise
  have a1 := h.lo x hx
  have a2 := h.hi x hx
  have b1 := h.lo (x - 1) (by omega)
  have b2 := h.hi (x - 1) (by omega)
  have c1 := lo_le hg (pl_of hg hx)
  have c2 := hi_ge hg (pl_of hg hx)
  have e1 := lo_le hg (pl_of hg (show x - 1 < nM g by omega))
  have e2 := hi_ge hg (pl_of hg (show x - 1 < nM g by omega))
  unfold pairM
  rw [getD_set _ _ _ _ _ (by rw [List.length_set, h.len]; exact hx), getD_set _ _ _ _ _ (by rw [h.len]; omega)]
  rw [show W ((l.getD x (0, 0)).1 - g.rise) = (l.getD x (0, 0)).1 - g.rise from wrap_id (by omega) (by omega), show W ((l.getD x (0, 0)).2 + g.rise) = (l.getD x (0, 0)).2 + g.rise from wrap_id (by omega) (by omega), show W ((l.getD (x - 1) (0, 0)).1 - g.rise) = (l.getD (x - 1) (0, 0)).1 - g.rise from wrap_id (by omega) (by omega), show W ((l.getD (x - 1) (0, 0)).2 + g.rise) = (l.getD (x - 1) (0, 0)).2 + g.rise from wrap_id (by omega) (by omega)]
theorem pair_snd {g : GroundT} (hg : GOk g) {l : List Span} (h : Snd g l) {x : Nat} (h0 : 0 < x) (hx : x < nM g) : Snd g (pairM g.rise l x) := by
  have px := pl_of hg hx
  have py := pl_of hg (show x - 1 < nM g by omega)
  have hd : D ((x : Nat) : Int) ((x - 1 : Nat) : Int) = 1 := by unfold D; omega
  have hd2 : D ((x - 1 : Nat) : Int) ((x : Nat) : Int) = 1 := by unfold D; omega
  have l1 := lip_lo hg px py
  have l2 := lip_lo hg py px
  have u1 := lip_hi hg px py
  have u2 := lip_hi hg py px
  rw [hd, Int.one_mul] at l1 u1
  rw [hd2, Int.one_mul] at l2 u2
  have a1 := h.lo x hx
  have a2 := h.hi x hx
  have b1 := h.lo (x - 1) (by omega)
  have b2 := h.hi (x - 1) (by omega)
  refine ⟨by rw [pair_len]; exact h.len, fun k hk => ?_, fun k hk => ?_⟩
  · rw [pair_get hg h h0 hx]
    split
    · rename_i e; subst e; dsimp only; omega
    · split
      · rename_i e; subst e; dsimp only; omega
      · exact h.lo k hk
  · rw [pair_get hg h h0 hx]
    split
    · rename_i e; subst e; dsimp only; omega
    · split
      · rename_i e; subst e; dsimp only; omega
      · exact h.hi k hk
theorem pair_mono {g : GroundT} (hg : GOk g) {l : List Span} (h : Snd g l) {x : Nat} (h0 : 0 < x) (hx : x < nM g) (k : Nat) : (l.getD k (0, 0)).1 ≤ ((pairM g.rise l x).getD k (0, 0)).1 ∧ ((pairM g.rise l x).getD k (0, 0)).2 ≤ (l.getD k (0, 0)).2 := by
  rw [pair_get hg h h0 hx]
  split
  · rename_i e; subst e; dsimp only; omega
  · split
    · rename_i e; subst e; dsimp only; omega
    · exact ⟨Int.le_refl _, Int.le_refl _⟩
theorem sweep_snd {g : GroundT} (hg : GOk g) {l : List Span} (h : Snd g l) : ∀ x, x < nM g → Snd g (sweepM g.rise l x)
  | 0, _ => h
  | x + 1, hx => pair_snd hg (sweep_snd hg h x (by omega)) (by omega) hx
theorem sweep_mono {g : GroundT} (hg : GOk g) {l : List Span} (h : Snd g l) (k : Nat) : ∀ x, x < nM g → (l.getD k (0, 0)).1 ≤ ((sweepM g.rise l x).getD k (0, 0)).1 ∧ ((sweepM g.rise l x).getD k (0, 0)).2 ≤ (l.getD k (0, 0)).2
  | 0, _ => ⟨Int.le_refl _, Int.le_refl _⟩
  | x + 1, hx => by
    have h1 := sweep_mono hg h k x (by omega)
    have h2 := pair_mono hg (sweep_snd hg h x (by omega)) (x := x + 1) (by omega) hx k
    show _ ≤ ((pairM g.rise (sweepM g.rise l x) (x + 1)).getD k (0, 0)).1 ∧ _
    exact ⟨Int.le_trans h1.1 h2.1, Int.le_trans h2.2 h1.2⟩
def Knows (g : GroundT) (l : List Span) (p : PitT) (k : Nat) : Prop := p.2.1.1 - D p.1 (k : Int) * g.rise ≤ (l.getD k (0, 0)).1 ∧ (l.getD k (0, 0)).2 ≤ p.2.1.2 + D p.1 (k : Int) * g.rise
theorem Knows.mono {g : GroundT} {l m : List Span} {p : PitT} {k : Nat} (h : Knows g l p k) (hm : (l.getD k (0, 0)).1 ≤ (m.getD k (0, 0)).1 ∧ (m.getD k (0, 0)).2 ≤ (l.getD k (0, 0)).2) : Knows g m p k := ⟨Int.le_trans h.1 hm.1, Int.le_trans hm.2 h.2⟩
theorem knows_right {g : GroundT} (hg : GOk g) {l : List Span} (h : Snd g l) {x : Nat} (h0 : 0 < x) (hx : x < nM g) {p : PitT} (hp : p.1 ≤ ((x - 1 : Nat) : Int)) (hk : Knows g l p (x - 1)) : Knows g (pairM g.rise l x) p x := by
  unfold Knows at *
  rw [pair_get hg h h0 hx, if_pos rfl]
  have hd : D p.1 (x : Int) = D p.1 ((x - 1 : Nat) : Int) + 1 := by unfold D; omega
  rw [hd, Int.add_mul, Int.one_mul]
  dsimp only
  omega
theorem knows_left {g : GroundT} (hg : GOk g) {l : List Span} (h : Snd g l) {x : Nat} (h0 : 0 < x) (hx : x < nM g) {p : PitT} (hp : (x : Int) ≤ p.1) (hk : Knows g l p x) : Knows g (pairM g.rise l x) p (x - 1) := by
  unfold Knows at *
  rw [pair_get hg h h0 hx, if_neg (by omega), if_pos rfl]
  have hd : D p.1 ((x - 1 : Nat) : Int) = D p.1 (x : Int) + 1 := by unfold D; omega
  rw [hd, Int.add_mul, Int.one_mul]
  dsimp only
  omega
theorem sweep_knows {g : GroundT} (hg : GOk g) {l : List Span} (h : Snd g l) {p : PitT} {a r : Nat} (ha : p.1 = (a : Int)) (han : a < nM g) (hk : ∀ k : Nat, k ≤ a → a ≤ k + r → Knows g l p k) : ∀ x, x < nM g → (∀ k : Nat, a ≤ k → k ≤ x → Knows g (sweepM g.rise l x) p k) ∧ (∀ k : Nat, k ≤ a → k < x → a ≤ k + (r + 1) → Knows g (sweepM g.rise l x) p k)
  | 0, _ => ⟨fun k h1 h2 => by
      have : k = 0 := by omega
      subst this
      exact hk 0 (by omega) (by omega), fun k _ h2 => absurd h2 (Nat.not_lt_zero k)⟩
  | x + 1, hx => by
    obtain ⟨i1, i2⟩ := sweep_knows hg h ha han hk x (by omega)
    have hs := sweep_snd hg h x (by omega)
    have hm := fun k => pair_mono hg hs (x := x + 1) (by omega) hx k
    refine ⟨fun k h1 h2 => ?_, fun k h1 h2 h3 => ?_⟩
    · show Knows g (pairM g.rise (sweepM g.rise l x) (x + 1)) p k
      rcases Nat.lt_or_eq_of_le h2 with h2 | rfl
      · exact (i1 k h1 (by omega)).mono (hm k)
      · by_cases he : a = x + 1
        · refine Knows.mono (hk (x + 1) (by omega) (by omega)) ?_
          exact sweep_mono hg h (x + 1) (x + 1) hx
        · exact knows_right hg hs (by omega) hx (by rw [ha]; show (a : Int) ≤ ((x : Nat) : Int); omega) (i1 x (by omega) (Nat.le_refl x))
    · show Knows g (pairM g.rise (sweepM g.rise l x) (x + 1)) p k
      rcases Nat.lt_or_eq_of_le (Nat.le_of_lt_succ h2) with h2 | rfl
      · exact (i2 k h1 h2 h3).mono (hm k)
      · by_cases he : a ≤ k + r
        · exact Knows.mono (hk k h1 he) (sweep_mono hg h k (k + 1) hx)
        · have h4 : Knows g (sweepM g.rise l k) p (k + 1) := Knows.mono (hk (k + 1) (by omega) (by omega)) (sweep_mono hg h (k + 1) k (by omega))
          exact knows_left hg hs (x := k + 1) (by omega) hx (by rw [ha]; show ((k + 1 : Nat) : Int) ≤ (a : Int); omega) h4
theorem round_snd {g : GroundT} (hg : GOk g) : ∀ k, Snd g (roundM g k)
  | 0 => base1_snd hg _ (Nat.le_refl _)
  | k + 1 => sweep_snd hg (round_snd hg k) _ (by have := (n_ok hg).2.1; omega)
theorem base1_pit {g : GroundT} (hg : GOk g) : ∀ i, i ≤ g.pits.length → ∀ j, j < i → (base1M g i).getD (g.pits.getD j pit0).1.toNat (0, 0) = (g.pits.getD j pit0).2.1
  | 0, _, j, hj => absurd hj (Nat.not_lt_zero j)
  | i + 1, h, j, hj => by
    have hmem : ∀ j, j < g.pits.length → g.pits.getD j pit0 ∈ g.pits := fun j hj => by rw [List.getD_eq_getElem?_getD, List.getElem?_eq_getElem hj]; exact List.getElem_mem _
    have hi := (hg.pits _ (hmem i (by omega))).at_
    have hn := (n_ok hg).1
    show ((base1M g i).set _ _).getD _ _ = _
    rw [getD_set _ _ _ _ _ (by rw [base1_len]; omega)]
    by_cases he : j = i
    · subst he; rw [if_pos rfl]
    · have hlt : (g.pits.getD j pit0).1 < (g.pits.getD i pit0).1 := by
        have := List.pairwise_iff_getElem.1 hg.inc j i (by omega) (by omega) (by omega)
        rw [List.getD_eq_getElem?_getD, List.getD_eq_getElem?_getD, List.getElem?_eq_getElem (show j < g.pits.length by omega), List.getElem?_eq_getElem (show i < g.pits.length by omega)]
        exact this
      have hj0 := (hg.pits _ (hmem j (by omega))).at_
      rw [if_neg (by omega)]
      exact base1_pit hg i (by omega) j (by omega)
theorem round_knows {g : GroundT} (hg : GOk g) {p : PitT} (hp : p ∈ g.pits) {a : Nat} (ha : p.1 = (a : Int)) (han : a < nM g) : ∀ r, (∀ k : Nat, k ≤ a → a ≤ k + r → Knows g (roundM g r) p k) ∧ (0 < r → ∀ k : Nat, a ≤ k → k < nM g → Knows g (roundM g r) p k)
  | 0 => by
    refine ⟨fun k h1 h2 => ?_, fun h => absurd h (Nat.lt_irrefl 0)⟩
    have hka : k = a := by omega
    subst hka
    obtain ⟨j, hj, hje⟩ := List.getElem_of_mem hp
    have he : g.pits.getD j pit0 = p := by rw [List.getD_eq_getElem?_getD, List.getElem?_eq_getElem hj, ← hje]; rfl
    have hb := base1_pit hg g.pits.length (Nat.le_refl _) j hj
    rw [he, ha, Int.toNat_natCast] at hb
    show Knows g (base1M g g.pits.length) p k
    unfold Knows
    rw [hb, ha, D_self]
    omega
  | r + 1 => by
    obtain ⟨i1, _⟩ := round_knows hg hp ha han r
    have hn := (n_ok hg).2.1
    obtain ⟨s1, s2⟩ := sweep_knows hg (round_snd hg r) ha han i1 (nM g - 1) (by omega)
    refine ⟨fun k h1 h2 => ?_, fun _ k h1 h2 => s1 k h1 (by omega)⟩
    by_cases hk : k < nM g - 1
    · exact s2 k h1 hk h2
    · exact s1 k (by omega) (by omega)
theorem round_all {g : GroundT} (hg : GOk g) : roundM g (nM g) = hardsM g (nM g) := by
  have hn := (n_ok hg).2.1
  have hs := round_snd hg (nM g)
  refine List.ext_getElem (by rw [hs.len, hards_len]) fun k h1 h2 => ?_
  have hk : k < nM g := by rw [hs.len] at h1; exact h1
  have e1 : (roundM g (nM g))[k] = (roundM g (nM g)).getD k (0, 0) := by rw [List.getD_eq_getElem?_getD, List.getElem?_eq_getElem h1]; rfl
  have e2 : (hardsM g (nM g))[k] = (hardsM g (nM g)).getD k (0, 0) := by rw [List.getD_eq_getElem?_getD, List.getElem?_eq_getElem h2]; rfl
  rw [e1, e2, hards_get hk]
  have pk := pl_of hg hk
  have hl := hs.lo k hk
  have hh := hs.hi k hk
  have kn : ∀ p ∈ g.pits, Knows g (roundM g (nM g)) p k := fun p hp => by
    have hat := (hg.pits p hp).at_
    obtain ⟨a, ha⟩ := Int.eq_ofNat_of_zero_le hat.1
    have han : a < nM g := by have := (n_ok hg).1; omega
    obtain ⟨r1, r2⟩ := round_knows hg hp ha han (nM g)
    by_cases h : a ≤ k
    · exact r2 hn k h hk
    · exact r1 k (by omega) (by omega)
  refine Prod.ext ?_ ?_
  · refine Int.le_antisymm hl.2 ((hard_lo hg pk _).2 ⟨hl.1, fun p hp => (kn p hp).1⟩)
  · refine Int.le_antisymm ((hard_hi hg pk _).2 ⟨hh.2, fun p hp => (kn p hp).2⟩) hh.1
end AE.Soil
