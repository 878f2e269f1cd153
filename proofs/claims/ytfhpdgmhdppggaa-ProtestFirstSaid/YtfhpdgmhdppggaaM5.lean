/- An own symbolic executor for the model's code, and what the functions beneath the law compute, joined out of: PtA, PrR, AeR, PsR. No condition. -/
import Derived.Test.YtfhpdgmhdppggaaM4
import Derived.Test.YtfhpdgmhdppggaaRows
import Derived.ProofKit
import Derived.OpenShut
import Derived.Below
import Derived.Carry
import Derived.ChangeArms

namespace AE.Pr
open Go AE Go.Proofs

def lawFS : FSpec UU where
  X := HT × Int × Int
  pick := fun args H => match args with
    | [a, .v (.int .u8 b), .v (.int .u8 c)] => match avH H a with
      | some a => some (a, b, c)
      | _ => none
    | _ => none
  args := fun x => [vH x.1, .v (.int .u8 x.2.1), .v (.int .u8 x.2.2)]
  H := fun x => hH x.1
  R := fun _ => .val ⟨.b true, [], [], []⟩
  pre := fun x => bigH x.1 ∧ (0 ≤ x.2.1 ∧ x.2.1 ≤ 255) ∧ (0 ≤ x.2.2 ∧ x.2.2 ≤ 255)
def TlawF : Tab UU := [(12, heavyS.con), (13, aliveS.con), (24, firstS.con), (14, countS.con), (22, liarsS.con), (39, isHearingS.con), (40, everyRS.con), (41, isRS.con), (36, sizeRS.con)]
theorem TlawF_ok : TlawF.Sound Try.prog := .cons heavy_sound (.cons alive_sound (.cons firstF_sound (.cons count_sound (.cons liars_sound (.cons hearR_sound (.cons everyR_sound (.cons isR_sound (.cons sizeR_sound .nil))))))))
set_option maxHeartbeats 0 in
set_option maxRecDepth 100000 in
theorem lawF_ok : ∀ x, lawFS.pre x → FunOk Try.prog 7 (lawFS.args x) (lawFS.H x) (lawFS.R x) := by
  rintro ⟨⟨⟨f, w, li⟩, cs, ks⟩, of, ol⟩ hl
  refine fun_of (T := TlawF) (L := fun _ => none) (hs := fun _ => []) hmix TlawF_ok Try.func7 (by kernel_rfl) (by kernel_rfl) ?_
  refine Eq.mp (α :=
      let Z0 := Int.toNat f; let Z1 := Int.toNat w; let Z2 := Value.bool true; let Z3 := List.length ks; let Z4 := List.length cs; let Z5 := (w, li); let Z6 := Value.bool false; let Z7 := everyM Z1; let Z8 := Value.int IntKind.i64 w; let Z9 := Value.int IntKind.i64 li; let Z10 := Value.int IntKind.i64 f; let Z11 := IntKind.wrap IntKind.i64 of; let Z12 := IntKind.wrap IntKind.i64 ol; let Z13 := (1 : Int); let Z14 := (0 : Int); let Z15 := (6 : Int); let Z16 := (2 : Int); let Z17 := (64 : Int); let Z18 := (10 : Int); let Z19 := ks = ks; let Z20 := cs = cs; let Z21 := (cs, ks); let Z22 := min Z0 (nat_lit 64); let Z23 := BitVec.ofInt (nat_lit 64) Z7; let Z24 := BitVec.ofInt (nat_lit 64) Z12; let Z25 := BitVec.ofInt (nat_lit 64) Z11; let Z26 := Z3 < nat_lit 1000; let Z27 := Z4 < nat_lit 1000; let Z28 := Value.int IntKind.i64 Z7; let Z29 := Z19 ∧ True; let Z30 := Z3 = Z3; let Z31 := Z4 = Z4; let Z32 := (f, Z5); let Z33 := Z2 = Z2; let Z34 := Value.int IntKind.i64 Z15; let Z35 := Z2 = Z6; let Z36 := Z14 ≤ f; let Z37 := Z10 = Z10; let Z38 := Z9 = Z9; let Z39 := Z8 = Z8; let Z40 := Z33 ∧ True; let Z41 := Z35 ∧ True; let Z42 := nat_lit 0 = nat_lit 0 ∧ Z30; let Z43 := nat_lit 0 = nat_lit 0 ∧ Z31; let Z44 := Z14 ≤ Z7; let Z45 := Z7 < Z17; let Z46 := nat_lit 0 = nat_lit 0 ∧ Z42; let Z47 := nat_lit 0 = nat_lit 0 ∧ Z43; let Z48 := Z20 ∧ Z29; let Z49 := Z46 ∧ True; let Z50 := Z27 ∧ Z26; let Z51 := True ∧ Z48; let Z52 := Z28 = Z28; let Z53 := Z34 = Z34; let Z54 := Z16 ^ Z22; let Z55 := (Z32, Z21); let Z56 := rtM Z55; let Z57 := hearM Z55; let Z58 := countM Z55; let Z59 := liarsM Z55; let Z60 := HearOk Z55; let Z61 := firstHM Z55; let Z62 := Z44 ∧ Z45; let Z63 := Z40 ∧ Z51; let Z64 := Z41 ∧ Z51; let Z65 := !Z57; let Z66 := True ∧ Z63; let Z67 := True ∧ Z64; let Z68 := Prod.fst Z58; let Z69 := Prod.snd Z58; let Z70 := Z47 ∧ Z49; let Z71 := True ∧ Z66; let Z72 := Z65 = true; let Z73 := Prod.snd Z59; let Z74 := Prod.fst Z59; let Z75 := Prod.snd Z61; let Z76 := Z65 = false; let Z77 := Prod.fst Z61; let Z78 := True ∧ Z71; let Z79 := Prod.fst Z74; let Z80 := Prod.snd Z74; let Z81 := Prod.fst Z77; let Z82 := Prod.snd Z77; let Z83 := True ∧ Z78; let Z84 := Z13 * Z54; let Z85 := popM Z82; let Z86 := heavyM Z55 Z15 Z15; let Z87 := Value.int IntKind.i64 Z81; let Z88 := Value.int IntKind.i64 Z82; let Z89 := Z80 > li; let Z90 := Z68 < Z13; let Z91 := IntKind.wrap IntKind.i64 Z84; let Z92 := Z38 ∧ Z70; let Z93 := Z82 > Z7; let Z94 := Z14 ≤ Z82; let Z95 := Z81 < Z14; let Z96 := Z82 < Z14; let Z97 := Z69 != Z14; let Z98 := Z82 < Z17; let Z99 := Z68 == Z14; let Z100 := Z69 == Z13; let Z101 := Z73 != Z14; let Z102 := Z75 != Z14; let Z103 := Z75 == Z18; let Z104 := Z100 = true; let Z105 := Z99 = true; let Z106 := Z24 &&& Z23; let Z107 := Z99 = false; let Z108 := Z100 = false; let Z110 := Z79 == Z14; let Z111 := Z82 == Z14; let Z112 := Z81 == Z14; let Z114 := Z111 = true; let Z115 := Z80 == Z14 && true; let Z116 := Z112 = true; let Z117 := Z112 = false; let Z118 := Z111 = false; let Z123 := IntKind.wrap IntKind.i64 (↑(BitVec.toNat Z106) : Int); let Z128 := Value.int IntKind.i64 Z123; let Z129 := Z37 ∧ Z39 ∧ Z92; let Z131 := Z129 ∧ True; let Z134 := Z14 ≤ Z123; let Z135 := Z123 < Z17; let Z136 := Z73 == Z69; let Z137 := Z75 == Z69; let Z138 := Z73 == Z75; let Z140 := Int.fdiv Z81 Z54 != Z14; let Z142 := Z136 = false; let Z144 := Z137 = false; let Z148 := Z85 != Z79; let Z162 := (Z110 && Z115) = true; let Z163 := (Z110 && Z115) = false; let Z165 := IntKind.wrap IntKind.i64 (↑(BitVec.toNat (Z25 &&& BitVec.ofInt (nat_lit 64) (IntKind.wrap IntKind.i64 (Z91 - Z13)))) : Int); let Z166 := Value.int IntKind.i64 Z165; let Z174 := Z165 == Z81; let Z176 := isM Z56 Z7 (Z165, Z123); let Z179 := (!Z176) = false; let Z184 := decide Z90; let Z185 := decide Z95; let Z186 := decide Z96; let Z188 := decide Z89; let Z189 := decide Z93; let Z193 := decide (Z123 ≥ Z82); let Z194 := decide (popM Z123 ≤ Z80); let Z195 := decide (popM Z123 ≥ Z79); let Z196 := decide (popM Z123 > Z79); let Z198 := decide (Z165 > Z81); let Z201 := decide (Z79 > Z80); (Z4 < nat_lit 9223372036854775808 ∧ Z3 < nat_lit 9223372036854775808) ∧ (Z129 ∧ Z53 ∧ Z53 ∧ True) ∧ Z48 ∧ (Z86 = true → Z83) ∧ (Z86 = false → Z50 ∧ Z131 ∧ Z48 ∧ Z50 ∧ Z131 ∧ Z48 ∧ Z50 ∧ Z131 ∧ Z48 ∧ (Z97 = true → (Z104 → (Z137 = true → (Z136 = true → (Z105 → (Z116 → (Z114 → (Z162 → Z50 ∧ Z131 ∧ Z48 ∧ (Z72 → Z83) ∧ (Z76 → Z67)) ∧ (Z163 → Z67)) ∧ (Z118 → Z67)) ∧ (Z117 → Z67)) ∧ (Z107 → Z67)) ∧ (Z142 → Z67)) ∧ (Z144 → Z67)) ∧ (Z108 → Z67)) ∧ (Z97 = false → Z50 ∧ Z131 ∧ Z48 ∧ (Z72 → (Z104 → (Z137 = true → (Z136 = true → (Z105 → (Z116 → (Z114 → (Z162 → Z50 ∧ Z131 ∧ Z48 ∧ (Z72 → Z83) ∧ (Z76 → Z67)) ∧ (Z163 → Z67)) ∧ (Z118 → Z67)) ∧ (Z117 → Z67)) ∧ (Z107 → Z67)) ∧ (Z142 → Z67)) ∧ (Z144 → Z67)) ∧ (Z108 → Z67)) ∧ (Z76 → (Z14 ≤ w ∧ w ≤ Z15) ∧ ((True ∧ Z39 ∧ True ∧ True ∧ True ∧ True) ∧ True) ∧ True ∧ Z36 ∧ (Z60 ∧ Z62 ∧ (Z14 ≤ Z165 ∧ Z165 < Z17) ∧ Z134 ∧ Z135) ∧ (Z129 ∧ Z52 ∧ (Z166 = Z166 ∧ Z128 = Z128 ∧ True) ∧ True) ∧ Z48 ∧ (Z102 = true → (Z103 = true → (Z138 = true → (Z105 → (Z116 → (Z114 → (Z162 → ((!Z176) = true → Z83) ∧ (Z179 → Z67)) ∧ (Z163 → Z67)) ∧ (Z118 → Z67)) ∧ (Z117 → Z67)) ∧ (Z107 → Z67)) ∧ (Z138 = false → Z67)) ∧ (Z103 = false → Z67)) ∧ (Z102 = false → (Z184 = true → Z67) ∧ (Z184 = false → (Z185 = true → Z67) ∧ (Z185 = false → Z36 ∧ (Z140 = true → Z67) ∧ (Z140 = false → (Z186 = true → Z67) ∧ (Z186 = false → (Z189 = true → Z67) ∧ (Z189 = false → (Z60 ∧ Z62 ∧ (Z14 ≤ Z81 ∧ Z81 < Z17) ∧ Z94 ∧ Z98) ∧ (Z129 ∧ Z52 ∧ (Z87 = Z87 ∧ Z88 = Z88 ∧ True) ∧ True) ∧ Z48 ∧ ((!isM Z56 Z7 Z77) = true → Z67) ∧ ((!isM Z56 Z7 Z77) = false → (Z101 = true → Z67) ∧ (Z101 = false → (Z94 ∧ Z98) ∧ (Z88 = Z88 ∧ True) ∧ True ∧ (Z148 = true → Z67) ∧ (Z148 = false → (Z188 = true → Z67) ∧ (Z188 = false → (Z201 = true → Z67) ∧ (Z201 = false → ((!Z176) = true → Z83) ∧ (Z179 → (Z134 ∧ Z135) ∧ (Z128 = Z128 ∧ True) ∧ True ∧ (Z195 = true → (Z194 = true → (Z196 = true → Z83) ∧ (Z196 = false → (Z198 = true → Z83) ∧ (Z198 = false → (Z174 = true → (Z193 = true → Z83) ∧ (Z193 = false → Z67)) ∧ (Z174 = false → Z67)))) ∧ (Z194 = false → Z67)) ∧ (Z195 = false → Z67)))))))))))))))))
    (by kernel_rfl) ?_
  simp only [eq_self, true_and, and_true, Int.toNat_natCast, Nat.zero_add, Nat.sub_zero, Value.int.injEq, Value.bool.injEq, decide_eq_true_eq, decide_eq_false_iff_not]
  obtain ⟨hbig, ⟨hof0, hof1⟩, hol0, hol1⟩ := hl
  obtain ⟨of, rfl⟩ := Int.eq_ofNat_of_zero_le hof0
  obtain ⟨ol, rfl⟩ := Int.eq_ofNat_of_zero_le hol0
  have hof2 : (of : Int) ≤ 255 := hof1
  have hol2 : (ol : Int) ≤ 255 := hol1
  refine ⟨hbig, fun _ => trivial, fun hhv => ?_⟩
  have hl1 : cs.length < 1000 := (heavy_no hhv).1.1
  have hl2 : ks.length < 1000 := (heavy_no hhv).1.2
  cases hh : hearM ((f, w, li), cs, ks) with
  | false =>
    have e1 : countM ((f, w, li), cs, ks) = (0, 1) := by simp [countM, hh]
    have e2 : firstHM ((f, w, li), cs, ks) = ((0, 0), 1) := by simp [firstHM, hh]
    have e3 : liarsM ((f, w, li), cs, ks) = ((0, 0), 1) := by simp [liarsM, hh]
    simp [e1, e2, e3, hl1, hl2]
  | true =>
    have hk := hear_ok hh
    have hx := rt_ok hk
    have hf6 : 0 ≤ f ∧ f ≤ 6 := hk.f
    have hw6 : 0 ≤ w ∧ w ≤ 6 := hk.w
    obtain ⟨nf, rfl⟩ := Int.eq_ofNat_of_zero_le hf6.1
    obtain ⟨nw, rfl⟩ := Int.eq_ofNat_of_zero_le hw6.1
    have hnf : nf ≤ 6 := by omega
    have hnw : nw ≤ 6 := by omega
    have hF := pow64 nf hnf
    have hW := pow64 nw hnw
    have hpF := Nat.pow_pos (n := nf) (show 0 < 2 by decide)
    have hpW := Nat.pow_pos (n := nw) (show 0 < 2 by decide)
    have hE := everyP nw hnw
    have hEB := everyB nw hnw
    have a1 : IntKind.i64.wrap ((BitVec.ofInt 64 (IntKind.i64.wrap (of : Int)) &&& BitVec.ofInt 64 (IntKind.i64.wrap (IntKind.i64.wrap (1 * 2 ^ min nf 64) - 1))).toNat : Int) = ((of % 2 ^ nf : Nat) : Int) := by
      have h1 : IntKind.i64.wrap (1 * 2 ^ min nf 64) = ((2 ^ nf : Nat) : Int) := by
        have : ∀ n : Fin 7, IntKind.i64.wrap (1 * 2 ^ min n.val 64) = ((2 ^ n.val : Nat) : Int) := by decide +kernel
        exact this ⟨nf, by omega⟩
      rw [h1, wrap_id (x := (of : Int)) (by omega) (by omega), wrap_id (x := ((2 ^ nf : Nat) : Int) - 1) (by omega) (by omega), andW of nf (by omega) hnf]
    have a2 : IntKind.i64.wrap ((BitVec.ofInt 64 (IntKind.i64.wrap (ol : Int)) &&& BitVec.ofInt 64 (everyM nw)).toNat : Int) = ((ol % 2 ^ nw : Nat) : Int) := by
      rw [hE, wrap_id (x := (ol : Int)) (by omega) (by omega), andW ol nw (by omega) hnw]
    have b1 := Nat.mod_lt of hpF
    have b2 := Nat.mod_lt ol hpW
    simp only [Int.toNat_natCast, a1, a2]
    generalize of % 2 ^ nf = ow at *
    generalize ol % 2 ^ nw = lw at *
    clear a1 a2 hof0 hof1 hol0 hol1 hof2 hol2
    have hr1 : (0 : Int) ≤ (ow : Int) ∧ (ow : Int) < 64 := by omega
    have hr2 : (0 : Int) ≤ (lw : Int) ∧ (lw : Int) < 64 := by omega
    have hmem : isM (rtM (((nf : Int), (nw : Int), li), cs, ks)) (everyM nw) ((ow : Int), (lw : Int)) = true → ((ow : Int), (lw : Int)) ∈ allH (((nf : Int), (nw : Int), li), cs, ks) := fun h => mem_allM_iff.2 ⟨ow, lw, b1, b2, h, rfl⟩
    by_cases hA : (((allH (((nf : Int), (nw : Int), li), cs, ks)).length : Nat) : Int) > 0
    · have e1 : countM (((nf : Int), (nw : Int), li), cs, ks) = (((allH (((nf : Int), (nw : Int), li), cs, ks)).length : Int), 0) := by simp [countM, hh]
      have e2 : firstHM (((nf : Int), (nw : Int), li), cs, ks) = (firstM (allH (((nf : Int), (nw : Int), li), cs, ks)), 0) := by simp only [firstHM, hh, hA, if_true]
      have e3 : liarsM (((nf : Int), (nw : Int), li), cs, ks) = (spanM (allH (((nf : Int), (nw : Int), li), cs, ks)), 0) := by simp only [liarsM, hh, hA, if_true]
      have hlen : 0 < (allH (((nf : Int), (nw : Int), li), cs, ks)).length := by omega
      have hfst := first_is hlen (allM_sorted _ _)
      have hspan := span_is hlen
      have hm := mem_allM_iff.1 hfst.1
      obtain ⟨a, b, ha, hb, hisM, hab⟩ := hm
      have ha' : a < 2 ^ nf := ha
      have hb' : b < 2 ^ nw := hb
      have hall : ∀ t ∈ allH (((nf : Int), (nw : Int), li), cs, ks), popM t.2 ≤ li := fun t ht => isM_li (mem_allM hx ht).2
      have hm1 := hfst.1
      have hm2 := hfst.2
      rw [e1, e2, e3]
      generalize allH (((nf : Int), (nw : Int), li), cs, ks) = A at *
      have hab' : firstM A = ((a : Int), (b : Int)) := hab
      rw [hab'] at hm1 hm2 ⊢
      obtain ⟨hs1, ⟨t1, ht1, hs2⟩, ⟨t2, ht2, hs3⟩⟩ := hspan
      have c1 : popM (b : Int) = (spanM A).1 := by
        have h1 := (hs1 _ hm1).1
        have h2 := hm2 t1 ht1
        have h1' : (spanM A).1 ≤ popM (b : Int) := h1
        have h2' : popM (b : Int) < popM t1.2 ∨ (popM (b : Int) = popM t1.2 ∧ _) := h2
        omega
      have c2 : (spanM A).2 ≤ li := by rw [hs3]; exact hall t2 ht2
      have c3 : (spanM A).1 ≤ (spanM A).2 := Int.le_trans (hs1 _ hm1).1 (hs1 _ hm1).2
      have c4 : Int.fdiv (a : Int) (2 ^ min nf 64) = 0 := by
        have : ∀ (n : Fin 7) (a : Fin 64), a.val < 2 ^ n.val → Int.fdiv ((a.val : Nat) : Int) (2 ^ min n.val 64) = 0 := by decide +kernel
        exact this ⟨nf, by omega⟩ ⟨a, by omega⟩ ha'
      have c5 : isM (rtM (((nf : Int), (nw : Int), li), cs, ks)) (everyM nw) ((a : Int), (b : Int)) = true := hisM
      have c6 : ¬ ((A.length : Nat) : Int) < 1 := by omega
      have c7 : ¬ (a : Int) < 0 := by omega
      have c8 : ¬ (b : Int) < 0 := by omega
      have c9 : ¬ (b : Int) > everyM nw := by rw [hE]; omega
      have c10 : ¬ (spanM A).2 > li := by omega
      have c11 : ¬ (spanM A).1 > (spanM A).2 := by omega
      have c12 : (0 : Int) ≤ (a : Int) ∧ (a : Int) < 64 := by omega
      have c13 : (0 : Int) ≤ (b : Int) ∧ (b : Int) < 64 := by omega
      have hL0 : (0 : Int) ≤ li ∧ li ≤ (nw : Int) := hk.l
      cases hi : isM (rtM (((nf : Int), (nw : Int), li), cs, ks)) (everyM nw) ((ow : Int), (lw : Int)) with
      | false => simp [hl1, hl2, hk, hf6, hw6, hEB, hr1, hr2, c1, c2, c3, c4, c5, c6, c7, c8, c9, c10, c11, c12, c13, hi]
      | true =>
        have hin := hmem hi
        have o1 := hs1 _ hin
        have o2 := hm2 _ hin
        have o1' : (spanM A).1 ≤ popM (lw : Int) ∧ popM (lw : Int) ≤ (spanM A).2 := o1
        simp [hl1, hl2, hk, hf6, hw6, hEB, hr1, hr2, c1, c2, c3, c4, c5, c6, c7, c8, c9, c10, c11, c12, c13, hi, o1']
        have o2' : popM (b : Int) < popM (lw : Int) ∨ (popM (b : Int) = popM (lw : Int) ∧ (((a : Int) < (ow : Int) ∨ ((a : Int) = (ow : Int) ∧ (b : Int) < (lw : Int))) ∨ ((a : Int), (b : Int)) = ((ow : Int), (lw : Int)))) := o2
        rw [Prod.mk.injEq] at o2'
        omega
    · have hA0 : allH (((nf : Int), (nw : Int), li), cs, ks) = [] := List.eq_nil_of_length_eq_zero (by omega)
      have e1 : countM (((nf : Int), (nw : Int), li), cs, ks) = (0, 0) := by simp [countM, hh, hA0]
      have e2 : firstHM (((nf : Int), (nw : Int), li), cs, ks) = ((0, 0), 10) := by simp [firstHM, hh, hA0]
      have e3 : liarsM (((nf : Int), (nw : Int), li), cs, ks) = ((0, 0), 10) := by simp [liarsM, hh, hA0]
      have hno : isM (rtM (((nf : Int), (nw : Int), li), cs, ks)) (everyM nw) ((ow : Int), (lw : Int)) = false := by
        cases h : isM (rtM (((nf : Int), (nw : Int), li), cs, ks)) (everyM nw) ((ow : Int), (lw : Int)) with
        | false => rfl
        | true => have := hmem h; rw [hA0] at this; cases this
      simp [e1, e2, e3, hl1, hl2, hno, hk, hf6, hw6, hEB, hr1, hr2]

theorem lawF_sound : Sound Try.prog 7 lawFS.con := FSpec.sound _ (enter_of Try.func7 (by kernel_rfl) (by kernel_rfl)) lawF_ok
end AE.Pr

namespace AE
open Go Go.ChangeShapes Go.WideShapes

theorem Keeps.but {w w' : World} (h : Keeps (fun _ => False) w w') (may : MemPlace → Prop) : w.keptBut w' may := by
  refine ⟨h.os, h.output, fun i hi => ?_⟩
  have hb := h.block i hi fun h => h
  rw [hb]
  exact (World.keptBut_refl w may).2.2 i hi
theorem Keeps.frozen {w w' : World} (h : Keeps (fun _ => False) w w') (a : Addr) (ha : a.block < w.heap.size) : w'.frozen? a = w.frozen? a := by
  unfold World.frozen?
  rw [h.block a.block ha fun h => h]
theorem post_of_keeps {P : Program} {H : Type} {enc : TypeId × Value → H} {f : Func} {s : ChangeSpec} {apart fresh handsOn again : Bool} {W W' : World} {args : Array Value} {v : Value} {ds gs : List (DataW H)} {before pa pv : List MemPlace}
    (hW : DataW.Whole enc P f.params.toList s.vars apart W args.toList ds gs before)
    (hres : ∀ (b : Nat) (sp : Nat → Bool) (hd : Bool), DataW.TrodAll enc P W' b sp hd f.resultTypes.toList (v.resultList f.resultTypes.size) (s.fn H (ds ++ gs)).results [])
    (hargs : ∀ sp : Nat → Bool, (∀ p ∈ before, sp p.block = true) → DataW.TrodAll enc P W' 0 sp true f.params.toList args.toList (s.fn H (ds ++ gs)).args pa)
    (hvars : ∀ sp : Nat → Bool, (∀ p ∈ before, sp p.block = true) → DataW.TrodVars enc P W' sp s.vars (s.fn H (ds ++ gs)).vars pv)
    (hps : before = pa ++ pv) (hk : Keeps (fun _ => False) W W')
    (hok : ∀ (j : Nat) (t : TypeId) (r : Value), f.resultTypes[j]? = some t → (v.resultList f.resultTypes.size)[j]? = some r → Value.okWide P W' .any 0 t r) :
    s.post enc P f apart fresh handsOn again W args v W' := by
  have hlt := hW.lt
  have hold : ∀ p ∈ before, (fun b => decide (b < W.heap.size)) p.block = true := fun p hp => by simpa using hlt p hp
  have hb : ∀ p, p ∈ [] ++ pa ++ pv ↔ p ∈ before := fun p => by rw [hps, List.nil_append]
  refine ⟨ds, gs, before, [], pa, pv, hW, hres _ _ _, hargs _ hold, hvars _ hold, World.keptBut_mono (fun p hp => ⟨hp, ?_⟩) (hk.but _), fun _ => ?_⟩
  · exact Or.inr (List.mem_append.1 (hps ▸ hp))
  · obtain ⟨_, _, _, _, _, hz, hn⟩ := hW
    refine ⟨hok, _, _, [] ++ pa ++ pv, ⟨[] ++ pa, pv, trodAll_append (hargs _ (fun _ _ => rfl)) (hres _ _ _), hvars _ (fun _ _ => rfl), rfl, fun b off hp => ?_, fun ha => ?_⟩, fun p hp _ => (hb p).1 hp⟩
    · have hp' := (hb _).1 hp
      rw [hk.frozen _ (hlt _ hp')]
      exact hz b off hp'
    · have := hn ha
      rwa [hps, ← List.nil_append pa] at this
end AE

namespace AE
open Go Go.ChangeShapes Go.WideShapes Go.RowKit

theorem Keeps.below {w w' : World} (h : Keeps (fun _ => False) w w') : Below w.heap.size w w' :=
  ⟨h.os, h.tape, h.output, h.size, fun k hk => h.block k hk fun e => e⟩

/-- What a cell of a flat type holds. -/
inductive FK where
  | int (k : IntKind)
  | bool
def FK.ok : FK → Value → Prop
  | .int k, v => ∃ n, v = .int k n ∧ (Lit.int k n).wf = true
  | .bool, v => ∃ b, v = .bool b
def FKs : List FK → List Value → Prop
  | [], vs => vs = []
  | k :: ks, vs => ∃ v r, vs = v :: r ∧ k.ok v ∧ FKs ks r
theorem FKs.append : ∀ {a b : List FK} {x y : List Value}, FKs a x → FKs b y → FKs (a ++ b) (x ++ y)
  | [], _, _, _, h, k => by cases h; exact k
  | _ :: _, _, _, _, ⟨v, r, e, h1, h2⟩, k => ⟨v, _, by rw [e]; rfl, h1, h2.append k⟩
theorem FKs.length : ∀ {a : List FK} {x : List Value}, FKs a x → x.length = a.length
  | [], _, h => by cases h; rfl
  | _ :: _, _, ⟨v, r, e, _, h⟩ => by rw [e, List.length_cons, List.length_cons, h.length]

mutual
def flat (P : Program) : Nat → TypeId → Option (List FK)
  | 0, _ => none
  | n + 1, t => match P.underlying t with
    | some .bool => some [.bool]
    | some (.int k) => some [.int k]
    | some (.struct fs) => flatFs P n 0 fs.toList
    | _ => none
def flatFs (P : Program) : Nat → Nat → List Field → Option (List FK)
  | _, _, [] => some []
  | 0, _, _ :: _ => none
  | n + 1, o, f :: fs => match Nat.beq f.offset o, flat P n f.type with
    | true, some l => match Nat.beq (P.cellsOf f.type) l.length, flatFs P n (o + l.length) fs with
      | true, some r => some (l ++ r)
      | _, _ => none
    | _, _ => none
end

section
variable {H : Type} {enc : TypeId × Value → H} {P : Program} {w : World} {base : Nat} {spare : Nat → Bool} {held : Bool}
mutual
theorem flat_ok : ∀ (n : Nat) {t : TypeId} {ks : List FK} {fuel : Nat} {cs : List Value} {x : DataW H × List MemPlace}, flat P n t = some ks → P.cellsOf t = ks.length → DataW.trod enc P w base spare held fuel t cs = some x → FKs ks cs
  | 0, t, ks, fuel, cs, x, h, _, _ => by simp [flat] at h
  | n + 1, t, ks, fuel, cs, x, h, hc, hx => by
    unfold flat at h
    split at h
    · rename_i hu
      cases h
      cases fuel with
      | zero => simp [DataW.trod] at hx
      | succ m =>
        unfold DataW.trod at hx
        rw [hu] at hx
        split at hx <;> first | (simp_all; done) | skip
        rename_i b _ _
        exact ⟨_, _, rfl, ⟨_, rfl⟩, rfl⟩
    · rename_i k hu
      cases h
      cases fuel with
      | zero => simp [DataW.trod] at hx
      | succ m =>
        unfold DataW.trod at hx
        rw [hu] at hx
        split at hx <;> first | (simp_all; done) | skip
        split at hx
        · rename_i k1 _ _ he hh
          have he' : k = k1 := by simpa using he
          subst he'
          obtain ⟨rfl, hh⟩ := hh
          exact ⟨_, _, rfl, ⟨_, rfl, hh⟩, rfl⟩
        · cases hx
    · rename_i fs hu
      obtain ⟨xs, m, _, _, hl, hlen, hf⟩ := DataW.trod_struct hu hx
      have := flatFs_ok n (cs := cs) h (fun f hm => by
        obtain ⟨i, hi, rfl⟩ := List.getElem_of_mem hm
        have h1 : i < fs.size := by simpa using hi
        have h2 := hf i fs[i] (Array.getElem?_eq_getElem h1)
        rw [List.getElem?_eq_getElem (by omega)] at h2
        exact ⟨_, m, by rw [Array.getElem_toList]; exact h2⟩) (by rw [hl, hc]; omega)
      simpa using this
    · cases h
theorem flatFs_ok : ∀ (n : Nat) {o : Nat} {fs : List Field} {ks : List FK} {cs : List Value}, flatFs P n o fs = some ks →
    (∀ f ∈ fs, ∃ y m, DataW.trod enc P w base spare held m f.type ((cs.drop f.offset).take (P.cellsOf f.type)) = some y) → cs.length = o + ks.length → FKs ks (cs.drop o)
  | n, o, [], ks, cs, h, _, hl => by
    have : ks = [] := by cases n <;> simpa [flatFs] using h.symm
    subst this
    show cs.drop o = []
    exact List.drop_eq_nil_of_le (by simpa using Nat.le_of_eq hl)
  | 0, o, f :: fs, ks, cs, h, _, _ => by simp [flatFs] at h
  | n + 1, o, f :: fs, ks, cs, h, hf, hl => by
    unfold flatFs at h
    split at h
    case h_2 => cases h
    rename_i l ho hfl
    split at h
    case h_2 => cases h
    rename_i r hc hr
    cases h
    replace ho := Nat.eq_of_beq_eq_true ho
    replace hc := Nat.eq_of_beq_eq_true hc
    obtain ⟨y, m, hy⟩ := hf f (List.mem_cons_self ..)
    have h1 := flat_ok n hfl hc hy
    have h2 := flatFs_ok n (cs := cs) hr (fun g hg => hf g (List.mem_cons_of_mem _ hg)) (by rw [hl, List.length_append]; omega)
    rw [ho, hc] at h1
    have h3 := h1.append h2
    rw [← List.drop_drop, List.take_append_drop] at h3
    exact h3
end

theorem cells_get {a : Addr} {n : Nat} {cs : List Value} (h : w.cells? base a n = some cs) : cs.length = n ∧ ∀ j, j < n → w.cell? (a.add j) = cs[j]? := by
  unfold World.cells? at h
  split at h
  · exact ⟨by simpa using mapM_some_length h, fun j hj => mapM_some_get h j j (by simp [hj])⟩
  · cases h

theorem cell_spot {a : Addr} {v : Value} (h : w.cell? a = some v) : a.spot = none := by
  unfold World.cell? at h
  split at h
  · split at h
    · cases h
    · rename_i hs; simpa using hs
  · cases h

/-- A slice of flat elements, read as data, is a row of the executor's memory. -/
theorem row_of_trod {U : Uni} (c : U.C) {t e : TypeId} {ks : List FK} {n fuel : Nat} {v : Value} {x : DataW H × List MemPlace} (ht : P.underlying t = some (.slice e)) (hfl : flat P n e = some ks) (hce : P.cellsOf e = ks.length) (hsz : ks.length = U.sz c) (hpos : 0 < ks.length)
    (hdec : ∀ cs, FKs ks cs → ∃ x, U.enc c x = cs.map .v) (h : DataW.trod enc P w base spare held fuel t [v] = some x) :
    ∃ (l : List (U.ty c)) (p : Place), l.length < 9223372036854775808 ∧ (∀ π, BlkOk π w p (.ro c l)) ∧ ∀ (π : Plc) (id k : Nat), π id k = some p → Rep π (.sl id k 0 l.length) v := by
  rcases DataW.trod_slice ht h with ⟨h0, _⟩ | ⟨a, len, cap, elems, rest, m, _, hv, _, hb, hl, hm, hlen, hel, _, _⟩
  · cases h0
    refine ⟨[], ⟨0, 0, U.sz c, none, 0, 0⟩, by simp, fun π => ⟨rfl, fun i x hi => by simp at hi⟩, fun π id k _ => ?_⟩
    simp only [Rep]
    exact ⟨none, 0, rfl, Nat.le_refl _, fun h => absurd h (Nat.lt_irrefl 0)⟩
  · cases hv
    have each : ∀ i, i < len → ∃ x : U.ty c, ∀ j a1, (U.enc c x)[j]? = some a1 → ∃ y, w.cell? ((a.add (i * P.cellsOf e)).add j) = some y ∧ a1 = .v y := by
      intro i hi
      have h1 := hel i hi
      rw [List.getElem?_eq_getElem (by omega), Option.bind_eq_some_iff] at h1
      obtain ⟨cs, hcs, htr⟩ := h1
      obtain ⟨hcl, hcg⟩ := cells_get hcs
      obtain ⟨x, hx⟩ := hdec cs (flat_ok n hfl hce htr)
      refine ⟨x, fun j a1 hj => ?_⟩
      rw [hx, List.getElem?_map] at hj
      cases hc : cs[j]? with
      | none => rw [hc] at hj; cases hj
      | some y =>
        rw [hc] at hj
        have hjl := (List.getElem?_eq_some_iff.1 hc).1
        exact ⟨y, by rw [hcg j (by omega), hc], by simpa using hj.symm⟩
    have spot : 0 < len → a.spot = none := by
      intro h0
      obtain ⟨x, hx⟩ := each 0 h0
      have hl2 := U.len c x
      obtain ⟨y, hy, _⟩ := hx 0 ((U.enc c x)[0]'(by omega)) (List.getElem?_eq_getElem _)
      have h9 : (a.add (0 * P.cellsOf e)).add 0 = a := by simp [Addr.add]
      rw [h9] at hy
      exact cell_spot hy
    have : ∃ l : List (U.ty c), l.length = len ∧ ∀ i x, l[i]? = some x → ∀ j a1, (U.enc c x)[j]? = some a1 → ∃ y, w.cell? ((a.add (i * P.cellsOf e)).add j) = some y ∧ a1 = .v y := by
      refine ⟨(List.range len).pmap (fun i hi => (each i hi).choose) (fun i hi => List.mem_range.1 hi), by simp, fun i x hi => ?_⟩
      rw [List.getElem?_pmap] at hi
      by_cases h0 : i < len
      · rw [Option.pmap_eq_some_iff] at hi
        obtain ⟨i', h1, h2, rfl⟩ := hi
        have : i' = i := by rw [List.getElem?_range h0] at h2; exact (Option.some.inj h2).symm
        subst this
        exact (each i' h1).choose_spec
      · simp [List.getElem?_eq_none (show (List.range len).length ≤ i by simp; omega)] at hi
    obtain ⟨l, hll, hl2⟩ := this
    have hml : maxLen = 9223372036854775807 := by decide
    refine ⟨l, ⟨a.block, a.off, U.sz c, none, 0, 0⟩, by omega, fun π => ⟨rfl, fun i x hi j a1 hj => ?_⟩, fun π id k hp => ?_⟩
    · obtain ⟨y, hy, rfl⟩ := hl2 i x hi j a1 hj
      have hi' := (List.getElem?_eq_some_iff.1 hi).1
      have hs := spot (by omega)
      refine ⟨y, ?_, by simp [Rep]⟩
      rw [← hy]
      congr 1
      cases a
      simp only at hs
      subst hs
      simp only [Addr.add, hce, hsz]
      split <;> split <;> simp_all
    · simp only [Rep]
      refine ⟨some a, cap, by rw [hll], by omega, fun h0 => ⟨_, hp, ?_⟩⟩
      have hs := spot (by omega)
      cases a
      simp only at hs
      subst hs
      simp
end

/-- Rows that are only read, as memory. -/
def rosPlc (ps : List Place) : Plc := fun id k => if k = 0 then ps[id]? else none
theorem rosPlc_fresh (ps : List Place) : Fresh (rosPlc ps) ps.length := by
  intro id k h
  unfold rosPlc
  split
  · rw [List.getElem?_eq_none h]
  · rfl
def roH {U : Uni} (bs : List ((c : U.C) × List (U.ty c))) : Heap U := bs.map fun b => .one (.ro b.1 b.2)
theorem roH_at {U : Uni} {bs : List ((c : U.C) × List (U.ty c))} {id k : Nat} {b : AB1 U} (h : (roH bs).at id k = some b) : k = 0 ∧ ∃ c, bs[id]? = some c ∧ b = .ro c.1 c.2 := by
  unfold Heap.at roH at h
  rw [List.getElem?_map] at h
  cases hb : bs[id]? with
  | none => rw [hb] at h; cases h
  | some c =>
    rw [hb] at h
    simp only [Option.map_some] at h
    split at h
    · rename_i e; exact ⟨e, c, rfl, by simpa using h.symm⟩
    · cases h
theorem roH_conc {U : Uni} {w : World} {bs : List ((c : U.C) × List (U.ty c))} {ps : List Place} (hl : ps.length = bs.length) (h : ∀ (i : Nat) (b : (c : U.C) × List (U.ty c)) (p : Place), bs[i]? = some b → ps[i]? = some p → ∀ π, BlkOk (U := U) π w p (.ro b.1 b.2)) : Conc (rosPlc ps) (roH bs) w where
  ok := fun id k b hb => by
    obtain ⟨rfl, c, hc, rfl⟩ := roH_at hb
    have h1 := (List.getElem?_eq_some_iff.1 hc).1
    refine ⟨ps[id], ?_, h id c _ hc (List.getElem?_eq_getElem (by omega)) _⟩
    unfold rosPlc
    rw [if_pos rfl, List.getElem?_eq_getElem (by omega)]
  sep := fun id k b id' k' b' p p' hb _ _ ho => by
    obtain ⟨rfl, c, hc, rfl⟩ := roH_at hb
    cases ho
theorem roH_length {U : Uni} (bs : List ((c : U.C) × List (U.ty c))) : (roH bs).length = bs.length := by simp [roH]
/-- A call that owns nothing of its memory keeps all that was there. -/
theorem keeps_of_ro {U : Uni} {bs : List ((c : U.C) × List (U.ty c))} {w w' : World} {O : Nat → Prop} (h : Keeps O w w') (hO : ∀ n, ¬ O n) : Keeps (fun _ => False) w w' := h.weaken fun n _ hn => hO n hn

/-- Arguments read in a world that keeps all that was there as they read before. -/
theorem trodAll_stays {H : Type} {enc : TypeId × Value → H} {P : Program} (hl : laidOutB P = true) {W W' : World} {sp' : Nat → Bool} : ∀ {ts : List TypeId} {vs : List Value} {ds : List (DataW H)} {ps : List MemPlace},
    (ts.all fun t => P.readableRec t && decide (t < P.types.size)) = true → DataW.TrodAll enc P W 0 (fun _ => true) true ts vs ds ps → (∀ p ∈ ps, W.sameAt W' p) → (∀ p ∈ ps, sp' p.block = true) → DataW.TrodAll enc P W' 0 sp' true ts vs ds ps
  | [], [], [], _, _, h, _, _ => h
  | _ :: _, _ :: _, _ :: _, _, ht, ⟨p, q, h1, h2, e⟩, hs, hp => by
    simp only [List.all_cons, Bool.and_eq_true, decide_eq_true_eq] at ht
    exact ⟨p, q, WideElems.Trod_stays hl ht.1.1 ht.1.2 h1 (fun x hx => hs x (by rw [e]; exact List.mem_append_left _ hx)) (fun x hx => hp x (by rw [e]; exact List.mem_append_left _ hx)),
      trodAll_stays hl ht.2 h2 (fun x hx => hs x (by rw [e]; exact List.mem_append_right _ hx)) (fun x hx => hp x (by rw [e]; exact List.mem_append_right _ hx)), e⟩

/-- A law without named variables, by its walk: 'it returns true; the arguments read as they did'. -/
theorem law_lifted {C : Checked} {f : FuncId} {fn : Func} {s : ChangeSpec} {conds : List PathCond} (own : ownKnob C.prog.godebug = none) {os : Os} (started : os.Started) {H : Type} {enc : TypeId × Value → H} (noInit : C.prog.inits.idxOf? f = none) (hfn : C.prog.funcs[f]? = some fn)
    (witness : ∃ (w : World) (tape : Tape) (i : Input), w.os = os ∧ (w.forCall tape i).Shaped C.prog ∧ i.vars = [] ∧ Input.okWide C.prog (w.forCall tape i) .any w.heap.size f i ∧ s.pre6 enc C.prog fn conds false (w.forCall tape i).memory i.args ∧ ({} : Assume).holds C.prog (lone (Frame.enter C.prog f i.args .normal) [] (w.forCall tape i)))
    (hl : laidOutB C.prog = true) (hts : (fn.params.toList.all fun t => C.prog.readableRec t && decide (t < C.prog.types.size)) = true) {rt : TypeId} (hrt : fn.resultTypes = #[rt]) (hb : C.prog.underlying rt = some .bool)
    (hvars : s.vars = []) (hspec : ∀ ds : List (DataW H), ds.length = fn.params.size → (s.fn H ds).results = [.lit (.bool true)] ∧ (s.fn H ds).args = ds ∧ (s.fn H ds).vars = [])
    (walk : ∀ (W : World) (args : Array Value) (ds : List (DataW H)) (ps : List MemPlace), DataW.TrodAll enc C.prog W 0 (fun _ => true) true fn.params.toList args.toList ds ps → (∀ (j : Nat) t v, fn.params[j]? = some t → args[j]? = some v → ∃ base, Value.okWide C.prog W .any base t v) →
      Calls C.prog f args W fun e w' => e = .returned (.bool true) ∧ Keeps (fun _ => False) W w') :
    ReturnsInHanded {} C os f .any (s.pre6 enc C.prog fn conds false) (s.post enc C.prog fn false true false false) := by
  refine returnsInHanded_of_change (C := C) own started noInit hfn witness ?_
  intro W base args ds gs before hval hW hcnd _
  have hW' := hW
  obtain ⟨p, q, hA, hV, rfl, hfz, hnd⟩ := hW
  rw [hvars] at hV
  obtain ⟨rfl, rfl⟩ := trodVars_none hV
  simp only [List.append_nil] at hW'
  have hlen : ds.length = fn.params.size := by
    have : ∀ {ts : List TypeId} {vs : List Value} {ds : List (DataW H)} {ps : List MemPlace}, DataW.TrodAll enc C.prog W 0 (fun _ => true) true ts vs ds ps → ds.length = ts.length := by
      intro ts
      induction ts with
      | nil => intro vs ds ps h; obtain ⟨_, rfl, _⟩ := trodAll_nil h; rfl
      | cons t ts ih =>
        intro vs ds ps h
        obtain ⟨_, _, _, ds', _, _, _, rfl, _, _, h2⟩ := trodAll_cons h
        simp [ih h2]
    rw [this hA]; simp
  obtain ⟨s1, s2, s3⟩ := hspec (ds ++ []) (by simpa using hlen)
  refine (walk W args ds p hA fun j t v h1 h2 => ⟨base, hval j t v h1 h2⟩).mono fun e W' ⟨he, hg⟩ => ?_
  subst he
  refine ⟨_, rfl, post_of_keeps (pa := p) (pv := []) hW' (fun b sp hd => ?_) (fun sp hsp => ?_) (fun sp _ => ?_) (by simp) hg ?_⟩
  · rw [s1, hrt]
    exact trodAll_cons_mk (shut_bool hb _) trodAll_mk0
  · rw [s2, List.append_nil]
    have hlt := hW'.lt
    exact trodAll_stays hl hts hA (fun x hx => hg.below.same (by simpa using hlt x hx)) fun x hx => hsp x hx
  · rw [s3, hvars]; rfl
  · exact ok_one hrt rfl (okWide_bool_mk hb _)

theorem agg_of_cells {v : Value} {l : List Value} (h : v.cells.toList = l) (hl : l.length ≠ 1) : v = .agg l.toArray := by
  cases v with
  | agg cs => simp only [Value.cells] at h; rw [← h]
  | _ => simp only [Value.cells] at h; rw [← h] at hl; exact absurd rfl hl
theorem cells_of_one2 {v : Value} {x : Value} (hx : ∀ cs, v ≠ .agg cs) (h : v.cells.toList = [x]) : v = x := by
  cases v with
  | agg cs => exact absurd rfl (hx cs)
  | _ => simpa [Value.cells] using h
/-- A flat value read as data: its cells. -/
theorem flat_cells {H : Type} {enc : TypeId × Value → H} {P : Program} {w : World} {base : Nat} {spare : Nat → Bool} {held : Bool} {t : TypeId} {v : Value} {d : DataW H} {ps : List MemPlace} {ks : List FK} (n : Nat) (hfl : flat P n t = some ks) (hce : P.cellsOf t = ks.length) (h : DataW.Trod enc P w base spare held t v d ps) : FKs ks v.cells.toList := by
  obtain ⟨fuel, h⟩ := h
  exact flat_ok n hfl hce h
theorem flat_agg {H : Type} {enc : TypeId × Value → H} {P : Program} {w : World} {base : Nat} {spare : Nat → Bool} {held : Bool} {t : TypeId} {v : Value} {d : DataW H} {ps : List MemPlace} {ks : List FK} (n : Nat) (hfl : flat P n t = some ks) (hce : P.cellsOf t = ks.length) (hne : ks.length ≠ 1) (h : DataW.Trod enc P w base spare held t v d ps) : ∃ l, FKs ks l ∧ v = .agg l.toArray := by
  have h1 := flat_cells n hfl hce h
  exact ⟨_, h1, agg_of_cells rfl (by rw [h1.length]; exact hne)⟩
theorem RepL.ofV {π : Plc} : ∀ (l : List Value), RepL π (l.map .v) l
  | [] => RepL.nil π
  | x :: l => RepL.cons (by simp [Rep]) (RepL.ofV l)
end AE

namespace AE.Pr
open Go AE Go.Proofs Go.ChangeShapes Go.WideShapes Go.RowKit

theorem laidOut : laidOutB Try.prog = true := by kernel_rfl
theorem flatW : flat Try.prog 30 27 = some [.bool, .int .i64, .bool] := by kernel_rfl
theorem flatC : flat Try.prog 30 67 = some [.int .i64, .int .i64, .bool, .int .i64, .bool, .bool, .int .i64, .bool] := by kernel_rfl
theorem decW (cs : List Value) (h : FKs [.bool, .int .i64, .bool] cs) : ∃ w : W3, cs = [.bool w.1, .int .i64 w.2.1, .bool w.2.2] := by
  obtain ⟨_, _, rfl, ⟨a, rfl⟩, _, _, rfl, ⟨b, rfl, _⟩, _, _, rfl, ⟨c, rfl⟩, h⟩ := h
  cases h
  exact ⟨(a, b, c), rfl⟩
theorem decC (cs : List Value) (h : FKs [.int .i64, .int .i64, .bool, .int .i64, .bool, .bool, .int .i64, .bool] cs) : ∃ x : Cl, CC.enc .claim x = cs.map .v := by
  obtain ⟨_, _, rfl, ⟨a, rfl, _⟩, _, _, rfl, ⟨b, rfl, _⟩, _, _, rfl, ⟨c, rfl⟩, _, _, rfl, ⟨d, rfl, _⟩, _, _, rfl, ⟨e, rfl⟩, _, _, rfl, ⟨f, rfl⟩, _, _, rfl, ⟨g, rfl, _⟩, _, _, rfl, ⟨i, rfl⟩, h⟩ := h
  cases h
  exact ⟨(a, b, (c, d, e), (f, g, i)), rfl⟩

section
variable {H : Type} {enc : TypeId × Value → H} {w : World} {d : DataW H} {ps : List MemPlace} {v : Value}
theorem open_word (h : DataW.Trod enc Try.prog w 0 (fun _ => true) true 27 v d ps) : ∃ x : W3, ∀ π, Rep π (vW x) v := by
  obtain ⟨l, hl, rfl⟩ := flat_agg 30 flatW (by kernel_rfl) (by decide) h
  obtain ⟨x, rfl⟩ := decW l hl
  refine ⟨x, fun π => ?_⟩
  simp only [vW, Rep]
  exact ⟨_, rfl, RepL.cons (by simp [Rep]) (RepL.cons (by simp [Rep]) (RepL.cons (by simp [Rep]) (RepL.nil π)))⟩
set_option maxRecDepth 100000 in
theorem open_hearing (h : DataW.Trod enc Try.prog w 0 (fun _ => true) true 25 v d ps) :
    ∃ (x : HT) (p q : Place), bigH x ∧ (∀ π, BlkOk π w p (.ro (U := UU) .claim x.2.1)) ∧ (∀ π, BlkOk π w q (.ro (U := UU) .word x.2.2)) ∧ ∀ π : Plc, π 0 0 = some p → π 1 0 = some q → Rep π (vH x) v := by
  obtain ⟨fuel, h⟩ := h
  obtain ⟨xs, m, _, _, hl, hlen, hf⟩ := DataW.trod_struct Try.underlying25 h
  have hc : Try.prog.cellsOf 25 = 5 := by kernel_rfl
  have c3 : Try.prog.cellsOf 3 = 1 := by kernel_rfl
  have c22 : Try.prog.cellsOf 22 = 1 := by kernel_rfl
  have c23 : Try.prog.cellsOf 23 = 1 := by kernel_rfl
  have fl3 : flat Try.prog 30 3 = some [.int .i64] := by kernel_rfl
  rw [hc] at hl
  have hv := agg_of_cells (v := v) rfl (by omega)
  obtain ⟨l, hl2⟩ : ∃ l, v.cells.toList = l := ⟨_, rfl⟩
  rw [hl2] at hl hv hf
  subst hv
  have hx : ∀ i, i < 5 → ∃ y, xs[i]? = some y := fun i hi => ⟨_, List.getElem?_eq_getElem (by have : xs.length = 5 := hlen; omega)⟩
  match l, hl with
  | [a, b, c, e, g], _ =>
  obtain ⟨y0, e0⟩ := hx 0 (by omega)
  obtain ⟨y1, e1⟩ := hx 1 (by omega)
  obtain ⟨y2, e2⟩ := hx 2 (by omega)
  obtain ⟨y3, e3⟩ := hx 3 (by omega)
  obtain ⟨y4, e4⟩ := hx 4 (by omega)
  have f0 : DataW.trod enc Try.prog w 0 (fun _ => true) true m 3 (([a, b, c, e, g].drop 0).take (Try.prog.cellsOf 3)) = xs[0]? := hf 0 _ rfl
  have f1 : DataW.trod enc Try.prog w 0 (fun _ => true) true m 3 (([a, b, c, e, g].drop 1).take (Try.prog.cellsOf 3)) = xs[1]? := hf 1 _ rfl
  have f2 : DataW.trod enc Try.prog w 0 (fun _ => true) true m 3 (([a, b, c, e, g].drop 2).take (Try.prog.cellsOf 3)) = xs[2]? := hf 2 _ rfl
  have f3 : DataW.trod enc Try.prog w 0 (fun _ => true) true m 22 (([a, b, c, e, g].drop 3).take (Try.prog.cellsOf 22)) = xs[3]? := hf 3 _ rfl
  have f4 : DataW.trod enc Try.prog w 0 (fun _ => true) true m 23 (([a, b, c, e, g].drop 4).take (Try.prog.cellsOf 23)) = xs[4]? := hf 4 _ rfl
  rw [e0, c3] at f0
  rw [e1, c3] at f1
  rw [e2, c3] at f2
  rw [e3, c22] at f3
  rw [e4, c23] at f4
  obtain ⟨_, _, h0, ⟨n0, rfl, _⟩, r0⟩ := flat_ok 30 fl3 c3 f0
  obtain ⟨_, _, h1, ⟨n1, rfl, _⟩, r1⟩ := flat_ok 30 fl3 c3 f1
  obtain ⟨_, _, h2, ⟨n2, rfl, _⟩, r2⟩ := flat_ok 30 fl3 c3 f2
  have h0' : a = .int .i64 n0 := (List.cons.inj h0).1
  have h1' : b = .int .i64 n1 := (List.cons.inj h1).1
  have h2' : c = .int .i64 n2 := (List.cons.inj h2).1
  obtain ⟨cs, p, hcs, hp, hpr⟩ := row_of_trod (U := UU) CC.claim Try.underlying22 flatC (by kernel_rfl) rfl (by decide) decC f3
  obtain ⟨ks, q, hks, hq, hqr⟩ := row_of_trod (U := UU) CC.word Try.underlying23 flatW (by kernel_rfl) rfl (by decide) (fun cs h => by
    obtain ⟨x, rfl⟩ := decW cs h
    exact ⟨x, rfl⟩) f4
  refine ⟨((n0, n1, n2), cs, ks), p, q, ⟨hcs, hks⟩, hp, hq, fun π h3 h4 => ?_⟩
  subst h0' h1' h2'
  simp only [vH, Rep]
  exact ⟨_, rfl, RepL.cons (by simp [Rep]) (RepL.cons (by simp [Rep]) (RepL.cons (by simp [Rep]) (RepL.cons (hpr π 0 0 h3) (RepL.cons (hqr π 1 0 h4) (RepL.nil π)))))⟩
end
theorem own_hH (x : HT) : hH x = roH (U := UU) [⟨CC.claim, x.2.1⟩, ⟨CC.word, x.2.2⟩] := rfl
/-- A law that takes a hearing and more: its walk. -/
theorem walk_of {f : FuncId} {W : World} {args : Array Value} {x : HT} {p q : Place} {al : List AV} (h : FunOk Try.prog f al (hH x) (.val ⟨.b true, [], [], []⟩)) (hp : ∀ π, BlkOk π W p (.ro (U := UU) .claim x.2.1)) (hq : ∀ π, BlkOk π W q (.ro (U := UU) .word x.2.2))
    (hr : RepL (rosPlc [p, q]) al args.toList) : Calls Try.prog f args W fun e w' => e = .returned (.bool true) ∧ Keeps (fun _ => False) W w' := by
  have hc : Conc (rosPlc [p, q]) (hH x) W := roH_conc (U := UU) (bs := [⟨CC.claim, x.2.1⟩, ⟨CC.word, x.2.2⟩]) rfl fun i b p' hb hp' π => by
    match i with
    | 0 => cases hb; cases hp'; exact hp π
    | 1 => cases hb; cases hp'; exact hq π
    | i + 2 => cases hb
  have hF := h (rosPlc [p, q]) W args.toList (rosPlc_fresh [p, q]) hc hr
  refine hF.mono fun e w' hh => ?_
  obtain ⟨v, πn, rfl, hpo⟩ := hh
  have hb := rep_v hpo.rep
  subst hb
  refine ⟨rfl, hpo.keeps.weaken fun n _ hn => ?_⟩
  obtain ⟨id, k, p, b0, hu, _⟩ := hn
  rcases hu with ⟨b, hb⟩ | hb <;> cases hb
end AE.Pr
