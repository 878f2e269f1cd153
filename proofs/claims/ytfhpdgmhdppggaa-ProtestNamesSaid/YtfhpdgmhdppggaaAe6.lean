/- An own symbolic executor: arithmetic, tests, interfaces, indexes, tuples, panics. No condition. -/
import Derived.Test.YtfhpdgmhdppggaaAe5
import Derived.Laws.StructEq
namespace AE
open Go

variable {U : Uni}

/-- A value that is known, of an operand. -/
theorem rep_v {π : Plc} {x : Value} {y : Value} (h : Rep π (.v x) y) : y = x := by simpa [Rep] using h

theorem OpOk.pureV {P : Program} {o : Oper} {ρ : Operand → AV} {H : Heap U} {base : Nat} {x : AV} {K : OOut U → Prop} (hK : K (.val ⟨x, [], [], []⟩)) (hd : ∀ c, o.op ≠ .defer c)
    (h : ∀ (π : Plc) (w : World) (a : Act), Conc π H w → (∀ x, Rep π (ρ x) (a.eval x)) → ∃ v, (execOp a.eval o).run P w = .ok (.value v) w ∧ Rep π x v) :
    ∃ r, K r ∧ OpOk P o ρ H base r := ⟨_, hK, OpOk.pure hd h⟩

/-! ### numbers -/
def arith (op : BinOp) (k : IntKind) (a b : Int) (K : AV → Prop) : Prop :=
  match op with
  | .add => K (.v (.int k (k.wrap (a + b))))
  | .sub => K (.v (.int k (k.wrap (a - b))))
  | .mul => K (.v (.int k (k.wrap (a * b))))
  | .quo => b ≠ 0 ∧ K (.v (.int k (k.wrap (a.tdiv b))))
  | .rem => b ≠ 0 ∧ K (.v (.int k (a.tmod b)))
  | .and => K (.v (.int k (k.wrap (BitVec.ofInt k.bits a &&& BitVec.ofInt k.bits b).toNat)))
  | .or => K (.v (.int k (k.wrap (BitVec.ofInt k.bits a ||| BitVec.ofInt k.bits b).toNat)))
  | .xor => K (.v (.int k (k.wrap (BitVec.ofInt k.bits a ^^^ BitVec.ofInt k.bits b).toNat)))
  | .andNot => K (.v (.int k (k.wrap (BitVec.ofInt k.bits a &&& ~~~BitVec.ofInt k.bits b).toNat)))
  | .eql => K (.b (a == b))
  | .neq => K (.b (a != b))
  | .lss => K (.b (decide (a < b)))
  | .leq => K (.b (decide (a ≤ b)))
  | .gtr => K (.b (decide (a > b)))
  | .geq => K (.b (decide (a ≥ b)))
  | _ => False

def shiftA (op : BinOp) (k : IntKind) (a b : Int) (K : AV → Prop) : Prop :=
  match op with
  | .shl => 0 ≤ b ∧ K (.v (.int k (k.wrap (a * 2 ^ (min b.toNat k.bits)))))
  | .shr => 0 ≤ b ∧ K (.v (.int k (a.fdiv (2 ^ (min b.toNat k.bits)))))
  | _ => False

/-- A part of a value that has parts. -/
def partA (P : Program) (ft : TypeId) (cs : List AV) (off : Nat) : Option AV :=
  match aggT P ft with
  | some true => match tsize P ft with
    | some n => match Nat.decEq ((cs.drop off).take n).length n with
      | .isTrue _ => some (.agg ((cs.drop off).take n))
      | .isFalse _ => none
    | none => none
  | some false => nth cs off
  | none => none

theorem partA_ok {P : Program} {ft : TypeId} {cs : List AV} {off : Nat} {x : AV} (h : partA P ft cs off = some x) {π : Plc} {arr : Array Value} (hr : RepL π cs arr.toList) (w : World) :
    ∃ y, (Go.part ft arr off).run P w = .ok y w ∧ Rep π x y := by
  unfold partA at h
  split at h
  · rename_i hagg
    split at h
    case h_2 => cases h
    rename_i n hn
    split at h
    case h_2 => cases h
    rename_i hl _
    simp at h; subst h
    obtain ⟨h1, h2⟩ := hr.part hl
    refine ⟨.agg (arr.extract off (off + n)), by simp [Go.part, run_isAgg hagg, run_size hn], ?_⟩
    simp only [Rep]
    refine ⟨_, rfl, ?_⟩
    have : (arr.extract off (off + n)).toList = (arr.toList.drop off).take n := by simp [Array.toList_extract, List.extract]
    rw [this]; exact h1
  · rename_i hagg
    rw [nth_eq] at h
    obtain ⟨z, hz, hrz⟩ := hr.get h
    have hz' : arr[off]? = some z := by simpa using hz
    exact ⟨z, by simp [Go.part, run_isAgg hagg, hz'], hrz⟩
  · cases h

def eqF (P : Program) (eq : TypeId → AV → AV → Option Bool) (xs ys : List AV) : List Field → Option Bool
  | [] => some true
  | f :: fs => match f.name == "_" with
    | true => eqF P eq xs ys fs
    | false => match partA P f.type xs f.offset, partA P f.type ys f.offset with
      | some a, some b => match eq f.type a b, eqF P eq xs ys fs with
        | some r, some r' => some (r && r')
        | _, _ => none
      | _, _ => none

/-- Are two values of a type equal? -/
def eqT (P : Program) : Nat → TypeId → AV → AV → Option Bool
  | 0, _, _, _ => none
  | d + 1, t, x, y =>
    match P.underlying t with
    | some .bool => match x.asBool, y.asBool with
      | some a, some b => some (a == b)
      | _, _ => none
    | some (.int _) => match x, y with
      | .v (.int k a), .v (.int k' b) => match decEq k k' with
        | .isTrue _ => some (a == b)
        | .isFalse _ => none
      | _, _ => none
    | some (.struct fs) => match x, y with
      | .agg xs, .agg ys => match P.stoodInHeld t with
        | true => none
        | false => eqF P (eqT P d) xs ys fs.toList
      | _, _ => none
    | some (.interface _) => match x, y with
      | .v .nilIface, .v .nilIface => some true
      | .ifc .., .v .nilIface => some false
      | .v .nilIface, .ifc .. => some false
      | _, _ => none
    | some (.pointer _) => match x, y with
      | .v (.pointer none), .v (.pointer none) => some true
      | .ptr .., .v (.pointer none) => some false
      | .v (.pointer none), .ptr .. => some false
      | _, _ => none
    | some (.array 2 e) => match x, y with
      | .agg xs, .agg ys => match tsize P e with
        | some n => match partA P e xs (0 * n), partA P e ys (0 * n), partA P e xs (1 * n), partA P e ys (1 * n) with
          | some a, some b, some a', some b' => match eqT P d e a b, eqT P d e a' b' with
            | some r, some r' => some (r && r')
            | _, _ => none
          | _, _, _, _ => none
        | none => none
      | _, _ => none
    | _ => none

theorem eqF_ok {P : Program} {d : Nat} {eq : TypeId → AV → AV → Option Bool} {π : Plc} {xs ys : List AV} {ax ay : Array Value} (hx : RepL π xs ax.toList) (hy : RepL π ys ay.toList) (w : World)
    (he : ∀ t x y r, eq t x y = some r → ∀ vx vy, Rep π x vx → Rep π y vy → (Op.equalIn d t vx vy).run P w = .ok r w) :
    ∀ (fs : List Field) (r : Bool), eqF P eq xs ys fs = some r → (Op.eqFields d ax ay fs).run P w = .ok r w
  | [], r, h => by simp [eqF] at h; subst h; simp [Op.eqFields]
  | f :: fs, r, h => by
    unfold eqF at h
    unfold Op.eqFields
    split at h
    · rename_i hn
      have hn' : f.name = "_" := by simpa using hn
      simp only [hn', ne_eq, not_true_eq_false, if_false]
      exact eqF_ok hx hy w he fs r h
    · rename_i hn
      have hn' : f.name ≠ "_" := by simpa using hn
      split at h
      case h_2 => cases h
      rename_i a b ha hb
      split at h
      case h_2 => cases h
      rename_i r1 r2 h1 h2
      simp at h; subst h
      obtain ⟨va, hva, hra⟩ := partA_ok ha hx w
      obtain ⟨vb, hvb, hrb⟩ := partA_ok hb hy w
      have h3 := he _ _ _ _ h1 va vb hra hrb
      have h4 := eqF_ok hx hy w he fs r2 h2
      simp only [ne_eq, hn', not_false_eq_true, if_true, Sem.run_bind, hva, hvb, h3, Result.andThen_ok, Sem.run_ite]
      cases r1 <;> simp [h4]

theorem eqT_ok {P : Program} {π : Plc} (w : World) : ∀ (d e : Nat) (t : TypeId) (x y : AV) (r : Bool), eqT P d t x y = some r → ∀ vx vy, Rep π x vx → Rep π y vy → (Op.equalIn (d + e) t vx vy).run P w = .ok r w
  | 0, e, t, x, y, r, h => by simp [eqT] at h
  | d + 1, e, t, x, y, r, h => by
    intro vx vy hx hy
    have hde : d + 1 + e = (d + e) + 1 := by omega
    rw [hde]
    unfold eqT at h
    split at h
    · rename_i hu
      split at h
      case h_2 => cases h
      rename_i a b ha hb
      simp at h; subst h
      rw [AV.asBool_rep ha hx, AV.asBool_rep hb hy]
      exact run_equalIn_bool' w _ t a b hu
    · rename_i kk hu
      split at h
      case h_2 => cases h
      split at h
      case h_2 => cases h
      rename_i hk _
      subst hk
      simp at h; subst h
      rw [rep_v hx, rep_v hy]
      exact run_equalIn_int w _ t _ _ _ _ hu
    · rename_i fs hu
      split at h
      case h_2 => cases h
      rename_i xs ys
      split at h
      case h_1 => cases h
      rename_i hs
      simp only [Rep] at hx hy
      obtain ⟨ax, rfl, hx⟩ := hx
      obtain ⟨ay, rfl, hy⟩ := hy
      have hf : P.fieldsOf t = fs := by simp [Program.fieldsOf, hu]
      rw [run_equalIn_struct w (d + e) t ax ay (by rw [hf]; exact hu) hs, hf]
      exact eqF_ok hx hy w (fun t x y r h => eqT_ok w d e t x y r h) _ _ h
    · rename_i ms hu
      split at h <;> simp at h
      · subst h; rw [rep_v hx, rep_v hy]; simp [Op.equalIn, run_underlying hu]
      · subst h; simp only [Rep] at hx; obtain ⟨z, rfl, _⟩ := hx; rw [rep_v hy]; simp [Op.equalIn, run_underlying hu]
      · subst h; simp only [Rep] at hy; obtain ⟨z, rfl, _⟩ := hy; rw [rep_v hx]; simp [Op.equalIn, run_underlying hu]
    · rename_i ms hu
      split at h <;> simp at h
      · subst h; rw [rep_v hx, rep_v hy]; simp [Op.equalIn, run_underlying hu]
      · subst h; simp only [Rep] at hx; obtain ⟨z, _, rfl⟩ := hx; rw [rep_v hy]; simp [Op.equalIn, run_underlying hu]
      · subst h; simp only [Rep] at hy; obtain ⟨z, _, rfl⟩ := hy; rw [rep_v hx]; simp [Op.equalIn, run_underlying hu]
    · rename_i el hu
      split at h
      case h_2 => cases h
      rename_i xs ys
      split at h
      case h_2 => cases h
      rename_i n hn
      split at h
      case h_2 => cases h
      rename_i a b a' b' ha hb ha' hb'
      split at h
      case h_2 => cases h
      rename_i r1 r2 h1 h2
      simp at h; subst h
      simp only [Rep] at hx hy
      obtain ⟨ax, rfl, hx⟩ := hx
      obtain ⟨ay, rfl, hy⟩ := hy
      obtain ⟨va, hva, hra⟩ := partA_ok ha hx w
      obtain ⟨vb, hvb, hrb⟩ := partA_ok hb hy w
      obtain ⟨va', hva', hra'⟩ := partA_ok ha' hx w
      obtain ⟨vb', hvb', hrb'⟩ := partA_ok hb' hy w
      have k1 := eqT_ok w d e el a b r1 h1 va vb hra hrb
      have k2 := eqT_ok w d e el a' b' r2 h2 va' vb' hra' hrb'
      have hr : List.range' 0 2 = [0, 1] := rfl
      simp only [Op.equalIn, Sem.run_bind, run_underlying hu, Result.andThen_ok, run_size hn, Std.Legacy.Range.forIn_eq_forIn_range', Std.Legacy.Range.size, hr, Nat.sub_zero, Nat.add_sub_cancel, Nat.div_one, List.forIn_cons, List.forIn_nil, hva, hvb, hva', hvb', k1, k2]
      rw [Nat.one_mul] at hva' hvb'
      cases r1 <;> cases r2 <;> simp [hva, hvb, hva', hvb', k1, k2]
    · cases h
end AE
