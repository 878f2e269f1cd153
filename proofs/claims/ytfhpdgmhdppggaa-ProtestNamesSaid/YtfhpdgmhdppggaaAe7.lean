/- An own symbolic executor: two operands, one operand, conversions, interfaces, functions, indexes, tuples, panics. No condition. -/
import Derived.Test.YtfhpdgmhdppggaaAe6
namespace AE
open Go

variable {U : Uni}

def isConstO : Operand → Bool
  | .const _ => true
  | _ => false

/-- 0: not known; 1: a nil interface value; 2: an aggregate; 3: anything else. -/
def AV.sort : AV → Nat
  | .junk | .alt .. => 0
  | .v .nilIface => 1
  | .v (.agg _) => 0
  | .agg _ => 2
  | _ => 3

theorem sort_rep {π : Plc} {x : AV} {y : Value} (h : Rep π x y) (h0 : x.sort ≠ 0) : (y = .nilIface → x.sort = 1) ∧ (∀ cs, y = .agg cs → x.sort = 2) := by
  cases x with
  | junk => exact absurd rfl h0
  | alt c a b => exact absurd rfl h0
  | v x => simp only [Rep] at h; subst h; cases y <;> simp_all [AV.sort]
  | tt => simp only [Rep] at h; subst h; simp
  | ff => simp only [Rep] at h; subst h; simp
  | ptr id k i fo => simp only [Rep] at h; obtain ⟨p, _, rfl⟩ := h; simp
  | sl id k o n => simp only [Rep] at h; obtain ⟨a, c, rfl, _⟩ := h; simp
  | gs id k => simp only [Rep] at h; obtain ⟨p, _, rfl⟩ := h; simp
  | map id k => simp only [Rep] at h; obtain ⟨p, _, rfl⟩ := h; simp
  | fn f a b => simp only [Rep] at h; obtain ⟨a, c, rfl, _⟩ := h; simp
  | ifc t x => simp only [Rep] at h; obtain ⟨a, rfl, _⟩ := h; simp
  | agg xs => simp only [Rep] at h; obtain ⟨a, rfl, _⟩ := h; simp [AV.sort]
  | tup xs => simp only [Rep] at h; obtain ⟨a, rfl, _⟩ := h; simp

/-- May the guard of an equality be passed? -/
def guardOk (P : Program) (t : TypeId) (c : Bool) (x y : AV) : Bool :=
  match x.sort, y.sort with
  | 0, _ => false
  | _, 0 => false
  | 1, 1 => c
  | 2, 2 => !P.eqGuardType P.depth t
  | _, _ => true

theorem guardOk_ne {P : Program} {t : TypeId} {c : Bool} {x y : AV} (h : guardOk P t c x y = true) : x.sort ≠ 0 ∧ y.sort ≠ 0 := by
  unfold guardOk at h
  constructor
  · intro e; rw [e] at h; simp at h
  · intro e; rw [e] at h; split at h <;> simp_all

def opBin (P : Program) (op : BinOp) (t : TypeId) (c : Bool) (x y : AV) (K : AV → Prop) : Prop :=
  match x, y with
  | .v (.int k a), .v (.int k' b) => match op with
    | .shl => shiftA .shl k a b K
    | .shr => shiftA .shr k a b K
    | op => match decEq k k' with
      | .isTrue _ => arith op k a b K
      | .isFalse _ => False
  | .ptr .., .v (.pointer none) => match op, eqT P 8 t x y with
    | .eql, some false => K .ff
    | .neq, some false => K .tt
    | _, _ => False
  | .ifc .., .v .nilIface => match op, eqT P 8 t x y with
    | .eql, some false => K .ff
    | .neq, some false => K .tt
    | _, _ => False
  | x, y => match guardOk P t c x y with
    | false => False
    | true => match op, eqT P 8 t x y with
      | .eql, some r => K (.b r)
      | .neq, some r => K (.b (!r))
      | _, _ => False

section
variable {P : Program} {w : World}

theorem run_arith {op : BinOp} {t : TypeId} {k : IntKind} {a b : Int} {K : AV → Prop} (h1 : op ≠ .shl) (h2 : op ≠ .shr) (h : arith op k a b K) : ∃ x v, K x ∧ (∀ w, (binOp op t (.int k a) (.int k b)).run P w = .ok v w) ∧ ∀ π, Rep π x v := by
  cases op <;> simp only [arith] at h
  case add => exact ⟨_, _, h, fun w => by simp [binOp, Op.intArith]; rfl, fun π => by simp [Rep]⟩
  case sub => exact ⟨_, _, h, fun w => by simp [binOp, Op.intArith]; rfl, fun π => by simp [Rep]⟩
  case mul => exact ⟨_, _, h, fun w => by simp [binOp, Op.intArith]; rfl, fun π => by simp [Rep]⟩
  case quo => exact ⟨_, _, h.2, fun w => by simp [binOp, Op.intDiv, h.1]; rfl, fun π => by simp [Rep]⟩
  case rem => exact ⟨_, _, h.2, fun w => by simp [binOp, Op.intDiv, h.1]; rfl, fun π => by simp [Rep]⟩
  case and => exact ⟨_, _, h, fun w => by simp only [binOp, Op.intBits, ne_eq, not_true_eq_false, if_false, Sem.run_pure]; rfl, fun π => by simp [Rep]⟩
  case or => exact ⟨_, _, h, fun w => by simp only [binOp, Op.intBits, ne_eq, not_true_eq_false, if_false, Sem.run_pure]; rfl, fun π => by simp [Rep]⟩
  case xor => exact ⟨_, _, h, fun w => by simp only [binOp, Op.intBits, ne_eq, not_true_eq_false, if_false, Sem.run_pure]; rfl, fun π => by simp [Rep]⟩
  case andNot => exact ⟨_, _, h, fun w => by simp only [binOp, Op.intBits, ne_eq, not_true_eq_false, if_false, Sem.run_pure]; rfl, fun π => by simp [Rep]⟩
  case eql => exact ⟨_, _, h, fun w => by simp [binOp, Op.intCmp]; rfl, fun π => by simp [Rep]⟩
  case neq => exact ⟨_, _, h, fun w => by simp [binOp, Op.intCmp]; rfl, fun π => by simp [Rep]⟩
  case lss => exact ⟨_, _, h, fun w => by simp [binOp, Op.intCmp]; rfl, fun π => by simp [Rep]⟩
  case leq => exact ⟨_, _, h, fun w => by simp [binOp, Op.intCmp]; rfl, fun π => by simp [Rep]⟩
  case gtr => exact ⟨_, _, h, fun w => by simp [binOp, Op.intCmp]; rfl, fun π => by simp [Rep]⟩
  case geq => exact ⟨_, _, h, fun w => by simp [binOp, Op.intCmp]; rfl, fun π => by simp [Rep]⟩

theorem run_shiftA {op : BinOp} {t : TypeId} {k k' : IntKind} {a b : Int} {K : AV → Prop} (h : shiftA op k a b K) : ∃ x v, K x ∧ (∀ w, (binOp op t (.int k a) (.int k' b)).run P w = .ok v w) ∧ ∀ π, Rep π x v := by
  cases op <;> simp only [shiftA] at h
  case shl =>
    have hn : ¬ b < 0 := by omega
    exact ⟨_, _, h.2, fun w => by simp [binOp, Op.shift, hn]; rfl, fun π => by simp [Rep]⟩
  case shr =>
    have hn : ¬ b < 0 := by omega
    exact ⟨_, _, h.2, fun w => by simp [binOp, Op.shift, hn]; rfl, fun π => by simp [Rep]⟩

theorem run_eqGuard_ints {op : BinOp} {t : TypeId} {x y : Operand} {k k' : IntKind} {a b : Int} : (eqGuard op t x y (.int k a) (.int k' b)).run P w = .ok () w := by
  unfold eqGuard; cases op <;> simp

theorem run_eql_of {d : Nat} {t : TypeId} {x y : AV} {vx vy : Value} {π : Plc} {r : Bool} (hne : ∀ k a k' b, ¬ (x = .v (.int k a) ∧ y = .v (.int k' b))) (hd : d + 1 ≤ 10000) (h : eqT P (d + 1) t x y = some r) (hx : Rep π x vx) (hy : Rep π y vy) :
    (binOp .eql t vx vy).run P w = .ok (.bool r) w ∧ (binOp .neq t vx vy).run P w = .ok (.bool (!r)) w := by
  have he := eqT_ok w (d + 1) (10000 - (d + 1)) t x y r h vx vy hx hy
  have hmax : d + 1 + (10000 - (d + 1)) = Op.maxDepth := by simp [Op.maxDepth]; omega
  rw [hmax] at he
  unfold eqT at h
  split at h
  · split at h
    case h_2 => cases h
    rename_i a b ha hb
    rw [AV.asBool_rep ha hx, AV.asBool_rep hb hy] at he ⊢
    simp [binOp, Op.equal, he]
  · split at h
    case h_2 => cases h
    exact absurd ⟨rfl, rfl⟩ (hne _ _ _ _)
  · split at h
    case h_2 => cases h
    simp only [Rep] at hx hy
    obtain ⟨ax, rfl, hx⟩ := hx
    obtain ⟨ay, rfl, hy⟩ := hy
    simp [binOp, Op.equal, he]
  · split at h <;> simp at h
    · rw [rep_v hx, rep_v hy] at he ⊢; simp [binOp, Op.equal, he]
    · simp only [Rep] at hx; obtain ⟨z, rfl, _⟩ := hx; rw [rep_v hy] at he ⊢; simp [binOp, Op.equal, he]
    · simp only [Rep] at hy; obtain ⟨z, rfl, _⟩ := hy; rw [rep_v hx] at he ⊢; simp [binOp, Op.equal, he]
  · split at h <;> simp at h
    · rw [rep_v hx, rep_v hy] at he ⊢; simp [binOp, Op.equal, he]
    · simp only [Rep] at hx; obtain ⟨z, _, rfl⟩ := hx; rw [rep_v hy] at he ⊢; simp [binOp, Op.equal, he]
    · simp only [Rep] at hy; obtain ⟨z, _, rfl⟩ := hy; rw [rep_v hx] at he ⊢; simp [binOp, Op.equal, he]
  · split at h
    case h_2 => cases h
    simp only [Rep] at hx hy
    obtain ⟨ax, rfl, hx⟩ := hx
    obtain ⟨ay, rfl, hy⟩ := hy
    simp [binOp, Op.equal, he]
  · cases h

theorem run_guard {op : BinOp} {t : TypeId} {xo yo : Operand} {x y : AV} {vx vy : Value} {π : Plc} (h : guardOk P t (isConstO xo || isConstO yo) x y = true) (hx : Rep π x vx) (hy : Rep π y vy) : (eqGuard op t xo yo vx vy).run P w = .ok () w := by
  by_cases hn : vx = .nilIface ∧ vy = .nilIface
  · obtain ⟨rfl, rfl⟩ := hn
    have hc : (isConstO xo || isConstO yo) = true := by
      have h1 := (sort_rep hx (guardOk_ne h).1).1 rfl
      have h2 := (sort_rep hy (guardOk_ne h).2).1 rfl
      unfold guardOk at h; rw [h1, h2] at h; exact h
    clear h
    cases op <;> cases xo <;> cases yo <;> first | rfl | exact absurd hc (by simp [isConstO])
  · by_cases ha : ∃ a b, vx = .agg a ∧ vy = .agg b
    · obtain ⟨a, b, rfl, rfl⟩ := ha
      have : P.eqGuardType P.depth t = false := by
        have h1 := (sort_rep hx (guardOk_ne h).1).2 _ rfl
        have h2 := (sort_rep hy (guardOk_ne h).2).2 _ rfl
        unfold guardOk at h; rw [h1, h2] at h; simpa using h
      exact run_eqGuard_agg w op t xo yo a b this
    · clear h hx hy
      cases op <;> cases vx <;> cases vy <;> first | rfl | exact absurd ⟨rfl, rfl⟩ hn | exact absurd ⟨_, _, rfl, rfl⟩ ha
end

theorem opBin_ok {P : Program} {o : Oper} {ρ : Operand → AV} {H : Heap U} {base : Nat} {op : BinOp} {t t' : TypeId} {xo yo : Operand} {K : OOut U → Prop} (ho : o.op = .binOp op t xo yo t')
    (h : opBin P op t (isConstO xo || isConstO yo) (ρ xo) (ρ yo) fun x => K (.val ⟨x, [], [], []⟩)) : ∃ r, K r ∧ OpOk P o ρ H base r := by
  have fin : ∀ (x : AV), (∀ (π : Plc) (w : World) (a : Act), (∀ x, Rep π (ρ x) (a.eval x)) → ∃ v, (eqGuard op t xo yo (a.eval xo) (a.eval yo)).run P w = .ok () w ∧ (binOp op t (a.eval xo) (a.eval yo)).run P w = .ok v w ∧ Rep π x v) → OpOk P o ρ H base (.val ⟨x, [], [], []⟩) := by
    intro x hx
    refine OpOk.pure (by simp [ho]) fun π w a hc hρ => ?_
    obtain ⟨v, h1, h2, h3⟩ := hx π w a hρ
    exact ⟨v, by simp [execOp, ho, h1, h2], h3⟩
  have geq : ∀ (r : Bool) (z : AV), (∀ π v, v = .bool r → Rep π z v) → op = .eql → (∀ k a k' b, ¬ (ρ xo = .v (.int k a) ∧ ρ yo = .v (.int k' b))) → guardOk P t (isConstO xo || isConstO yo) (ρ xo) (ρ yo) = true → eqT P 8 t (ρ xo) (ρ yo) = some r → OpOk P o ρ H base (.val ⟨z, [], [], []⟩) := by
    intro r z hz hop hne hg he
    refine fin z fun π w a hρ => ⟨.bool r, run_guard hg (hρ xo) (hρ yo), ?_, hz π _ rfl⟩
    rw [hop]; exact (run_eql_of hne (by omega) he (hρ xo) (hρ yo)).1
  have gne : ∀ (r : Bool) (z : AV), (∀ π v, v = .bool (!r) → Rep π z v) → op = .neq → (∀ k a k' b, ¬ (ρ xo = .v (.int k a) ∧ ρ yo = .v (.int k' b))) → guardOk P t (isConstO xo || isConstO yo) (ρ xo) (ρ yo) = true → eqT P 8 t (ρ xo) (ρ yo) = some r → OpOk P o ρ H base (.val ⟨z, [], [], []⟩) := by
    intro r z hz hop hne hg he
    refine fin z fun π w a hρ => ⟨.bool (!r), run_guard hg (hρ xo) (hρ yo), ?_, hz π _ rfl⟩
    rw [hop]; exact (run_eql_of hne (by omega) he (hρ xo) (hρ yo)).2
  unfold opBin at h
  split at h
  · rename_i k a k' b hx hy
    have hints : ∀ (π : Plc) (ac : Act), (∀ x, Rep π (ρ x) (ac.eval x)) → ac.eval xo = .int k a ∧ ac.eval yo = .int k' b := by
      intro π ac hρ
      have h1 := hρ xo; have h2 := hρ yo
      rw [hx] at h1; rw [hy] at h2
      exact ⟨rep_v h1, rep_v h2⟩
    split at h
    · obtain ⟨x, v, hK, hr, hR⟩ := run_shiftA (P := P) (t := t) (k' := k') h
      exact ⟨_, hK, fin x fun π w ac hρ => ⟨v, by rw [(hints π ac hρ).1, (hints π ac hρ).2]; exact run_eqGuard_ints, by rw [(hints π ac hρ).1, (hints π ac hρ).2]; exact hr w, hR π⟩⟩
    · obtain ⟨x, v, hK, hr, hR⟩ := run_shiftA (P := P) (t := t) (k' := k') h
      exact ⟨_, hK, fin x fun π w ac hρ => ⟨v, by rw [(hints π ac hρ).1, (hints π ac hρ).2]; exact run_eqGuard_ints, by rw [(hints π ac hρ).1, (hints π ac hρ).2]; exact hr w, hR π⟩⟩
    · rename_i h1 h2
      split at h
      case h_2 => exact h.elim
      rename_i hk _
      subst hk
      obtain ⟨x, v, hK, hr, hR⟩ := run_arith (P := P) (t := t) h1 h2 h
      exact ⟨_, hK, fin x fun π w ac hρ => ⟨v, by rw [(hints π ac hρ).1, (hints π ac hρ).2]; exact run_eqGuard_ints, by rw [(hints π ac hρ).1, (hints π ac hρ).2]; exact hr w, hR π⟩⟩
  · rename_i hx hy
    have hne : ∀ k a k' b, ¬ (ρ xo = .v (.int k a) ∧ ρ yo = .v (.int k' b)) := by rw [hx]; intro k a k' b e; exact absurd e.1 (by simp)
    have hg : guardOk P t (isConstO xo || isConstO yo) (ρ xo) (ρ yo) = true := by rw [hx, hy]; rfl
    split at h
    · rename_i he; exact ⟨_, h, geq false .ff (fun π v e => by simp [Rep, e]) rfl hne hg he⟩
    · rename_i he; exact ⟨_, h, gne false .tt (fun π v e => by simp [Rep, e]) rfl hne hg he⟩
    · exact h.elim
  · rename_i hx hy
    have hne : ∀ k a k' b, ¬ (ρ xo = .v (.int k a) ∧ ρ yo = .v (.int k' b)) := by rw [hx]; intro k a k' b e; exact absurd e.1 (by simp)
    have hg : guardOk P t (isConstO xo || isConstO yo) (ρ xo) (ρ yo) = true := by rw [hx, hy]; rfl
    split at h
    · rename_i he; exact ⟨_, h, geq false .ff (fun π v e => by simp [Rep, e]) rfl hne hg he⟩
    · rename_i he; exact ⟨_, h, gne false .tt (fun π v e => by simp [Rep, e]) rfl hne hg he⟩
    · exact h.elim
  · rename_i hi _ _
    have hne : ∀ k a k' b, ¬ (ρ xo = .v (.int k a) ∧ ρ yo = .v (.int k' b)) := fun k a k' b e => hi k a k' b e.1 e.2
    split at h
    case h_1 => exact h.elim
    rename_i hg
    split at h
    · rename_i he; exact ⟨_, h, geq _ _ (fun π v e => by simp [Rep, e]) rfl hne hg he⟩
    · rename_i he; exact ⟨_, h, gne _ _ (fun π v e => by simp [Rep, e]) rfl hne hg he⟩
    · exact h.elim
end AE
