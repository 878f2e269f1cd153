/- An own symbolic executor: one operand, conversions, interfaces, functions, indexes, tuples, panics; literals of structs and slices. No condition. -/
import Derived.Test.YtfhpdgmhdppggaaAe7
import Derived.Great.BuildSlice
import Derived.Laws.MakeOwn
namespace AE
open Go

variable {U : Uni}

/-! ### one operand -/
def opUn (op : UnOp) (x : AV) (K : AV → Prop) : Prop :=
  match op, x with
  | .neg, .v (.int k n) => K (.v (.int k (k.wrap (0 - n))))
  | .not, .tt => K .ff
  | .not, .ff => K .tt
  | .not, .v (.bool b) => K (.b (!b))
  | _, _ => False

theorem opUn_ok {P : Program} {o : Oper} {ρ : Operand → AV} {H : Heap U} {base : Nat} {op : UnOp} {t : TypeId} {xo : Operand} {K : OOut U → Prop} (ho : o.op = .unOp op t xo)
    (h : opUn op (ρ xo) fun x => K (.val ⟨x, [], [], []⟩)) : ∃ r, K r ∧ OpOk P o ρ H base r := by
  unfold opUn at h
  split at h
  · rename_i hx
    exact OpOk.pureV h (by simp [ho]) fun π w a hc hρ => by
      exact ⟨_, by simp [execOp, ho, rep_v (hx ▸ hρ xo), Op.unary, Op.intArith]; rfl, by simp [Rep]⟩
  · rename_i hx
    exact OpOk.pureV h (by simp [ho]) fun π w a hc hρ => by
      have hv := hρ xo; rw [hx] at hv; simp only [Rep] at hv
      exact ⟨_, by simp [execOp, ho, hv, Op.unary]; rfl, by simp [Rep]⟩
  · rename_i hx
    exact OpOk.pureV h (by simp [ho]) fun π w a hc hρ => by
      have hv := hρ xo; rw [hx] at hv; simp only [Rep] at hv
      exact ⟨_, by simp [execOp, ho, hv, Op.unary]; rfl, by simp [Rep]⟩
  · rename_i hx
    exact OpOk.pureV h (by simp [ho]) fun π w a hc hρ => by
      have hv := hρ xo; rw [hx] at hv; simp only [Rep] at hv
      exact ⟨_, by simp [execOp, ho, hv, Op.unary]; rfl, by simp [Rep]⟩
  · exact h.elim

/-! ### conversions of numbers; conversions that turn nothing -/
def opConv (P : Program) (src dst : TypeId) (x : AV) (K : AV → Prop) : Prop :=
  match x, P.underlying src, P.underlying dst with
  | .v (.int _ n), some _, some (.int k) => K (.v (.int k (k.wrap n)))
  | _, _, _ => False

theorem opConv_ok {P : Program} {o : Oper} {ρ : Operand → AV} {H : Heap U} {base : Nat} {s d : TypeId} {xo : Operand} {K : OOut U → Prop} (ho : o.op = .convert s d xo)
    (h : opConv P s d (ρ xo) fun x => K (.val ⟨x, [], [], []⟩)) : ∃ r, K r ∧ OpOk P o ρ H base r := by
  unfold opConv at h
  split at h
  · rename_i hx hs hd
    exact OpOk.pureV h (by simp [ho]) fun π w a hc hρ => by
      have hv := rep_v (hx ▸ hρ xo)
      exact ⟨_, by simp [execOp, ho, hv, convert, run_und hs, run_und hd, Conv.intToInt]; rfl, by simp [Rep]⟩
  · exact h.elim

/-! ### interfaces, functions, nil checks, tuples, panics -/
def opIface (P : Program) (t : TypeId) (x : AV) (K : AV → Prop) : Prop :=
  match P.underlying t with
  | some (.interface _) => False
  | some _ => K (.ifc t x)
  | none => False

theorem opIface_ok {P : Program} {o : Oper} {ρ : Operand → AV} {H : Heap U} {base : Nat} {t : TypeId} {xo : Operand} {K : OOut U → Prop} (ho : o.op = .makeInterface t xo)
    (h : opIface P t (ρ xo) fun x => K (.val ⟨x, [], [], []⟩)) : ∃ r, K r ∧ OpOk P o ρ H base r := by
  unfold opIface at h
  split at h
  · exact h.elim
  · rename_i d hd hs
    refine OpOk.pureV h (by simp [ho]) fun π w a hc hρ => ⟨.iface t (a.eval xo), ?_, by simp only [Rep]; exact ⟨_, rfl, hρ xo⟩⟩
    simp only [execOp, ho, Instr.makeInterface, Sem.run_bind, run_und hs, Result.andThen_ok]
    cases d <;> first | rfl | exact absurd rfl (hd _)
  · exact h.elim

theorem RepL.evals {π : Plc} {ρ : Operand → AV} {a : Act} (h : ∀ x, Rep π (ρ x) (a.eval x)) : ∀ (l : List Operand), RepL π (l.map ρ) (l.map a.eval)
  | [] => RepL.nil π
  | x :: l => RepL.cons (h x) (RepL.evals h l)

theorem opFunc_ok {P : Program} {o : Oper} {ρ : Operand → AV} {H : Heap U} {base : Nat} {f : Fn} {xs ys : Array Operand} {K : OOut U → Prop} (ho : o.op = .makeFunc f xs ys)
    (h : K (.val ⟨.fn f (xs.toList.map ρ) (ys.toList.map ρ), [], [], []⟩)) : ∃ r, K r ∧ OpOk P o ρ H base r := by
  refine OpOk.pureV h (by simp [ho]) fun π w a hc hρ => ⟨.func f (xs.map a.eval) (ys.map a.eval), by simp [execOp, ho, Instr.makeFunc], ?_⟩
  simp only [Rep]
  exact ⟨_, _, rfl, by simpa using RepL.evals hρ xs.toList, by simpa using RepL.evals hρ ys.toList⟩

def opNil (x : AV) (K : AV → Prop) : Prop :=
  match x with
  | .ptr id k i fo => K (.ptr id k i fo)
  | .fn (.func f) a b => K (.fn (.func f) a b)
  | .ifc t x => K (.ifc t x)
  | _ => False

theorem opNil_ok {P : Program} {o : Oper} {ρ : Operand → AV} {H : Heap U} {base : Nat} {xo : Operand} {K : OOut U → Prop} (ho : o.op = .nilCheck xo)
    (h : opNil (ρ xo) fun x => K (.val ⟨x, [], [], []⟩)) : ∃ r, K r ∧ OpOk P o ρ H base r := by
  unfold opNil at h
  split at h
  · rename_i hx
    refine OpOk.pureV h (by simp [ho]) fun π w a hc hρ => ⟨a.eval xo, ?_, hx ▸ hρ xo⟩
    have hv := hρ xo; rw [hx] at hv; simp only [Rep] at hv
    obtain ⟨p, _, e⟩ := hv
    simp [execOp, ho, e]
  · rename_i hx
    refine OpOk.pureV h (by simp [ho]) fun π w a hc hρ => ⟨a.eval xo, ?_, hx ▸ hρ xo⟩
    have hv := hρ xo; rw [hx] at hv; simp only [Rep] at hv
    obtain ⟨p, q, e, _⟩ := hv
    simp [execOp, ho, e]
  · rename_i hx
    refine OpOk.pureV h (by simp [ho]) fun π w a hc hρ => ⟨a.eval xo, ?_, hx ▸ hρ xo⟩
    have hv := hρ xo; rw [hx] at hv; simp only [Rep] at hv
    obtain ⟨p, e, _⟩ := hv
    simp [execOp, ho, e]
  · exact h.elim

def opExtract (x : AV) (i : Nat) (K : AV → Prop) : Prop :=
  match x with
  | .tup xs => match nth xs i with
    | some y => K y
    | none => False
  | _ => False

theorem opExtract_ok {P : Program} {o : Oper} {ρ : Operand → AV} {H : Heap U} {base : Nat} {xo : Operand} {i : Nat} {K : OOut U → Prop} (ho : o.op = .extract xo i)
    (h : opExtract (ρ xo) i fun x => K (.val ⟨x, [], [], []⟩)) : ∃ r, K r ∧ OpOk P o ρ H base r := by
  unfold opExtract at h
  split at h
  case h_2 => exact h.elim
  rename_i xs hx
  split at h
  case h_2 => exact h.elim
  rename_i y hy
  rw [nth_eq] at hy
  refine OpOk.pureV h (by simp [ho]) fun π w a hc hρ => ?_
  have hv := hρ xo; rw [hx] at hv; simp only [Rep] at hv
  obtain ⟨arr, e, hr⟩ := hv
  obtain ⟨z, hz, hrz⟩ := hr.get hy
  have hz' : arr[i]? = some z := by simpa using hz
  exact ⟨z, by simp [execOp, ho, e, Instr.extract, hz'], hrz⟩

def opPanic (x : AV) (K : OOut U → Prop) : Prop :=
  match x with
  | .ifc t y => K (.panic (.ifc t y))
  | _ => False

theorem opPanic_ok {P : Program} {o : Oper} {ρ : Operand → AV} {H : Heap U} {base : Nat} {xo : Operand} {K : OOut U → Prop} (ho : o.op = .panic xo) (h : opPanic (ρ xo) K) : ∃ r, K r ∧ OpOk P o ρ H base r := by
  unfold opPanic at h
  split at h
  case h_2 => exact h.elim
  rename_i t y hx
  refine ⟨_, h, fun rd n π w a hc hρ => ?_⟩
  have hv := hρ xo; rw [hx] at hv
  have hv' := hv
  simp only [Rep] at hv
  obtain ⟨z, e, hz⟩ := hv
  refine wpIn_of_run (by simp [ho]) (r := .halt (.panic (a.eval xo)) w) ?_ ⟨a.eval xo, rfl, rfl, hv', Keeps.refl _ w⟩
  simp [execOp, ho, e, Instr.panic]

def opAssert (P : Program) (t : TypeId) (ok : Bool) (x : AV) (K : AV → Prop) : Prop :=
  match x, P.underlying t with
  | .ifc u y, some d => match d, Nat.decEq u t with
    | .interface _, _ => False
    | _, .isTrue _ => K (match ok with | true => .tup [y, .tt] | false => y)
    | _, .isFalse _ => False
  | _, _ => False

theorem opAssert_ok {P : Program} {o : Oper} {ρ : Operand → AV} {H : Heap U} {base : Nat} {xo : Operand} {xt t : TypeId} {ok : Bool} {K : OOut U → Prop} (ho : o.op = .typeAssert xo xt t ok)
    (h : opAssert P t ok (ρ xo) fun x => K (.val ⟨x, [], [], []⟩)) : ∃ r, K r ∧ OpOk P o ρ H base r := by
  unfold opAssert at h
  split at h
  case h_2 => exact h.elim
  rename_i u y d hx hu
  split at h
  · exact h.elim
  · rename_i _ _ hut hd _
    subst hut
    refine OpOk.pureV h (by simp [ho]) fun π w a hc hρ => ?_
    have hv := hρ xo; rw [hx] at hv; simp only [Rep] at hv
    obtain ⟨z, e, hz⟩ := hv
    refine ⟨if ok then .tuple #[z, .bool true] else z, ?_, ?_⟩
    · have : (Instr.typeAssert (a.eval xo) xt u ok).run P w = .ok (if ok then .tuple #[z, .bool true] else z) w := by
        simp only [Instr.typeAssert, e, Sem.run_bind, run_und hu, Result.andThen_ok]
        simp
      simp [execOp, ho, this]
    · cases ok with
      | true => simp only [Rep, if_true]; exact ⟨_, rfl, RepL.cons hz (RepL.cons (by simp [Rep]) (RepL.nil π))⟩
      | false => simpa using hz
  · exact h.elim
end AE
