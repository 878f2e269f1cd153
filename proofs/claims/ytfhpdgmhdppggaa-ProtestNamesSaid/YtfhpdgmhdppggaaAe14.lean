/- An own symbolic executor: calls by contract. No condition. -/
import Derived.Test.YtfhpdgmhdppggaaAe13
import Derived.Shelf.Abstract
namespace AE
open Go

variable {U : Uni}

/-- A contract: of the arguments, of memory, of where new blocks are to be numbered from, and of what is wanted behind. -/
abbrev Con (U : Uni) := List AV → Heap U → Nat → (OOut U → Prop) → Prop

def CallOk (P : Program) (f : FuncId) (args : List AV) (H : Heap U) (base : Nat) : OOut U → Prop
  | .val r => ∀ (π : Plc) (w : World) (vs : List Value), Conc π H w → RepL π args vs → (∀ j k, j < r.new.length → π (base + j) k = none) →
      Calls P f vs.toArray w fun e w' => ∃ v πn, e = .returned v ∧ Post H base r π πn w w' v
  | .panic x => ∀ (π : Plc) (w : World) (vs : List Value), Conc π H w → RepL π args vs →
      Calls P f vs.toArray w fun e w' => ∃ y, e = .panicked [{ v := y, recovered := false }] ∧ Rep π x y ∧ Keeps (fun _ => False) w w'

structure Sound (P : Program) (f : FuncId) (c : Con U) : Prop where
  enters : ∀ args w, (callFunc f args).run P w = .ok (.enter f args) w
  ok : ∀ args H base K, c args H base K → ∃ r, K r ∧ CallOk P f args H base r

abbrev Tab (U : Uni) := List (FuncId × Con U)

def Tab.look : Tab U → FuncId → Option (Con U)
  | [], _ => none
  | (g, c) :: T, f => match Nat.decEq g f with
    | .isTrue _ => some c
    | .isFalse _ => look T f

def Tab.Sound (P : Program) : Tab U → Prop
  | [] => True
  | (g, c) :: T => AE.Sound P g c ∧ Tab.Sound P T

theorem Tab.Sound.get {P : Program} : ∀ {T : Tab U} {f : FuncId} {c : Con U}, T.Sound P → T.look f = some c → AE.Sound P f c
  | [], _, _, _, h => by simp [Tab.look] at h
  | (g, c') :: T, f, c, hs, h => by
    unfold Tab.look at h
    split at h
    · rename_i e _; simp at h; subst h; subst e; exact hs.1
    · exact Tab.Sound.get hs.2 h

theorem rep_alt {π : Plc} {c : Bool} {a b : AV} {y : Value} (h : Rep π (.alt c a b) y) : (c = true → Rep π a y) ∧ (c = false → Rep π b y) := by
  rw [Rep] at h; exact h

theorem callsIn_of {P : Program} {f : FuncId} {args : Array Value} {w : World} {R : Ending → World → Prop} (rd : Option Nat) (n : Nat) (h : Calls P f args w R) : CallsIn (Fw rd) n P f args w R := by
  cases rd with
  | none => exact callsIn_wide.2 h
  | some l => exact CallsIn.inRound l (callsIn_wide.2 h)

theorem OpOk.call {P : Program} {o : Oper} {ρ : Operand → AV} {H : Heap U} {base : Nat} {f : FuncId} {args : List AV} {r : OOut U} (hd : ∀ c, o.op ≠ .defer c)
    (hrun : ∀ (π : Plc) (w : World) (a : Act), Conc π H w → (∀ x, Rep π (ρ x) (a.eval x)) → ∃ vs : List Value, (execOp a.eval o).run P w = .ok (.enter f vs.toArray) w ∧ RepL π args vs)
    (h : CallOk P f args H base r) : OpOk P o ρ H base r := by
  cases r with
  | val r =>
    intro rd n π w a hc hρ hf
    obtain ⟨vs, hr, hv⟩ := hrun π w a hc hρ
    refine wpIn_of_run hd hr ⟨fun hh => by cases rd <;> simp [Fw, Fence.wide] at hh, (callsIn_of rd _ (h π w vs hc hv hf)).mono ?_⟩
    rintro e w' ⟨v, πn, rfl, hp⟩
    exact ⟨v, πn, rfl, hp⟩
  | panic x =>
    intro rd n π w a hc hρ
    obtain ⟨vs, hr, hv⟩ := hrun π w a hc hρ
    refine wpIn_of_run hd hr ⟨fun hh => by cases rd <;> simp [Fw, Fence.wide] at hh, (callsIn_of rd _ (h π w vs hc hv)).mono ?_⟩
    rintro e w' ⟨y, rfl, hy, hk⟩
    exact ⟨y, rfl, rfl, hy, hk⟩

/-! ### calls of function values -/
def opCallV (T : Tab U) (f : AV) (args : List AV) (H : Heap U) (base : Nat) (K : OOut U → Prop) : Prop :=
  match f with
  | .fn (.func g) first cap => match T.look g with
    | some c => c (first ++ args ++ cap) H base K
    | none => False
  | .alt c (.fn (.func g) first cap) (.fn (.func g') first' cap') => match T.look g, T.look g' with
    | some cc, some cc' => (c = true → cc (first ++ args ++ cap) H base K) ∧ (c = false → cc' (first' ++ args ++ cap') H base K)
    | _, _ => False
  | _ => False

theorem run_callV {P : Program} {o : Oper} {fo : Operand} {xs : Array Operand} {ts : Array TypeId} {g : FuncId} (ho : o.op = .call { callee := .value fo, args := xs, argTypes := ts })
    (he : ∀ args w, (callFunc g args).run P w = .ok (.enter g args) w) {ρ : Operand → AV} {π : Plc} {first cap : List AV} {a : Act} (w : World) (hf : Rep π (.fn (.func g) first cap) (a.eval fo)) (hρ : ∀ x, Rep π (ρ x) (a.eval x)) :
    ∃ vs : List Value, (execOp a.eval o).run P w = .ok (.enter g vs.toArray) w ∧ RepL π (first ++ xs.toList.map ρ ++ cap) vs := by
  simp only [Rep] at hf
  obtain ⟨va, vb, e, h1, h2⟩ := hf
  refine ⟨va.toList ++ xs.toList.map a.eval ++ vb.toList, ?_, (h1.append (RepL.evals hρ xs.toList)).append h2⟩
  have harr : va ++ xs.map a.eval ++ vb = (va.toList ++ xs.toList.map a.eval ++ vb.toList).toArray := by
    apply Array.toList_inj.1; simp
  simp only [execOp, ho, resolve, e, Deferred.ofValue, Sem.run_bind, Sem.run_pure, Result.andThen_ok, invoke, he, harr]

theorem opCallV_ok {P : Program} {o : Oper} {ρ : Operand → AV} {H : Heap U} {base : Nat} {T : Tab U} (hT : T.Sound P) {fo : Operand} {xs : Array Operand} {ts : Array TypeId} {K : OOut U → Prop} (ho : o.op = .call { callee := .value fo, args := xs, argTypes := ts })
    (h : opCallV T (ρ fo) (xs.toList.map ρ) H base K) : ∃ r, K r ∧ OpOk P o ρ H base r := by
  unfold opCallV at h
  split at h
  · rename_i g first cap hx
    split at h
    case h_2 => exact h.elim
    rename_i c hc
    have hs := hT.get hc
    obtain ⟨r, hK, hr⟩ := hs.ok _ _ _ _ h
    exact ⟨r, hK, OpOk.call (by simp [ho]) (fun π w a hc hρ => run_callV ho hs.enters w (hx ▸ hρ fo) hρ) hr⟩
  · rename_i c g first cap g' first' cap' hx
    split at h
    case h_2 => exact h.elim
    rename_i cc cc' hc hc'
    have hs := hT.get hc
    have hs' := hT.get hc'
    cases c with
    | true =>
      obtain ⟨r, hK, hr⟩ := hs.ok _ _ _ _ (h.1 rfl)
      refine ⟨r, hK, OpOk.call (by simp [ho]) (fun π w a hc hρ => run_callV ho hs.enters w ?_ hρ) hr⟩
      have := hρ fo; rw [hx] at this; exact (rep_alt this).1 rfl
    | false =>
      obtain ⟨r, hK, hr⟩ := hs'.ok _ _ _ _ (h.2 rfl)
      refine ⟨r, hK, OpOk.call (by simp [ho]) (fun π w a hc hρ => run_callV ho hs'.enters w ?_ hρ) hr⟩
      have := hρ fo; rw [hx] at this; exact (rep_alt this).2 rfl
  · exact h.elim

/-! ### calls of methods through an interface whose type is known -/
def methodA (P : Program) (t : TypeId) (name : String) : Option FuncId :=
  match (P.info? t).bind fun i => i.methods.find? (·.name == name) with
  | some m => match m.path.toList, m.func, P.underlying t with
    | [], some (f, true), some (.pointer _) => some f
    | [], some (f, false), some (.pointer _) => none
    | [], some (f, false), some _ => some f
    | _, _, _ => none
  | none => none

theorem methodA_ok {P : Program} {t : TypeId} {name : String} {f : FuncId} (h : methodA P t name = some f) (n : Nat) (v : Value) (w : World) : (method (n + 1) t v name).run P w = .ok (f, v) w := by
  unfold methodA at h
  split at h
  case h_2 => cases h
  rename_i m hm
  cases hi : P.info? t with
  | none => simp [hi] at hm
  | some i =>
    simp [hi] at hm
    split at h
    · rename_i g hp hf hu
      simp at h; subst h
      have hpe : m.path.toList = [] := hp
      simp [method, typeInfo, hi, hm, hpe, follow, hf, receiverAt, run_und hu, Go.Place.get]
    · cases h
    · rename_i g d hne hp hf hu
      simp at h; subst h
      have hpe : m.path.toList = [] := hp
      have hnp : ∀ el, d ≠ .pointer el := by
        intro el e; subst e; exact hne el rfl
      simp only [method, typeInfo, Sem.run_bind, run_program, Result.andThen_ok, hi, Sem.run_pure, hm, hpe, follow, hf, receiverAt, run_und hu]
      cases d <;> first | (exact absurd rfl (hnp _)) | simp [Go.Place.get]
    · cases h

def opInvoke1 (P : Program) (T : Tab U) (x : AV) (name : String) (args : List AV) (H : Heap U) (base : Nat) (K : OOut U → Prop) : Prop :=
  match x with
  | .ifc t y => match methodA P t name with
    | some g => match T.look g with
      | some c => c (y :: args) H base K
      | none => False
    | none => False
  | _ => False

def opInvoke (P : Program) (T : Tab U) (x : AV) (name : String) (args : List AV) (H : Heap U) (base : Nat) (K : OOut U → Prop) : Prop :=
  match x with
  | .alt c a b => (c = true → opInvoke P T a name args H base K) ∧ (c = false → opInvoke P T b name args H base K)
  | x => opInvoke1 P T x name args H base K

theorem opInvoke1_ok {P : Program} {o : Oper} {ρ : Operand → AV} {H : Heap U} {base : Nat} {T : Tab U} (hT : T.Sound P) {xo : Operand} {name : String} {xs : Array Operand} {ts : Array TypeId} {K : OOut U → Prop} (ho : o.op = .call { callee := .invoke xo name, args := xs, argTypes := ts }) {x : AV}
    (hx : ∀ (π : Plc) (a : Act), (∀ x, Rep π (ρ x) (a.eval x)) → Rep π x (a.eval xo)) (h : opInvoke1 P T x name (xs.toList.map ρ) H base K) : ∃ r, K r ∧ OpOk P o ρ H base r := by
  unfold opInvoke1 at h
  split at h
  case h_2 => exact h.elim
  rename_i t y
  split at h
  case h_2 => exact h.elim
  rename_i g hg
  split at h
  case h_2 => exact h.elim
  rename_i c hc
  have hs := hT.get hc
  obtain ⟨r, hK, hr⟩ := hs.ok _ _ _ _ h
  refine ⟨r, hK, OpOk.call (by simp [ho]) (fun π w a hcc hρ => ?_) hr⟩
  have hv := hx π a hρ
  simp only [Rep] at hv
  obtain ⟨z, e, hz⟩ := hv
  refine ⟨z :: xs.toList.map a.eval, ?_, RepL.cons hz (RepL.evals hρ xs.toList)⟩
  have harr : #[z] ++ (#[Value.iface t z] ++ xs.map a.eval).extract 1 (#[Value.iface t z] ++ xs.map a.eval).size = (z :: xs.toList.map a.eval).toArray := by
    apply Array.toList_inj.1; simp [Array.toList_extract, List.extract]; exact List.take_of_length_le (by simp)
  have h0 : (#[Value.iface t z] ++ xs.map a.eval)[0]? = some (.iface t z) := by rw [Array.getElem?_append_left (by simp)]; rfl
  have hm := methodA_ok hg (P.types.size + Made.depth - 1) z w
  have hdep : 0 < Made.depth := by decide
  have hfuel : P.types.size + Made.depth - 1 + 1 = P.types.size + Made.depth := by omega
  rw [hfuel] at hm
  simp only [execOp, ho, resolve, e, Sem.run_bind, Sem.run_pure, Result.andThen_ok, invoke, h0, callMethod, run_program, hm, hs.enters, harr]

theorem opInvokeX_ok {P : Program} {o : Oper} {ρ : Operand → AV} {H : Heap U} {base : Nat} {T : Tab U} (hT : T.Sound P) {xo : Operand} {name : String} {xs : Array Operand} {ts : Array TypeId} {K : OOut U → Prop} (ho : o.op = .call { callee := .invoke xo name, args := xs, argTypes := ts }) :
    ∀ {x : AV}, (∀ (π : Plc) (a : Act), (∀ x, Rep π (ρ x) (a.eval x)) → Rep π x (a.eval xo)) → opInvoke P T x name (xs.toList.map ρ) H base K → ∃ r, K r ∧ OpOk P o ρ H base r
  | .alt c a b, hx, h => by
    unfold opInvoke at h
    cases c with
    | true => exact opInvokeX_ok hT ho (x := a) (fun π ac hρ => (rep_alt (hx π ac hρ)).1 rfl) (h.1 rfl)
    | false => exact opInvokeX_ok hT ho (x := b) (fun π ac hρ => (rep_alt (hx π ac hρ)).2 rfl) (h.2 rfl)
  | .junk, hx, h | .tt, hx, h | .ff, hx, h | .v _, hx, h | .ptr .., hx, h | .sl .., hx, h | .gs .., hx, h | .map .., hx, h | .fn .., hx, h | .ifc .., hx, h | .agg _, hx, h | .tup _, hx, h => by
    unfold opInvoke at h
    exact opInvoke1_ok hT ho hx h

theorem opInvoke_ok {P : Program} {o : Oper} {ρ : Operand → AV} {H : Heap U} {base : Nat} {T : Tab U} (hT : T.Sound P) {xo : Operand} {name : String} {xs : Array Operand} {ts : Array TypeId} {K : OOut U → Prop} (ho : o.op = .call { callee := .invoke xo name, args := xs, argTypes := ts })
    (h : opInvoke P T (ρ xo) name (xs.toList.map ρ) H base K) : ∃ r, K r ∧ OpOk P o ρ H base r := opInvokeX_ok hT ho (fun π ac hρ => hρ xo) h
end AE
