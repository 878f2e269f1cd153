/- An own symbolic executor: the operations on values, cells, fields, new variables. No condition. -/
import Derived.Test.YtfhpdgmhdppggaaAe3
namespace AE
open Go

variable {U : Uni}

def AV.asBool : AV → Option Bool
  | .tt => some true
  | .ff => some false
  | .v (.bool b) => some b
  | _ => none
theorem AV.asBool_rep {π : Plc} {x : AV} {b : Bool} {y : Value} (h : x.asBool = some b) (hr : Rep π x y) : y = .bool b := by
  cases x with
  | tt => simp [AV.asBool] at h; subst h; simpa [Rep] using hr
  | ff => simp [AV.asBool] at h; subst h; simpa [Rep] using hr
  | v x => cases x <;> simp [AV.asBool] at h; subst h; simpa [Rep] using hr
  | _ => simp [AV.asBool] at h

/-- A way for each of a test's answers. -/
def ask (x : AV) (T F : Prop) : Prop :=
  match x with
  | .tt => T
  | .ff => F
  | .v (.bool b) => (b = true → T) ∧ (b = false → F)
  | _ => False
theorem ask_ok {x : AV} {T F : Prop} (h : ask x T F) : ∃ b, x.asBool = some b ∧ (b = true → T) ∧ (b = false → F) := by
  unfold ask at h
  split at h
  · exact ⟨true, rfl, fun _ => h, by simp⟩
  · exact ⟨false, rfl, by simp, fun _ => h⟩
  · exact ⟨_, rfl, h.1, h.2⟩
  · exact h.elim

def constAV : Value → AV
  | .bool true => .tt
  | .bool false => .ff
  | .agg cs => .agg (cs.toList.map .v)
  | x => .v x
theorem constAV_rep (π : Plc) (x : Value) : Rep π (constAV x) x := by
  unfold constAV
  split
  · simp [Rep]
  · simp [Rep]
  · simp only [Rep]; exact ⟨_, rfl, RepL.vs _⟩
  · simp [Rep]

/-- What the walk knows of a type. -/
def tsize (P : Program) (t : TypeId) : Option Nat := (P.info? t).map (·.size)
def aggT (P : Program) (t : TypeId) : Option Bool :=
  match P.underlying t with
  | some (.struct _) | some (.array _ _) => some true
  | some _ => some false
  | none => none

section
variable {P : Program} {t : TypeId} {w : World}
theorem run_und {d : TypeDesc} (h : P.underlying t = some d) : (underlying t).run P w = .ok d w := run_underlying h w
theorem run_size {n : Nat} (h : tsize P t = some n) : (Go.sizeOf t).run P w = Result.ok n w := by
  unfold tsize at h
  cases hi : P.info? t with
  | none => simp [hi] at h
  | some i => simp [hi] at h; simp [Go.sizeOf, typeInfo, hi, h]
theorem run_isAgg {b : Bool} (h : aggT P t = some b) : (isAgg t).run P w = .ok b w := by
  unfold aggT at h
  unfold isAgg
  split at h
  · rename_i hu; simp at h; simp [run_und hu, ← h]
  · rename_i hu; simp at h; simp [run_und hu, ← h]
  · rename_i d hs ha hu
    simp at h
    subst h
    simp only [Sem.run_bind, run_und hu, Result.andThen_ok]
    cases d <;> simp_all
  · cases h
end

/-! ### move, pick -/
def opPick (ρ : Operand → AV) (c a b : Operand) (K : OOut U → Prop) : Prop :=
  ask (ρ c) (K (.val ⟨ρ a, [], [], []⟩)) (K (.val ⟨ρ b, [], [], []⟩))

theorem opMove_ok {P : Program} {o : Oper} {ρ : Operand → AV} {H : Heap U} {base : Nat} {x : Operand} (ho : o.op = .move x ∨ o.op = .assign x) : OpOk P o ρ H base (.val ⟨ρ x, [], [], []⟩) :=
  OpOk.pure (by rcases ho with ho | ho <;> simp [ho]) fun π w a hc hρ => ⟨a.eval x, by rcases ho with ho | ho <;> simp [execOp, ho], hρ x⟩

theorem opPick_ok {P : Program} {o : Oper} {ρ : Operand → AV} {H : Heap U} {base : Nat} {c a b : Operand} {K : OOut U → Prop} (ho : o.op = .pick c a b) (h : opPick ρ c a b K) : ∃ r, K r ∧ OpOk P o ρ H base r := by
  obtain ⟨t, ht, h1, h2⟩ := ask_ok h
  cases t with
  | true => exact ⟨_, h1 rfl, OpOk.pure (by simp [ho]) fun π w a' hc hρ => ⟨a'.eval a, by simp [execOp, ho, asBool, AV.asBool_rep ht (hρ c)], hρ a⟩⟩
  | false => exact ⟨_, h2 rfl, OpOk.pure (by simp [ho]) fun π w a' hc hρ => ⟨a'.eval b, by simp [execOp, ho, asBool, AV.asBool_rep ht (hρ c)], hρ b⟩⟩

/-! ### load -/
def opLoad (P : Program) (t : TypeId) (x : AV) (H : Heap U) (K : OOut U → Prop) : Prop :=
  match x with
  | .ptr id k i fo =>
    match aggT P t with
    | some true => match tsize P t with
      | some n => H.rd id k i fo n fun cs => K (.val ⟨.agg cs, [], [], []⟩)
      | none => False
    | some false => H.rd id k i fo 1 fun
      | [y] => K (.val ⟨y, [], [], []⟩)
      | _ => False
    | none => False
  | _ => False

theorem opLoad_ok {P : Program} {o : Oper} {ρ : Operand → AV} {H : Heap U} {base : Nat} {t : TypeId} {x : Operand} {K : OOut U → Prop} (ho : o.op = .load t x) (h : opLoad P t (ρ x) H K) : ∃ r, K r ∧ OpOk P o ρ H base r := by
  unfold opLoad at h
  split at h
  case h_2 => exact h.elim
  rename_i id k i fo hx
  split at h
  · rename_i hagg
    split at h
    case h_2 => exact h.elim
    rename_i n hn
    obtain ⟨cs, hK, hl, hrd⟩ := Heap.rd_ok h
    refine ⟨_, hK, OpOk.pure (by simp [ho]) fun π w a hc hρ => ?_⟩
    obtain ⟨p, ys, hp, hr, hcell⟩ := hrd π w hc
    have hv := hρ x
    rw [hx] at hv
    simp only [Rep] at hv
    obtain ⟨p', hp', hv⟩ := hv
    rw [hp] at hp'; cases hp'
    refine ⟨.agg ys.toArray, ?_, by simp only [Rep]; exact ⟨_, rfl, by simpa using hr⟩⟩
    have hlen : ys.length = n := by rw [hr.length, hl]
    have hload := run_loadCells_list (P := P) w ⟨p.blk, p.off + i * p.esz + fo, none⟩ ys hcell
    rw [hlen] at hload
    simp [execOp, ho, Instr.loadAt, hv, Instr.sureAddr, loadVar, run_isAgg hagg, run_size hn, hload]
  · rename_i hagg
    obtain ⟨cs, hK, hl, hrd⟩ := Heap.rd_ok h
    match cs, hl, hK, hrd with
    | [y], _, hK, hrd =>
      refine ⟨_, hK, OpOk.pure (by simp [ho]) fun π w a hc hρ => ?_⟩
      obtain ⟨p, ys, hp, hr, hcell⟩ := hrd π w hc
      have hv := hρ x
      rw [hx] at hv
      simp only [Rep] at hv
      obtain ⟨p', hp', hv⟩ := hv
      rw [hp] at hp'; cases hp'
      simp only [RepL] at hr
      obtain ⟨z, zs, rfl, hz, rfl⟩ := hr
      refine ⟨z, ?_, hz⟩
      have := hcell 0 z (by simp)
      rw [Addr.add_eq, Nat.add_zero] at this
      simp [execOp, ho, Instr.loadAt, hv, Instr.sureAddr, loadVar, run_isAgg hagg, this]
  · exact h.elim

/-! ### new variables -/
def zeroAV (P : Program) (t : TypeId) : Option (List AV) := (P.info? t).bind fun i => i.zero.map fun z => (constAV z).cells

theorem constAV_cells (π : Plc) (z : Value) : RepL π (constAV z).cells z.cells.toList := by
  refine Rep.cells (constAV_rep π z) ?_
  unfold constAV; split <;> rfl

def opAlloc (P : Program) (t : TypeId) (base : Nat) (K : OOut U → Prop) : Prop :=
  match zeroAV P t with
  | some vs => K (.val ⟨.ptr base 0 0 0, [], [], [.cells vs t]⟩)
  | none => False

theorem opAlloc_ok {P : Program} {o : Oper} {ρ : Operand → AV} {H : Heap U} {base : Nat} {t : TypeId} {K : OOut U → Prop} (ho : o.op = .alloc t) (h : opAlloc P t base K) : ∃ r, K r ∧ OpOk P o ρ H base r := by
  unfold opAlloc at h
  split at h
  case h_2 => exact h.elim
  rename_i vs hz
  refine ⟨_, h, OpOk.boxes (by simp [ho]) fun π w a hc hρ => ?_⟩
  unfold zeroAV at hz
  cases hi : P.info? t with
  | none => simp [hi] at hz
  | some i =>
    cases hzz : i.zero with
    | none => simp [hi, hzz] at hz
    | some z =>
      simp [hi, hzz] at hz
      subst hz
      refine ⟨z.cells, ?_, constAV_cells π z⟩
      simp [execOp, ho, Instr.alloc, zeroValue, typeInfo, hi, hzz, newVar, newRow]

def opBox (t : TypeId) (x : AV) (base : Nat) (K : OOut U → Prop) : Prop :=
  match x.plain with
  | true => K (.val ⟨.ptr base 0 0 0, [], [], [.cells x.cells t]⟩)
  | false => False

theorem opBox_ok {P : Program} {o : Oper} {ρ : Operand → AV} {H : Heap U} {base : Nat} {t : TypeId} {x : Operand} {K : OOut U → Prop} (ho : o.op = .box t x) (h : opBox t (ρ x) base K) : ∃ r, K r ∧ OpOk P o ρ H base r := by
  unfold opBox at h
  split at h
  case h_2 => exact h.elim
  rename_i hp
  refine ⟨_, h, OpOk.boxes (by simp [ho]) fun π w a hc hρ => ⟨(a.eval x).cells, ?_, (hρ x).cells hp⟩⟩
  simp [execOp, ho, Instr.box, newVar, newRow]

/-! ### fields -/
def fieldT (P : Program) (s : TypeId) (f : Nat) : Option (Nat × Nat × TypeId) :=
  match P.underlying s with
  | some (.struct fs) => match fs[f]? with
    | some g => match tsize P g.type with
      | some n => some (g.offset, n, g.type)
      | none => none
    | none => none
  | _ => none

def opFieldAddr (P : Program) (s : TypeId) (x : AV) (f : Nat) (K : OOut U → Prop) : Prop :=
  match x with
  | .ptr id k i fo => match fieldT P s f with
    | some (off, n + 1, _) => K (.val ⟨.ptr id k i (fo + off), [], [], []⟩)
    | _ => False
  | _ => False

theorem opFieldAddr_ok {P : Program} {o : Oper} {ρ : Operand → AV} {H : Heap U} {base : Nat} {s : TypeId} {x : Operand} {f : Nat} {K : OOut U → Prop} (ho : o.op = .fieldAddr s x f) (h : opFieldAddr P s (ρ x) f K) : ∃ r, K r ∧ OpOk P o ρ H base r := by
  unfold opFieldAddr at h
  split at h
  case h_2 => exact h.elim
  rename_i id k i fo hx
  split at h
  case h_2 => exact h.elim
  rename_i off n ft hft
  refine ⟨_, h, OpOk.pure (by simp [ho]) fun π w a hc hρ => ?_⟩
  have hv := hρ x
  rw [hx] at hv
  simp only [Rep] at hv
  obtain ⟨p, hp, hv⟩ := hv
  unfold fieldT at hft
  split at hft
  case h_2 => cases hft
  rename_i fs hu
  split at hft
  case h_2 => cases hft
  rename_i g hg
  split at hft
  case h_2 => cases hft
  rename_i m hm
  simp at hft
  obtain ⟨rfl, rfl, rfl⟩ := hft
  refine ⟨.pointer (some ⟨p.blk, p.off + i * p.esz + (fo + g.offset), none⟩), ?_, by simp only [Rep]; exact ⟨p, hp, rfl⟩⟩
  simp [execOp, ho, Instr.fieldAt, run_und hu, hg, hv, Instr.sureAddr, fieldPlace, run_size hm, Addr.add_eq, Nat.add_assoc]

def opField (P : Program) (s : TypeId) (x : AV) (f : Nat) (K : OOut U → Prop) : Prop :=
  match x with
  | .agg cs => match fieldT P s f with
    | some (off, n, ft) => match aggT P ft with
      | some true => part cs off n fun l => K (.val ⟨.agg l, [], [], []⟩)
      | some false => part cs off 1 fun
        | [y] => K (.val ⟨y, [], [], []⟩)
        | _ => False
      | none => False
    | _ => False
  | _ => False

theorem RepL.part {π : Plc} {cs : List AV} {ys : List Value} (h : RepL π cs ys) {fo n : Nat} (hn : ((cs.drop fo).take n).length = n) : RepL π ((cs.drop fo).take n) ((ys.drop fo).take n) ∧ ((ys.drop fo).take n).length = n :=
  ⟨(h.drop fo).take n, by rw [((h.drop fo).take n).length]; exact hn⟩

theorem opField_ok {P : Program} {o : Oper} {ρ : Operand → AV} {H : Heap U} {base : Nat} {s : TypeId} {x : Operand} {f : Nat} {K : OOut U → Prop} (ho : o.op = .field s x f) (h : opField P s (ρ x) f K) : ∃ r, K r ∧ OpOk P o ρ H base r := by
  unfold opField at h
  split at h
  case h_2 => exact h.elim
  rename_i cs hx
  split at h
  case h_2 => exact h.elim
  rename_i off n ft hft
  unfold fieldT at hft
  split at hft
  case h_2 => cases hft
  rename_i fs hu
  split at hft
  case h_2 => cases hft
  rename_i g hg
  split at hft
  case h_2 => cases hft
  rename_i m hm
  simp at hft
  obtain ⟨rfl, rfl, rfl⟩ := hft
  split at h
  · rename_i hagg
    obtain ⟨hl, hK⟩ := part_def h
    refine ⟨_, hK, OpOk.pure (by simp [ho]) fun π w a hc hρ => ?_⟩
    have hv := hρ x
    rw [hx] at hv
    simp only [Rep] at hv
    obtain ⟨arr, hv, hr⟩ := hv
    obtain ⟨h1, h2⟩ := hr.part hl
    refine ⟨.agg (arr.extract g.offset (g.offset + m)), ?_, ?_⟩
    · simp [execOp, ho, Instr.field, run_und hu, hg, hv, asAgg, Go.part, run_isAgg hagg, run_size hm]
    · simp only [Rep]
      refine ⟨_, rfl, ?_⟩
      have : (arr.extract g.offset (g.offset + m)).toList = (arr.toList.drop g.offset).take m := by
        simp [Array.toList_extract, List.extract]
      rw [this]; exact h1
  · rename_i hagg
    obtain ⟨hl, hK⟩ := part_def h
    obtain ⟨y, hy⟩ := List.length_eq_one_iff.1 hl
    rw [hy] at hK
    refine ⟨_, hK, OpOk.pure (by simp [ho]) fun π w a hc hρ => ?_⟩
    have hv := hρ x
    rw [hx] at hv
    simp only [Rep] at hv
    obtain ⟨arr, hv, hr⟩ := hv
    obtain ⟨h1, h2⟩ := hr.part hl
    rw [hy] at h1
    have hg0 : cs[g.offset]? = some y := by
      have : ((cs.drop g.offset).take 1)[0]? = some y := by rw [hy]; rfl
      rw [List.getElem?_take, if_pos (by omega), List.getElem?_drop] at this
      simpa using this
    obtain ⟨z, hz, hrz⟩ := hr.get hg0
    have hz' : arr[g.offset]? = some z := by simpa using hz
    refine ⟨z, ?_, hrz⟩
    simp [execOp, ho, Instr.field, run_und hu, hg, hv, asAgg, Go.part, run_isAgg hagg, hz']
  · exact h.elim

/-! ### truth values that are known, as truth values -/
def AV.nrm1 : AV → AV
  | .tt => .b true
  | .ff => .b false
  | x => x
def AV.nrm : AV → AV
  | .agg xs => .agg (xs.map AV.nrm1)
  | .v (.agg cs) => .agg (cs.toList.map .v)
  | x => x.nrm1
theorem Rep.nrm1 {π : Plc} {x : AV} {y : Value} (h : Rep π x y) : Rep π x.nrm1 y := by
  cases x <;> first | exact h | (simp only [Rep] at h; subst h; simp [AV.nrm1, Rep])
theorem RepL.nrm1 {π : Plc} : ∀ {xs : List AV} {ys : List Value}, RepL π xs ys → RepL π (xs.map AV.nrm1) ys
  | [], ys, h => h
  | x :: xs, ys, h => by
    simp only [RepL] at h; obtain ⟨z, zs, rfl, h1, h2⟩ := h
    exact RepL.cons h1.nrm1 (RepL.nrm1 h2)
theorem Rep.nrm {π : Plc} {x : AV} {y : Value} (h : Rep π x y) : Rep π x.nrm y := by
  unfold AV.nrm
  split
  · simp only [Rep] at h ⊢; obtain ⟨a, rfl, h⟩ := h; exact ⟨a, rfl, h.nrm1⟩
  · simp only [Rep] at h ⊢; subst h; exact ⟨_, rfl, RepL.vs _⟩
  · exact h.nrm1
theorem AV.nrm1_one {x : AV} (h : x.one = true) : x.nrm1.one = true := by cases x <;> first | exact h | rfl

/-- One of two. -/
def sel1 (c : Bool) (a b : AV) : AV :=
  match a, b with
  | .v (.int k x), .v (.int k' y) => match decEq k k' with
    | .isTrue _ => .v (.int k (bif c then x else y))
    | .isFalse _ => .alt c a b
  | a, b => match a.asBool, b.asBool with
    | some x, some y => .b (bif c then x else y)
    | _, _ => .alt c a b
def selL (c : Bool) : List AV → List AV → List AV
  | a :: as, b :: bs => sel1 c a b :: selL c as bs
  | _, _ => []
def sel (c : Bool) (a b : AV) : AV :=
  match a, b with
  | .agg xs, .agg ys => match Nat.decEq xs.length ys.length with
    | .isTrue _ => .agg (selL c xs ys)
    | .isFalse _ => .alt c a b
  | a, b => sel1 c a b
theorem sel1_rep {π : Plc} {c : Bool} {a b : AV} {y : Value} (h1 : c = true → Rep π a y) (h2 : c = false → Rep π b y) : Rep π (sel1 c a b) y := by
  unfold sel1
  split
  · split
    · rename_i k x k' y' _ e _
      subst e
      cases c with
      | true => have := h1 rfl; simp only [Rep] at this ⊢; simpa using this
      | false => have := h2 rfl; simp only [Rep] at this ⊢; simpa using this
    · rw [Rep]; exact ⟨h1, h2⟩
  · split
    · rename_i x y' hx hy
      cases c with
      | true => have := AV.asBool_rep hx (h1 rfl); simp only [Rep]; simpa using this
      | false => have := AV.asBool_rep hy (h2 rfl); simp only [Rep]; simpa using this
    · rw [Rep]; exact ⟨h1, h2⟩
theorem selL_rep {π : Plc} {c : Bool} : ∀ {xs ys : List AV} {l : List Value}, xs.length = ys.length → (c = true → RepL π xs l) → (c = false → RepL π ys l) → RepL π (selL c xs ys) l
  | [], [], l, _, h1, h2 => by
    cases c with
    | true => simpa [selL] using h1 rfl
    | false => simpa [selL] using h2 rfl
  | x :: xs, [], l, h, _, _ => by simp at h
  | [], y :: ys, l, h, _, _ => by simp at h
  | x :: xs, y :: ys, l, h, h1, h2 => by
    cases l with
    | nil =>
      cases c with
      | true => have := h1 rfl; simp [RepL] at this
      | false => have := h2 rfl; simp [RepL] at this
    | cons z zs =>
      have g1 : c = true → Rep π x z ∧ RepL π xs zs := fun hc => by
        have := h1 hc; simp only [RepL] at this; obtain ⟨_, _, e, a, b⟩ := this; simp at e; obtain ⟨rfl, rfl⟩ := e; exact ⟨a, b⟩
      have g2 : c = false → Rep π y z ∧ RepL π ys zs := fun hc => by
        have := h2 hc; simp only [RepL] at this; obtain ⟨_, _, e, a, b⟩ := this; simp at e; obtain ⟨rfl, rfl⟩ := e; exact ⟨a, b⟩
      exact RepL.cons (sel1_rep (fun hc => (g1 hc).1) (fun hc => (g2 hc).1)) (selL_rep (by simpa using h) (fun hc => (g1 hc).2) (fun hc => (g2 hc).2))
theorem sel_rep {π : Plc} {c : Bool} {a b : AV} {y : Value} (h1 : c = true → Rep π a y) (h2 : c = false → Rep π b y) : Rep π (sel c a b) y := by
  unfold sel
  split
  · split
    · rename_i xs ys _ e _
      cases c with
      | true =>
        have := h1 rfl; simp only [Rep] at this ⊢; obtain ⟨arr, rfl, h⟩ := this
        exact ⟨arr, rfl, selL_rep e (fun _ => h) (fun hc => by cases hc)⟩
      | false =>
        have := h2 rfl; simp only [Rep] at this ⊢; obtain ⟨arr, rfl, h⟩ := this
        exact ⟨arr, rfl, selL_rep e (fun hc => by cases hc) (fun _ => h)⟩
    · rw [Rep]; exact ⟨h1, h2⟩
  · exact sel1_rep h1 h2
end AE
