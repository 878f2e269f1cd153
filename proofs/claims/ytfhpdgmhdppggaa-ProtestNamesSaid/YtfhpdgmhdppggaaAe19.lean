/- An own symbolic executor: regions whose order is open: what is reckoned. No condition. -/
import Derived.Test.YtfhpdgmhdppggaaAe18
import Derived.OrdersIn
namespace AE
open Go

variable {U : Uni}

inductive EK (U : Uni) where
  | done (r : ORes U)
  | skip
  | panic (x : AV)
  | dead

/-- What is known of an operation of a region: the slot that it writes, those that it reads, what it hangs on, from where its new blocks are numbered, the memory that it was reckoned in, what came of it. -/
structure Ent (U : Uni) where
  dst : Option Nat
  rd : List Nat
  mask : Nat
  base : Nat
  H : Heap U
  k : EK U

def EK.mods : EK U → List Nat
  | .done r => r.upd.map (·.1) ++ r.kill.map (·.1)
  | _ => []
def EK.newN : EK U → Nat
  | .done r => r.new.length
  | _ => 0
def EK.av : EK U → AV
  | .done r => r.val
  | .skip => .v undef
  | _ => .junk
def EK.bad : EK U → Bool
  | .panic _ => true
  | .dead => true
  | _ => false

def foldF (v : Ent U → AV) (m : Nat → Bool) : List (Ent U) → Nat → Fr → Fr
  | [], _, fr => fr
  | e :: es, i, fr => foldF v m es (i + 1) (match m i with
    | true => fr.put e.dst (v e)
    | false => fr)

def nones (U : Uni) : Nat → Heap U
  | 0 => []
  | n + 1 => .none :: nones U n

def foldH (m : Nat → Bool) : List (Ent U) → Nat → Heap U → Heap U
  | [], _, H => H
  | e :: es, i, H => foldH m es (i + 1) (match e.k with
    | .done r => match m i with
      | true => H.app r
      | false => H ++ nones U r.new.length
    | _ => H)

def killAll : List Nat → Heap U → Heap U
  | [], H => H
  | id :: l, H => killAll l (H.kill id)

def opReads (o : Oper) : List Nat := o.op.operands.toList.filterMap fun
  | .tmp t => some t
  | _ => none

def guardSlot (all : List Oper) (o : Oper) : List Nat :=
  match o.guard with
  | some (j, _) => match nth all j with
    | some oj => match oj.dst with
      | some d => [d]
      | none => []
    | none => []
  | none => []

def memN (n : Nat) : List Nat → Bool
  | [] => false
  | m :: l => match Nat.beq n m with
    | true => true
    | false => memN n l
theorem memN_iff {n : Nat} : ∀ {l : List Nat}, memN n l = true ↔ n ∈ l
  | [] => by simp [memN]
  | m :: l => by
    unfold memN
    cases h : Nat.beq n m with
    | true => simp [Nat.eq_of_beq_eq_true h]
    | false =>
      have hne : n ≠ m := by intro e; subst e; simp at h
      simp [memN_iff (l := l), hne]

/-- A slot's value, of those that an operation reads. -/
def rhoR (rd : List Nat) (fr : Fr) : Operand → AV
  | .tmp t => match memN t rd with
    | true => fr.get t
    | false => .junk
  | .const v => constAV v
  | .func f => .fn (.func f) [] []
  | .global _ => .junk

/-- All that an operation hangs on; none: its text hangs on what comes behind it. -/
def depMask (tbl : List (Ent U)) : List Edge → Nat → Option Nat
  | [], m => some m
  | e :: es, m => match Region.binds .any e with
    | false => depMask tbl es m
    | true => match nth tbl e.on with
      | some x => depMask tbl es (m ||| x.mask ||| (1 <<< e.on))
      | none => none

def apartE (d : Option Nat) (rd : List Nat) (x : Ent U) : Bool :=
  (match x.dst with
    | some d' => !memN d' rd && (match d with
      | some d => !Nat.beq d d'
      | none => true)
    | none => true) &&
  (match d with
    | some d => !memN d x.rd
    | none => true)

def allFrom (f : Nat → Ent U → Bool) : Nat → List (Ent U) → Bool
  | _, [] => true
  | i, x :: l => f i x && allFrom f (i + 1) l
theorem allFrom_get {f : Nat → Ent U → Bool} : ∀ {i : Nat} {l : List (Ent U)}, allFrom f i l = true → ∀ {j : Nat} {x : Ent U}, l[j]? = some x → f (i + j) x = true
  | i, [], _, j, x, h => by simp at h
  | i, y :: l, h, j, x, hj => by
    simp only [allFrom, Bool.and_eq_true] at h
    cases j with
    | zero => simp at hj; subst hj; exact h.1
    | succ j =>
      have := allFrom_get h.2 (j := j) (x := x) (by simpa using hj)
      rw [show i + (j + 1) = i + 1 + j by omega]; exact this

def anyBad (m : Nat) : Nat → List (Ent U) → Bool
  | _, [] => false
  | i, x :: l => (Nat.testBit m i && x.k.bad) || anyBad m (i + 1) l

/-- The blocks that an operation's fellows turn, on which it does not hang. -/
def modsOff (m : Nat) : Nat → List (Ent U) → List Nat
  | _, [] => []
  | i, x :: l => match Nat.testBit m i with
    | true => modsOff m (i + 1) l
    | false => x.k.mods ++ modsOff m (i + 1) l

def heapFree : Op → Bool
  | .move _ | .assign _ | .pick .. | .alloc _ | .box .. | .build .. | .buildSlice .. | .nilCheck _ | .binOp .. | .unOp .. | .convert .. | .makeInterface .. | .makeFunc .. | .makeMap .. | .makeSlice .. | .fieldAddr .. | .field .. | .typeAssert .. | .extract .. => true
  | _ => false

/-- A store's block, if its address is seen to hang on a slot that was there. -/
def rootId (all : List Oper) (fr : Fr) : Nat → Operand → Option Nat
  | 0, _ => none
  | n + 1, .tmp t => match all.find? (fun o => match o.dst with
      | some d => Nat.beq d t
      | none => false) with
    | some o => match o.op with
      | .fieldAddr _ x _ => rootId all fr n x
      | .nilCheck x => rootId all fr n x
      | .move x => rootId all fr n x
      | .indexAddr _ x _ => rootId all fr n x
      | _ => none
    | none => match fr.get t with
      | .ptr id _ _ _ => some id
      | .gs id _ => some id
      | _ => none
  | _, _ => none

/-- Blocks that stores behind an operation will turn. -/
def hints (all : List Oper) (fr : Fr) : List Oper → List Nat
  | [] => []
  | o :: os => match o.op with
    | .store _ x _ => match rootId all fr 8 x with
      | some id => id :: hints all fr os
      | none => hints all fr os
    | _ => hints all fr os

def modsFree (m : Nat) (mods : List Nat) (i : Nat) (x : Ent U) : Bool :=
  Nat.testBit m i || mods.all fun id => match nth x.H id with
    | none => true
    | some .none => true
    | some _ => false

def liveAll (H : Heap U) (l : List Nat) : Bool := l.all fun id => match nth H id with
  | none => false
  | some .none => false
  | some _ => true

def uniqB (d : Nat) (j i : Nat) (x : Ent U) : Bool := Nat.beq i j || (match x.dst with
  | some d' => !Nat.beq d d'
  | none => true)

def newSum : List (Ent U) → Nat
  | [] => 0
  | e :: l => e.k.newN + newSum l

def foldV (m : Nat → Bool) : List (Ent U) → List AV → Nat → Fr → Fr
  | e :: es, v :: vs, i, fr => foldV m es vs (i + 1) (match m i with
    | true => fr.put e.dst v
    | false => fr)
  | _, _, _, fr => fr

structure Env (U : Uni) where
  P : Program
  T : Tab U
  nt : Nat
  Y : List AV → Heap U → (AV → Option Code → Heap U → Prop) → Prop := fun _ _ _ => False
  l : Nat := 0
  m : Nat := 0

def allMods : List (Ent U) → List Nat
  | [] => []
  | e :: l => e.k.mods ++ allMods l

/-- An operation that turns a block itself is not kept from it. -/
def hsFor (o : Op) (hs : List Nat) : List Nat :=
  match o with
  | .mapUpdate .. => []
  | .insert .. => []
  | .lookup .. => []
  | .call c => match c.callee with
    | .builtin .append => []
    | _ => hs
  | _ => hs

/-- The region, operation by operation. hs: blocks that operations behind may turn, told by hand. vs: the operations' values, as later ones see them. -/
def drawGo (E : Env U) (all : List Oper) (hs : List Nat) (fr0 : Fr) (H0 : Heap U) : List Oper → List (Ent U) → List AV → Option AV → (Fr → Heap U → Prop) → (AV → Heap U → Prop) → Prop
  | [], tbl, vs, none, K, _ => K (foldV (fun _ => true) tbl vs 0 fr0) (foldH (fun _ => true) tbl 0 H0)
  | [], tbl, _, some x, _, KP => KP x (killAll (allMods tbl) H0 ++ nones U (newSum tbl))
  | o :: os, tbl, vs, pan, K, KP =>
    match depMask tbl o.after.toList 0 with
    | none => False
    | some m =>
      isB (dstOk E.nt o.dst && allFrom (fun i x => Nat.testBit m i || apartE o.dst (opReads o ++ guardSlot all o) x) 0 tbl)
      (match anyBad m 0 tbl with
      | true => drawGo E all hs fr0 H0 os (tbl ++ [⟨o.dst, opReads o ++ guardSlot all o, m, H0.length + newSum tbl, [], .dead⟩]) (vs ++ [.junk]) pan K KP
      | false =>
        let skip := fun (vs : List AV) => drawGo E all hs fr0 H0 os (tbl ++ [⟨o.dst, opReads o ++ guardSlot all o, m, H0.length + newSum tbl, [], .skip⟩]) (vs ++ [.v undef]) pan K KP
        let go := fun (vs : List AV) =>
          let Hi : Heap U := match heapFree o.op with
            | true => []
            | false => killAll (modsOff m 0 tbl ++ hsFor o.op hs ++ hints all fr0 os) (foldH (Nat.testBit m) tbl 0 H0)
          opA E.P E.T o (rhoR (opReads o) (foldV (Nat.testBit m) tbl vs 0 fr0)) Hi (H0.length + newSum tbl) fun
            | .val r => isB (allFrom (modsFree m (EK.done r).mods) 0 tbl && liveAll Hi (EK.done r).mods)
                (drawGo E all hs fr0 H0 os (tbl ++ [⟨o.dst, opReads o ++ guardSlot all o, m, H0.length + newSum tbl, Hi, .done r⟩]) (vs ++ [r.val]) pan K KP)
            | .panic x => match pan with
              | none => drawGo E all hs fr0 H0 os (tbl ++ [⟨o.dst, opReads o ++ guardSlot all o, m, H0.length + newSum tbl, Hi, .panic x⟩]) (vs ++ [.junk]) (some x) K KP
              | some _ => False
        match o.guard with
        | none => go vs
        | some (j, want) => isB (Nat.testBit m j && (match nth tbl j with
            | some ej => match ej.dst with
              | some d => allFrom (uniqB d j) 0 tbl
              | none => false
            | none => false)) (match nth tbl j, nth vs j with
          | some ej, some vj => match ej.dst, ej.k, vj with
            | none, _, _ => False
            | some _, .skip, _ => skip vs
            | some _, .done _, .tt => match want with
              | true => go vs
              | false => skip vs
            | some _, .done _, .ff => match want with
              | true => skip vs
              | false => go vs
            | some _, .done _, .v (.bool b) => match want with
              | true => (b = true → go (setNth (fun _ => .tt) vs j)) ∧ (b = false → skip (setNth (fun _ => .ff) vs j))
              | false => (b = true → skip (setNth (fun _ => .tt) vs j)) ∧ (b = false → go (setNth (fun _ => .ff) vs j))
            | _, _, _ => False
          | _, _ => False))
end AE
