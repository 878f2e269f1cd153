/- An own symbolic executor: blocks of abstract memory, what it is for a world to hold them. No condition. -/
import Derived.Test.YtfhpdgmhdppggaaAe1
namespace AE
open Go

mutual
/-- Nothing of it hangs on where blocks lie. -/
def AV.fixed : AV → Bool
  | .ptr .. => false
  | .sl .. => false
  | .gs .. => false
  | .map .. => false
  | .fn _ xs ys => fixedL xs && fixedL ys
  | .ifc _ x => x.fixed
  | .agg xs => fixedL xs
  | .tup xs => fixedL xs
  | .alt _ a b => a.fixed && b.fixed
  | _ => true
def fixedL : List AV → Bool
  | [] => true
  | x :: xs => x.fixed && fixedL xs
end
mutual
theorem Rep.fixed {π π' : Plc} : ∀ {a : AV} {y : Value}, a.fixed = true → Rep π a y → Rep π' a y
  | .junk, _, _, _ => by simp [Rep]
  | .tt, y, _, e => by simpa [Rep] using e
  | .ff, y, _, e => by simpa [Rep] using e
  | .v x, y, _, e => by simpa [Rep] using e
  | .ptr id k i fo, y, h, _ => by simp [AV.fixed] at h
  | .sl id k off len, y, h, _ => by simp [AV.fixed] at h
  | .gs id k, y, h, _ => by simp [AV.fixed] at h
  | .map id k, y, h, _ => by simp [AV.fixed] at h
  | .fn f xs ys, y, h, e => by
    simp only [AV.fixed, Bool.and_eq_true] at h
    simp only [Rep] at e ⊢; obtain ⟨a, b, e, h1, h2⟩ := e
    exact ⟨a, b, e, RepL.fixed h.1 h1, RepL.fixed h.2 h2⟩
  | .ifc t x, y, h, e => by
    simp only [AV.fixed] at h
    simp only [Rep] at e ⊢; obtain ⟨z, e, h1⟩ := e; exact ⟨z, e, Rep.fixed h h1⟩
  | .agg xs, y, h, e => by
    simp only [AV.fixed] at h
    simp only [Rep] at e ⊢; obtain ⟨a, e, h1⟩ := e; exact ⟨a, e, RepL.fixed h h1⟩
  | .tup xs, y, h, e => by
    simp only [AV.fixed] at h
    simp only [Rep] at e ⊢; obtain ⟨a, e, h1⟩ := e; exact ⟨a, e, RepL.fixed h h1⟩
  | .alt c a b, y, h, e => by
    simp only [AV.fixed, Bool.and_eq_true] at h
    simp only [Rep] at e ⊢; exact ⟨fun hc => Rep.fixed h.1 (e.1 hc), fun hc => Rep.fixed h.2 (e.2 hc)⟩
theorem RepL.fixed {π π' : Plc} : ∀ {xs : List AV} {ys : List Value}, fixedL xs = true → RepL π xs ys → RepL π' xs ys
  | [], ys, _, e => by simpa [RepL] using e
  | x :: xs, ys, h, e => by
    simp only [fixedL, Bool.and_eq_true] at h
    simp only [RepL] at e ⊢; obtain ⟨z, zs, e, h1, h2⟩ := e
    exact ⟨z, zs, e, Rep.fixed h.1 h1, RepL.fixed h.2 h2⟩
end
theorem fixedL_get : ∀ {l : List AV}, fixedL l = true → ∀ a ∈ l, a.fixed = true
  | [], _, a, ha => by cases ha
  | x :: l, h, a, ha => by
    simp only [fixedL, Bool.and_eq_true] at h
    rcases List.mem_cons.1 ha with rfl | ha
    · exact h.1
    · exact fixedL_get h.2 a ha
theorem fixedL_of : ∀ {l : List AV}, (∀ a ∈ l, a.fixed = true) → fixedL l = true
  | [], _ => rfl
  | x :: l, h => by simp only [fixedL, Bool.and_eq_true]; exact ⟨h x (by simp), fixedL_of fun a ha => h a (by simp [ha])⟩

/-- The kinds of elements that rows and maps of a program have: their cells, and back. -/
structure Uni where
  C : Type
  deq : DecidableEq C
  ty : C → Type
  enc : (c : C) → ty c → List AV
  dec : (c : C) → List AV → ty c
  df : (c : C) → ty c
  sz : C → Nat
  code : TypeId → Option C
  M : Type
  mdeq : DecidableEq M
  mty : M → Type
  mkey : (m : M) → mty m → List Int
  mval : (m : M) → mty m → AV
  mdec : (m : M) → List Int → AV → mty m
  mdf : (m : M) → mty m
  mks : M → Bool × List IntKind
  mcode : TypeId → Option M
  len : ∀ c x, (enc c x).length = sz c
  ones : ∀ c x a, a ∈ enc c x → a.one = true
  pl : C → Bool
  plok : ∀ c, pl c = true → ∀ x a, a ∈ enc c x → a.fixed = true
  mpl : M → Bool
  mplok : ∀ m, mpl m = true → ∀ x, (mval m x).fixed = true
  mrow : TypeId → Option (Nat × C × TypeId) := fun _ => none

/-- The value of a map's key. -/
def keyV (ks : Bool × List IntKind) (l : List Int) : Value :=
  if ks.1 then .agg ((ks.2.zip l).map fun (k, n) => .int k n).toArray
  else match ks.2, l with
    | [k], [n] => .int k n
    | _, _ => .nilIface

inductive AB1 (U : Uni) where
  | cells (vs : List AV) (t : TypeId)
  | rc (vs : List AV) (t : TypeId)
  | row (c : U.C) (l : List (U.ty c)) (t : TypeId)
  | ro (c : U.C) (l : List (U.ty c))
  | map (m : U.M) (l : List (U.mty m))
  | mrow (o : Bool) (vs : List AV)

inductive AB (U : Uni) where
  | none
  | one (b : AB1 U)
  | fam (n : Nat) (f : Nat → AB1 U)

variable {U : Uni}

abbrev Heap (U : Uni) := List (AB U)

def Heap.at (H : Heap U) (id k : Nat) : Option (AB1 U) :=
  match H[id]? with
  | some (.one b) => if k = 0 then some b else none
  | some (.fam n f) => if k < n then some (f k) else none
  | _ => none

def AB1.own : AB1 U → Bool
  | .ro .. => false
  | .rc .. => false
  | .mrow o _ => o
  | _ => true

def RepE (π : Plc) (U : Uni) (c : U.C) (l : List (U.ty c)) (cs : List Value) : Prop := RepL π (l.flatMap (U.enc c)) cs

/-- A block lies at a place. -/
def BlkOk (π : Plc) (w : World) (p : Place) : AB1 U → Prop
  | .cells vs t => p.off = 0 ∧ ∃ cs : Array Value, w.heap[p.blk]? = some (.cells cs t (0, 0)) ∧ RepL π vs cs.toList
  | .rc vs t => p.off = 0 ∧ ∃ cs : Array Value, w.heap[p.blk]? = some (.cells cs t (0, 0)) ∧ RepL π vs cs.toList
  | .row c l t => p.off = 0 ∧ p.esz = U.sz c ∧ p.sn = l.length ∧ (∀ a, p.sa = some a → a = ⟨p.blk, 0, none⟩) ∧
      ∃ cs, RepE π U c l cs ∧ w.ownsRow 0 t (U.sz c) p.sv l.length cs
  | .ro c l => p.esz = U.sz c ∧ ∀ (i : Nat) (x : U.ty c), l[i]? = some x → ∀ (j : Nat) (a : AV), (U.enc c x)[j]? = some a → ∃ y, w.cell? ⟨p.blk, p.off + i * p.esz + j, none⟩ = some y ∧ Rep π a y
  | .map m l => ∃ (es : Array MapEntry) (clock : Nat), w.heap[p.blk]? = some (.map es clock) ∧ (l.map (U.mkey m)).Nodup ∧ es.toList.map (·.key) = l.map (fun x => keyV (U.mks m) (U.mkey m x)) ∧ RepL π (l.map (U.mval m)) (es.toList.map (·.val)) ∧ (∀ x ∈ l, (U.mkey m x).length = (U.mks m).2.length)
  | .mrow _ vs => ∃ (es : Array MapEntry) (clock : Nat) (ks : List Nat), w.heap[p.blk]? = some (.map es clock) ∧ ks.Nodup ∧ (∀ k ∈ ks, k < vs.length) ∧ es.toList.map (·.key) = ks.map (fun (k : Nat) => Value.int .i64 (k : Int)) ∧
      RepL π (ks.map fun (k : Nat) => vs.getD k .junk) (es.toList.map (·.val)) ∧ ∀ k : Nat, k < vs.length → k ∉ ks → Rep π (vs.getD k .junk) (.slice none 0 0)

/-- Does the block truly lie in memory (a row that is nil does not)? -/
def AB1.phys (p : Place) : AB1 U → Prop
  | .row .. => p.sa ≠ none
  | .ro c l => l ≠ [] ∧ U.sz c ≠ 0
  | _ => True

theorem BlkOk.mono {π π' : Plc} {w : World} {p : Place} {b : AB1 U} (h : Sub π π') (hb : BlkOk π w p b) : BlkOk π' w p b := by
  cases b with
  | cells vs t => obtain ⟨h0, cs, h1, h2⟩ := hb; exact ⟨h0, cs, h1, h2.mono h⟩
  | rc vs t => obtain ⟨h0, cs, h1, h2⟩ := hb; exact ⟨h0, cs, h1, h2.mono h⟩
  | row c l t => obtain ⟨h0, h1, h2, h3, cs, h4, h5⟩ := hb; exact ⟨h0, h1, h2, h3, cs, RepL.mono h _ _ h4, h5⟩
  | ro c l =>
    obtain ⟨h1, h2⟩ := hb
    exact ⟨h1, fun i x hi j a ha => let ⟨y, hy, hr⟩ := h2 i x hi j a ha; ⟨y, hy, hr.mono h⟩⟩
  | map m l => obtain ⟨es, ck, h1, h2, h3, h4, h5⟩ := hb; exact ⟨es, ck, h1, h2, h3, h4.mono h, h5⟩
  | mrow o vs => obtain ⟨es, ck, ks, h1, h2, h3, h4, h5, h6⟩ := hb; exact ⟨es, ck, ks, h1, h2, h3, h4, RepL.mono h _ _ h5, fun k hk hn => Rep.mono h _ _ (h6 k hk hn)⟩

/-- Whether a block lies at a place hangs on the memory's block alone. -/
theorem BlkOk.block {π : Plc} {w w' : World} {p : Place} {b : AB1 U} (hw : b.phys p → w'.heap[p.blk]? = w.heap[p.blk]?) (hb : BlkOk π w p b) : BlkOk π w' p b := by
  cases b with
  | cells vs t => obtain ⟨h0, cs, h1, h2⟩ := hb; exact ⟨h0, cs, (hw trivial).trans h1, h2⟩
  | rc vs t => obtain ⟨h0, cs, h1, h2⟩ := hb; exact ⟨h0, cs, (hw trivial).trans h1, h2⟩
  | row c l t =>
    obtain ⟨h0, h1, h2, h3, cs, h4, h5⟩ := hb
    refine ⟨h0, h1, h2, h3, cs, h4, h5.1, ?_⟩
    rcases h5.2 with ⟨e, hn⟩ | ⟨g, cap, cur, e, hb', hg, hn, hc, hs, ht⟩
    · exact .inl ⟨e, hn⟩
    · have hsa : p.sa = some ⟨g, 0, none⟩ := by simp only [Place.sv, Value.slice.injEq] at e; exact e.1
      have hbk := h3 _ hsa
      have hg' : g = p.blk := by simpa using congrArg Addr.block hbk
      refine .inr ⟨g, cap, cur, e, hb', ?_, hn, hc, hs, ht⟩
      rw [← hg, hg']
      exact hw (by show p.sa ≠ none; rw [hsa]; simp)
  | ro c l =>
    obtain ⟨h1, h2⟩ := hb
    refine ⟨h1, fun i x hi j a ha => ?_⟩
    obtain ⟨y, hy, hr⟩ := h2 i x hi j a ha
    refine ⟨y, ?_, hr⟩
    rw [← hy]
    refine World.cell?_of_block (w := w) (hw ⟨?_, ?_⟩)
    · intro hl; subst hl; simp at hi
    · intro hz; have := U.len c x; rw [hz] at this; rw [List.eq_nil_of_length_eq_zero this] at ha; simp at ha
  | map m l => obtain ⟨es, ck, h1, h2⟩ := hb; exact ⟨es, ck, (hw trivial).trans h1, h2⟩
  | mrow o vs => obtain ⟨es, ck, ks, h1, h2⟩ := hb; exact ⟨es, ck, ks, (hw trivial).trans h1, h2⟩

theorem BlkOk.lt {π : Plc} {w : World} {p : Place} {b : AB1 U} (hb : BlkOk π w p b) (hp : b.phys p) : p.blk < w.heap.size := by
  cases b with
  | cells vs t => obtain ⟨h0, cs, h1, h2⟩ := hb; exact (Array.getElem?_eq_some_iff.1 h1).1
  | rc vs t => obtain ⟨h0, cs, h1, h2⟩ := hb; exact (Array.getElem?_eq_some_iff.1 h1).1
  | row c l t =>
    obtain ⟨h0, h1, h2, h3, cs, h4, h5⟩ := hb
    rcases h5.2 with ⟨e, hn⟩ | ⟨g, cap, cur, e, hb', hg, hn, hc, hs, ht⟩
    · simp only [Place.sv, Value.slice.injEq] at e; exact absurd e.1 hp
    · have hsa : p.sa = some ⟨g, 0, none⟩ := by simp only [Place.sv, Value.slice.injEq] at e; exact e.1
      have hg' : g = p.blk := by simpa using congrArg Addr.block (h3 _ hsa)
      subst hg'; exact (Array.getElem?_eq_some_iff.1 hg).1
  | ro c l =>
    obtain ⟨h1, h2⟩ := hb
    obtain ⟨hl, hz⟩ := hp
    cases l with
    | nil => exact absurd rfl hl
    | cons x l =>
      have hlen := U.len c x
      cases he : U.enc c x with
      | nil => rw [he] at hlen; exact absurd hlen.symm hz
      | cons a as =>
        obtain ⟨y, hy, _⟩ := h2 0 x (by simp) 0 a (by simp [he])
        exact World.block_lt_of_cell? w _ hy
  | map m l => obtain ⟨es, ck, h1, h2⟩ := hb; exact (Array.getElem?_eq_some_iff.1 h1).1
  | mrow o vs => obtain ⟨es, ck, ks, h1, h2⟩ := hb; exact (Array.getElem?_eq_some_iff.1 h1).1

/-- Nothing has turned but blocks of a kind, and new ones. -/
structure Keeps (O : Nat → Prop) (w w' : World) : Prop where
  os : w'.os = w.os
  tape : w'.tape = w.tape
  output : w'.output = w.output
  size : w.heap.size ≤ w'.heap.size
  block : ∀ k, k < w.heap.size → ¬ O k → w'.heap[k]? = w.heap[k]?

theorem Keeps.refl (O : Nat → Prop) (w : World) : Keeps O w w := ⟨rfl, rfl, rfl, Nat.le_refl _, fun _ _ _ => rfl⟩
theorem Keeps.trans {O O' : Nat → Prop} {a b c : World} (h : Keeps O a b) (k : Keeps O' b c) (hO : ∀ n, n < a.heap.size → O' n → O n) : Keeps O a c :=
  ⟨k.os.trans h.os, k.tape.trans h.tape, k.output.trans h.output, Nat.le_trans h.size k.size,
    fun i hi ho => (k.block i (Nat.lt_of_lt_of_le hi h.size) (fun e => ho (hO i hi e))).trans (h.block i hi ho)⟩
theorem Keeps.weaken {O O' : Nat → Prop} {a b : World} (h : Keeps O a b) (hO : ∀ n, n < a.heap.size → O n → O' n) : Keeps O' a b :=
  ⟨h.os, h.tape, h.output, h.size, fun i hi ho => h.block i hi (fun e => ho (hO i hi e))⟩
theorem Keeps.drew (O : Nat → Prop) (w : World) : Keeps O w w.drew := ⟨rfl, rfl, rfl, Nat.le_refl _, fun _ _ _ => rfl⟩
theorem Keeps.alloc (O : Nat → Prop) (w : World) (o : Obj) : Keeps O w (w.alloc o) :=
  ⟨rfl, rfl, rfl, by simp, fun k hk _ => by show (w.heap.push o)[k]? = _; rw [Array.getElem?_push, if_neg (by omega)]⟩

/-- A world holds an abstract memory at a placement. -/
structure Conc (π : Plc) (H : Heap U) (w : World) : Prop where
  ok : ∀ id k b, H.at id k = some b → ∃ p, π id k = some p ∧ BlkOk π w p b
  sep : ∀ id k b id' k' b' p p', H.at id k = some b → H.at id' k' = some b' → (id ≠ id' ∨ k ≠ k') → b.own = true → π id k = some p → π id' k' = some p' → b.phys p → b'.phys p' → p.blk ≠ p'.blk

/-- The blocks that are owned. -/
def Owned (π : Plc) (H : Heap U) (n : Nat) : Prop := ∃ id k b p, H.at id k = some b ∧ b.own = true ∧ π id k = some p ∧ b.phys p ∧ p.blk = n

/-- Fewer blocks. -/
def Heap.le (H' H : Heap U) : Prop := ∀ id k b, H'.at id k = some b → H.at id k = some b

theorem Conc.le {π : Plc} {H H' : Heap U} {w : World} (h : Conc π H w) (hl : H'.le H) : Conc π H' w :=
  ⟨fun id k b e => h.ok id k b (hl _ _ _ e), fun id k b id' k' b' p p' e e' => h.sep id k b id' k' b' p p' (hl _ _ _ e) (hl _ _ _ e')⟩

theorem Conc.keep {π π' : Plc} {H : Heap U} {w w' : World} (h : Conc π H w) (hs : Sub π π') (hw : ∀ id k b p, H.at id k = some b → π id k = some p → b.phys p → w'.heap[p.blk]? = w.heap[p.blk]?) : Conc π' H w' := by
  refine ⟨fun id k b e => ?_, fun id k b id' k' b' p p' e e' hne ho hp hp' h1 h2 => ?_⟩
  · obtain ⟨p, hp, hb⟩ := h.ok id k b e
    exact ⟨p, hs _ _ _ hp, (hb.block (hw id k b p e hp)).mono hs⟩
  · obtain ⟨q, hq, _⟩ := h.ok id k b e
    obtain ⟨q', hq', _⟩ := h.ok id' k' b' e'
    have : p = q := by have := hs _ _ _ hq; rw [hp] at this; simpa using this
    have : p' = q' := by have := hs _ _ _ hq'; rw [hp'] at this; simpa using this
    subst p p'
    exact h.sep id k b id' k' b' q q' e e' hne ho hq hq' h1 h2
end AE
